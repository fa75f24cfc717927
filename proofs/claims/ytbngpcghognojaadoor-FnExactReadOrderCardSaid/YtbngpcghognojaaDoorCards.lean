/-
  DERIVED. GIVEN WITH THE SEED: THE CARDS: each row of YtbngpcghognojaaDoorRows.lean that lists a variable, with what it lists TIED to the program's text (the seventh form; the later family's looks); each row that meets fmt, with fmt's text TOLD by the authors' own Lean function (tested against real Go, not proved from fmt's source: count such statements apart). THE CARD IS WHAT COUNTS. Prove the row's statement (the work); the ties are given (YtbngpcghognojaaDoorTie.lean); close each card by the builder's one call (the guide's Derived/Test/ToyasCard.lean, 'card_holds'). Laid BY PROGRAM, IN A SANDBOX (cutbox-door.mjs). By AI agents, Wed Nov 11 2026. No macro, syntax, notation, axiom, sorry.
-/
import Derived.Test.YtbngpcghognojaaDoorRows
import GoSem.ClaimSeven
namespace Go.Proofs.YtbngpcghognojaaDoor
namespace Rows

/-- THE TIED CARD OF 'laws.FnExactBottleText'. -/
def fnExactBottleTextCard : Claim7 := { stood := { row := fnExactBottleTextRow, standIns := [], harness := (true, "323d607f2e5b96341cde23fc0c7c5f9b8628fcf800628825da10f2e568ef9944"), looks := true }, kinds := [], alts := [], laidByText := true, laidKinds := [.data, .data, .data], laidTests := true, laidLooks := .later }
def FnExactBottleTextCardSaid : Prop := Claim7.holds Tryd.pinned (.plain (OpenSpec.ofChange fnExactBottleTextSpec)) fnExactBottleTextCard

/-- THE TIED CARD OF 'laws.FnExactCrateText'. -/
def fnExactCrateTextCard : Claim7 := { stood := { row := fnExactCrateTextRow, standIns := [], harness := (true, "323d607f2e5b96341cde23fc0c7c5f9b8628fcf800628825da10f2e568ef9944"), looks := true }, kinds := [], alts := [], laidByText := true, laidKinds := [.data, .data, .data], laidTests := true, laidLooks := .later }
def FnExactCrateTextCardSaid : Prop := Claim7.holds Tryd.pinned (.plain (OpenSpec.ofChange fnExactCrateTextSpec)) fnExactCrateTextCard

/-- THE TIED CARD OF 'laws.FnExactOrderText'. -/
def fnExactOrderTextCard : Claim7 := { stood := { row := fnExactOrderTextRow, standIns := [], harness := (true, "323d607f2e5b96341cde23fc0c7c5f9b8628fcf800628825da10f2e568ef9944"), looks := true }, kinds := [], alts := [], laidByText := true, laidKinds := [.data, .data, .data], laidTests := true, laidLooks := .later }
def FnExactOrderTextCardSaid : Prop := Claim7.holds Tryd.pinned (.plain (OpenSpec.ofChange fnExactOrderTextSpec)) fnExactOrderTextCard

/-- THE TIED CARD OF 'laws.FnExactReadBottle'. -/
def fnExactReadBottleCard : Claim7 := { stood := { row := fnExactReadBottleRow, standIns := [], harness := (true, "323d607f2e5b96341cde23fc0c7c5f9b8628fcf800628825da10f2e568ef9944"), looks := true }, kinds := [], alts := [], laidByText := true, laidKinds := [.data, .data, .data, .sentinel, .sentinel], laidTests := true, laidLooks := .later }
def FnExactReadBottleCardSaid : Prop := Claim7.holds Tryd.pinned (.plain (OpenSpec.ofChange fnExactReadBottleSpec)) fnExactReadBottleCard

/-- THE TIED CARD OF 'laws.FnExactReadCrate'. -/
def fnExactReadCrateCard : Claim7 := { stood := { row := fnExactReadCrateRow, standIns := [], harness := (true, "323d607f2e5b96341cde23fc0c7c5f9b8628fcf800628825da10f2e568ef9944"), looks := true }, kinds := [], alts := [], laidByText := true, laidKinds := [.data, .data, .data, .sentinel, .sentinel], laidTests := true, laidLooks := .later }
def FnExactReadCrateCardSaid : Prop := Claim7.holds Tryd.pinned (.plain (OpenSpec.ofChange fnExactReadCrateSpec)) fnExactReadCrateCard

/-- THE TIED CARD OF 'laws.FnExactReadOrder'. -/
def fnExactReadOrderCard : Claim7 := { stood := { row := fnExactReadOrderRow, standIns := [], harness := (true, "323d607f2e5b96341cde23fc0c7c5f9b8628fcf800628825da10f2e568ef9944"), looks := true }, kinds := [], alts := [], laidByText := true, laidKinds := [.data, .data, .data, .data, .sentinel, .sentinel, .pinned], laidTests := true, laidLooks := .later }
def FnExactReadOrderCardSaid : Prop := Claim7.holds Tryd.pinned (.plain (OpenSpec.ofChange fnExactReadOrderSpec)) fnExactReadOrderCard

/-- THE SECOND FORM's CARD OF 'laws.FnExactBottleText'. -/
def fnExactBottleTextUptoCard : Claim7 := { stood := { row := fnExactBottleTextUptoRow, standIns := [], harness := (true, "323d607f2e5b96341cde23fc0c7c5f9b8628fcf800628825da10f2e568ef9944"), looks := true }, kinds := [], alts := [], laidByText := true, laidKinds := [.data, .data, .data], laidTests := true, laidLooks := .later }
def FnExactBottleTextUptoCardSaid : Prop := Claim7.holds Tryd.pinned (.plain (OpenSpec.upto fnExactBottleTextSpec)) fnExactBottleTextUptoCard

/-- THE SECOND FORM's CARD OF 'laws.FnExactCrateText'. -/
def fnExactCrateTextUptoCard : Claim7 := { stood := { row := fnExactCrateTextUptoRow, standIns := [], harness := (true, "323d607f2e5b96341cde23fc0c7c5f9b8628fcf800628825da10f2e568ef9944"), looks := true }, kinds := [], alts := [], laidByText := true, laidKinds := [.data, .data, .data], laidTests := true, laidLooks := .later }
def FnExactCrateTextUptoCardSaid : Prop := Claim7.holds Tryd.pinned (.plain (OpenSpec.upto fnExactCrateTextSpec)) fnExactCrateTextUptoCard

/-- THE SECOND FORM's CARD OF 'laws.FnExactOrderText'. -/
def fnExactOrderTextUptoCard : Claim7 := { stood := { row := fnExactOrderTextUptoRow, standIns := [], harness := (true, "323d607f2e5b96341cde23fc0c7c5f9b8628fcf800628825da10f2e568ef9944"), looks := true }, kinds := [], alts := [], laidByText := true, laidKinds := [.data, .data, .data], laidTests := true, laidLooks := .later }
def FnExactOrderTextUptoCardSaid : Prop := Claim7.holds Tryd.pinned (.plain (OpenSpec.upto fnExactOrderTextSpec)) fnExactOrderTextUptoCard

/-- THE SECOND FORM's CARD OF 'laws.FnExactReadBottle'. -/
def fnExactReadBottleUptoCard : Claim7 := { stood := { row := fnExactReadBottleUptoRow, standIns := [], harness := (true, "323d607f2e5b96341cde23fc0c7c5f9b8628fcf800628825da10f2e568ef9944"), looks := true }, kinds := [], alts := [], laidByText := true, laidKinds := [.data, .data, .data, .sentinel, .sentinel], laidTests := true, laidLooks := .later }
def FnExactReadBottleUptoCardSaid : Prop := Claim7.holds Tryd.pinned (.plain (OpenSpec.upto fnExactReadBottleSpec)) fnExactReadBottleUptoCard

/-- THE SECOND FORM's CARD OF 'laws.FnExactReadCrate'. -/
def fnExactReadCrateUptoCard : Claim7 := { stood := { row := fnExactReadCrateUptoRow, standIns := [], harness := (true, "323d607f2e5b96341cde23fc0c7c5f9b8628fcf800628825da10f2e568ef9944"), looks := true }, kinds := [], alts := [], laidByText := true, laidKinds := [.data, .data, .data, .sentinel, .sentinel], laidTests := true, laidLooks := .later }
def FnExactReadCrateUptoCardSaid : Prop := Claim7.holds Tryd.pinned (.plain (OpenSpec.upto fnExactReadCrateSpec)) fnExactReadCrateUptoCard

/-- THE SECOND FORM's CARD OF 'laws.FnExactReadOrder'. -/
def fnExactReadOrderUptoCard : Claim7 := { stood := { row := fnExactReadOrderUptoRow, standIns := [], harness := (true, "323d607f2e5b96341cde23fc0c7c5f9b8628fcf800628825da10f2e568ef9944"), looks := true }, kinds := [], alts := [], laidByText := true, laidKinds := [.data, .data, .data, .data, .sentinel, .sentinel, .pinned], laidTests := true, laidLooks := .later }
def FnExactReadOrderUptoCardSaid : Prop := Claim7.holds Tryd.pinned (.plain (OpenSpec.upto fnExactReadOrderSpec)) fnExactReadOrderUptoCard
end Rows
end Go.Proofs.YtbngpcghognojaaDoor
