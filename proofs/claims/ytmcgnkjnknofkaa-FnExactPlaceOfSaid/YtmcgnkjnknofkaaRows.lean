/-
  No cell of these rows narrows 'for every input' (looked for: loops, veiled, ifaces, maps, wideKeys, modest, calm, conditions, laid).
  DERIVED. THE GIVEN ROWS OF THIS SEAT. 12 by the template 'for every input the law returns true; each argument reads behind the call as it read before'; 0 by the template 'total and deterministic' (their statements: YtmcgnkjnknofkaaTotals.lean).
  GIVEN WITH THE SEED: the statements are not yours to turn. If you find one false, say at which input.
  Laid BY PROGRAM, IN A SANDBOX (cutbox-rows.mjs): the forced cells as the released guide's own fill.sh prints them over the translation 21023abcd5bf11ee… (all of the seat's roots in one cut). By AI agents, Wed Nov 11 2026. No macro, syntax, notation, axiom, sorry.
-/
import Derived.Test.YtmcgnkjnknofkaaChecked
import GoSem.Claim
import GoSem.ClaimJoined
import GoSem.ClaimMapViews
import Derived.JoinedTies
import Derived.KernelRfl
namespace Go.Proofs.Ytmcgnkjnknofkaa
/- THE CELL 'sum', in the pinned program and in every row, IS THE sha256 OF THE DUMP (.gsa) THAT YtmcgnkjnknofkaaProg.lean LOADS. Nothing in Lean hashes anything: it is a label: what it is worth is what the hold of that sum in a sandbox is worth. -/
noncomputable def Try.pinned : Pinned := { name := "ytmcgnkjnknofkaa", sum := "21023abcd5bf11eed9d65c1618730287fbe2c5e387aab6ef90c97d5d1e95f2c1", checked := Try.checked }
namespace Rows
def none {H : Type} : Left H := { results := [], args := [] }

/-- 'laws.FnExactConstants': WHATEVER THE INPUT: true; the input reads as it did. -/
def fnExactConstantsSpec : ChangeSpec := { name := "fnExactConstants", fn := fun _ => fun
  | [] => { results := [.lit (.bool true)], args := [] }
  | _ => none }
def fnExactConstantsRow : OpenClaim := { program := "ytmcgnkjnknofkaa", sum := "21023abcd5bf11eed9d65c1618730287fbe2c5e387aab6ef90c97d5d1e95f2c1", func := "loop.example/g01353/laws.FnExactConstants", spec := "fnExactConstants", apart := false }
def FnExactConstantsSaid : Prop := fnExactConstantsRow.holds Try.pinned (OpenSpec.ofChange fnExactConstantsSpec)

/-- ITS FALSE NEIGHBOUR: 'it returns false'. Refute it at one input. -/
def fnExactConstantsWrong : ChangeSpec := { name := "fnExactConstants", fn := fun _ => fun
  | [] => { results := [.lit (.bool false)], args := [] }
  | _ => none }
def FnExactConstantsWrongFalsely : Prop := fnExactConstantsRow.holds Try.pinned (OpenSpec.ofChange fnExactConstantsWrong)

/-- 'laws.FnExactCodeName': WHATEVER THE INPUT: true; the input reads as it did. -/
def fnExactCodeNameSpec : ChangeSpec := { name := "fnExactCodeName", fn := fun _ => fun
  | [d] => { results := [.lit (.bool true)], args := [d] }
  | _ => none }
def fnExactCodeNameRow : OpenClaim := { program := "ytmcgnkjnknofkaa", sum := "21023abcd5bf11eed9d65c1618730287fbe2c5e387aab6ef90c97d5d1e95f2c1", func := "loop.example/g01353/laws.FnExactCodeName", spec := "fnExactCodeName", apart := false }
def FnExactCodeNameSaid : Prop := fnExactCodeNameRow.holds Try.pinned (OpenSpec.ofChange fnExactCodeNameSpec)

/-- ITS FALSE NEIGHBOUR: 'it returns false'. Refute it at one input. -/
def fnExactCodeNameWrong : ChangeSpec := { name := "fnExactCodeName", fn := fun _ => fun
  | [d] => { results := [.lit (.bool false)], args := [d] }
  | _ => none }
def FnExactCodeNameWrongFalsely : Prop := fnExactCodeNameRow.holds Try.pinned (OpenSpec.ofChange fnExactCodeNameWrong)

/-- 'laws.FnExactFewestCrates': WHATEVER THE INPUT: true; the input reads as it did. -/
def fnExactFewestCratesSpec : ChangeSpec := { name := "fnExactFewestCrates", fn := fun _ => fun
  | [d] => { results := [.lit (.bool true)], args := [d] }
  | _ => none }
def fnExactFewestCratesRow : OpenClaim := { program := "ytmcgnkjnknofkaa", sum := "21023abcd5bf11eed9d65c1618730287fbe2c5e387aab6ef90c97d5d1e95f2c1", func := "loop.example/g01353/laws.FnExactFewestCrates", spec := "fnExactFewestCrates", apart := false }
def FnExactFewestCratesSaid : Prop := fnExactFewestCratesRow.holds Try.pinned (OpenSpec.ofChange fnExactFewestCratesSpec)

/-- ITS FALSE NEIGHBOUR: 'it returns false'. Refute it at one input. -/
def fnExactFewestCratesWrong : ChangeSpec := { name := "fnExactFewestCrates", fn := fun _ => fun
  | [d] => { results := [.lit (.bool false)], args := [d] }
  | _ => none }
def FnExactFewestCratesWrongFalsely : Prop := fnExactFewestCratesRow.holds Try.pinned (OpenSpec.ofChange fnExactFewestCratesWrong)

/-- 'laws.FnExactGrossOf': WHATEVER THE INPUT: true; the input reads as it did. -/
def fnExactGrossOfSpec : ChangeSpec := { name := "fnExactGrossOf", fn := fun _ => fun
  | [d] => { results := [.lit (.bool true)], args := [d] }
  | _ => none }
def fnExactGrossOfRow : OpenClaim := { program := "ytmcgnkjnknofkaa", sum := "21023abcd5bf11eed9d65c1618730287fbe2c5e387aab6ef90c97d5d1e95f2c1", func := "loop.example/g01353/laws.FnExactGrossOf", spec := "fnExactGrossOf", apart := false }
def FnExactGrossOfSaid : Prop := fnExactGrossOfRow.holds Try.pinned (OpenSpec.ofChange fnExactGrossOfSpec)

/-- ITS FALSE NEIGHBOUR: 'it returns false'. Refute it at one input. -/
def fnExactGrossOfWrong : ChangeSpec := { name := "fnExactGrossOf", fn := fun _ => fun
  | [d] => { results := [.lit (.bool false)], args := [d] }
  | _ => none }
def FnExactGrossOfWrongFalsely : Prop := fnExactGrossOfRow.holds Try.pinned (OpenSpec.ofChange fnExactGrossOfWrong)

/-- 'laws.FnExactValidBottle': WHATEVER THE INPUT: true; the input reads as it did. -/
def fnExactValidBottleSpec : ChangeSpec := { name := "fnExactValidBottle", fn := fun _ => fun
  | [d] => { results := [.lit (.bool true)], args := [d] }
  | _ => none }
def fnExactValidBottleRow : OpenClaim := { program := "ytmcgnkjnknofkaa", sum := "21023abcd5bf11eed9d65c1618730287fbe2c5e387aab6ef90c97d5d1e95f2c1", func := "loop.example/g01353/laws.FnExactValidBottle", spec := "fnExactValidBottle", apart := false }
def FnExactValidBottleSaid : Prop := fnExactValidBottleRow.holds Try.pinned (OpenSpec.ofChange fnExactValidBottleSpec)

/-- ITS FALSE NEIGHBOUR: 'it returns false'. Refute it at one input. -/
def fnExactValidBottleWrong : ChangeSpec := { name := "fnExactValidBottle", fn := fun _ => fun
  | [d] => { results := [.lit (.bool false)], args := [d] }
  | _ => none }
def FnExactValidBottleWrongFalsely : Prop := fnExactValidBottleRow.holds Try.pinned (OpenSpec.ofChange fnExactValidBottleWrong)

/-- 'laws.FnExactValidCrate': WHATEVER THE INPUT: true; the input reads as it did. -/
def fnExactValidCrateSpec : ChangeSpec := { name := "fnExactValidCrate", fn := fun _ => fun
  | [d] => { results := [.lit (.bool true)], args := [d] }
  | _ => none }
def fnExactValidCrateRow : OpenClaim := { program := "ytmcgnkjnknofkaa", sum := "21023abcd5bf11eed9d65c1618730287fbe2c5e387aab6ef90c97d5d1e95f2c1", func := "loop.example/g01353/laws.FnExactValidCrate", spec := "fnExactValidCrate", unfollowed := true, recurses := true, apart := false }
def FnExactValidCrateSaid : Prop := fnExactValidCrateRow.holds Try.pinned (OpenSpec.ofChange fnExactValidCrateSpec)

/-- ITS FALSE NEIGHBOUR: 'it returns false'. Refute it at one input. -/
def fnExactValidCrateWrong : ChangeSpec := { name := "fnExactValidCrate", fn := fun _ => fun
  | [d] => { results := [.lit (.bool false)], args := [d] }
  | _ => none }
def FnExactValidCrateWrongFalsely : Prop := fnExactValidCrateRow.holds Try.pinned (OpenSpec.ofChange fnExactValidCrateWrong)

/-- 'laws.FnExactCompareBottles': WHATEVER THE INPUT: true; the input reads as it did. -/
def fnExactCompareBottlesSpec : ChangeSpec := { name := "fnExactCompareBottles", fn := fun _ => fun
  | [d1, d2] => { results := [.lit (.bool true)], args := [d1, d2] }
  | _ => none }
def fnExactCompareBottlesRow : OpenClaim := { program := "ytmcgnkjnknofkaa", sum := "21023abcd5bf11eed9d65c1618730287fbe2c5e387aab6ef90c97d5d1e95f2c1", func := "loop.example/g01353/laws.FnExactCompareBottles", spec := "fnExactCompareBottles", apart := false }
def FnExactCompareBottlesSaid : Prop := fnExactCompareBottlesRow.holds Try.pinned (OpenSpec.ofChange fnExactCompareBottlesSpec)

/-- ITS FALSE NEIGHBOUR: 'it returns false'. Refute it at one input. -/
def fnExactCompareBottlesWrong : ChangeSpec := { name := "fnExactCompareBottles", fn := fun _ => fun
  | [d1, d2] => { results := [.lit (.bool false)], args := [d1, d2] }
  | _ => none }
def FnExactCompareBottlesWrongFalsely : Prop := fnExactCompareBottlesRow.holds Try.pinned (OpenSpec.ofChange fnExactCompareBottlesWrong)

/-- 'laws.FnExactSameOrder': WHATEVER THE INPUT: true; the input reads as it did. -/
def fnExactSameOrderSpec : ChangeSpec := { name := "fnExactSameOrder", fn := fun _ => fun
  | [d1, d2] => { results := [.lit (.bool true)], args := [d1, d2] }
  | _ => none }
def fnExactSameOrderRow : OpenClaim := { program := "ytmcgnkjnknofkaa", sum := "21023abcd5bf11eed9d65c1618730287fbe2c5e387aab6ef90c97d5d1e95f2c1", func := "loop.example/g01353/laws.FnExactSameOrder", spec := "fnExactSameOrder", apart := false }
def FnExactSameOrderSaid : Prop := fnExactSameOrderRow.holds Try.pinned (OpenSpec.ofChange fnExactSameOrderSpec)

/-- ITS FALSE NEIGHBOUR: 'it returns false'. Refute it at one input. -/
def fnExactSameOrderWrong : ChangeSpec := { name := "fnExactSameOrder", fn := fun _ => fun
  | [d1, d2] => { results := [.lit (.bool false)], args := [d1, d2] }
  | _ => none }
def FnExactSameOrderWrongFalsely : Prop := fnExactSameOrderRow.holds Try.pinned (OpenSpec.ofChange fnExactSameOrderWrong)

/-- 'laws.FnExactPlaceOf': WHATEVER THE INPUT: true; the input reads as it did. -/
def fnExactPlaceOfSpec : ChangeSpec := { name := "fnExactPlaceOf", fn := fun _ => fun
  | [d1, d2] => { results := [.lit (.bool true)], args := [d1, d2] }
  | _ => none }
def fnExactPlaceOfRow : OpenClaim := { program := "ytmcgnkjnknofkaa", sum := "21023abcd5bf11eed9d65c1618730287fbe2c5e387aab6ef90c97d5d1e95f2c1", func := "loop.example/g01353/laws.FnExactPlaceOf", spec := "fnExactPlaceOf", unfollowed := true, recurses := true, apart := false }
def FnExactPlaceOfSaid : Prop := fnExactPlaceOfRow.holds Try.pinned (OpenSpec.ofChange fnExactPlaceOfSpec)

/-- ITS FALSE NEIGHBOUR: 'it returns false'. Refute it at one input. -/
def fnExactPlaceOfWrong : ChangeSpec := { name := "fnExactPlaceOf", fn := fun _ => fun
  | [d1, d2] => { results := [.lit (.bool false)], args := [d1, d2] }
  | _ => none }
def FnExactPlaceOfWrongFalsely : Prop := fnExactPlaceOfRow.holds Try.pinned (OpenSpec.ofChange fnExactPlaceOfWrong)

/-- 'laws.FnExactTurnCrate': WHATEVER THE INPUT: true; the input reads as it did. -/
def fnExactTurnCrateSpec : ChangeSpec := { name := "fnExactTurnCrate", fn := fun _ => fun
  | [d] => { results := [.lit (.bool true)], args := [d] }
  | _ => none }
def fnExactTurnCrateRow : OpenClaim := { program := "ytmcgnkjnknofkaa", sum := "21023abcd5bf11eed9d65c1618730287fbe2c5e387aab6ef90c97d5d1e95f2c1", func := "loop.example/g01353/laws.FnExactTurnCrate", spec := "fnExactTurnCrate", unfollowed := true, recurses := true, apart := false }
def FnExactTurnCrateSaid : Prop := fnExactTurnCrateRow.holds Try.pinned (OpenSpec.ofChange fnExactTurnCrateSpec)

/-- ITS FALSE NEIGHBOUR: 'it returns false'. Refute it at one input. -/
def fnExactTurnCrateWrong : ChangeSpec := { name := "fnExactTurnCrate", fn := fun _ => fun
  | [d] => { results := [.lit (.bool false)], args := [d] }
  | _ => none }
def FnExactTurnCrateWrongFalsely : Prop := fnExactTurnCrateRow.holds Try.pinned (OpenSpec.ofChange fnExactTurnCrateWrong)

/-- 'laws.FnExactTipOf': WHATEVER THE INPUT: true; the input reads as it did. -/
def fnExactTipOfSpec : ChangeSpec := { name := "fnExactTipOf", fn := fun _ => fun
  | [d] => { results := [.lit (.bool true)], args := [d] }
  | _ => none }
def fnExactTipOfRow : OpenClaim := { program := "ytmcgnkjnknofkaa", sum := "21023abcd5bf11eed9d65c1618730287fbe2c5e387aab6ef90c97d5d1e95f2c1", func := "loop.example/g01353/laws.FnExactTipOf", spec := "fnExactTipOf", unfollowed := true, recurses := true, apart := false }
def FnExactTipOfSaid : Prop := fnExactTipOfRow.holds Try.pinned (OpenSpec.ofChange fnExactTipOfSpec)

/-- ITS FALSE NEIGHBOUR: 'it returns false'. Refute it at one input. -/
def fnExactTipOfWrong : ChangeSpec := { name := "fnExactTipOf", fn := fun _ => fun
  | [d] => { results := [.lit (.bool false)], args := [d] }
  | _ => none }
def FnExactTipOfWrongFalsely : Prop := fnExactTipOfRow.holds Try.pinned (OpenSpec.ofChange fnExactTipOfWrong)

/-- 'laws.FnExactPutBottle': WHATEVER THE INPUT: true; the input reads as it did. -/
def fnExactPutBottleSpec : ChangeSpec := { name := "fnExactPutBottle", fn := fun _ => fun
  | [d1, d2, d3] => { results := [.lit (.bool true)], args := [d1, d2, d3] }
  | _ => none }
def fnExactPutBottleRow : OpenClaim := { program := "ytmcgnkjnknofkaa", sum := "21023abcd5bf11eed9d65c1618730287fbe2c5e387aab6ef90c97d5d1e95f2c1", func := "loop.example/g01353/laws.FnExactPutBottle", spec := "fnExactPutBottle", unfollowed := true, recurses := true, apart := false }
def FnExactPutBottleSaid : Prop := fnExactPutBottleRow.holds Try.pinned (OpenSpec.ofChange fnExactPutBottleSpec)

/-- ITS FALSE NEIGHBOUR: 'it returns false'. Refute it at one input. -/
def fnExactPutBottleWrong : ChangeSpec := { name := "fnExactPutBottle", fn := fun _ => fun
  | [d1, d2, d3] => { results := [.lit (.bool false)], args := [d1, d2, d3] }
  | _ => none }
def FnExactPutBottleWrongFalsely : Prop := fnExactPutBottleRow.holds Try.pinned (OpenSpec.ofChange fnExactPutBottleWrong)

/- THE SECOND FORM. 'bulk': how many values and letters a reading holds, each counted each time it is reached (what is shared counts as often as it is met; a slice's spare places count too). A statement '..UptoSaid' is the law's where the arguments, and the package variables that the reading takes, are together of bulk at most 1048576: NARROWER than '..Said'. Prove '..Said' where nothing that the law and all that it calls make is longer than what came in: it says more and counts as full. Else prove '..UptoSaid'. A law counts once. -/
mutual
def uptoBulk {H : Type} : DataW H → Nat
  | .lit (.string bytes) => bytes.length + 1
  | .lit _ => 1
  | .nil => 1
  | .ptr d => uptoBulk d + 1
  | .slice elems spare => uptoBulkAll elems + uptoBulkAll spare + 1
  | .agg parts => uptoBulkAll parts + 1
  | .iface _ d => uptoBulk d + 1
  | .map entries => uptoBulkEntries entries + 1
  | .held _ => 1
def uptoBulkAll {H : Type} : List (DataW H) → Nat
  | [] => 0
  | d :: r => uptoBulk d + uptoBulkAll r
def uptoBulkEntries {H : Type} : List (Lit × DataW H) → Nat
  | [] => 0
  | x :: r => uptoBulkEntry x + uptoBulkEntries r
def uptoBulkEntry {H : Type} : Lit × DataW H → Nat
  | (.string bytes, d) => bytes.length + uptoBulk d + 1
  | (_, d) => uptoBulk d + 1
 end
def uptoSmall : (H : Type) → List (DataW H) → Bool := fun _ ds => decide (uptoBulkAll ds ≤ 1048576)
def OpenSpec.upto (s : _root_.Go.ChangeSpec) : _root_.Go.OpenSpec := { _root_.Go.OpenSpec.ofChange s with cond := some uptoSmall }

/-- 'laws.FnExactConstants', WHERE WHAT IT READS IS OF BULK AT MOST 1048576: true; the input reads as it did. -/
def fnExactConstantsUptoRow : OpenClaim := { program := "ytmcgnkjnknofkaa", sum := "21023abcd5bf11eed9d65c1618730287fbe2c5e387aab6ef90c97d5d1e95f2c1", func := "loop.example/g01353/laws.FnExactConstants", spec := "fnExactConstants", apart := false, narrowed := true }
def FnExactConstantsUptoSaid : Prop := fnExactConstantsUptoRow.holds Try.pinned (OpenSpec.upto fnExactConstantsSpec)

/-- 'laws.FnExactCodeName', WHERE WHAT IT READS IS OF BULK AT MOST 1048576: true; the input reads as it did. -/
def fnExactCodeNameUptoRow : OpenClaim := { program := "ytmcgnkjnknofkaa", sum := "21023abcd5bf11eed9d65c1618730287fbe2c5e387aab6ef90c97d5d1e95f2c1", func := "loop.example/g01353/laws.FnExactCodeName", spec := "fnExactCodeName", apart := false, narrowed := true }
def FnExactCodeNameUptoSaid : Prop := fnExactCodeNameUptoRow.holds Try.pinned (OpenSpec.upto fnExactCodeNameSpec)

/-- 'laws.FnExactFewestCrates', WHERE WHAT IT READS IS OF BULK AT MOST 1048576: true; the input reads as it did. -/
def fnExactFewestCratesUptoRow : OpenClaim := { program := "ytmcgnkjnknofkaa", sum := "21023abcd5bf11eed9d65c1618730287fbe2c5e387aab6ef90c97d5d1e95f2c1", func := "loop.example/g01353/laws.FnExactFewestCrates", spec := "fnExactFewestCrates", apart := false, narrowed := true }
def FnExactFewestCratesUptoSaid : Prop := fnExactFewestCratesUptoRow.holds Try.pinned (OpenSpec.upto fnExactFewestCratesSpec)

/-- 'laws.FnExactGrossOf', WHERE WHAT IT READS IS OF BULK AT MOST 1048576: true; the input reads as it did. -/
def fnExactGrossOfUptoRow : OpenClaim := { program := "ytmcgnkjnknofkaa", sum := "21023abcd5bf11eed9d65c1618730287fbe2c5e387aab6ef90c97d5d1e95f2c1", func := "loop.example/g01353/laws.FnExactGrossOf", spec := "fnExactGrossOf", apart := false, narrowed := true }
def FnExactGrossOfUptoSaid : Prop := fnExactGrossOfUptoRow.holds Try.pinned (OpenSpec.upto fnExactGrossOfSpec)

/-- 'laws.FnExactValidBottle', WHERE WHAT IT READS IS OF BULK AT MOST 1048576: true; the input reads as it did. -/
def fnExactValidBottleUptoRow : OpenClaim := { program := "ytmcgnkjnknofkaa", sum := "21023abcd5bf11eed9d65c1618730287fbe2c5e387aab6ef90c97d5d1e95f2c1", func := "loop.example/g01353/laws.FnExactValidBottle", spec := "fnExactValidBottle", apart := false, narrowed := true }
def FnExactValidBottleUptoSaid : Prop := fnExactValidBottleUptoRow.holds Try.pinned (OpenSpec.upto fnExactValidBottleSpec)

/-- 'laws.FnExactValidCrate', WHERE WHAT IT READS IS OF BULK AT MOST 1048576: true; the input reads as it did. -/
def fnExactValidCrateUptoRow : OpenClaim := { program := "ytmcgnkjnknofkaa", sum := "21023abcd5bf11eed9d65c1618730287fbe2c5e387aab6ef90c97d5d1e95f2c1", func := "loop.example/g01353/laws.FnExactValidCrate", spec := "fnExactValidCrate", unfollowed := true, recurses := true, apart := false, narrowed := true }
def FnExactValidCrateUptoSaid : Prop := fnExactValidCrateUptoRow.holds Try.pinned (OpenSpec.upto fnExactValidCrateSpec)

/-- 'laws.FnExactCompareBottles', WHERE WHAT IT READS IS OF BULK AT MOST 1048576: true; the input reads as it did. -/
def fnExactCompareBottlesUptoRow : OpenClaim := { program := "ytmcgnkjnknofkaa", sum := "21023abcd5bf11eed9d65c1618730287fbe2c5e387aab6ef90c97d5d1e95f2c1", func := "loop.example/g01353/laws.FnExactCompareBottles", spec := "fnExactCompareBottles", apart := false, narrowed := true }
def FnExactCompareBottlesUptoSaid : Prop := fnExactCompareBottlesUptoRow.holds Try.pinned (OpenSpec.upto fnExactCompareBottlesSpec)

/-- 'laws.FnExactSameOrder', WHERE WHAT IT READS IS OF BULK AT MOST 1048576: true; the input reads as it did. -/
def fnExactSameOrderUptoRow : OpenClaim := { program := "ytmcgnkjnknofkaa", sum := "21023abcd5bf11eed9d65c1618730287fbe2c5e387aab6ef90c97d5d1e95f2c1", func := "loop.example/g01353/laws.FnExactSameOrder", spec := "fnExactSameOrder", apart := false, narrowed := true }
def FnExactSameOrderUptoSaid : Prop := fnExactSameOrderUptoRow.holds Try.pinned (OpenSpec.upto fnExactSameOrderSpec)

/-- 'laws.FnExactPlaceOf', WHERE WHAT IT READS IS OF BULK AT MOST 1048576: true; the input reads as it did. -/
def fnExactPlaceOfUptoRow : OpenClaim := { program := "ytmcgnkjnknofkaa", sum := "21023abcd5bf11eed9d65c1618730287fbe2c5e387aab6ef90c97d5d1e95f2c1", func := "loop.example/g01353/laws.FnExactPlaceOf", spec := "fnExactPlaceOf", unfollowed := true, recurses := true, apart := false, narrowed := true }
def FnExactPlaceOfUptoSaid : Prop := fnExactPlaceOfUptoRow.holds Try.pinned (OpenSpec.upto fnExactPlaceOfSpec)

/-- 'laws.FnExactTurnCrate', WHERE WHAT IT READS IS OF BULK AT MOST 1048576: true; the input reads as it did. -/
def fnExactTurnCrateUptoRow : OpenClaim := { program := "ytmcgnkjnknofkaa", sum := "21023abcd5bf11eed9d65c1618730287fbe2c5e387aab6ef90c97d5d1e95f2c1", func := "loop.example/g01353/laws.FnExactTurnCrate", spec := "fnExactTurnCrate", unfollowed := true, recurses := true, apart := false, narrowed := true }
def FnExactTurnCrateUptoSaid : Prop := fnExactTurnCrateUptoRow.holds Try.pinned (OpenSpec.upto fnExactTurnCrateSpec)

/-- 'laws.FnExactTipOf', WHERE WHAT IT READS IS OF BULK AT MOST 1048576: true; the input reads as it did. -/
def fnExactTipOfUptoRow : OpenClaim := { program := "ytmcgnkjnknofkaa", sum := "21023abcd5bf11eed9d65c1618730287fbe2c5e387aab6ef90c97d5d1e95f2c1", func := "loop.example/g01353/laws.FnExactTipOf", spec := "fnExactTipOf", unfollowed := true, recurses := true, apart := false, narrowed := true }
def FnExactTipOfUptoSaid : Prop := fnExactTipOfUptoRow.holds Try.pinned (OpenSpec.upto fnExactTipOfSpec)

/-- 'laws.FnExactPutBottle', WHERE WHAT IT READS IS OF BULK AT MOST 1048576: true; the input reads as it did. -/
def fnExactPutBottleUptoRow : OpenClaim := { program := "ytmcgnkjnknofkaa", sum := "21023abcd5bf11eed9d65c1618730287fbe2c5e387aab6ef90c97d5d1e95f2c1", func := "loop.example/g01353/laws.FnExactPutBottle", spec := "fnExactPutBottle", unfollowed := true, recurses := true, apart := false, narrowed := true }
def FnExactPutBottleUptoSaid : Prop := fnExactPutBottleUptoRow.holds Try.pinned (OpenSpec.upto fnExactPutBottleSpec)

end Rows
end Go.Proofs.Ytmcgnkjnknofkaa
