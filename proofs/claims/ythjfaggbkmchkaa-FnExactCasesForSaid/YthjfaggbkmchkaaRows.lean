/-
  No cell of these rows narrows 'for every input' (looked for: loops, veiled, ifaces, maps, wideKeys, modest, calm, conditions, laid).
  DERIVED. THE GIVEN ROWS OF THIS SEAT. 12 by the template 'for every input the law returns true; each argument reads behind the call as it read before'; 0 by the template 'total and deterministic' (their statements: YthjfaggbkmchkaaTotals.lean).
  GIVEN WITH THE SEED: the statements are not yours to turn. If you find one false, say at which input.
  Laid BY PROGRAM, IN A SANDBOX (cutbox-rows.mjs): the forced cells as the released guide's own fill.sh prints them over the translation 5411d2c39cdbe365… (all of the seat's roots in one cut). By AI agents, Wed Nov 11 2026. No macro, syntax, notation, axiom, sorry.
-/
import Derived.Test.YthjfaggbkmchkaaChecked
import GoSem.Claim
import GoSem.ClaimJoined
import GoSem.ClaimMapViews
import Derived.JoinedTies
import Derived.KernelRfl
namespace Go.Proofs.Ythjfaggbkmchkaa
/- THE CELL 'sum', in the pinned program and in every row, IS THE sha256 OF THE DUMP (.gsa) THAT YthjfaggbkmchkaaProg.lean LOADS. Nothing in Lean hashes anything: it is a label: what it is worth is what the hold of that sum in a sandbox is worth. -/
noncomputable def Try.pinned : Pinned := { name := "ythjfaggbkmchkaa", sum := "5411d2c39cdbe3656e45408b6171847f5630c3ba4888bdd6307f7df0410c1c6d", checked := Try.checked }
namespace Rows
def none {H : Type} : Left H := { results := [], args := [] }

/-- 'laws.FnExactValidOrder': WHATEVER THE INPUT: true; the input reads as it did. -/
def fnExactValidOrderSpec : ChangeSpec := { name := "fnExactValidOrder", fn := fun _ => fun
  | [d] => { results := [.lit (.bool true)], args := [d] }
  | _ => none }
def fnExactValidOrderRow : OpenClaim := { program := "ythjfaggbkmchkaa", sum := "5411d2c39cdbe3656e45408b6171847f5630c3ba4888bdd6307f7df0410c1c6d", func := "loop.example/g01353/laws.FnExactValidOrder", spec := "fnExactValidOrder", apart := false }
def FnExactValidOrderSaid : Prop := fnExactValidOrderRow.holds Try.pinned (OpenSpec.ofChange fnExactValidOrderSpec)

/-- ITS FALSE NEIGHBOUR: 'it returns false'. Refute it at one input. -/
def fnExactValidOrderWrong : ChangeSpec := { name := "fnExactValidOrder", fn := fun _ => fun
  | [d] => { results := [.lit (.bool false)], args := [d] }
  | _ => none }
def FnExactValidOrderWrongFalsely : Prop := fnExactValidOrderRow.holds Try.pinned (OpenSpec.ofChange fnExactValidOrderWrong)

/-- 'laws.FnExactWantedIn': WHATEVER THE INPUT: true; the input reads as it did. -/
def fnExactWantedInSpec : ChangeSpec := { name := "fnExactWantedIn", fn := fun _ => fun
  | [d] => { results := [.lit (.bool true)], args := [d] }
  | _ => none }
def fnExactWantedInRow : OpenClaim := { program := "ythjfaggbkmchkaa", sum := "5411d2c39cdbe3656e45408b6171847f5630c3ba4888bdd6307f7df0410c1c6d", func := "loop.example/g01353/laws.FnExactWantedIn", spec := "fnExactWantedIn", apart := false }
def FnExactWantedInSaid : Prop := fnExactWantedInRow.holds Try.pinned (OpenSpec.ofChange fnExactWantedInSpec)

/-- ITS FALSE NEIGHBOUR: 'it returns false'. Refute it at one input. -/
def fnExactWantedInWrong : ChangeSpec := { name := "fnExactWantedIn", fn := fun _ => fun
  | [d] => { results := [.lit (.bool false)], args := [d] }
  | _ => none }
def FnExactWantedInWrongFalsely : Prop := fnExactWantedInRow.holds Try.pinned (OpenSpec.ofChange fnExactWantedInWrong)

/-- 'laws.FnExactSwapAll': WHATEVER THE INPUT: true; the input reads as it did. -/
def fnExactSwapAllSpec : ChangeSpec := { name := "fnExactSwapAll", fn := fun _ => fun
  | [d1, d2] => { results := [.lit (.bool true)], args := [d1, d2] }
  | _ => none }
def fnExactSwapAllRow : OpenClaim := { program := "ythjfaggbkmchkaa", sum := "5411d2c39cdbe3656e45408b6171847f5630c3ba4888bdd6307f7df0410c1c6d", func := "loop.example/g01353/laws.FnExactSwapAll", spec := "fnExactSwapAll", unfollowed := true, recurses := true, apart := false }
def FnExactSwapAllSaid : Prop := fnExactSwapAllRow.holds Try.pinned (OpenSpec.ofChange fnExactSwapAllSpec)

/-- ITS FALSE NEIGHBOUR: 'it returns false'. Refute it at one input. -/
def fnExactSwapAllWrong : ChangeSpec := { name := "fnExactSwapAll", fn := fun _ => fun
  | [d1, d2] => { results := [.lit (.bool false)], args := [d1, d2] }
  | _ => none }
def FnExactSwapAllWrongFalsely : Prop := fnExactSwapAllRow.holds Try.pinned (OpenSpec.ofChange fnExactSwapAllWrong)

/-- 'laws.FnExactMoveAll': WHATEVER THE INPUT: true; the input reads as it did. -/
def fnExactMoveAllSpec : ChangeSpec := { name := "fnExactMoveAll", fn := fun _ => fun
  | [d1, d2] => { results := [.lit (.bool true)], args := [d1, d2] }
  | _ => none }
def fnExactMoveAllRow : OpenClaim := { program := "ythjfaggbkmchkaa", sum := "5411d2c39cdbe3656e45408b6171847f5630c3ba4888bdd6307f7df0410c1c6d", func := "loop.example/g01353/laws.FnExactMoveAll", spec := "fnExactMoveAll", unfollowed := true, recurses := true, apart := false }
def FnExactMoveAllSaid : Prop := fnExactMoveAllRow.holds Try.pinned (OpenSpec.ofChange fnExactMoveAllSpec)

/-- ITS FALSE NEIGHBOUR: 'it returns false'. Refute it at one input. -/
def fnExactMoveAllWrong : ChangeSpec := { name := "fnExactMoveAll", fn := fun _ => fun
  | [d1, d2] => { results := [.lit (.bool false)], args := [d1, d2] }
  | _ => none }
def FnExactMoveAllWrongFalsely : Prop := fnExactMoveAllRow.holds Try.pinned (OpenSpec.ofChange fnExactMoveAllWrong)

/-- 'laws.FnExactUsefulIn': WHATEVER THE INPUT: true; the input reads as it did. -/
def fnExactUsefulInSpec : ChangeSpec := { name := "fnExactUsefulIn", fn := fun _ => fun
  | [d1, d2] => { results := [.lit (.bool true)], args := [d1, d2] }
  | _ => none }
def fnExactUsefulInRow : OpenClaim := { program := "ythjfaggbkmchkaa", sum := "5411d2c39cdbe3656e45408b6171847f5630c3ba4888bdd6307f7df0410c1c6d", func := "loop.example/g01353/laws.FnExactUsefulIn", spec := "fnExactUsefulIn", unfollowed := true, recurses := true, apart := false }
def FnExactUsefulInSaid : Prop := fnExactUsefulInRow.holds Try.pinned (OpenSpec.ofChange fnExactUsefulInSpec)

/-- ITS FALSE NEIGHBOUR: 'it returns false'. Refute it at one input. -/
def fnExactUsefulInWrong : ChangeSpec := { name := "fnExactUsefulIn", fn := fun _ => fun
  | [d1, d2] => { results := [.lit (.bool false)], args := [d1, d2] }
  | _ => none }
def FnExactUsefulInWrongFalsely : Prop := fnExactUsefulInRow.holds Try.pinned (OpenSpec.ofChange fnExactUsefulInWrong)

/-- 'laws.FnExactSplitOrder': WHATEVER THE INPUT: true; the input reads as it did. -/
def fnExactSplitOrderSpec : ChangeSpec := { name := "fnExactSplitOrder", fn := fun _ => fun
  | [d1, d2] => { results := [.lit (.bool true)], args := [d1, d2] }
  | _ => none }
def fnExactSplitOrderRow : OpenClaim := { program := "ythjfaggbkmchkaa", sum := "5411d2c39cdbe3656e45408b6171847f5630c3ba4888bdd6307f7df0410c1c6d", func := "loop.example/g01353/laws.FnExactSplitOrder", spec := "fnExactSplitOrder", apart := false }
def FnExactSplitOrderSaid : Prop := fnExactSplitOrderRow.holds Try.pinned (OpenSpec.ofChange fnExactSplitOrderSpec)

/-- ITS FALSE NEIGHBOUR: 'it returns false'. Refute it at one input. -/
def fnExactSplitOrderWrong : ChangeSpec := { name := "fnExactSplitOrder", fn := fun _ => fun
  | [d1, d2] => { results := [.lit (.bool false)], args := [d1, d2] }
  | _ => none }
def FnExactSplitOrderWrongFalsely : Prop := fnExactSplitOrderRow.holds Try.pinned (OpenSpec.ofChange fnExactSplitOrderWrong)

/-- 'laws.FnExactCasesFor': WHATEVER THE INPUT: true; the input reads as it did. -/
def fnExactCasesForSpec : ChangeSpec := { name := "fnExactCasesFor", fn := fun _ => fun
  | [d] => { results := [.lit (.bool true)], args := [d] }
  | _ => none }
def fnExactCasesForRow : OpenClaim := { program := "ythjfaggbkmchkaa", sum := "5411d2c39cdbe3656e45408b6171847f5630c3ba4888bdd6307f7df0410c1c6d", func := "loop.example/g01353/laws.FnExactCasesFor", spec := "fnExactCasesFor", apart := false }
def FnExactCasesForSaid : Prop := fnExactCasesForRow.holds Try.pinned (OpenSpec.ofChange fnExactCasesForSpec)

/-- ITS FALSE NEIGHBOUR: 'it returns false'. Refute it at one input. -/
def fnExactCasesForWrong : ChangeSpec := { name := "fnExactCasesFor", fn := fun _ => fun
  | [d] => { results := [.lit (.bool false)], args := [d] }
  | _ => none }
def FnExactCasesForWrongFalsely : Prop := fnExactCasesForRow.holds Try.pinned (OpenSpec.ofChange fnExactCasesForWrong)

/-- 'laws.FnExactCanFill': WHATEVER THE INPUT: true; the input reads as it did. -/
def fnExactCanFillSpec : ChangeSpec := { name := "fnExactCanFill", fn := fun _ => fun
  | [d1, d2] => { results := [.lit (.bool true)], args := [d1, d2] }
  | _ => none }
def fnExactCanFillRow : OpenClaim := { program := "ythjfaggbkmchkaa", sum := "5411d2c39cdbe3656e45408b6171847f5630c3ba4888bdd6307f7df0410c1c6d", func := "loop.example/g01353/laws.FnExactCanFill", spec := "fnExactCanFill", unfollowed := true, recurses := true, apart := false }
def FnExactCanFillSaid : Prop := fnExactCanFillRow.holds Try.pinned (OpenSpec.ofChange fnExactCanFillSpec)

/-- ITS FALSE NEIGHBOUR: 'it returns false'. Refute it at one input. -/
def fnExactCanFillWrong : ChangeSpec := { name := "fnExactCanFill", fn := fun _ => fun
  | [d1, d2] => { results := [.lit (.bool false)], args := [d1, d2] }
  | _ => none }
def FnExactCanFillWrongFalsely : Prop := fnExactCanFillRow.holds Try.pinned (OpenSpec.ofChange fnExactCanFillWrong)

/-- 'laws.FnExactShortIn': WHATEVER THE INPUT: true; the input reads as it did. -/
def fnExactShortInSpec : ChangeSpec := { name := "fnExactShortIn", fn := fun _ => fun
  | [d1, d2] => { results := [.lit (.bool true)], args := [d1, d2] }
  | _ => none }
def fnExactShortInRow : OpenClaim := { program := "ythjfaggbkmchkaa", sum := "5411d2c39cdbe3656e45408b6171847f5630c3ba4888bdd6307f7df0410c1c6d", func := "loop.example/g01353/laws.FnExactShortIn", spec := "fnExactShortIn", unfollowed := true, recurses := true, apart := false }
def FnExactShortInSaid : Prop := fnExactShortInRow.holds Try.pinned (OpenSpec.ofChange fnExactShortInSpec)

/-- ITS FALSE NEIGHBOUR: 'it returns false'. Refute it at one input. -/
def fnExactShortInWrong : ChangeSpec := { name := "fnExactShortIn", fn := fun _ => fun
  | [d1, d2] => { results := [.lit (.bool false)], args := [d1, d2] }
  | _ => none }
def FnExactShortInWrongFalsely : Prop := fnExactShortInRow.holds Try.pinned (OpenSpec.ofChange fnExactShortInWrong)

/-- 'laws.FnExactCheckOpen': WHATEVER THE INPUT: true; the input reads as it did. -/
def fnExactCheckOpenSpec : ChangeSpec := { name := "fnExactCheckOpen", fn := fun _ => fun
  | [d1, d2, d3] => { results := [.lit (.bool true)], args := [d1, d2, d3] }
  | _ => none }
def fnExactCheckOpenRow : OpenClaim := { program := "ythjfaggbkmchkaa", sum := "5411d2c39cdbe3656e45408b6171847f5630c3ba4888bdd6307f7df0410c1c6d", func := "loop.example/g01353/laws.FnExactCheckOpen", spec := "fnExactCheckOpen", unfollowed := true, recurses := true, apart := false }
def FnExactCheckOpenSaid : Prop := fnExactCheckOpenRow.holds Try.pinned (OpenSpec.ofChange fnExactCheckOpenSpec)

/-- ITS FALSE NEIGHBOUR: 'it returns false'. Refute it at one input. -/
def fnExactCheckOpenWrong : ChangeSpec := { name := "fnExactCheckOpen", fn := fun _ => fun
  | [d1, d2, d3] => { results := [.lit (.bool false)], args := [d1, d2, d3] }
  | _ => none }
def FnExactCheckOpenWrongFalsely : Prop := fnExactCheckOpenRow.holds Try.pinned (OpenSpec.ofChange fnExactCheckOpenWrong)

/-- 'laws.FnExactLackBehind': WHATEVER THE INPUT: true; the input reads as it did. -/
def fnExactLackBehindSpec : ChangeSpec := { name := "fnExactLackBehind", fn := fun _ => fun
  | [d1, d2, d3] => { results := [.lit (.bool true)], args := [d1, d2, d3] }
  | _ => none }
def fnExactLackBehindRow : OpenClaim := { program := "ythjfaggbkmchkaa", sum := "5411d2c39cdbe3656e45408b6171847f5630c3ba4888bdd6307f7df0410c1c6d", func := "loop.example/g01353/laws.FnExactLackBehind", spec := "fnExactLackBehind", unfollowed := true, recurses := true, apart := false }
def FnExactLackBehindSaid : Prop := fnExactLackBehindRow.holds Try.pinned (OpenSpec.ofChange fnExactLackBehindSpec)

/-- ITS FALSE NEIGHBOUR: 'it returns false'. Refute it at one input. -/
def fnExactLackBehindWrong : ChangeSpec := { name := "fnExactLackBehind", fn := fun _ => fun
  | [d1, d2, d3] => { results := [.lit (.bool false)], args := [d1, d2, d3] }
  | _ => none }
def FnExactLackBehindWrongFalsely : Prop := fnExactLackBehindRow.holds Try.pinned (OpenSpec.ofChange fnExactLackBehindWrong)

/-- 'laws.FnExactJoinOrders': WHATEVER THE INPUT: true; the input reads as it did. -/
def fnExactJoinOrdersSpec : ChangeSpec := { name := "fnExactJoinOrders", fn := fun _ => fun
  | [d1, d2] => { results := [.lit (.bool true)], args := [d1, d2] }
  | _ => none }
def fnExactJoinOrdersRow : OpenClaim := { program := "ythjfaggbkmchkaa", sum := "5411d2c39cdbe3656e45408b6171847f5630c3ba4888bdd6307f7df0410c1c6d", func := "loop.example/g01353/laws.FnExactJoinOrders", spec := "fnExactJoinOrders", unfollowed := true, recurses := true, apart := false }
def FnExactJoinOrdersSaid : Prop := fnExactJoinOrdersRow.holds Try.pinned (OpenSpec.ofChange fnExactJoinOrdersSpec)

/-- ITS FALSE NEIGHBOUR: 'it returns false'. Refute it at one input. -/
def fnExactJoinOrdersWrong : ChangeSpec := { name := "fnExactJoinOrders", fn := fun _ => fun
  | [d1, d2] => { results := [.lit (.bool false)], args := [d1, d2] }
  | _ => none }
def FnExactJoinOrdersWrongFalsely : Prop := fnExactJoinOrdersRow.holds Try.pinned (OpenSpec.ofChange fnExactJoinOrdersWrong)

/- THE SECOND FORM. 'bulk': how many values and letters a reading holds, each counted each time it is reached (what is shared counts as often as it is met; a slice's spare places count too). A statement '..UptoSaid' is the law's where the arguments, and the package variables that the reading takes, are together of bulk at most 1048576: NARROWER than '..Said'. Prove '..Said' where nothing that the law and all that it calls make is longer than what came in: it says more and counts as full. Else prove '..UptoSaid'. A law counts once. -/
mutual
def uptoBulk {H : Type} : DataW H → Nat
  | .lit (.string bytes) => bytes.length + 1
  | .lit _ => 1
  | .nil => 1
  | .ptr d => uptoBulk d + 1
  | .slice elems spare => uptoBulkAll elems + uptoBulkAll spare + 1
  | .agg parts => uptoBulkAll parts + 1
  | .iface _ d => uptoBulk d + 1
  | .map entries => uptoBulkEntries entries + 1
  | .held _ => 1
def uptoBulkAll {H : Type} : List (DataW H) → Nat
  | [] => 0
  | d :: r => uptoBulk d + uptoBulkAll r
def uptoBulkEntries {H : Type} : List (Lit × DataW H) → Nat
  | [] => 0
  | x :: r => uptoBulkEntry x + uptoBulkEntries r
def uptoBulkEntry {H : Type} : Lit × DataW H → Nat
  | (.string bytes, d) => bytes.length + uptoBulk d + 1
  | (_, d) => uptoBulk d + 1
 end
def uptoSmall : (H : Type) → List (DataW H) → Bool := fun _ ds => decide (uptoBulkAll ds ≤ 1048576)
def OpenSpec.upto (s : _root_.Go.ChangeSpec) : _root_.Go.OpenSpec := { _root_.Go.OpenSpec.ofChange s with cond := some uptoSmall }

/-- 'laws.FnExactValidOrder', WHERE WHAT IT READS IS OF BULK AT MOST 1048576: true; the input reads as it did. -/
def fnExactValidOrderUptoRow : OpenClaim := { program := "ythjfaggbkmchkaa", sum := "5411d2c39cdbe3656e45408b6171847f5630c3ba4888bdd6307f7df0410c1c6d", func := "loop.example/g01353/laws.FnExactValidOrder", spec := "fnExactValidOrder", apart := false, narrowed := true }
def FnExactValidOrderUptoSaid : Prop := fnExactValidOrderUptoRow.holds Try.pinned (OpenSpec.upto fnExactValidOrderSpec)

/-- 'laws.FnExactWantedIn', WHERE WHAT IT READS IS OF BULK AT MOST 1048576: true; the input reads as it did. -/
def fnExactWantedInUptoRow : OpenClaim := { program := "ythjfaggbkmchkaa", sum := "5411d2c39cdbe3656e45408b6171847f5630c3ba4888bdd6307f7df0410c1c6d", func := "loop.example/g01353/laws.FnExactWantedIn", spec := "fnExactWantedIn", apart := false, narrowed := true }
def FnExactWantedInUptoSaid : Prop := fnExactWantedInUptoRow.holds Try.pinned (OpenSpec.upto fnExactWantedInSpec)

/-- 'laws.FnExactSwapAll', WHERE WHAT IT READS IS OF BULK AT MOST 1048576: true; the input reads as it did. -/
def fnExactSwapAllUptoRow : OpenClaim := { program := "ythjfaggbkmchkaa", sum := "5411d2c39cdbe3656e45408b6171847f5630c3ba4888bdd6307f7df0410c1c6d", func := "loop.example/g01353/laws.FnExactSwapAll", spec := "fnExactSwapAll", unfollowed := true, recurses := true, apart := false, narrowed := true }
def FnExactSwapAllUptoSaid : Prop := fnExactSwapAllUptoRow.holds Try.pinned (OpenSpec.upto fnExactSwapAllSpec)

/-- 'laws.FnExactMoveAll', WHERE WHAT IT READS IS OF BULK AT MOST 1048576: true; the input reads as it did. -/
def fnExactMoveAllUptoRow : OpenClaim := { program := "ythjfaggbkmchkaa", sum := "5411d2c39cdbe3656e45408b6171847f5630c3ba4888bdd6307f7df0410c1c6d", func := "loop.example/g01353/laws.FnExactMoveAll", spec := "fnExactMoveAll", unfollowed := true, recurses := true, apart := false, narrowed := true }
def FnExactMoveAllUptoSaid : Prop := fnExactMoveAllUptoRow.holds Try.pinned (OpenSpec.upto fnExactMoveAllSpec)

/-- 'laws.FnExactUsefulIn', WHERE WHAT IT READS IS OF BULK AT MOST 1048576: true; the input reads as it did. -/
def fnExactUsefulInUptoRow : OpenClaim := { program := "ythjfaggbkmchkaa", sum := "5411d2c39cdbe3656e45408b6171847f5630c3ba4888bdd6307f7df0410c1c6d", func := "loop.example/g01353/laws.FnExactUsefulIn", spec := "fnExactUsefulIn", unfollowed := true, recurses := true, apart := false, narrowed := true }
def FnExactUsefulInUptoSaid : Prop := fnExactUsefulInUptoRow.holds Try.pinned (OpenSpec.upto fnExactUsefulInSpec)

/-- 'laws.FnExactSplitOrder', WHERE WHAT IT READS IS OF BULK AT MOST 1048576: true; the input reads as it did. -/
def fnExactSplitOrderUptoRow : OpenClaim := { program := "ythjfaggbkmchkaa", sum := "5411d2c39cdbe3656e45408b6171847f5630c3ba4888bdd6307f7df0410c1c6d", func := "loop.example/g01353/laws.FnExactSplitOrder", spec := "fnExactSplitOrder", apart := false, narrowed := true }
def FnExactSplitOrderUptoSaid : Prop := fnExactSplitOrderUptoRow.holds Try.pinned (OpenSpec.upto fnExactSplitOrderSpec)

/-- 'laws.FnExactCasesFor', WHERE WHAT IT READS IS OF BULK AT MOST 1048576: true; the input reads as it did. -/
def fnExactCasesForUptoRow : OpenClaim := { program := "ythjfaggbkmchkaa", sum := "5411d2c39cdbe3656e45408b6171847f5630c3ba4888bdd6307f7df0410c1c6d", func := "loop.example/g01353/laws.FnExactCasesFor", spec := "fnExactCasesFor", apart := false, narrowed := true }
def FnExactCasesForUptoSaid : Prop := fnExactCasesForUptoRow.holds Try.pinned (OpenSpec.upto fnExactCasesForSpec)

/-- 'laws.FnExactCanFill', WHERE WHAT IT READS IS OF BULK AT MOST 1048576: true; the input reads as it did. -/
def fnExactCanFillUptoRow : OpenClaim := { program := "ythjfaggbkmchkaa", sum := "5411d2c39cdbe3656e45408b6171847f5630c3ba4888bdd6307f7df0410c1c6d", func := "loop.example/g01353/laws.FnExactCanFill", spec := "fnExactCanFill", unfollowed := true, recurses := true, apart := false, narrowed := true }
def FnExactCanFillUptoSaid : Prop := fnExactCanFillUptoRow.holds Try.pinned (OpenSpec.upto fnExactCanFillSpec)

/-- 'laws.FnExactShortIn', WHERE WHAT IT READS IS OF BULK AT MOST 1048576: true; the input reads as it did. -/
def fnExactShortInUptoRow : OpenClaim := { program := "ythjfaggbkmchkaa", sum := "5411d2c39cdbe3656e45408b6171847f5630c3ba4888bdd6307f7df0410c1c6d", func := "loop.example/g01353/laws.FnExactShortIn", spec := "fnExactShortIn", unfollowed := true, recurses := true, apart := false, narrowed := true }
def FnExactShortInUptoSaid : Prop := fnExactShortInUptoRow.holds Try.pinned (OpenSpec.upto fnExactShortInSpec)

/-- 'laws.FnExactCheckOpen', WHERE WHAT IT READS IS OF BULK AT MOST 1048576: true; the input reads as it did. -/
def fnExactCheckOpenUptoRow : OpenClaim := { program := "ythjfaggbkmchkaa", sum := "5411d2c39cdbe3656e45408b6171847f5630c3ba4888bdd6307f7df0410c1c6d", func := "loop.example/g01353/laws.FnExactCheckOpen", spec := "fnExactCheckOpen", unfollowed := true, recurses := true, apart := false, narrowed := true }
def FnExactCheckOpenUptoSaid : Prop := fnExactCheckOpenUptoRow.holds Try.pinned (OpenSpec.upto fnExactCheckOpenSpec)

/-- 'laws.FnExactLackBehind', WHERE WHAT IT READS IS OF BULK AT MOST 1048576: true; the input reads as it did. -/
def fnExactLackBehindUptoRow : OpenClaim := { program := "ythjfaggbkmchkaa", sum := "5411d2c39cdbe3656e45408b6171847f5630c3ba4888bdd6307f7df0410c1c6d", func := "loop.example/g01353/laws.FnExactLackBehind", spec := "fnExactLackBehind", unfollowed := true, recurses := true, apart := false, narrowed := true }
def FnExactLackBehindUptoSaid : Prop := fnExactLackBehindUptoRow.holds Try.pinned (OpenSpec.upto fnExactLackBehindSpec)

/-- 'laws.FnExactJoinOrders', WHERE WHAT IT READS IS OF BULK AT MOST 1048576: true; the input reads as it did. -/
def fnExactJoinOrdersUptoRow : OpenClaim := { program := "ythjfaggbkmchkaa", sum := "5411d2c39cdbe3656e45408b6171847f5630c3ba4888bdd6307f7df0410c1c6d", func := "loop.example/g01353/laws.FnExactJoinOrders", spec := "fnExactJoinOrders", unfollowed := true, recurses := true, apart := false, narrowed := true }
def FnExactJoinOrdersUptoSaid : Prop := fnExactJoinOrdersUptoRow.holds Try.pinned (OpenSpec.upto fnExactJoinOrdersSpec)

end Rows
end Go.Proofs.Ythjfaggbkmchkaa
