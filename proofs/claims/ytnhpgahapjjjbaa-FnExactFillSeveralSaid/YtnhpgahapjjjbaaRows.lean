/-
  No cell of these rows narrows 'for every input' (looked for: loops, veiled, ifaces, maps, wideKeys, modest, calm, conditions, laid).
  DERIVED. THE GIVEN ROWS OF THIS SEAT. 12 by the template 'for every input the law returns true; each argument reads behind the call as it read before'; 0 by the template 'total and deterministic' (their statements: YtnhpgahapjjjbaaTotals.lean).
  GIVEN WITH THE SEED: the statements are not yours to turn. If you find one false, say at which input.
  Laid BY PROGRAM, IN A SANDBOX (cutbox-rows.mjs): the forced cells as the released guide's own fill.sh prints them over the translation c71d08978741b29d… (all of the seat's roots in one cut). By AI agents, Wed Nov 11 2026. No macro, syntax, notation, axiom, sorry.
-/
import Derived.Test.YtnhpgahapjjjbaaChecked
import GoSem.Claim
import GoSem.ClaimJoined
import GoSem.ClaimMapViews
import Derived.JoinedTies
import Derived.KernelRfl
namespace Go.Proofs.Ytnhpgahapjjjbaa
/- THE CELL 'sum', in the pinned program and in every row, IS THE sha256 OF THE DUMP (.gsa) THAT YtnhpgahapjjjbaaProg.lean LOADS. Nothing in Lean hashes anything: it is a label: what it is worth is what the hold of that sum in a sandbox is worth. -/
noncomputable def Try.pinned : Pinned := { name := "ytnhpgahapjjjbaa", sum := "c71d08978741b29d3c4276d230be15f120ee83da951808ef2c73c8dd0c6eddb8", checked := Try.checked }
namespace Rows
def none {H : Type} : Left H := { results := [], args := [] }

/-- 'laws.FnExactLevelCrate': WHATEVER THE INPUT: true; the input reads as it did. -/
def fnExactLevelCrateSpec : ChangeSpec := { name := "fnExactLevelCrate", fn := fun _ => fun
  | [d] => { results := [.lit (.bool true)], args := [d] }
  | _ => none }
def fnExactLevelCrateRow : OpenClaim := { program := "ytnhpgahapjjjbaa", sum := "c71d08978741b29d3c4276d230be15f120ee83da951808ef2c73c8dd0c6eddb8", func := "loop.example/g01353/laws.FnExactLevelCrate", spec := "fnExactLevelCrate", unfollowed := true, recurses := true, apart := false }
def FnExactLevelCrateSaid : Prop := fnExactLevelCrateRow.holds Try.pinned (OpenSpec.ofChange fnExactLevelCrateSpec)

/-- ITS FALSE NEIGHBOUR: 'it returns false'. Refute it at one input. -/
def fnExactLevelCrateWrong : ChangeSpec := { name := "fnExactLevelCrate", fn := fun _ => fun
  | [d] => { results := [.lit (.bool false)], args := [d] }
  | _ => none }
def FnExactLevelCrateWrongFalsely : Prop := fnExactLevelCrateRow.holds Try.pinned (OpenSpec.ofChange fnExactLevelCrateWrong)

/-- 'laws.FnExactOpenBound': WHATEVER THE INPUT: true; the input reads as it did. -/
def fnExactOpenBoundSpec : ChangeSpec := { name := "fnExactOpenBound", fn := fun _ => fun
  | [d1, d2] => { results := [.lit (.bool true)], args := [d1, d2] }
  | _ => none }
def fnExactOpenBoundRow : OpenClaim := { program := "ytnhpgahapjjjbaa", sum := "c71d08978741b29d3c4276d230be15f120ee83da951808ef2c73c8dd0c6eddb8", func := "loop.example/g01353/laws.FnExactOpenBound", spec := "fnExactOpenBound", unfollowed := true, recurses := true, apart := false }
def FnExactOpenBoundSaid : Prop := fnExactOpenBoundRow.holds Try.pinned (OpenSpec.ofChange fnExactOpenBoundSpec)

/-- ITS FALSE NEIGHBOUR: 'it returns false'. Refute it at one input. -/
def fnExactOpenBoundWrong : ChangeSpec := { name := "fnExactOpenBound", fn := fun _ => fun
  | [d1, d2] => { results := [.lit (.bool false)], args := [d1, d2] }
  | _ => none }
def FnExactOpenBoundWrongFalsely : Prop := fnExactOpenBoundRow.holds Try.pinned (OpenSpec.ofChange fnExactOpenBoundWrong)

/-- 'laws.FnExactFewestOpen': WHATEVER THE INPUT: true; the input reads as it did. -/
def fnExactFewestOpenSpec : ChangeSpec := { name := "fnExactFewestOpen", fn := fun _ => fun
  | [d1, d2] => { results := [.lit (.bool true)], args := [d1, d2] }
  | _ => none }
def fnExactFewestOpenRow : OpenClaim := { program := "ytnhpgahapjjjbaa", sum := "c71d08978741b29d3c4276d230be15f120ee83da951808ef2c73c8dd0c6eddb8", func := "loop.example/g01353/laws.FnExactFewestOpen", spec := "fnExactFewestOpen", unfollowed := true, recurses := true, apart := false }
def FnExactFewestOpenSaid : Prop := fnExactFewestOpenRow.holds Try.pinned (OpenSpec.ofChange fnExactFewestOpenSpec)

/-- ITS FALSE NEIGHBOUR: 'it returns false'. Refute it at one input. -/
def fnExactFewestOpenWrong : ChangeSpec := { name := "fnExactFewestOpen", fn := fun _ => fun
  | [d1, d2] => { results := [.lit (.bool false)], args := [d1, d2] }
  | _ => none }
def FnExactFewestOpenWrongFalsely : Prop := fnExactFewestOpenRow.holds Try.pinned (OpenSpec.ofChange fnExactFewestOpenWrong)

/-- 'laws.FnExactGreedyOpen': WHATEVER THE INPUT: true; the input reads as it did. -/
def fnExactGreedyOpenSpec : ChangeSpec := { name := "fnExactGreedyOpen", fn := fun _ => fun
  | [d1, d2] => { results := [.lit (.bool true)], args := [d1, d2] }
  | _ => none }
def fnExactGreedyOpenRow : OpenClaim := { program := "ytnhpgahapjjjbaa", sum := "c71d08978741b29d3c4276d230be15f120ee83da951808ef2c73c8dd0c6eddb8", func := "loop.example/g01353/laws.FnExactGreedyOpen", spec := "fnExactGreedyOpen", unfollowed := true, recurses := true, apart := false }
def FnExactGreedyOpenSaid : Prop := fnExactGreedyOpenRow.holds Try.pinned (OpenSpec.ofChange fnExactGreedyOpenSpec)

/-- ITS FALSE NEIGHBOUR: 'it returns false'. Refute it at one input. -/
def fnExactGreedyOpenWrong : ChangeSpec := { name := "fnExactGreedyOpen", fn := fun _ => fun
  | [d1, d2] => { results := [.lit (.bool false)], args := [d1, d2] }
  | _ => none }
def FnExactGreedyOpenWrongFalsely : Prop := fnExactGreedyOpenRow.holds Try.pinned (OpenSpec.ofChange fnExactGreedyOpenWrong)

/-- 'laws.FnExactTakeOut': WHATEVER THE INPUT: true; the input reads as it did. -/
def fnExactTakeOutSpec : ChangeSpec := { name := "fnExactTakeOut", fn := fun _ => fun
  | [d1, d2, d3] => { results := [.lit (.bool true)], args := [d1, d2, d3] }
  | _ => none }
def fnExactTakeOutRow : OpenClaim := { program := "ytnhpgahapjjjbaa", sum := "c71d08978741b29d3c4276d230be15f120ee83da951808ef2c73c8dd0c6eddb8", func := "loop.example/g01353/laws.FnExactTakeOut", spec := "fnExactTakeOut", unfollowed := true, recurses := true, apart := false }
def FnExactTakeOutSaid : Prop := fnExactTakeOutRow.holds Try.pinned (OpenSpec.ofChange fnExactTakeOutSpec)

/-- ITS FALSE NEIGHBOUR: 'it returns false'. Refute it at one input. -/
def fnExactTakeOutWrong : ChangeSpec := { name := "fnExactTakeOut", fn := fun _ => fun
  | [d1, d2, d3] => { results := [.lit (.bool false)], args := [d1, d2, d3] }
  | _ => none }
def FnExactTakeOutWrongFalsely : Prop := fnExactTakeOutRow.holds Try.pinned (OpenSpec.ofChange fnExactTakeOutWrong)

/-- 'laws.FnExactIsPure': WHATEVER THE INPUT: true; the input reads as it did. -/
def fnExactIsPureSpec : ChangeSpec := { name := "fnExactIsPure", fn := fun _ => fun
  | [d] => { results := [.lit (.bool true)], args := [d] }
  | _ => none }
def fnExactIsPureRow : OpenClaim := { program := "ytnhpgahapjjjbaa", sum := "c71d08978741b29d3c4276d230be15f120ee83da951808ef2c73c8dd0c6eddb8", func := "loop.example/g01353/laws.FnExactIsPure", spec := "fnExactIsPure", unfollowed := true, recurses := true, apart := false }
def FnExactIsPureSaid : Prop := fnExactIsPureRow.holds Try.pinned (OpenSpec.ofChange fnExactIsPureSpec)

/-- ITS FALSE NEIGHBOUR: 'it returns false'. Refute it at one input. -/
def fnExactIsPureWrong : ChangeSpec := { name := "fnExactIsPure", fn := fun _ => fun
  | [d] => { results := [.lit (.bool false)], args := [d] }
  | _ => none }
def FnExactIsPureWrongFalsely : Prop := fnExactIsPureRow.holds Try.pinned (OpenSpec.ofChange fnExactIsPureWrong)

/-- 'laws.FnExactFillOrder': WHATEVER THE INPUT: true; the input reads as it did. -/
def fnExactFillOrderSpec : ChangeSpec := { name := "fnExactFillOrder", fn := fun _ => fun
  | [d1, d2] => { results := [.lit (.bool true)], args := [d1, d2] }
  | _ => none }
def fnExactFillOrderRow : OpenClaim := { program := "ytnhpgahapjjjbaa", sum := "c71d08978741b29d3c4276d230be15f120ee83da951808ef2c73c8dd0c6eddb8", func := "loop.example/g01353/laws.FnExactFillOrder", spec := "fnExactFillOrder", unfollowed := true, recurses := true, apart := false }
def FnExactFillOrderSaid : Prop := fnExactFillOrderRow.holds Try.pinned (OpenSpec.ofChange fnExactFillOrderSpec)

/-- ITS FALSE NEIGHBOUR: 'it returns false'. Refute it at one input. -/
def fnExactFillOrderWrong : ChangeSpec := { name := "fnExactFillOrder", fn := fun _ => fun
  | [d1, d2] => { results := [.lit (.bool false)], args := [d1, d2] }
  | _ => none }
def FnExactFillOrderWrongFalsely : Prop := fnExactFillOrderRow.holds Try.pinned (OpenSpec.ofChange fnExactFillOrderWrong)

/-- 'laws.FnExactFillSeveral': WHATEVER THE INPUT: true; the input reads as it did. -/
def fnExactFillSeveralSpec : ChangeSpec := { name := "fnExactFillSeveral", fn := fun _ => fun
  | [d1, d2] => { results := [.lit (.bool true)], args := [d1, d2] }
  | _ => none }
def fnExactFillSeveralRow : OpenClaim := { program := "ytnhpgahapjjjbaa", sum := "c71d08978741b29d3c4276d230be15f120ee83da951808ef2c73c8dd0c6eddb8", func := "loop.example/g01353/laws.FnExactFillSeveral", spec := "fnExactFillSeveral", unfollowed := true, recurses := true, apart := false }
def FnExactFillSeveralSaid : Prop := fnExactFillSeveralRow.holds Try.pinned (OpenSpec.ofChange fnExactFillSeveralSpec)

/-- ITS FALSE NEIGHBOUR: 'it returns false'. Refute it at one input. -/
def fnExactFillSeveralWrong : ChangeSpec := { name := "fnExactFillSeveral", fn := fun _ => fun
  | [d1, d2] => { results := [.lit (.bool false)], args := [d1, d2] }
  | _ => none }
def FnExactFillSeveralWrongFalsely : Prop := fnExactFillSeveralRow.holds Try.pinned (OpenSpec.ofChange fnExactFillSeveralWrong)

/-- 'laws.FnExactSortCrate': WHATEVER THE INPUT: true; the input reads as it did. -/
def fnExactSortCrateSpec : ChangeSpec := { name := "fnExactSortCrate", fn := fun _ => fun
  | [d] => { results := [.lit (.bool true)], args := [d] }
  | _ => none }
def fnExactSortCrateRow : OpenClaim := { program := "ytnhpgahapjjjbaa", sum := "c71d08978741b29d3c4276d230be15f120ee83da951808ef2c73c8dd0c6eddb8", func := "loop.example/g01353/laws.FnExactSortCrate", spec := "fnExactSortCrate", unfollowed := true, recurses := true, apart := false }
def FnExactSortCrateSaid : Prop := fnExactSortCrateRow.holds Try.pinned (OpenSpec.ofChange fnExactSortCrateSpec)

/-- ITS FALSE NEIGHBOUR: 'it returns false'. Refute it at one input. -/
def fnExactSortCrateWrong : ChangeSpec := { name := "fnExactSortCrate", fn := fun _ => fun
  | [d] => { results := [.lit (.bool false)], args := [d] }
  | _ => none }
def FnExactSortCrateWrongFalsely : Prop := fnExactSortCrateRow.holds Try.pinned (OpenSpec.ofChange fnExactSortCrateWrong)

/-- 'laws.FnExactPackStack': WHATEVER THE INPUT: true; the input reads as it did. -/
def fnExactPackStackSpec : ChangeSpec := { name := "fnExactPackStack", fn := fun _ => fun
  | [d] => { results := [.lit (.bool true)], args := [d] }
  | _ => none }
def fnExactPackStackRow : OpenClaim := { program := "ytnhpgahapjjjbaa", sum := "c71d08978741b29d3c4276d230be15f120ee83da951808ef2c73c8dd0c6eddb8", func := "loop.example/g01353/laws.FnExactPackStack", spec := "fnExactPackStack", unfollowed := true, recurses := true, apart := false }
def FnExactPackStackSaid : Prop := fnExactPackStackRow.holds Try.pinned (OpenSpec.ofChange fnExactPackStackSpec)

/-- ITS FALSE NEIGHBOUR: 'it returns false'. Refute it at one input. -/
def fnExactPackStackWrong : ChangeSpec := { name := "fnExactPackStack", fn := fun _ => fun
  | [d] => { results := [.lit (.bool false)], args := [d] }
  | _ => none }
def FnExactPackStackWrongFalsely : Prop := fnExactPackStackRow.holds Try.pinned (OpenSpec.ofChange fnExactPackStackWrong)

/-- 'laws.FnExactCountsIn': WHATEVER THE INPUT: true; the input reads as it did. -/
def fnExactCountsInSpec : ChangeSpec := { name := "fnExactCountsIn", fn := fun _ => fun
  | [d] => { results := [.lit (.bool true)], args := [d] }
  | _ => none }
def fnExactCountsInRow : OpenClaim := { program := "ytnhpgahapjjjbaa", sum := "c71d08978741b29d3c4276d230be15f120ee83da951808ef2c73c8dd0c6eddb8", func := "loop.example/g01353/laws.FnExactCountsIn", spec := "fnExactCountsIn", unfollowed := true, recurses := true, apart := false }
def FnExactCountsInSaid : Prop := fnExactCountsInRow.holds Try.pinned (OpenSpec.ofChange fnExactCountsInSpec)

/-- ITS FALSE NEIGHBOUR: 'it returns false'. Refute it at one input. -/
def fnExactCountsInWrong : ChangeSpec := { name := "fnExactCountsIn", fn := fun _ => fun
  | [d] => { results := [.lit (.bool false)], args := [d] }
  | _ => none }
def FnExactCountsInWrongFalsely : Prop := fnExactCountsInRow.holds Try.pinned (OpenSpec.ofChange fnExactCountsInWrong)

/-- 'laws.FnExactSameOrder': WHATEVER THE INPUT: true; the input reads as it did. -/
def fnExactSameOrderSpec : ChangeSpec := { name := "fnExactSameOrder", fn := fun _ => fun
  | [d1, d2] => { results := [.lit (.bool true)], args := [d1, d2] }
  | _ => none }
def fnExactSameOrderRow : OpenClaim := { program := "ytnhpgahapjjjbaa", sum := "c71d08978741b29d3c4276d230be15f120ee83da951808ef2c73c8dd0c6eddb8", func := "loop.example/g01353/laws.FnExactSameOrder", spec := "fnExactSameOrder", apart := false }
def FnExactSameOrderSaid : Prop := fnExactSameOrderRow.holds Try.pinned (OpenSpec.ofChange fnExactSameOrderSpec)

/-- ITS FALSE NEIGHBOUR: 'it returns false'. Refute it at one input. -/
def fnExactSameOrderWrong : ChangeSpec := { name := "fnExactSameOrder", fn := fun _ => fun
  | [d1, d2] => { results := [.lit (.bool false)], args := [d1, d2] }
  | _ => none }
def FnExactSameOrderWrongFalsely : Prop := fnExactSameOrderRow.holds Try.pinned (OpenSpec.ofChange fnExactSameOrderWrong)

/- THE SECOND FORM. 'bulk': how many values and letters a reading holds, each counted each time it is reached (what is shared counts as often as it is met; a slice's spare places count too). A statement '..UptoSaid' is the law's where the arguments, and the package variables that the reading takes, are together of bulk at most 1048576: NARROWER than '..Said'. Prove '..Said' where nothing that the law and all that it calls make is longer than what came in: it says more and counts as full. Else prove '..UptoSaid'. A law counts once. -/
mutual
def uptoBulk {H : Type} : DataW H → Nat
  | .lit (.string bytes) => bytes.length + 1
  | .lit _ => 1
  | .nil => 1
  | .ptr d => uptoBulk d + 1
  | .slice elems spare => uptoBulkAll elems + uptoBulkAll spare + 1
  | .agg parts => uptoBulkAll parts + 1
  | .iface _ d => uptoBulk d + 1
  | .map entries => uptoBulkEntries entries + 1
  | .held _ => 1
def uptoBulkAll {H : Type} : List (DataW H) → Nat
  | [] => 0
  | d :: r => uptoBulk d + uptoBulkAll r
def uptoBulkEntries {H : Type} : List (Lit × DataW H) → Nat
  | [] => 0
  | x :: r => uptoBulkEntry x + uptoBulkEntries r
def uptoBulkEntry {H : Type} : Lit × DataW H → Nat
  | (.string bytes, d) => bytes.length + uptoBulk d + 1
  | (_, d) => uptoBulk d + 1
 end
def uptoSmall : (H : Type) → List (DataW H) → Bool := fun _ ds => decide (uptoBulkAll ds ≤ 1048576)
def OpenSpec.upto (s : _root_.Go.ChangeSpec) : _root_.Go.OpenSpec := { _root_.Go.OpenSpec.ofChange s with cond := some uptoSmall }

/-- 'laws.FnExactLevelCrate', WHERE WHAT IT READS IS OF BULK AT MOST 1048576: true; the input reads as it did. -/
def fnExactLevelCrateUptoRow : OpenClaim := { program := "ytnhpgahapjjjbaa", sum := "c71d08978741b29d3c4276d230be15f120ee83da951808ef2c73c8dd0c6eddb8", func := "loop.example/g01353/laws.FnExactLevelCrate", spec := "fnExactLevelCrate", unfollowed := true, recurses := true, apart := false, narrowed := true }
def FnExactLevelCrateUptoSaid : Prop := fnExactLevelCrateUptoRow.holds Try.pinned (OpenSpec.upto fnExactLevelCrateSpec)

/-- 'laws.FnExactOpenBound', WHERE WHAT IT READS IS OF BULK AT MOST 1048576: true; the input reads as it did. -/
def fnExactOpenBoundUptoRow : OpenClaim := { program := "ytnhpgahapjjjbaa", sum := "c71d08978741b29d3c4276d230be15f120ee83da951808ef2c73c8dd0c6eddb8", func := "loop.example/g01353/laws.FnExactOpenBound", spec := "fnExactOpenBound", unfollowed := true, recurses := true, apart := false, narrowed := true }
def FnExactOpenBoundUptoSaid : Prop := fnExactOpenBoundUptoRow.holds Try.pinned (OpenSpec.upto fnExactOpenBoundSpec)

/-- 'laws.FnExactFewestOpen', WHERE WHAT IT READS IS OF BULK AT MOST 1048576: true; the input reads as it did. -/
def fnExactFewestOpenUptoRow : OpenClaim := { program := "ytnhpgahapjjjbaa", sum := "c71d08978741b29d3c4276d230be15f120ee83da951808ef2c73c8dd0c6eddb8", func := "loop.example/g01353/laws.FnExactFewestOpen", spec := "fnExactFewestOpen", unfollowed := true, recurses := true, apart := false, narrowed := true }
def FnExactFewestOpenUptoSaid : Prop := fnExactFewestOpenUptoRow.holds Try.pinned (OpenSpec.upto fnExactFewestOpenSpec)

/-- 'laws.FnExactGreedyOpen', WHERE WHAT IT READS IS OF BULK AT MOST 1048576: true; the input reads as it did. -/
def fnExactGreedyOpenUptoRow : OpenClaim := { program := "ytnhpgahapjjjbaa", sum := "c71d08978741b29d3c4276d230be15f120ee83da951808ef2c73c8dd0c6eddb8", func := "loop.example/g01353/laws.FnExactGreedyOpen", spec := "fnExactGreedyOpen", unfollowed := true, recurses := true, apart := false, narrowed := true }
def FnExactGreedyOpenUptoSaid : Prop := fnExactGreedyOpenUptoRow.holds Try.pinned (OpenSpec.upto fnExactGreedyOpenSpec)

/-- 'laws.FnExactTakeOut', WHERE WHAT IT READS IS OF BULK AT MOST 1048576: true; the input reads as it did. -/
def fnExactTakeOutUptoRow : OpenClaim := { program := "ytnhpgahapjjjbaa", sum := "c71d08978741b29d3c4276d230be15f120ee83da951808ef2c73c8dd0c6eddb8", func := "loop.example/g01353/laws.FnExactTakeOut", spec := "fnExactTakeOut", unfollowed := true, recurses := true, apart := false, narrowed := true }
def FnExactTakeOutUptoSaid : Prop := fnExactTakeOutUptoRow.holds Try.pinned (OpenSpec.upto fnExactTakeOutSpec)

/-- 'laws.FnExactIsPure', WHERE WHAT IT READS IS OF BULK AT MOST 1048576: true; the input reads as it did. -/
def fnExactIsPureUptoRow : OpenClaim := { program := "ytnhpgahapjjjbaa", sum := "c71d08978741b29d3c4276d230be15f120ee83da951808ef2c73c8dd0c6eddb8", func := "loop.example/g01353/laws.FnExactIsPure", spec := "fnExactIsPure", unfollowed := true, recurses := true, apart := false, narrowed := true }
def FnExactIsPureUptoSaid : Prop := fnExactIsPureUptoRow.holds Try.pinned (OpenSpec.upto fnExactIsPureSpec)

/-- 'laws.FnExactFillOrder', WHERE WHAT IT READS IS OF BULK AT MOST 1048576: true; the input reads as it did. -/
def fnExactFillOrderUptoRow : OpenClaim := { program := "ytnhpgahapjjjbaa", sum := "c71d08978741b29d3c4276d230be15f120ee83da951808ef2c73c8dd0c6eddb8", func := "loop.example/g01353/laws.FnExactFillOrder", spec := "fnExactFillOrder", unfollowed := true, recurses := true, apart := false, narrowed := true }
def FnExactFillOrderUptoSaid : Prop := fnExactFillOrderUptoRow.holds Try.pinned (OpenSpec.upto fnExactFillOrderSpec)

/-- 'laws.FnExactFillSeveral', WHERE WHAT IT READS IS OF BULK AT MOST 1048576: true; the input reads as it did. -/
def fnExactFillSeveralUptoRow : OpenClaim := { program := "ytnhpgahapjjjbaa", sum := "c71d08978741b29d3c4276d230be15f120ee83da951808ef2c73c8dd0c6eddb8", func := "loop.example/g01353/laws.FnExactFillSeveral", spec := "fnExactFillSeveral", unfollowed := true, recurses := true, apart := false, narrowed := true }
def FnExactFillSeveralUptoSaid : Prop := fnExactFillSeveralUptoRow.holds Try.pinned (OpenSpec.upto fnExactFillSeveralSpec)

/-- 'laws.FnExactSortCrate', WHERE WHAT IT READS IS OF BULK AT MOST 1048576: true; the input reads as it did. -/
def fnExactSortCrateUptoRow : OpenClaim := { program := "ytnhpgahapjjjbaa", sum := "c71d08978741b29d3c4276d230be15f120ee83da951808ef2c73c8dd0c6eddb8", func := "loop.example/g01353/laws.FnExactSortCrate", spec := "fnExactSortCrate", unfollowed := true, recurses := true, apart := false, narrowed := true }
def FnExactSortCrateUptoSaid : Prop := fnExactSortCrateUptoRow.holds Try.pinned (OpenSpec.upto fnExactSortCrateSpec)

/-- 'laws.FnExactPackStack', WHERE WHAT IT READS IS OF BULK AT MOST 1048576: true; the input reads as it did. -/
def fnExactPackStackUptoRow : OpenClaim := { program := "ytnhpgahapjjjbaa", sum := "c71d08978741b29d3c4276d230be15f120ee83da951808ef2c73c8dd0c6eddb8", func := "loop.example/g01353/laws.FnExactPackStack", spec := "fnExactPackStack", unfollowed := true, recurses := true, apart := false, narrowed := true }
def FnExactPackStackUptoSaid : Prop := fnExactPackStackUptoRow.holds Try.pinned (OpenSpec.upto fnExactPackStackSpec)

/-- 'laws.FnExactCountsIn', WHERE WHAT IT READS IS OF BULK AT MOST 1048576: true; the input reads as it did. -/
def fnExactCountsInUptoRow : OpenClaim := { program := "ytnhpgahapjjjbaa", sum := "c71d08978741b29d3c4276d230be15f120ee83da951808ef2c73c8dd0c6eddb8", func := "loop.example/g01353/laws.FnExactCountsIn", spec := "fnExactCountsIn", unfollowed := true, recurses := true, apart := false, narrowed := true }
def FnExactCountsInUptoSaid : Prop := fnExactCountsInUptoRow.holds Try.pinned (OpenSpec.upto fnExactCountsInSpec)

/-- 'laws.FnExactSameOrder', WHERE WHAT IT READS IS OF BULK AT MOST 1048576: true; the input reads as it did. -/
def fnExactSameOrderUptoRow : OpenClaim := { program := "ytnhpgahapjjjbaa", sum := "c71d08978741b29d3c4276d230be15f120ee83da951808ef2c73c8dd0c6eddb8", func := "loop.example/g01353/laws.FnExactSameOrder", spec := "fnExactSameOrder", apart := false, narrowed := true }
def FnExactSameOrderUptoSaid : Prop := fnExactSameOrderUptoRow.holds Try.pinned (OpenSpec.upto fnExactSameOrderSpec)

end Rows
end Go.Proofs.Ytnhpgahapjjjbaa
