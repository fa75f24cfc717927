/-
  No cell of these rows narrows 'for every input' (looked for: loops, veiled, ifaces, maps, wideKeys, modest, calm, conditions, laid).
  DERIVED. THE GIVEN ROWS OF THIS SEAT. 12 by the template 'for every input the law returns true; each argument reads behind the call as it read before'; 0 by the template 'total and deterministic' (their statements: YtkpaijbjbbgpmaaTotals.lean).
  GIVEN WITH THE SEED: the statements are not yours to turn. If you find one false, say at which input.
  Laid BY PROGRAM, IN A SANDBOX (cutbox-rows.mjs): the forced cells as the released guide's own fill.sh prints them over the translation 6f971aca1186524a… (all of the seat's roots in one cut). By AI agents, Wed Nov 11 2026. No macro, syntax, notation, axiom, sorry.
-/
import Derived.Test.YtkpaijbjbbgpmaaChecked
import GoSem.Claim
import GoSem.ClaimJoined
import GoSem.ClaimMapViews
import Derived.JoinedTies
import Derived.KernelRfl
namespace Go.Proofs.Ytkpaijbjbbgpmaa
/- THE CELL 'sum', in the pinned program and in every row, IS THE sha256 OF THE DUMP (.gsa) THAT YtkpaijbjbbgpmaaProg.lean LOADS. Nothing in Lean hashes anything: it is a label: what it is worth is what the hold of that sum in a sandbox is worth. -/
noncomputable def Try.pinned : Pinned := { name := "ytkpaijbjbbgpmaa", sum := "6f971aca1186524a16a753d78142e1d3599a9a2389e491cb81db9140740bb33c", checked := Try.checked }
namespace Rows
def none {H : Type} : Left H := { results := [], args := [] }

/-- 'laws.FnExactSameStack': WHATEVER THE INPUT: true; the input reads as it did. -/
def fnExactSameStackSpec : ChangeSpec := { name := "fnExactSameStack", fn := fun _ => fun
  | [d1, d2] => { results := [.lit (.bool true)], args := [d1, d2] }
  | _ => none }
def fnExactSameStackRow : OpenClaim := { program := "ytkpaijbjbbgpmaa", sum := "6f971aca1186524a16a753d78142e1d3599a9a2389e491cb81db9140740bb33c", func := "loop.example/g01353/laws.FnExactSameStack", spec := "fnExactSameStack", apart := false }
def FnExactSameStackSaid : Prop := fnExactSameStackRow.holds Try.pinned (OpenSpec.ofChange fnExactSameStackSpec)

/-- ITS FALSE NEIGHBOUR: 'it returns false'. Refute it at one input. -/
def fnExactSameStackWrong : ChangeSpec := { name := "fnExactSameStack", fn := fun _ => fun
  | [d1, d2] => { results := [.lit (.bool false)], args := [d1, d2] }
  | _ => none }
def FnExactSameStackWrongFalsely : Prop := fnExactSameStackRow.holds Try.pinned (OpenSpec.ofChange fnExactSameStackWrong)

/-- 'laws.FnExactTakeBottle': WHATEVER THE INPUT: true; the input reads as it did. -/
def fnExactTakeBottleSpec : ChangeSpec := { name := "fnExactTakeBottle", fn := fun _ => fun
  | [d1, d2] => { results := [.lit (.bool true)], args := [d1, d2] }
  | _ => none }
def fnExactTakeBottleRow : OpenClaim := { program := "ytkpaijbjbbgpmaa", sum := "6f971aca1186524a16a753d78142e1d3599a9a2389e491cb81db9140740bb33c", func := "loop.example/g01353/laws.FnExactTakeBottle", spec := "fnExactTakeBottle", unfollowed := true, recurses := true, apart := false }
def FnExactTakeBottleSaid : Prop := fnExactTakeBottleRow.holds Try.pinned (OpenSpec.ofChange fnExactTakeBottleSpec)

/-- ITS FALSE NEIGHBOUR: 'it returns false'. Refute it at one input. -/
def fnExactTakeBottleWrong : ChangeSpec := { name := "fnExactTakeBottle", fn := fun _ => fun
  | [d1, d2] => { results := [.lit (.bool false)], args := [d1, d2] }
  | _ => none }
def FnExactTakeBottleWrongFalsely : Prop := fnExactTakeBottleRow.holds Try.pinned (OpenSpec.ofChange fnExactTakeBottleWrong)

/-- 'laws.FnExactValidStack': WHATEVER THE INPUT: true; the input reads as it did. -/
def fnExactValidStackSpec : ChangeSpec := { name := "fnExactValidStack", fn := fun _ => fun
  | [d] => { results := [.lit (.bool true)], args := [d] }
  | _ => none }
def fnExactValidStackRow : OpenClaim := { program := "ytkpaijbjbbgpmaa", sum := "6f971aca1186524a16a753d78142e1d3599a9a2389e491cb81db9140740bb33c", func := "loop.example/g01353/laws.FnExactValidStack", spec := "fnExactValidStack", unfollowed := true, recurses := true, apart := false }
def FnExactValidStackSaid : Prop := fnExactValidStackRow.holds Try.pinned (OpenSpec.ofChange fnExactValidStackSpec)

/-- ITS FALSE NEIGHBOUR: 'it returns false'. Refute it at one input. -/
def fnExactValidStackWrong : ChangeSpec := { name := "fnExactValidStack", fn := fun _ => fun
  | [d] => { results := [.lit (.bool false)], args := [d] }
  | _ => none }
def FnExactValidStackWrongFalsely : Prop := fnExactValidStackRow.holds Try.pinned (OpenSpec.ofChange fnExactValidStackWrong)

/-- 'laws.FnExactAddBottle': WHATEVER THE INPUT: true; the input reads as it did. -/
def fnExactAddBottleSpec : ChangeSpec := { name := "fnExactAddBottle", fn := fun _ => fun
  | [d1, d2] => { results := [.lit (.bool true)], args := [d1, d2] }
  | _ => none }
def fnExactAddBottleRow : OpenClaim := { program := "ytkpaijbjbbgpmaa", sum := "6f971aca1186524a16a753d78142e1d3599a9a2389e491cb81db9140740bb33c", func := "loop.example/g01353/laws.FnExactAddBottle", spec := "fnExactAddBottle", unfollowed := true, recurses := true, apart := false }
def FnExactAddBottleSaid : Prop := fnExactAddBottleRow.holds Try.pinned (OpenSpec.ofChange fnExactAddBottleSpec)

/-- ITS FALSE NEIGHBOUR: 'it returns false'. Refute it at one input. -/
def fnExactAddBottleWrong : ChangeSpec := { name := "fnExactAddBottle", fn := fun _ => fun
  | [d1, d2] => { results := [.lit (.bool false)], args := [d1, d2] }
  | _ => none }
def FnExactAddBottleWrongFalsely : Prop := fnExactAddBottleRow.holds Try.pinned (OpenSpec.ofChange fnExactAddBottleWrong)

/-- 'laws.FnExactDifferIn': WHATEVER THE INPUT: true; the input reads as it did. -/
def fnExactDifferInSpec : ChangeSpec := { name := "fnExactDifferIn", fn := fun _ => fun
  | [d1, d2] => { results := [.lit (.bool true)], args := [d1, d2] }
  | _ => none }
def fnExactDifferInRow : OpenClaim := { program := "ytkpaijbjbbgpmaa", sum := "6f971aca1186524a16a753d78142e1d3599a9a2389e491cb81db9140740bb33c", func := "loop.example/g01353/laws.FnExactDifferIn", spec := "fnExactDifferIn", unfollowed := true, recurses := true, apart := false }
def FnExactDifferInSaid : Prop := fnExactDifferInRow.holds Try.pinned (OpenSpec.ofChange fnExactDifferInSpec)

/-- ITS FALSE NEIGHBOUR: 'it returns false'. Refute it at one input. -/
def fnExactDifferInWrong : ChangeSpec := { name := "fnExactDifferIn", fn := fun _ => fun
  | [d1, d2] => { results := [.lit (.bool false)], args := [d1, d2] }
  | _ => none }
def FnExactDifferInWrongFalsely : Prop := fnExactDifferInRow.holds Try.pinned (OpenSpec.ofChange fnExactDifferInWrong)

/-- 'laws.FnExactFreePlaces': WHATEVER THE INPUT: true; the input reads as it did. -/
def fnExactFreePlacesSpec : ChangeSpec := { name := "fnExactFreePlaces", fn := fun _ => fun
  | [d] => { results := [.lit (.bool true)], args := [d] }
  | _ => none }
def fnExactFreePlacesRow : OpenClaim := { program := "ytkpaijbjbbgpmaa", sum := "6f971aca1186524a16a753d78142e1d3599a9a2389e491cb81db9140740bb33c", func := "loop.example/g01353/laws.FnExactFreePlaces", spec := "fnExactFreePlaces", unfollowed := true, recurses := true, apart := false }
def FnExactFreePlacesSaid : Prop := fnExactFreePlacesRow.holds Try.pinned (OpenSpec.ofChange fnExactFreePlacesSpec)

/-- ITS FALSE NEIGHBOUR: 'it returns false'. Refute it at one input. -/
def fnExactFreePlacesWrong : ChangeSpec := { name := "fnExactFreePlaces", fn := fun _ => fun
  | [d] => { results := [.lit (.bool false)], args := [d] }
  | _ => none }
def FnExactFreePlacesWrongFalsely : Prop := fnExactFreePlacesRow.holds Try.pinned (OpenSpec.ofChange fnExactFreePlacesWrong)

/-- 'laws.FnExactSwapPlaces': WHATEVER THE INPUT: true; the input reads as it did. -/
def fnExactSwapPlacesSpec : ChangeSpec := { name := "fnExactSwapPlaces", fn := fun _ => fun
  | [d1, d2] => { results := [.lit (.bool true)], args := [d1, d2] }
  | _ => none }
def fnExactSwapPlacesRow : OpenClaim := { program := "ytkpaijbjbbgpmaa", sum := "6f971aca1186524a16a753d78142e1d3599a9a2389e491cb81db9140740bb33c", func := "loop.example/g01353/laws.FnExactSwapPlaces", spec := "fnExactSwapPlaces", unfollowed := true, recurses := true, apart := false }
def FnExactSwapPlacesSaid : Prop := fnExactSwapPlacesRow.holds Try.pinned (OpenSpec.ofChange fnExactSwapPlacesSpec)

/-- ITS FALSE NEIGHBOUR: 'it returns false'. Refute it at one input. -/
def fnExactSwapPlacesWrong : ChangeSpec := { name := "fnExactSwapPlaces", fn := fun _ => fun
  | [d1, d2] => { results := [.lit (.bool false)], args := [d1, d2] }
  | _ => none }
def FnExactSwapPlacesWrongFalsely : Prop := fnExactSwapPlacesRow.holds Try.pinned (OpenSpec.ofChange fnExactSwapPlacesWrong)

/-- 'laws.FnExactMoveBottle': WHATEVER THE INPUT: true; the input reads as it did. -/
def fnExactMoveBottleSpec : ChangeSpec := { name := "fnExactMoveBottle", fn := fun _ => fun
  | [d1, d2] => { results := [.lit (.bool true)], args := [d1, d2] }
  | _ => none }
def fnExactMoveBottleRow : OpenClaim := { program := "ytkpaijbjbbgpmaa", sum := "6f971aca1186524a16a753d78142e1d3599a9a2389e491cb81db9140740bb33c", func := "loop.example/g01353/laws.FnExactMoveBottle", spec := "fnExactMoveBottle", unfollowed := true, recurses := true, apart := false }
def FnExactMoveBottleSaid : Prop := fnExactMoveBottleRow.holds Try.pinned (OpenSpec.ofChange fnExactMoveBottleSpec)

/-- ITS FALSE NEIGHBOUR: 'it returns false'. Refute it at one input. -/
def fnExactMoveBottleWrong : ChangeSpec := { name := "fnExactMoveBottle", fn := fun _ => fun
  | [d1, d2] => { results := [.lit (.bool false)], args := [d1, d2] }
  | _ => none }
def FnExactMoveBottleWrongFalsely : Prop := fnExactMoveBottleRow.holds Try.pinned (OpenSpec.ofChange fnExactMoveBottleWrong)

/-- 'laws.FnExactFillFrom': WHATEVER THE INPUT: true; the input reads as it did. -/
def fnExactFillFromSpec : ChangeSpec := { name := "fnExactFillFrom", fn := fun _ => fun
  | [d1, d2] => { results := [.lit (.bool true)], args := [d1, d2] }
  | _ => none }
def fnExactFillFromRow : OpenClaim := { program := "ytkpaijbjbbgpmaa", sum := "6f971aca1186524a16a753d78142e1d3599a9a2389e491cb81db9140740bb33c", func := "loop.example/g01353/laws.FnExactFillFrom", spec := "fnExactFillFrom", unfollowed := true, recurses := true, apart := false }
def FnExactFillFromSaid : Prop := fnExactFillFromRow.holds Try.pinned (OpenSpec.ofChange fnExactFillFromSpec)

/-- ITS FALSE NEIGHBOUR: 'it returns false'. Refute it at one input. -/
def fnExactFillFromWrong : ChangeSpec := { name := "fnExactFillFrom", fn := fun _ => fun
  | [d1, d2] => { results := [.lit (.bool false)], args := [d1, d2] }
  | _ => none }
def FnExactFillFromWrongFalsely : Prop := fnExactFillFromRow.holds Try.pinned (OpenSpec.ofChange fnExactFillFromWrong)

/-- 'laws.FnExactCountOf': WHATEVER THE INPUT: true; the input reads as it did. -/
def fnExactCountOfSpec : ChangeSpec := { name := "fnExactCountOf", fn := fun _ => fun
  | [d1, d2] => { results := [.lit (.bool true)], args := [d1, d2] }
  | _ => none }
def fnExactCountOfRow : OpenClaim := { program := "ytkpaijbjbbgpmaa", sum := "6f971aca1186524a16a753d78142e1d3599a9a2389e491cb81db9140740bb33c", func := "loop.example/g01353/laws.FnExactCountOf", spec := "fnExactCountOf", unfollowed := true, recurses := true, apart := false }
def FnExactCountOfSaid : Prop := fnExactCountOfRow.holds Try.pinned (OpenSpec.ofChange fnExactCountOfSpec)

/-- ITS FALSE NEIGHBOUR: 'it returns false'. Refute it at one input. -/
def fnExactCountOfWrong : ChangeSpec := { name := "fnExactCountOf", fn := fun _ => fun
  | [d1, d2] => { results := [.lit (.bool false)], args := [d1, d2] }
  | _ => none }
def FnExactCountOfWrongFalsely : Prop := fnExactCountOfRow.holds Try.pinned (OpenSpec.ofChange fnExactCountOfWrong)

/-- 'laws.FnExactBottlesIn': WHATEVER THE INPUT: true; the input reads as it did. -/
def fnExactBottlesInSpec : ChangeSpec := { name := "fnExactBottlesIn", fn := fun _ => fun
  | [d] => { results := [.lit (.bool true)], args := [d] }
  | _ => none }
def fnExactBottlesInRow : OpenClaim := { program := "ytkpaijbjbbgpmaa", sum := "6f971aca1186524a16a753d78142e1d3599a9a2389e491cb81db9140740bb33c", func := "loop.example/g01353/laws.FnExactBottlesIn", spec := "fnExactBottlesIn", unfollowed := true, recurses := true, apart := false }
def FnExactBottlesInSaid : Prop := fnExactBottlesInRow.holds Try.pinned (OpenSpec.ofChange fnExactBottlesInSpec)

/-- ITS FALSE NEIGHBOUR: 'it returns false'. Refute it at one input. -/
def fnExactBottlesInWrong : ChangeSpec := { name := "fnExactBottlesIn", fn := fun _ => fun
  | [d] => { results := [.lit (.bool false)], args := [d] }
  | _ => none }
def FnExactBottlesInWrongFalsely : Prop := fnExactBottlesInRow.holds Try.pinned (OpenSpec.ofChange fnExactBottlesInWrong)

/-- 'laws.FnExactCheckSwaps': WHATEVER THE INPUT: true; the input reads as it did. -/
def fnExactCheckSwapsSpec : ChangeSpec := { name := "fnExactCheckSwaps", fn := fun _ => fun
  | [d1, d2, d3] => { results := [.lit (.bool true)], args := [d1, d2, d3] }
  | _ => none }
def fnExactCheckSwapsRow : OpenClaim := { program := "ytkpaijbjbbgpmaa", sum := "6f971aca1186524a16a753d78142e1d3599a9a2389e491cb81db9140740bb33c", func := "loop.example/g01353/laws.FnExactCheckSwaps", spec := "fnExactCheckSwaps", unfollowed := true, recurses := true, apart := false }
def FnExactCheckSwapsSaid : Prop := fnExactCheckSwapsRow.holds Try.pinned (OpenSpec.ofChange fnExactCheckSwapsSpec)

/-- ITS FALSE NEIGHBOUR: 'it returns false'. Refute it at one input. -/
def fnExactCheckSwapsWrong : ChangeSpec := { name := "fnExactCheckSwaps", fn := fun _ => fun
  | [d1, d2, d3] => { results := [.lit (.bool false)], args := [d1, d2, d3] }
  | _ => none }
def FnExactCheckSwapsWrongFalsely : Prop := fnExactCheckSwapsRow.holds Try.pinned (OpenSpec.ofChange fnExactCheckSwapsWrong)

/- THE SECOND FORM. 'bulk': how many values and letters a reading holds, each counted each time it is reached (what is shared counts as often as it is met; a slice's spare places count too). A statement '..UptoSaid' is the law's where the arguments, and the package variables that the reading takes, are together of bulk at most 1048576: NARROWER than '..Said'. Prove '..Said' where nothing that the law and all that it calls make is longer than what came in: it says more and counts as full. Else prove '..UptoSaid'. A law counts once. -/
mutual
def uptoBulk {H : Type} : DataW H → Nat
  | .lit (.string bytes) => bytes.length + 1
  | .lit _ => 1
  | .nil => 1
  | .ptr d => uptoBulk d + 1
  | .slice elems spare => uptoBulkAll elems + uptoBulkAll spare + 1
  | .agg parts => uptoBulkAll parts + 1
  | .iface _ d => uptoBulk d + 1
  | .map entries => uptoBulkEntries entries + 1
  | .held _ => 1
def uptoBulkAll {H : Type} : List (DataW H) → Nat
  | [] => 0
  | d :: r => uptoBulk d + uptoBulkAll r
def uptoBulkEntries {H : Type} : List (Lit × DataW H) → Nat
  | [] => 0
  | x :: r => uptoBulkEntry x + uptoBulkEntries r
def uptoBulkEntry {H : Type} : Lit × DataW H → Nat
  | (.string bytes, d) => bytes.length + uptoBulk d + 1
  | (_, d) => uptoBulk d + 1
 end
def uptoSmall : (H : Type) → List (DataW H) → Bool := fun _ ds => decide (uptoBulkAll ds ≤ 1048576)
def OpenSpec.upto (s : _root_.Go.ChangeSpec) : _root_.Go.OpenSpec := { _root_.Go.OpenSpec.ofChange s with cond := some uptoSmall }

/-- 'laws.FnExactSameStack', WHERE WHAT IT READS IS OF BULK AT MOST 1048576: true; the input reads as it did. -/
def fnExactSameStackUptoRow : OpenClaim := { program := "ytkpaijbjbbgpmaa", sum := "6f971aca1186524a16a753d78142e1d3599a9a2389e491cb81db9140740bb33c", func := "loop.example/g01353/laws.FnExactSameStack", spec := "fnExactSameStack", apart := false, narrowed := true }
def FnExactSameStackUptoSaid : Prop := fnExactSameStackUptoRow.holds Try.pinned (OpenSpec.upto fnExactSameStackSpec)

/-- 'laws.FnExactTakeBottle', WHERE WHAT IT READS IS OF BULK AT MOST 1048576: true; the input reads as it did. -/
def fnExactTakeBottleUptoRow : OpenClaim := { program := "ytkpaijbjbbgpmaa", sum := "6f971aca1186524a16a753d78142e1d3599a9a2389e491cb81db9140740bb33c", func := "loop.example/g01353/laws.FnExactTakeBottle", spec := "fnExactTakeBottle", unfollowed := true, recurses := true, apart := false, narrowed := true }
def FnExactTakeBottleUptoSaid : Prop := fnExactTakeBottleUptoRow.holds Try.pinned (OpenSpec.upto fnExactTakeBottleSpec)

/-- 'laws.FnExactValidStack', WHERE WHAT IT READS IS OF BULK AT MOST 1048576: true; the input reads as it did. -/
def fnExactValidStackUptoRow : OpenClaim := { program := "ytkpaijbjbbgpmaa", sum := "6f971aca1186524a16a753d78142e1d3599a9a2389e491cb81db9140740bb33c", func := "loop.example/g01353/laws.FnExactValidStack", spec := "fnExactValidStack", unfollowed := true, recurses := true, apart := false, narrowed := true }
def FnExactValidStackUptoSaid : Prop := fnExactValidStackUptoRow.holds Try.pinned (OpenSpec.upto fnExactValidStackSpec)

/-- 'laws.FnExactAddBottle', WHERE WHAT IT READS IS OF BULK AT MOST 1048576: true; the input reads as it did. -/
def fnExactAddBottleUptoRow : OpenClaim := { program := "ytkpaijbjbbgpmaa", sum := "6f971aca1186524a16a753d78142e1d3599a9a2389e491cb81db9140740bb33c", func := "loop.example/g01353/laws.FnExactAddBottle", spec := "fnExactAddBottle", unfollowed := true, recurses := true, apart := false, narrowed := true }
def FnExactAddBottleUptoSaid : Prop := fnExactAddBottleUptoRow.holds Try.pinned (OpenSpec.upto fnExactAddBottleSpec)

/-- 'laws.FnExactDifferIn', WHERE WHAT IT READS IS OF BULK AT MOST 1048576: true; the input reads as it did. -/
def fnExactDifferInUptoRow : OpenClaim := { program := "ytkpaijbjbbgpmaa", sum := "6f971aca1186524a16a753d78142e1d3599a9a2389e491cb81db9140740bb33c", func := "loop.example/g01353/laws.FnExactDifferIn", spec := "fnExactDifferIn", unfollowed := true, recurses := true, apart := false, narrowed := true }
def FnExactDifferInUptoSaid : Prop := fnExactDifferInUptoRow.holds Try.pinned (OpenSpec.upto fnExactDifferInSpec)

/-- 'laws.FnExactFreePlaces', WHERE WHAT IT READS IS OF BULK AT MOST 1048576: true; the input reads as it did. -/
def fnExactFreePlacesUptoRow : OpenClaim := { program := "ytkpaijbjbbgpmaa", sum := "6f971aca1186524a16a753d78142e1d3599a9a2389e491cb81db9140740bb33c", func := "loop.example/g01353/laws.FnExactFreePlaces", spec := "fnExactFreePlaces", unfollowed := true, recurses := true, apart := false, narrowed := true }
def FnExactFreePlacesUptoSaid : Prop := fnExactFreePlacesUptoRow.holds Try.pinned (OpenSpec.upto fnExactFreePlacesSpec)

/-- 'laws.FnExactSwapPlaces', WHERE WHAT IT READS IS OF BULK AT MOST 1048576: true; the input reads as it did. -/
def fnExactSwapPlacesUptoRow : OpenClaim := { program := "ytkpaijbjbbgpmaa", sum := "6f971aca1186524a16a753d78142e1d3599a9a2389e491cb81db9140740bb33c", func := "loop.example/g01353/laws.FnExactSwapPlaces", spec := "fnExactSwapPlaces", unfollowed := true, recurses := true, apart := false, narrowed := true }
def FnExactSwapPlacesUptoSaid : Prop := fnExactSwapPlacesUptoRow.holds Try.pinned (OpenSpec.upto fnExactSwapPlacesSpec)

/-- 'laws.FnExactMoveBottle', WHERE WHAT IT READS IS OF BULK AT MOST 1048576: true; the input reads as it did. -/
def fnExactMoveBottleUptoRow : OpenClaim := { program := "ytkpaijbjbbgpmaa", sum := "6f971aca1186524a16a753d78142e1d3599a9a2389e491cb81db9140740bb33c", func := "loop.example/g01353/laws.FnExactMoveBottle", spec := "fnExactMoveBottle", unfollowed := true, recurses := true, apart := false, narrowed := true }
def FnExactMoveBottleUptoSaid : Prop := fnExactMoveBottleUptoRow.holds Try.pinned (OpenSpec.upto fnExactMoveBottleSpec)

/-- 'laws.FnExactFillFrom', WHERE WHAT IT READS IS OF BULK AT MOST 1048576: true; the input reads as it did. -/
def fnExactFillFromUptoRow : OpenClaim := { program := "ytkpaijbjbbgpmaa", sum := "6f971aca1186524a16a753d78142e1d3599a9a2389e491cb81db9140740bb33c", func := "loop.example/g01353/laws.FnExactFillFrom", spec := "fnExactFillFrom", unfollowed := true, recurses := true, apart := false, narrowed := true }
def FnExactFillFromUptoSaid : Prop := fnExactFillFromUptoRow.holds Try.pinned (OpenSpec.upto fnExactFillFromSpec)

/-- 'laws.FnExactCountOf', WHERE WHAT IT READS IS OF BULK AT MOST 1048576: true; the input reads as it did. -/
def fnExactCountOfUptoRow : OpenClaim := { program := "ytkpaijbjbbgpmaa", sum := "6f971aca1186524a16a753d78142e1d3599a9a2389e491cb81db9140740bb33c", func := "loop.example/g01353/laws.FnExactCountOf", spec := "fnExactCountOf", unfollowed := true, recurses := true, apart := false, narrowed := true }
def FnExactCountOfUptoSaid : Prop := fnExactCountOfUptoRow.holds Try.pinned (OpenSpec.upto fnExactCountOfSpec)

/-- 'laws.FnExactBottlesIn', WHERE WHAT IT READS IS OF BULK AT MOST 1048576: true; the input reads as it did. -/
def fnExactBottlesInUptoRow : OpenClaim := { program := "ytkpaijbjbbgpmaa", sum := "6f971aca1186524a16a753d78142e1d3599a9a2389e491cb81db9140740bb33c", func := "loop.example/g01353/laws.FnExactBottlesIn", spec := "fnExactBottlesIn", unfollowed := true, recurses := true, apart := false, narrowed := true }
def FnExactBottlesInUptoSaid : Prop := fnExactBottlesInUptoRow.holds Try.pinned (OpenSpec.upto fnExactBottlesInSpec)

/-- 'laws.FnExactCheckSwaps', WHERE WHAT IT READS IS OF BULK AT MOST 1048576: true; the input reads as it did. -/
def fnExactCheckSwapsUptoRow : OpenClaim := { program := "ytkpaijbjbbgpmaa", sum := "6f971aca1186524a16a753d78142e1d3599a9a2389e491cb81db9140740bb33c", func := "loop.example/g01353/laws.FnExactCheckSwaps", spec := "fnExactCheckSwaps", unfollowed := true, recurses := true, apart := false, narrowed := true }
def FnExactCheckSwapsUptoSaid : Prop := fnExactCheckSwapsUptoRow.holds Try.pinned (OpenSpec.upto fnExactCheckSwapsSpec)

end Rows
end Go.Proofs.Ytkpaijbjbbgpmaa
