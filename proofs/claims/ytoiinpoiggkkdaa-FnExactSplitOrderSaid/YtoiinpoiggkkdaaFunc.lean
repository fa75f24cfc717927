/- The program's ValidCrate, by the library's ContainsFunc. -/
import Derived.Test.YtoiinpoiggkkdaaCrate
import Derived.Test.YtoiinpoiggkkdaaShelf
namespace Go.Proofs.Ytoiinpoiggkkdaa
open Go.RowKit
set_option linter.unusedVariables false
set_option linter.unusedSimpArgs false
set_option maxRecDepth 100000
set_option maxHeartbeats 1000000
theorem bc_cells {w : World} {b off : Nat} {l : List Bt} (h : CAt w b off (bcs l)) : ∀ j, j < l.length → ∀ i v, (bc l[j]!)[i]? = some v → w.cell? ⟨b, off + j * 2 + i, none⟩ = some v := by
  intro j hj i v hi
  have e : l[j]! = rB l j := by rw [rB_lt hj, getElem!_pos l j hj]
  rw [e] at hi
  match i, hi with
  | 0, hi =>
    simp only [bc, List.getElem?_cons_zero, Option.some.injEq] at hi
    subst hi
    exact h.bot0 hj
  | 1, hi =>
    simp only [bc, List.getElem?_cons_succ, List.getElem?_cons_zero, Option.some.injEq] at hi
    subst hi
    exact h.bot1 hj
  | i + 2, hi => simp [bc] at hi
end Go.Proofs.Ytoiinpoiggkkdaa
