/- Contracts of PlaceOf: the first place with a bottle. -/
import Derived.Test.YtbngpcghognojaaDoorFunc
import Derived.Lib.SlBy
import Derived.Test.YtbngpcghognojaaDoorTail
namespace Go.Proofs.YtbngpcghognojaaDoor
open Go.RowKit
set_option linter.unusedVariables false
set_option linter.unusedSimpArgs false
set_option maxRecDepth 100000
set_option maxHeartbeats 1000000
attribute [local go_sem] Oper.qB
theorem like_comm (a b : Bt) : a.like b = b.like a := by
  rw [Bool.eq_iff_iff, Bt.like_iff, Bt.like_iff]
  exact ⟨Eq.symm, Eq.symm⟩
/-- The first place with the bottle, or -1. -/
def firstI (c : Cr) (b : Bt) : Int := Lib.idxBy Bt.like c.toList b
theorem firstI_hit {c : Cr} {b : Bt} {k : Nat} (hk : k < 12) (h : (rB c.toList k).like b = true) (hne : ∀ j, j < k → (rB c.toList j).like b = false) : firstI c b = k := by
  have hl : c.toList.length = 12 := Vector.length_toList
  have e : ∀ j, j < 12 → c.toList[j]! = rB c.toList j := fun j hj => by rw [rB_lt (by omega), getElem!_pos c.toList j (by omega)]
  have := Lib.idxBy_hit Bt.like c.toList 12 k b hk (by omega) (by rw [e k hk, like_comm]; exact h) (fun j hj => by rw [e j (by omega), like_comm]; exact hne j hj)
  rwa [List.take_of_length_le (by omega)] at this
theorem firstI_miss {c : Cr} {b : Bt} (hne : ∀ j, j < 12 → (rB c.toList j).like b = false) : firstI c b = -1 := by
  have hl : c.toList.length = 12 := Vector.length_toList
  have e : ∀ j, j < 12 → c.toList[j]! = rB c.toList j := fun j hj => by rw [rB_lt (by omega), getElem!_pos c.toList j (by omega)]
  have := Lib.idxBy_miss Bt.like c.toList 12 b (fun j hj => by rw [e j hj, like_comm]; exact hne j hj)
  rwa [List.take_of_length_le (by omega)] at this
theorem firstI_full (c : Cr) (b : Bt) : (firstI c b = -1 ∧ ∀ j, j < 12 → (rB c.toList j).like b = false) ∨ ∃ k : Nat, k < 12 ∧ firstI c b = k ∧ (rB c.toList k).like b = true ∧ ∀ j, j < k → (rB c.toList j).like b = false := by
  by_cases h : ∃ k, k < 12 ∧ (rB c.toList k).like b = true
  · have hP : ∃ k, k < 12 ∧ (rB c.toList k).like b = true ∧ ∀ j, j < k → (rB c.toList j).like b = false := by
      obtain ⟨k, hk⟩ := h
      induction k using Nat.strongRecOn with
      | _ k ih =>
        by_cases hj : ∃ j, j < k ∧ (rB c.toList j).like b = true
        · obtain ⟨j, hj, hl⟩ := hj
          exact ih j hj ⟨by omega, hl⟩
        · refine ⟨k, hk.1, hk.2, fun j hjk => ?_⟩
          cases e : (rB c.toList j).like b with
          | false => rfl
          | true => exact absurd ⟨j, hjk, e⟩ hj
    obtain ⟨k, hk, h1, h2⟩ := hP
    exact .inr ⟨k, hk, firstI_hit hk h1 h2, h1, h2⟩
  · have hn : ∀ j, j < 12 → (rB c.toList j).like b = false := fun j hj => by
      cases e : (rB c.toList j).like b with
      | false => rfl
      | true => exact absurd ⟨j, hj, e⟩ h
    exact .inl ⟨firstI_miss hn, hn⟩
theorem firstI_cases (c : Cr) (b : Bt) : firstI c b = -1 ∨ ∃ k : Nat, k < 12 ∧ firstI c b = k ∧ rB c.toList k = b := by
  rcases firstI_full c b with ⟨h, _⟩ | ⟨k, hk, h1, h2, _⟩
  · exact .inl h
  · exact .inr ⟨k, hk, h1, Bt.like_iff.1 h2⟩
theorem run_eqB (x y : Bt) (w : World) : (binOp .eql 26 (bv x) (bv y)).run Tryd.prog w = .ok (.bool (x.like y)) w := by
  simp [binOp, Op.equal, Op.maxDepth, eqB, Bt.like]
end Go.Proofs.YtbngpcghognojaaDoor
