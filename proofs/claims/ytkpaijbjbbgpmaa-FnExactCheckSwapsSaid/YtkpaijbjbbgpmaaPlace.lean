/- Contracts of PlaceOf: the first place with a bottle. -/
import Derived.Test.YtkpaijbjbbgpmaaFunc
import Derived.Lib.SlBy
import Derived.Test.YtkpaijbjbbgpmaaTail
namespace Go.Proofs.Ytkpaijbjbbgpmaa
open Go.RowKit
set_option linter.unusedVariables false
set_option linter.unusedSimpArgs false
set_option maxRecDepth 100000
set_option maxHeartbeats 1000000
attribute [local go_sem] Oper.qB
theorem like_comm (a b : Bt) : a.like b = b.like a := by
  rw [Bool.eq_iff_iff, Bt.like_iff, Bt.like_iff]
  exact ⟨Eq.symm, Eq.symm⟩
/-- The first place with the bottle, or -1. -/
def firstI (c : Cr) (b : Bt) : Int := Lib.idxBy Bt.like c.toList b
theorem firstI_hit {c : Cr} {b : Bt} {k : Nat} (hk : k < 12) (h : (rB c.toList k).like b = true) (hne : ∀ j, j < k → (rB c.toList j).like b = false) : firstI c b = k := by
  have hl : c.toList.length = 12 := Vector.length_toList
  have e : ∀ j, j < 12 → c.toList[j]! = rB c.toList j := fun j hj => by rw [rB_lt (by omega), getElem!_pos c.toList j (by omega)]
  have := Lib.idxBy_hit Bt.like c.toList 12 k b hk (by omega) (by rw [e k hk, like_comm]; exact h) (fun j hj => by rw [e j (by omega), like_comm]; exact hne j hj)
  rwa [List.take_of_length_le (by omega)] at this
theorem firstI_miss {c : Cr} {b : Bt} (hne : ∀ j, j < 12 → (rB c.toList j).like b = false) : firstI c b = -1 := by
  have hl : c.toList.length = 12 := Vector.length_toList
  have e : ∀ j, j < 12 → c.toList[j]! = rB c.toList j := fun j hj => by rw [rB_lt (by omega), getElem!_pos c.toList j (by omega)]
  have := Lib.idxBy_miss Bt.like c.toList 12 b (fun j hj => by rw [e j hj, like_comm]; exact hne j hj)
  rwa [List.take_of_length_le (by omega)] at this
theorem firstI_full (c : Cr) (b : Bt) : (firstI c b = -1 ∧ ∀ j, j < 12 → (rB c.toList j).like b = false) ∨ ∃ k : Nat, k < 12 ∧ firstI c b = k ∧ (rB c.toList k).like b = true ∧ ∀ j, j < k → (rB c.toList j).like b = false := by
  by_cases h : ∃ k, k < 12 ∧ (rB c.toList k).like b = true
  · have hP : ∃ k, k < 12 ∧ (rB c.toList k).like b = true ∧ ∀ j, j < k → (rB c.toList j).like b = false := by
      obtain ⟨k, hk⟩ := h
      induction k using Nat.strongRecOn with
      | _ k ih =>
        by_cases hj : ∃ j, j < k ∧ (rB c.toList j).like b = true
        · obtain ⟨j, hj, hl⟩ := hj
          exact ih j hj ⟨by omega, hl⟩
        · refine ⟨k, hk.1, hk.2, fun j hjk => ?_⟩
          cases e : (rB c.toList j).like b with
          | false => rfl
          | true => exact absurd ⟨j, hjk, e⟩ hj
    obtain ⟨k, hk, h1, h2⟩ := hP
    exact .inr ⟨k, hk, firstI_hit hk h1 h2, h1, h2⟩
  · have hn : ∀ j, j < 12 → (rB c.toList j).like b = false := fun j hj => by
      cases e : (rB c.toList j).like b with
      | false => rfl
      | true => exact absurd ⟨j, hj, e⟩ h
    exact .inl ⟨firstI_miss hn, hn⟩
theorem firstI_cases (c : Cr) (b : Bt) : firstI c b = -1 ∨ ∃ k : Nat, k < 12 ∧ firstI c b = k ∧ rB c.toList k = b := by
  rcases firstI_full c b with ⟨h, _⟩ | ⟨k, hk, h1, h2, _⟩
  · exact .inl h
  · exact .inr ⟨k, hk, h1, Bt.like_iff.1 h2⟩
theorem run_eqB (x y : Bt) (w : World) : (binOp .eql 32 (bv x) (bv y)).run Try.prog w = .ok (.bool (x.like y)) w := by
  simp [binOp, Op.equal, Op.maxDepth, eqB, Bt.like]
attribute [local go_sem high] eqB
theorem l01First_row {W w : World} {g : Nat} {c : Cr} (b : Bt) (H : Below W.heap.size W w) (hr : rowOf W g = some (cc c).toArray) : Calls Try.prog 67 #[.pointer (some ⟨g, 0, none⟩), bv b] w fun e w' => e = .returned (.int .i64 (firstI c b)) ∧ Below w.heap.size w w' := by
  have hu := Try.underlying32
  have HR := Lib.hid (row_kept hr H)
  clear hr H
  have HL := Lib.hid (Vector.length_toList (xs := c))
  go_enter Try.func67, Try.ntmps67
  go_wp2
  have HG := Lib.hid (rowOf_lt HR.out)
  generalize hW : World.alloc _ _ = W1
  have HB : Hid (Below w.heap.size w W1) := by show Below _ _ _; rw [← hW]; go_grown
  have y0 : W1.cell? ⟨w.heap.size, 0, none⟩ = some (.int .u8 b.k) := by rw [← hW]; simp [go_sem]
  have y1 : W1.cell? ⟨w.heap.size, 1, none⟩ = some (.int .i16 b.y) := by rw [← hW]; simp [go_sem]
  have HR1 := Lib.hid (row_kept HR.out HB.out)
  clear hW
  generalize hB0 : w.heap.size = B at y0 y1 HB HG
  go_loopw [5] (fun i wr => ∃ k : Nat, k ≤ 12 ∧ i = .int .i64 k ∧ Hid (∀ j, j < k → (rB c.toList j).like b = false) ∧ ∃ n, wr = W1.drewN n) (fun i _ => 12 - (intOf i).toNat)
  case atStart => exact ⟨0, by omega, rfl, Lib.hid (fun j hj => by omega), 0, rfl⟩
  case round =>
    obtain ⟨k, hk, rfl, HN, n, rfl⟩ := hrel
    by_cases hlt : k < 12
    · have hkl : k < c.toList.length := by rw [HL.out]; exact hlt
      have x0 := row0 HR1.out hkl
      have x1 := row1 HR1.out hkl
      have HS : Hid ((rB c.toList k).like b = false → ∀ j, j < k + 1 → (rB c.toList j).like b = false) := fun h j hj => by
        rcases Nat.lt_or_ge j k with h' | h'
        · exact HN.out j h'
        · rwa [show j = k by omega]
      have HH : Hid ((rB c.toList k).like b = true → firstI c b = k) := fun h => firstI_hit hlt h HN.out
      clear hkl HN
      generalize rB c.toList k = b' at x0 x1 HS HH
      cases e1 : b'.like b with
      | true =>
        have e2 : (b'.k == b.k && b'.y == b.y) = true := e1
        have HF := Lib.hid (HH.out e1)
        clear e1 HH HS
        go_wp2
        go_quiet (fail)
        go_wp2
        go_ret
        exact ⟨ret_int HF.out.symm, by rw [hB0]; exact bdrewN (bdrewN HB.out _) _⟩
      | false =>
        have e2 : (b'.k == b.k && b'.y == b.y) = false := e1
        have HF := Lib.hid (HS.out e1)
        clear e1 HH HS
        go_wp2
        go_quiet (fail)
        go_wp2
        go_roundw
        case rel => exact ⟨k + 1, by omega, by go_num, HF, n + nq, rfl⟩
        case measure => simp [intOf]; omega
    · obtain rfl : k = 12 := by omega
      have HF := Lib.hid (firstI_miss HN.out)
      clear HN
      go_wp2
      go_ret
      exact ⟨ret_int HF.out.symm, by rw [hB0]; exact bdrewN HB.out n⟩
end Go.Proofs.Ytkpaijbjbbgpmaa
