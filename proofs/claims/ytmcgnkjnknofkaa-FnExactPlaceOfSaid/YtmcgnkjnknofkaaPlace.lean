/- Contracts of PlaceOf: the first place with a bottle. -/
import Derived.Test.YtmcgnkjnknofkaaFunc
import Derived.Lib.SlBy
import Derived.Test.YtmcgnkjnknofkaaTail
namespace Go.Proofs.Ytmcgnkjnknofkaa
open Go.RowKit
set_option linter.unusedVariables false
set_option linter.unusedSimpArgs false
set_option maxRecDepth 100000
set_option maxHeartbeats 1000000
attribute [local go_sem] Oper.qB
theorem like_comm (a b : Bt) : a.like b = b.like a := by
  rw [Bool.eq_iff_iff, Bt.like_iff, Bt.like_iff]
  exact ⟨Eq.symm, Eq.symm⟩
/-- The first place with the bottle, or -1. -/
def firstI (c : Cr) (b : Bt) : Int := Lib.idxBy Bt.like c.toList b
theorem firstI_hit {c : Cr} {b : Bt} {k : Nat} (hk : k < 12) (h : (rB c.toList k).like b = true) (hne : ∀ j, j < k → (rB c.toList j).like b = false) : firstI c b = k := by
  have hl : c.toList.length = 12 := Vector.length_toList
  have e : ∀ j, j < 12 → c.toList[j]! = rB c.toList j := fun j hj => by rw [rB_lt (by omega), getElem!_pos c.toList j (by omega)]
  have := Lib.idxBy_hit Bt.like c.toList 12 k b hk (by omega) (by rw [e k hk, like_comm]; exact h) (fun j hj => by rw [e j (by omega), like_comm]; exact hne j hj)
  rwa [List.take_of_length_le (by omega)] at this
theorem firstI_miss {c : Cr} {b : Bt} (hne : ∀ j, j < 12 → (rB c.toList j).like b = false) : firstI c b = -1 := by
  have hl : c.toList.length = 12 := Vector.length_toList
  have e : ∀ j, j < 12 → c.toList[j]! = rB c.toList j := fun j hj => by rw [rB_lt (by omega), getElem!_pos c.toList j (by omega)]
  have := Lib.idxBy_miss Bt.like c.toList 12 b (fun j hj => by rw [e j hj, like_comm]; exact hne j hj)
  rwa [List.take_of_length_le (by omega)] at this
theorem firstI_cases (c : Cr) (b : Bt) : firstI c b = -1 ∨ ∃ k : Nat, k < 12 ∧ firstI c b = k ∧ rB c.toList k = b := by
  by_cases h : ∃ k, k < 12 ∧ (rB c.toList k).like b = true
  · have hP : ∃ k, k < 12 ∧ (rB c.toList k).like b = true ∧ ∀ j, j < k → (rB c.toList j).like b = false := by
      obtain ⟨k, hk⟩ := h
      induction k using Nat.strongRecOn with
      | _ k ih =>
        by_cases hj : ∃ j, j < k ∧ (rB c.toList j).like b = true
        · obtain ⟨j, hj, hl⟩ := hj
          exact ih j hj ⟨by omega, hl⟩
        · refine ⟨k, hk.1, hk.2, fun j hjk => ?_⟩
          cases e : (rB c.toList j).like b with
          | false => rfl
          | true => exact absurd ⟨j, hjk, e⟩ hj
    obtain ⟨k, hk, h1, h2⟩ := hP
    exact .inr ⟨k, hk, firstI_hit hk h1 h2, Bt.like_iff.1 h1⟩
  · refine .inl (firstI_miss fun j hj => ?_)
    cases e : (rB c.toList j).like b with
    | false => rfl
    | true => exact absurd ⟨j, hj, e⟩ h
theorem run_eqB (x y : Bt) (w : World) : (binOp .eql 33 (bv x) (bv y)).run Try.prog w = .ok (.bool (x.like y)) w := by
  simp [binOp, Op.equal, Op.maxDepth, eqB, Bt.like]
theorem Index_bot (c : Cr) (b : Bt) (g cap : Nat) {W w : World} (H : Below W.heap.size W w) (hr : rowOf W g = some (cc c).toArray) :
    Calls Try.prog 56 #[.slice (some ⟨g, 0, none⟩) 12 cap, bv b] w fun e w' => e = .returned (.int .i64 (firstI c b)) ∧ Below w.heap.size w w' := by
  have hl : c.toList.length = 12 := Vector.length_toList
  have hC : CAt w g 0 (bcs c.toList) := CAt.of_row (row_kept hr H)
  have := AnyQ.slices_Index Try.lx56 2 Try.isAgg33 Try.sizeOf33 bc (fun _ => rfl) Bt.like ⟨run_eqB, GuardAt.agg (fun b => (bc b).toArray) (by kernel_rfl)⟩ g 0 12 cap c.toList b w (by omega) (by omega) (bc_cells hC)
  rw [List.take_of_length_le (by omega)] at this
  refine this.mono ?_
  rintro e w' ⟨rfl, q, rfl⟩
  exact ⟨rfl, bdrewN ((Below.refl _ _).alloc (Nat.le_refl _) _) q⟩
attribute [local go_sem high] eqB
theorem l01First_row {W w : World} {g : Nat} {c : Cr} (b : Bt) (H : Below W.heap.size W w) (hr : rowOf W g = some (cc c).toArray) : Calls Try.prog 55 #[.pointer (some ⟨g, 0, none⟩), bv b] w fun e w' => e = .returned (.int .i64 (firstI c b)) ∧ Below w.heap.size w w' := by
  have hu := Try.underlying33
  have HR := Lib.hid (row_kept hr H)
  clear hr H
  have HL := Lib.hid (Vector.length_toList (xs := c))
  go_enter Try.func55, Try.ntmps55
  go_wp2
  have HG := Lib.hid (rowOf_lt HR.out)
  generalize hW : World.alloc _ _ = W1
  have HB : Hid (Below w.heap.size w W1) := by show Below _ _ _; rw [← hW]; go_grown
  have y0 : W1.cell? ⟨w.heap.size, 0, none⟩ = some (.int .u8 b.k) := by rw [← hW]; simp [go_sem]
  have y1 : W1.cell? ⟨w.heap.size, 1, none⟩ = some (.int .i16 b.y) := by rw [← hW]; simp [go_sem]
  have HR1 := Lib.hid (row_kept HR.out HB.out)
  clear hW
  generalize hB0 : w.heap.size = B at y0 y1 HB HG
  go_loopw [5] (fun i wr => ∃ k : Nat, k ≤ 12 ∧ i = .int .i64 k ∧ Hid (∀ j, j < k → (rB c.toList j).like b = false) ∧ ∃ n, wr = W1.drewN n) (fun i _ => 12 - (intOf i).toNat)
  case atStart => exact ⟨0, by omega, rfl, Lib.hid (fun j hj => by omega), 0, rfl⟩
  case round =>
    obtain ⟨k, hk, rfl, HN, n, rfl⟩ := hrel
    by_cases hlt : k < 12
    · have hkl : k < c.toList.length := by rw [HL.out]; exact hlt
      have x0 := row0 HR1.out hkl
      have x1 := row1 HR1.out hkl
      have HS : Hid ((rB c.toList k).like b = false → ∀ j, j < k + 1 → (rB c.toList j).like b = false) := fun h j hj => by
        rcases Nat.lt_or_ge j k with h' | h'
        · exact HN.out j h'
        · rwa [show j = k by omega]
      have HH : Hid ((rB c.toList k).like b = true → firstI c b = k) := fun h => firstI_hit hlt h HN.out
      clear hkl HN
      generalize rB c.toList k = b' at x0 x1 HS HH
      cases e1 : b'.like b with
      | true =>
        have e2 : (b'.k == b.k && b'.y == b.y) = true := e1
        have HF := Lib.hid (HH.out e1)
        clear e1 HH HS
        go_wp2
        go_quiet (fail)
        go_wp2
        go_ret
        exact ⟨ret_int HF.out.symm, by rw [hB0]; exact bdrewN (bdrewN HB.out _) _⟩
      | false =>
        have e2 : (b'.k == b.k && b'.y == b.y) = false := e1
        have HF := Lib.hid (HS.out e1)
        clear e1 HH HS
        go_wp2
        go_quiet (fail)
        go_wp2
        go_roundw
        case rel => exact ⟨k + 1, by omega, by go_num, HF, n + nq, rfl⟩
        case measure => simp [intOf]; omega
    · obtain rfl : k = 12 := by omega
      have HF := Lib.hid (firstI_miss HN.out)
      clear HN
      go_wp2
      go_ret
      exact ⟨ret_int HF.out.symm, by rw [hB0]; exact bdrewN HB.out n⟩
/-- What PlaceOf comes to. -/
def placeR (c : Cr) (b : Bt) : Int × Int := if (c.ok && b.ok) = false then (0, 1) else if firstI c b < 0 then (0, 6) else (firstI c b, 0)
theorem sPlaceOf_any (c : Cr) (b : Bt) (w : World) : Calls Try.prog 34 #[cv c, bv b] w fun e w' => e = .returned (.tuple #[.int .i64 (placeR c b).1, .int .i64 (placeR c b).2]) ∧ Below w.heap.size w w' := by
  go_enter Try.func34, Try.ntmps34
  go_upto_region 1 with fail
  generalize hW : World.alloc _ _ = W
  have H0 : Below w.heap.size w W := by rw [← hW]; go_grown
  have r0 : rowOf W (w.heap.size) = some ((cc c).toArray) := (by (try rw [← hW]); simp only [rowOf_alloc, World.size_alloc, ↓reduceIte]; all_goals ((repeat' split) <;> first | omega | (exfalso; omega) | rfl))
  have r1 : rowOf W (w.heap.size + 1) = some (#[.int .u8 b.k, .int .i16 b.y]) := (by (try rw [← hW]); simp only [rowOf_alloc, World.size_alloc, ↓reduceIte]; all_goals ((repeat' split) <;> first | omega | (exfalso; omega) | rfl))
  clear hW
  have q0 : w.heap.size < w.heap.size + 1 := by omega
  have l0 : w.heap.size ≤ w.heap.size := Nat.le_refl _
  generalize w.heap.size + 1 = g1 at r1 q0 ⊢
  generalize h0 : w.heap.size = g0 at r0 q0 ⊢
  replace l0 : w.heap.size ≤ g0 := Nat.le_of_eq h0
  clear h0
  have b0 := rowOf_lt r0
  have b1 := rowOf_lt r1
  have H := Below.refl W.heap.size W
  cases e1 : c.ok with
  | false =>
    have HF := Lib.hid (show placeR c b = (0, 1) by simp [placeR, e1])
    go_wp2_with (first | ((with_reducible refine wp_load_rowBg H ?_ _ _ rfl _ rfl _ r0 _ Try.underlying39 rfl (infoC c) ?_); rfl) | ((with_reducible refine wp_load_rowBg H ?_ _ _ rfl _ rfl _ r1 _ Try.underlying33 rfl (infoB _ _) ?_); rfl) | (go_at_call 47; refine (l01Ok_row H r0).mono ?_; rintro e w' ⟨rfl, hb⟩; replace H := bstep H hb; clear hb; have hc := bcell H) | (go_at_call 46; refine (l01Bottle_any b _).mono ?_; rintro e w' ⟨rfl, hb⟩; replace H := bstep H hb; clear hb; have hc := bcell H) | (go_at_call 55; refine (l01First_row b H r0).mono ?_; rintro e w' ⟨rfl, hb⟩; replace H := bstep H hb; clear hb; have hc := bcell H))
    refine bodyPost_ret (results_tt rfl) rfl ⟨?_, bstep H0 H⟩
    rw [HF.out]
    rfl
  | true =>
    cases e2 : b.ok with
    | false =>
      have HF := Lib.hid (show placeR c b = (0, 1) by simp [placeR, e1, e2])
      go_wp2_with (first | ((with_reducible refine wp_load_rowBg H ?_ _ _ rfl _ rfl _ r0 _ Try.underlying39 rfl (infoC c) ?_); rfl) | ((with_reducible refine wp_load_rowBg H ?_ _ _ rfl _ rfl _ r1 _ Try.underlying33 rfl (infoB _ _) ?_); rfl) | (go_at_call 47; refine (l01Ok_row H r0).mono ?_; rintro e w' ⟨rfl, hb⟩; replace H := bstep H hb; clear hb; have hc := bcell H) | (go_at_call 46; refine (l01Bottle_any b _).mono ?_; rintro e w' ⟨rfl, hb⟩; replace H := bstep H hb; clear hb; have hc := bcell H) | (go_at_call 55; refine (l01First_row b H r0).mono ?_; rintro e w' ⟨rfl, hb⟩; replace H := bstep H hb; clear hb; have hc := bcell H))
      refine bodyPost_ret (results_tt rfl) rfl ⟨?_, bstep H0 H⟩
      rw [HF.out]
      rfl
    | true =>
      have HF := Lib.hid (show placeR c b = if firstI c b < 0 then (0, 6) else (firstI c b, 0) by simp [placeR, e1, e2])
      have HC := firstI_cases c b
      generalize hn : firstI c b = n at HF HC
      have hF : ∀ w g, rowOf w g = some (cc c).toArray → Calls Try.prog 55 #[.pointer (some ⟨g, 0, none⟩), bv b] w fun e w' => e = .returned (.int .i64 n) ∧ Below w.heap.size w w' := fun w g h => by rw [← hn]; exact l01First_row b (Below.refl _ _) h
      clear hn
      rcases HC with rfl | ⟨k, hk, rfl, -⟩
      · go_wp2_with (first | ((with_reducible refine wp_load_rowBg H ?_ _ _ rfl _ rfl _ r1 _ Try.underlying33 rfl (infoB _ _) ?_); rfl) | (go_at_call 47; refine (l01Ok_row H r0).mono ?_; rintro e w' ⟨rfl, hb⟩; replace H := bstep H hb; clear hb; have hc := bcell H) | (go_at_call 46; refine (l01Bottle_any b _).mono ?_; rintro e w' ⟨rfl, hb⟩; replace H := bstep H hb; clear hb; have hc := bcell H) | (go_at_call 55; refine (hF _ _ (row_kept r0 H)).mono ?_; rintro e w' ⟨rfl, hb⟩; replace H := bstep H hb; clear hb; have hc := bcell H))
        refine bodyPost_ret (results_tt rfl) rfl ⟨?_, bstep H0 H⟩
        rw [HF.out]
        rfl
      · have HF' := Lib.hid (HF.out.trans (if_neg (by omega)))
        clear HF
        go_wp2_with (first | ((with_reducible refine wp_load_rowBg H ?_ _ _ rfl _ rfl _ r1 _ Try.underlying33 rfl (infoB _ _) ?_); rfl) | (go_at_call 47; refine (l01Ok_row H r0).mono ?_; rintro e w' ⟨rfl, hb⟩; replace H := bstep H hb; clear hb; have hc := bcell H) | (go_at_call 46; refine (l01Bottle_any b _).mono ?_; rintro e w' ⟨rfl, hb⟩; replace H := bstep H hb; clear hb; have hc := bcell H) | (go_at_call 55; refine (hF _ _ (row_kept r0 H)).mono ?_; rintro e w' ⟨rfl, hb⟩; replace H := bstep H hb; clear hb; have hc := bcell H))
        refine bodyPost_ret (results_tt rfl) rfl ⟨?_, bstep H0 H⟩
        rw [HF'.out]
        rfl
theorem PlaceOf_any (c : Cr) (b : Bt) (w : World) : Calls Try.prog 35 #[cv c, bv b] w fun e w' => e = .returned (.tuple #[.int .i64 (placeR c b).1, .int .i64 (placeR c b).2]) ∧ Below w.heap.size w w' := by
  go_enter Try.func35, Try.ntmps35
  go_upto_region 1 with fail
  generalize hW : World.alloc _ _ = W
  have H0 : Below w.heap.size w W := by rw [← hW]; go_grown
  have r0 : rowOf W (w.heap.size) = some ((cc c).toArray) := (by (try rw [← hW]); simp only [rowOf_alloc, World.size_alloc, ↓reduceIte]; all_goals ((repeat' split) <;> first | omega | (exfalso; omega) | rfl))
  have r1 : rowOf W (w.heap.size + 1) = some (#[.int .u8 b.k, .int .i16 b.y]) := (by (try rw [← hW]); simp only [rowOf_alloc, World.size_alloc, ↓reduceIte]; all_goals ((repeat' split) <;> first | omega | (exfalso; omega) | rfl))
  clear hW
  have q0 : w.heap.size < w.heap.size + 1 := by omega
  have l0 : w.heap.size ≤ w.heap.size := Nat.le_refl _
  generalize w.heap.size + 1 = g1 at r1 q0 ⊢
  generalize h0 : w.heap.size = g0 at r0 q0 ⊢
  replace l0 : w.heap.size ≤ g0 := Nat.le_of_eq h0
  clear h0
  have b0 := rowOf_lt r0
  have b1 := rowOf_lt r1
  have H := Below.refl W.heap.size W
  cases e1 : c.ok with
  | false =>
    have HF := Lib.hid (show placeR c b = (0, 1) by simp [placeR, e1])
    go_wp2_with (first | ((with_reducible refine wp_load_rowBg H ?_ _ _ rfl _ rfl _ r0 _ Try.underlying39 rfl (infoC c) ?_); rfl) | ((with_reducible refine wp_load_rowBg H ?_ _ _ rfl _ rfl _ r1 _ Try.underlying33 rfl (infoB _ _) ?_); rfl) | (go_at_call 26; refine (ValidCrate_any c _).mono ?_; rintro e w' ⟨rfl, hb⟩; replace H := bstep H hb; clear hb; have hc := bcell H) | (go_at_call 23; refine (ValidBottle_any b _).mono ?_; rintro e w' ⟨rfl, hb⟩; replace H := bstep H hb; clear hb; have hc := bcell H))
    refine bodyPost_ret (results_tt rfl) rfl ⟨?_, bstep H0 H⟩
    rw [HF.out]
    rfl
  | true =>
    cases e2 : b.ok with
    | false =>
      have HF := Lib.hid (show placeR c b = (0, 1) by simp [placeR, e1, e2])
      go_wp2_with (first | ((with_reducible refine wp_load_rowBg H ?_ _ _ rfl _ rfl _ r0 _ Try.underlying39 rfl (infoC c) ?_); rfl) | ((with_reducible refine wp_load_rowBg H ?_ _ _ rfl _ rfl _ r1 _ Try.underlying33 rfl (infoB _ _) ?_); rfl) | (go_at_call 26; refine (ValidCrate_any c _).mono ?_; rintro e w' ⟨rfl, hb⟩; replace H := bstep H hb; clear hb; have hc := bcell H) | (go_at_call 23; refine (ValidBottle_any b _).mono ?_; rintro e w' ⟨rfl, hb⟩; replace H := bstep H hb; clear hb; have hc := bcell H))
      refine bodyPost_ret (results_tt rfl) rfl ⟨?_, bstep H0 H⟩
      rw [HF.out]
      rfl
    | true =>
      have HF := Lib.hid (show placeR c b = if firstI c b < 0 then (0, 6) else (firstI c b, 0) by simp [placeR, e1, e2])
      have HC := firstI_cases c b
      generalize hn : firstI c b = n at HF HC
      have hF : ∀ w g cap, rowOf w g = some (cc c).toArray → Calls Try.prog 56 #[.slice (some ⟨g, 0, none⟩) 12 cap, bv b] w fun e w' => e = .returned (.int .i64 n) ∧ Below w.heap.size w w' := fun w g cap h => by rw [← hn]; exact Index_bot c b g cap (Below.refl _ _) h
      clear hn
      go_upto_region 3 with (first | ((with_reducible refine wp_load_rowBg H ?_ _ _ rfl _ rfl _ r0 _ Try.underlying39 rfl (infoC c) ?_); rfl) | ((with_reducible refine wp_load_rowBg H ?_ _ _ rfl _ rfl _ r1 _ Try.underlying33 rfl (infoB _ _) ?_); rfl) | (go_at_call 26; refine (ValidCrate_any c _).mono ?_; rintro e w' ⟨rfl, hb⟩; replace H := bstep H hb; clear hb; have hc := bcell H) | (go_at_call 23; refine (ValidBottle_any b _).mono ?_; rintro e w' ⟨rfl, hb⟩; replace H := bstep H hb; clear hb; have hc := bcell H))
      replace r0 := row_kept r0 H
      replace r1 := row_kept r1 H
      replace H0 := bstep H0 H
      replace H := below_self H
      refine wp_region_qB (by kernel_rfl) (by kernel_rfl) ?_
      (repeat (first | (refine qB_load_row H rfl _ _ rfl _ rfl _ r1 _ Try.underlying33 rfl (infoB _ _) ?_) | (refine qB_step (fun K hK => ?_); go_simp; first | (refine hK _ ?_; clear hK K) | (apply Exists.intro; refine ⟨fun _ => ?_, hK _ ?_⟩; (first | (go_at_call 56; exact hF _ _ _ (row_kept r0 (below_regrown _ _ _)))); clear hK K))))
      refine qB_nil ?_
      intro w1 hw1
      replace H := bstep H hw1
      clear hw1
      rcases HC with rfl | ⟨k, hk, rfl, -⟩
      · go_wp2
        refine bodyPost_ret (results_tt rfl) rfl ⟨?_, bstep H0 H⟩
        rw [HF.out]
        rfl
      · have HF' := Lib.hid (HF.out.trans (if_neg (by omega)))
        clear HF
        go_wp2
        refine bodyPost_ret (results_tt rfl) rfl ⟨?_, bstep H0 H⟩
        rw [HF'.out]
        rfl
end Go.Proofs.Ytmcgnkjnknofkaa
