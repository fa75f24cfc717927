/- Contracts of AddBottle. -/
import Derived.Test.YtkpaijbjbbgpmaaFree
import Derived.Test.YtkpaijbjbbgpmaaPlace
namespace Go.Proofs.Ytkpaijbjbbgpmaa
open Go.RowKit
set_option linter.unusedVariables false
set_option linter.unusedSimpArgs false
set_option maxRecDepth 100000
set_option maxHeartbeats 1000000
theorem em_like (b : Bt) : b.em = b.like zB := by simp [Bt.em, Bt.like, zB]
theorem pl_none {p : Bt → Bool} {l : List Bt} {k : Nat} (h : ∀ j, j < k → p (rB l j) = false) : pl p l k = [] := by
  induction k with
  | zero => rfl
  | succ k ih => rw [pl_no (h k (by omega)), ih fun j hj => h j (by omega)]
theorem pl_first {p : Bt → Bool} {l : List Bt} {k : Nat} (h : ∀ j, j < k → p (rB l j) = false) (hk : p (rB l k) = true) (m : Nat) : ∃ r, pl p l (k + 1 + m) = (k : Int) :: r := by
  induction m with
  | zero => exact ⟨[], by rw [Nat.add_zero, pl_yes hk, pl_none h]; rfl⟩
  | succ m ih =>
    obtain ⟨r, hr⟩ := ih
    rw [← Nat.add_assoc]
    cases hp : p (rB l (k + 1 + m)) with
    | true => exact ⟨_, by rw [pl_yes hp, hr]; rfl⟩
    | false => exact ⟨r, by rw [pl_no hp, hr]⟩
theorem free_first (c : Cr) : (firstI c zB = -1 ∧ freeI c = []) ∨ ∃ (k : Nat) (r : List Int), k < 12 ∧ firstI c zB = k ∧ freeI c = (k : Int) :: r := by
  rcases firstI_full c zB with ⟨h, hn⟩ | ⟨k, hk, h1, h2, h3⟩
  · exact .inl ⟨h, pl_none fun j hj => by rw [em_like]; exact hn j hj⟩
  · obtain ⟨r, hr⟩ := pl_first (p := Bt.em) (l := c.toList) (k := k) (fun j hj => by rw [em_like]; exact h3 j hj) (by rw [em_like]; exact h2) (11 - k)
    rw [show k + 1 + (11 - k) = 12 by omega] at hr
    exact .inr ⟨k, r, hk, h1, hr⟩
/-- What AddBottle comes to. -/
def addR (c : Cr) (b : Bt) : Cr × Int × Int := if (c.ok && b.ok) = false then (zC, 0, 1) else if firstI c zB < 0 then (zC, 0, 3) else (setC c (firstI c zB).toNat b, firstI c zB, 0)
theorem sAddBottle_any (c : Cr) (b : Bt) (w : World) : Calls Try.prog 27 #[cv c, bv b] w fun e w' => e = .returned (.tuple #[cv (addR c b).1, .int .i64 (addR c b).2.1, .int .i64 (addR c b).2.2]) ∧ Below w.heap.size w w' := by
  go_enter Try.func27, Try.ntmps27
  go_upto_region 1 with fail
  generalize hW : World.alloc _ _ = W
  have H0 : Below w.heap.size w W := by rw [← hW]; go_grown
  have r0 : rowOf W (w.heap.size) = some ((cc c).toArray) := (by (try rw [← hW]); simp only [rowOf_alloc, World.size_alloc, ↓reduceIte]; all_goals ((repeat' split) <;> first | omega | (exfalso; omega) | rfl))
  have r1 : rowOf W (w.heap.size + 1) = some (#[.int .u8 b.k, .int .i16 b.y]) := (by (try rw [← hW]); simp only [rowOf_alloc, World.size_alloc, ↓reduceIte]; all_goals ((repeat' split) <;> first | omega | (exfalso; omega) | rfl))
  have r2 : rowOf W (w.heap.size + 1 + 1) = some ((cc zC).toArray) := (by (try rw [← hW]); simp only [rowOf_alloc, World.size_alloc, ↓reduceIte]; all_goals ((repeat' split) <;> first | omega | (exfalso; omega) | rfl))
  clear hW
  have q0 : w.heap.size < w.heap.size + 1 := by omega
  have q1 : w.heap.size + 1 < w.heap.size + 1 + 1 := by omega
  have l0 : w.heap.size ≤ w.heap.size := Nat.le_refl _
  generalize w.heap.size + 1 + 1 = g2 at r2 q1 ⊢
  generalize w.heap.size + 1 = g1 at r1 q0 q1 ⊢
  generalize h0 : w.heap.size = g0 at r0 q0 ⊢
  replace l0 : w.heap.size ≤ g0 := Nat.le_of_eq h0
  clear h0
  have b0 := rowOf_lt r0
  have b1 := rowOf_lt r1
  have b2 := rowOf_lt r2
  have H := Below.refl W.heap.size W
  cases e1 : c.ok with
  | false =>
    have HF := Lib.hid (show addR c b = (zC, 0, 1) by simp [addR, e1])
    go_wp2_with (first | ((with_reducible refine wp_load_rowBg H ?_ _ _ rfl _ rfl _ r0 _ Try.underlying34 rfl (infoC c) ?_); rfl) | ((with_reducible refine wp_load_rowBg H ?_ _ _ rfl _ rfl _ r1 _ Try.underlying32 rfl (infoB _ _) ?_); rfl) | (go_at_call 57; with_reducible refine (l01Ok_row H r0).mono ?_; rintro e w' ⟨rfl, hb⟩; replace H := bstep H hb; clear hb; have hc := bcell H) | (go_at_call 66; with_reducible refine (l01Bottle_any b _).mono ?_; rintro e w' ⟨rfl, hb⟩; replace H := bstep H hb; clear hb; have hc := bcell H) | (with_reducible refine wp_store_zeroB H rfl rfl _ _ rfl _ rfl rfl _ r2 ?_))
    rw [HF.out]
    refine bodyPost_ret (results_ctt rfl rfl (loadVar_rowOf (cc zC).toArray (by rw [rowOf_setRow, if_pos rfl, rowOf_below H (rowOf_lt r2), r2]; rfl) _ Try.underlying34 rfl (infoC _))) rfl ⟨rfl, bsetRow (bstep H0 H) (by omega) _⟩
  | true =>
    cases e2 : b.ok with
    | false =>
      have HF := Lib.hid (show addR c b = (zC, 0, 1) by simp [addR, e1, e2])
      go_wp2_with (first | ((with_reducible refine wp_load_rowBg H ?_ _ _ rfl _ rfl _ r0 _ Try.underlying34 rfl (infoC c) ?_); rfl) | ((with_reducible refine wp_load_rowBg H ?_ _ _ rfl _ rfl _ r1 _ Try.underlying32 rfl (infoB _ _) ?_); rfl) | (go_at_call 57; with_reducible refine (l01Ok_row H r0).mono ?_; rintro e w' ⟨rfl, hb⟩; replace H := bstep H hb; clear hb; have hc := bcell H) | (go_at_call 66; with_reducible refine (l01Bottle_any b _).mono ?_; rintro e w' ⟨rfl, hb⟩; replace H := bstep H hb; clear hb; have hc := bcell H) | (with_reducible refine wp_store_zeroB H rfl rfl _ _ rfl _ rfl rfl _ r2 ?_))
      rw [HF.out]
      refine bodyPost_ret (results_ctt rfl rfl (loadVar_rowOf (cc zC).toArray (by rw [rowOf_setRow, if_pos rfl, rowOf_below H (rowOf_lt r2), r2]; rfl) _ Try.underlying34 rfl (infoC _))) rfl ⟨rfl, bsetRow (bstep H0 H) (by omega) _⟩
    | true =>
      have HF := Lib.hid (show addR c b = if firstI c zB < 0 then (zC, 0, 3) else (setC c (firstI c zB).toNat b, firstI c zB, 0) by simp [addR, e1, e2])
      have hF : ∀ w g, rowOf w g = some (cc c).toArray → Calls Try.prog 67 #[.pointer (some ⟨g, 0, none⟩), .agg #[.int .u8 0, .int .i16 0]] w fun e w' => e = .returned (.int .i64 (firstI c zB)) ∧ Below w.heap.size w w' := fun w g h => l01First_row zB (Below.refl _ _) h
      rcases free_first c with ⟨hf, _⟩ | ⟨k, r, hk, hf, _⟩
      · rw [hf] at HF hF
        go_wp2_with (first | ((with_reducible refine wp_load_rowBg H ?_ _ _ rfl _ rfl _ r1 _ Try.underlying32 rfl (infoB _ _) ?_); rfl) | (go_at_call 57; with_reducible refine (l01Ok_row H r0).mono ?_; rintro e w' ⟨rfl, hb⟩; replace H := bstep H hb; clear hb; have hc := bcell H) | (go_at_call 66; with_reducible refine (l01Bottle_any b _).mono ?_; rintro e w' ⟨rfl, hb⟩; replace H := bstep H hb; clear hb; have hc := bcell H) | (go_at_call 67; with_reducible refine (hF _ _ (row_kept r0 H)).mono ?_; rintro e w' ⟨rfl, hb⟩; replace H := bstep H hb; clear hb; have hc := bcell H) | (with_reducible refine wp_store_zeroB H rfl rfl _ _ rfl _ rfl rfl _ r2 ?_))
        rw [HF.out]
        refine bodyPost_ret (results_ctt rfl rfl (loadVar_rowOf (cc zC).toArray (by rw [rowOf_setRow, if_pos rfl, rowOf_below H (rowOf_lt r2), r2]; rfl) _ Try.underlying34 rfl (infoC _))) rfl ⟨rfl, bsetRow (bstep H0 H) (by omega) _⟩
      · rw [hf] at HF hF
        have HF' := Lib.hid (HF.out.trans (if_neg (by omega)))
        clear HF
        have hkl : k < c.toList.length := by rw [Vector.length_toList]; exact hk
        have x0 := row0 r0 hkl
        have x1 := row1 r0 hkl
        have f0 := rowOf_frozen r0 (k * 2)
        have f1 := rowOf_frozen r0 (k * 2 + 1)
        have HKL := Lib.hid hkl
        clear hkl
        generalize rB c.toList k = b' at x0 x1
        go_upto_region 7 with (first | ((with_reducible refine wp_load_rowBg H ?_ _ _ rfl _ rfl _ r1 _ Try.underlying32 rfl (infoB _ _) ?_); rfl) | (go_at_call 57; with_reducible refine (l01Ok_row H r0).mono ?_; rintro e w' ⟨rfl, hb⟩; replace H := bstep H hb; clear hb; have hc := bcell H) | (go_at_call 66; with_reducible refine (l01Bottle_any b _).mono ?_; rintro e w' ⟨rfl, hb⟩; replace H := bstep H hb; clear hb; have hc := bcell H) | (go_at_call 67; with_reducible refine (hF _ _ (row_kept r0 H)).mono ?_; rintro e w' ⟨rfl, hb⟩; replace H := bstep H hb; clear hb; have hc := bcell H))
        have s0 := row_put b (row_kept r0 H) HKL.out
        have s2 : rowOf ((w'.setCell ⟨g0, k * 2, none⟩ (.int .u8 b.k)).setCell ⟨g0, k * 2 + 1, none⟩ (.int .i16 b.y)) g2 = some (cc zC).toArray := by rw [row_far (by omega), row_far (by omega), row_kept r2 H]
        have H1 : Below w.heap.size w ((w'.setCell ⟨g0, k * 2, none⟩ (.int .u8 b.k)).setCell ⟨g0, k * 2 + 1, none⟩ (.int .i16 b.y)) := ((bstep H0 H).setCell (by show _ ≤ g0; omega) _).setCell (by show _ ≤ g0; omega) _
        clear H hc x0 x1 f0 f1 e1 e2 r0 r1 r2 H0 b0 b1 b2 hF
        generalize (w'.setCell ⟨g0, k * 2, none⟩ (.int .u8 b.k)).setCell ⟨g0, k * 2 + 1, none⟩ (.int .i16 b.y) = W2 at *
        replace s0 : rowOf W2 g0 = some (cc (setC c k b)).toArray := s0
        have H := Below.refl W2.heap.size W2
        go_wp2_with (first | ((with_reducible refine wp_load_rowBg H ?_ _ _ rfl _ rfl _ s0 _ Try.underlying34 rfl (infoC (setC c k b)) ?_); rfl) | (with_reducible refine wp_store_rowB H rfl rfl _ _ _ rfl _ rfl _ rfl _ s2 (cc_size2 _ _) (infoC _) (cc_one _) ?_))
        rw [HF'.out]
        have H0 := H1
        refine bodyPost_ret (results_ctt rfl rfl (loadVar_rowOf (cc (setC c k b)).toArray (by rw [rowOf_setRow, if_pos rfl, rowOf_below H (rowOf_lt s2), s2]; rfl) _ Try.underlying34 rfl (infoC _))) rfl ⟨rfl, bsetRow (bstep H0 H) (by omega) _⟩
theorem AddBottle_any (c : Cr) (b : Bt) (w : World) : Calls Try.prog 29 #[cv c, bv b] w fun e w' => e = .returned (.tuple #[cv (addR c b).1, .int .i64 (addR c b).2.1, .int .i64 (addR c b).2.2]) ∧ Below w.heap.size w w' := by
  go_enter Try.func29, Try.ntmps29
  go_upto_region 1 with fail
  generalize hW : World.alloc _ _ = W
  have H0 : Below w.heap.size w W := by rw [← hW]; go_grown
  have r0 : rowOf W (w.heap.size) = some ((cc c).toArray) := (by (try rw [← hW]); simp only [rowOf_alloc, World.size_alloc, ↓reduceIte]; all_goals ((repeat' split) <;> first | omega | (exfalso; omega) | rfl))
  have r1 : rowOf W (w.heap.size + 1) = some (#[.int .u8 b.k, .int .i16 b.y]) := (by (try rw [← hW]); simp only [rowOf_alloc, World.size_alloc, ↓reduceIte]; all_goals ((repeat' split) <;> first | omega | (exfalso; omega) | rfl))
  have r2 : rowOf W (w.heap.size + 1 + 1) = some ((cc zC).toArray) := (by (try rw [← hW]); simp only [rowOf_alloc, World.size_alloc, ↓reduceIte]; all_goals ((repeat' split) <;> first | omega | (exfalso; omega) | rfl))
  clear hW
  have q0 : w.heap.size < w.heap.size + 1 := by omega
  have q1 : w.heap.size + 1 < w.heap.size + 1 + 1 := by omega
  have l0 : w.heap.size ≤ w.heap.size := Nat.le_refl _
  generalize w.heap.size + 1 + 1 = g2 at r2 q1 ⊢
  generalize w.heap.size + 1 = g1 at r1 q0 q1 ⊢
  generalize h0 : w.heap.size = g0 at r0 q0 ⊢
  replace l0 : w.heap.size ≤ g0 := Nat.le_of_eq h0
  clear h0
  have b0 := rowOf_lt r0
  have b1 := rowOf_lt r1
  have b2 := rowOf_lt r2
  have H := Below.refl W.heap.size W
  cases e1 : c.ok with
  | false =>
    have HF := Lib.hid (show addR c b = (zC, 0, 1) by simp [addR, e1])
    go_wp2_with (first | ((with_reducible refine wp_load_rowBg H ?_ _ _ rfl _ rfl _ r0 _ Try.underlying34 rfl (infoC c) ?_); rfl) | ((with_reducible refine wp_load_rowBg H ?_ _ _ rfl _ rfl _ r1 _ Try.underlying32 rfl (infoB _ _) ?_); rfl) | (go_at_call 61; with_reducible refine (ValidCrate_any c _).mono ?_; rintro e w' ⟨rfl, hb⟩; replace H := bstep H hb; clear hb; have hc := bcell H) | (go_at_call 68; with_reducible refine (ValidBottle_any b _).mono ?_; rintro e w' ⟨rfl, hb⟩; replace H := bstep H hb; clear hb; have hc := bcell H) | (with_reducible refine wp_store_zeroB H rfl rfl _ _ rfl _ rfl rfl _ r2 ?_))
    rw [HF.out]
    refine bodyPost_ret (results_ctt rfl rfl (loadVar_rowOf (cc zC).toArray (by rw [rowOf_setRow, if_pos rfl, rowOf_below H (rowOf_lt r2), r2]; rfl) _ Try.underlying34 rfl (infoC _))) rfl ⟨rfl, bsetRow (bstep H0 H) (by omega) _⟩
  | true =>
    cases e2 : b.ok with
    | false =>
      have HF := Lib.hid (show addR c b = (zC, 0, 1) by simp [addR, e1, e2])
      go_wp2_with (first | ((with_reducible refine wp_load_rowBg H ?_ _ _ rfl _ rfl _ r0 _ Try.underlying34 rfl (infoC c) ?_); rfl) | ((with_reducible refine wp_load_rowBg H ?_ _ _ rfl _ rfl _ r1 _ Try.underlying32 rfl (infoB _ _) ?_); rfl) | (go_at_call 61; with_reducible refine (ValidCrate_any c _).mono ?_; rintro e w' ⟨rfl, hb⟩; replace H := bstep H hb; clear hb; have hc := bcell H) | (go_at_call 68; with_reducible refine (ValidBottle_any b _).mono ?_; rintro e w' ⟨rfl, hb⟩; replace H := bstep H hb; clear hb; have hc := bcell H) | (with_reducible refine wp_store_zeroB H rfl rfl _ _ rfl _ rfl rfl _ r2 ?_))
      rw [HF.out]
      refine bodyPost_ret (results_ctt rfl rfl (loadVar_rowOf (cc zC).toArray (by rw [rowOf_setRow, if_pos rfl, rowOf_below H (rowOf_lt r2), r2]; rfl) _ Try.underlying34 rfl (infoC _))) rfl ⟨rfl, bsetRow (bstep H0 H) (by omega) _⟩
    | true =>
      have HF := Lib.hid (show addR c b = if firstI c zB < 0 then (zC, 0, 3) else (setC c (firstI c zB).toNat b, firstI c zB, 0) by simp [addR, e1, e2])
      have hF := free_any c
      rcases free_first c with ⟨hf, hl⟩ | ⟨k, r, hk, hf, hl⟩
      · rw [hf] at HF
        rw [hl] at hF
        go_wp2_with (first | (first | ((with_reducible refine wp_load_rowBg H ?_ _ _ rfl _ rfl _ r0 _ Try.underlying34 rfl (infoC c) ?_); rfl) | ((with_reducible refine wp_load_rowBg H ?_ _ _ rfl _ rfl _ r1 _ Try.underlying32 rfl (infoB _ _) ?_); rfl) | (go_at_call 61; with_reducible refine (ValidCrate_any c _).mono ?_; rintro e w' ⟨rfl, hb⟩; replace H := bstep H hb; clear hb; have hc := bcell H) | (go_at_call 68; with_reducible refine (ValidBottle_any b _).mono ?_; rintro e w' ⟨rfl, hb⟩; replace H := bstep H hb; clear hb; have hc := bcell H) | (with_reducible refine wp_store_zeroB H rfl rfl _ _ rfl _ rfl rfl _ r2 ?_)) | (go_at_call 69; refine (hF _).mono ?_; rintro e w3 ⟨v3, rfl, O3, hb⟩; obtain ⟨A3, p3, rfl, hp3, R3, L3⟩ := own_rdA O3; replace H := bstep H hb))
        rw [HF.out]
        refine bodyPost_ret (results_ctt rfl rfl (loadVar_rowOf (cc zC).toArray (by rw [rowOf_setRow, if_pos rfl, rowOf_below H (rowOf_lt r2), r2]; rfl) _ Try.underlying34 rfl (infoC _))) rfl ⟨rfl, bsetRow (bstep H0 H) (by omega) _⟩
      · rw [hf] at HF
        rw [hl] at hF
        have HF' := Lib.hid (HF.out.trans (if_neg (by omega)))
        clear HF
        go_upto_region 6 with (first | (first | ((with_reducible refine wp_load_rowBg H ?_ _ _ rfl _ rfl _ r0 _ Try.underlying34 rfl (infoC c) ?_); rfl) | ((with_reducible refine wp_load_rowBg H ?_ _ _ rfl _ rfl _ r1 _ Try.underlying32 rfl (infoB _ _) ?_); rfl) | (go_at_call 61; with_reducible refine (ValidCrate_any c _).mono ?_; rintro e w' ⟨rfl, hb⟩; replace H := bstep H hb; clear hb; have hc := bcell H) | (go_at_call 68; with_reducible refine (ValidBottle_any b _).mono ?_; rintro e w' ⟨rfl, hb⟩; replace H := bstep H hb; clear hb; have hc := bcell H) | (with_reducible refine wp_store_zeroB H rfl rfl _ _ rfl _ rfl rfl _ r2 ?_)) | (go_at_call 69; refine (hF _).mono ?_; rintro e w3 ⟨v3, rfl, O3, hb⟩; replace O3 := own_down O3 H.size; obtain ⟨gf, p3, rfl⟩ := own_form O3 (Nat.succ_pos _); replace H := bstep H hb))
        clear hc
        replace r0 := row_kept r0 H
        replace r1 := row_kept r1 H
        replace r2 := row_kept r2 H
        replace H0 := bstep H0 H
        replace H := below_self H
        have hgf : w3.heap.size > gf := own_lt O3 gf rfl
        have hgf0 : W.heap.size ≤ gf := own_base O3 gf rfl
        have z0 : w3.cell? ⟨gf, 0, none⟩ = some (.int .i64 k) := O3.cellAt 0 (Nat.succ_pos _)
        have hkl : k < c.toList.length := by rw [Vector.length_toList]; exact hk
        have hk1 : (k : Int) ≤ 11 := by omega
        have hk2 : (k : Int) < 12 := by omega
        have x0 := row0 r0 hkl
        have x1 := row1 r0 hkl
        have f0 := rowOf_frozen r0 (k * 2)
        have f1 := rowOf_frozen r0 (k * 2 + 1)
        have HKL := Lib.hid hkl
        clear hkl O3 hF
        generalize rB c.toList k = b' at x0 x1
        refine wp_region_still_tail 5 (by kernel_rfl) (by kernel_rfl) ?_
        replace H := H.drew
        simp only [List.take_succ_cons, List.take_zero, List.drop_succ_cons, List.drop_zero]
        repeat (first | (refine still_load_row H rfl _ _ rfl _ rfl _ r1 _ Try.underlying32 rfl (infoB _ _) ?_) | still_step)
        refine wpStill_nil ?_
        change wpList _ _ _ _ _ (World.drew _)
        generalize World.drew _ = w1 at H ⊢
        have hc := bcell H
        have b3 := rowOf_lt r0
        have b4 := rowOf_lt r2
        have hgk : gf ≠ g2 := by omega
        go_upto_region 7 with fail
        have s0 := row_put b (row_kept r0 H) HKL.out
        have s2 : rowOf ((w1.setCell ⟨g0, k * 2, none⟩ (.int .u8 b.k)).setCell ⟨g0, k * 2 + 1, none⟩ (.int .i16 b.y)) g2 = some (cc zC).toArray := by rw [row_far (by omega), row_far (by omega), row_kept r2 H]
        have H1 : Below w.heap.size w ((w1.setCell ⟨g0, k * 2, none⟩ (.int .u8 b.k)).setCell ⟨g0, k * 2 + 1, none⟩ (.int .i16 b.y)) := ((bstep H0 H).setCell (by show _ ≤ g0; omega) _).setCell (by show _ ≤ g0; omega) _
        have z1 : ((w1.setCell ⟨g0, k * 2, none⟩ (.int .u8 b.k)).setCell ⟨g0, k * 2 + 1, none⟩ (.int .i16 b.y)).cell? ⟨gf, 0, none⟩ = some (.int .i64 k) := by rw [cell_far (by omega), cell_far (by omega)]; exact (hc.1 gf 0 hgf).trans z0
        clear H hc x0 x1 f0 f1 e1 e2 r0 r1 r2 H0 b0 b1 b2 z0 hb
        generalize (w1.setCell ⟨g0, k * 2, none⟩ (.int .u8 b.k)).setCell ⟨g0, k * 2 + 1, none⟩ (.int .i16 b.y) = W2 at *
        replace s0 : rowOf W2 g0 = some (cc (setC c k b)).toArray := s0
        have t0 : ∀ w ∈ [W2.drew, W2.drew.setRow g2 (cc (setC c k b)).toArray], rowOf w g0 = some (cc (setC c k b)).toArray := two_worlds s0 ((rowOf_setRow_ne (by omega)).trans s0)
        have z2 : (W2.drew.setRow g2 (cc (setC c k b)).toArray).cell? ⟨gf, 0, none⟩ = some (.int .i64 k) := (cell_setRow_ne hgk).trans z1
        have z3 : W2.drew.cell? ⟨gf, 0, none⟩ = some (.int .i64 k) := z1
        apply wp_region_det1 4 2 g2 (cc (setC c k b)).toArray
        case hs => exact rfl
        case hB => kernel_rfl
        case hm => kernel_rfl
        case hlen => rfl
        case gs => rfl
        case ds => rfl
        case ho => rfl
        case hr => exact s2
        case hz => exact cc_size2 _ _
        case hi => exact infoC _
        case h1 => exact cc_one _
        simp only [List.take_succ_cons, List.take_zero, List.drop_succ_cons, List.drop_zero]
        repeat (first | (refine wpD_load_row rfl _ _ rfl g0 rfl (cc (setC c k b)).toArray t0 _ Try.underlying34 rfl (infoC (setC c k b)) ?_) | (refine wpD_step (fun K hK => ?_); go_simp; refine hK _ ?_; clear hK K))
        refine wpD_nil ⟨rfl, rfl, ?_⟩
        repeat (first | (refine wpD_load_row rfl _ _ rfl g0 rfl (cc (setC c k b)).toArray t0 _ Try.underlying34 rfl (infoC (setC c k b)) ?_) | (refine wpD_step (fun K hK => ?_); go_simp; refine hK _ ?_; clear hK K))
        refine wpD_nil ?_
        go_wp2
        rw [HF'.out]
        have H0 := H1
        have H : Below W2.heap.size W2 W2.drew := bdrewN (Below.refl _ _) 1
        refine bodyPost_ret (results_ctt rfl rfl (loadVar_rowOf (cc (setC c k b)).toArray (by rw [rowOf_setRow, if_pos rfl, rowOf_below H (rowOf_lt s2), s2]; rfl) _ Try.underlying34 rfl (infoC _))) rfl ⟨rfl, bsetRow (bstep H0 H) (by omega) _⟩
end Go.Proofs.Ytkpaijbjbbgpmaa
