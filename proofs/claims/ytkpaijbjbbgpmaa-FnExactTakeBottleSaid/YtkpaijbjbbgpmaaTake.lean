/- Contracts of TakeBottle. -/
import Derived.Test.YtkpaijbjbbgpmaaFunc
import Derived.Test.YtkpaijbjbbgpmaaPut
import Derived.Test.YtkpaijbjbbgpmaaTail
namespace Go.Proofs.Ytkpaijbjbbgpmaa
open Go.RowKit
set_option linter.unusedVariables false
set_option linter.unusedSimpArgs false
set_option maxRecDepth 100000
set_option maxHeartbeats 1000000
/-- What TakeBottle comes to. -/
def takeR (c : Cr) (p : Int) : Cr × Bt × Int :=
  if c.ok = false then (zC, zB, 1) else if (decide (0 ≤ p) && decide (p ≤ 11)) = false then (zC, zB, 2) else if (rB c.toList p.toNat).em = true then (zC, zB, 6) else (setC c p.toNat zB, rB c.toList p.toNat, 0)
attribute [local go_sem high] eqB
theorem TakeBottle_any (c : Cr) (p : Int) (w : World) : Calls Try.prog 22 #[cv c, .int .i64 p] w fun e w' => e = .returned (.tuple #[cv (takeR c p).1, bv (takeR c p).2.1, .int .i64 (takeR c p).2.2]) ∧ Below w.heap.size w w' := by
  go_enter Try.func22, Try.ntmps22
  go_upto_region 1 with fail
  generalize hW : World.alloc _ _ = W
  have H0 : Below w.heap.size w W := by rw [← hW]; go_grown
  have r0 : rowOf W (w.heap.size) = some ((cc c).toArray) := (by (try rw [← hW]); simp only [rowOf_alloc, World.size_alloc, ↓reduceIte]; all_goals ((repeat' split) <;> first | omega | (exfalso; omega) | rfl))
  have r1 : rowOf W (w.heap.size + 1) = some ((cc zC).toArray) := (by (try rw [← hW]); simp only [rowOf_alloc, World.size_alloc, ↓reduceIte]; all_goals ((repeat' split) <;> first | omega | (exfalso; omega) | rfl))
  have r2 : rowOf W (w.heap.size + 1 + 1) = some (#[.int .u8 0, .int .i16 0]) := (by (try rw [← hW]); simp only [rowOf_alloc, World.size_alloc, ↓reduceIte]; all_goals ((repeat' split) <;> first | omega | (exfalso; omega) | rfl))
  clear hW
  have q0 : w.heap.size < w.heap.size + 1 := by omega
  have q1 : w.heap.size + 1 < w.heap.size + 1 + 1 := by omega
  have l0 : w.heap.size ≤ w.heap.size := Nat.le_refl _
  generalize w.heap.size + 1 + 1 = g2 at r2 q1 ⊢
  generalize w.heap.size + 1 = g1 at r1 q0 q1 ⊢
  generalize h0 : w.heap.size = g0 at r0 q0 ⊢
  replace l0 : w.heap.size ≤ g0 := Nat.le_of_eq h0
  clear h0
  have b0 := rowOf_lt r0
  have b1 := rowOf_lt r1
  have b2 := rowOf_lt r2
  have H := Below.refl W.heap.size W
  have hu := Try.underlying32
  cases e1 : c.ok with
  | false =>
    have HF := Lib.hid (show takeR c p = (zC, zB, 1) by simp [takeR, e1])
    go_wp2_with (first | ((with_reducible refine wp_load_rowBg H ?_ _ _ rfl _ rfl _ r0 _ Try.underlying34 rfl (infoC c) ?_); rfl) | (go_at_call 61; refine (ValidCrate_any c _).mono ?_; rintro e w' ⟨rfl, hb⟩; replace H := bstep H hb; clear hb; have hc := bcell H) | (go_at_call 62; refine (isPlace_any _ _).mono ?_; rintro e w' ⟨rfl, rfl⟩) | (go_at_call 60; refine (codeOf_any _ _ _).mono ?_; rintro e w' ⟨rfl, rfl⟩) | (with_reducible refine wp_store_zeroB H rfl rfl _ _ rfl _ rfl rfl _ r1 ?_) | ((with_reducible refine wp_store_rowOf rfl rfl _ _ _ rfl _ rfl #[.int .u8 0, .int .i16 0] rfl #[.int .u8 0, .int .i16 0] ?hr rfl (infoB _ _) (bv_one _ _) ?_); (case hr => rw [rowOf_setRow, if_neg (by omega)]; exact row_kept r2 H)))
    rw [HF.out]
    obtain ⟨t1, t2, t3⟩ := two_rows (A := (cc zC).toArray) (B := #[.int .u8 0, .int .i16 0]) H0 H r1 r2 (by omega) (by omega)
    exact bodyPost_ret (results_cct rfl rfl rfl (loadVar_rowOf _ t1 _ Try.underlying34 rfl (infoC _)) (loadVar_rowOf _ t2 _ Try.underlying32 rfl (infoB _ _))) rfl ⟨rfl, t3⟩
  | true =>
    cases h2 : decide (0 ≤ p) && decide (p ≤ 11) with
    | false =>
      have HF := Lib.hid (show takeR c p = (zC, zB, 2) by simp only [takeR, e1, h2]; rfl)
      go_wp2_with (first | ((with_reducible refine wp_load_rowBg H ?_ _ _ rfl _ rfl _ r0 _ Try.underlying34 rfl (infoC c) ?_); rfl) | (go_at_call 61; refine (ValidCrate_any c _).mono ?_; rintro e w' ⟨rfl, hb⟩; replace H := bstep H hb; clear hb; have hc := bcell H) | (go_at_call 62; refine (isPlace_any _ _).mono ?_; rintro e w' ⟨rfl, rfl⟩) | (go_at_call 60; refine (codeOf_any _ _ _).mono ?_; rintro e w' ⟨rfl, rfl⟩) | (with_reducible refine wp_store_zeroB H rfl rfl _ _ rfl _ rfl rfl _ r1 ?_) | ((with_reducible refine wp_store_rowOf rfl rfl _ _ _ rfl _ rfl #[.int .u8 0, .int .i16 0] rfl #[.int .u8 0, .int .i16 0] ?hr rfl (infoB _ _) (bv_one _ _) ?_); (case hr => rw [rowOf_setRow, if_neg (by omega)]; exact row_kept r2 H)))
      rw [HF.out]
      obtain ⟨t1, t2, t3⟩ := two_rows (A := (cc zC).toArray) (B := #[.int .u8 0, .int .i16 0]) H0 H r1 r2 (by omega) (by omega)
      exact bodyPost_ret (results_cct rfl rfl rfl (loadVar_rowOf _ t1 _ Try.underlying34 rfl (infoC _)) (loadVar_rowOf _ t2 _ Try.underlying32 rfl (infoB _ _))) rfl ⟨rfl, t3⟩
    | true =>
      obtain ⟨k, rfl⟩ := Int.eq_ofNat_of_zero_le (show 0 ≤ p by simp at h2; exact h2.1)
      have hk : k < 12 := by simp at h2; omega
      have hk1 : (k : Int) ≤ 11 := by omega
      have hkl : k < c.toList.length := by rw [Vector.length_toList]; exact hk
      have x0 := row0 r0 hkl
      have x1 := row1 r0 hkl
      have HF := Lib.hid (show takeR c k = if (rB c.toList k).em = true then (zC, zB, 6) else (setC c k zB, rB c.toList k, 0) by simp only [takeR, e1, h2]; rfl)
      have HKL := Lib.hid hkl
      clear hkl
      generalize rB c.toList k = b at x0 x1 HF
      go_upto_region 5 with (first | (go_at_call 61; refine (ValidCrate_any c _).mono ?_; rintro e w' ⟨rfl, hb⟩; replace H := bstep H hb; clear hb; have hc := bcell H) | (go_at_call 62; refine (isPlace_any _ _).mono ?_; rintro e w' ⟨rfl, rfl⟩) | (go_at_call 60; refine (codeOf_any _ _ _).mono ?_; rintro e w' ⟨rfl, rfl⟩) | ((with_reducible refine wp_load_rowBg H ?_ _ _ rfl _ rfl _ r0 _ Try.underlying34 rfl (infoC c) ?_); rfl) | ((with_reducible refine wp_store_rowOf rfl rfl _ _ _ rfl _ rfl (#[.int .u8 b.k, .int .i16 b.y] : Array Value) rfl #[.int .u8 0, .int .i16 0] ?hr rfl (infoB _ _) (bv_one _ _) ?_); (case hr => rw [rowOf_alloc, if_pos rfl])))
      clear hc x0 x1
      generalize hW3 : World.setRow _ _ _ = W3
      obtain ⟨HB, r3, b3⟩ := laid_row H hW3
      clear hW3
      have qr03 := Nat.lt_of_lt_of_le (rowOf_lt r0) H.size
      replace r0 := row_kept r0 HB
      have qr13 := Nat.lt_of_lt_of_le (rowOf_lt r1) H.size
      replace r1 := row_kept r1 HB
      have qr23 := Nat.lt_of_lt_of_le (rowOf_lt r2) H.size
      replace r2 := row_kept r2 HB
      replace H0 := bstep H0 HB
      replace H := below_self HB
      generalize w'.heap.size = g3 at *
      cases e3 : b.em with
      | true =>
        have e4 : (b.k == 0 && b.y == 0) = true := e3
        have HF' := Lib.hid (HF.out.trans (if_pos e3))
        clear e3 HF
        go_wp2_with (first | ((with_reducible refine wp_load_rowBg H ?_ _ _ rfl _ rfl _ r3 _ Try.underlying32 rfl (infoB _ _) ?_); rfl) | (with_reducible refine wp_store_zeroB H rfl rfl _ _ rfl _ rfl rfl _ r1 ?_) | ((with_reducible refine wp_store_rowOf rfl rfl _ _ _ rfl _ rfl #[.int .u8 0, .int .i16 0] rfl #[.int .u8 0, .int .i16 0] ?hr rfl (infoB _ _) (bv_one _ _) ?_); (case hr => rw [rowOf_setRow, if_neg (by omega)]; exact row_kept r2 H)))
        rw [HF'.out]
        obtain ⟨t1, t2, t3⟩ := two_rows (A := (cc zC).toArray) (B := #[.int .u8 0, .int .i16 0]) H0 H r1 r2 (by omega) (by omega)
        exact bodyPost_ret (results_cct rfl rfl rfl (loadVar_rowOf _ t1 _ Try.underlying34 rfl (infoC _)) (loadVar_rowOf _ t2 _ Try.underlying32 rfl (infoB _ _))) rfl ⟨rfl, t3⟩
      | false =>
        have e4 : (b.k == 0 && b.y == 0) = false := e3
        have HF' := Lib.hid (HF.out.trans (if_neg (by rw [e3]; simp)))
        clear e3 HF
        have f0 := rowOf_frozen r0 (k * 2)
        have f1 := rowOf_frozen r0 (k * 2 + 1)
        have y0 := row0 r0 HKL.out
        have y1 := row1 r0 HKL.out
        generalize rB c.toList k = b' at y0 y1
        go_upto_region 8 with (first | ((with_reducible refine wp_load_rowBg H ?_ _ _ rfl _ rfl _ r3 _ Try.underlying32 rfl (infoB _ _) ?_); rfl))
        have s0 : rowOf ((W3.setCell ⟨g0, k * 2, none⟩ (.int .u8 0)).setCell ⟨g0, k * 2 + 1, none⟩ (.int .i16 0)) g0 = some (bcs (c.toList.set k zB)).toArray := row_put zB r0 HKL.out
        have s1 : rowOf ((W3.setCell ⟨g0, k * 2, none⟩ (.int .u8 0)).setCell ⟨g0, k * 2 + 1, none⟩ (.int .i16 0)) g1 = some (cc zC).toArray := by rw [row_far (by omega), row_far (by omega), r1]
        have s2 : rowOf ((W3.setCell ⟨g0, k * 2, none⟩ (.int .u8 0)).setCell ⟨g0, k * 2 + 1, none⟩ (.int .i16 0)) g2 = some (#[.int .u8 0, .int .i16 0] : Array Value) := by rw [row_far (by omega), row_far (by omega), r2]
        have s3 : rowOf ((W3.setCell ⟨g0, k * 2, none⟩ (.int .u8 0)).setCell ⟨g0, k * 2 + 1, none⟩ (.int .i16 0)) g3 = some (#[.int .u8 b.k, .int .i16 b.y] : Array Value) := by rw [row_far (by omega), row_far (by omega), r3]
        have H1 : Below w.heap.size w ((W3.setCell ⟨g0, k * 2, none⟩ (.int .u8 0)).setCell ⟨g0, k * 2 + 1, none⟩ (.int .i16 0)) := (H0.setCell (by show _ ≤ g0; omega) _).setCell (by show _ ≤ g0; omega) _
        clear H r0 r1 r2 r3 y0 y1 f0 f1 HB
        generalize (W3.setCell ⟨g0, k * 2, none⟩ (.int .u8 0)).setCell ⟨g0, k * 2 + 1, none⟩ (.int .i16 0) = W4 at *
        replace s0 : rowOf W4 g0 = some (cc (setC c k zB)).toArray := s0
        have H := (Below.refl W4.heap.size W4).drew
        have n3 : rowOf ((World.drew W4).setRow g1 (cc (setC c k zB)).toArray) g3 = some (#[.int .u8 b.k, .int .i16 b.y] : Array Value) := by rw [rowOf_setRow, if_neg (by omega)]; exact s3
        have n2 : rowOf ((World.drew W4).setRow g1 (cc (setC c k zB)).toArray) g2 = some (#[.int .u8 0, .int .i16 0] : Array Value) := by rw [rowOf_setRow, if_neg (by omega)]; exact s2
        refine wp_region_five (by kernel_rfl) (by kernel_rfl) (Steps.load rfl _ _ rfl g0 rfl _ s0 _ Try.underlying34 rfl (infoC (setC c k zB))) (Steps.load rfl _ _ rfl g3 rfl _ s3 _ Try.underlying32 rfl (infoB _ _)) (Steps.load rfl _ _ rfl g3 rfl _ s3 _ Try.underlying32 rfl (infoB _ _)) (Steps.load rfl _ _ rfl g0 rfl _ s0 _ Try.underlying34 rfl (infoC (setC c k zB))) (Steps.store rfl rfl _ _ _ rfl g1 rfl _ rfl _ s1 (cc_size2 _ _) (infoC (setC c k zB)) (cc_one (setC c k zB))) (Steps.store rfl rfl _ _ _ rfl g1 rfl _ rfl _ s1 (cc_size2 _ _) (infoC (setC c k zB)) (cc_one (setC c k zB))) (Steps.load rfl _ _ rfl g3 rfl _ n3 _ Try.underlying32 rfl (infoB _ _)) (Steps.store rfl rfl _ _ _ rfl g2 rfl (#[.int .u8 b.k, .int .i16 b.y] : Array Value) rfl _ n2 rfl (infoB _ _) (bv_one _ _)) (by exact Steps.assign rfl _ rfl) ?_
        go_wp2
        rw [HF'.out]
        replace H0 := H1
        obtain ⟨t1, t2, t3⟩ := two_rows (A := (cc (setC c k zB)).toArray) (B := #[.int .u8 b.k, .int .i16 b.y]) H0 H s1 s2 (by omega) (by omega)
        exact bodyPost_ret (results_cct rfl rfl rfl (loadVar_rowOf _ t1 _ Try.underlying34 rfl (infoC _)) (loadVar_rowOf _ t2 _ Try.underlying32 rfl (infoB _ _))) rfl ⟨rfl, t3⟩
theorem sTakeBottle_any (c : Cr) (p : Int) (w : World) : Calls Try.prog 20 #[cv c, .int .i64 p] w fun e w' => e = .returned (.tuple #[cv (takeR c p).1, bv (takeR c p).2.1, .int .i64 (takeR c p).2.2]) ∧ Below w.heap.size w w' := by
  go_enter Try.func20, Try.ntmps20
  go_upto_region 1 with fail
  generalize hW : World.alloc _ _ = W
  have H0 : Below w.heap.size w W := by rw [← hW]; go_grown
  have r0 : rowOf W (w.heap.size) = some ((cc c).toArray) := (by (try rw [← hW]); simp only [rowOf_alloc, World.size_alloc, ↓reduceIte]; all_goals ((repeat' split) <;> first | omega | (exfalso; omega) | rfl))
  have r1 : rowOf W (w.heap.size + 1) = some ((cc zC).toArray) := (by (try rw [← hW]); simp only [rowOf_alloc, World.size_alloc, ↓reduceIte]; all_goals ((repeat' split) <;> first | omega | (exfalso; omega) | rfl))
  have r2 : rowOf W (w.heap.size + 1 + 1) = some (#[.int .u8 0, .int .i16 0]) := (by (try rw [← hW]); simp only [rowOf_alloc, World.size_alloc, ↓reduceIte]; all_goals ((repeat' split) <;> first | omega | (exfalso; omega) | rfl))
  clear hW
  have q0 : w.heap.size < w.heap.size + 1 := by omega
  have q1 : w.heap.size + 1 < w.heap.size + 1 + 1 := by omega
  have l0 : w.heap.size ≤ w.heap.size := Nat.le_refl _
  generalize w.heap.size + 1 + 1 = g2 at r2 q1 ⊢
  generalize w.heap.size + 1 = g1 at r1 q0 q1 ⊢
  generalize h0 : w.heap.size = g0 at r0 q0 ⊢
  replace l0 : w.heap.size ≤ g0 := Nat.le_of_eq h0
  clear h0
  have b0 := rowOf_lt r0
  have b1 := rowOf_lt r1
  have b2 := rowOf_lt r2
  have H := Below.refl W.heap.size W
  have hu := Try.underlying32
  cases e1 : c.ok with
  | false =>
    have HF := Lib.hid (show takeR c p = (zC, zB, 1) by simp [takeR, e1])
    go_wp2_with (first | ((with_reducible refine wp_load_rowBg H ?_ _ _ rfl _ rfl _ r0 _ Try.underlying34 rfl (infoC c) ?_); rfl) | (go_at_call 57; refine (l01Ok_row H r0).mono ?_; rintro e w' ⟨rfl, hb⟩; replace H := bstep H hb; clear hb; have hc := bcell H) | (go_at_call 58; refine (l01Place_any _ _).mono ?_; rintro e w' ⟨rfl, rfl⟩) | (with_reducible refine wp_store_zeroB H rfl rfl _ _ rfl _ rfl rfl _ r1 ?_) | ((with_reducible refine wp_store_rowOf rfl rfl _ _ _ rfl _ rfl #[.int .u8 0, .int .i16 0] rfl #[.int .u8 0, .int .i16 0] ?hr rfl (infoB _ _) (bv_one _ _) ?_); (case hr => rw [rowOf_setRow, if_neg (by omega)]; exact row_kept r2 H)))
    rw [HF.out]
    obtain ⟨t1, t2, t3⟩ := two_rows (A := (cc zC).toArray) (B := #[.int .u8 0, .int .i16 0]) H0 H r1 r2 (by omega) (by omega)
    exact bodyPost_ret (results_cct rfl rfl rfl (loadVar_rowOf _ t1 _ Try.underlying34 rfl (infoC _)) (loadVar_rowOf _ t2 _ Try.underlying32 rfl (infoB _ _))) rfl ⟨rfl, t3⟩
  | true =>
    cases h2 : decide (0 ≤ p) && decide (p ≤ 11) with
    | false =>
      have HF := Lib.hid (show takeR c p = (zC, zB, 2) by simp only [takeR, e1, h2]; rfl)
      go_wp2_with (first | ((with_reducible refine wp_load_rowBg H ?_ _ _ rfl _ rfl _ r0 _ Try.underlying34 rfl (infoC c) ?_); rfl) | (go_at_call 57; refine (l01Ok_row H r0).mono ?_; rintro e w' ⟨rfl, hb⟩; replace H := bstep H hb; clear hb; have hc := bcell H) | (go_at_call 58; refine (l01Place_any _ _).mono ?_; rintro e w' ⟨rfl, rfl⟩) | (with_reducible refine wp_store_zeroB H rfl rfl _ _ rfl _ rfl rfl _ r1 ?_) | ((with_reducible refine wp_store_rowOf rfl rfl _ _ _ rfl _ rfl #[.int .u8 0, .int .i16 0] rfl #[.int .u8 0, .int .i16 0] ?hr rfl (infoB _ _) (bv_one _ _) ?_); (case hr => rw [rowOf_setRow, if_neg (by omega)]; exact row_kept r2 H)))
      rw [HF.out]
      obtain ⟨t1, t2, t3⟩ := two_rows (A := (cc zC).toArray) (B := #[.int .u8 0, .int .i16 0]) H0 H r1 r2 (by omega) (by omega)
      exact bodyPost_ret (results_cct rfl rfl rfl (loadVar_rowOf _ t1 _ Try.underlying34 rfl (infoC _)) (loadVar_rowOf _ t2 _ Try.underlying32 rfl (infoB _ _))) rfl ⟨rfl, t3⟩
    | true =>
      obtain ⟨k, rfl⟩ := Int.eq_ofNat_of_zero_le (show 0 ≤ p by simp at h2; exact h2.1)
      have hk : k < 12 := by simp at h2; omega
      have hk1 : (k : Int) ≤ 11 := by omega
      have hkl : k < c.toList.length := by rw [Vector.length_toList]; exact hk
      have x0 := row0 r0 hkl
      have x1 := row1 r0 hkl
      have HF := Lib.hid (show takeR c k = if (rB c.toList k).em = true then (zC, zB, 6) else (setC c k zB, rB c.toList k, 0) by simp only [takeR, e1, h2]; rfl)
      have HKL := Lib.hid hkl
      clear hkl
      generalize rB c.toList k = b at x0 x1 HF
      go_upto_region 6 with (first | (go_at_call 57; refine (l01Ok_row H r0).mono ?_; rintro e w' ⟨rfl, hb⟩; replace H := bstep H hb; clear hb; have hc := bcell H) | (go_at_call 58; refine (l01Place_any _ _).mono ?_; rintro e w' ⟨rfl, rfl⟩) | ((with_reducible refine wp_store_rowOf rfl rfl _ _ _ rfl _ rfl (#[.int .u8 b.k, .int .i16 b.y] : Array Value) rfl #[.int .u8 0, .int .i16 0] ?hr rfl (infoB _ _) (bv_one _ _) ?_); (case hr => rw [rowOf_alloc, if_pos rfl])))
      clear hc x0 x1
      generalize hW3 : World.setRow _ _ _ = W3
      obtain ⟨HB, r3, b3⟩ := laid_row H hW3
      clear hW3
      have qr03 := Nat.lt_of_lt_of_le (rowOf_lt r0) H.size
      replace r0 := row_kept r0 HB
      have qr13 := Nat.lt_of_lt_of_le (rowOf_lt r1) H.size
      replace r1 := row_kept r1 HB
      have qr23 := Nat.lt_of_lt_of_le (rowOf_lt r2) H.size
      replace r2 := row_kept r2 HB
      replace H0 := bstep H0 HB
      replace H := below_self HB
      generalize w'.heap.size = g3 at *
      cases e3 : b.em with
      | true =>
        have e4 : (b.k == 0 && b.y == 0) = true := e3
        have HF' := Lib.hid (HF.out.trans (if_pos e3))
        clear e4 HF
        go_wp2_with (first | ((with_reducible refine wp_load_rowBg H ?_ _ _ rfl _ rfl _ r3 _ Try.underlying32 rfl (infoB _ _) ?_); rfl) | (go_at_call 59; refine (l01Free_any b _).mono ?_; rintro e w' ⟨rfl, hb⟩; replace H := bstep H hb; clear hb; have hc := bcell H) | (with_reducible refine wp_store_zeroB H rfl rfl _ _ rfl _ rfl rfl _ r1 ?_) | ((with_reducible refine wp_store_rowOf rfl rfl _ _ _ rfl _ rfl #[.int .u8 0, .int .i16 0] rfl #[.int .u8 0, .int .i16 0] ?hr rfl (infoB _ _) (bv_one _ _) ?_); (case hr => rw [rowOf_setRow, if_neg (by omega)]; exact row_kept r2 H)))
        rw [HF'.out]
        obtain ⟨t1, t2, t3⟩ := two_rows (A := (cc zC).toArray) (B := #[.int .u8 0, .int .i16 0]) H0 H r1 r2 (by omega) (by omega)
        exact bodyPost_ret (results_cct rfl rfl rfl (loadVar_rowOf _ t1 _ Try.underlying34 rfl (infoC _)) (loadVar_rowOf _ t2 _ Try.underlying32 rfl (infoB _ _))) rfl ⟨rfl, t3⟩
      | false =>
        have e4 : (b.k == 0 && b.y == 0) = false := e3
        have HF' := Lib.hid (HF.out.trans (if_neg (by rw [e3]; simp)))
        clear e4 HF
        go_upto_region 8 with (first | ((with_reducible refine wp_load_rowBg H ?_ _ _ rfl _ rfl _ r3 _ Try.underlying32 rfl (infoB _ _) ?_); rfl) | (go_at_call 59; refine (l01Free_any b _).mono ?_; rintro e w' ⟨rfl, hb⟩; replace H := bstep H hb; clear hb; have hc := bcell H))
        replace r0 := row_kept r0 H
        replace r1 := row_kept r1 H
        replace r2 := row_kept r2 H
        replace r3 := row_kept r3 H
        replace H0 := bstep H0 H
        replace H := below_self H
        clear hc
        have f0 := rowOf_frozen r0 (k * 2)
        have f1 := rowOf_frozen r0 (k * 2 + 1)
        have y0 := row0 r0 HKL.out
        have y1 := row1 r0 HKL.out
        generalize rB c.toList k = b' at y0 y1
        go_upto_region 9 with fail
        have s0 : rowOf ((w'.setCell ⟨g0, k * 2, none⟩ (.int .u8 0)).setCell ⟨g0, k * 2 + 1, none⟩ (.int .i16 0)) g0 = some (bcs (c.toList.set k zB)).toArray := row_put zB r0 HKL.out
        have s1 : rowOf ((w'.setCell ⟨g0, k * 2, none⟩ (.int .u8 0)).setCell ⟨g0, k * 2 + 1, none⟩ (.int .i16 0)) g1 = some (cc zC).toArray := by rw [row_far (by omega), row_far (by omega), r1]
        have s2 : rowOf ((w'.setCell ⟨g0, k * 2, none⟩ (.int .u8 0)).setCell ⟨g0, k * 2 + 1, none⟩ (.int .i16 0)) g2 = some (#[.int .u8 0, .int .i16 0] : Array Value) := by rw [row_far (by omega), row_far (by omega), r2]
        have s3 : rowOf ((w'.setCell ⟨g0, k * 2, none⟩ (.int .u8 0)).setCell ⟨g0, k * 2 + 1, none⟩ (.int .i16 0)) g3 = some (#[.int .u8 b.k, .int .i16 b.y] : Array Value) := by rw [row_far (by omega), row_far (by omega), r3]
        have H1 : Below w.heap.size w ((w'.setCell ⟨g0, k * 2, none⟩ (.int .u8 0)).setCell ⟨g0, k * 2 + 1, none⟩ (.int .i16 0)) := (H0.setCell (by show _ ≤ g0; omega) _).setCell (by show _ ≤ g0; omega) _
        clear H r0 r1 r2 r3 y0 y1 f0 f1 HB
        generalize (w'.setCell ⟨g0, k * 2, none⟩ (.int .u8 0)).setCell ⟨g0, k * 2 + 1, none⟩ (.int .i16 0) = W4 at *
        replace s0 : rowOf W4 g0 = some (cc (setC c k zB)).toArray := s0
        have H := (Below.refl W4.heap.size W4).drew
        have n3 : rowOf ((World.drew W4).setRow g1 (cc (setC c k zB)).toArray) g3 = some (#[.int .u8 b.k, .int .i16 b.y] : Array Value) := by rw [rowOf_setRow, if_neg (by omega)]; exact s3
        have n2 : rowOf ((World.drew W4).setRow g1 (cc (setC c k zB)).toArray) g2 = some (#[.int .u8 0, .int .i16 0] : Array Value) := by rw [rowOf_setRow, if_neg (by omega)]; exact s2
        refine wp_region_five (by kernel_rfl) (by kernel_rfl) (Steps.load rfl _ _ rfl g0 rfl _ s0 _ Try.underlying34 rfl (infoC (setC c k zB))) (Steps.load rfl _ _ rfl g3 rfl _ s3 _ Try.underlying32 rfl (infoB _ _)) (Steps.load rfl _ _ rfl g3 rfl _ s3 _ Try.underlying32 rfl (infoB _ _)) (Steps.load rfl _ _ rfl g0 rfl _ s0 _ Try.underlying34 rfl (infoC (setC c k zB))) (Steps.store rfl rfl _ _ _ rfl g1 rfl _ rfl _ s1 (cc_size2 _ _) (infoC (setC c k zB)) (cc_one (setC c k zB))) (Steps.store rfl rfl _ _ _ rfl g1 rfl _ rfl _ s1 (cc_size2 _ _) (infoC (setC c k zB)) (cc_one (setC c k zB))) (Steps.load rfl _ _ rfl g3 rfl _ n3 _ Try.underlying32 rfl (infoB _ _)) (Steps.store rfl rfl _ _ _ rfl g2 rfl (#[.int .u8 b.k, .int .i16 b.y] : Array Value) rfl _ n2 rfl (infoB _ _) (bv_one _ _)) (by exact Steps.assign rfl _ rfl) ?_
        go_wp2
        rw [HF'.out]
        replace H0 := H1
        obtain ⟨t1, t2, t3⟩ := two_rows (A := (cc (setC c k zB)).toArray) (B := #[.int .u8 b.k, .int .i16 b.y]) H0 H s1 s2 (by omega) (by omega)
        exact bodyPost_ret (results_cct rfl rfl rfl (loadVar_rowOf _ t1 _ Try.underlying34 rfl (infoC _)) (loadVar_rowOf _ t2 _ Try.underlying32 rfl (infoB _ _))) rfl ⟨rfl, t3⟩
end Go.Proofs.Ytkpaijbjbbgpmaa
