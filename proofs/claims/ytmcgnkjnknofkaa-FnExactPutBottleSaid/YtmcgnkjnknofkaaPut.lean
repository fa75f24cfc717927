/- Contracts of PutBottle. -/
import Derived.Test.YtmcgnkjnknofkaaFunc
import Derived.Test.YtmcgnkjnknofkaaConv
namespace Go.Proofs.Ytmcgnkjnknofkaa
open Go.RowKit
set_option linter.unusedVariables false
set_option linter.unusedSimpArgs false
set_option maxRecDepth 100000
set_option maxHeartbeats 1000000
/-- A crate with a bottle in a place. -/
def setC (c : Cr) (i : Nat) (b : Bt) : Cr := ⟨(c.toList.set i b).toArray, by simp⟩
theorem setC_toList (c : Cr) (i : Nat) (b : Bt) : (setC c i b).toList = c.toList.set i b := rfl
/-- What PutBottle comes to. -/
def putR (c : Cr) (p : Int) (b : Bt) : Cr × Int :=
  if (c.ok && b.ok) = false then (zC, 1) else if (decide (0 ≤ p) && decide (p ≤ 11)) = false then (zC, 2) else if (rB c.toList p.toNat).em = false then (zC, 4) else (setC c p.toNat b, 0)
attribute [local go_sem high] eqB
theorem PutBottle_any (c : Cr) (p : Int) (b : Bt) (w : World) : Calls Try.prog 42 #[cv c, .int .i64 p, bv b] w fun e w' => e = .returned (.tuple #[cv (putR c p b).1, .int .i64 (putR c p b).2]) ∧ Below w.heap.size w w' := by
  go_enter Try.func42, Try.ntmps42
  go_upto_region 1 with fail
  generalize hW : World.alloc _ _ = W
  have H0 : Below w.heap.size w W := by rw [← hW]; go_grown
  have r0 : rowOf W (w.heap.size) = some ((cc c).toArray) := (by (try rw [← hW]); simp only [rowOf_alloc, World.size_alloc, ↓reduceIte]; all_goals ((repeat' split) <;> first | omega | (exfalso; omega) | rfl))
  have r1 : rowOf W (w.heap.size + 1) = some (#[.int .u8 b.k, .int .i16 b.y]) := (by (try rw [← hW]); simp only [rowOf_alloc, World.size_alloc, ↓reduceIte]; all_goals ((repeat' split) <;> first | omega | (exfalso; omega) | rfl))
  have r2 : rowOf W (w.heap.size + 1 + 1) = some ((cc zC).toArray) := (by (try rw [← hW]); simp only [rowOf_alloc, World.size_alloc, ↓reduceIte]; all_goals ((repeat' split) <;> first | omega | (exfalso; omega) | rfl))
  clear hW
  have q0 : w.heap.size < w.heap.size + 1 := by omega
  have q1 : w.heap.size + 1 < w.heap.size + 1 + 1 := by omega
  have l0 : w.heap.size ≤ w.heap.size := Nat.le_refl _
  generalize w.heap.size + 1 + 1 = g2 at r2 q1 ⊢
  generalize w.heap.size + 1 = g1 at r1 q0 q1 ⊢
  generalize h0 : w.heap.size = g0 at r0 q0 ⊢
  replace l0 : w.heap.size ≤ g0 := Nat.le_of_eq h0
  clear h0
  have b0 := rowOf_lt r0
  have b1 := rowOf_lt r1
  have b2 := rowOf_lt r2
  have H := Below.refl W.heap.size W
  have hu := Try.underlying33
  cases h1 : c.ok && b.ok with
  | false =>
    have HF := Lib.hid (show putR c p b = (zC, 1) by simp [putR, h1])
    cases e1 : c.ok with
    | false =>
      go_wp2_with (first | ((with_reducible refine wp_load_rowBg H ?_ _ _ rfl _ rfl _ r0 _ Try.underlying39 rfl (infoC c) ?_); rfl) | ((with_reducible refine wp_load_rowBg H ?_ _ _ rfl _ rfl _ r1 _ Try.underlying33 rfl (infoB _ _) ?_); rfl) | (go_at_call 26; refine (ValidCrate_any c _).mono ?_; rintro e w' ⟨rfl, hb⟩; replace H := bstep H hb; clear hb; have hc := bcell H) | (go_at_call 23; refine (ValidBottle_any b _).mono ?_; rintro e w' ⟨rfl, hb⟩; replace H := bstep H hb; clear hb; have hc := bcell H) | (go_at_call 66; refine (isPlace_any _ _).mono ?_; rintro e w' ⟨rfl, rfl⟩) | (go_at_call 65; refine (codeOf_any _ _ _).mono ?_; rintro e w' ⟨rfl, rfl⟩) | (with_reducible refine wp_store_zeroB H rfl rfl _ _ rfl _ rfl rfl _ r2 ?_) | (with_reducible refine wp_store_rowB H rfl rfl _ _ _ rfl _ rfl _ rfl _ r2 (cc_size2 _ _) (infoC _) (cc_one _) ?_))
      rw [HF.out]
      refine bodyPost_ret (results_ct rfl rfl (loadVar_rowOf (cc zC).toArray (by rw [rowOf_setRow, if_pos rfl, rowOf_below H (rowOf_lt r2), r2]; rfl) _ Try.underlying39 rfl (infoC _))) rfl ⟨rfl, bsetRow (bstep H0 H) (by omega) _⟩
    | true =>
      have e2 : b.ok = false := by rw [e1] at h1; exact h1
      go_wp2_with (first | ((with_reducible refine wp_load_rowBg H ?_ _ _ rfl _ rfl _ r0 _ Try.underlying39 rfl (infoC c) ?_); rfl) | ((with_reducible refine wp_load_rowBg H ?_ _ _ rfl _ rfl _ r1 _ Try.underlying33 rfl (infoB _ _) ?_); rfl) | (go_at_call 26; refine (ValidCrate_any c _).mono ?_; rintro e w' ⟨rfl, hb⟩; replace H := bstep H hb; clear hb; have hc := bcell H) | (go_at_call 23; refine (ValidBottle_any b _).mono ?_; rintro e w' ⟨rfl, hb⟩; replace H := bstep H hb; clear hb; have hc := bcell H) | (go_at_call 66; refine (isPlace_any _ _).mono ?_; rintro e w' ⟨rfl, rfl⟩) | (go_at_call 65; refine (codeOf_any _ _ _).mono ?_; rintro e w' ⟨rfl, rfl⟩) | (with_reducible refine wp_store_zeroB H rfl rfl _ _ rfl _ rfl rfl _ r2 ?_) | (with_reducible refine wp_store_rowB H rfl rfl _ _ _ rfl _ rfl _ rfl _ r2 (cc_size2 _ _) (infoC _) (cc_one _) ?_))
      rw [HF.out]
      refine bodyPost_ret (results_ct rfl rfl (loadVar_rowOf (cc zC).toArray (by rw [rowOf_setRow, if_pos rfl, rowOf_below H (rowOf_lt r2), r2]; rfl) _ Try.underlying39 rfl (infoC _))) rfl ⟨rfl, bsetRow (bstep H0 H) (by omega) _⟩
  | true =>
    have e1 : c.ok = true := by cases h : c.ok <;> simp_all
    have e2 : b.ok = true := by cases h : b.ok <;> simp_all
    cases h2 : decide (0 ≤ p) && decide (p ≤ 11) with
    | false =>
      have HF := Lib.hid (show putR c p b = (zC, 2) by simp only [putR, h1, h2]; rfl)
      clear h1
      go_wp2_with (first | ((with_reducible refine wp_load_rowBg H ?_ _ _ rfl _ rfl _ r0 _ Try.underlying39 rfl (infoC c) ?_); rfl) | ((with_reducible refine wp_load_rowBg H ?_ _ _ rfl _ rfl _ r1 _ Try.underlying33 rfl (infoB _ _) ?_); rfl) | (go_at_call 26; refine (ValidCrate_any c _).mono ?_; rintro e w' ⟨rfl, hb⟩; replace H := bstep H hb; clear hb; have hc := bcell H) | (go_at_call 23; refine (ValidBottle_any b _).mono ?_; rintro e w' ⟨rfl, hb⟩; replace H := bstep H hb; clear hb; have hc := bcell H) | (go_at_call 66; refine (isPlace_any _ _).mono ?_; rintro e w' ⟨rfl, rfl⟩) | (go_at_call 65; refine (codeOf_any _ _ _).mono ?_; rintro e w' ⟨rfl, rfl⟩) | (with_reducible refine wp_store_zeroB H rfl rfl _ _ rfl _ rfl rfl _ r2 ?_) | (with_reducible refine wp_store_rowB H rfl rfl _ _ _ rfl _ rfl _ rfl _ r2 (cc_size2 _ _) (infoC _) (cc_one _) ?_))
      rw [HF.out]
      refine bodyPost_ret (results_ct rfl rfl (loadVar_rowOf (cc zC).toArray (by rw [rowOf_setRow, if_pos rfl, rowOf_below H (rowOf_lt r2), r2]; rfl) _ Try.underlying39 rfl (infoC _))) rfl ⟨rfl, bsetRow (bstep H0 H) (by omega) _⟩
    | true =>
      obtain ⟨k, rfl⟩ := Int.eq_ofNat_of_zero_le (show 0 ≤ p by simp at h2; exact h2.1)
      have hk : k < 12 := by simp at h2; omega
      have hk1 : (k : Int) ≤ 11 := by omega
      have hkl : k < c.toList.length := by rw [Vector.length_toList]; exact hk
      have x0 := row0 r0 hkl
      have x1 := row1 r0 hkl
      have f0 := rowOf_frozen r0 (k * 2)
      have f1 := rowOf_frozen r0 (k * 2 + 1)
      have HF := Lib.hid (show putR c k b = if (rB c.toList k).em = false then (zC, 4) else (setC c k b, 0) by simp only [putR, h1, h2]; rfl)
      clear h1
      have HKL := Lib.hid hkl
      clear hkl
      generalize rB c.toList k = b' at x0 x1 HF
      cases e3 : b'.em with
      | false =>
        have e4 : (b'.k == 0 && b'.y == 0) = false := e3
        have HF' := Lib.hid (HF.out.trans (if_pos e3))
        clear e3 HF
        go_wp2_with (first | ((with_reducible refine wp_load_rowBg H ?_ _ _ rfl _ rfl _ r0 _ Try.underlying39 rfl (infoC c) ?_); rfl) | ((with_reducible refine wp_load_rowBg H ?_ _ _ rfl _ rfl _ r1 _ Try.underlying33 rfl (infoB _ _) ?_); rfl) | (go_at_call 26; refine (ValidCrate_any c _).mono ?_; rintro e w' ⟨rfl, hb⟩; replace H := bstep H hb; clear hb; have hc := bcell H) | (go_at_call 23; refine (ValidBottle_any b _).mono ?_; rintro e w' ⟨rfl, hb⟩; replace H := bstep H hb; clear hb; have hc := bcell H) | (go_at_call 66; refine (isPlace_any _ _).mono ?_; rintro e w' ⟨rfl, rfl⟩) | (go_at_call 65; refine (codeOf_any _ _ _).mono ?_; rintro e w' ⟨rfl, rfl⟩) | (with_reducible refine wp_store_zeroB H rfl rfl _ _ rfl _ rfl rfl _ r2 ?_) | (with_reducible refine wp_store_rowB H rfl rfl _ _ _ rfl _ rfl _ rfl _ r2 (cc_size2 _ _) (infoC _) (cc_one _) ?_))
        rw [HF'.out]
        refine bodyPost_ret (results_ct rfl rfl (loadVar_rowOf (cc zC).toArray (by rw [rowOf_setRow, if_pos rfl, rowOf_below H (rowOf_lt r2), r2]; rfl) _ Try.underlying39 rfl (infoC _))) rfl ⟨rfl, bsetRow (bstep H0 H) (by omega) _⟩
      | true =>
        have e4 : (b'.k == 0 && b'.y == 0) = true := e3
        have HF' := Lib.hid (HF.out.trans (if_neg (by rw [e3]; simp)))
        clear e3 HF
        go_upto_region 7 with (first | ((with_reducible refine wp_load_rowBg H ?_ _ _ rfl _ rfl _ r0 _ Try.underlying39 rfl (infoC c) ?_); rfl) | ((with_reducible refine wp_load_rowBg H ?_ _ _ rfl _ rfl _ r1 _ Try.underlying33 rfl (infoB _ _) ?_); rfl) | (go_at_call 26; refine (ValidCrate_any c _).mono ?_; rintro e w' ⟨rfl, hb⟩; replace H := bstep H hb; clear hb; have hc := bcell H) | (go_at_call 23; refine (ValidBottle_any b _).mono ?_; rintro e w' ⟨rfl, hb⟩; replace H := bstep H hb; clear hb; have hc := bcell H) | (go_at_call 66; refine (isPlace_any _ _).mono ?_; rintro e w' ⟨rfl, rfl⟩) | (go_at_call 65; refine (codeOf_any _ _ _).mono ?_; rintro e w' ⟨rfl, rfl⟩) | (with_reducible refine wp_store_zeroB H rfl rfl _ _ rfl _ rfl rfl _ r2 ?_) | (with_reducible refine wp_store_rowB H rfl rfl _ _ _ rfl _ rfl _ rfl _ r2 (cc_size2 _ _) (infoC _) (cc_one _) ?_))
        have s0 := row_put b (row_kept r0 H) HKL.out
        have s2 : rowOf ((w'.setCell ⟨g0, k * 2, none⟩ (.int .u8 b.k)).setCell ⟨g0, k * 2 + 1, none⟩ (.int .i16 b.y)) g2 = some (cc zC).toArray := by rw [row_far (by omega), row_far (by omega), row_kept r2 H]
        have H1 : Below w.heap.size w ((w'.setCell ⟨g0, k * 2, none⟩ (.int .u8 b.k)).setCell ⟨g0, k * 2 + 1, none⟩ (.int .i16 b.y)) := ((bstep H0 H).setCell (by show _ ≤ g0; omega) _).setCell (by show _ ≤ g0; omega) _
        clear H hc h2 x0 x1 f0 f1 e1 e2 r0 r1 r2 H0 b0 b1 b2
        generalize World.setCell (World.setCell w' _ _) _ _ = W2 at s0 s2 H1 ⊢
        replace s0 : rowOf W2 g0 = some (cc (setC c k b)).toArray := s0
        have H := Below.refl W2.heap.size W2
        go_wp2_with (first | ((with_reducible refine wp_load_rowBg H ?_ _ _ rfl _ rfl _ s0 _ Try.underlying39 rfl (infoC (setC c k b)) ?_); rfl) | (with_reducible refine wp_store_rowB H rfl rfl _ _ _ rfl _ rfl _ rfl _ s2 (cc_size2 _ _) (infoC _) (cc_one _) ?_))
        rw [HF'.out]
        have H0 := H1
        refine bodyPost_ret (results_ct rfl rfl (loadVar_rowOf (cc (setC c k b)).toArray (by rw [rowOf_setRow, if_pos rfl, rowOf_below H (rowOf_lt s2), s2]; rfl) _ Try.underlying39 rfl (infoC _))) rfl ⟨rfl, bsetRow (bstep H0 H) (by omega) _⟩
theorem sPutBottle_any (c : Cr) (p : Int) (b : Bt) (w : World) : Calls Try.prog 41 #[cv c, .int .i64 p, bv b] w fun e w' => e = .returned (.tuple #[cv (putR c p b).1, .int .i64 (putR c p b).2]) ∧ Below w.heap.size w w' := by
  go_enter Try.func41, Try.ntmps41
  go_upto_region 1 with fail
  generalize hW : World.alloc _ _ = W
  have H0 : Below w.heap.size w W := by rw [← hW]; go_grown
  have r0 : rowOf W (w.heap.size) = some ((cc c).toArray) := (by (try rw [← hW]); simp only [rowOf_alloc, World.size_alloc, ↓reduceIte]; all_goals ((repeat' split) <;> first | omega | (exfalso; omega) | rfl))
  have r1 : rowOf W (w.heap.size + 1) = some (#[.int .u8 b.k, .int .i16 b.y]) := (by (try rw [← hW]); simp only [rowOf_alloc, World.size_alloc, ↓reduceIte]; all_goals ((repeat' split) <;> first | omega | (exfalso; omega) | rfl))
  have r2 : rowOf W (w.heap.size + 1 + 1) = some ((cc zC).toArray) := (by (try rw [← hW]); simp only [rowOf_alloc, World.size_alloc, ↓reduceIte]; all_goals ((repeat' split) <;> first | omega | (exfalso; omega) | rfl))
  clear hW
  have q0 : w.heap.size < w.heap.size + 1 := by omega
  have q1 : w.heap.size + 1 < w.heap.size + 1 + 1 := by omega
  have l0 : w.heap.size ≤ w.heap.size := Nat.le_refl _
  generalize w.heap.size + 1 + 1 = g2 at r2 q1 ⊢
  generalize w.heap.size + 1 = g1 at r1 q0 q1 ⊢
  generalize h0 : w.heap.size = g0 at r0 q0 ⊢
  replace l0 : w.heap.size ≤ g0 := Nat.le_of_eq h0
  clear h0
  have b0 := rowOf_lt r0
  have b1 := rowOf_lt r1
  have b2 := rowOf_lt r2
  have H := Below.refl W.heap.size W
  have hu := Try.underlying33
  cases h1 : c.ok && b.ok with
  | false =>
    have HF := Lib.hid (show putR c p b = (zC, 1) by simp [putR, h1])
    cases e1 : c.ok with
    | false =>
      go_wp2_with (first | ((with_reducible refine wp_load_rowBg H ?_ _ _ rfl _ rfl _ r0 _ Try.underlying39 rfl (infoC c) ?_); rfl) | ((with_reducible refine wp_load_rowBg H ?_ _ _ rfl _ rfl _ r1 _ Try.underlying33 rfl (infoB _ _) ?_); rfl) | (go_at_call 47; refine (l01Ok_row H r0).mono ?_; rintro e w' ⟨rfl, hb⟩; replace H := bstep H hb; clear hb; have hc := bcell H) | (go_at_call 46; refine (l01Bottle_any b _).mono ?_; rintro e w' ⟨rfl, hb⟩; replace H := bstep H hb; clear hb; have hc := bcell H) | (go_at_call 63; refine (l01Place_any _ _).mono ?_; rintro e w' ⟨rfl, rfl⟩) | (go_at_call 64; refine (l01Free_any b' _).mono ?_; rintro e w' ⟨rfl, hb⟩; replace H := bstep H hb; clear hb; have hc := bcell H) | (with_reducible refine wp_store_zeroB H rfl rfl _ _ rfl _ rfl rfl _ r2 ?_) | (with_reducible refine wp_store_rowB H rfl rfl _ _ _ rfl _ rfl _ rfl _ r2 (cc_size2 _ _) (infoC _) (cc_one _) ?_))
      rw [HF.out]
      refine bodyPost_ret (results_ct rfl rfl (loadVar_rowOf (cc zC).toArray (by rw [rowOf_setRow, if_pos rfl, rowOf_below H (rowOf_lt r2), r2]; rfl) _ Try.underlying39 rfl (infoC _))) rfl ⟨rfl, bsetRow (bstep H0 H) (by omega) _⟩
    | true =>
      have e2 : b.ok = false := by rw [e1] at h1; exact h1
      go_wp2_with (first | ((with_reducible refine wp_load_rowBg H ?_ _ _ rfl _ rfl _ r0 _ Try.underlying39 rfl (infoC c) ?_); rfl) | ((with_reducible refine wp_load_rowBg H ?_ _ _ rfl _ rfl _ r1 _ Try.underlying33 rfl (infoB _ _) ?_); rfl) | (go_at_call 47; refine (l01Ok_row H r0).mono ?_; rintro e w' ⟨rfl, hb⟩; replace H := bstep H hb; clear hb; have hc := bcell H) | (go_at_call 46; refine (l01Bottle_any b _).mono ?_; rintro e w' ⟨rfl, hb⟩; replace H := bstep H hb; clear hb; have hc := bcell H) | (go_at_call 63; refine (l01Place_any _ _).mono ?_; rintro e w' ⟨rfl, rfl⟩) | (go_at_call 64; refine (l01Free_any b' _).mono ?_; rintro e w' ⟨rfl, hb⟩; replace H := bstep H hb; clear hb; have hc := bcell H) | (with_reducible refine wp_store_zeroB H rfl rfl _ _ rfl _ rfl rfl _ r2 ?_) | (with_reducible refine wp_store_rowB H rfl rfl _ _ _ rfl _ rfl _ rfl _ r2 (cc_size2 _ _) (infoC _) (cc_one _) ?_))
      rw [HF.out]
      refine bodyPost_ret (results_ct rfl rfl (loadVar_rowOf (cc zC).toArray (by rw [rowOf_setRow, if_pos rfl, rowOf_below H (rowOf_lt r2), r2]; rfl) _ Try.underlying39 rfl (infoC _))) rfl ⟨rfl, bsetRow (bstep H0 H) (by omega) _⟩
  | true =>
    have e1 : c.ok = true := by cases h : c.ok <;> simp_all
    have e2 : b.ok = true := by cases h : b.ok <;> simp_all
    cases h2 : decide (0 ≤ p) && decide (p ≤ 11) with
    | false =>
      have HF := Lib.hid (show putR c p b = (zC, 2) by simp only [putR, h1, h2]; rfl)
      clear h1
      go_wp2_with (first | ((with_reducible refine wp_load_rowBg H ?_ _ _ rfl _ rfl _ r0 _ Try.underlying39 rfl (infoC c) ?_); rfl) | ((with_reducible refine wp_load_rowBg H ?_ _ _ rfl _ rfl _ r1 _ Try.underlying33 rfl (infoB _ _) ?_); rfl) | (go_at_call 47; refine (l01Ok_row H r0).mono ?_; rintro e w' ⟨rfl, hb⟩; replace H := bstep H hb; clear hb; have hc := bcell H) | (go_at_call 46; refine (l01Bottle_any b _).mono ?_; rintro e w' ⟨rfl, hb⟩; replace H := bstep H hb; clear hb; have hc := bcell H) | (go_at_call 63; refine (l01Place_any _ _).mono ?_; rintro e w' ⟨rfl, rfl⟩) | (go_at_call 64; refine (l01Free_any b' _).mono ?_; rintro e w' ⟨rfl, hb⟩; replace H := bstep H hb; clear hb; have hc := bcell H) | (with_reducible refine wp_store_zeroB H rfl rfl _ _ rfl _ rfl rfl _ r2 ?_) | (with_reducible refine wp_store_rowB H rfl rfl _ _ _ rfl _ rfl _ rfl _ r2 (cc_size2 _ _) (infoC _) (cc_one _) ?_))
      rw [HF.out]
      refine bodyPost_ret (results_ct rfl rfl (loadVar_rowOf (cc zC).toArray (by rw [rowOf_setRow, if_pos rfl, rowOf_below H (rowOf_lt r2), r2]; rfl) _ Try.underlying39 rfl (infoC _))) rfl ⟨rfl, bsetRow (bstep H0 H) (by omega) _⟩
    | true =>
      obtain ⟨k, rfl⟩ := Int.eq_ofNat_of_zero_le (show 0 ≤ p by simp at h2; exact h2.1)
      have hk : k < 12 := by simp at h2; omega
      have hk1 : (k : Int) ≤ 11 := by omega
      have hkl : k < c.toList.length := by rw [Vector.length_toList]; exact hk
      have x0 := row0 r0 hkl
      have x1 := row1 r0 hkl
      have f0 := rowOf_frozen r0 (k * 2)
      have f1 := rowOf_frozen r0 (k * 2 + 1)
      have HF := Lib.hid (show putR c k b = if (rB c.toList k).em = false then (zC, 4) else (setC c k b, 0) by simp only [putR, h1, h2]; rfl)
      clear h1
      have HKL := Lib.hid hkl
      clear hkl
      generalize rB c.toList k = b' at x0 x1 HF
      cases e3 : b'.em with
      | false =>
        have HF' := Lib.hid (HF.out.trans (if_pos e3))
        clear HF
        go_wp2_with (first | ((with_reducible refine wp_load_rowBg H ?_ _ _ rfl _ rfl _ r0 _ Try.underlying39 rfl (infoC c) ?_); rfl) | ((with_reducible refine wp_load_rowBg H ?_ _ _ rfl _ rfl _ r1 _ Try.underlying33 rfl (infoB _ _) ?_); rfl) | (go_at_call 47; refine (l01Ok_row H r0).mono ?_; rintro e w' ⟨rfl, hb⟩; replace H := bstep H hb; clear hb; have hc := bcell H) | (go_at_call 46; refine (l01Bottle_any b _).mono ?_; rintro e w' ⟨rfl, hb⟩; replace H := bstep H hb; clear hb; have hc := bcell H) | (go_at_call 63; refine (l01Place_any _ _).mono ?_; rintro e w' ⟨rfl, rfl⟩) | (go_at_call 64; refine (l01Free_any b' _).mono ?_; rintro e w' ⟨rfl, hb⟩; replace H := bstep H hb; clear hb; have hc := bcell H) | (with_reducible refine wp_store_zeroB H rfl rfl _ _ rfl _ rfl rfl _ r2 ?_) | (with_reducible refine wp_store_rowB H rfl rfl _ _ _ rfl _ rfl _ rfl _ r2 (cc_size2 _ _) (infoC _) (cc_one _) ?_))
        rw [HF'.out]
        refine bodyPost_ret (results_ct rfl rfl (loadVar_rowOf (cc zC).toArray (by rw [rowOf_setRow, if_pos rfl, rowOf_below H (rowOf_lt r2), r2]; rfl) _ Try.underlying39 rfl (infoC _))) rfl ⟨rfl, bsetRow (bstep H0 H) (by omega) _⟩
      | true =>
        have HF' := Lib.hid (HF.out.trans (if_neg (by rw [e3]; simp)))
        clear HF
        go_upto_region 8 with (first | ((with_reducible refine wp_load_rowBg H ?_ _ _ rfl _ rfl _ r0 _ Try.underlying39 rfl (infoC c) ?_); rfl) | ((with_reducible refine wp_load_rowBg H ?_ _ _ rfl _ rfl _ r1 _ Try.underlying33 rfl (infoB _ _) ?_); rfl) | (go_at_call 47; refine (l01Ok_row H r0).mono ?_; rintro e w' ⟨rfl, hb⟩; replace H := bstep H hb; clear hb; have hc := bcell H) | (go_at_call 46; refine (l01Bottle_any b _).mono ?_; rintro e w' ⟨rfl, hb⟩; replace H := bstep H hb; clear hb; have hc := bcell H) | (go_at_call 63; refine (l01Place_any _ _).mono ?_; rintro e w' ⟨rfl, rfl⟩) | (go_at_call 64; refine (l01Free_any b' _).mono ?_; rintro e w' ⟨rfl, hb⟩; replace H := bstep H hb; clear hb; have hc := bcell H) | (with_reducible refine wp_store_zeroB H rfl rfl _ _ rfl _ rfl rfl _ r2 ?_) | (with_reducible refine wp_store_rowB H rfl rfl _ _ _ rfl _ rfl _ rfl _ r2 (cc_size2 _ _) (infoC _) (cc_one _) ?_))
        have s0 := row_put b (row_kept r0 H) HKL.out
        have s2 : rowOf ((w'.setCell ⟨g0, k * 2, none⟩ (.int .u8 b.k)).setCell ⟨g0, k * 2 + 1, none⟩ (.int .i16 b.y)) g2 = some (cc zC).toArray := by rw [row_far (by omega), row_far (by omega), row_kept r2 H]
        have H1 : Below w.heap.size w ((w'.setCell ⟨g0, k * 2, none⟩ (.int .u8 b.k)).setCell ⟨g0, k * 2 + 1, none⟩ (.int .i16 b.y)) := ((bstep H0 H).setCell (by show _ ≤ g0; omega) _).setCell (by show _ ≤ g0; omega) _
        clear H hc h2 e3 x0 x1 f0 f1 e1 e2 r0 r1 r2 H0 b0 b1 b2
        generalize World.setCell (World.setCell w' _ _) _ _ = W2 at s0 s2 H1 ⊢
        replace s0 : rowOf W2 g0 = some (cc (setC c k b)).toArray := s0
        have H := Below.refl W2.heap.size W2
        go_wp2_with (first | ((with_reducible refine wp_load_rowBg H ?_ _ _ rfl _ rfl _ s0 _ Try.underlying39 rfl (infoC (setC c k b)) ?_); rfl) | (with_reducible refine wp_store_rowB H rfl rfl _ _ _ rfl _ rfl _ rfl _ s2 (cc_size2 _ _) (infoC _) (cc_one _) ?_))
        rw [HF'.out]
        have H0 := H1
        refine bodyPost_ret (results_ct rfl rfl (loadVar_rowOf (cc (setC c k b)).toArray (by rw [rowOf_setRow, if_pos rfl, rowOf_below H (rowOf_lt s2), s2]; rfl) _ Try.underlying39 rfl (infoC _))) rfl ⟨rfl, bsetRow (bstep H0 H) (by omega) _⟩
end Go.Proofs.Ytmcgnkjnknofkaa
