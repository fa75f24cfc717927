/- Contracts of MoveBottle: a bottle moved to a free place. -/
import Derived.Test.YthjfaggbkmchkaaSwap
namespace Go.Proofs.Ythjfaggbkmchkaa
open Go.RowKit
set_option linter.unusedVariables false
set_option linter.unusedSimpArgs false
set_option maxRecDepth 100000
set_option maxHeartbeats 1000000
attribute [local go_sem] Oper.qB
/-- The code of a move. -/
def moveQ (c : Cr) (s : Sw) : Int := if s.ok = false then 2 else if (rB c.toList s.f.toNat).em = true then 6 else if (rB c.toList s.t.toNat).em = false then 4 else 0
def moveR (c : Cr) (s : Sw) : Cr × Int := if c.ok = false then (zC, 1) else if moveQ c s = 0 then (swC c s, 0) else (zC, moveQ c s)
theorem setC_comm (c : Cr) (i j : Nat) (x y : Bt) (h : i ≠ j) : setC (setC c i x) j y = setC (setC c j y) i x := by
  apply Vector.toArray_inj.1
  apply Array.toList_inj.1
  show (c.toList.set i x).set j y = (c.toList.set j y).set i x
  exact List.set_comm _ _ h
theorem move_swap {c : Cr} {i j : Nat} (hi : (rB c.toList i).em = false) (hj : (rB c.toList j).em = true) : swapC c i j = setC (setC c j (rB c.toList i)) i zB := by
  have hne : i ≠ j := by
    rintro rfl
    rw [hi] at hj
    cases hj
  rw [swapC, Bt.em_iff.1 hj, setC_comm _ _ _ _ _ hne]
/-- The same row stored in both worlds. -/
theorem below_setRow {B : Nat} {w w1 : World} (h : Below B w w1) (g : Nat) (A : Array Value) : Below B (w.setRow g A) (w1.setRow g A) := by
  refine ⟨h.os, h.tape, h.output, by simpa using h.size, fun k hk => ?_⟩
  by_cases e : k = g
  · subst e
    have := h.block k hk
    simp only [World.setRow, Array.getElem?_modify, ↓reduceIte]
    rw [this]
  · rw [setRow_other w1 g k A e, setRow_other w g k A e, h.block k hk]
theorem setRow_twice (w : World) (g : Nat) (A A' : Array Value) : (w.setRow g A).setRow g A' = w.setRow g A' := by
  unfold World.setRow
  congr 1
  apply Array.ext_getElem?
  intro k
  simp only [Array.getElem?_modify]
  split
  · cases w.heap[k]? with
    | none => rfl
    | some o => cases o <;> rfl
  · rfl
attribute [local go_sem high] eqB
theorem moveCode_any (c : Cr) (s : Sw) (w : World) : Calls Try.prog 77 #[cv c, sv s] w fun e w' => e = .returned (.int .i64 (moveQ c s)) ∧ Below w.heap.size w w' := by
  have hu := Try.underlying37
  cases e1 : s.ok with
  | false =>
    have HF := Lib.hid (show moveQ c s = 2 by simp [moveQ, e1])
    go_enter Try.func77, Try.ntmps77
    go_upto_region 1 with fail
    generalize hW : World.alloc _ _ = W
    have H0 : Below w.heap.size w W := by rw [← hW]; go_grown
    have r0 : rowOf W (w.heap.size) = some ((cc c).toArray) := (by (try rw [← hW]); simp only [rowOf_alloc, World.size_alloc, ↓reduceIte]; all_goals ((repeat' split) <;> first | omega | (exfalso; omega) | rfl))
    have r1 : rowOf W (w.heap.size + 1) = some (#[.int .i8 s.f, .int .i8 s.t]) := (by (try rw [← hW]); simp only [rowOf_alloc, World.size_alloc, ↓reduceIte]; all_goals ((repeat' split) <;> first | omega | (exfalso; omega) | rfl))
    clear hW
    have q0 : w.heap.size < w.heap.size + 1 := by omega
    have l0 : w.heap.size ≤ w.heap.size := Nat.le_refl _
    generalize w.heap.size + 1 = g1 at r1 q0 ⊢
    generalize h0 : w.heap.size = g0 at r0 q0 ⊢
    replace l0 : w.heap.size ≤ g0 := Nat.le_of_eq h0
    clear h0
    have b0 := rowOf_lt r0
    have b1 := rowOf_lt r1
    have H := Below.refl W.heap.size W
    go_wp2_with (first | ((with_reducible refine wp_load_rowBg H ?_ _ _ rfl _ rfl _ r1 _ Try.underlying92 rfl (infoS _ _) ?_); rfl) | (go_at_call 109; with_reducible refine (isSwap_any s _).mono ?_; rintro e w' ⟨rfl, hb⟩; replace H := bstep H hb; clear hb; have hc := bcell H))
    go_ret
    exact ⟨ret_int HF.out.symm, bstep H0 H⟩
  | true =>
    obtain ⟨i, j, h1, h2, hi, hj⟩ := ok_places e1
    have HF : Hid (moveQ c s = if (rB c.toList i).em = true then 6 else if (rB c.toList j).em = false then 4 else 0) := by rw [Hid, moveQ, h1, h2, e1]; rfl
    have hi2 : (i : Int) < 12 := by omega
    have hj2 : (j : Int) < 12 := by omega
    have hi3 : (i : Int) ≤ 11 := by omega
    have hj3 : (j : Int) ≤ 11 := by omega
    have hkl : i < c.toList.length := by rw [Vector.length_toList]; exact hi
    have hkl' : j < c.toList.length := by rw [Vector.length_toList]; exact hj
    replace h1 := Lib.hid h1
    replace h2 := Lib.hid h2
    go_enter Try.func77, Try.ntmps77
    go_upto_region 1 with fail
    generalize hW : World.alloc _ _ = W
    have H0 : Below w.heap.size w W := by rw [← hW]; go_grown
    have r0 : rowOf W (w.heap.size) = some ((cc c).toArray) := (by (try rw [← hW]); simp only [rowOf_alloc, World.size_alloc, ↓reduceIte]; all_goals ((repeat' split) <;> first | omega | (exfalso; omega) | rfl))
    have r1 : rowOf W (w.heap.size + 1) = some (#[.int .i8 s.f, .int .i8 s.t]) := (by (try rw [← hW]); simp only [rowOf_alloc, World.size_alloc, ↓reduceIte]; all_goals ((repeat' split) <;> first | omega | (exfalso; omega) | rfl))
    clear hW
    have q0 : w.heap.size < w.heap.size + 1 := by omega
    have l0 : w.heap.size ≤ w.heap.size := Nat.le_refl _
    generalize w.heap.size + 1 = g1 at r1 q0 ⊢
    generalize h0 : w.heap.size = g0 at r0 q0 ⊢
    replace l0 : w.heap.size ≤ g0 := Nat.le_of_eq h0
    clear h0
    have b0 := rowOf_lt r0
    have b1 := rowOf_lt r1
    have H := Below.refl W.heap.size W
    have p0 : W.cell? ⟨g1, 0, none⟩ = some (.int .i8 i) := by rw [← h1.out]; exact rowOf_cell r1 0
    have p1 : W.cell? ⟨g1, 1, none⟩ = some (.int .i8 j) := by rw [← h2.out]; exact rowOf_cell r1 1
    have x0 := row0 r0 hkl
    have x1 := row1 r0 hkl
    have y0 := row0 r0 hkl'
    have y1 := row1 r0 hkl'
    clear hkl hkl' h1 h2
    generalize rB c.toList i = x at x0 x1 HF
    generalize rB c.toList j = y at y0 y1 HF
    cases e2 : x.em with
    | true =>
      have e4 : (x.k == 0 && x.y == 0) = true := e2
      replace HF := Lib.hid (HF.out.trans (if_pos e2))
      clear e2
      go_wp2_with (first | ((with_reducible refine wp_load_rowBg H ?_ _ _ rfl _ rfl _ r1 _ Try.underlying92 rfl (infoS _ _) ?_); rfl) | (go_at_call 109; with_reducible refine (isSwap_any s _).mono ?_; rintro e w' ⟨rfl, hb⟩; replace H := bstep H hb; clear hb; have hc := bcell H))
      go_ret
      exact ⟨ret_int HF.out.symm, bstep H0 H⟩
    | false =>
      have e4 : (x.k == 0 && x.y == 0) = false := e2
      replace HF := Lib.hid (HF.out.trans (if_neg (by rw [e2]; simp)))
      clear e2
      cases e3 : y.em with
      | false =>
        have e5 : (y.k == 0 && y.y == 0) = false := e3
        replace HF := Lib.hid (HF.out.trans (if_pos e3))
        clear e3
        go_wp2_with (first | ((with_reducible refine wp_load_rowBg H ?_ _ _ rfl _ rfl _ r1 _ Try.underlying92 rfl (infoS _ _) ?_); rfl) | (go_at_call 109; with_reducible refine (isSwap_any s _).mono ?_; rintro e w' ⟨rfl, hb⟩; replace H := bstep H hb; clear hb; have hc := bcell H))
        go_ret
        exact ⟨ret_int HF.out.symm, bstep H0 H⟩
      | true =>
        have e5 : (y.k == 0 && y.y == 0) = true := e3
        replace HF := Lib.hid (HF.out.trans (if_neg (by rw [e3]; simp)))
        clear e3
        go_wp2_with (first | ((with_reducible refine wp_load_rowBg H ?_ _ _ rfl _ rfl _ r1 _ Try.underlying92 rfl (infoS _ _) ?_); rfl) | (go_at_call 109; with_reducible refine (isSwap_any s _).mono ?_; rintro e w' ⟨rfl, hb⟩; replace H := bstep H hb; clear hb; have hc := bcell H))
        go_ret
        exact ⟨ret_int HF.out.symm, bstep H0 H⟩
/-- The world behind a move in a crate that lies in block p. -/
def movedW (c : Cr) (s : Sw) (p : Nat) (w : World) : World := if moveQ c s = 0 then w.setRow p (cc (swC c s)).toArray else w
theorem l03Moved_any (c : Cr) (s : Sw) (p : Nat) (w : World) (hr : rowOf w p = some (cc c).toArray) :
    Calls Try.prog 76 #[.pointer (some ⟨p, 0, none⟩), sv s] w fun e w' => e = .returned (.int .i64 (moveQ c s)) ∧ Below w.heap.size (movedW c s p w) w' := by
  have hp := rowOf_lt hr
  cases e1 : s.ok with
  | false =>
    have HF := Lib.hid (show moveQ c s = 2 by simp [moveQ, e1])
    go_enter Try.func76, Try.ntmps76
    go_upto_region 1 with fail
    generalize hW : World.alloc _ _ = W
    have H0 : Below w.heap.size w W := by rw [← hW]; go_grown
    have r0 : rowOf W (w.heap.size) = some (#[.int .i8 s.f, .int .i8 s.t]) := (by (try rw [← hW]); simp only [rowOf_alloc, World.size_alloc, ↓reduceIte]; all_goals ((repeat' split) <;> first | omega | (exfalso; omega) | rfl))
    clear hW
    have l0 : w.heap.size ≤ w.heap.size := Nat.le_refl _
    generalize h0 : w.heap.size = g0 at r0 ⊢
    replace l0 : w.heap.size ≤ g0 := Nat.le_of_eq h0
    clear h0
    have b0 := rowOf_lt r0
    have H := Below.refl W.heap.size W
    go_wp2_with (first | ((with_reducible refine wp_load_rowBg H ?_ _ _ rfl _ rfl _ r0 _ Try.underlying92 rfl (infoS _ _) ?_); rfl) | (go_at_call 105; with_reducible refine (l03Can_any s _).mono ?_; rintro e w' ⟨rfl, hb⟩; replace H := bstep H hb; clear hb; have hc := bcell H))
    go_ret
    exact ⟨ret_int HF.out.symm, by rw [movedW, if_neg (by rw [HF.out]; decide)]; exact bstep H0 H⟩
  | true =>
    obtain ⟨i, j, h1, h2, hi, hj⟩ := ok_places e1
    have HF : Hid (moveQ c s = if (rB c.toList i).em = true then 6 else if (rB c.toList j).em = false then 4 else 0) := by rw [Hid, moveQ, h1, h2, e1]; rfl
    have HS : Hid ((rB c.toList i).em = false → (rB c.toList j).em = true → swC c s = setC (setC c j (rB c.toList i)) i zB) := fun a b => by rw [← move_swap a b, swC, h1, h2]; rfl
    have hi2 : (i : Int) < 12 := by omega
    have hj2 : (j : Int) < 12 := by omega
    have hi3 : (i : Int) ≤ 11 := by omega
    have hj3 : (j : Int) ≤ 11 := by omega
    have HI := Lib.hid (show i < c.toList.length by rw [Vector.length_toList]; exact hi)
    have HJ := Lib.hid (show j < c.toList.length by rw [Vector.length_toList]; exact hj)
    replace h1 := Lib.hid h1
    replace h2 := Lib.hid h2
    go_enter Try.func76, Try.ntmps76
    go_upto_region 1 with fail
    generalize hW : World.alloc _ _ = W
    have H0 : Below w.heap.size w W := by rw [← hW]; go_grown
    have r0 : rowOf W (w.heap.size) = some (#[.int .i8 s.f, .int .i8 s.t]) := (by (try rw [← hW]); simp only [rowOf_alloc, World.size_alloc, ↓reduceIte]; all_goals ((repeat' split) <;> first | omega | (exfalso; omega) | rfl))
    clear hW
    have l0 : w.heap.size ≤ w.heap.size := Nat.le_refl _
    generalize h0 : w.heap.size = g0 at r0 ⊢
    replace l0 : w.heap.size ≤ g0 := Nat.le_of_eq h0
    clear h0
    have b0 := rowOf_lt r0
    have H := Below.refl W.heap.size W
    have R : rowOf W p = some (cc c).toArray := (rowOf_below H0 hp).trans hr
    have q0 : p < g0 := by omega
    go_upto_region 3 with (first | ((with_reducible refine wp_load_rowBg H ?_ _ _ rfl _ rfl _ r0 _ Try.underlying92 rfl (infoS _ _) ?_); rfl) | (go_at_call 105; with_reducible refine (l03Can_any s _).mono ?_; rintro e w' ⟨rfl, hb⟩; replace H := bstep H hb; clear hb; have hc := bcell H))
    clear hc
    replace R := row_kept R H
    replace r0 := row_kept r0 H
    replace H0 := bstep H0 H
    replace H := below_self H
    have t0 := r0
    rw [h1.out, h2.out] at t0
    have p0 := cell_regrown (rowOf_cell t0 0)
    have p1 := cell_regrown (rowOf_cell t0 1)
    have x0 := cell_regrown (row0 R HI.out)
    have x1 := cell_regrown (row1 R HI.out)
    generalize hx : rB c.toList i = x at x0 x1 HF HS
    generalize hy : rB c.toList j = y at HF HS
    replace hx := Lib.hid hx
    replace hy := Lib.hid hy
    refine wp_region_qB (by kernel_rfl) (by kernel_rfl) ?_
    (repeat (first | fail | (refine qB_step (fun K hK => ?_); go_simp; first | (refine hK _ ?_; clear hK K) | (apply Exists.intro; refine ⟨fun _ => ?_, hK _ ?_⟩; (first | (go_at_call 112; with_reducible exact l01Free_any x _)); clear hK K))))
    refine qB_nil ?_
    intro w1 hw1
    replace H := bstep H hw1
    clear hw1
    replace R := row_kept R H
    replace r0 := row_kept r0 H
    replace H0 := bstep H0 H
    replace H := below_self H
    clear p0 p1 x0 x1 t0
    cases e2 : x.em with
    | true =>
      replace HF := Lib.hid (HF.out.trans (if_pos e2))
      go_wp2
      go_ret
      exact ⟨ret_int HF.out.symm, by rw [movedW, if_neg (by rw [HF.out]; decide)]; exact H0⟩
    | false =>
      replace HF := Lib.hid (HF.out.trans (if_neg (by rw [e2]; simp)))
      have t0 := r0
      rw [h1.out, h2.out] at t0
      have p0 := cell_regrown (rowOf_cell t0 0)
      have p1 := cell_regrown (rowOf_cell t0 1)
      have y0 := cell_regrown (row0 R HJ.out)
      have y1 := cell_regrown (row1 R HJ.out)
      rw [hy.out] at y0 y1
      go_upto_region 5 with fail
      refine wp_region_qB (by kernel_rfl) (by kernel_rfl) ?_
      (repeat (first | fail | (refine qB_step (fun K hK => ?_); go_simp; first | (refine hK _ ?_; clear hK K) | (apply Exists.intro; refine ⟨fun _ => ?_, hK _ ?_⟩; (first | (go_at_call 112; with_reducible exact l01Free_any y _)); clear hK K))))
      refine qB_nil ?_
      intro w1 hw1
      replace H := bstep H hw1
      clear hw1
      replace R := row_kept R H
      replace r0 := row_kept r0 H
      replace H0 := bstep H0 H
      replace H := below_self H
      clear p0 p1 y0 y1 t0
      cases e3 : y.em with
      | false =>
        replace HF := Lib.hid (HF.out.trans (if_pos e3))
        go_wp2
        go_ret
        exact ⟨ret_int HF.out.symm, by rw [movedW, if_neg (by rw [HF.out]; decide)]; exact H0⟩
      | true =>
        replace HF := Lib.hid (HF.out.trans (if_neg (by rw [e3]; simp)))
        replace HS := Lib.hid (HS.out e2 e3)
        have t0 := r0
        rw [h1.out, h2.out] at t0
        have p0 := rowOf_cell t0 0
        have p1 := rowOf_cell t0 1
        have x0 := row0 R HI.out
        have x1 := row1 R HI.out
        rw [hx.out] at x0 x1
        go_upto_region 7 with fail
        refine wp_region_still_tail 11 (by kernel_rfl) (by kernel_rfl) ?_
        replace H := H.drew
        simp only [List.take_succ_cons, List.take_zero, List.drop_succ_cons, List.drop_zero]
        repeat (first | fail | still_step)
        refine wpStill_nil ?_
        change wpList _ _ _ _ _ (World.drew _)
        generalize World.drew _ = w1 at H ⊢
        (with_reducible refine wp_store_place rfl rfl _ _ _ rfl _ _ rfl _ rfl (c.toList) (by exact row_kept R H) HJ.out (infoB _ _) ?_)
        go_upto_region 8 with fail
        have S0 : rowOf (w1.setRow p (bcs (c.toList.set j x)).toArray) p = some (bcs (c.toList.set j x)).toArray := by rw [rowOf_setRow, if_pos rfl, row_kept R H]; rfl
        have S1 : rowOf (w1.setRow p (bcs (c.toList.set j x)).toArray) g0 = _ := (rowOf_setRow_ne (by omega)).trans (row_kept t0 H)
        have H1 := below_setRow (bstep H0 H) p (bcs (c.toList.set j x)).toArray
        have H2 := (bstep H0 H).size
        have HI2 : Hid (i < (c.toList.set j x).length) := by rw [Hid, List.length_set]; exact HI.out
        have H3 : (w1.setRow p (bcs (c.toList.set j x)).toArray).heap.size = w1.heap.size := by simp
        clear p0 p1 x0 x1
        generalize w1.setRow p (bcs (c.toList.set j x)).toArray = W4 at *
        have p0 := rowOf_cell S1 0
        have p1 := rowOf_cell S1 1
        clear H H0
        have H := Below.refl W4.heap.size W4
        refine wp_region_still_tail 6 (by kernel_rfl) (by kernel_rfl) ?_
        replace H := H.drew
        simp only [List.take_succ_cons, List.take_zero, List.drop_succ_cons, List.drop_zero]
        repeat (first | fail | still_step)
        refine wpStill_nil ?_
        change wpList _ _ _ _ _ (World.drew _)
        generalize World.drew _ = w1 at H ⊢
        (with_reducible refine wp_store_place0 rfl rfl _ _ _ rfl _ _ rfl rfl (c.toList.set j x) (by exact row_kept S0 H) HI2.out (infoB _ _) ?_)
        go_wp2
        go_ret
        refine ⟨ret_int HF.out.symm, ?_⟩
        rw [movedW, if_pos HF.out, HS.out]
        have := below_setRow (H1.trans (H.mono (by omega))) p (bcs ((c.toList.set j x).set i zB)).toArray
        rw [setRow_twice] at this
        exact this
end Go.Proofs.Ythjfaggbkmchkaa
