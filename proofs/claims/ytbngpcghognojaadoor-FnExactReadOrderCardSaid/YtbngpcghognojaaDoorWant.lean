/- Contracts of the laws' helpers on a want. -/
import Derived.Test.YtbngpcghognojaaDoorSlc
import Derived.Test.YtbngpcghognojaaDoorConv
namespace Go.Proofs.YtbngpcghognojaaDoor
open Go.RowKit
set_option linter.unusedVariables false
set_option linter.unusedSimpArgs false
set_option maxRecDepth 100000
set_option maxHeartbeats 1000000
theorem wc_size2 (a b : Wt) : (wc a).toArray.size = (wc b).toArray.size := rfl
theorem wv_one (x : Wt) : ∀ v ∈ (wc x).toArray.toList, v.oneCell' = true := by
  intro v hv
  simp [wc] at hv
  rcases hv with rfl | rfl | rfl <;> rfl
theorem infoW (x : Wt) : (Tryd.prog.info? 70).map (·.size) = some (wc x).toArray.size := by kernel_rfl
theorem toWant_any (x : Wt) (w : World) : Calls Tryd.prog 42 #[wv x] w fun e w' => e = .returned (wv x) ∧ Below w.heap.size w w' := by
  go_enter Tryd.func42, Tryd.ntmps42
  go_upto_region 2 with fail
  generalize hW : World.alloc _ _ = W
  have H0 : Below w.heap.size w W := by rw [← hW]; go_grown
  have r0 : rowOf W (w.heap.size) = some ((wc x).toArray) := (by (try rw [← hW]); simp only [rowOf_alloc, World.size_alloc, ↓reduceIte]; all_goals ((repeat' split) <;> first | omega | (exfalso; omega) | rfl))
  have r1 : rowOf W (w.heap.size + 1) = some ((wc zW).toArray) := (by (try rw [← hW]); simp only [rowOf_alloc, World.size_alloc, ↓reduceIte]; all_goals ((repeat' split) <;> first | omega | (exfalso; omega) | rfl))
  have r2 : rowOf W (w.heap.size + 1 + 1) = some ((wc zW).toArray) := (by (try rw [← hW]); simp only [rowOf_alloc, World.size_alloc, ↓reduceIte]; all_goals ((repeat' split) <;> first | omega | (exfalso; omega) | rfl))
  clear hW
  have q0 : w.heap.size < w.heap.size + 1 := by omega
  have q1 : w.heap.size + 1 < w.heap.size + 1 + 1 := by omega
  have l0 : w.heap.size ≤ w.heap.size := Nat.le_refl _
  generalize w.heap.size + 1 + 1 = g2 at r2 q1 ⊢
  generalize w.heap.size + 1 = g1 at r1 q0 q1 ⊢
  generalize h0 : w.heap.size = g0 at r0 q0 ⊢
  replace l0 : w.heap.size ≤ g0 := Nat.le_of_eq h0
  clear h0
  have b0 := rowOf_lt r0
  have b1 := rowOf_lt r1
  have b2 := rowOf_lt r2
  have H := Below.refl W.heap.size W
  have x0 : W.cell? ⟨g0, 0, none⟩ = some (.int .u8 x.b.k) := rowOf_cell r0 0
  have x1 : W.cell? ⟨g0, 1, none⟩ = some (.int .i16 x.b.y) := rowOf_cell r0 1
  have y0 : W.cell? ⟨g2, 0, none⟩ = some (.int .u8 0) := rowOf_cell r2 0
  have y1 : W.cell? ⟨g2, 1, none⟩ = some (.int .i16 0) := rowOf_cell r2 1
  have f0 := rowOf_frozen r2 0
  have f1 := rowOf_frozen r2 1
  go_upto_region 3 with (go_at_call 10; with_reducible refine (toBottle_any x.b _).mono ?_; rintro e w' ⟨rfl, hb⟩; replace H := bstep H hb; clear hb; have hc := bcell H)
  have S0 : rowOf ((w'.setCell ⟨g2, 0, none⟩ (.int .u8 x.b.k)).setCell ⟨g2, 1, none⟩ (.int .i16 x.b.y)) g0 = some (wc x).toArray := by rw [row_far (by omega), row_far (by omega)]; exact row_kept r0 H
  have S1 : rowOf ((w'.setCell ⟨g2, 0, none⟩ (.int .u8 x.b.k)).setCell ⟨g2, 1, none⟩ (.int .i16 x.b.y)) g1 = some (wc zW).toArray := by rw [row_far (by omega), row_far (by omega)]; exact row_kept r1 H
  have S2 : rowOf ((w'.setCell ⟨g2, 0, none⟩ (.int .u8 x.b.k)).setCell ⟨g2, 1, none⟩ (.int .i16 x.b.y)) g2 = some (#[.int .u8 x.b.k, .int .i16 x.b.y, .int .i16 0] : Array Value) := by rw [rowOf_setCell, if_pos rfl, rowOf_setCell, if_pos rfl, row_kept r2 H]; rfl
  have H1 : Below w.heap.size w ((w'.setCell ⟨g2, 0, none⟩ (.int .u8 x.b.k)).setCell ⟨g2, 1, none⟩ (.int .i16 x.b.y)) := ((bstep H0 H).setCell (by show _ ≤ g2; omega) _).setCell (by show _ ≤ g2; omega) _
  clear H hc x0 x1 y0 y1 f0 f1 r0 r1 r2 H0
  generalize (w'.setCell ⟨g2, 0, none⟩ (.int .u8 x.b.k)).setCell ⟨g2, 1, none⟩ (.int .i16 x.b.y) = W2 at *
  have x2 : W2.cell? ⟨g0, 2, none⟩ = some (.int .i16 x.n) := rowOf_cell S0 2
  have y2 : W2.cell? ⟨g2, 2, none⟩ = some (.int .i16 0) := rowOf_cell S2 2
  have f2 := rowOf_frozen S2 2
  go_upto_region 4 with fail
  have T1 : rowOf (W2.setCell ⟨g2, 2, none⟩ (.int .i16 x.n)) g1 = some (wc zW).toArray := by rw [row_far (by omega)]; exact S1
  have T2 : rowOf (W2.setCell ⟨g2, 2, none⟩ (.int .i16 x.n)) g2 = some (wc x).toArray := by rw [rowOf_setCell, if_pos rfl, S2]; rfl
  have H0 : Below w.heap.size w (W2.setCell ⟨g2, 2, none⟩ (.int .i16 x.n)) := H1.setCell (by show _ ≤ g2; omega) _
  clear x2 y2 f2 S0 S1 S2 H1
  generalize W2.setCell ⟨g2, 2, none⟩ (.int .i16 x.n) = W3 at *
  have H := Below.refl W3.heap.size W3
  go_wp2_with (first | ((with_reducible refine wp_load_rowBg H ?_ _ _ rfl _ rfl _ T2 _ Tryd.underlying70 rfl (infoW x) ?_); rfl) | (with_reducible refine wp_store_rowB H rfl rfl _ _ _ rfl _ rfl _ rfl _ T1 (wc_size2 _ _) (infoW x) (wv_one x) ?_))
  exact bodyPost_ret (results_c rfl rfl (loadVar_rowOf (wc x).toArray (by rw [rowOf_setRow, if_pos rfl, T1]; rfl) _ Tryd.underlying70 rfl (infoW x))) rfl ⟨rfl, bsetRow H0 (by omega) _⟩
theorem eqWant_refl (x : Wt) (w : World) : Calls Tryd.prog 45 #[wv x, wv x] w fun e w' => e = .returned (.bool true) ∧ Below w.heap.size w w' := by
  go_enter Tryd.func45, Tryd.ntmps45
  go_upto_region 1 with fail
  generalize hW : World.alloc _ _ = W
  have H0 : Below w.heap.size w W := by rw [← hW]; go_grown
  have r0 : rowOf W (w.heap.size) = some ((wc x).toArray) := (by (try rw [← hW]); simp only [rowOf_alloc, World.size_alloc, ↓reduceIte]; all_goals ((repeat' split) <;> first | omega | (exfalso; omega) | rfl))
  have r1 : rowOf W (w.heap.size + 1) = some ((wc x).toArray) := (by (try rw [← hW]); simp only [rowOf_alloc, World.size_alloc, ↓reduceIte]; all_goals ((repeat' split) <;> first | omega | (exfalso; omega) | rfl))
  clear hW
  have q0 : w.heap.size < w.heap.size + 1 := by omega
  have l0 : w.heap.size ≤ w.heap.size := Nat.le_refl _
  generalize w.heap.size + 1 = g1 at r1 q0 ⊢
  generalize h0 : w.heap.size = g0 at r0 q0 ⊢
  replace l0 : w.heap.size ≤ g0 := Nat.le_of_eq h0
  clear h0
  have b0 := rowOf_lt r0
  have b1 := rowOf_lt r1
  have H := Below.refl W.heap.size W
  have x0 : W.cell? ⟨g0, 0, none⟩ = some (.int .u8 x.b.k) := rowOf_cell r0 0
  have x1 : W.cell? ⟨g0, 1, none⟩ = some (.int .i16 x.b.y) := rowOf_cell r0 1
  have x2 : W.cell? ⟨g0, 2, none⟩ = some (.int .i16 x.n) := rowOf_cell r0 2
  have y0 : W.cell? ⟨g1, 0, none⟩ = some (.int .u8 x.b.k) := rowOf_cell r1 0
  have y1 : W.cell? ⟨g1, 1, none⟩ = some (.int .i16 x.b.y) := rowOf_cell r1 1
  have y2 : W.cell? ⟨g1, 2, none⟩ = some (.int .i16 x.n) := rowOf_cell r1 2
  go_wp2_with (go_at_call 22; with_reducible refine (eqBottle_refl x.b _).mono ?_; rintro e w' ⟨rfl, hb⟩; replace H := bstep H hb; clear hb; have hc := bcell H)
  go_ret
  exact ⟨rfl, bstep H0 H⟩
end Go.Proofs.YtbngpcghognojaaDoor
