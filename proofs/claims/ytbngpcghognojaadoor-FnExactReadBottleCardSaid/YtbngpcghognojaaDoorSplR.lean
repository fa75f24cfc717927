/- Contract of the reference's ReadBottle. -/
import Derived.Test.YtbngpcghognojaaDoorSplB
namespace Go.Proofs.YtbngpcghognojaaDoor
open Go Go.Sort Go.RowKit
set_option linter.unusedVariables false
set_option linter.unusedSimpArgs false
set_option maxRecDepth 100000
set_option maxHeartbeats 1000000
attribute [local go_sem] Oper.qB
theorem sReadBottle_any (l : List UInt8) (hl : l.length ≤ 1048576) (w : World) :
    Calls Tryd.prog 20 #[.string ⟨l.toArray⟩] w fun e w' => e = .returned (.tuple #[bv (rbR l).1, .int .i64 (rbR l).2]) ∧ Below w.heap.size w w' := by
  have HS := Lib.hid (fun W => l01Read_any l hl W)
  go_enter Tryd.func20, Tryd.ntmps20
  go_upto_region 1 with fail
  generalize hW : World.alloc _ _ = W
  have H0 : Below w.heap.size w W := by rw [← hW]; go_grown
  have r0 : rowOf W (w.heap.size) = some (#[.int .u8 0, .int .i16 0]) := (by (try rw [← hW]); simp only [rowOf_alloc, World.size_alloc, ↓reduceIte]; all_goals ((repeat' split) <;> first | omega | (exfalso; omega) | rfl))
  clear hW
  have l0 : w.heap.size ≤ w.heap.size := Nat.le_refl _
  generalize h0 : w.heap.size = g0 at r0 ⊢
  replace l0 : w.heap.size ≤ g0 := Nat.le_of_eq h0
  clear h0
  have b0 := rowOf_lt r0
  have H := Below.refl W.heap.size W
  go_upto_region 2 with (first | (go_at_call 46; go_loud (refine (HS.out _).mono ?_; rintro e w1 ⟨b, rfl, hbb, hb⟩; replace H := bstep H hb; clear hb)) | ((with_reducible refine wp_store_rowOf rfl rfl _ _ _ rfl _ rfl (#[.int .u8 b.k, .int .i16 b.y] : Array Value) rfl #[.int .u8 0, .int .i16 0] ?hr rfl (infoB _ _) (bv_one _ _) ?_); (case hr => rw [rowOf_alloc, if_pos rfl])))
  generalize hW1 : World.setRow _ _ _ = W1
  obtain ⟨HB, r1, b1⟩ := laid_row H hW1
  clear hW1
  have qr01 := Nat.lt_of_lt_of_le (rowOf_lt r0) H.size
  replace r0 := row_kept r0 HB
  replace H0 := bstep H0 HB
  replace H := below_self HB
  generalize w1.heap.size = g1 at *
  cases hr : rdB l with
  | some b0 =>
    obtain rfl := hbb b0 hr
    have HF := Lib.hid (show rbR l = (b, 0) by unfold rbR; rw [hr])
    clear hbb hr
    go_wp2_with (first | ((with_reducible refine wp_load_rowBg H ?_ _ _ rfl _ rfl _ r1 _ Tryd.underlying26 rfl (infoB _ _) ?_); rfl) | ((with_reducible refine wp_store_rowOf rfl rfl _ _ _ rfl _ rfl #[.int .u8 b.k, .int .i16 b.y] rfl #[.int .u8 0, .int .i16 0] (row_kept r0 H) rfl (infoB _ _) (bv_one _ _) ?_)))
    rw [HF.out]
    exact bodyPost_ret (results_ct rfl rfl (loadVar_rowOf #[.int .u8 b.k, .int .i16 b.y] (by rw [rowOf_setRow, if_pos rfl, row_kept r0 H]; rfl) _ Tryd.underlying26 rfl (infoB _ _))) rfl ⟨rfl, bsetRow (bstep H0 H) (by omega) _⟩
  | none =>
    have HF := Lib.hid (show rbR l = (zB, 5) by unfold rbR; rw [hr])
    clear hbb hr
    go_wp2_with (first | ((with_reducible refine wp_load_rowBg H ?_ _ _ rfl _ rfl _ r1 _ Tryd.underlying26 rfl (infoB _ _) ?_); rfl) | ((with_reducible refine wp_store_rowOf rfl rfl _ _ _ rfl _ rfl #[.int .u8 0, .int .i16 0] rfl #[.int .u8 0, .int .i16 0] (row_kept r0 H) rfl (infoB _ _) (bv_one _ _) ?_)))
    rw [HF.out]
    exact bodyPost_ret (results_ct rfl rfl (loadVar_rowOf #[.int .u8 0, .int .i16 0] (by rw [rowOf_setRow, if_pos rfl, row_kept r0 H]; rfl) _ Tryd.underlying26 rfl (infoB _ _))) rfl ⟨rfl, bsetRow (bstep H0 H) (by omega) _⟩
end Go.Proofs.YtbngpcghognojaaDoor
