/- Contracts of the texts of bottles: the reference's. -/
import Derived.Test.YtbngpcghognojaaDoorText
namespace Go.Proofs.YtbngpcghognojaaDoor
open Go Go.Sort Go.RowKit
set_option linter.unusedVariables false
set_option linter.unusedSimpArgs false
set_option maxRecDepth 100000
set_option maxHeartbeats 400000
attribute [local go_sem] Oper.qB
theorem l01BottleText_any (b : Bt) (hok : b.ok = true) (w : World) : Calls Tryd.prog 31 #[bv b] w fun e w' => e = .returned (.string ⟨(botT b).toArray⟩) ∧ Below w.heap.size w w' := by
  simp only [Bt.ok, decide_eq_true_iff] at hok
  obtain ⟨k, hk⟩ : ∃ k : Nat, b.k = (k : Int) := ⟨b.k.toNat, by omega⟩
  obtain ⟨y, hy⟩ : ∃ y : Nat, b.y = (y : Int) := ⟨b.y.toNat, by omega⟩
  have HD1 := sDecimal_any k (by omega)
  have HD2 := sDecimal_any y (by omega)
  have hs1 := dec_short k
  have hs2 := dec_short y
  rw [← hk] at HD1
  rw [← hy] at HD2
  have HE : Hid (.string ⟨(botT b).toArray⟩ = Value.string (((⟨(Lib.decDigits k).toArray⟩ : ByteArray) ++ ⟨#[58]⟩) ++ ⟨(Lib.decDigits y).toArray⟩)) := by
    rw [Hid, botT, show b.k.toNat = k by omega, show b.y.toNat = y by omega]
    refine congrArg Value.string (ByteArray.ext ?_)
    simp [ByteArray.data_append]
  have hz1 : (⟨(Lib.decDigits k).toArray⟩ : ByteArray).size ≤ 100001 := by
    show (Lib.decDigits k).toArray.size ≤ _
    simp
    omega
  have hz2 : (⟨(Lib.decDigits y).toArray⟩ : ByteArray).size ≤ 100001 := by
    show (Lib.decDigits y).toArray.size ≤ _
    simp
    omega
  clear hs1 hs2
  replace hk := Lib.hid hk
  replace hy := Lib.hid hy
  generalize (⟨(Lib.decDigits k).toArray⟩ : ByteArray) = SA at HD1 HE hz1
  generalize (⟨(Lib.decDigits y).toArray⟩ : ByteArray) = SB at HD2 HE hz2
  have f1 : ¬ (9223372036854775807 < SA.size + 1) := by omega
  have f2 : ¬ (9223372036854775807 < SA.size + 1 + SB.size) := by omega
  clear hz1 hz2
  replace HD1 := Lib.hid HD1
  replace HD2 := Lib.hid HD2
  have hwk : IntKind.i64.wrap b.k = b.k := by rw [IntKind.wrap_i64]; have := hk.out; have := hy.out; omega
  have hwy : IntKind.i64.wrap b.y = b.y := by rw [IntKind.wrap_i64]; have := hk.out; have := hy.out; omega
  go_enter Tryd.func31, Tryd.ntmps31
  go_upto_region 1 with fail
  generalize hW : World.alloc _ _ = W
  have H0 : Below w.heap.size w W := by rw [← hW]; go_grown
  have r0 : rowOf W (w.heap.size) = some (#[.int .u8 b.k, .int .i16 b.y]) := (by (try rw [← hW]); simp only [rowOf_alloc, World.size_alloc, ↓reduceIte]; all_goals ((repeat' split) <;> first | omega | (exfalso; omega) | rfl))
  clear hW
  have l0 : w.heap.size ≤ w.heap.size := Nat.le_refl _
  generalize h0 : w.heap.size = g0 at r0 ⊢
  replace l0 : w.heap.size ≤ g0 := Nat.le_of_eq h0
  clear h0
  have b0 := rowOf_lt r0
  have H := Below.refl W.heap.size W
  have x0 : W.cell? ⟨g0, 0, none⟩ = some (.int .u8 b.k) := rowOf_cell r0 0
  have x1 : W.cell? ⟨g0, 1, none⟩ = some (.int .i16 b.y) := rowOf_cell r0 1
  have z0 := cell_regrown x0
  have z1 := cell_regrown x1
  clear x0 x1
  refine g_start 11 rfl (by kernel_rfl) ?_
  (refine g_quiet 0 (by kernel_rfl) rfl (fun K hK => ?_); first | ((first | fail); clear hK K) | (go_simp; first | (refine hK _ ?_; clear hK K) | (apply Exists.intro; refine ⟨fun _ => ?_, hK _ ?_⟩; (first | fail); clear hK K)))
  (refine g_quiet 1 (by kernel_rfl) rfl (fun K hK => ?_); first | ((first | fail); clear hK K) | (go_simp; first | (refine hK _ ?_; clear hK K) | (apply Exists.intro; refine ⟨fun _ => ?_, hK _ ?_⟩; (first | fail); clear hK K)))
  (refine g_quiet 2 (by kernel_rfl) rfl (fun K hK => ?_); first | ((first | fail); clear hK K) | (go_simp; first | (refine hK _ ?_; clear hK K) | (apply Exists.intro; refine ⟨fun _ => ?_, hK _ ?_⟩; (first | fail); clear hK K)))
  (refine g_quiet 3 (by kernel_rfl) rfl (fun K hK => ?_); first | ((first | fail); clear hK K) | (go_simp; first | (refine hK _ ?_; clear hK K) | (apply Exists.intro; refine ⟨fun _ => ?_, hK _ ?_⟩; (first | (go_at_call 55 <;> exact HD1.out _)); clear hK K)))
  (refine g_quiet 4 (by kernel_rfl) rfl (fun K hK => ?_); first | ((first | fail); clear hK K) | (go_simp; first | (refine hK _ ?_; clear hK K) | (apply Exists.intro; refine ⟨fun _ => ?_, hK _ ?_⟩; (first | fail); clear hK K)))
  (refine g_quiet 5 (by kernel_rfl) rfl (fun K hK => ?_); first | ((first | fail); clear hK K) | (go_simp; first | (refine hK _ ?_; clear hK K) | (apply Exists.intro; refine ⟨fun _ => ?_, hK _ ?_⟩; (first | fail); clear hK K)))
  (refine g_quiet 6 (by kernel_rfl) rfl (fun K hK => ?_); first | ((first | fail); clear hK K) | (go_simp; first | (refine hK _ ?_; clear hK K) | (apply Exists.intro; refine ⟨fun _ => ?_, hK _ ?_⟩; (first | fail); clear hK K)))
  (refine g_quiet 7 (by kernel_rfl) rfl (fun K hK => ?_); first | ((first | fail); clear hK K) | (go_simp; first | (refine hK _ ?_; clear hK K) | (apply Exists.intro; refine ⟨fun _ => ?_, hK _ ?_⟩; (first | fail); clear hK K)))
  (refine g_quiet 8 (by kernel_rfl) rfl (fun K hK => ?_); first | ((first | fail); clear hK K) | (go_simp; first | (refine hK _ ?_; clear hK K) | (apply Exists.intro; refine ⟨fun _ => ?_, hK _ ?_⟩; (first | (go_at_call 55 <;> exact HD2.out _)); clear hK K)))
  (refine g_quiet 9 (by kernel_rfl) rfl (fun K hK => ?_); first | ((first | fail); clear hK K) | (go_simp; first | (refine hK _ ?_; clear hK K) | (apply Exists.intro; refine ⟨fun _ => ?_, hK _ ?_⟩; (first | fail); clear hK K)))
  (refine g_quiet 10 (by kernel_rfl) rfl (fun K hK => ?_); first | ((first | fail); clear hK K) | (go_simp; first | (refine hK _ ?_; clear hK K) | (apply Exists.intro; refine ⟨fun _ => ?_, hK _ ?_⟩; (first | fail); clear hK K)))
  refine g_done (by kernel_rfl) ?_
  rintro w1 H1 -
  replace H := bstep H H1
  go_wp2
  go_ret
  exact ⟨congrArg Ending.returned HE.out.symm, bstep H0 H⟩
theorem sBottleText_any (b : Bt) (w : World) : Calls Tryd.prog 9 #[bv b] w fun e w' => e = .returned (.string ⟨(if b.ok = true then botT b else []).toArray⟩) ∧ Below w.heap.size w w' := by
  have HB := Lib.hid (fun W => l01Bottle_any b W)
  have HT := Lib.hid (fun h W => l01BottleText_any b h W)
  generalize hT : (if b.ok = true then botT b else []) = t
  go_enter Tryd.func9, Tryd.ntmps9
  go_upto_region 1 with fail
  generalize hW : World.alloc _ _ = W
  have H0 : Below w.heap.size w W := by rw [← hW]; go_grown
  have r0 : rowOf W (w.heap.size) = some (#[.int .u8 b.k, .int .i16 b.y]) := (by (try rw [← hW]); simp only [rowOf_alloc, World.size_alloc, ↓reduceIte]; all_goals ((repeat' split) <;> first | omega | (exfalso; omega) | rfl))
  clear hW
  have l0 : w.heap.size ≤ w.heap.size := Nat.le_refl _
  generalize h0 : w.heap.size = g0 at r0 ⊢
  replace l0 : w.heap.size ≤ g0 := Nat.le_of_eq h0
  clear h0
  have b0 := rowOf_lt r0
  have H := Below.refl W.heap.size W
  have x0 : W.cell? ⟨g0, 0, none⟩ = some (.int .u8 b.k) := rowOf_cell r0 0
  have x1 : W.cell? ⟨g0, 1, none⟩ = some (.int .i16 b.y) := rowOf_cell r0 1
  cases e1 : b.ok with
  | false =>
    have e2 := Lib.hid e1
    obtain rfl : t = [] := by rw [← hT, e1]; rfl
    clear hT e1
    go_wp2_with (go_at_call 30; refine (HB.out _).mono ?_; rintro e w' ⟨rfl, hb⟩; rw [e2.out]; replace H := bstep H hb; clear hb)
    go_ret
    exact ⟨rfl, bstep H0 H⟩
  | true =>
    have e2 := Lib.hid e1
    obtain rfl : t = botT b := by rw [← hT, e1]; rfl
    clear hT e1
    go_wp2_with (first | (go_at_call 30; refine (HB.out _).mono ?_; rintro e w' ⟨rfl, hb⟩; rw [e2.out]; replace H := bstep H hb; clear hb; have y0 := (H.cell b0).trans x0; have y1 := (H.cell b0).trans x1) | (go_at_call 31; refine (HT.out e2.out _).mono ?_; rintro e w' ⟨rfl, hb⟩; replace H := bstep H hb; clear hb))
    go_ret
    exact ⟨rfl, bstep H0 H⟩
end Go.Proofs.YtbngpcghognojaaDoor
