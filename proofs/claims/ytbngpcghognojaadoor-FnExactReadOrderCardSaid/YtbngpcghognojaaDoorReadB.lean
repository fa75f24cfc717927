/- Contracts of ReadBottle: the program's. -/
import Derived.Test.YtbngpcghognojaaDoorReadD
import Derived.Test.YtbngpcghognojaaDoorCutP
import Derived.Shelf.Strings.Cut
namespace Go.Proofs.YtbngpcghognojaaDoor
open Go Go.Sort Go.RowKit
set_option linter.unusedVariables false
set_option linter.unusedSimpArgs false
set_option maxRecDepth 100000
set_option maxHeartbeats 1000000
attribute [local go_sem] Oper.qB
theorem cut_len (l s : List UInt8) : (Lib.cut l s).1.length ≤ l.length ∧ (Lib.cut l s).2.1.length ≤ l.length := by
  unfold Lib.cut
  split
  · refine ⟨?_, ?_⟩
    · show (l.take _).length ≤ _
      rw [List.length_take]
      exact Nat.min_le_right _ _
    · show (l.drop _).length ≤ _
      rw [List.length_drop]
      exact Nat.sub_le _ _
  · exact ⟨Nat.le_refl _, Nat.zero_le _⟩
theorem wrap16_id {n : Int} (h : -32768 ≤ n ∧ n ≤ 32767) : IntKind.i16.wrap n = n := by
  simp [IntKind.wrap, IntKind.bits, IntKind.signed]
  split <;> omega
/-- What a bottle's text reads as. -/
def rbR (l : List UInt8) : Bt × Int := match rdB l with
  | some b => (b, 0)
  | none => (zB, 5)
theorem ReadBottle_any (l : List UInt8) (hl : l.length ≤ 1048576) (m : Int) (w : World) (ht : Tab w) (h2 : ErrV w (Tryd.lx66_ren.g 15)) (h3 : ErrV w (Tryd.lx66_ren.g 16)) (hm : w.cell? ⟨Tryd.lx47_ren.g 1, 0, none⟩ = some (.int .i64 m)) :
    Calls Tryd.prog 21 #[.string ⟨l.toArray⟩] w fun e w' => e = .returned (.tuple #[bv (rbR l).1, .int .i64 (rbR l).2]) ∧ Below w.heap.size w w' := by
  have hsz := size_text l
  have hs : (⟨l.toArray⟩ : ByteArray).size < 4294967281 := by omega
  have hd1 : (⟨l.toArray⟩ : ByteArray).data.toList = l := by simp
  have hd2 : (⟨#[58]⟩ : ByteArray).data.toList = [58] := rfl
  have hm2 := fun W (hW : Below w.heap.size w W) => (hW.cell (World.block_lt_of_cell? _ _ hm)).trans hm
  have HC := (fun W (hW : Below w.heap.size w W) => Any.strings_Cut Tryd.lx47 ⟨l.toArray⟩ ⟨#[58]⟩ m W hs (hm2 W hW))
  have hcl := cut_len l [58]
  have hcut := rdB_cut (l := l)
  rw [hd1, hd2] at HC
  generalize Lib.cut l [58] = z at HC hcl hcut
  obtain ⟨a, b, f⟩ := z
  replace HC := Lib.hid HC
  have HD1 : Hid (∀ W, Below w.heap.size w W → Calls Tryd.prog 48 #[.string ⟨a.toArray⟩, .int .i64 1, .int .i64 20] W fun e w' => (∃ n : Int, e = .returned (.tuple #[.int .i64 n, .bool (rdR 1 20 a)]) ∧ (rdR 1 20 a = true → n = (valD a : Int))) ∧ Below W.heap.size W w') := fun W hW => readDecimal_any a 1 20 (by omega) (by have := hcl; simp only at this; omega) W (ht.below hW) (h2.below hW) (h3.below hW)
  have HD2 : Hid (∀ W, Below w.heap.size w W → Calls Tryd.prog 48 #[.string ⟨b.toArray⟩, .int .i64 1900, .int .i64 2099] W fun e w' => (∃ n : Int, e = .returned (.tuple #[.int .i64 n, .bool (rdR 1900 2099 b)]) ∧ (rdR 1900 2099 b = true → n = (valD b : Int))) ∧ Below W.heap.size W w') := fun W hW => readDecimal_any b 1900 2099 (by omega) (by have := hcl; simp only at this; omega) W (ht.below hW) (h2.below hW) (h3.below hW)
  simp only at HC hcut
  go_enter Tryd.func21, Tryd.ntmps21
  go_upto_region 1 with fail
  generalize hW : World.alloc _ _ = W
  have H0 : Below w.heap.size w W := by rw [← hW]; go_grown
  have r0 : rowOf W (w.heap.size) = some (#[.int .u8 0, .int .i16 0]) := (by (try rw [← hW]); simp only [rowOf_alloc, World.size_alloc, ↓reduceIte]; all_goals ((repeat' split) <;> first | omega | (exfalso; omega) | rfl))
  clear hW
  have l0 : w.heap.size ≤ w.heap.size := Nat.le_refl _
  generalize h0 : w.heap.size = g0 at r0 ⊢
  replace l0 : w.heap.size ≤ g0 := Nat.le_of_eq h0
  clear h0
  have b0 := rowOf_lt r0
  have H := Below.refl W.heap.size W
  go_upto_region 4 with (first | (go_at_call 47; go_loud (refine (HC.out _ (bstep H0 H)).mono ?_; rintro e w1 ⟨rfl, q, rfl⟩; replace H := bdrewN H q)) | (go_at_call 48; with_reducible refine (HD1.out _ (bstep H0 H)).mono ?_; rintro e w1 ⟨⟨n1, rfl, hn1⟩, hb⟩; replace H := bstep H hb; clear hb) | (go_at_call 48; with_reducible refine (HD2.out _ (bstep H0 H)).mono ?_; rintro e w1 ⟨⟨n2, rfl, hn2⟩, hb⟩; replace H := bstep H hb; clear hb))
  clear HD1 HD2 HC hcl hm2
  generalize rdR 1 20 a = q1 at hn1 hcut ⊢
  generalize rdR 1900 2099 b = q2 at hn2 hcut ⊢
  rcases hcut with ⟨b0, hb, rfl, rfl, rfl, hk, hy⟩ | ⟨hb, hf⟩
  · obtain rfl : n1 = b0.k := (hn1 rfl).trans hk.symm
    obtain rfl : n2 = b0.y := (hn2 rfl).trans hy.symm
    have HF := Lib.hid (show rbR l = (b0, 0) by unfold rbR; rw [hb])
    have wk : IntKind.u8.wrap b0.k = b0.k := by rw [IntKind.wrap_u8]; have := b0.hk; omega
    have wy : IntKind.i16.wrap b0.y = b0.y := wrap16_id b0.hy
    clear hn1 hn2 hk hy hb
    go_wp2_with ((with_reducible refine wp_store_rowOf rfl rfl _ _ _ rfl _ rfl #[.int .u8 b0.k, .int .i16 b0.y] rfl #[.int .u8 0, .int .i16 0] (row_kept r0 H) rfl (infoB _ _) (bv_one _ _) ?_))
    rw [HF.out]
    exact bodyPost_ret (results_ct rfl rfl (loadVar_rowOf #[.int .u8 b0.k, .int .i16 b0.y] (by rw [rowOf_setRow, if_pos rfl, row_kept r0 H]; rfl) _ Tryd.underlying26 rfl (infoB _ _))) rfl ⟨rfl, bsetRow (bstep H0 H) (by omega) _⟩
  · have HF := Lib.hid (show rbR l = (zB, 5) by unfold rbR; rw [hb])
    clear hn1 hn2 hb
    replace hf := Lib.hid hf
    cases f with
    | false =>
      go_wp2_with ((with_reducible refine wp_store_rowOf rfl rfl _ _ _ rfl _ rfl #[.int .u8 0, .int .i16 0] rfl #[.int .u8 0, .int .i16 0] (row_kept r0 H) rfl (infoB _ _) (bv_one _ _) ?_))
      rw [HF.out]
      exact bodyPost_ret (results_ct rfl rfl (loadVar_rowOf #[.int .u8 0, .int .i16 0] (by rw [rowOf_setRow, if_pos rfl, row_kept r0 H]; rfl) _ Tryd.underlying26 rfl (infoB _ _))) rfl ⟨rfl, bsetRow (bstep H0 H) (by omega) _⟩
    | true =>
      cases q1 with
      | false =>
        go_wp2_with ((with_reducible refine wp_store_rowOf rfl rfl _ _ _ rfl _ rfl #[.int .u8 0, .int .i16 0] rfl #[.int .u8 0, .int .i16 0] (row_kept r0 H) rfl (infoB _ _) (bv_one _ _) ?_))
        rw [HF.out]
        exact bodyPost_ret (results_ct rfl rfl (loadVar_rowOf #[.int .u8 0, .int .i16 0] (by rw [rowOf_setRow, if_pos rfl, row_kept r0 H]; rfl) _ Tryd.underlying26 rfl (infoB _ _))) rfl ⟨rfl, bsetRow (bstep H0 H) (by omega) _⟩
      | true =>
        obtain rfl : q2 = false := by cases q2 with | false => rfl | true => exact absurd hf.out (by decide)
        go_wp2_with ((with_reducible refine wp_store_rowOf rfl rfl _ _ _ rfl _ rfl #[.int .u8 0, .int .i16 0] rfl #[.int .u8 0, .int .i16 0] (row_kept r0 H) rfl (infoB _ _) (bv_one _ _) ?_))
        rw [HF.out]
        exact bodyPost_ret (results_ct rfl rfl (loadVar_rowOf #[.int .u8 0, .int .i16 0] (by rw [rowOf_setRow, if_pos rfl, row_kept r0 H]; rfl) _ Tryd.underlying26 rfl (infoB _ _))) rfl ⟨rfl, bsetRow (bstep H0 H) (by omega) _⟩
end Go.Proofs.YtbngpcghognojaaDoor
