/- The law FnExactDifferIn holds: the program's DifferIn answers as the reference's, whatever the two crates. -/
import Derived.Test.YtkpaijbjbbgpmaaRows
import Derived.Test.YtkpaijbjbbgpmaaDiffer
import Derived.Test.YtkpaijbjbbgpmaaConv
import Derived.Test.YtkpaijbjbbgpmaaRead
import Derived.Test.YtkpaijbjbbgpmaaDrawn
namespace Go.Proofs.Ytkpaijbjbbgpmaa
open Go.RowKit
set_option linter.unusedVariables false
set_option linter.unusedSimpArgs false
set_option maxRecDepth 100000
set_option maxHeartbeats 1000000
attribute [local go_sem] Oper.qB
theorem FnExactDifferIn_any (a b : Cr) (w : World) : Calls Try.prog 7 #[cv a, cv b] w fun e w' => e = .returned (.bool true) ∧ Below w.heap.size w w' := by
  have h1 := sDifferIn_any a b
  have h2 := DifferIn_any a b
  have hl := diffR_le a b
  generalize diffR a b = z at h1 h2 hl
  obtain ⟨l, n⟩ := z
  replace hl : l.length ≤ 12 := hl
  go_enter Try.func7, Try.ntmps7
  go_upto_region 1 with fail
  generalize hW : World.alloc _ _ = W
  have H0 : Below w.heap.size w W := by rw [← hW]; go_grown
  have r0 : rowOf W (w.heap.size) = some ((cc a).toArray) := (by (try rw [← hW]); simp only [rowOf_alloc, World.size_alloc, ↓reduceIte]; all_goals ((repeat' split) <;> first | omega | (exfalso; omega) | rfl))
  have r1 : rowOf W (w.heap.size + 1) = some ((cc b).toArray) := (by (try rw [← hW]); simp only [rowOf_alloc, World.size_alloc, ↓reduceIte]; all_goals ((repeat' split) <;> first | omega | (exfalso; omega) | rfl))
  clear hW
  have q0 : w.heap.size < w.heap.size + 1 := by omega
  have l0 : w.heap.size ≤ w.heap.size := Nat.le_refl _
  generalize w.heap.size + 1 = g1 at r1 q0 ⊢
  generalize h0 : w.heap.size = g0 at r0 q0 ⊢
  replace l0 : w.heap.size ≤ g0 := Nat.le_of_eq h0
  clear h0
  have b0 := rowOf_lt r0
  have b1 := rowOf_lt r1
  have H := Below.refl W.heap.size W
  refine g_start 10 rfl (by kernel_rfl) ?_
  (refine g_quiet 0 (by kernel_rfl) rfl (fun K hK => ?_); first | ((first | (refine qB_rowK H rfl _ _ rfl _ rfl _ r0 _ Try.underlying31 rfl (infoLC a) (hK _ ?_)) | (refine qB_rowK H rfl _ _ rfl _ rfl _ r1 _ Try.underlying31 rfl (infoLC b) (hK _ ?_))); clear hK K) | (go_simp; first | (refine hK _ ?_; clear hK K) | (apply Exists.intro; refine ⟨fun _ => ?_, hK _ ?_⟩; (first | (go_at_call 21; with_reducible exact toCrate_any a _) | (go_at_call 21; with_reducible exact toCrate_any b _)); clear hK K)))
  (refine g_quiet 1 (by kernel_rfl) rfl (fun K hK => ?_); first | ((first | (refine qB_rowK H rfl _ _ rfl _ rfl _ r0 _ Try.underlying31 rfl (infoLC a) (hK _ ?_)) | (refine qB_rowK H rfl _ _ rfl _ rfl _ r1 _ Try.underlying31 rfl (infoLC b) (hK _ ?_))); clear hK K) | (go_simp; first | (refine hK _ ?_; clear hK K) | (apply Exists.intro; refine ⟨fun _ => ?_, hK _ ?_⟩; (first | (go_at_call 21; with_reducible exact toCrate_any a _) | (go_at_call 21; with_reducible exact toCrate_any b _)); clear hK K)))
  (refine g_quiet 2 (by kernel_rfl) rfl (fun K hK => ?_); first | ((first | (refine qB_rowK H rfl _ _ rfl _ rfl _ r0 _ Try.underlying31 rfl (infoLC a) (hK _ ?_)) | (refine qB_rowK H rfl _ _ rfl _ rfl _ r1 _ Try.underlying31 rfl (infoLC b) (hK _ ?_))); clear hK K) | (go_simp; first | (refine hK _ ?_; clear hK K) | (apply Exists.intro; refine ⟨fun _ => ?_, hK _ ?_⟩; (first | (go_at_call 21; with_reducible exact toCrate_any a _) | (go_at_call 21; with_reducible exact toCrate_any b _)); clear hK K)))
  (refine g_quiet 3 (by kernel_rfl) rfl (fun K hK => ?_); first | ((first | (refine qB_rowK H rfl _ _ rfl _ rfl _ r0 _ Try.underlying31 rfl (infoLC a) (hK _ ?_)) | (refine qB_rowK H rfl _ _ rfl _ rfl _ r1 _ Try.underlying31 rfl (infoLC b) (hK _ ?_))); clear hK K) | (go_simp; first | (refine hK _ ?_; clear hK K) | (apply Exists.intro; refine ⟨fun _ => ?_, hK _ ?_⟩; (first | (go_at_call 21; with_reducible exact toCrate_any a _) | (go_at_call 21; with_reducible exact toCrate_any b _)); clear hK K)))
  refine g_alone 4 (by kernel_rfl) rfl rfl (fun K hK wx hwx hfx => ?_)
  go_simp
  refine found_call (G := fun v => .tuple #[v, .int .i64 n]) (Φ := fun v w => w.ownsRow W.heap.size 2 1 v l.length (vi l)) (fun v w w' h hb => own_kept h hb) hwx hfx ((h1 _).mono ?_) (fun v1 => hK _ _ ?_)
  · rintro e w' ⟨v, rfl, O, hb⟩
    exact ⟨v, rfl, own_down O hwx.size, hb⟩
  clear hfx hwx wx hK K
  (refine g_quiet 5 (by kernel_rfl) rfl (fun K hK => ?_); first | ((first | fail); clear hK K) | (go_simp; first | (refine hK _ ?_; clear hK K) | (apply Exists.intro; refine ⟨fun _ => ?_, hK _ ?_⟩; (first | fail); clear hK K)))
  (refine g_quiet 6 (by kernel_rfl) rfl (fun K hK => ?_); first | ((first | fail); clear hK K) | (go_simp; first | (refine hK _ ?_; clear hK K) | (apply Exists.intro; refine ⟨fun _ => ?_, hK _ ?_⟩; (first | fail); clear hK K)))
  (refine g_quiet 7 (by kernel_rfl) rfl (fun K hK => ?_); first | ((first | fail); clear hK K) | (go_simp; first | (refine hK _ ?_; clear hK K) | (apply Exists.intro; refine ⟨fun _ => ?_, hK _ ?_⟩; (first | fail); clear hK K)))
  (refine g_quiet 8 (by kernel_rfl) rfl (fun K hK => ?_); first | ((first | fail); clear hK K) | (go_simp; first | (refine hK _ ?_; clear hK K) | (apply Exists.intro; refine ⟨fun _ => ?_, hK _ ?_⟩; (first | fail); clear hK K)))
  (refine g_quiet 9 (by kernel_rfl) rfl (fun K hK => ?_); first | ((first | fail); clear hK K) | (go_simp; first | (refine hK _ ?_; clear hK K) | (apply Exists.intro; refine ⟨fun _ => ?_, hK _ ?_⟩; (first | fail); clear hK K)))
  refine g_done (by kernel_rfl) ?_
  rintro w1 hw1 ⟨-, O1⟩
  replace H := hw1
  clear hw1
  replace r0 := row_kept r0 H
  replace r1 := row_kept r1 H
  replace H0 := bstep H0 H
  replace H := below_self H
  replace b0 := rowOf_lt r0
  replace b1 := rowOf_lt r1
  have q0 := H0.size
  go_upto_region 2 with fail
  refine g_start 10 rfl (by kernel_rfl) ?_
  (refine g_quiet 0 (by kernel_rfl) rfl (fun K hK => ?_); first | ((first | (refine qB_rowK H rfl _ _ rfl _ rfl _ r0 _ Try.underlying31 rfl (infoLC a) (hK _ ?_)) | (refine qB_rowK H rfl _ _ rfl _ rfl _ r1 _ Try.underlying31 rfl (infoLC b) (hK _ ?_))); clear hK K) | (go_simp; first | (refine hK _ ?_; clear hK K) | (apply Exists.intro; refine ⟨fun _ => ?_, hK _ ?_⟩; (first | (go_at_call 21; with_reducible exact toCrate_any a _) | (go_at_call 21; with_reducible exact toCrate_any b _)); clear hK K)))
  (refine g_quiet 1 (by kernel_rfl) rfl (fun K hK => ?_); first | ((first | (refine qB_rowK H rfl _ _ rfl _ rfl _ r0 _ Try.underlying31 rfl (infoLC a) (hK _ ?_)) | (refine qB_rowK H rfl _ _ rfl _ rfl _ r1 _ Try.underlying31 rfl (infoLC b) (hK _ ?_))); clear hK K) | (go_simp; first | (refine hK _ ?_; clear hK K) | (apply Exists.intro; refine ⟨fun _ => ?_, hK _ ?_⟩; (first | (go_at_call 21; with_reducible exact toCrate_any a _) | (go_at_call 21; with_reducible exact toCrate_any b _)); clear hK K)))
  (refine g_quiet 2 (by kernel_rfl) rfl (fun K hK => ?_); first | ((first | (refine qB_rowK H rfl _ _ rfl _ rfl _ r0 _ Try.underlying31 rfl (infoLC a) (hK _ ?_)) | (refine qB_rowK H rfl _ _ rfl _ rfl _ r1 _ Try.underlying31 rfl (infoLC b) (hK _ ?_))); clear hK K) | (go_simp; first | (refine hK _ ?_; clear hK K) | (apply Exists.intro; refine ⟨fun _ => ?_, hK _ ?_⟩; (first | (go_at_call 21; with_reducible exact toCrate_any a _) | (go_at_call 21; with_reducible exact toCrate_any b _)); clear hK K)))
  (refine g_quiet 3 (by kernel_rfl) rfl (fun K hK => ?_); first | ((first | (refine qB_rowK H rfl _ _ rfl _ rfl _ r0 _ Try.underlying31 rfl (infoLC a) (hK _ ?_)) | (refine qB_rowK H rfl _ _ rfl _ rfl _ r1 _ Try.underlying31 rfl (infoLC b) (hK _ ?_))); clear hK K) | (go_simp; first | (refine hK _ ?_; clear hK K) | (apply Exists.intro; refine ⟨fun _ => ?_, hK _ ?_⟩; (first | (go_at_call 21; with_reducible exact toCrate_any a _) | (go_at_call 21; with_reducible exact toCrate_any b _)); clear hK K)))
  refine g_alone 4 (by kernel_rfl) rfl rfl (fun K hK wx hwx hfx => ?_)
  go_simp
  refine found_call (G := fun v => .tuple #[v, .int .i64 n]) (Φ := fun v w => w.ownsRow w1.heap.size 2 1 v l.length (vi l)) (fun v w w' h hb => own_kept h hb) hwx hfx ((h2 _).mono ?_) (fun v2 => hK _ _ ?_)
  · rintro e w' ⟨v, rfl, O, hb⟩
    exact ⟨v, rfl, own_down O hwx.size, hb⟩
  clear hfx hwx wx hK K
  (refine g_quiet 5 (by kernel_rfl) rfl (fun K hK => ?_); first | ((first | fail); clear hK K) | (go_simp; first | (refine hK _ ?_; clear hK K) | (apply Exists.intro; refine ⟨fun _ => ?_, hK _ ?_⟩; (first | fail); clear hK K)))
  (refine g_quiet 6 (by kernel_rfl) rfl (fun K hK => ?_); first | ((first | fail); clear hK K) | (go_simp; first | (refine hK _ ?_; clear hK K) | (apply Exists.intro; refine ⟨fun _ => ?_, hK _ ?_⟩; (first | fail); clear hK K)))
  (refine g_quiet 7 (by kernel_rfl) rfl (fun K hK => ?_); first | ((first | fail); clear hK K) | (go_simp; first | (refine hK _ ?_; clear hK K) | (apply Exists.intro; refine ⟨fun _ => ?_, hK _ ?_⟩; (first | fail); clear hK K)))
  (refine g_quiet 8 (by kernel_rfl) rfl (fun K hK => ?_); first | ((first | fail); clear hK K) | (go_simp; first | (refine hK _ ?_; clear hK K) | (apply Exists.intro; refine ⟨fun _ => ?_, hK _ ?_⟩; (first | fail); clear hK K)))
  (refine g_quiet 9 (by kernel_rfl) rfl (fun K hK => ?_); first | ((first | fail); clear hK K) | (go_simp; first | (refine hK _ ?_; clear hK K) | (apply Exists.intro; refine ⟨fun _ => ?_, hK _ ?_⟩; (first | fail); clear hK K)))
  refine g_done (by kernel_rfl) ?_
  rintro w2 hw2 ⟨-, O2⟩
  replace H := hw2
  clear hw2
  obtain ⟨A1, p1, rfl, hp1, R1, L1⟩ := own_rdA O1
  replace L1 : ∀ a, A1 = some a → a.block < w1.heap.size := fun a ha => (L1 a ha).2
  replace R1 := R1.below H
  clear O1
  have q1 := H.size
  replace r0 := row_kept r0 H
  replace r1 := row_kept r1 H
  replace H0 := bstep H0 H
  replace H := below_self H
  have R2 := O2
  obtain ⟨A2, p2, rfl, hp2, R2, L2⟩ := own_rdA R2
  go_upto_region 6 with (go_at_call 32; refine (eqInt64S_refl _ _ _ _ l _ (R2.below H) (R1.below H) (by omega)).mono ?_; rintro e w3 ⟨rfl, hb⟩; replace H := bstep H hb; clear hb)
  replace O2 := own_kept O2 H
  replace R1 := R1.below H
  replace q1 := Nat.le_trans q1 H.size
  replace r0 := row_kept r0 H
  replace r1 := row_kept r1 H
  replace H0 := bstep H0 H
  replace H := below_self H
  have hz1 : (0 : Int) ≤ 1 := by decide
  have hz2 : (1 : Int) ≤ 1000000000000 := by decide
  have hl2 : l.length ≤ 1000000000 := by omega
  go_upto_region 7 with (go_at_call 33; refine (markInt64S_any w1.heap.size _ l 1 _ O2 q1 hz1 hz2 hl2).mono ?_; rintro e w4 ⟨rfl, O4, hb⟩)
  replace R1 := R1.belowB hb L1
  replace r0 := (rowOf_below hb b0).trans r0
  have hb0 := hb
  replace H0 := H0.trans (hb.mono q0)
  obtain ⟨A4, p4, hv4, hp4, R4, L4⟩ := own_rdA O4
  simp only [Value.slice.injEq] at hv4
  obtain ⟨rfl, -, rfl⟩ := hv4
  replace H := Below.refl w4.heap.size w4
  clear O2 O4 hb R2
  replace r1 := (rowOf_below hb0 b1).trans r1
  go_upto_region 13 with (go_at_call 34; refine (heldInt64S_any _ _ l.length 1 _ (R4.below H) hz1 hz2 hl2).mono ?_; rintro e w' ⟨rfl, hb⟩; replace H := bstep H hb; clear hb)
  replace R4 := R4.below H
  replace R1 := R1.below H
  replace r0 := row_kept r0 H
  replace r1 := row_kept r1 H
  replace H0 := bstep H0 H
  replace H := below_self H
  refine g_start 10 rfl (by kernel_rfl) ?_
  (refine g_quiet 0 (by kernel_rfl) rfl (fun K hK => ?_); first | ((first | (refine qB_rowK H rfl _ _ rfl _ rfl _ r0 _ Try.underlying31 rfl (infoLC a) (hK _ ?_)) | (refine qB_rowK H rfl _ _ rfl _ rfl _ r1 _ Try.underlying31 rfl (infoLC b) (hK _ ?_))); clear hK K) | (go_simp; first | (refine hK _ ?_; clear hK K) | (apply Exists.intro; refine ⟨fun _ => ?_, hK _ ?_⟩; (first | (go_at_call 21; with_reducible exact toCrate_any a _) | (go_at_call 21; with_reducible exact toCrate_any b _)); clear hK K)))
  (refine g_quiet 1 (by kernel_rfl) rfl (fun K hK => ?_); first | ((first | (refine qB_rowK H rfl _ _ rfl _ rfl _ r0 _ Try.underlying31 rfl (infoLC a) (hK _ ?_)) | (refine qB_rowK H rfl _ _ rfl _ rfl _ r1 _ Try.underlying31 rfl (infoLC b) (hK _ ?_))); clear hK K) | (go_simp; first | (refine hK _ ?_; clear hK K) | (apply Exists.intro; refine ⟨fun _ => ?_, hK _ ?_⟩; (first | (go_at_call 21; with_reducible exact toCrate_any a _) | (go_at_call 21; with_reducible exact toCrate_any b _)); clear hK K)))
  (refine g_quiet 2 (by kernel_rfl) rfl (fun K hK => ?_); first | ((first | (refine qB_rowK H rfl _ _ rfl _ rfl _ r0 _ Try.underlying31 rfl (infoLC a) (hK _ ?_)) | (refine qB_rowK H rfl _ _ rfl _ rfl _ r1 _ Try.underlying31 rfl (infoLC b) (hK _ ?_))); clear hK K) | (go_simp; first | (refine hK _ ?_; clear hK K) | (apply Exists.intro; refine ⟨fun _ => ?_, hK _ ?_⟩; (first | (go_at_call 21; with_reducible exact toCrate_any a _) | (go_at_call 21; with_reducible exact toCrate_any b _)); clear hK K)))
  (refine g_quiet 3 (by kernel_rfl) rfl (fun K hK => ?_); first | ((first | (refine qB_rowK H rfl _ _ rfl _ rfl _ r0 _ Try.underlying31 rfl (infoLC a) (hK _ ?_)) | (refine qB_rowK H rfl _ _ rfl _ rfl _ r1 _ Try.underlying31 rfl (infoLC b) (hK _ ?_))); clear hK K) | (go_simp; first | (refine hK _ ?_; clear hK K) | (apply Exists.intro; refine ⟨fun _ => ?_, hK _ ?_⟩; (first | (go_at_call 21; with_reducible exact toCrate_any a _) | (go_at_call 21; with_reducible exact toCrate_any b _)); clear hK K)))
  refine g_alone 4 (by kernel_rfl) rfl rfl (fun K hK wx hwx hfx => ?_)
  go_simp
  refine found_call (G := fun v => .tuple #[v, .int .i64 n]) (Φ := fun v w => w.ownsRow w'.heap.size 2 1 v l.length (vi l)) (fun v w w' h hb => own_kept h hb) hwx hfx ((h2 _).mono ?_) (fun v5 => hK _ _ ?_)
  · rintro e w' ⟨v, rfl, O, hb⟩
    exact ⟨v, rfl, own_down O hwx.size, hb⟩
  clear hfx hwx wx hK K
  (refine g_quiet 5 (by kernel_rfl) rfl (fun K hK => ?_); first | ((first | fail); clear hK K) | (go_simp; first | (refine hK _ ?_; clear hK K) | (apply Exists.intro; refine ⟨fun _ => ?_, hK _ ?_⟩; (first | fail); clear hK K)))
  (refine g_quiet 6 (by kernel_rfl) rfl (fun K hK => ?_); first | ((first | fail); clear hK K) | (go_simp; first | (refine hK _ ?_; clear hK K) | (apply Exists.intro; refine ⟨fun _ => ?_, hK _ ?_⟩; (first | fail); clear hK K)))
  (refine g_quiet 7 (by kernel_rfl) rfl (fun K hK => ?_); first | ((first | fail); clear hK K) | (go_simp; first | (refine hK _ ?_; clear hK K) | (apply Exists.intro; refine ⟨fun _ => ?_, hK _ ?_⟩; (first | fail); clear hK K)))
  (refine g_quiet 8 (by kernel_rfl) rfl (fun K hK => ?_); first | ((first | fail); clear hK K) | (go_simp; first | (refine hK _ ?_; clear hK K) | (apply Exists.intro; refine ⟨fun _ => ?_, hK _ ?_⟩; (first | fail); clear hK K)))
  (refine g_quiet 9 (by kernel_rfl) rfl (fun K hK => ?_); first | ((first | fail); clear hK K) | (go_simp; first | (refine hK _ ?_; clear hK K) | (apply Exists.intro; refine ⟨fun _ => ?_, hK _ ?_⟩; (first | fail); clear hK K)))
  refine g_done (by kernel_rfl) ?_
  rintro w5 hw5 ⟨-, O5⟩
  replace H := hw5
  clear hw5
  obtain ⟨A5, p5, rfl, hp5, R5, L5⟩ := own_rdA O5
  go_wp2_with (first | (go_at_call 34; refine (heldInt64S_any _ _ l.length 1 _ (R4.below H) hz1 hz2 hl2).mono ?_; rintro e w' ⟨rfl, hb⟩; replace H := bstep H hb; clear hb) | (go_at_call 32; refine (eqInt64S_refl _ _ _ _ l _ R5 (R1.below H) hl2).mono ?_; rintro e w' ⟨rfl, hb⟩; replace H := bstep H hb; clear hb))
  go_ret
  exact ⟨rfl, bstep H0 H⟩
end Go.Proofs.Ytkpaijbjbbgpmaa
namespace Go.Proofs.Ytkpaijbjbbgpmaa.fnExactDifferIn
open Go.ChangeShapes Go.WideShapes Go.ChangeAt Go.RowKit
open Go.ChangeMaps (open_string shut_string)
set_option linter.unusedVariables false
set_option linter.unusedSimpArgs false
set_option maxRecDepth 100000 in
theorem lifted (os : Os) (started : os.Started) (H : Type) (enc : TypeId × Value → H) :
    ReturnsInHanded {} Try.checked os 7 .any (Rows.fnExactDifferInSpec.pre6 enc Try.prog Try.f7 Rows.fnExactDifferInRow.domain false) (Rows.fnExactDifferInSpec.post enc Try.prog Try.f7 false true false false) := by
  refine returnsInHanded_of_change_sized (C := Try.checked) own started (by kernel_rfl) Try.func7
    (ChangeSpec.witness6 (enc := enc) (C := Try.checked) false ⟨#[], #[.agg #[.int .u8 0, .int .i16 0, .int .u8 0, .int .i16 0, .int .u8 0, .int .i16 0, .int .u8 0, .int .i16 0, .int .u8 0, .int .i16 0, .int .u8 0, .int .i16 0, .int .u8 0, .int .i16 0, .int .u8 0, .int .i16 0, .int .u8 0, .int .i16 0, .int .u8 0, .int .i16 0, .int .u8 0, .int .i16 0, .int .u8 0, .int .i16 0], .agg #[.int .u8 0, .int .i16 0, .int .u8 0, .int .i16 0, .int .u8 0, .int .i16 0, .int .u8 0, .int .i16 0, .int .u8 0, .int .i16 0, .int .u8 0, .int .i16 0, .int .u8 0, .int .i16 0, .int .u8 0, .int .i16 0, .int .u8 0, .int .i16 0, .int .u8 0, .int .i16 0, .int .u8 0, .int .i16 0, .int .u8 0, .int .i16 0]], []⟩ 8 (by kernel_rfl) (by kernel_rfl) (by kernel_rfl) (by kernel_rfl)) ?_
  intro W base args ds gs before hval0 hW hcnd hsz0 _
  have hsz : (DataW.weightsEach Try.prog (Try.f7.params.toList ++ Rows.fnExactDifferInSpec.plain.varTypes Try.prog) (ds ++ gs)).all (· ≤ reachBytes) = true := hsz0
  have hval : ∀ (j : Nat) t v, Try.f7.params[j]? = some t → args[j]? = some v → Value.okWide Try.prog W .any base t v := hval0
  have hW' := hW
  obtain ⟨p, q, hA0, hV, rfl, hfz, hnd⟩ := hW
  have hA : DataW.TrodAll enc Try.prog W 0 (fun _ => true) true Try.f7.params.toList args.toList ds p := hA0
  rw [Try.params7] at hA hval hsz
  obtain ⟨v0, vs0, d0, ds0, p0, q0, hargs0, rfl, rfl, h0, r0⟩ := trodAll_cons hA
  obtain ⟨v1, vs1, d1, ds1, p1, q1, hargs1, rfl, rfl, h1, r1⟩ := trodAll_cons r0
  obtain ⟨rfl, rfl, rfl⟩ := trodAll_nil r1
  subst hargs1
  obtain rfl : args = #[v0, v1] := by cases args; simp_all
  obtain ⟨rfl, rfl⟩ := trodVars_none hV
  have hlt0 : ∀ x ∈ p0, x.block < W.heap.size := fun x hx => by simpa using hW'.lt x (by simp [hx])
  have hlt1 : ∀ x ∈ p1, x.block < W.heap.size := fun x hx => by simpa using hW'.lt x (by simp [hx])
  obtain ⟨a0, hv0⟩ := read_crate (hval 0 31 v0 rfl rfl) h0
  subst hv0
  obtain ⟨a1, hv1⟩ := read_crate (hval 1 31 v1 rfl rfl) h1
  subst hv1
  refine (FnExactDifferIn_any a0 a1 W).mono fun e W' ⟨he, bel⟩ => ?_
  subst he
  exact ⟨_, rfl, _, _, _, [], _, [], hW', trodAll_mk1 (shut_bool Try.underlying4 _), (trodAll_cons_mk (Below.trod laidOut (by kernel_rfl) (of_decide_eq_true (by kernel_rfl)) h0 bel hlt0) (trodAll_cons_mk (Below.trod laidOut (by kernel_rfl) (of_decide_eq_true (by kernel_rfl)) h1 bel hlt1) trodAll_mk0)), rfl, bel.frame _, fun h => by cases h⟩
theorem over : Rows.fnExactDifferInRow.holds Try.pinned (OpenSpec.ofChange Rows.fnExactDifferInSpec) :=
  OpenClaim.holds_of_wide 7 Try.f7 rfl rfl rfl rfl rfl rfl rfl ⟨rfl, rfl, rfl, rfl, rfl⟩ rfl rfl rfl rfl rfl (by kernel_rfl) Try.func7 (by kernel_rfl)
    (of_decide_eq_true (by kernel_rfl)) (by unfold Func.isWrapper; first | (rw [if_pos (by decide +kernel)]; kernel_rfl) | (rw [if_neg (by decide +kernel)]; exact ⟨rfl, rfl⟩))
    (fun os started H enc _ => lifted os started H enc)
theorem proved : Rows.FnExactDifferInSaid := over
end Go.Proofs.Ytkpaijbjbbgpmaa.fnExactDifferIn
namespace Go.Proofs.Ytkpaijbjbbgpmaa
/-- The row, under a short name, for the claim. -/
theorem fnExactDifferIn_holds : Rows.FnExactDifferInSaid := fnExactDifferIn.proved
end Go.Proofs.Ytkpaijbjbbgpmaa
