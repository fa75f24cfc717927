/- The law FnExactCheckSwaps holds: the program's CheckSwaps answers as the reference's, whatever the two crates and swaps. -/
import Derived.Test.YtkpaijbjbbgpmaaRows
import Derived.Test.YtkpaijbjbbgpmaaSwaps
import Derived.Test.YtkpaijbjbbgpmaaConv
import Derived.Test.YtkpaijbjbbgpmaaRead
import Derived.Test.YtkpaijbjbbgpmaaTail
namespace Go.Proofs.Ytkpaijbjbbgpmaa
open Go.RowKit
set_option linter.unusedVariables false
set_option linter.unusedSimpArgs false
set_option maxRecDepth 100000
set_option maxHeartbeats 1000000
attribute [local go_sem] Oper.qB
theorem FnExactCheckSwaps_any (w : World) (a b : Cr) (A : Option Addr) (c : Nat) (l : List Sw) (hm : l.length ≤ maxLen) (hr : RdA w A (fl sc l)) : Calls Try.prog 14 #[cv a, cv b, .slice A l.length c] w fun e w' => e = .returned (.bool true) ∧ Below w.heap.size w w' := by
  have hm1 : l.length ≤ 9223372036854775807 := by simpa [maxLen] using hm
  go_enter Try.func14, Try.ntmps14
  go_upto_region 1 with fail
  generalize hW : World.alloc _ _ = W
  have H0 : Below w.heap.size w W := by rw [← hW]; go_grown
  have r0 : rowOf W (w.heap.size) = some ((cc a).toArray) := (by (try rw [← hW]); simp only [rowOf_alloc, World.size_alloc, ↓reduceIte]; all_goals ((repeat' split) <;> first | omega | (exfalso; omega) | rfl))
  have r1 : rowOf W (w.heap.size + 1) = some ((cc b).toArray) := (by (try rw [← hW]); simp only [rowOf_alloc, World.size_alloc, ↓reduceIte]; all_goals ((repeat' split) <;> first | omega | (exfalso; omega) | rfl))
  clear hW
  have q0 : w.heap.size < w.heap.size + 1 := by omega
  have l0 : w.heap.size ≤ w.heap.size := Nat.le_refl _
  generalize w.heap.size + 1 = g1 at r1 q0 ⊢
  generalize h0 : w.heap.size = g0 at r0 q0 ⊢
  replace l0 : w.heap.size ≤ g0 := Nat.le_of_eq h0
  clear h0
  have b0 := rowOf_lt r0
  have b1 := rowOf_lt r1
  have H := Below.refl W.heap.size W
  replace hr := hr.below H0
  by_cases h1 : l.length ≤ 1048576
  · have h2 : l.length ≤ 1048576 := h1
    · go_upto_region 5 with (go_at_call 51; refine (szSwapS_any _ _ _ _ _ (by omega) (by omega) hm).mono ?_; rintro e w1 ⟨rfl, hb⟩; rw [if_neg (by omega)]; replace H := bstep H hb; clear hb)
      replace hr := hr.below H
      replace r0 := row_kept r0 H
      replace r1 := row_kept r1 H
      replace H0 := bstep H0 H
      replace H := below_self H
      refine g_start 12 rfl (by kernel_rfl) ?_
      (refine g_quiet 0 (by kernel_rfl) rfl (fun K hK => ?_); first | ((first | (refine qB_rowK H rfl _ _ rfl _ rfl _ r0 _ Try.underlying31 rfl (infoLC a) (hK _ ?_)) | (refine qB_rowK H rfl _ _ rfl _ rfl _ r1 _ Try.underlying31 rfl (infoLC b) (hK _ ?_))); clear hK K) | (go_simp; first | (refine hK _ ?_; clear hK K) | (apply Exists.intro; refine ⟨fun _ => ?_, hK _ ?_⟩; (first | (go_at_call 21; with_reducible exact toCrate_any a _) | (go_at_call 21; with_reducible exact toCrate_any b _)); clear hK K)))
      (refine g_quiet 1 (by kernel_rfl) rfl (fun K hK => ?_); first | ((first | (refine qB_rowK H rfl _ _ rfl _ rfl _ r0 _ Try.underlying31 rfl (infoLC a) (hK _ ?_)) | (refine qB_rowK H rfl _ _ rfl _ rfl _ r1 _ Try.underlying31 rfl (infoLC b) (hK _ ?_))); clear hK K) | (go_simp; first | (refine hK _ ?_; clear hK K) | (apply Exists.intro; refine ⟨fun _ => ?_, hK _ ?_⟩; (first | (go_at_call 21; with_reducible exact toCrate_any a _) | (go_at_call 21; with_reducible exact toCrate_any b _)); clear hK K)))
      (refine g_quiet 2 (by kernel_rfl) rfl (fun K hK => ?_); first | ((first | (refine qB_rowK H rfl _ _ rfl _ rfl _ r0 _ Try.underlying31 rfl (infoLC a) (hK _ ?_)) | (refine qB_rowK H rfl _ _ rfl _ rfl _ r1 _ Try.underlying31 rfl (infoLC b) (hK _ ?_))); clear hK K) | (go_simp; first | (refine hK _ ?_; clear hK K) | (apply Exists.intro; refine ⟨fun _ => ?_, hK _ ?_⟩; (first | (go_at_call 21; with_reducible exact toCrate_any a _) | (go_at_call 21; with_reducible exact toCrate_any b _)); clear hK K)))
      (refine g_quiet 3 (by kernel_rfl) rfl (fun K hK => ?_); first | ((first | (refine qB_rowK H rfl _ _ rfl _ rfl _ r0 _ Try.underlying31 rfl (infoLC a) (hK _ ?_)) | (refine qB_rowK H rfl _ _ rfl _ rfl _ r1 _ Try.underlying31 rfl (infoLC b) (hK _ ?_))); clear hK K) | (go_simp; first | (refine hK _ ?_; clear hK K) | (apply Exists.intro; refine ⟨fun _ => ?_, hK _ ?_⟩; (first | (go_at_call 21; with_reducible exact toCrate_any a _) | (go_at_call 21; with_reducible exact toCrate_any b _)); clear hK K)))
      (refine g_quiet 4 (by kernel_rfl) rfl (fun K hK => ?_); first | ((first | (refine qB_rowK H rfl _ _ rfl _ rfl _ r0 _ Try.underlying31 rfl (infoLC a) (hK _ ?_)) | (refine qB_rowK H rfl _ _ rfl _ rfl _ r1 _ Try.underlying31 rfl (infoLC b) (hK _ ?_))); clear hK K) | (go_simp; first | (refine hK _ ?_; clear hK K) | (apply Exists.intro; refine ⟨fun _ => ?_, hK _ ?_⟩; (first | (go_at_call 21; with_reducible exact toCrate_any a _) | (go_at_call 21; with_reducible exact toCrate_any b _)); clear hK K)))
      refine g_alone 5 (by kernel_rfl) rfl rfl (fun K hK wx hwx hfx => ?_)
      go_simp
      refine found_call (G := fun v => v) (Φ := fun v w => ∃ g, v = .slice (some ⟨g, 0, none⟩) l.length l.length ∧ Lies sc w g l) (fun v w w' h hb => h.imp fun g h => ⟨h.1, h.2.below hb⟩) hwx hfx ((toSwapS_any A c l _ (hr.below hwx) h1).mono ?_) (fun v1 => hK _ _ ?_)
      · rintro e w' ⟨g, rfl, O, hb⟩
        exact ⟨_, rfl, ⟨g, rfl, own_lies O⟩, hb⟩
      clear hfx hwx wx hK K
      refine g_alone 6 (by kernel_rfl) rfl rfl (fun K hK wx hwx hfx => ?_)
      have hfy := hfx
      obtain ⟨-, g1, rfl, K1⟩ := hfy
      go_simp
      refine plain_call hwx hfx (sCheckSwaps_any a b g1 0 _ l _ h2 K1.c K1.lt) (hK _ _ ?_)
      clear hfx hwx hK K
      (refine g_quiet 7 (by kernel_rfl) rfl (fun K hK => ?_); first | ((first | fail); clear hK K) | (go_simp; first | (refine hK _ ?_; clear hK K) | (apply Exists.intro; refine ⟨fun _ => ?_, hK _ ?_⟩; (first | fail); clear hK K)))
      (refine g_quiet 8 (by kernel_rfl) rfl (fun K hK => ?_); first | ((first | fail); clear hK K) | (go_simp; first | (refine hK _ ?_; clear hK K) | (apply Exists.intro; refine ⟨fun _ => ?_, hK _ ?_⟩; (first | fail); clear hK K)))
      (refine g_quiet 9 (by kernel_rfl) rfl (fun K hK => ?_); first | ((first | fail); clear hK K) | (go_simp; first | (refine hK _ ?_; clear hK K) | (apply Exists.intro; refine ⟨fun _ => ?_, hK _ ?_⟩; (first | fail); clear hK K)))
      (refine g_quiet 10 (by kernel_rfl) rfl (fun K hK => ?_); first | ((first | fail); clear hK K) | (go_simp; first | (refine hK _ ?_; clear hK K) | (apply Exists.intro; refine ⟨fun _ => ?_, hK _ ?_⟩; (first | fail); clear hK K)))
      (refine g_quiet 11 (by kernel_rfl) rfl (fun K hK => ?_); first | ((first | fail); clear hK K) | (go_simp; first | (refine hK _ ?_; clear hK K) | (apply Exists.intro; refine ⟨fun _ => ?_, hK _ ?_⟩; (first | fail); clear hK K)))
      refine g_done (by kernel_rfl) ?_
      rintro w2 hw2 -
      replace H := hw2
      go_upto_region 7 with (go_at_call 53; refine (toSwapS_any A c l _ (hr.below H) h1).mono ?_; rintro e w4 ⟨g2, rfl, O2, hb⟩; have K2 := own_lies O2; clear O2; replace H := bstep H hb; clear hb)
      replace hr := hr.below H
      replace r0 := row_kept r0 H
      replace r1 := row_kept r1 H
      replace H0 := bstep H0 H
      replace H := below_self H
      refine g_start 11 rfl (by kernel_rfl) ?_
      (refine g_quiet 0 (by kernel_rfl) rfl (fun K hK => ?_); first | ((first | (refine qB_rowK H rfl _ _ rfl _ rfl _ r0 _ Try.underlying31 rfl (infoLC a) (hK _ ?_)) | (refine qB_rowK H rfl _ _ rfl _ rfl _ r1 _ Try.underlying31 rfl (infoLC b) (hK _ ?_))); clear hK K) | (go_simp; first | (refine hK _ ?_; clear hK K) | (apply Exists.intro; refine ⟨fun _ => ?_, hK _ ?_⟩; (first | (go_at_call 21; with_reducible exact toCrate_any a _) | (go_at_call 21; with_reducible exact toCrate_any b _)); clear hK K)))
      (refine g_quiet 1 (by kernel_rfl) rfl (fun K hK => ?_); first | ((first | (refine qB_rowK H rfl _ _ rfl _ rfl _ r0 _ Try.underlying31 rfl (infoLC a) (hK _ ?_)) | (refine qB_rowK H rfl _ _ rfl _ rfl _ r1 _ Try.underlying31 rfl (infoLC b) (hK _ ?_))); clear hK K) | (go_simp; first | (refine hK _ ?_; clear hK K) | (apply Exists.intro; refine ⟨fun _ => ?_, hK _ ?_⟩; (first | (go_at_call 21; with_reducible exact toCrate_any a _) | (go_at_call 21; with_reducible exact toCrate_any b _)); clear hK K)))
      (refine g_quiet 2 (by kernel_rfl) rfl (fun K hK => ?_); first | ((first | (refine qB_rowK H rfl _ _ rfl _ rfl _ r0 _ Try.underlying31 rfl (infoLC a) (hK _ ?_)) | (refine qB_rowK H rfl _ _ rfl _ rfl _ r1 _ Try.underlying31 rfl (infoLC b) (hK _ ?_))); clear hK K) | (go_simp; first | (refine hK _ ?_; clear hK K) | (apply Exists.intro; refine ⟨fun _ => ?_, hK _ ?_⟩; (first | (go_at_call 21; with_reducible exact toCrate_any a _) | (go_at_call 21; with_reducible exact toCrate_any b _)); clear hK K)))
      (refine g_quiet 3 (by kernel_rfl) rfl (fun K hK => ?_); first | ((first | (refine qB_rowK H rfl _ _ rfl _ rfl _ r0 _ Try.underlying31 rfl (infoLC a) (hK _ ?_)) | (refine qB_rowK H rfl _ _ rfl _ rfl _ r1 _ Try.underlying31 rfl (infoLC b) (hK _ ?_))); clear hK K) | (go_simp; first | (refine hK _ ?_; clear hK K) | (apply Exists.intro; refine ⟨fun _ => ?_, hK _ ?_⟩; (first | (go_at_call 21; with_reducible exact toCrate_any a _) | (go_at_call 21; with_reducible exact toCrate_any b _)); clear hK K)))
      (refine g_quiet 4 (by kernel_rfl) rfl (fun K hK => ?_); first | ((first | (refine qB_rowK H rfl _ _ rfl _ rfl _ r0 _ Try.underlying31 rfl (infoLC a) (hK _ ?_)) | (refine qB_rowK H rfl _ _ rfl _ rfl _ r1 _ Try.underlying31 rfl (infoLC b) (hK _ ?_))); clear hK K) | (go_simp; first | (refine hK _ ?_; clear hK K) | (apply Exists.intro; refine ⟨fun _ => ?_, hK _ ?_⟩; (first | (go_at_call 21; with_reducible exact toCrate_any a _) | (go_at_call 21; with_reducible exact toCrate_any b _)); clear hK K)))
      refine g_alone 5 (by kernel_rfl) rfl rfl (fun K hK wx hwx hfx => ?_)
      have hfy := hfx
      obtain _ := hfy
      go_simp
      refine plain_call hwx hfx (CheckSwaps_any a b g2 0 _ l _ h2 (K2.below hwx).c (K2.below hwx).lt) (hK _ _ ?_)
      clear hfx hwx hK K
      (refine g_quiet 6 (by kernel_rfl) rfl (fun K hK => ?_); first | ((first | fail); clear hK K) | (go_simp; first | (refine hK _ ?_; clear hK K) | (apply Exists.intro; refine ⟨fun _ => ?_, hK _ ?_⟩; (first | fail); clear hK K)))
      (refine g_quiet 7 (by kernel_rfl) rfl (fun K hK => ?_); first | ((first | fail); clear hK K) | (go_simp; first | (refine hK _ ?_; clear hK K) | (apply Exists.intro; refine ⟨fun _ => ?_, hK _ ?_⟩; (first | fail); clear hK K)))
      (refine g_quiet 8 (by kernel_rfl) rfl (fun K hK => ?_); first | ((first | fail); clear hK K) | (go_simp; first | (refine hK _ ?_; clear hK K) | (apply Exists.intro; refine ⟨fun _ => ?_, hK _ ?_⟩; (first | fail); clear hK K)))
      (refine g_quiet 9 (by kernel_rfl) rfl (fun K hK => ?_); first | ((first | fail); clear hK K) | (go_simp; first | (refine hK _ ?_; clear hK K) | (apply Exists.intro; refine ⟨fun _ => ?_, hK _ ?_⟩; (first | fail); clear hK K)))
      (refine g_quiet 10 (by kernel_rfl) rfl (fun K hK => ?_); first | ((first | fail); clear hK K) | (go_simp; first | (refine hK _ ?_; clear hK K) | (apply Exists.intro; refine ⟨fun _ => ?_, hK _ ?_⟩; (first | fail); clear hK K)))
      refine g_done (by kernel_rfl) ?_
      rintro w5 hw5 -
      replace K2 := K2.below hw5
      replace H := hw5
      go_wp2_with (first | (go_at_call 53; refine (toSwapS_any A c l _ (hr.below H) h1).mono ?_; rintro e w6 ⟨g3, rfl, O3, hb⟩; have K3 := own_lies O3; clear O3; replace K2 := K2.below hb; replace H := bstep H hb; clear hb) | (go_at_call 55; refine (eqSwapS_refl _ _ _ _ l _ K2.rd K3.rd (by omega)).mono ?_; rintro e w7 ⟨rfl, hb⟩; replace H := bstep H hb; clear hb))
      go_ret
      exact ⟨rfl, bstep H0 H⟩
  · go_wp2_with (go_at_call 51; refine (szSwapS_any _ _ _ _ _ (by omega) (by omega) hm).mono ?_; rintro e w1 ⟨rfl, hb⟩; rw [if_pos (by omega)]; replace H := bstep H hb; clear hb)
    go_ret
    exact ⟨rfl, bstep H0 H⟩
end Go.Proofs.Ytkpaijbjbbgpmaa
namespace Go.Proofs.Ytkpaijbjbbgpmaa.fnExactCheckSwaps
open Go.ChangeShapes Go.WideShapes Go.ChangeAt Go.RowKit
open Go.ChangeMaps (open_string shut_string)
set_option linter.unusedVariables false
set_option linter.unusedSimpArgs false
set_option maxRecDepth 100000 in
theorem lifted (os : Os) (started : os.Started) (H : Type) (enc : TypeId × Value → H) :
    ReturnsInHanded {} Try.checked os 14 .any (Rows.fnExactCheckSwapsSpec.pre6 enc Try.prog Try.f14 Rows.fnExactCheckSwapsRow.domain false) (Rows.fnExactCheckSwapsSpec.post enc Try.prog Try.f14 false true false false) := by
  refine returnsInHanded_of_change_sized (C := Try.checked) own started (by kernel_rfl) Try.func14
    (ChangeSpec.witness6 (enc := enc) (C := Try.checked) false ⟨#[], #[.agg #[.int .u8 0, .int .i16 0, .int .u8 0, .int .i16 0, .int .u8 0, .int .i16 0, .int .u8 0, .int .i16 0, .int .u8 0, .int .i16 0, .int .u8 0, .int .i16 0, .int .u8 0, .int .i16 0, .int .u8 0, .int .i16 0, .int .u8 0, .int .i16 0, .int .u8 0, .int .i16 0, .int .u8 0, .int .i16 0, .int .u8 0, .int .i16 0], .agg #[.int .u8 0, .int .i16 0, .int .u8 0, .int .i16 0, .int .u8 0, .int .i16 0, .int .u8 0, .int .i16 0, .int .u8 0, .int .i16 0, .int .u8 0, .int .i16 0, .int .u8 0, .int .i16 0, .int .u8 0, .int .i16 0, .int .u8 0, .int .i16 0, .int .u8 0, .int .i16 0, .int .u8 0, .int .i16 0, .int .u8 0, .int .i16 0], .slice none 0 0], []⟩ 8 (by kernel_rfl) (by kernel_rfl) (by kernel_rfl) (by kernel_rfl)) ?_
  intro W base args ds gs before hval0 hW hcnd hsz0 _
  have hsz : (DataW.weightsEach Try.prog (Try.f14.params.toList ++ Rows.fnExactCheckSwapsSpec.plain.varTypes Try.prog) (ds ++ gs)).all (· ≤ reachBytes) = true := hsz0
  have hval : ∀ (j : Nat) t v, Try.f14.params[j]? = some t → args[j]? = some v → Value.okWide Try.prog W .any base t v := hval0
  have hW' := hW
  obtain ⟨p, q, hA0, hV, rfl, hfz, hnd⟩ := hW
  have hA : DataW.TrodAll enc Try.prog W 0 (fun _ => true) true Try.f14.params.toList args.toList ds p := hA0
  rw [Try.params14] at hA hval hsz
  obtain ⟨v0, vs0, d0, ds0, p0, q0, hargs0, rfl, rfl, h0, r0⟩ := trodAll_cons hA
  obtain ⟨v1, vs1, d1, ds1, p1, q1, hargs1, rfl, rfl, h1, r1⟩ := trodAll_cons r0
  obtain ⟨v2, vs2, d2, ds2, p2, q2, hargs2, rfl, rfl, h2, r2⟩ := trodAll_cons r1
  obtain ⟨rfl, rfl, rfl⟩ := trodAll_nil r2
  subst hargs2
  subst hargs1
  obtain rfl : args = #[v0, v1, v2] := by cases args; simp_all
  obtain ⟨rfl, rfl⟩ := trodVars_none hV
  have hlt0 : ∀ x ∈ p0, x.block < W.heap.size := fun x hx => by simpa using hW'.lt x (by simp [hx])
  have hlt1 : ∀ x ∈ p1, x.block < W.heap.size := fun x hx => by simpa using hW'.lt x (by simp [hx])
  have hlt2 : ∀ x ∈ p2, x.block < W.heap.size := fun x hx => by simpa using hW'.lt x (by simp [hx])
  obtain ⟨a0, hv0⟩ := read_crate (hval 0 31 v0 rfl rfl) h0
  subst hv0
  obtain ⟨a1, hv1⟩ := read_crate (hval 1 31 v1 rfl rfl) h1
  subst hv1
  obtain ⟨A2, c2, l2, hv2, hm2, hr2⟩ := read_swaps (hval 2 73 v2 rfl rfl) h2
  subst hv2
  refine (FnExactCheckSwaps_any (w := W) a0 a1 A2 c2 l2 hm2 hr2).mono fun e W' ⟨he, bel⟩ => ?_
  subst he
  exact ⟨_, rfl, _, _, _, [], _, [], hW', trodAll_mk1 (shut_bool Try.underlying4 _), (trodAll_cons_mk (Below.trod laidOut (by kernel_rfl) (of_decide_eq_true (by kernel_rfl)) h0 bel hlt0) (trodAll_cons_mk (Below.trod laidOut (by kernel_rfl) (of_decide_eq_true (by kernel_rfl)) h1 bel hlt1) (trodAll_cons_mk (Below.trod laidOut (by kernel_rfl) (of_decide_eq_true (by kernel_rfl)) h2 bel hlt2) trodAll_mk0))), rfl, bel.frame _, fun h => by cases h⟩
theorem over : Rows.fnExactCheckSwapsRow.holds Try.pinned (OpenSpec.ofChange Rows.fnExactCheckSwapsSpec) :=
  OpenClaim.holds_of_wide 14 Try.f14 rfl rfl rfl rfl rfl rfl rfl ⟨rfl, rfl, rfl, rfl, rfl⟩ rfl rfl rfl rfl rfl (by kernel_rfl) Try.func14 (by kernel_rfl)
    (of_decide_eq_true (by kernel_rfl)) (by unfold Func.isWrapper; first | (rw [if_pos (by decide +kernel)]; kernel_rfl) | (rw [if_neg (by decide +kernel)]; exact ⟨rfl, rfl⟩))
    (fun os started H enc _ => lifted os started H enc)
theorem proved : Rows.FnExactCheckSwapsSaid := over
end Go.Proofs.Ytkpaijbjbbgpmaa.fnExactCheckSwaps
namespace Go.Proofs.Ytkpaijbjbbgpmaa
/-- The row, under a short name, for the claim. -/
theorem fnExactCheckSwaps_holds : Rows.FnExactCheckSwapsSaid := fnExactCheckSwaps.proved
end Go.Proofs.Ytkpaijbjbbgpmaa
