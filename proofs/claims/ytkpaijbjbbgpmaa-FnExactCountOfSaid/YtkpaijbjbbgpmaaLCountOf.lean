/- The law FnExactCountOf holds: the program's CountOf answers as the reference's, whatever the stack and bottle. -/
import Derived.Test.YtkpaijbjbbgpmaaRows
import Derived.Test.YtkpaijbjbbgpmaaCrateS
import Derived.Test.YtkpaijbjbbgpmaaCount
import Derived.Test.YtkpaijbjbbgpmaaRead
import Derived.Test.YtkpaijbjbbgpmaaTail
namespace Go.Proofs.Ytkpaijbjbbgpmaa
open Go.RowKit
set_option linter.unusedVariables false
set_option linter.unusedSimpArgs false
set_option maxRecDepth 100000
set_option maxHeartbeats 1000000
attribute [local go_sem] Oper.qB
theorem FnExactCountOf_any (w : World) (A : Option Addr) (c : Nat) (l : List Cr) (hm : l.length ≤ maxLen) (hr : RdA w A (fl cc l)) (b : Bt) : Calls Try.prog 12 #[.slice A l.length c, bv b] w fun e w' => e = .returned (.bool true) ∧ Below w.heap.size w w' := by
  have hm1 : l.length ≤ 9223372036854775807 := by simpa [maxLen] using hm
  go_enter Try.func12, Try.ntmps12
  go_upto_region 1 with fail
  generalize hW : World.alloc _ _ = W
  have H0 : Below w.heap.size w W := by rw [← hW]; go_grown
  have r0 : rowOf W (w.heap.size) = some (#[.int .u8 b.k, .int .i16 b.y]) := (by (try rw [← hW]); simp only [rowOf_alloc, World.size_alloc, ↓reduceIte]; all_goals ((repeat' split) <;> first | omega | (exfalso; omega) | rfl))
  clear hW
  have l0 : w.heap.size ≤ w.heap.size := Nat.le_refl _
  generalize h0 : w.heap.size = g0 at r0 ⊢
  replace l0 : w.heap.size ≤ g0 := Nat.le_of_eq h0
  clear h0
  have b0 := rowOf_lt r0
  have H := Below.refl W.heap.size W
  replace hr := hr.below H0
  by_cases h1 : l.length ≤ 1048576
  · go_upto_region 5 with (go_at_call 15; refine (szCrateS_any _ _ _ _ _ (by omega) (by omega) hm).mono ?_; rintro e w1 ⟨rfl, hb⟩; rw [if_neg (by omega)]; replace H := bstep H hb; clear hb)
    replace hr := hr.below H
    replace r0 := row_kept r0 H
    replace H0 := bstep H0 H
    replace H := below_self H
    refine g_start 10 rfl (by kernel_rfl) ?_
    (refine g_quiet 0 (by kernel_rfl) rfl (fun K hK => ?_); first | ((first | (refine qB_rowK H rfl _ _ rfl _ rfl _ r0 _ Try.underlying30 rfl (infoLB _ _) (hK _ ?_))); clear hK K) | (go_simp; first | (refine hK _ ?_; clear hK K) | (apply Exists.intro; refine ⟨fun _ => ?_, hK _ ?_⟩; (first | fail); clear hK K)))
    (refine g_quiet 2 (by kernel_rfl) rfl (fun K hK => ?_); first | ((first | (refine qB_rowK H rfl _ _ rfl _ rfl _ r0 _ Try.underlying30 rfl (infoLB _ _) (hK _ ?_))); clear hK K) | (go_simp; first | (refine hK _ ?_; clear hK K) | (apply Exists.intro; refine ⟨fun _ => ?_, hK _ ?_⟩; (first | fail); clear hK K)))
    refine g_alone 1 (by kernel_rfl) rfl rfl (fun K hK wx hwx hfx => ?_)
    go_simp
    refine found_call (G := fun v => v) (Φ := fun v w => ∃ g, v = .slice (some ⟨g, 0, none⟩) l.length l.length ∧ Lies cc w g l) (fun v w w' h hb => h.imp fun g h => ⟨h.1, h.2.below hb⟩) hwx hfx ((toCrateS_any A c l _ (hr.below hwx) h1).mono ?_) (fun v1 => hK _ _ ?_)
    · rintro e w' ⟨g, rfl, O, hb⟩
      exact ⟨_, rfl, ⟨g, rfl, own_lies O⟩, hb⟩
    clear hfx hwx wx hK K
    (refine g_quiet 3 (by kernel_rfl) rfl (fun K hK => ?_); first | ((first | fail); clear hK K) | (go_simp; first | (refine hK _ ?_; clear hK K) | (apply Exists.intro; refine ⟨fun _ => ?_, hK _ ?_⟩; (first | (go_at_call 28; with_reducible exact toBottle_any b _)); clear hK K)))
    refine g_alone 4 (by kernel_rfl) rfl rfl (fun K hK wx hwx hfx => ?_)
    have hfy := hfx
    obtain ⟨-, g1, rfl, K1⟩ := hfy
    go_simp
    refine plain_call hwx hfx (sCountOf_any g1 0 _ l b _ K1.c K1.lt h1) (hK _ _ ?_)
    clear hfx hwx hK K
    (refine g_quiet 5 (by kernel_rfl) rfl (fun K hK => ?_); first | ((first | fail); clear hK K) | (go_simp; first | (refine hK _ ?_; clear hK K) | (apply Exists.intro; refine ⟨fun _ => ?_, hK _ ?_⟩; (first | fail); clear hK K)))
    (refine g_quiet 6 (by kernel_rfl) rfl (fun K hK => ?_); first | ((first | fail); clear hK K) | (go_simp; first | (refine hK _ ?_; clear hK K) | (apply Exists.intro; refine ⟨fun _ => ?_, hK _ ?_⟩; (first | fail); clear hK K)))
    (refine g_quiet 7 (by kernel_rfl) rfl (fun K hK => ?_); first | ((first | fail); clear hK K) | (go_simp; first | (refine hK _ ?_; clear hK K) | (apply Exists.intro; refine ⟨fun _ => ?_, hK _ ?_⟩; (first | fail); clear hK K)))
    (refine g_quiet 8 (by kernel_rfl) rfl (fun K hK => ?_); first | ((first | fail); clear hK K) | (go_simp; first | (refine hK _ ?_; clear hK K) | (apply Exists.intro; refine ⟨fun _ => ?_, hK _ ?_⟩; (first | fail); clear hK K)))
    (refine g_quiet 9 (by kernel_rfl) rfl (fun K hK => ?_); first | ((first | fail); clear hK K) | (go_simp; first | (refine hK _ ?_; clear hK K) | (apply Exists.intro; refine ⟨fun _ => ?_, hK _ ?_⟩; (first | fail); clear hK K)))
    refine g_done (by kernel_rfl) ?_
    rintro w2 hw2 -
    replace H := hw2
    go_upto_region 7 with (go_at_call 17; refine (toCrateS_any A c l _ (hr.below H) h1).mono ?_; rintro e w4 ⟨g1, rfl, O1, hb⟩; have K1 := own_lies O1; clear O1; replace H := bstep H hb; clear hb)
    go_wp2_with (first | ((with_reducible refine wp_load_rowBg H ?_ _ _ rfl _ rfl _ r0 _ Try.underlying30 rfl (infoLB _ _) ?_); rfl) | (go_at_call 28; refine (toBottle_any b _).mono ?_; rintro e w3 ⟨rfl, hb⟩; replace K1 := K1.below hb; replace H := bstep H hb; clear hb) | (go_at_call 45; refine (CountOf_any _ 0 _ l b _ K1.c K1.lt h1).mono ?_; rintro e w5 ⟨rfl, hb⟩; replace K1 := K1.below hb; replace H := bstep H hb; clear hb) | (go_at_call 17; refine (toCrateS_any A c l _ (hr.below H) h1).mono ?_; rintro e w6 ⟨g2, rfl, O2, hb⟩; have K2 := own_lies O2; clear O2; replace K1 := K1.below hb; replace H := bstep H hb; clear hb) | (go_at_call 19; refine (eqCrateS_refl _ _ _ _ l _ K1.rd K2.rd (by omega)).mono ?_; rintro e w7 ⟨rfl, hb⟩; replace H := bstep H hb; clear hb))
    go_ret
    exact ⟨rfl, bstep H0 H⟩
  · go_wp2_with (go_at_call 15; refine (szCrateS_any _ _ _ _ _ (by omega) (by omega) hm).mono ?_; rintro e w1 ⟨rfl, hb⟩; rw [if_pos (by omega)]; replace H := bstep H hb; clear hb)
    go_ret
    exact ⟨rfl, bstep H0 H⟩
end Go.Proofs.Ytkpaijbjbbgpmaa
namespace Go.Proofs.Ytkpaijbjbbgpmaa.fnExactCountOf
open Go.ChangeShapes Go.WideShapes Go.ChangeAt Go.RowKit
open Go.ChangeMaps (open_string shut_string)
set_option linter.unusedVariables false
set_option linter.unusedSimpArgs false
set_option maxRecDepth 100000 in
theorem lifted (os : Os) (started : os.Started) (H : Type) (enc : TypeId × Value → H) :
    ReturnsInHanded {} Try.checked os 12 .any (Rows.fnExactCountOfSpec.pre6 enc Try.prog Try.f12 Rows.fnExactCountOfRow.domain false) (Rows.fnExactCountOfSpec.post enc Try.prog Try.f12 false true false false) := by
  refine returnsInHanded_of_change_sized (C := Try.checked) own started (by kernel_rfl) Try.func12
    (ChangeSpec.witness6 (enc := enc) (C := Try.checked) false ⟨#[], #[.slice none 0 0, .agg #[.int .u8 0, .int .i16 0]], []⟩ 8 (by kernel_rfl) (by kernel_rfl) (by kernel_rfl) (by kernel_rfl)) ?_
  intro W base args ds gs before hval0 hW hcnd hsz0 _
  have hsz : (DataW.weightsEach Try.prog (Try.f12.params.toList ++ Rows.fnExactCountOfSpec.plain.varTypes Try.prog) (ds ++ gs)).all (· ≤ reachBytes) = true := hsz0
  have hval : ∀ (j : Nat) t v, Try.f12.params[j]? = some t → args[j]? = some v → Value.okWide Try.prog W .any base t v := hval0
  have hW' := hW
  obtain ⟨p, q, hA0, hV, rfl, hfz, hnd⟩ := hW
  have hA : DataW.TrodAll enc Try.prog W 0 (fun _ => true) true Try.f12.params.toList args.toList ds p := hA0
  rw [Try.params12] at hA hval hsz
  obtain ⟨v0, vs0, d0, ds0, p0, q0, hargs0, rfl, rfl, h0, r0⟩ := trodAll_cons hA
  obtain ⟨v1, vs1, d1, ds1, p1, q1, hargs1, rfl, rfl, h1, r1⟩ := trodAll_cons r0
  obtain ⟨rfl, rfl, rfl⟩ := trodAll_nil r1
  subst hargs1
  obtain rfl : args = #[v0, v1] := by cases args; simp_all
  obtain ⟨rfl, rfl⟩ := trodVars_none hV
  have hlt0 : ∀ x ∈ p0, x.block < W.heap.size := fun x hx => by simpa using hW'.lt x (by simp [hx])
  have hlt1 : ∀ x ∈ p1, x.block < W.heap.size := fun x hx => by simpa using hW'.lt x (by simp [hx])
  obtain ⟨A0, c0, l0, hv0, hm0, hr0⟩ := read_crates (hval 0 22 v0 rfl rfl) h0
  subst hv0
  obtain ⟨a1, hv1⟩ := read_bot (hval 1 30 v1 rfl rfl) h1
  subst hv1
  refine (FnExactCountOf_any (w := W) A0 c0 l0 hm0 hr0 a1).mono fun e W' ⟨he, bel⟩ => ?_
  subst he
  exact ⟨_, rfl, _, _, _, [], _, [], hW', trodAll_mk1 (shut_bool Try.underlying4 _), (trodAll_cons_mk (Below.trod laidOut (by kernel_rfl) (of_decide_eq_true (by kernel_rfl)) h0 bel hlt0) (trodAll_cons_mk (Below.trod laidOut (by kernel_rfl) (of_decide_eq_true (by kernel_rfl)) h1 bel hlt1) trodAll_mk0)), rfl, bel.frame _, fun h => by cases h⟩
theorem over : Rows.fnExactCountOfRow.holds Try.pinned (OpenSpec.ofChange Rows.fnExactCountOfSpec) :=
  OpenClaim.holds_of_wide 12 Try.f12 rfl rfl rfl rfl rfl rfl rfl ⟨rfl, rfl, rfl, rfl, rfl⟩ rfl rfl rfl rfl rfl (by kernel_rfl) Try.func12 (by kernel_rfl)
    (of_decide_eq_true (by kernel_rfl)) (by unfold Func.isWrapper; first | (rw [if_pos (by decide +kernel)]; kernel_rfl) | (rw [if_neg (by decide +kernel)]; exact ⟨rfl, rfl⟩))
    (fun os started H enc _ => lifted os started H enc)
theorem proved : Rows.FnExactCountOfSaid := over
end Go.Proofs.Ytkpaijbjbbgpmaa.fnExactCountOf
namespace Go.Proofs.Ytkpaijbjbbgpmaa
/-- The row, under a short name, for the claim. -/
theorem fnExactCountOf_holds : Rows.FnExactCountOfSaid := fnExactCountOf.proved
end Go.Proofs.Ytkpaijbjbbgpmaa
