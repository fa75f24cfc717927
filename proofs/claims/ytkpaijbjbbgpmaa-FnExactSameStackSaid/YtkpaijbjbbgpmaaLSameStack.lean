/- The law FnExactSameStack holds: the program's SameStack answers as the reference's, whatever the two stacks. -/
import Derived.Test.YtkpaijbjbbgpmaaRows
import Derived.Test.YtkpaijbjbbgpmaaCrateS
import Derived.Test.YtkpaijbjbbgpmaaRead
import Derived.Test.YtkpaijbjbbgpmaaTail
namespace Go.Proofs.Ytkpaijbjbbgpmaa
open Go.RowKit
set_option linter.unusedVariables false
set_option linter.unusedSimpArgs false
set_option maxRecDepth 100000
set_option maxHeartbeats 1000000
attribute [local go_sem] Oper.qB
theorem FnExactSameStack_any (w : World) (A : Option Addr) (c : Nat) (l : List Cr) (hm : l.length ≤ maxLen) (hr : RdA w A (fl cc l)) (A' : Option Addr) (c' : Nat) (m : List Cr) (hm' : m.length ≤ maxLen) (hr' : RdA w A' (fl cc m)) :
    Calls Try.prog 3 #[.slice A l.length c, .slice A' m.length c'] w fun e w' => e = .returned (.bool true) ∧ Below w.heap.size w w' := by
  have H := Below.refl w.heap.size w
  have hm1 : l.length ≤ 9223372036854775807 := by simpa [maxLen] using hm
  have hm2 : m.length ≤ 9223372036854775807 := by simpa [maxLen] using hm'
  by_cases h1 : l.length ≤ 1048576
  · by_cases h2 : l.length + m.length ≤ 1048576
    · have h2' : m.length ≤ 1048576 := by omega
      go_enter Try.func3, Try.ntmps3
      go_upto_region 8 with (go_at_call 15; first | (with_reducible refine (szCrateS_any A l.length _ _ _ (by omega) (by omega) hm).mono ?_; rintro e w1 ⟨rfl, hb⟩; rw [if_neg (by omega)]; replace H := bstep H hb; clear hb) | (with_reducible refine (szCrateS_any A' m.length _ _ _ (by omega) (by omega) hm').mono ?_; rintro e w1 ⟨rfl, hb⟩; rw [if_neg (by omega)]; replace H := bstep H hb; clear hb))
      go_upto_region 9 with (first | (go_at_call 17; with_reducible refine (toCrateS_any A c l _ (hr.below H) h1).mono ?_; rintro e w2 ⟨g1, rfl, O1, hb⟩; have K1 := own_lies O1; clear O1; replace H := bstep H hb; clear hb) | (go_at_call 17; with_reducible refine (toCrateS_any A' c' m _ (hr'.below H) h2').mono ?_; rintro e w3 ⟨g2, rfl, O2, hb⟩; have K2 := own_lies O2; clear O2; replace K1 := K1.below hb; replace H := bstep H hb; clear hb) | (go_at_call 16; with_reducible refine (sSameStack_any _ _ _ _ _ _ l m _ K1.c K2.c K1.lt K2.lt (by omega) (by omega)).mono ?_; rintro e w4 ⟨rfl, hb⟩; replace H := bstep H hb; clear hb))
      clear K1 K2
      go_upto_region 12 with (first | (go_at_call 17; with_reducible refine (toCrateS_any A c l _ (hr.below H) h1).mono ?_; rintro e w5 ⟨g1, rfl, O1, hb⟩; have K1 := own_lies O1; clear O1; replace H := bstep H hb; clear hb) | (go_at_call 17; with_reducible refine (toCrateS_any A' c' m _ (hr'.below H) h2').mono ?_; rintro e w6 ⟨g2, rfl, O2, hb⟩; have K2 := own_lies O2; clear O2; replace K1 := K1.below hb; replace H := bstep H hb; clear hb) | (go_at_call 18; with_reducible refine (SameStack_any _ _ _ _ _ _ l m _ K1.c K2.c (by omega) (by omega)).mono ?_; rintro e w7 ⟨rfl, hb⟩; replace K1 := K1.below hb; replace K2 := K2.below hb; replace H := bstep H hb; clear hb))
      go_wp2_with (first | (go_at_call 17; with_reducible refine (toCrateS_any A c l _ (hr.below H) h1).mono ?_; rintro e w8 ⟨g3, rfl, O3, hb⟩; have K3 := own_lies O3; clear O3; replace K1 := K1.below hb; replace K2 := K2.below hb; replace H := bstep H hb; clear hb) | (go_at_call 17; with_reducible refine (toCrateS_any A' c' m _ (hr'.below H) h2').mono ?_; rintro e w9 ⟨g4, rfl, O4, hb⟩; have K4 := own_lies O4; clear O4; replace K2 := K2.below hb; replace H := bstep H hb; clear hb) | (go_at_call 19; first | (with_reducible refine (eqCrateS_refl _ _ _ _ l _ K1.rd K3.rd (by omega)).mono ?_; rintro e w10 ⟨rfl, hb⟩; replace K2 := K2.below hb; replace H := bstep H hb; clear hb) | (with_reducible refine (eqCrateS_refl _ _ _ _ m _ K2.rd K4.rd (by omega)).mono ?_; rintro e w11 ⟨rfl, hb⟩; replace H := bstep H hb; clear hb)))
      go_ret
      exact ⟨rfl, H⟩
    · go_enter Try.func3, Try.ntmps3
      go_wp2_with (go_at_call 15; first | (with_reducible refine (szCrateS_any A l.length _ _ _ (by omega) (by omega) hm).mono ?_; rintro e w1 ⟨rfl, hb⟩; rw [if_neg (by omega)]; replace H := bstep H hb; clear hb) | (with_reducible refine (szCrateS_any A' m.length _ _ _ (by omega) (by omega) hm').mono ?_; rintro e w1 ⟨rfl, hb⟩; rw [if_pos (by omega)]; replace H := bstep H hb; clear hb))
      go_ret
      exact ⟨rfl, H⟩
  · go_enter Try.func3, Try.ntmps3
    go_wp2_with (go_at_call 15; with_reducible refine (szCrateS_any _ _ _ _ _ (by omega) (by omega) hm).mono ?_; rintro e w1 ⟨rfl, hb⟩; rw [if_pos (by omega)]; replace H := bstep H hb; clear hb)
    go_ret
    exact ⟨rfl, H⟩
end Go.Proofs.Ytkpaijbjbbgpmaa
namespace Go.Proofs.Ytkpaijbjbbgpmaa.fnExactSameStack
open Go.ChangeShapes Go.WideShapes Go.ChangeAt Go.RowKit
open Go.ChangeMaps (open_string shut_string)
set_option linter.unusedVariables false
set_option linter.unusedSimpArgs false
set_option maxRecDepth 100000 in
theorem lifted (os : Os) (started : os.Started) (H : Type) (enc : TypeId × Value → H) :
    ReturnsInHanded {} Try.checked os 3 .any (Rows.fnExactSameStackSpec.pre6 enc Try.prog Try.f3 Rows.fnExactSameStackRow.domain false) (Rows.fnExactSameStackSpec.post enc Try.prog Try.f3 false true false false) := by
  refine returnsInHanded_of_change_sized (C := Try.checked) own started (by kernel_rfl) Try.func3
    (ChangeSpec.witness6 (enc := enc) (C := Try.checked) false ⟨#[], #[.slice none 0 0, .slice none 0 0], []⟩ 8 (by kernel_rfl) (by kernel_rfl) (by kernel_rfl) (by kernel_rfl)) ?_
  intro W base args ds gs before hval0 hW hcnd hsz0 _
  have hsz : (DataW.weightsEach Try.prog (Try.f3.params.toList ++ Rows.fnExactSameStackSpec.plain.varTypes Try.prog) (ds ++ gs)).all (· ≤ reachBytes) = true := hsz0
  have hval : ∀ (j : Nat) t v, Try.f3.params[j]? = some t → args[j]? = some v → Value.okWide Try.prog W .any base t v := hval0
  have hW' := hW
  obtain ⟨p, q, hA0, hV, rfl, hfz, hnd⟩ := hW
  have hA : DataW.TrodAll enc Try.prog W 0 (fun _ => true) true Try.f3.params.toList args.toList ds p := hA0
  rw [Try.params3] at hA hval hsz
  obtain ⟨v0, vs0, d0, ds0, p0, q0, hargs0, rfl, rfl, h0, r0⟩ := trodAll_cons hA
  obtain ⟨v1, vs1, d1, ds1, p1, q1, hargs1, rfl, rfl, h1, r1⟩ := trodAll_cons r0
  obtain ⟨rfl, rfl, rfl⟩ := trodAll_nil r1
  subst hargs1
  obtain rfl : args = #[v0, v1] := by cases args; simp_all
  obtain ⟨rfl, rfl⟩ := trodVars_none hV
  have hlt0 : ∀ x ∈ p0, x.block < W.heap.size := fun x hx => by simpa using hW'.lt x (by simp [hx])
  have hlt1 : ∀ x ∈ p1, x.block < W.heap.size := fun x hx => by simpa using hW'.lt x (by simp [hx])
  obtain ⟨A0, c0, l0, hv0, hm0, hr0⟩ := read_crates (hval 0 22 v0 rfl rfl) h0
  subst hv0
  obtain ⟨A1, c1, l1, hv1, hm1, hr1⟩ := read_crates (hval 1 22 v1 rfl rfl) h1
  subst hv1
  refine (FnExactSameStack_any (w := W) A0 c0 l0 hm0 hr0 A1 c1 l1 hm1 hr1).mono fun e W' ⟨he, bel⟩ => ?_
  subst he
  exact ⟨_, rfl, _, _, _, [], _, [], hW', trodAll_mk1 (shut_bool Try.underlying4 _), (trodAll_cons_mk (Below.trod laidOut (by kernel_rfl) (of_decide_eq_true (by kernel_rfl)) h0 bel hlt0) (trodAll_cons_mk (Below.trod laidOut (by kernel_rfl) (of_decide_eq_true (by kernel_rfl)) h1 bel hlt1) trodAll_mk0)), rfl, bel.frame _, fun h => by cases h⟩
theorem over : Rows.fnExactSameStackRow.holds Try.pinned (OpenSpec.ofChange Rows.fnExactSameStackSpec) :=
  OpenClaim.holds_of_wide 3 Try.f3 rfl rfl rfl rfl rfl rfl rfl ⟨rfl, rfl, rfl, rfl, rfl⟩ rfl rfl rfl rfl rfl (by kernel_rfl) Try.func3 (by kernel_rfl)
    (of_decide_eq_true (by kernel_rfl)) (by unfold Func.isWrapper; first | (rw [if_pos (by decide +kernel)]; kernel_rfl) | (rw [if_neg (by decide +kernel)]; exact ⟨rfl, rfl⟩))
    (fun os started H enc _ => lifted os started H enc)
theorem proved : Rows.FnExactSameStackSaid := over
end Go.Proofs.Ytkpaijbjbbgpmaa.fnExactSameStack
namespace Go.Proofs.Ytkpaijbjbbgpmaa
/-- The row, under a short name, for the claim. -/
theorem fnExactSameStack_holds : Rows.FnExactSameStackSaid := fnExactSameStack.proved
end Go.Proofs.Ytkpaijbjbbgpmaa
