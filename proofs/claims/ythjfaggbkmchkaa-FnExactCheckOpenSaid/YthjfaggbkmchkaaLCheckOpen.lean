/- The law FnExactCheckOpen holds: the program's CheckOpen answers as the reference's, whatever the stack, order and crates. -/
import Derived.Test.YthjfaggbkmchkaaRows
import Derived.Test.YthjfaggbkmchkaaOpened
import Derived.Test.YthjfaggbkmchkaaMarkW
import Derived.Test.YthjfaggbkmchkaaMarkI
import Derived.Test.YthjfaggbkmchkaaRead
import Derived.Test.YthjfaggbkmchkaaTail
namespace Go.Proofs.Ythjfaggbkmchkaa
open Go.RowKit
set_option linter.unusedVariables false
set_option linter.unusedSimpArgs false
set_option maxRecDepth 100000
set_option maxHeartbeats 1000000
attribute [local go_sem] Oper.qB
theorem FnExactCheckOpen_any (w : World) (A0 : Option Addr) (c0 : Nat) (l0 : List Cr) (hm0 : l0.length ≤ maxLen) (hr0 : RdA w A0 (fl cc l0)) (A1 : Option Addr) (c1 : Nat) (l1 : List Wt) (hm1 : l1.length ≤ maxLen) (hr1 : RdA w A1 (fl wc l1)) (A2 : Option Addr) (c2 : Nat) (l2 : List Int) (hm2 : l2.length ≤ maxLen) (hr2 : RdA w A2 (fl iv l2)) : Calls Try.prog 12 #[.slice A0 l0.length c0, .slice A1 l1.length c1, .slice A2 l2.length c2] w fun e w' => e = .returned (.bool true) ∧ Below w.heap.size w w' := by
  have hq0 : l0.length ≤ 9223372036854775807 := by simpa [maxLen] using hm0
  have hq1 : l1.length ≤ 9223372036854775807 := by simpa [maxLen] using hm1
  have hq2 : l2.length ≤ 9223372036854775807 := by simpa [maxLen] using hm2
  have H := Below.refl w.heap.size w
  by_cases h2 : l2.length ≤ 1048576
  rotate_left
  · go_enter Try.func12, Try.ntmps12
    go_wp2
    go_ret
    exact ⟨rfl, H⟩
  by_cases h0 : l0.length ≤ 1048576
  rotate_left
  · go_enter Try.func12, Try.ntmps12
    go_wp2_with (go_at_call 44; refine (szCrateS_any _ _ _ _ _ (by omega) (by omega) hm0).mono ?_; rintro e w1 ⟨rfl, hb⟩; rw [if_pos (by omega)]; replace H := bstep H hb; clear hb)
    go_ret
    exact ⟨rfl, H⟩
  by_cases h1 : l1.length ≤ 1048576 - l0.length
  rotate_left
  · go_enter Try.func12, Try.ntmps12
    go_upto_region 7 with (go_at_call 44; refine (szCrateS_any _ _ _ _ _ (by omega) (by omega) hm0).mono ?_; rintro e w1 ⟨rfl, hb⟩; rw [if_neg (by omega)]; replace H := bstep H hb; clear hb)
    go_wp2_with (go_at_call 15; refine (szWantS_any _ _ _ _ _ (by omega) (by omega) hm1).mono ?_; rintro e w1 ⟨rfl, hb⟩; rw [if_pos (by omega)]; replace H := bstep H hb; clear hb)
    go_ret
    exact ⟨rfl, H⟩
  have hn0 : l0.length ≤ 1048576 := by omega
  have hn1 : l1.length ≤ 1048576 := by omega
  have hn2 : l2.length ≤ 1048576 := by omega
  have e1 := fun (g0 g1 g2 : Nat) (w : World) (K0 : Lies cc w g0 l0) (K1 : Lies wc w g1 l1) (K2 : Lies iv w g2 l2) => sCheckOpen_any g0 l0.length l0 g1 l1.length l1 g2 l2.length l2 w K0 K1 K2 (Nat.le_refl _) hn0 hn1 hn2
  have e2 := fun (g0 g1 g2 : Nat) (w : World) (K0 : Lies cc w g0 l0) (K1 : Lies wc w g1 l1) (K2 : Lies iv w g2 l2) => CheckOpen_any g0 l0.length l0 g1 l1.length l1 g2 l2.length l2 w K0 K1 K2 (Nat.le_refl _) hn0 hn1 hn2
  generalize checkR l0 l1 l2 = z at e1 e2
  obtain ⟨x0, x1⟩ := z
  go_enter Try.func12, Try.ntmps12
  go_upto_region 7 with (go_at_call 44; refine (szCrateS_any _ _ _ _ _ (by omega) (by omega) hm0).mono ?_; rintro e w1 ⟨rfl, hb⟩; rw [if_neg (by omega)]; replace H := bstep H hb; clear hb)
  go_upto_region 10 with (go_at_call 15; refine (szWantS_any _ _ _ _ _ (by omega) (by omega) hm1).mono ?_; rintro e w1 ⟨rfl, hb⟩; rw [if_neg (by omega)]; replace H := bstep H hb; clear hb)
  go_upto_region 11 with (first | (go_at_call 46; with_reducible refine (toCrateS_own A0 c0 l0 _ (hr0.below H) hn0).mono ?_; rintro e w1 ⟨k0, rfl, T0, hb⟩; replace H := bstep H hb; clear hb) | (go_at_call 17; with_reducible refine (toWantS_own A1 c1 l1 _ (hr1.below H) hn1).mono ?_; rintro e w1 ⟨k1, rfl, T1, hb⟩; replace T0 := T0.below hb; replace H := bstep H hb; clear hb) | (go_at_call 52; with_reducible refine (toInt64S_own A2 c2 l2 _ (hr2.below H) hn2).mono ?_; rintro e w1 ⟨k2, rfl, T2, hb⟩; replace T0 := T0.below hb; replace T1 := T1.below hb; replace H := bstep H hb; clear hb) | (go_at_call 51; with_reducible refine (e1 _ _ _ _ T0.lies T1.lies T2.lies).mono ?_; rintro e w1 ⟨rfl, hb⟩; replace H := bstep H hb; clear hb))
  try clear T0
  try clear T1
  try clear T2
  go_upto_region 12 with (go_at_call 46; with_reducible refine (toCrateS_own A0 c0 l0 _ (hr0.below H) hn0).mono ?_; rintro e w1 ⟨y0, rfl, OX0, hb⟩; have Q0 := H.size; replace H := bstep H hb; clear hb)
  go_upto_region 13 with (go_at_call 17; with_reducible refine (toWantS_own A1 c1 l1 _ (hr1.below H) hn1).mono ?_; rintro e w1 ⟨y1, rfl, OX1, hb⟩; have Q1 := H.size; have PX01 := OX0.apart OX1 (Nat.le_refl _); replace OX0 := OX0.below hb; replace H := bstep H hb; clear hb)
  go_upto_region 14 with (go_at_call 52; with_reducible refine (toInt64S_own A2 c2 l2 _ (hr2.below H) hn2).mono ?_; rintro e w1 ⟨y2, rfl, OX2, hb⟩; have Q2 := H.size; have PX02 := OX0.apart OX2 (Nat.le_refl _); have PX12 := OX1.apart OX2 (Nat.le_refl _); replace OX0 := OX0.below hb; replace OX1 := OX1.below hb; replace H := bstep H hb; clear hb)
  go_upto_region 15 with (go_at_call 53; with_reducible refine (e2 _ _ _ _ OX0.lies OX1.lies OX2.lies).mono ?_; rintro e w1 ⟨rfl, hb⟩; replace OX0 := OX0.below hb; replace OX1 := OX1.below hb; replace OX2 := OX2.below hb; replace H := bstep H hb; clear hb)
  go_upto_region 17 with (first | fail)
  go_upto_region 19 with (first | (go_at_call 46; with_reducible refine (toCrateS_own A0 c0 l0 _ (hr0.below H) hn0).mono ?_; rintro e w1 ⟨k, rfl, T, hb⟩; replace OX0 := OX0.below hb; replace OX1 := OX1.below hb; replace OX2 := OX2.below hb; replace H := bstep H hb; clear hb) | (go_at_call 41; refine (eqCrateS_own l0 _ OX0 T (by omega)).mono ?_; rintro e w1 ⟨rfl, hb⟩; clear T; replace OX0 := OX0.below hb; replace OX1 := OX1.below hb; replace OX2 := OX2.below hb; replace H := bstep H hb; clear hb))
  go_upto_region 21 with (first | (go_at_call 17; with_reducible refine (toWantS_own A1 c1 l1 _ (hr1.below H) hn1).mono ?_; rintro e w1 ⟨k, rfl, T, hb⟩; replace OX0 := OX0.below hb; replace OX1 := OX1.below hb; replace OX2 := OX2.below hb; replace H := bstep H hb; clear hb) | (go_at_call 19; refine (eqWantS_own l1 _ OX1 T (by omega)).mono ?_; rintro e w1 ⟨rfl, hb⟩; clear T; replace OX0 := OX0.below hb; replace OX1 := OX1.below hb; replace OX2 := OX2.below hb; replace H := bstep H hb; clear hb))
  go_wp2_with (first | (go_at_call 52; with_reducible refine (toInt64S_own A2 c2 l2 _ (hr2.below H) hn2).mono ?_; rintro e w1 ⟨k, rfl, T, hb⟩; replace OX0 := OX0.below hb; replace OX1 := OX1.below hb; replace OX2 := OX2.below hb; replace H := bstep H hb; clear hb) | (go_at_call 54; refine (eqInt64S_own l2 _ OX2 T (by omega)).mono ?_; rintro e w1 ⟨rfl, hb⟩; clear T; replace OX0 := OX0.below hb; replace OX1 := OX1.below hb; replace OX2 := OX2.below hb; replace H := bstep H hb; clear hb))
  go_ret
  exact ⟨rfl, H⟩
end Go.Proofs.Ythjfaggbkmchkaa
namespace Go.Proofs.Ythjfaggbkmchkaa.fnExactCheckOpen
open Go.ChangeShapes Go.WideShapes Go.ChangeAt Go.RowKit
open Go.ChangeMaps (open_string shut_string)
set_option linter.unusedVariables false
set_option linter.unusedSimpArgs false
set_option maxRecDepth 100000 in
theorem lifted (os : Os) (started : os.Started) (H : Type) (enc : TypeId × Value → H) :
    ReturnsInHanded {} Try.checked os 12 .any (Rows.fnExactCheckOpenSpec.pre6 enc Try.prog Try.f12 Rows.fnExactCheckOpenRow.domain false) (Rows.fnExactCheckOpenSpec.post enc Try.prog Try.f12 false true false false) := by
  refine returnsInHanded_of_change_sized (C := Try.checked) own started (by kernel_rfl) Try.func12
    (ChangeSpec.witness6 (enc := enc) (C := Try.checked) false ⟨#[], #[.slice none 0 0, .slice none 0 0, .slice none 0 0], []⟩ 8 (by kernel_rfl) (by kernel_rfl) (by kernel_rfl) (by kernel_rfl)) ?_
  intro W base args ds gs before hval0 hW hcnd hsz0 _
  have hsz : (DataW.weightsEach Try.prog (Try.f12.params.toList ++ Rows.fnExactCheckOpenSpec.plain.varTypes Try.prog) (ds ++ gs)).all (· ≤ reachBytes) = true := hsz0
  have hval : ∀ (j : Nat) t v, Try.f12.params[j]? = some t → args[j]? = some v → Value.okWide Try.prog W .any base t v := hval0
  have hW' := hW
  obtain ⟨p, q, hA0, hV, rfl, hfz, hnd⟩ := hW
  have hA : DataW.TrodAll enc Try.prog W 0 (fun _ => true) true Try.f12.params.toList args.toList ds p := hA0
  rw [Try.params12] at hA hval hsz
  obtain ⟨v0, vs0, d0, ds0, p0, q0, hargs0, rfl, rfl, h0, r0⟩ := trodAll_cons hA
  obtain ⟨v1, vs1, d1, ds1, p1, q1, hargs1, rfl, rfl, h1, r1⟩ := trodAll_cons r0
  obtain ⟨v2, vs2, d2, ds2, p2, q2, hargs2, rfl, rfl, h2, r2⟩ := trodAll_cons r1
  obtain ⟨rfl, rfl, rfl⟩ := trodAll_nil r2
  subst hargs2
  subst hargs1
  obtain rfl : args = #[v0, v1, v2] := by cases args; simp_all
  obtain ⟨rfl, rfl⟩ := trodVars_none hV
  have hlt0 : ∀ x ∈ p0, x.block < W.heap.size := fun x hx => by simpa using hW'.lt x (by simp [hx])
  have hlt1 : ∀ x ∈ p1, x.block < W.heap.size := fun x hx => by simpa using hW'.lt x (by simp [hx])
  have hlt2 : ∀ x ∈ p2, x.block < W.heap.size := fun x hx => by simpa using hW'.lt x (by simp [hx])
  obtain ⟨A0, c0, l0, hv0, hm0, hr0⟩ := read_crates (hval 0 62 v0 rfl rfl) h0
  subst hv0
  obtain ⟨A1, c1, l1, hv1, hm1, hr1⟩ := read_wants (hval 1 22 v1 rfl rfl) h1
  subst hv1
  obtain ⟨A2, c2, l2, hv2, hm2, hr2⟩ := read_ints (hval 2 70 v2 rfl rfl) h2
  subst hv2
  refine (FnExactCheckOpen_any (w := W) A0 c0 l0 hm0 hr0 A1 c1 l1 hm1 hr1 A2 c2 l2 hm2 hr2).mono fun e W' ⟨he, bel⟩ => ?_
  subst he
  exact ⟨_, rfl, _, _, _, [], _, [], hW', trodAll_mk1 (shut_bool Try.underlying4 _), (trodAll_cons_mk (Below.trod laidOut (by kernel_rfl) (of_decide_eq_true (by kernel_rfl)) h0 bel hlt0) (trodAll_cons_mk (Below.trod laidOut (by kernel_rfl) (of_decide_eq_true (by kernel_rfl)) h1 bel hlt1) (trodAll_cons_mk (Below.trod laidOut (by kernel_rfl) (of_decide_eq_true (by kernel_rfl)) h2 bel hlt2) trodAll_mk0))), rfl, bel.frame _, fun h => by cases h⟩
theorem over : Rows.fnExactCheckOpenRow.holds Try.pinned (OpenSpec.ofChange Rows.fnExactCheckOpenSpec) :=
  OpenClaim.holds_of_wide 12 Try.f12 rfl rfl rfl rfl rfl rfl rfl ⟨rfl, rfl, rfl, rfl, rfl⟩ rfl rfl rfl rfl rfl (by kernel_rfl) Try.func12 (by kernel_rfl)
    (of_decide_eq_true (by kernel_rfl)) (by unfold Func.isWrapper; first | (rw [if_pos (by decide +kernel)]; kernel_rfl) | (rw [if_neg (by decide +kernel)]; exact ⟨rfl, rfl⟩))
    (fun os started H enc _ => lifted os started H enc)
theorem proved : Rows.FnExactCheckOpenSaid := over
end Go.Proofs.Ythjfaggbkmchkaa.fnExactCheckOpen
namespace Go.Proofs.Ythjfaggbkmchkaa
/-- The row, under a short name, for the claim. -/
theorem fnExactCheckOpen_holds : Rows.FnExactCheckOpenSaid := fnExactCheckOpen.proved
end Go.Proofs.Ythjfaggbkmchkaa
