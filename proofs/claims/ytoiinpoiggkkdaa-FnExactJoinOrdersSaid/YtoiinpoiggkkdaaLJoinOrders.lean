/- The law FnExactJoinOrders holds: the program's JoinOrders answers as the reference's, whatever the orders. -/
import Derived.Test.YtoiinpoiggkkdaaRows
import Derived.Test.YtoiinpoiggkkdaaJoin
import Derived.Test.YtoiinpoiggkkdaaMarkW
import Derived.Test.YtoiinpoiggkkdaaRead
import Derived.Test.YtoiinpoiggkkdaaTail
namespace Go.Proofs.Ytoiinpoiggkkdaa
open Go.RowKit
set_option linter.unusedVariables false
set_option linter.unusedSimpArgs false
set_option maxRecDepth 100000
set_option maxHeartbeats 1000000
attribute [local go_sem] Oper.qB
theorem FnExactJoinOrders_any (w : World) (A0 : Option Addr) (c0 : Nat) (l0 : List Wt) (hm0 : l0.length ≤ maxLen) (hr0 : RdA w A0 (fl wc l0)) (A1 : Option Addr) (c1 : Nat) (l1 : List Wt) (hm1 : l1.length ≤ maxLen) (hr1 : RdA w A1 (fl wc l1)) : Calls Try.prog 4 #[.slice A0 l0.length c0, .slice A1 l1.length c1] w fun e w' => e = .returned (.bool true) ∧ Below w.heap.size w w' := by
  have hq0 : l0.length ≤ 9223372036854775807 := by simpa [maxLen] using hm0
  have hq1 : l1.length ≤ 9223372036854775807 := by simpa [maxLen] using hm1
  have H := Below.refl w.heap.size w
  by_cases h0 : l0.length ≤ 1048576
  rotate_left
  · go_enter Try.func4, Try.ntmps4
    go_wp2_with (go_at_call 5; refine (szWantS_any _ _ _ _ _ (by omega) (by omega) hm0).mono ?_; rintro e w1 ⟨rfl, hb⟩; rw [if_pos (by omega)]; replace H := bstep H hb; clear hb)
    go_ret
    exact ⟨rfl, H⟩
  by_cases h1 : l1.length ≤ 1048576 - l0.length
  rotate_left
  · go_enter Try.func4, Try.ntmps4
    go_upto_region 5 with (go_at_call 5; refine (szWantS_any _ _ _ _ _ (by omega) (by omega) hm0).mono ?_; rintro e w1 ⟨rfl, hb⟩; rw [if_neg (by omega)]; replace H := bstep H hb; clear hb)
    go_wp2_with (go_at_call 5; refine (szWantS_any _ _ _ _ _ (by omega) (by omega) hm1).mono ?_; rintro e w1 ⟨rfl, hb⟩; rw [if_pos (by omega)]; replace H := bstep H hb; clear hb)
    go_ret
    exact ⟨rfl, H⟩
  have hn0 : l0.length ≤ 1048576 := by omega
  have hn1 : l1.length ≤ 1048576 := by omega
  have e1 := fun (g0 g1 : Nat) (w : World) (K0 : Lies wc w g0 l0) (K1 : Lies wc w g1 l1) => sJoinOrders_any g0 l0.length l0 g1 l1.length l1 w K0 K1 hn0 hn1
  have e2 := fun (g0 g1 : Nat) (w : World) (K0 : Lies wc w g0 l0) (K1 : Lies wc w g1 l1) => JoinOrders_any g0 l0.length l0 g1 l1.length l1 w K0 K1 hn0 hn1
  have hb0 := joinR_le l0 l1
  generalize joinR l0 l1 = z at e1 e2 hb0
  obtain ⟨x0, x1⟩ := z
  replace hb0 : x0.length ≤ 8 := hb0
  go_enter Try.func4, Try.ntmps4
  go_upto_region 5 with (go_at_call 5; refine (szWantS_any _ _ _ _ _ (by omega) (by omega) hm0).mono ?_; rintro e w1 ⟨rfl, hb⟩; rw [if_neg (by omega)]; replace H := bstep H hb; clear hb)
  go_upto_region 8 with (go_at_call 5; refine (szWantS_any _ _ _ _ _ (by omega) (by omega) hm1).mono ?_; rintro e w1 ⟨rfl, hb⟩; rw [if_neg (by omega)]; replace H := bstep H hb; clear hb)
  go_upto_region 9 with (first | (go_at_call 7; with_reducible refine (toWantS_own A0 c0 l0 _ (hr0.below H) hn0).mono ?_; rintro e w1 ⟨k0, rfl, T0, hb⟩; replace H := bstep H hb; clear hb) | (go_at_call 7; with_reducible refine (toWantS_own A1 c1 l1 _ (hr1.below H) hn1).mono ?_; rintro e w1 ⟨k1, rfl, T1, hb⟩; replace T0 := T0.below hb; replace H := bstep H hb; clear hb) | (go_at_call 14; with_reducible refine (e1 _ _ _ T0.lies T1.lies).mono ?_; rintro e w1 ⟨vW0, rfl, OW0, hb⟩; replace H := bstep H hb; clear hb))
  try clear T0
  try clear T1
  go_upto_region 10 with (go_at_call 7; with_reducible refine (toWantS_own A0 c0 l0 _ (hr0.below H) hn0).mono ?_; rintro e w1 ⟨y0, rfl, OX0, hb⟩; have Q0 := H.size; have PW00 := (OW0.apart OX0 (Nat.le_refl _)).symm; replace OW0 := OW0.below hb; replace H := bstep H hb; clear hb)
  go_upto_region 11 with (go_at_call 7; with_reducible refine (toWantS_own A1 c1 l1 _ (hr1.below H) hn1).mono ?_; rintro e w1 ⟨y1, rfl, OX1, hb⟩; have Q1 := H.size; have PW10 := (OW0.apart OX1 (Nat.le_refl _)).symm; have PX01 := OX0.apart OX1 (Nat.le_refl _); replace OW0 := OW0.below hb; replace OX0 := OX0.below hb; replace H := bstep H hb; clear hb)
  go_upto_region 12 with (go_at_call 15; with_reducible refine (e2 _ _ _ OX0.lies OX1.lies).mono ?_; rintro e w1 ⟨vG0, rfl, OG0, hb⟩; have PG00 := OX0.apart OG0 (Nat.le_refl _); have PG10 := OX1.apart OG0 (Nat.le_refl _); have QG0 := H.size; have PGW00 := (OW0.apart OG0 (Nat.le_refl _)).symm; replace OW0 := OW0.below hb; replace OX0 := OX0.below hb; replace OX1 := OX1.below hb; replace H := bstep H hb; clear hb)
  go_upto_region 14 with (first | (go_at_call 10; refine (eqWantS_own x0 _ OG0 OW0 (by omega)).mono ?_; rintro e w1 ⟨rfl, hb⟩; replace OW0 := OW0.below hb; replace OX0 := OX0.below hb; replace OX1 := OX1.below hb; replace OG0 := OG0.below hb; replace H := bstep H hb; clear hb))
  go_upto_region 16 with (first | (go_at_call 7; with_reducible refine (toWantS_own A0 c0 l0 _ (hr0.below H) hn0).mono ?_; rintro e w1 ⟨k, rfl, T, hb⟩; replace OW0 := OW0.below hb; replace OX0 := OX0.below hb; replace OX1 := OX1.below hb; replace OG0 := OG0.below hb; replace H := bstep H hb; clear hb) | (go_at_call 10; refine (eqWantS_own l0 _ OX0 T (by omega)).mono ?_; rintro e w1 ⟨rfl, hb⟩; clear T; replace OW0 := OW0.below hb; replace OX0 := OX0.below hb; replace OX1 := OX1.below hb; replace OG0 := OG0.below hb; replace H := bstep H hb; clear hb))
  go_upto_region 18 with (first | (go_at_call 7; with_reducible refine (toWantS_own A1 c1 l1 _ (hr1.below H) hn1).mono ?_; rintro e w1 ⟨k, rfl, T, hb⟩; replace OW0 := OW0.below hb; replace OX0 := OX0.below hb; replace OX1 := OX1.below hb; replace OG0 := OG0.below hb; replace H := bstep H hb; clear hb) | (go_at_call 10; refine (eqWantS_own l1 _ OX1 T (by omega)).mono ?_; rintro e w1 ⟨rfl, hb⟩; clear T; replace OW0 := OW0.below hb; replace OX0 := OX0.below hb; replace OX1 := OX1.below hb; replace OG0 := OG0.below hb; replace H := bstep H hb; clear hb))
  skip
  go_upto_region 20 with (go_at_call 11; refine (markWantS_own _ _ l0 _ _ OX0 (by omega) (by omega) (by omega)).mono ?_; rintro e w1 ⟨rfl, -, hb⟩; replace OW0 := OW0.but hb PW00; replace OG0 := OG0.but hb PG00; replace OX1 := OX1.but hb PX01; replace H := H.trans (hb.below OX0 Q0 H.size); clear hb OX0)
  try clear OX0
  go_upto_region 21 with (go_at_call 11; refine (markWantS_own _ _ l1 _ _ OX1 (by omega) (by omega) (by omega)).mono ?_; rintro e w1 ⟨rfl, -, hb⟩; replace OW0 := OW0.but hb PW10; replace OG0 := OG0.but hb PG10; replace H := H.trans (hb.below OX1 Q1 H.size); clear hb OX1)
  go_upto_region 23 with (first | (go_at_call 10; refine (eqWantS_own x0 _ OG0 OW0 (by omega)).mono ?_; rintro e w1 ⟨rfl, hb⟩; replace OW0 := OW0.below hb; replace OG0 := OG0.below hb; replace H := bstep H hb; clear hb))
  go_upto_region 25 with (go_at_call 11; refine (markWantS_own _ _ x0 _ _ OG0 (by omega) (by omega) (by omega)).mono ?_; rintro e w1 ⟨rfl, OM0, hb⟩; replace OW0 := OW0.but hb PGW00; replace H := H.trans (hb.below OG0 QG0 H.size); clear OG0 hb)
  go_upto_region 29 with (go_at_call 16; refine (heldWantS_own _ _ x0.length _ _ OM0 (by omega) (by omega) (by omega)).mono ?_; rintro e w1 ⟨rfl, hb⟩; replace OW0 := OW0.below hb; replace OM0 := OM0.below hb; replace H := bstep H hb; clear hb)
  go_upto_region 32 with (first | (go_at_call 7; with_reducible refine (toWantS_own A0 c0 l0 _ (hr0.below H) hn0).mono ?_; rintro e w1 ⟨k0, rfl, T0, hb⟩; replace OW0 := OW0.below hb; replace OM0 := OM0.below hb; replace H := bstep H hb; clear hb) | (go_at_call 7; with_reducible refine (toWantS_own A1 c1 l1 _ (hr1.below H) hn1).mono ?_; rintro e w1 ⟨k1, rfl, T1, hb⟩; replace OW0 := OW0.below hb; replace OM0 := OM0.below hb; replace T0 := T0.below hb; replace H := bstep H hb; clear hb) | (go_at_call 15; with_reducible refine (e2 _ _ _ T0.lies T1.lies).mono ?_; rintro e w1 ⟨vV0, rfl, OV0, hb⟩; replace OW0 := OW0.below hb; replace OM0 := OM0.below hb; replace H := bstep H hb; clear hb))
  try clear T0
  try clear T1
  go_upto_region 34 with (first | (go_at_call 10; refine (eqWantS_own x0 _ OV0 OW0 (by omega)).mono ?_; rintro e w1 ⟨rfl, hb⟩; replace OW0 := OW0.below hb; replace OM0 := OM0.below hb; replace OV0 := OV0.below hb; replace H := bstep H hb; clear hb))
  go_wp2_with (go_at_call 16; refine (heldWantS_own _ _ x0.length _ _ OM0 (by omega) (by omega) (by omega)).mono ?_; rintro e w1 ⟨rfl, hb⟩; replace OW0 := OW0.below hb; replace OM0 := OM0.below hb; replace OV0 := OV0.below hb; replace H := bstep H hb; clear hb)
  go_ret
  exact ⟨rfl, H⟩
end Go.Proofs.Ytoiinpoiggkkdaa
namespace Go.Proofs.Ytoiinpoiggkkdaa.fnExactJoinOrders
open Go.ChangeShapes Go.WideShapes Go.ChangeAt Go.RowKit
open Go.ChangeMaps (open_string shut_string)
set_option linter.unusedVariables false
set_option linter.unusedSimpArgs false
set_option maxRecDepth 100000 in
theorem lifted (os : Os) (started : os.Started) (H : Type) (enc : TypeId × Value → H) :
    ReturnsInHanded {} Try.checked os 4 .any (Rows.fnExactJoinOrdersSpec.pre6 enc Try.prog Try.f4 Rows.fnExactJoinOrdersRow.domain false) (Rows.fnExactJoinOrdersSpec.post enc Try.prog Try.f4 false true false false) := by
  refine returnsInHanded_of_change_sized (C := Try.checked) own started (by kernel_rfl) Try.func4
    (ChangeSpec.witness6 (enc := enc) (C := Try.checked) false ⟨#[], #[.slice none 0 0, .slice none 0 0], []⟩ 8 (by kernel_rfl) (by kernel_rfl) (by kernel_rfl) (by kernel_rfl)) ?_
  intro W base args ds gs before hval0 hW hcnd hsz0 _
  have hsz : (DataW.weightsEach Try.prog (Try.f4.params.toList ++ Rows.fnExactJoinOrdersSpec.plain.varTypes Try.prog) (ds ++ gs)).all (· ≤ reachBytes) = true := hsz0
  have hval : ∀ (j : Nat) t v, Try.f4.params[j]? = some t → args[j]? = some v → Value.okWide Try.prog W .any base t v := hval0
  have hW' := hW
  obtain ⟨p, q, hA0, hV, rfl, hfz, hnd⟩ := hW
  have hA : DataW.TrodAll enc Try.prog W 0 (fun _ => true) true Try.f4.params.toList args.toList ds p := hA0
  rw [Try.params4] at hA hval hsz
  obtain ⟨v0, vs0, d0, ds0, p0, q0, hargs0, rfl, rfl, h0, r0⟩ := trodAll_cons hA
  obtain ⟨v1, vs1, d1, ds1, p1, q1, hargs1, rfl, rfl, h1, r1⟩ := trodAll_cons r0
  obtain ⟨rfl, rfl, rfl⟩ := trodAll_nil r1
  subst hargs1
  obtain rfl : args = #[v0, v1] := by cases args; simp_all
  obtain ⟨rfl, rfl⟩ := trodVars_none hV
  have hlt0 : ∀ x ∈ p0, x.block < W.heap.size := fun x hx => by simpa using hW'.lt x (by simp [hx])
  have hlt1 : ∀ x ∈ p1, x.block < W.heap.size := fun x hx => by simpa using hW'.lt x (by simp [hx])
  obtain ⟨A0, c0, l0, hv0, hm0, hr0⟩ := read_wants (hval 0 22 v0 rfl rfl) h0
  subst hv0
  obtain ⟨A1, c1, l1, hv1, hm1, hr1⟩ := read_wants (hval 1 22 v1 rfl rfl) h1
  subst hv1
  refine (FnExactJoinOrders_any (w := W) A0 c0 l0 hm0 hr0 A1 c1 l1 hm1 hr1).mono fun e W' ⟨he, bel⟩ => ?_
  subst he
  exact ⟨_, rfl, _, _, _, [], _, [], hW', trodAll_mk1 (shut_bool Try.underlying4 _), (trodAll_cons_mk (Below.trod laidOut (by kernel_rfl) (of_decide_eq_true (by kernel_rfl)) h0 bel hlt0) (trodAll_cons_mk (Below.trod laidOut (by kernel_rfl) (of_decide_eq_true (by kernel_rfl)) h1 bel hlt1) trodAll_mk0)), rfl, bel.frame _, fun h => by cases h⟩
theorem over : Rows.fnExactJoinOrdersRow.holds Try.pinned (OpenSpec.ofChange Rows.fnExactJoinOrdersSpec) :=
  OpenClaim.holds_of_wide 4 Try.f4 rfl rfl rfl rfl rfl rfl rfl ⟨rfl, rfl, rfl, rfl, rfl⟩ rfl rfl rfl rfl rfl (by kernel_rfl) Try.func4 (by kernel_rfl)
    (of_decide_eq_true (by kernel_rfl)) (by unfold Func.isWrapper; first | (rw [if_pos (by decide +kernel)]; kernel_rfl) | (rw [if_neg (by decide +kernel)]; exact ⟨rfl, rfl⟩))
    (fun os started H enc _ => lifted os started H enc)
theorem proved : Rows.FnExactJoinOrdersSaid := over
end Go.Proofs.Ytoiinpoiggkkdaa.fnExactJoinOrders
namespace Go.Proofs.Ytoiinpoiggkkdaa
/-- The row, under a short name, for the claim. -/
theorem fnExactJoinOrders_holds : Rows.FnExactJoinOrdersSaid := fnExactJoinOrders.proved
end Go.Proofs.Ytoiinpoiggkkdaa
