/- The law FnExactFillSeveral holds: the program's FillSeveral answers as the reference's, whatever the stack and orders. -/
import Derived.Test.YtnhpgahapjjjbaaRows
import Derived.Test.YtnhpgahapjjjbaaSev
import Derived.Test.YtnhpgahapjjjbaaMarkW
import Derived.Test.YtnhpgahapjjjbaaMarkI
import Derived.Test.YtnhpgahapjjjbaaRead
import Derived.Test.YtnhpgahapjjjbaaTail
namespace Go.Proofs.Ytnhpgahapjjjbaa
open Go.RowKit
set_option linter.unusedVariables false
set_option linter.unusedSimpArgs false
set_option maxRecDepth 100000
set_option maxHeartbeats 4000000
attribute [local go_sem] Oper.qB
theorem ButR.below {B T b : Nat} {w w' : World} (hb : ButR B T w w') (hB : b ≤ B) (hw : b ≤ w.heap.size) : Below b w w' :=
  ⟨hb.1.os, hb.1.tape, hb.1.output, hb.1.size, fun k hk => hb.2 k (by omega) (by omega)⟩
theorem FnExactFillSeveral_any (w : World) (A0 : Option Addr) (c0 : Nat) (l0 : List Cr) (hm0 : l0.length ≤ maxLen) (hr0 : RdA w A0 (fl cc l0)) (A1 : Option Addr) (c1 : Nat) (l1 : List (List Wt)) (hm1 : l1.length ≤ maxLen) (hr1 : RdSS wc w A1 l1) : Calls Try.prog 10 #[.slice A0 l0.length c0, .slice A1 l1.length c1] w fun e w' => e = .returned (.bool true) ∧ Below w.heap.size w w' := by
  have hq0 : l0.length ≤ 9223372036854775807 := by simpa [maxLen] using hm0
  have hq1 : l1.length ≤ 9223372036854775807 := by simpa [maxLen] using hm1
  have H := Below.refl w.heap.size w
  by_cases h0 : l0.length ≤ 1048576
  rotate_left
  · go_enter Try.func10, Try.ntmps10
    go_wp2_with (go_at_call 19; refine (szCrateS_any _ _ _ _ _ (by omega) (by omega) hm0).mono ?_; rintro e w1 ⟨rfl, hb⟩; rw [if_pos (by omega)]; replace H := bstep H hb; clear hb)
    go_ret
    exact ⟨rfl, H⟩
  go_enter Try.func10, Try.ntmps10
  go_upto_region 5 with (go_at_call 19; refine (szCrateS_any _ _ _ _ _ (by omega) (by omega) hm0).mono ?_; rintro e w1 ⟨rfl, hb⟩; rw [if_neg (by omega)]; replace H := bstep H hb; clear hb)
  have HSZ := Lib.hid (fun W hW => szWantSS_any A1 c1 l1 (1048576 - (l0.length : Int)) W (hr1.below hW) (by omega) (by omega) hm1)
  go_upto_region 6 with (go_at_call 47; refine (HSZ.out _ H).mono ?_; rintro e w1 ⟨⟨r, rfl, hr⟩, hb⟩; replace H := bstep H hb; clear hb; replace hr := Lib.hid hr)
  rcases hr.out with hrr | ⟨hrr, hr1', hr2'⟩
  · subst hrr
    go_wp2
    go_ret
    exact ⟨rfl, H⟩
  have hneg : ¬ r < 0 := by omega
  have hn0 : l0.length ≤ 1048576 := h0
  have hn1 : l1.length ≤ 1048576 := by omega
  have ht1 : tot l1 ≤ 1048576 := by omega
  clear hr HSZ
  have e1 := fun (g0 B T : Nat) (v : Value) (w : World) (K0 : Lies cc w g0 l0) (K1 : OwnA wc 3 100 42 w B T v l1) => sFillSeveral_any g0 l0.length l0 B T v l1 w K0 K1 hn0 hn1 ht1
  have e2 := fun (g0 B T : Nat) (v : Value) (w : World) (K0 : Lies cc w g0 l0) (K1 : OwnA wc 3 100 42 w B T v l1) => FillSeveral_any g0 l0.length l0 B T v l1 w K0 K1 hn0 hn1 ht1
  have hb0 := sevR_le l0 l1
  have hb1 := sevR_le2 l0 l1
  generalize sevR l0 l1 = z at e1 e2 hb0 hb1
  obtain ⟨x0, x1, x2⟩ := z
  replace hb0 : x0.length ≤ 30000 := hb0
  replace hb1 : x1.length ≤ 30000 := hb1
  go_upto_region 9 with (first | (go_at_call 22; with_reducible refine (toCrateS_own A0 c0 l0 _ (hr0.below H) hn0).mono ?_; rintro e w1 ⟨k0, rfl, T0, hb⟩; replace H := bstep H hb; clear hb) | (go_at_call 49; with_reducible refine (toWantSS_any A1 c1 l1 _ (hr1.below H) hn1 ht1).mono ?_; rintro e w1 ⟨k1, rfl, T1, hb⟩; replace T0 := T0.below hb; replace H := bstep H hb; clear hb) | (go_at_call 48; with_reducible refine (e1 _ _ _ _ _ T0.lies T1).mono ?_; rintro e w1 ⟨vW0, vW1, rfl, OW0, OW1, hb⟩; replace H := bstep H hb; clear hb))
  try clear T0
  try clear T1
  go_upto_region 10 with (go_at_call 22; with_reducible refine (toCrateS_own A0 c0 l0 _ (hr0.below H) hn0).mono ?_; rintro e w1 ⟨y0, rfl, OX0, hb⟩; replace OW0 := OW0.below hb; replace OW1 := OW1.below hb; replace H := bstep H hb; clear hb)
  go_upto_region 11 with (go_at_call 49; with_reducible refine (toWantSS_any A1 c1 l1 _ (hr1.below H) hn1 ht1).mono ?_; rintro e w1 ⟨y1, rfl, OX1, hb⟩; have PW0 := OW0.lt; have PW1 := OW1.lt; have Q1 := H.size; replace OW0 := OW0.below hb; replace OW1 := OW1.below hb; replace OX0 := OX0.below hb; replace H := bstep H hb; clear hb)
  go_upto_region 12 with (go_at_call 50; with_reducible refine (e2 _ _ _ _ _ OX0.lies OX1).mono ?_; rintro e w1 ⟨vG0, vG1, rfl, OG0, OG1, hb⟩; have PG0 := OG0.base; have PG1 := OG1.base; have QG1 := H.size; have PGW10 := (OW0.apart OG1 (Nat.le_refl _)).symm; have PGW11 := (OW1.apart OG1 (Nat.le_refl _)).symm; have PGG10 := apart_types OG1 OG0 (by decide); replace OW0 := OW0.below hb; replace OW1 := OW1.below hb; replace OX0 := OX0.below hb; replace OX1 := OX1.kept hb; replace H := bstep H hb; clear hb)
  go_upto_region 14 with (first | (go_at_call 25; with_reducible refine (eqCrateS_own x0 _ OG0 OW0 (by omega)).mono ?_; rintro e w1 ⟨rfl, hb⟩; replace OW0 := OW0.below hb; replace OW1 := OW1.below hb; replace OX0 := OX0.below hb; replace OX1 := OX1.kept hb; replace OG0 := OG0.below hb; replace OG1 := OG1.below hb; replace H := bstep H hb; clear hb) | (go_at_call 29; with_reducible refine (eqInt64S_own x1 _ OG1 OW1 (by omega)).mono ?_; rintro e w1 ⟨rfl, hb⟩; replace OW0 := OW0.below hb; replace OW1 := OW1.below hb; replace OX0 := OX0.below hb; replace OX1 := OX1.kept hb; replace OG0 := OG0.below hb; replace OG1 := OG1.below hb; replace H := bstep H hb; clear hb))
  go_upto_region 16 with (first | (go_at_call 22; with_reducible refine (toCrateS_own A0 c0 l0 _ (hr0.below H) hn0).mono ?_; rintro e w1 ⟨k, rfl, T, hb⟩; replace OW0 := OW0.below hb; replace OW1 := OW1.below hb; replace OX0 := OX0.below hb; replace OX1 := OX1.kept hb; replace OG0 := OG0.below hb; replace OG1 := OG1.below hb; replace H := bstep H hb; clear hb) | (go_at_call 25; refine (eqCrateS_own l0 _ OX0 T (by omega)).mono ?_; rintro e w1 ⟨rfl, hb⟩; clear T; replace OW0 := OW0.below hb; replace OW1 := OW1.below hb; replace OX0 := OX0.below hb; replace OX1 := OX1.kept hb; replace OG0 := OG0.below hb; replace OG1 := OG1.below hb; replace H := bstep H hb; clear hb))
  go_upto_region 18 with (first | (go_at_call 49; with_reducible refine (toWantSS_any A1 c1 l1 _ (hr1.below H) hn1 ht1).mono ?_; rintro e w1 ⟨k, rfl, T, hb⟩; replace OW0 := OW0.below hb; replace OW1 := OW1.below hb; replace OX0 := OX0.below hb; replace OX1 := OX1.kept hb; replace OG0 := OG0.below hb; replace OG1 := OG1.below hb; replace H := bstep H hb; clear hb) | (go_at_call 51; refine (eqWantSS_own l1 _ OX1 T hn1 ht1).mono ?_; rintro e w1 ⟨rfl, hb⟩; clear T; replace OW0 := OW0.below hb; replace OW1 := OW1.below hb; replace OX0 := OX0.below hb; replace OX1 := OX1.kept hb; replace OG0 := OG0.below hb; replace OG1 := OG1.below hb; replace H := bstep H hb; clear hb))
  go_upto_region 20 with (go_at_call 30; refine (markCrateS_own _ _ l0 _ _ OX0 (by omega)).mono ?_; rintro e w1 ⟨rfl, hb⟩; replace OW0 := OW0.below hb; replace OW1 := OW1.below hb; replace OX0 := OX0.below hb; replace OX1 := OX1.kept hb; replace OG0 := OG0.below hb; replace OG1 := OG1.below hb; replace H := bstep H hb; clear hb)
  try clear OX0
  go_upto_region 21 with (go_at_call 52; refine (markWantSS_own _ _ _ l1 _ _ OX1 (by omega) (by omega) hn1 ht1).mono ?_; rintro e w1 ⟨rfl, -, hb⟩; replace OW0 := OW0.butR hb (fun b q h => absurd (PW0 b q) (Nat.not_lt.2 h.1)); replace OW1 := OW1.butR hb (fun b q h => absurd (PW1 b q) (Nat.not_lt.2 h.1)); replace OG0 := OG0.butR hb (fun b q h => absurd h.2 (Nat.not_lt.2 (PG0 b q))); replace OG1 := OG1.butR hb (fun b q h => absurd h.2 (Nat.not_lt.2 (PG1 b q))); replace H := H.trans (hb.below Q1 H.size); clear hb OX1)
  go_upto_region 23 with (first | (go_at_call 25; with_reducible refine (eqCrateS_own x0 _ OG0 OW0 (by omega)).mono ?_; rintro e w1 ⟨rfl, hb⟩; replace OW0 := OW0.below hb; replace OW1 := OW1.below hb; replace OG0 := OG0.below hb; replace OG1 := OG1.below hb; replace H := bstep H hb; clear hb) | (go_at_call 29; with_reducible refine (eqInt64S_own x1 _ OG1 OW1 (by omega)).mono ?_; rintro e w1 ⟨rfl, hb⟩; replace OW0 := OW0.below hb; replace OW1 := OW1.below hb; replace OG0 := OG0.below hb; replace OG1 := OG1.below hb; replace H := bstep H hb; clear hb))
  go_upto_region 25 with (go_at_call 30; refine (markCrateS_own _ _ x0 _ _ OG0 (by omega)).mono ?_; rintro e w1 ⟨rfl, hb⟩; replace OW0 := OW0.below hb; replace OW1 := OW1.below hb; replace OG0 := OG0.below hb; replace OG1 := OG1.below hb; replace H := bstep H hb; clear hb)
  go_upto_region 26 with (go_at_call 32; refine (markInt64S_own _ _ x1 _ _ OG1 (by omega) (by omega) (by omega)).mono ?_; rintro e w1 ⟨rfl, OM1, hb⟩; replace OW0 := OW0.but hb PGW10; replace OW1 := OW1.but hb PGW11; replace OG0 := OG0.but hb PGG10; replace H := H.trans (hb.below OG1 QG1 H.size); clear OG1 hb)
  go_upto_region 30 with (go_at_call 41; refine (heldCrateS_own _ _ x0 _ _ OG0 (by omega)).mono ?_; rintro e w1 ⟨rfl, hb⟩; replace OW0 := OW0.below hb; replace OW1 := OW1.below hb; replace OG0 := OG0.below hb; replace OM1 := OM1.below hb; replace H := bstep H hb; clear hb)
  go_upto_region 33 with (go_at_call 33; refine (heldInt64S_own _ _ x1.length _ _ OM1 (by omega) (by omega) (by omega)).mono ?_; rintro e w1 ⟨rfl, hb⟩; replace OW0 := OW0.below hb; replace OW1 := OW1.below hb; replace OG0 := OG0.below hb; replace OM1 := OM1.below hb; replace H := bstep H hb; clear hb)
  go_upto_region 36 with (first | (go_at_call 22; with_reducible refine (toCrateS_own A0 c0 l0 _ (hr0.below H) hn0).mono ?_; rintro e w1 ⟨k0, rfl, T0, hb⟩; replace OW0 := OW0.below hb; replace OW1 := OW1.below hb; replace OG0 := OG0.below hb; replace OM1 := OM1.below hb; replace H := bstep H hb; clear hb) | (go_at_call 49; with_reducible refine (toWantSS_any A1 c1 l1 _ (hr1.below H) hn1 ht1).mono ?_; rintro e w1 ⟨k1, rfl, T1, hb⟩; replace OW0 := OW0.below hb; replace OW1 := OW1.below hb; replace OG0 := OG0.below hb; replace OM1 := OM1.below hb; replace T0 := T0.below hb; replace H := bstep H hb; clear hb) | (go_at_call 50; with_reducible refine (e2 _ _ _ _ _ T0.lies T1).mono ?_; rintro e w1 ⟨vV0, vV1, rfl, OV0, OV1, hb⟩; replace OW0 := OW0.below hb; replace OW1 := OW1.below hb; replace OG0 := OG0.below hb; replace OM1 := OM1.below hb; replace H := bstep H hb; clear hb))
  try clear T0
  try clear T1
  go_upto_region 38 with (first | (go_at_call 25; with_reducible refine (eqCrateS_own x0 _ OV0 OW0 (by omega)).mono ?_; rintro e w1 ⟨rfl, hb⟩; replace OW0 := OW0.below hb; replace OW1 := OW1.below hb; replace OG0 := OG0.below hb; replace OM1 := OM1.below hb; replace OV0 := OV0.below hb; replace OV1 := OV1.below hb; replace H := bstep H hb; clear hb) | (go_at_call 29; with_reducible refine (eqInt64S_own x1 _ OV1 OW1 (by omega)).mono ?_; rintro e w1 ⟨rfl, hb⟩; replace OW0 := OW0.below hb; replace OW1 := OW1.below hb; replace OG0 := OG0.below hb; replace OM1 := OM1.below hb; replace OV0 := OV0.below hb; replace OV1 := OV1.below hb; replace H := bstep H hb; clear hb))
  go_upto_region 42 with (go_at_call 41; refine (heldCrateS_own _ _ x0 _ _ OG0 (by omega)).mono ?_; rintro e w1 ⟨rfl, hb⟩; replace OW0 := OW0.below hb; replace OW1 := OW1.below hb; replace OG0 := OG0.below hb; replace OM1 := OM1.below hb; replace OV0 := OV0.below hb; replace OV1 := OV1.below hb; replace H := bstep H hb; clear hb)
  go_wp2_with (go_at_call 33; refine (heldInt64S_own _ _ x1.length _ _ OM1 (by omega) (by omega) (by omega)).mono ?_; rintro e w1 ⟨rfl, hb⟩; replace OW0 := OW0.below hb; replace OW1 := OW1.below hb; replace OG0 := OG0.below hb; replace OM1 := OM1.below hb; replace OV0 := OV0.below hb; replace OV1 := OV1.below hb; replace H := bstep H hb; clear hb)
  go_ret
  exact ⟨rfl, H⟩
end Go.Proofs.Ytnhpgahapjjjbaa
namespace Go.Proofs.Ytnhpgahapjjjbaa.fnExactFillSeveral
open Go.ChangeShapes Go.WideShapes Go.ChangeAt Go.RowKit
open Go.ChangeMaps (open_string shut_string)
set_option linter.unusedVariables false
set_option linter.unusedSimpArgs false
set_option maxRecDepth 100000 in
theorem lifted (os : Os) (started : os.Started) (H : Type) (enc : TypeId × Value → H) :
    ReturnsInHanded {} Try.checked os 10 .any (Rows.fnExactFillSeveralSpec.pre6 enc Try.prog Try.f10 Rows.fnExactFillSeveralRow.domain false) (Rows.fnExactFillSeveralSpec.post enc Try.prog Try.f10 false true false false) := by
  refine returnsInHanded_of_change_sized (C := Try.checked) own started (by kernel_rfl) Try.func10
    (ChangeSpec.witness6 (enc := enc) (C := Try.checked) false ⟨#[], #[.slice none 0 0, .slice none 0 0], []⟩ 8 (by kernel_rfl) (by kernel_rfl) (by kernel_rfl) (by kernel_rfl)) ?_
  intro W base args ds gs before hval0 hW hcnd hsz0 _
  have hsz : (DataW.weightsEach Try.prog (Try.f10.params.toList ++ Rows.fnExactFillSeveralSpec.plain.varTypes Try.prog) (ds ++ gs)).all (· ≤ reachBytes) = true := hsz0
  have hval : ∀ (j : Nat) t v, Try.f10.params[j]? = some t → args[j]? = some v → Value.okWide Try.prog W .any base t v := hval0
  have hW' := hW
  obtain ⟨p, q, hA0, hV, rfl, hfz, hnd⟩ := hW
  have hA : DataW.TrodAll enc Try.prog W 0 (fun _ => true) true Try.f10.params.toList args.toList ds p := hA0
  rw [Try.params10] at hA hval hsz
  obtain ⟨v0, vs0, d0, ds0, p0, q0, hargs0, rfl, rfl, h0, r0⟩ := trodAll_cons hA
  obtain ⟨v1, vs1, d1, ds1, p1, q1, hargs1, rfl, rfl, h1, r1⟩ := trodAll_cons r0
  obtain ⟨rfl, rfl, rfl⟩ := trodAll_nil r1
  subst hargs1
  obtain rfl : args = #[v0, v1] := by cases args; simp_all
  obtain ⟨rfl, rfl⟩ := trodVars_none hV
  have hlt0 : ∀ x ∈ p0, x.block < W.heap.size := fun x hx => by simpa using hW'.lt x (by simp [hx])
  have hlt1 : ∀ x ∈ p1, x.block < W.heap.size := fun x hx => by simpa using hW'.lt x (by simp [hx])
  obtain ⟨A0, c0, l0, hv0, hm0, hr0⟩ := read_crates (hval 0 34 v0 rfl rfl) h0
  subst hv0
  obtain ⟨A1, c1, l1, hv1, hm1, hr1⟩ := read_wantss (hval 1 65 v1 rfl rfl) h1
  subst hv1
  refine (FnExactFillSeveral_any (w := W) A0 c0 l0 hm0 hr0 A1 c1 l1 hm1 hr1).mono fun e W' ⟨he, bel⟩ => ?_
  subst he
  exact ⟨_, rfl, _, _, _, [], _, [], hW', trodAll_mk1 (shut_bool Try.underlying4 _), (trodAll_cons_mk (Below.trod laidOut (by kernel_rfl) (of_decide_eq_true (by kernel_rfl)) h0 bel hlt0) (trodAll_cons_mk (Below.trod laidOut (by kernel_rfl) (of_decide_eq_true (by kernel_rfl)) h1 bel hlt1) trodAll_mk0)), rfl, bel.frame _, fun h => by cases h⟩
theorem over : Rows.fnExactFillSeveralRow.holds Try.pinned (OpenSpec.ofChange Rows.fnExactFillSeveralSpec) :=
  OpenClaim.holds_of_wide 10 Try.f10 rfl rfl rfl rfl rfl rfl rfl ⟨rfl, rfl, rfl, rfl, rfl⟩ rfl rfl rfl rfl rfl (by kernel_rfl) Try.func10 (by kernel_rfl)
    (of_decide_eq_true (by kernel_rfl)) (by unfold Func.isWrapper; first | (rw [if_pos (by decide +kernel)]; kernel_rfl) | (rw [if_neg (by decide +kernel)]; exact ⟨rfl, rfl⟩))
    (fun os started H enc _ => lifted os started H enc)
theorem proved : Rows.FnExactFillSeveralSaid := over
end Go.Proofs.Ytnhpgahapjjjbaa.fnExactFillSeveral
namespace Go.Proofs.Ytnhpgahapjjjbaa
/-- The row, under a short name, for the claim. -/
theorem fnExactFillSeveral_holds : Rows.FnExactFillSeveralSaid := fnExactFillSeveral.proved
end Go.Proofs.Ytnhpgahapjjjbaa
