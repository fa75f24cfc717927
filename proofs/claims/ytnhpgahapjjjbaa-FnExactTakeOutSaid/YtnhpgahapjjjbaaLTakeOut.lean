/- The law FnExactTakeOut holds: the program's TakeOut answers as the reference's, whatever the stack, order and crates. -/
import Derived.Test.YtnhpgahapjjjbaaRows
import Derived.Test.YtnhpgahapjjjbaaTakeO
import Derived.Test.YtnhpgahapjjjbaaMarkW
import Derived.Test.YtnhpgahapjjjbaaMarkI
import Derived.Test.YtnhpgahapjjjbaaMarkBt
import Derived.Test.YtnhpgahapjjjbaaRead
import Derived.Test.YtnhpgahapjjjbaaTail
namespace Go.Proofs.Ytnhpgahapjjjbaa
open Go.RowKit
set_option linter.unusedVariables false
set_option linter.unusedSimpArgs false
set_option maxRecDepth 100000
set_option maxHeartbeats 4000000
attribute [local go_sem] Oper.qB
theorem FnExactTakeOut_any (w : World) (A0 : Option Addr) (c0 : Nat) (l0 : List Cr) (hm0 : l0.length ≤ maxLen) (hr0 : RdA w A0 (fl cc l0)) (A1 : Option Addr) (c1 : Nat) (l1 : List Wt) (hm1 : l1.length ≤ maxLen) (hr1 : RdA w A1 (fl wc l1)) (A2 : Option Addr) (c2 : Nat) (l2 : List Int) (hm2 : l2.length ≤ maxLen) (hr2 : RdA w A2 (fl iv l2)) : Calls Try.prog 7 #[.slice A0 l0.length c0, .slice A1 l1.length c1, .slice A2 l2.length c2] w fun e w' => e = .returned (.bool true) ∧ Below w.heap.size w w' := by
  have hq0 : l0.length ≤ 9223372036854775807 := by simpa [maxLen] using hm0
  have hq1 : l1.length ≤ 9223372036854775807 := by simpa [maxLen] using hm1
  have hq2 : l2.length ≤ 9223372036854775807 := by simpa [maxLen] using hm2
  have H := Below.refl w.heap.size w
  by_cases h2 : l2.length ≤ 1048576
  rotate_left
  · go_enter Try.func7, Try.ntmps7
    go_wp2
    go_ret
    exact ⟨rfl, H⟩
  by_cases h0 : l0.length ≤ 1048576
  rotate_left
  · go_enter Try.func7, Try.ntmps7
    go_wp2_with (go_at_call 19; refine (szCrateS_any _ _ _ _ _ (by omega) (by omega) hm0).mono ?_; rintro e w1 ⟨rfl, hb⟩; rw [if_pos (by omega)]; replace H := bstep H hb; clear hb)
    go_ret
    exact ⟨rfl, H⟩
  by_cases h1 : l1.length ≤ 1048576 - l0.length
  rotate_left
  · go_enter Try.func7, Try.ntmps7
    go_upto_region 7 with (go_at_call 19; refine (szCrateS_any _ _ _ _ _ (by omega) (by omega) hm0).mono ?_; rintro e w1 ⟨rfl, hb⟩; rw [if_neg (by omega)]; replace H := bstep H hb; clear hb)
    go_wp2_with (go_at_call 20; refine (szWantS_any _ _ _ _ _ (by omega) (by omega) hm1).mono ?_; rintro e w1 ⟨rfl, hb⟩; rw [if_pos (by omega)]; replace H := bstep H hb; clear hb)
    go_ret
    exact ⟨rfl, H⟩
  have hn0 : l0.length ≤ 1048576 := by omega
  have hn1 : l1.length ≤ 1048576 := by omega
  have hn2 : l2.length ≤ 1048576 := by omega
  have e1 := fun (g0 g1 g2 : Nat) (w : World) (K0 : Lies cc w g0 l0) (K1 : Lies wc w g1 l1) (K2 : Lies iv w g2 l2) => sTakeOut_any g0 l0.length l0 g1 l1.length l1 g2 l2.length l2 w K0 K1 K2 (Nat.le_refl _) hn0 hn1 hn2
  have e2 := fun (g0 g1 g2 : Nat) (w : World) (K0 : Lies cc w g0 l0) (K1 : Lies wc w g1 l1) (K2 : Lies iv w g2 l2) => TakeOut_any g0 l0.length l0 g1 l1.length l1 g2 l2.length l2 w K0 K1 K2 (Nat.le_refl _) hn0 hn1 hn2
  have hb0 := takeOR_le l0 l1 l2
  have hb1 := takeOR_le2 l0 l1 l2
  generalize takeOR l0 l1 l2 = z at e1 e2 hb0 hb1
  obtain ⟨x0, x1, x2⟩ := z
  replace hb0 : x0.length ≤ 30000 := hb0
  replace hb1 : x1.length ≤ 300000 := hb1
  go_enter Try.func7, Try.ntmps7
  go_upto_region 7 with (go_at_call 19; refine (szCrateS_any _ _ _ _ _ (by omega) (by omega) hm0).mono ?_; rintro e w1 ⟨rfl, hb⟩; rw [if_neg (by omega)]; replace H := bstep H hb; clear hb)
  go_upto_region 10 with (go_at_call 20; refine (szWantS_any _ _ _ _ _ (by omega) (by omega) hm1).mono ?_; rintro e w1 ⟨rfl, hb⟩; rw [if_neg (by omega)]; replace H := bstep H hb; clear hb)
  go_upto_region 11 with (first | (go_at_call 22; with_reducible refine (toCrateS_own A0 c0 l0 _ (hr0.below H) hn0).mono ?_; rintro e w1 ⟨k0, rfl, T0, hb⟩; replace H := bstep H hb; clear hb) | (go_at_call 23; with_reducible refine (toWantS_own A1 c1 l1 _ (hr1.below H) hn1).mono ?_; rintro e w1 ⟨k1, rfl, T1, hb⟩; replace T0 := T0.below hb; replace H := bstep H hb; clear hb) | (go_at_call 37; with_reducible refine (toInt64S_own A2 c2 l2 _ (hr2.below H) hn2).mono ?_; rintro e w1 ⟨k2, rfl, T2, hb⟩; replace T0 := T0.below hb; replace T1 := T1.below hb; replace H := bstep H hb; clear hb) | (go_at_call 36; with_reducible refine (e1 _ _ _ _ T0.lies T1.lies T2.lies).mono ?_; rintro e w1 ⟨vW0, vW1, rfl, OW0, OW1, hb⟩; replace H := bstep H hb; clear hb))
  try clear T0
  try clear T1
  try clear T2
  go_upto_region 12 with (go_at_call 22; with_reducible refine (toCrateS_own A0 c0 l0 _ (hr0.below H) hn0).mono ?_; rintro e w1 ⟨y0, rfl, OX0, hb⟩; have Q0 := H.size; have PW00 := (OW0.apart OX0 (Nat.le_refl _)).symm; have PW01 := (OW1.apart OX0 (Nat.le_refl _)).symm; replace OW0 := OW0.below hb; replace OW1 := OW1.below hb; replace H := bstep H hb; clear hb)
  go_upto_region 13 with (go_at_call 23; with_reducible refine (toWantS_own A1 c1 l1 _ (hr1.below H) hn1).mono ?_; rintro e w1 ⟨y1, rfl, OX1, hb⟩; have Q1 := H.size; have PW10 := (OW0.apart OX1 (Nat.le_refl _)).symm; have PW11 := (OW1.apart OX1 (Nat.le_refl _)).symm; have PX01 := OX0.apart OX1 (Nat.le_refl _); replace OW0 := OW0.below hb; replace OW1 := OW1.below hb; replace OX0 := OX0.below hb; replace H := bstep H hb; clear hb)
  go_upto_region 14 with (go_at_call 37; with_reducible refine (toInt64S_own A2 c2 l2 _ (hr2.below H) hn2).mono ?_; rintro e w1 ⟨y2, rfl, OX2, hb⟩; have Q2 := H.size; have PW20 := (OW0.apart OX2 (Nat.le_refl _)).symm; have PW21 := (OW1.apart OX2 (Nat.le_refl _)).symm; have PX02 := OX0.apart OX2 (Nat.le_refl _); have PX12 := OX1.apart OX2 (Nat.le_refl _); replace OW0 := OW0.below hb; replace OW1 := OW1.below hb; replace OX0 := OX0.below hb; replace OX1 := OX1.below hb; replace H := bstep H hb; clear hb)
  go_upto_region 15 with (go_at_call 38; with_reducible refine (e2 _ _ _ _ OX0.lies OX1.lies OX2.lies).mono ?_; rintro e w1 ⟨vG0, vG1, rfl, OG0, OG1, hb⟩; have PG00 := OX0.apart OG0 (Nat.le_refl _); have PG01 := OX0.apart OG1 (Nat.le_refl _); have PG10 := OX1.apart OG0 (Nat.le_refl _); have PG11 := OX1.apart OG1 (Nat.le_refl _); have PG20 := OX2.apart OG0 (Nat.le_refl _); have PG21 := OX2.apart OG1 (Nat.le_refl _); have QG0 := H.size; have PGW00 := (OW0.apart OG0 (Nat.le_refl _)).symm; have QG0 := H.size; have PGW01 := (OW1.apart OG0 (Nat.le_refl _)).symm; have QG1 := H.size; have PGW10 := (OW0.apart OG1 (Nat.le_refl _)).symm; have QG1 := H.size; have PGW11 := (OW1.apart OG1 (Nat.le_refl _)).symm; have PGG10 := apart_types OG1 OG0 (by decide); replace OW0 := OW0.below hb; replace OW1 := OW1.below hb; replace OX0 := OX0.below hb; replace OX1 := OX1.below hb; replace OX2 := OX2.below hb; replace H := bstep H hb; clear hb)
  go_upto_region 17 with (first | (go_at_call 25; with_reducible refine (eqCrateS_own x0 _ OG0 OW0 (by omega)).mono ?_; rintro e w1 ⟨rfl, hb⟩; replace OW0 := OW0.below hb; replace OW1 := OW1.below hb; replace OX0 := OX0.below hb; replace OX1 := OX1.below hb; replace OX2 := OX2.below hb; replace OG0 := OG0.below hb; replace OG1 := OG1.below hb; replace H := bstep H hb; clear hb) | (go_at_call 39; with_reducible refine (eqBottleS_own x1 _ OG1 OW1 (by omega)).mono ?_; rintro e w1 ⟨rfl, hb⟩; replace OW0 := OW0.below hb; replace OW1 := OW1.below hb; replace OX0 := OX0.below hb; replace OX1 := OX1.below hb; replace OX2 := OX2.below hb; replace OG0 := OG0.below hb; replace OG1 := OG1.below hb; replace H := bstep H hb; clear hb))
  go_upto_region 19 with (first | (go_at_call 22; with_reducible refine (toCrateS_own A0 c0 l0 _ (hr0.below H) hn0).mono ?_; rintro e w1 ⟨k, rfl, T, hb⟩; replace OW0 := OW0.below hb; replace OW1 := OW1.below hb; replace OX0 := OX0.below hb; replace OX1 := OX1.below hb; replace OX2 := OX2.below hb; replace OG0 := OG0.below hb; replace OG1 := OG1.below hb; replace H := bstep H hb; clear hb) | (go_at_call 25; refine (eqCrateS_own l0 _ OX0 T (by omega)).mono ?_; rintro e w1 ⟨rfl, hb⟩; clear T; replace OW0 := OW0.below hb; replace OW1 := OW1.below hb; replace OX0 := OX0.below hb; replace OX1 := OX1.below hb; replace OX2 := OX2.below hb; replace OG0 := OG0.below hb; replace OG1 := OG1.below hb; replace H := bstep H hb; clear hb))
  go_upto_region 21 with (first | (go_at_call 23; with_reducible refine (toWantS_own A1 c1 l1 _ (hr1.below H) hn1).mono ?_; rintro e w1 ⟨k, rfl, T, hb⟩; replace OW0 := OW0.below hb; replace OW1 := OW1.below hb; replace OX0 := OX0.below hb; replace OX1 := OX1.below hb; replace OX2 := OX2.below hb; replace OG0 := OG0.below hb; replace OG1 := OG1.below hb; replace H := bstep H hb; clear hb) | (go_at_call 26; refine (eqWantS_own l1 _ OX1 T (by omega)).mono ?_; rintro e w1 ⟨rfl, hb⟩; clear T; replace OW0 := OW0.below hb; replace OW1 := OW1.below hb; replace OX0 := OX0.below hb; replace OX1 := OX1.below hb; replace OX2 := OX2.below hb; replace OG0 := OG0.below hb; replace OG1 := OG1.below hb; replace H := bstep H hb; clear hb))
  go_upto_region 23 with (first | (go_at_call 37; with_reducible refine (toInt64S_own A2 c2 l2 _ (hr2.below H) hn2).mono ?_; rintro e w1 ⟨k, rfl, T, hb⟩; replace OW0 := OW0.below hb; replace OW1 := OW1.below hb; replace OX0 := OX0.below hb; replace OX1 := OX1.below hb; replace OX2 := OX2.below hb; replace OG0 := OG0.below hb; replace OG1 := OG1.below hb; replace H := bstep H hb; clear hb) | (go_at_call 29; refine (eqInt64S_own l2 _ OX2 T (by omega)).mono ?_; rintro e w1 ⟨rfl, hb⟩; clear T; replace OW0 := OW0.below hb; replace OW1 := OW1.below hb; replace OX0 := OX0.below hb; replace OX1 := OX1.below hb; replace OX2 := OX2.below hb; replace OG0 := OG0.below hb; replace OG1 := OG1.below hb; replace H := bstep H hb; clear hb))
  go_upto_region 25 with (go_at_call 30; refine (markCrateS_own _ _ l0 _ _ OX0 (by omega)).mono ?_; rintro e w1 ⟨rfl, hb⟩; replace OW0 := OW0.below hb; replace OW1 := OW1.below hb; replace OX0 := OX0.below hb; replace OX1 := OX1.below hb; replace OX2 := OX2.below hb; replace OG0 := OG0.below hb; replace OG1 := OG1.below hb; replace H := bstep H hb; clear hb)
  try clear OX0
  go_upto_region 26 with (go_at_call 31; refine (markWantS_own _ _ l1 _ _ OX1 (by omega) (by omega) (by omega)).mono ?_; rintro e w1 ⟨rfl, -, hb⟩; replace OW0 := OW0.but hb PW10; replace OW1 := OW1.but hb PW11; replace OG0 := OG0.but hb PG10; replace OG1 := OG1.but hb PG11; replace OX2 := OX2.but hb PX12; replace H := H.trans (hb.below OX1 Q1 H.size); clear hb OX1)
  try clear OX0 OX1
  go_upto_region 27 with (go_at_call 32; refine (markInt64S_own _ _ l2 _ _ OX2 (by omega) (by omega) (by omega)).mono ?_; rintro e w1 ⟨rfl, -, hb⟩; replace OW0 := OW0.but hb PW20; replace OW1 := OW1.but hb PW21; replace OG0 := OG0.but hb PG20; replace OG1 := OG1.but hb PG21; replace H := H.trans (hb.below OX2 Q2 H.size); clear hb OX2)
  go_upto_region 29 with (first | (go_at_call 25; with_reducible refine (eqCrateS_own x0 _ OG0 OW0 (by omega)).mono ?_; rintro e w1 ⟨rfl, hb⟩; replace OW0 := OW0.below hb; replace OW1 := OW1.below hb; replace OG0 := OG0.below hb; replace OG1 := OG1.below hb; replace H := bstep H hb; clear hb) | (go_at_call 39; with_reducible refine (eqBottleS_own x1 _ OG1 OW1 (by omega)).mono ?_; rintro e w1 ⟨rfl, hb⟩; replace OW0 := OW0.below hb; replace OW1 := OW1.below hb; replace OG0 := OG0.below hb; replace OG1 := OG1.below hb; replace H := bstep H hb; clear hb))
  go_upto_region 31 with (go_at_call 30; refine (markCrateS_own _ _ x0 _ _ OG0 (by omega)).mono ?_; rintro e w1 ⟨rfl, hb⟩; replace OW0 := OW0.below hb; replace OW1 := OW1.below hb; replace OG0 := OG0.below hb; replace OG1 := OG1.below hb; replace H := bstep H hb; clear hb)
  go_upto_region 32 with (go_at_call 40; refine (markBottleS_own _ _ x1 _ _ OG1 (by omega) (by omega) (by omega)).mono ?_; rintro e w1 ⟨rfl, OM1, hb⟩; replace OW0 := OW0.but hb PGW10; replace OW1 := OW1.but hb PGW11; replace OG0 := OG0.but hb PGG10; replace H := H.trans (hb.below OG1 QG1 H.size); clear OG1 hb)
  go_upto_region 36 with (go_at_call 41; refine (heldCrateS_own _ _ x0 _ _ OG0 (by omega)).mono ?_; rintro e w1 ⟨rfl, hb⟩; replace OW0 := OW0.below hb; replace OW1 := OW1.below hb; replace OG0 := OG0.below hb; replace OM1 := OM1.below hb; replace H := bstep H hb; clear hb)
  go_upto_region 39 with (go_at_call 42; refine (heldBottleS_own _ _ x1.length _ _ OM1 (by omega) (by omega) (by omega)).mono ?_; rintro e w1 ⟨rfl, hb⟩; replace OW0 := OW0.below hb; replace OW1 := OW1.below hb; replace OG0 := OG0.below hb; replace OM1 := OM1.below hb; replace H := bstep H hb; clear hb)
  go_upto_region 42 with (first | (go_at_call 22; with_reducible refine (toCrateS_own A0 c0 l0 _ (hr0.below H) hn0).mono ?_; rintro e w1 ⟨k0, rfl, T0, hb⟩; replace OW0 := OW0.below hb; replace OW1 := OW1.below hb; replace OG0 := OG0.below hb; replace OM1 := OM1.below hb; replace H := bstep H hb; clear hb) | (go_at_call 23; with_reducible refine (toWantS_own A1 c1 l1 _ (hr1.below H) hn1).mono ?_; rintro e w1 ⟨k1, rfl, T1, hb⟩; replace OW0 := OW0.below hb; replace OW1 := OW1.below hb; replace OG0 := OG0.below hb; replace OM1 := OM1.below hb; replace T0 := T0.below hb; replace H := bstep H hb; clear hb) | (go_at_call 37; with_reducible refine (toInt64S_own A2 c2 l2 _ (hr2.below H) hn2).mono ?_; rintro e w1 ⟨k2, rfl, T2, hb⟩; replace OW0 := OW0.below hb; replace OW1 := OW1.below hb; replace OG0 := OG0.below hb; replace OM1 := OM1.below hb; replace T0 := T0.below hb; replace T1 := T1.below hb; replace H := bstep H hb; clear hb) | (go_at_call 38; with_reducible refine (e2 _ _ _ _ T0.lies T1.lies T2.lies).mono ?_; rintro e w1 ⟨vV0, vV1, rfl, OV0, OV1, hb⟩; replace OW0 := OW0.below hb; replace OW1 := OW1.below hb; replace OG0 := OG0.below hb; replace OM1 := OM1.below hb; replace H := bstep H hb; clear hb))
  try clear T0
  try clear T1
  try clear T2
  go_upto_region 44 with (first | (go_at_call 25; with_reducible refine (eqCrateS_own x0 _ OV0 OW0 (by omega)).mono ?_; rintro e w1 ⟨rfl, hb⟩; replace OW0 := OW0.below hb; replace OW1 := OW1.below hb; replace OG0 := OG0.below hb; replace OM1 := OM1.below hb; replace OV0 := OV0.below hb; replace OV1 := OV1.below hb; replace H := bstep H hb; clear hb) | (go_at_call 39; with_reducible refine (eqBottleS_own x1 _ OV1 OW1 (by omega)).mono ?_; rintro e w1 ⟨rfl, hb⟩; replace OW0 := OW0.below hb; replace OW1 := OW1.below hb; replace OG0 := OG0.below hb; replace OM1 := OM1.below hb; replace OV0 := OV0.below hb; replace OV1 := OV1.below hb; replace H := bstep H hb; clear hb))
  go_upto_region 48 with (go_at_call 41; refine (heldCrateS_own _ _ x0 _ _ OG0 (by omega)).mono ?_; rintro e w1 ⟨rfl, hb⟩; replace OW0 := OW0.below hb; replace OW1 := OW1.below hb; replace OG0 := OG0.below hb; replace OM1 := OM1.below hb; replace OV0 := OV0.below hb; replace OV1 := OV1.below hb; replace H := bstep H hb; clear hb)
  go_wp2_with (go_at_call 42; refine (heldBottleS_own _ _ x1.length _ _ OM1 (by omega) (by omega) (by omega)).mono ?_; rintro e w1 ⟨rfl, hb⟩; replace OW0 := OW0.below hb; replace OW1 := OW1.below hb; replace OG0 := OG0.below hb; replace OM1 := OM1.below hb; replace OV0 := OV0.below hb; replace OV1 := OV1.below hb; replace H := bstep H hb; clear hb)
  go_ret
  exact ⟨rfl, H⟩
end Go.Proofs.Ytnhpgahapjjjbaa
namespace Go.Proofs.Ytnhpgahapjjjbaa.fnExactTakeOut
open Go.ChangeShapes Go.WideShapes Go.ChangeAt Go.RowKit
open Go.ChangeMaps (open_string shut_string)
set_option linter.unusedVariables false
set_option linter.unusedSimpArgs false
set_option maxRecDepth 100000 in
theorem lifted (os : Os) (started : os.Started) (H : Type) (enc : TypeId × Value → H) :
    ReturnsInHanded {} Try.checked os 7 .any (Rows.fnExactTakeOutSpec.pre6 enc Try.prog Try.f7 Rows.fnExactTakeOutRow.domain false) (Rows.fnExactTakeOutSpec.post enc Try.prog Try.f7 false true false false) := by
  refine returnsInHanded_of_change_sized (C := Try.checked) own started (by kernel_rfl) Try.func7
    (ChangeSpec.witness6 (enc := enc) (C := Try.checked) false ⟨#[], #[.slice none 0 0, .slice none 0 0, .slice none 0 0], []⟩ 8 (by kernel_rfl) (by kernel_rfl) (by kernel_rfl) (by kernel_rfl)) ?_
  intro W base args ds gs before hval0 hW hcnd hsz0 _
  have hsz : (DataW.weightsEach Try.prog (Try.f7.params.toList ++ Rows.fnExactTakeOutSpec.plain.varTypes Try.prog) (ds ++ gs)).all (· ≤ reachBytes) = true := hsz0
  have hval : ∀ (j : Nat) t v, Try.f7.params[j]? = some t → args[j]? = some v → Value.okWide Try.prog W .any base t v := hval0
  have hW' := hW
  obtain ⟨p, q, hA0, hV, rfl, hfz, hnd⟩ := hW
  have hA : DataW.TrodAll enc Try.prog W 0 (fun _ => true) true Try.f7.params.toList args.toList ds p := hA0
  rw [Try.params7] at hA hval hsz
  obtain ⟨v0, vs0, d0, ds0, p0, q0, hargs0, rfl, rfl, h0, r0⟩ := trodAll_cons hA
  obtain ⟨v1, vs1, d1, ds1, p1, q1, hargs1, rfl, rfl, h1, r1⟩ := trodAll_cons r0
  obtain ⟨v2, vs2, d2, ds2, p2, q2, hargs2, rfl, rfl, h2, r2⟩ := trodAll_cons r1
  obtain ⟨rfl, rfl, rfl⟩ := trodAll_nil r2
  subst hargs2
  subst hargs1
  obtain rfl : args = #[v0, v1, v2] := by cases args; simp_all
  obtain ⟨rfl, rfl⟩ := trodVars_none hV
  have hlt0 : ∀ x ∈ p0, x.block < W.heap.size := fun x hx => by simpa using hW'.lt x (by simp [hx])
  have hlt1 : ∀ x ∈ p1, x.block < W.heap.size := fun x hx => by simpa using hW'.lt x (by simp [hx])
  have hlt2 : ∀ x ∈ p2, x.block < W.heap.size := fun x hx => by simpa using hW'.lt x (by simp [hx])
  obtain ⟨A0, c0, l0, hv0, hm0, hr0⟩ := read_crates (hval 0 34 v0 rfl rfl) h0
  subst hv0
  obtain ⟨A1, c1, l1, hv1, hm1, hr1⟩ := read_wants (hval 1 35 v1 rfl rfl) h1
  subst hv1
  obtain ⟨A2, c2, l2, hv2, hm2, hr2⟩ := read_ints (hval 2 47 v2 rfl rfl) h2
  subst hv2
  refine (FnExactTakeOut_any (w := W) A0 c0 l0 hm0 hr0 A1 c1 l1 hm1 hr1 A2 c2 l2 hm2 hr2).mono fun e W' ⟨he, bel⟩ => ?_
  subst he
  exact ⟨_, rfl, _, _, _, [], _, [], hW', trodAll_mk1 (shut_bool Try.underlying4 _), (trodAll_cons_mk (Below.trod laidOut (by kernel_rfl) (of_decide_eq_true (by kernel_rfl)) h0 bel hlt0) (trodAll_cons_mk (Below.trod laidOut (by kernel_rfl) (of_decide_eq_true (by kernel_rfl)) h1 bel hlt1) (trodAll_cons_mk (Below.trod laidOut (by kernel_rfl) (of_decide_eq_true (by kernel_rfl)) h2 bel hlt2) trodAll_mk0))), rfl, bel.frame _, fun h => by cases h⟩
theorem over : Rows.fnExactTakeOutRow.holds Try.pinned (OpenSpec.ofChange Rows.fnExactTakeOutSpec) :=
  OpenClaim.holds_of_wide 7 Try.f7 rfl rfl rfl rfl rfl rfl rfl ⟨rfl, rfl, rfl, rfl, rfl⟩ rfl rfl rfl rfl rfl (by kernel_rfl) Try.func7 (by kernel_rfl)
    (of_decide_eq_true (by kernel_rfl)) (by unfold Func.isWrapper; first | (rw [if_pos (by decide +kernel)]; kernel_rfl) | (rw [if_neg (by decide +kernel)]; exact ⟨rfl, rfl⟩))
    (fun os started H enc _ => lifted os started H enc)
theorem proved : Rows.FnExactTakeOutSaid := over
end Go.Proofs.Ytnhpgahapjjjbaa.fnExactTakeOut
namespace Go.Proofs.Ytnhpgahapjjjbaa
/-- The row, under a short name, for the claim. -/
theorem fnExactTakeOut_holds : Rows.FnExactTakeOutSaid := fnExactTakeOut.proved
end Go.Proofs.Ytnhpgahapjjjbaa
