/- Texts of the claim, joined (20 of 19): LCr1. -/
import Derived.Test.YtbngpcghognojaaGreatDoorBC19
namespace Go.Proofs.YtbngpcghognojaaGreatDoor
open Go Go.RowKit
set_option linter.unusedVariables false
set_option linter.unusedSimpArgs false
set_option maxRecDepth 100000
set_option maxHeartbeats 400000000
attribute [local go_sem] Oper.qB Oper.qK
attribute [local go_sem high] eqB eqC
theorem is_load1 {P : Program} {ops : Array Oper} {Q : Exit → Act → World → Prop} {rest : List Oper} {o : Oper} {a : Act} {w : World} (ty : TypeId) (x : Operand) (ho : o.op = .load ty x) (h : wpList P ops Q (o :: rest) a w) : wpList P ops Q (o :: rest) a w := h
theorem FnCrates_run1 (w : World) (ht : Tab w) (h2 : ErrV w (Tryz.lx117_ren.g 15)) (h3 : ErrV w (Tryz.lx117_ren.g 16)) (hm : ∃ m, w.cell? ⟨Tryz.lx64_ren.g 1, 0, none⟩ = some (.int .i64 m)) (A0 : Option Addr) (c0 : Nat) (l0 : List Int) (hr0 : RdA w A0 (u8v l0)) (hb0 : ∀ x ∈ l0, 0 ≤ x ∧ x ≤ 255) (A1 : Option Addr) (c1 : Nat) (l1 : List Int) (hr1 : RdA w A1 (u8v l1)) (hb1 : ∀ x ∈ l1, 0 ≤ x ∧ x ≤ 255) (hL0 : l0.length ≤ 4096) (hL1 : l1.length ≤ 4096) (he0 : ∀ q : Nat, pickF l1 12 (0, 0) = (q : Int) → (rB (drawnF l0 (0, 0)).toList q).em = true) :
    Calls Tryz.prog 3 #[.slice A0 l0.length c0, .slice A1 l1.length c1] w fun e w' => e = .returned (.bool true) ∧ Below w.heap.size w w' := by
  have KF0 := Lib.hid (f6big_no A0 c0 _ w hL0)
  have KF1 := Lib.hid (f6big_no A1 c1 _ w hL1)
  obtain ⟨m, hm⟩ := hm
  have hm2 := fun W (hW : Below w.heap.size w W) => (hW.cell (World.block_lt_of_cell? _ _ hm)).trans hm
  have hc := drawnF_ok l0 (0, 0)
  have hb := oneF_ok l1 (0, 0)
  have hpr := pickF_range l1 12 (0, 0) (by decide)
  have KC := Lib.hid (P6Crate_any A0 c0 l0 w hr0 hb0 (by omega))
  have KB := Lib.hid (fun W (hW : Below w.heap.size w W) => P6Bottle_any A1 c1 l1 W (hr1.below hW) hb1 (by omega))
  have KP := Lib.hid (fun W (hW : Below w.heap.size w W) => P6Pick_any A1 c1 l1 12 W (hr1.below hW) hb1 (by omega) (by decide) (by decide))
  obtain ⟨p, hp⟩ := Int.eq_ofNat_of_zero_le hpr.1
  have he1 := he0 p hp
  clear he0
  rw [hp] at KP hpr
  have hp12 : p < 12 := by have := hpr.2; omega
  clear hp hpr hr0 hr1 hb0 hb1 hL0 hL1
  generalize drawnF l0 (0, 0) = c at *
  generalize oneF l1 (0, 0) = b at *
  have hcl : (crT c).length ≤ 1048576 := Nat.le_trans (crK_len hc 12 (Nat.le_refl _)) (by decide)
  have hbl : (botT b).length ≤ 1048576 := Nat.le_trans (botT_len hb) (by decide)
  have KCT := Lib.hid (fun W (hW : Below w.heap.size w W) => CrateText_ok hc W (ht.below hW))
  have KRC := Lib.hid (fun W (hW : Below w.heap.size w W) => ReadCrate_ok hc W hcl m (ht.below hW) (h2.below hW) (h3.below hW) (hm2 W hW))
  have KBT := Lib.hid (fun W (hW : Below w.heap.size w W) => BottleText_ok hb W (ht.below hW))
  have KRB := Lib.hid (fun W (hW : Below w.heap.size w W) => ReadBottle_ok hb W hbl m (ht.below hW) (h2.below hW) (h3.below hW) (hm2 W hW))
  have KT1 := Lib.hid (fun W => TurnCrate_ok hc W)
  have KT2 := Lib.hid (fun W => sTurnCrate_ok hc W)
  have KT3 := Lib.hid (fun W => TurnBack_ok hc W)
  have KL1 := Lib.hid (fun W => LevelCrate_ok hc W)
  have KL2 := Lib.hid (fun W => sLevelCrate_ok hc W)
  have KB1 := Lib.hid (fun W => BottlesIn_ok hc W)
  have KB2 := Lib.hid (fun W => BottlesLev_ok hc W)
  have KB3 := Lib.hid (fun W => sBottlesIn_ok hc W)
  have KV1 := Lib.hid (fun W => ValidCrate_ok hc W)
  have KV2 := Lib.hid (fun W => ValidBottle_ok hb W)
  have KI1 := Lib.hid (fun W => TipOf_ok hc W)
  have KI2 := Lib.hid (fun W => TipLev_ok hc W)
  have KI3 := Lib.hid (fun W => TipRev_ok hc W)
  have hti := levC_tip (c := c)
  have hbe := (pl_places (fun b => !b.em) c.toList).bound
  have hbl2 := (pl_places (fun b => !b.em) (levC c).toList).bound
  have KFr := Lib.hid (fun W => FreePlaces_ok hc W)
  have hfl := free_len c
  have hfh := free_has c hp12
  have KS1 := Lib.hid (fun W => SortCrate_ok hc W)
  have KS2 := Lib.hid (fun W => sSortCrate_ok hc W)
  have KPu := Lib.hid (fun W => IsPure_ok hc W)
  have hall := allB_le c
  have hsh := @alike_short (allB c)
  have hen := @alike_ends (allB c)
  have hso := fun i (hi : i + 1 < (allB c).length) => sort_step hi
  have hpk := fun i (hi : i < (allB c).length) => pack_at (l := sortB (allB c)) (by rw [sortB_length]; exact hall) (by rw [sortB_length]; exact hi)
  have hAd := addR_is hc hb
  have KA1 := Lib.hid (fun W => AddBottle_any c b W)
  have KA2 := Lib.hid (fun W => sAddBottle_any c b W)
  have KPl := Lib.hid (fun W => PlaceOf_any (addR c b).1 b W)
  have hfi := fun (hc2 : (addR c b).1.ok = true) (q : Nat) (hq : q < 12) h => placeR_found hc2 hb hq h
  have KPy := fun he W => PutBottle_yes hc hb W hp12 he
  have KPn := fun he W => PutBottle_no hc hb W hp12 he
  have KTk := fun he W => TakeBottle_ok hc hb W hp12 he
  replace hti := Lib.hid hti
  replace hbe := Lib.hid hbe
  replace hbl2 := Lib.hid hbl2
  replace hfl := Lib.hid hfl
  replace hfh := Lib.hid hfh
  replace hsh := Lib.hid hsh
  replace hen := Lib.hid hen
  replace hso := Lib.hid hso
  replace hpk := Lib.hid hpk
  replace hAd := Lib.hid hAd
  replace hfi := Lib.hid hfi
  replace KPy := Lib.hid KPy
  replace KPn := Lib.hid KPn
  replace KTk := Lib.hid KTk
  replace hc := Lib.hid hc
  replace hb := Lib.hid hb
  clear hcl hbl hm2 hm h2 h3 ht
  generalize crT c = tc at *
  generalize botT b = tb at *
  generalize revC c = cr at *
  generalize levC c = cl at *
  go_enter Tryz.func3, Tryz.ntmps3
  have H0 := Below.refl w.heap.size w
  have H := Below.refl w.heap.size w
  go_upto_region 3 with (first | (go_at_call 5; (with_reducible refine KF0.out.mono ?_); rintro e w1 ⟨rfl, rfl⟩) | (go_at_call 5; (with_reducible refine KF1.out.mono ?_); rintro e w1 ⟨rfl, rfl⟩))
  clear KF0 KF1
  go_upto_region 4 with (first | (go_at_call 6; (with_reducible refine KC.out.mono ?_); rintro e w3 ⟨rfl, hb2⟩; replace H := bstep H hb2; clear hb2) | ((with_reducible refine wp_store_rowOf rfl rfl _ _ _ rfl _ rfl (cc c).toArray rfl (cc zC).toArray ?hr (cc_size2 _ _) (infoC _) (cc_one _) ?_); (case hr => rw [rowOf_alloc, if_pos rfl]; rfl)))
  generalize hW5 : World.setRow _ _ _ = W5
  obtain ⟨HB, r5, -⟩ := laid_row H hW5
  clear hW5
  replace H0 := bstep H0 HB
  replace H := below_self HB
  clear HB
  generalize w3.heap.size = g5 at *
  go_upto_region 5 with (first | (go_at_call 7; (with_reducible refine (KB.out _ (bstep H0 H)).mono ?_); rintro e w4 ⟨rfl, hb2⟩; replace H := bstep H hb2; clear hb2) | ((with_reducible refine wp_store_rowOf rfl rfl _ _ _ rfl _ rfl #[.int .u8 b.k, .int .i16 b.y] rfl #[.int .u8 0, .int .i16 0] ?hr rfl (infoB _ _) (bv_one _ _) ?_); (case hr => rw [rowOf_alloc, if_pos rfl])))
  generalize hW6 : World.setRow _ _ _ = W6
  obtain ⟨HB, r6, -⟩ := laid_row H hW6
  clear hW6
  replace r5 := row_kept r5 HB
  replace H0 := bstep H0 HB
  replace H := below_self HB
  clear HB
  generalize w4.heap.size = g6 at *
  go_upto_region 6 with (first | ((refine is_load1 28 (Operand.tmp 5) rfl ?_); (refine wp_load_rowBg H ?_ 28 (Operand.tmp 5) rfl g5 rfl (cc c).toArray r5 _ Tryz.underlying28 rfl (infoC c) ?_); rfl) | (go_at_call 9; (with_reducible refine (KCT.out _ (bstep H0 H)).mono ?_); rintro e w5 ⟨rfl, hb2⟩; replace H := bstep H hb2; clear hb2) | (go_at_call 8; (with_reducible refine (KRC.out _ (bstep H0 H)).mono ?_); rintro e w6 ⟨rfl, hb2⟩; replace H := bstep H hb2; clear hb2) | ((with_reducible refine wp_store_rowOf rfl rfl _ _ _ rfl _ rfl (cc c).toArray rfl (cc zC).toArray ?hr (cc_size2 _ _) (infoC _) (cc_one _) ?_); (case hr => rw [rowOf_alloc, if_pos rfl]; rfl)))
  generalize hW7 : World.setRow _ _ _ = W7
  obtain ⟨HB, r7, -⟩ := laid_row H hW7
  clear hW7
  replace r5 := row_kept r5 HB
  replace r6 := row_kept r6 HB
  replace H0 := bstep H0 HB
  replace H := below_self HB
  clear HB
  generalize w6.heap.size = g7 at *
  go_upto_region 7 with (first | ((refine is_load1 26 (Operand.tmp 6) rfl ?_); (refine wp_load_rowBg H ?_ 26 (Operand.tmp 6) rfl g6 rfl #[.int .u8 b.k, .int .i16 b.y] r6 _ Tryz.underlying26 rfl (infoB _ _) ?_); rfl) | (go_at_call 11; (with_reducible refine (KBT.out _ (bstep H0 H)).mono ?_); rintro e w7 ⟨rfl, hb2⟩; replace H := bstep H hb2; clear hb2) | (go_at_call 10; (with_reducible refine (KRB.out _ (bstep H0 H)).mono ?_); rintro e w8 ⟨rfl, hb2⟩; replace H := bstep H hb2; clear hb2) | ((with_reducible refine wp_store_rowOf rfl rfl _ _ _ rfl _ rfl #[.int .u8 b.k, .int .i16 b.y] rfl #[.int .u8 0, .int .i16 0] ?hr rfl (infoB _ _) (bv_one _ _) ?_); (case hr => rw [rowOf_alloc, if_pos rfl])))
  generalize hW9 : World.setRow _ _ _ = W9
  obtain ⟨HB, r9, -⟩ := laid_row H hW9
  clear hW9
  replace r5 := row_kept r5 HB
  replace r6 := row_kept r6 HB
  replace r7 := row_kept r7 HB
  replace H0 := bstep H0 HB
  replace H := below_self HB
  clear HB
  generalize w8.heap.size = g9 at *
  clear KC KB KCT KRC KBT KRB
  go_upto_region 8 with (first | ((refine is_load1 28 (Operand.tmp 5) rfl ?_); (refine wp_load_rowBg H ?_ 28 (Operand.tmp 5) rfl g5 rfl (cc c).toArray r5 _ Tryz.underlying28 rfl (infoC c) ?_); rfl) | (go_at_call 12; (with_reducible refine (KT1.out _).mono ?_); rintro e w9 ⟨rfl, hb2⟩; replace H := bstep H hb2; clear hb2) | ((with_reducible refine wp_store_rowOf rfl rfl _ _ _ rfl _ rfl (cc cr).toArray rfl (cc zC).toArray ?hr (cc_size2 _ _) (infoC _) (cc_one _) ?_); (case hr => rw [rowOf_alloc, if_pos rfl]; rfl)))
  generalize hW11 : World.setRow _ _ _ = W11
  obtain ⟨HB, r11, -⟩ := laid_row H hW11
  clear hW11
  replace r5 := row_kept r5 HB
  replace r6 := row_kept r6 HB
  replace r7 := row_kept r7 HB
  replace r9 := row_kept r9 HB
  replace H0 := bstep H0 HB
  replace H := below_self HB
  clear HB
  generalize w9.heap.size = g11 at *
  go_upto_region 9 with (first | ((refine is_load1 28 (Operand.tmp 5) rfl ?_); (refine wp_load_rowBg H ?_ 28 (Operand.tmp 5) rfl g5 rfl (cc c).toArray r5 _ Tryz.underlying28 rfl (infoC c) ?_); rfl) | (go_at_call 13; (with_reducible refine (KT2.out _).mono ?_); rintro e w10 ⟨rfl, hb2⟩; replace H := bstep H hb2; clear hb2) | ((with_reducible refine wp_store_rowOf rfl rfl _ _ _ rfl _ rfl (cc cr).toArray rfl (cc zC).toArray ?hr (cc_size2 _ _) (infoC _) (cc_one _) ?_); (case hr => rw [rowOf_alloc, if_pos rfl]; rfl)))
  generalize hW13 : World.setRow _ _ _ = W13
  obtain ⟨HB, r13, -⟩ := laid_row H hW13
  clear hW13
  replace r5 := row_kept r5 HB
  replace r6 := row_kept r6 HB
  replace r7 := row_kept r7 HB
  replace r9 := row_kept r9 HB
  replace r11 := row_kept r11 HB
  replace H0 := bstep H0 HB
  replace H := below_self HB
  clear HB
  generalize w10.heap.size = g13 at *
  go_upto_region 10 with (first | ((refine is_load1 28 (Operand.tmp 13) rfl ?_); (refine wp_load_rowBg H ?_ 28 (Operand.tmp 13) rfl g13 rfl (cc cr).toArray r13 _ Tryz.underlying28 rfl (infoC cr) ?_); rfl) | (go_at_call 12; (with_reducible refine (KT3.out _).mono ?_); rintro e w11 ⟨rfl, hb2⟩; replace H := bstep H hb2; clear hb2) | ((with_reducible refine wp_store_rowOf rfl rfl _ _ _ rfl _ rfl (cc c).toArray rfl (cc zC).toArray ?hr (cc_size2 _ _) (infoC _) (cc_one _) ?_); (case hr => rw [rowOf_alloc, if_pos rfl]; rfl)))
  generalize hW15 : World.setRow _ _ _ = W15
  obtain ⟨HB, r15, -⟩ := laid_row H hW15
  clear hW15
  replace r5 := row_kept r5 HB
  replace r6 := row_kept r6 HB
  replace r7 := row_kept r7 HB
  replace r9 := row_kept r9 HB
  replace r11 := row_kept r11 HB
  replace r13 := row_kept r13 HB
  replace H0 := bstep H0 HB
  replace H := below_self HB
  clear HB
  generalize w11.heap.size = g15 at *
  go_upto_region 11 with (first | ((refine is_load1 28 (Operand.tmp 5) rfl ?_); (refine wp_load_rowBg H ?_ 28 (Operand.tmp 5) rfl g5 rfl (cc c).toArray r5 _ Tryz.underlying28 rfl (infoC c) ?_); rfl) | (go_at_call 14; (with_reducible refine (KL1.out _).mono ?_); rintro e w12 ⟨rfl, hb2⟩; replace H := bstep H hb2; clear hb2) | ((with_reducible refine wp_store_rowOf rfl rfl _ _ _ rfl _ rfl (cc cl).toArray rfl (cc zC).toArray ?hr (cc_size2 _ _) (infoC _) (cc_one _) ?_); (case hr => rw [rowOf_alloc, if_pos rfl]; rfl)))
  generalize hW17 : World.setRow _ _ _ = W17
  obtain ⟨HB, r17, -⟩ := laid_row H hW17
  clear hW17
  replace r5 := row_kept r5 HB
  replace r6 := row_kept r6 HB
  replace r7 := row_kept r7 HB
  replace r9 := row_kept r9 HB
  replace r11 := row_kept r11 HB
  replace r13 := row_kept r13 HB
  replace r15 := row_kept r15 HB
  replace H0 := bstep H0 HB
  replace H := below_self HB
  clear HB
  generalize w12.heap.size = g17 at *
  go_upto_region 12 with (first | ((refine is_load1 28 (Operand.tmp 5) rfl ?_); (refine wp_load_rowBg H ?_ 28 (Operand.tmp 5) rfl g5 rfl (cc c).toArray r5 _ Tryz.underlying28 rfl (infoC c) ?_); rfl) | (go_at_call 15; (with_reducible refine (KL2.out _).mono ?_); rintro e w13 ⟨rfl, hb2⟩; replace H := bstep H hb2; clear hb2) | ((with_reducible refine wp_store_rowOf rfl rfl _ _ _ rfl _ rfl (cc cl).toArray rfl (cc zC).toArray ?hr (cc_size2 _ _) (infoC _) (cc_one _) ?_); (case hr => rw [rowOf_alloc, if_pos rfl]; rfl)))
  generalize hW19 : World.setRow _ _ _ = W19
  obtain ⟨HB, r19, -⟩ := laid_row H hW19
  clear hW19
  replace r5 := row_kept r5 HB
  replace r6 := row_kept r6 HB
  replace r7 := row_kept r7 HB
  replace r9 := row_kept r9 HB
  replace r11 := row_kept r11 HB
  replace r13 := row_kept r13 HB
  replace r15 := row_kept r15 HB
  replace r17 := row_kept r17 HB
  replace H0 := bstep H0 HB
  replace H := below_self HB
  clear HB
  generalize w13.heap.size = g19 at *
  clear KT1 KT2 KT3 KL1 KL2
  go_upto_region 13 with (first | ((refine is_load1 28 (Operand.tmp 5) rfl ?_); (refine wp_load_rowBg H ?_ 28 (Operand.tmp 5) rfl g5 rfl (cc c).toArray r5 _ Tryz.underlying28 rfl (infoC c) ?_); rfl) | (go_at_call 16; (with_reducible refine (KB1.out _).mono ?_); rintro e w14 ⟨A21, q21, rfl, R21, hb2⟩; replace R21 := Lib.hid R21; replace H := bstep H hb2; clear hb2))
  go_upto_region 14 with (first | ((refine is_load1 28 (Operand.tmp 19) rfl ?_); (refine wp_load_rowBg H ?_ 28 (Operand.tmp 19) rfl g19 rfl (cc cl).toArray r19 _ Tryz.underlying28 rfl (infoC cl) ?_); rfl) | (go_at_call 16; (with_reducible refine (KB2.out _).mono ?_); rintro e w15 ⟨A23, q23, rfl, R23, hb2⟩; replace R23 := Lib.hid R23; replace R21 := Lib.hid (R21.out.below hb2); replace H := bstep H hb2; clear hb2))
  have HSL := Lib.hid (fun A q A' q' W (h1 : RdA W A (fl bc (allB c))) (h2 : RdA W A' (fl bc (allB c))) => SameLabels_refl A A' q q' (allB c) W h1 h2 (by omega))
  have hu := Tryz.underlying26
  go_upto_region 17 with (first | ((refine is_load1 28 (Operand.tmp 5) rfl ?_); (refine wp_load_rowBg H ?_ 28 (Operand.tmp 5) rfl g5 rfl (cc c).toArray r5 _ Tryz.underlying28 rfl (infoC c) ?_); rfl) | ((refine is_load1 28 (Operand.tmp 7) rfl ?_); (refine wp_load_rowBg H ?_ 28 (Operand.tmp 7) rfl g7 rfl (cc c).toArray r7 _ Tryz.underlying28 rfl (infoC c) ?_); rfl) | ((refine is_load1 28 (Operand.tmp 11) rfl ?_); (refine wp_load_rowBg H ?_ 28 (Operand.tmp 11) rfl g11 rfl (cc cr).toArray r11 _ Tryz.underlying28 rfl (infoC cr) ?_); rfl) | ((refine is_load1 28 (Operand.tmp 13) rfl ?_); (refine wp_load_rowBg H ?_ 28 (Operand.tmp 13) rfl g13 rfl (cc cr).toArray r13 _ Tryz.underlying28 rfl (infoC cr) ?_); rfl) | ((refine is_load1 28 (Operand.tmp 15) rfl ?_); (refine wp_load_rowBg H ?_ 28 (Operand.tmp 15) rfl g15 rfl (cc c).toArray r15 _ Tryz.underlying28 rfl (infoC c) ?_); rfl) | ((refine is_load1 28 (Operand.tmp 17) rfl ?_); (refine wp_load_rowBg H ?_ 28 (Operand.tmp 17) rfl g17 rfl (cc cl).toArray r17 _ Tryz.underlying28 rfl (infoC cl) ?_); rfl) | ((refine is_load1 28 (Operand.tmp 19) rfl ?_); (refine wp_load_rowBg H ?_ 28 (Operand.tmp 19) rfl g19 rfl (cc cl).toArray r19 _ Tryz.underlying28 rfl (infoC cl) ?_); rfl) | ((refine is_load1 26 (Operand.tmp 6) rfl ?_); (refine wp_load_rowBg H ?_ 26 (Operand.tmp 6) rfl g6 rfl #[.int .u8 b.k, .int .i16 b.y] r6 _ Tryz.underlying26 rfl (infoB _ _) ?_); rfl) | ((refine is_load1 26 (Operand.tmp 9) rfl ?_); (refine wp_load_rowBg H ?_ 26 (Operand.tmp 9) rfl g9 rfl #[.int .u8 b.k, .int .i16 b.y] r9 _ Tryz.underlying26 rfl (infoB _ _) ?_); rfl) | (go_at_call 17; (with_reducible refine (KB3.out _).mono ?_); rintro e w16 ⟨A25, q25, rfl, R25, hb2⟩; replace R25 := Lib.hid R25; replace R21 := Lib.hid (R21.out.below hb2); replace R23 := Lib.hid (R23.out.below hb2); replace H := bstep H hb2; clear hb2) | (go_at_call 18; (with_reducible refine (KV1.out _).mono ?_); rintro e w17 ⟨rfl, hb2⟩; replace R21 := Lib.hid (R21.out.below hb2); replace R23 := Lib.hid (R23.out.below hb2); replace R25 := Lib.hid (R25.out.below hb2); replace H := bstep H hb2; clear hb2) | (go_at_call 19; (with_reducible refine (KV2.out _).mono ?_); rintro e w18 ⟨rfl, hb2⟩; replace R21 := Lib.hid (R21.out.below hb2); replace R23 := Lib.hid (R23.out.below hb2); replace R25 := Lib.hid (R25.out.below hb2); replace H := bstep H hb2; clear hb2) | (go_at_call 20; (with_reducible refine (HSL.out A21 q21 A25 q25 _ R21.out R25.out).mono ?_); rintro e w19 ⟨rfl, hb2⟩; replace R21 := Lib.hid (R21.out.below hb2); replace R23 := Lib.hid (R23.out.below hb2); replace R25 := Lib.hid (R25.out.below hb2); replace H := bstep H hb2; clear hb2) | (go_at_call 20; (with_reducible refine (HSL.out A23 q23 A25 q25 _ R23.out R25.out).mono ?_); rintro e w20 ⟨rfl, hb2⟩; replace R21 := Lib.hid (R21.out.below hb2); replace R23 := Lib.hid (R23.out.below hb2); replace R25 := Lib.hid (R25.out.below hb2); replace H := bstep H hb2; clear hb2))
  clear HSL KB1 KB2 KB3 KV1 KV2 R21 R23
  go_upto_region 18 with (first | ((refine is_load1 28 (Operand.tmp 5) rfl ?_); (refine wp_load_rowBg H ?_ 28 (Operand.tmp 5) rfl g5 rfl (cc c).toArray r5 _ Tryz.underlying28 rfl (infoC c) ?_); rfl) | (go_at_call 21; (with_reducible refine (KI1.out _).mono ?_); rintro e w21 ⟨rfl, hb2⟩; replace R25 := Lib.hid (R25.out.below hb2); replace H := bstep H hb2; clear hb2))
  go_upto_region 19 with (first | ((refine is_load1 28 (Operand.tmp 19) rfl ?_); (refine wp_load_rowBg H ?_ 28 (Operand.tmp 19) rfl g19 rfl (cc cl).toArray r19 _ Tryz.underlying28 rfl (infoC cl) ?_); rfl) | (go_at_call 21; (with_reducible refine (KI2.out _).mono ?_); rintro e w22 ⟨rfl, hb2⟩; replace R25 := Lib.hid (R25.out.below hb2); replace H := bstep H hb2; clear hb2))
  go_upto_region 20 with (first | ((refine is_load1 28 (Operand.tmp 13) rfl ?_); (refine wp_load_rowBg H ?_ 28 (Operand.tmp 13) rfl g13 rfl (cc cr).toArray r13 _ Tryz.underlying28 rfl (infoC cr) ?_); rfl) | (go_at_call 21; (with_reducible refine (KI3.out _).mono ?_); rintro e w23 ⟨rfl, hb2⟩; replace R25 := Lib.hid (R25.out.below hb2); replace H := bstep H hb2; clear hb2))
  clear KI1 KI2 KI3
  have hti2 := hti.out
  unfold tipN at hti2
  obtain ⟨t1, t2, t3, t4⟩ := hbe.out
  obtain ⟨t5, t6, t7, t8⟩ := hbl2.out
  clear hti hbe hbl2
  change -36 ≤ eastI (usedI c) at t1
  change eastI (usedI c) ≤ 36 at t2
  change -36 ≤ southI (usedI c) at t3
  change southI (usedI c) ≤ 36 at t4
  change -36 ≤ eastI (usedI cl) at t5
  change eastI (usedI cl) ≤ 36 at t6
  change -36 ≤ southI (usedI cl) at t7
  change southI (usedI cl) ≤ 36 at t8
  generalize eastI (usedI c) = e1 at *
  generalize southI (usedI c) = s1 at *
  generalize eastI (usedI cl) = e2 at *
  generalize southI (usedI cl) = s2 at *
  have hti3 : ¬ max e1 (-e1) + max s1 (-s1) < max e2 (-e2) + max s2 (-s2) := by omega
  have n1 : IntKind.i64.wrap (-e1) = -e1 := by rw [IntKind.wrap_i64]; omega
  have n2 : IntKind.i64.wrap (-s1) = -s1 := by rw [IntKind.wrap_i64]; omega
  have n3 : IntKind.i64.wrap (-e2) = -e2 := by rw [IntKind.wrap_i64]; omega
  have n4 : IntKind.i64.wrap (-s2) = -s2 := by rw [IntKind.wrap_i64]; omega
  replace hti2 := Lib.hid hti2
  go_upto_region 22 with (first | fail)
  clear hti2 hti3 n1 n2 n3 n4 t1 t2 t3 t4 t5 t6 t7 t8
  go_upto_region 23 with (first | (go_at_call 22; (with_reducible refine (KP.out _ (bstep H0 H)).mono ?_); rintro e w24 ⟨rfl, hb2⟩; replace R25 := Lib.hid (R25.out.below hb2); replace H := bstep H hb2; clear hb2))
  go_upto_region 24 with (first | ((refine is_load1 28 (Operand.tmp 5) rfl ?_); (refine wp_load_rowBg H ?_ 28 (Operand.tmp 5) rfl g5 rfl (cc c).toArray r5 _ Tryz.underlying28 rfl (infoC c) ?_); rfl) | (go_at_call 23; (with_reducible refine (KFr.out _).mono ?_); rintro e w25 ⟨A37, q37, rfl, R37, hb2⟩; replace R37 := Lib.hid R37; replace R25 := Lib.hid (R25.out.below hb2); replace H := bstep H hb2; clear hb2))
  clear KP KFr
  have hfl1 := hfl.out
  have hfr : (freeI c).length ≤ 12 := by omega
  have HHN := Lib.hid (fun W (h : RdA W A37 (vi (freeI c))) => below_of_same (HasNumber_any A37 q37 (freeI c).length (freeI c) (p : Int) W h rfl (by omega)))
  rw [hfh.out] at HHN
  have hpl : p < c.toList.length := by rw [cr_len]; exact hp12
  have hpi : (p : Int) < 12 := by omega
  replace hfl1 := Lib.hid hfl1
  replace hpl := Lib.hid hpl
  have he := he1
  clear he1
  · as_aux_lemma =>
    rw [he] at HHN
    have hxz : ((rB c.toList p).k == 0 && (rB c.toList p).y == 0) = true := he
    have KP1 := Lib.hid (KPy.out he)
    have KP2 := Lib.hid (KTk.out he)
    generalize setC c p b = cpu at *
    have hne : 0 < (freeI c).length := List.length_pos_of_mem (by have := hfh.out; rw [he, List.contains_iff_mem] at this; exact this)
    clear KPy KPn KTk he hfh
    go_upto_region 25 with (first | ((refine is_load1 28 (Operand.tmp 5) rfl ?_); (refine wp_load_rowBg H ?_ 28 (Operand.tmp 5) rfl g5 rfl (cc c).toArray r5 _ Tryz.underlying28 rfl (infoC c) ?_); rfl) | ((refine is_load1 26 (Operand.tmp 6) rfl ?_); (refine wp_load_rowBg H ?_ 26 (Operand.tmp 6) rfl g6 rfl #[.int .u8 b.k, .int .i16 b.y] r6 _ Tryz.underlying26 rfl (infoB _ _) ?_); rfl) | (go_at_call 24; (with_reducible refine (KP1.out _).mono ?_); rintro e w26 ⟨rfl, hb2⟩; replace R25 := Lib.hid (R25.out.below hb2); replace R37 := Lib.hid (R37.out.below hb2); replace H := bstep H hb2; clear hb2) | ((with_reducible refine wp_store_rowOf rfl rfl _ _ _ rfl _ rfl (cc cpu).toArray rfl (cc zC).toArray ?hr (cc_size2 _ _) (infoC _) (cc_one _) ?_); (case hr => rw [rowOf_alloc, if_pos rfl]; rfl)))
    generalize hW39 : World.setRow _ _ _ = W39
    have HB3 : Below w26.heap.size w26 W39 := by rw [← hW39]; exact bsetRow ((Below.refl _ _).alloc (Nat.le_refl _) _) (Nat.le_refl _) _
    obtain ⟨HB, r39, -⟩ := laid_row H hW39
    clear hW39
    replace r5 := row_kept r5 HB
    replace r6 := row_kept r6 HB
    replace r7 := row_kept r7 HB
    replace r9 := row_kept r9 HB
    replace r11 := row_kept r11 HB
    replace r13 := row_kept r13 HB
    replace r15 := row_kept r15 HB
    replace r17 := row_kept r17 HB
    replace r19 := row_kept r19 HB
    replace R25 := Lib.hid (R25.out.below HB3)
    replace R37 := Lib.hid (R37.out.below HB3)
    replace H0 := bstep H0 HB
    replace H := below_self HB
    clear HB HB3
    generalize w26.heap.size = g39 at *
    have x0 := row0 r5 hpl.out
    have x1 := row1 r5 hpl.out
    generalize rB c.toList p = xb at *
    go_upto_region 26 with (first | fail)
    clear x0 x1 hxz
    have hsum : ((freeI c).length : Int) + ((allB c).length : Int) = 12 := by have := hfl.out; omega
    go_upto_region 28 with (first | (go_at_call 25; (with_reducible refine (HHN.out _ R37.out).mono ?_); rintro e w27 ⟨rfl, hb2⟩; replace R25 := Lib.hid (R25.out.below hb2); replace R37 := Lib.hid (R37.out.below hb2); replace H := bstep H hb2; clear hb2))
    clear hsum HHN
    go_upto_region 30 with (first | ((refine is_load1 28 (Operand.tmp 39) rfl ?_); (refine wp_load_rowBg H ?_ 28 (Operand.tmp 39) rfl g39 rfl (cc cpu).toArray r39 _ Tryz.underlying28 rfl (infoC cpu) ?_); rfl) | (go_at_call 26; (with_reducible refine (KP2.out _).mono ?_); rintro e w28 ⟨rfl, hb2⟩; replace R25 := Lib.hid (R25.out.below hb2); replace R37 := Lib.hid (R37.out.below hb2); replace H := bstep H hb2; clear hb2) | ((with_reducible refine wp_store_rowOf rfl rfl _ _ _ rfl _ rfl (cc c).toArray rfl (cc zC).toArray ?hr (cc_size2 _ _) (infoC _) (cc_one _) ?_); (case hr => rw [rowOf_alloc, if_neg (by simp), rowOf_alloc, if_pos rfl]; rfl)) | ((with_reducible refine wp_store_rowOf rfl rfl _ _ _ rfl _ rfl #[.int .u8 b.k, .int .i16 b.y] rfl #[.int .u8 0, .int .i16 0] ?hr rfl (infoB _ _) (bv_one _ _) ?_); (case hr => rw [rowOf_setRow, if_neg (by simp), rowOf_alloc, if_pos (by simp)])))
    generalize hW42 : World.setRow (World.setRow _ _ _) _ _ = W42
    have HB3 : Below w28.heap.size w28 W42 := by rw [← hW42]; exact bsetRow (bsetRow (((Below.refl _ _).alloc (Nat.le_refl _) _).alloc (by simp) _) (Nat.le_refl _) _) (by simp) _
    obtain ⟨HB, r42, r43⟩ := laid_two H hW42
    clear hW42
    replace r5 := row_kept r5 HB
    replace r6 := row_kept r6 HB
    replace r7 := row_kept r7 HB
    replace r9 := row_kept r9 HB
    replace r11 := row_kept r11 HB
    replace r13 := row_kept r13 HB
    replace r15 := row_kept r15 HB
    replace r17 := row_kept r17 HB
    replace r19 := row_kept r19 HB
    replace r39 := row_kept r39 HB
    replace R25 := Lib.hid (R25.out.below HB3)
    replace R37 := Lib.hid (R37.out.below HB3)
    replace H0 := bstep H0 HB
    replace H := below_self HB
    clear HB HB3
    generalize w28.heap.size + 1 = g43 at *
    generalize w28.heap.size = g42 at *
    go_upto_region 32 with (first | ((refine is_load1 28 (Operand.tmp 42) rfl ?_); (refine wp_load_rowBg H ?_ 28 (Operand.tmp 42) rfl g42 rfl (cc c).toArray r42 _ Tryz.underlying28 rfl (infoC c) ?_); rfl) | ((refine is_load1 28 (Operand.tmp 5) rfl ?_); (refine wp_load_rowBg H ?_ 28 (Operand.tmp 5) rfl g5 rfl (cc c).toArray r5 _ Tryz.underlying28 rfl (infoC c) ?_); rfl) | ((refine is_load1 26 (Operand.tmp 43) rfl ?_); (refine wp_load_rowBg H ?_ 26 (Operand.tmp 43) rfl g43 rfl #[.int .u8 b.k, .int .i16 b.y] r43 _ Tryz.underlying26 rfl (infoB _ _) ?_); rfl) | ((refine is_load1 26 (Operand.tmp 6) rfl ?_); (refine wp_load_rowBg H ?_ 26 (Operand.tmp 6) rfl g6 rfl #[.int .u8 b.k, .int .i16 b.y] r6 _ Tryz.underlying26 rfl (infoB _ _) ?_); rfl))
    clear KP1 KP2
    rcases hAd.out with ⟨a1, a2, a3, q, hq, a4, a5⟩ | ⟨a1, a2⟩
    · as_aux_lemma =>
      obtain ⟨f1, f2, f3⟩ := hfi.out a3 q hq a5
      rw [a1, a4] at KA1 KA2
      rw [f1] at KPl
      generalize (addR c b).1 = ca at *
      generalize (placeR ca b).1 = fi at *
      have f4 : ¬ (q : Int) < fi := by omega
      have f5 : ¬ fi < 0 := by omega
      have f6 : (0 : Int) < ((freeI c).length : Int) := by omega
      clear a1 a3 a4 a5 f1 f2 f3
      clear hfi hAd
      go_upto_region 33 with (first | ((refine is_load1 28 (Operand.tmp 5) rfl ?_); (refine wp_load_rowBg H ?_ 28 (Operand.tmp 5) rfl g5 rfl (cc c).toArray r5 _ Tryz.underlying28 rfl (infoC c) ?_); rfl) | ((refine is_load1 26 (Operand.tmp 6) rfl ?_); (refine wp_load_rowBg H ?_ 26 (Operand.tmp 6) rfl g6 rfl #[.int .u8 b.k, .int .i16 b.y] r6 _ Tryz.underlying26 rfl (infoB _ _) ?_); rfl) | (go_at_call 27; (with_reducible refine (KA1.out _).mono ?_); rintro e w32 ⟨rfl, hb2⟩; replace R25 := Lib.hid (R25.out.below hb2); replace R37 := Lib.hid (R37.out.below hb2); replace H := bstep H hb2; clear hb2) | ((with_reducible refine wp_store_rowOf rfl rfl _ _ _ rfl _ rfl (cc ca).toArray rfl (cc zC).toArray ?hr (cc_size2 _ _) (infoC _) (cc_one _) ?_); (case hr => rw [rowOf_alloc, if_pos rfl]; rfl)))
      generalize hW45 : World.setRow _ _ _ = W45
      have HB3 : Below w32.heap.size w32 W45 := by rw [← hW45]; exact bsetRow ((Below.refl _ _).alloc (Nat.le_refl _) _) (Nat.le_refl _) _
      obtain ⟨HB, r45, -⟩ := laid_row H hW45
      clear hW45
      replace r5 := row_kept r5 HB
      replace r6 := row_kept r6 HB
      replace r7 := row_kept r7 HB
      replace r9 := row_kept r9 HB
      replace r11 := row_kept r11 HB
      replace r13 := row_kept r13 HB
      replace r15 := row_kept r15 HB
      replace r17 := row_kept r17 HB
      replace r19 := row_kept r19 HB
      replace r39 := row_kept r39 HB
      replace r42 := row_kept r42 HB
      replace r43 := row_kept r43 HB
      replace R25 := Lib.hid (R25.out.below HB3)
      replace R37 := Lib.hid (R37.out.below HB3)
      replace H0 := bstep H0 HB
      replace H := below_self HB
      clear HB HB3
      generalize w32.heap.size = g45 at *
      go_upto_region 34 with (first | ((refine is_load1 28 (Operand.tmp 5) rfl ?_); (refine wp_load_rowBg H ?_ 28 (Operand.tmp 5) rfl g5 rfl (cc c).toArray r5 _ Tryz.underlying28 rfl (infoC c) ?_); rfl) | ((refine is_load1 26 (Operand.tmp 6) rfl ?_); (refine wp_load_rowBg H ?_ 26 (Operand.tmp 6) rfl g6 rfl #[.int .u8 b.k, .int .i16 b.y] r6 _ Tryz.underlying26 rfl (infoB _ _) ?_); rfl) | (go_at_call 28; (with_reducible refine (KA2.out _).mono ?_); rintro e w33 ⟨rfl, hb2⟩; replace R25 := Lib.hid (R25.out.below hb2); replace R37 := Lib.hid (R37.out.below hb2); replace H := bstep H hb2; clear hb2) | ((with_reducible refine wp_store_rowOf rfl rfl _ _ _ rfl _ rfl (cc ca).toArray rfl (cc zC).toArray ?hr (cc_size2 _ _) (infoC _) (cc_one _) ?_); (case hr => rw [rowOf_alloc, if_pos rfl]; rfl)))
      generalize hW48 : World.setRow _ _ _ = W48
      have HB3 : Below w33.heap.size w33 W48 := by rw [← hW48]; exact bsetRow ((Below.refl _ _).alloc (Nat.le_refl _) _) (Nat.le_refl _) _
      obtain ⟨HB, r48, -⟩ := laid_row H hW48
      clear hW48
      replace r5 := row_kept r5 HB
      replace r6 := row_kept r6 HB
      replace r7 := row_kept r7 HB
      replace r9 := row_kept r9 HB
      replace r11 := row_kept r11 HB
      replace r13 := row_kept r13 HB
      replace r15 := row_kept r15 HB
      replace r17 := row_kept r17 HB
      replace r19 := row_kept r19 HB
      replace r39 := row_kept r39 HB
      replace r42 := row_kept r42 HB
      replace r43 := row_kept r43 HB
      replace r45 := row_kept r45 HB
      replace R25 := Lib.hid (R25.out.below HB3)
      replace R37 := Lib.hid (R37.out.below HB3)
      replace H0 := bstep H0 HB
      replace H := below_self HB
      clear HB HB3
      generalize w33.heap.size = g48 at *
      go_upto_region 35 with (first | ((refine is_load1 28 (Operand.tmp 48) rfl ?_); (refine wp_load_rowBg H ?_ 28 (Operand.tmp 48) rfl g48 rfl (cc ca).toArray r48 _ Tryz.underlying28 rfl (infoC ca) ?_); rfl) | ((refine is_load1 26 (Operand.tmp 6) rfl ?_); (refine wp_load_rowBg H ?_ 26 (Operand.tmp 6) rfl g6 rfl #[.int .u8 b.k, .int .i16 b.y] r6 _ Tryz.underlying26 rfl (infoB _ _) ?_); rfl) | (go_at_call 29; (with_reducible refine (KPl.out _).mono ?_); rintro e w34 ⟨rfl, hb2⟩; replace R25 := Lib.hid (R25.out.below hb2); replace R37 := Lib.hid (R37.out.below hb2); replace H := bstep H hb2; clear hb2))
      go_upto_region 37 with (first | ((refine is_load1 28 (Operand.tmp 45) rfl ?_); (refine wp_load_rowBg H ?_ 28 (Operand.tmp 45) rfl g45 rfl (cc ca).toArray r45 _ Tryz.underlying28 rfl (infoC ca) ?_); rfl) | ((refine is_load1 28 (Operand.tmp 48) rfl ?_); (refine wp_load_rowBg H ?_ 28 (Operand.tmp 48) rfl g48 rfl (cc ca).toArray r48 _ Tryz.underlying28 rfl (infoC ca) ?_); rfl))
      clear KA1 KA2 KPl f6 f4 f5
      have hsl : (sortB (allB c)).length = (allB c).length := sortB_length _
      replace hsl := Lib.hid hsl
      obtain ⟨cs, hcs⟩ : ∃ cs, cs = packC1 (sortB (allB c)) := ⟨_, rfl⟩
      rw [← hcs] at KS1 KS2 hpk
      clear hcs
      go_upto_region 38 with (first | ((refine is_load1 28 (Operand.tmp 5) rfl ?_); (refine wp_load_rowBg H ?_ 28 (Operand.tmp 5) rfl g5 rfl (cc c).toArray r5 _ Tryz.underlying28 rfl (infoC c) ?_); rfl) | (go_at_call 30; (with_reducible refine (KS1.out _).mono ?_); rintro e w37 ⟨rfl, hb2⟩; replace R25 := Lib.hid (R25.out.below hb2); replace R37 := Lib.hid (R37.out.below hb2); replace H := bstep H hb2; clear hb2) | ((with_reducible refine wp_store_rowOf rfl rfl _ _ _ rfl _ rfl (cc cs).toArray rfl (cc zC).toArray ?hr (cc_size2 _ _) (infoC _) (cc_one _) ?_); (case hr => rw [rowOf_alloc, if_pos rfl]; rfl)))
      generalize hW53 : World.setRow _ _ _ = W53
      have HB3 : Below w37.heap.size w37 W53 := by rw [← hW53]; exact bsetRow ((Below.refl _ _).alloc (Nat.le_refl _) _) (Nat.le_refl _) _
      obtain ⟨HB, r53, -⟩ := laid_row H hW53
      clear hW53
      replace r5 := row_kept r5 HB
      replace r6 := row_kept r6 HB
      replace r7 := row_kept r7 HB
      replace r9 := row_kept r9 HB
      replace r11 := row_kept r11 HB
      replace r13 := row_kept r13 HB
      replace r15 := row_kept r15 HB
      replace r17 := row_kept r17 HB
      replace r19 := row_kept r19 HB
      replace r39 := row_kept r39 HB
      replace r42 := row_kept r42 HB
      replace r43 := row_kept r43 HB
      replace r45 := row_kept r45 HB
      replace r48 := row_kept r48 HB
      replace R25 := Lib.hid (R25.out.below HB3)
      replace R37 := Lib.hid (R37.out.below HB3)
      replace H0 := bstep H0 HB
      replace H := below_self HB
      clear HB HB3
      generalize w37.heap.size = g53 at *
      go_upto_region 39 with (first | ((refine is_load1 28 (Operand.tmp 5) rfl ?_); (refine wp_load_rowBg H ?_ 28 (Operand.tmp 5) rfl g5 rfl (cc c).toArray r5 _ Tryz.underlying28 rfl (infoC c) ?_); rfl) | (go_at_call 31; (with_reducible refine (KS2.out _).mono ?_); rintro e w38 ⟨rfl, hb2⟩; replace R25 := Lib.hid (R25.out.below hb2); replace R37 := Lib.hid (R37.out.below hb2); replace H := bstep H hb2; clear hb2) | ((with_reducible refine wp_store_rowOf rfl rfl _ _ _ rfl _ rfl (cc cs).toArray rfl (cc zC).toArray ?hr (cc_size2 _ _) (infoC _) (cc_one _) ?_); (case hr => rw [rowOf_alloc, if_pos rfl]; rfl)))
      generalize hW55 : World.setRow _ _ _ = W55
      have HB3 : Below w38.heap.size w38 W55 := by rw [← hW55]; exact bsetRow ((Below.refl _ _).alloc (Nat.le_refl _) _) (Nat.le_refl _) _
      obtain ⟨HB, r55, -⟩ := laid_row H hW55
      clear hW55
      replace r5 := row_kept r5 HB
      replace r6 := row_kept r6 HB
      replace r7 := row_kept r7 HB
      replace r9 := row_kept r9 HB
      replace r11 := row_kept r11 HB
      replace r13 := row_kept r13 HB
      replace r15 := row_kept r15 HB
      replace r17 := row_kept r17 HB
      replace r19 := row_kept r19 HB
      replace r39 := row_kept r39 HB
      replace r42 := row_kept r42 HB
      replace r43 := row_kept r43 HB
      replace r45 := row_kept r45 HB
      replace r48 := row_kept r48 HB
      replace r53 := row_kept r53 HB
      replace R25 := Lib.hid (R25.out.below HB3)
      replace R37 := Lib.hid (R37.out.below HB3)
      replace H0 := bstep H0 HB
      replace H := below_self HB
      clear HB HB3
      generalize w38.heap.size = g55 at *
      clear KS1 KS2
      go_wp2_with (first | ((refine is_load1 28 (Operand.tmp 53) rfl ?_); (refine wp_load_rowBg H ?_ 28 (Operand.tmp 53) rfl g53 rfl (cc cs).toArray r53 _ Tryz.underlying28 rfl (infoC cs) ?_); rfl) | ((refine is_load1 28 (Operand.tmp 55) rfl ?_); (refine wp_load_rowBg H ?_ 28 (Operand.tmp 55) rfl g55 rfl (cc cs).toArray r55 _ Tryz.underlying28 rfl (infoC cs) ?_); rfl))
      have hcl12 : cs.toList.length = 12 := cr_len cs
      replace hcl12 := Lib.hid hcl12
      go_loopw [57] (fun i wr => ∃ k : Nat, 1 ≤ k ∧ (k = 1 ∨ k ≤ (allB c).length) ∧ i = .int .i64 (k : Int) ∧ Hid (Below W55.heap.size W55 wr)) (fun i _ => (allB c).length - (intOf i).toNat)
      case atStart => exact ⟨1, Nat.le_refl _, .inl rfl, rfl, Below.refl _ _⟩
      case round =>
        clear H R25 R37
        obtain ⟨k, hk1, hk2, rfl, HV⟩ := hrel
        by_cases hlt : k < (allB c).length
        · as_aux_lemma =>
          obtain ⟨j, hj⟩ : ∃ j, k = j + 1 := ⟨k - 1, by omega⟩
          have hv1 : IntKind.i64.wrap (j : Int) = (j : Int) := by rw [IntKind.wrap_i64]; omega
          have hv2 : (k : Int) - 1 = (j : Int) := by omega
          have hk12 : (k : Int) < 12 := by omega
          have hj12 : (j : Int) < 12 := by omega
          have hlt2 : (k : Int) < ((allB c).length : Int) := by omega
          have X := row_kept r55 HV.out
          have x0 := cell_regrown (row0 X (i := j) (by rw [hcl12.out]; omega))
          have x1 := cell_regrown (row1 X (i := j) (by rw [hcl12.out]; omega))
          have x2 := cell_regrown (row0 X (i := k) (by rw [hcl12.out]; omega))
          have x3 := cell_regrown (row1 X (i := k) (by rw [hcl12.out]; omega))
          have hstep := hso.out j (by omega)
          rw [← hpk.out j (by omega), ← hpk.out (j + 1) (by omega), ← hj] at hstep
          replace hj := Lib.hid hj
          generalize hx : rB cs.toList j = x at *
          generalize hy : rB cs.toList k = y at *
          replace hx := Lib.hid hx
          replace hy := Lib.hid hy
          have hC1 := Lib.hid (fun W => CompareBottles_any x y W)
          have hC2 := Lib.hid (fun W => CompareBottles_any y x W)
          have han := cmp_anti x y
          have hcz := cmp_zero x y
          have hbd : -1 ≤ x.cmp y ∧ x.cmp y ≤ 1 := by unfold Bt.cmp; repeat' split; all_goals omega
          rw [han] at hC2
          generalize x.cmp y = n at *
          have hn1 : ¬ 0 < n := by omega
          have hn2 : IntKind.i64.wrap (- -n) = n := by rw [IntKind.wrap_i64]; omega
          have hn3 : IntKind.i64.wrap n = n := by rw [IntKind.wrap_i64]; omega
          replace han := Lib.hid han
          have H := Below.refl wr.heap.size wr
          clear X
          by_cases hxy : x = y
          · have hn0 : n = 0 := hcz.2 hxy
            subst hxy
            subst hn0
            clear hcz
            go_upto_region 44 with fail
            refine wp_region_qB (by kernel_rfl) (by kernel_rfl) ?_
            (repeat (first | fail | (apply qB_step; intro K hK; go_simp; first | (refine hK _ ?_; clear hK K) | (apply Exists.intro; refine ⟨fun _ => ?_, hK _ ?_⟩; (first | (go_at_call 32 <;> (first | (with_reducible exact hC1.out _) | (with_reducible exact hC2.out _)))); clear hK K))))
            refine qB_nil ?_
            intro w1 hw1
            replace H := bstep H hw1
            clear hw1
            clear x0 x1 x2 x3
            have HV2 := Lib.hid (bstep HV.out H)
            have X := row_kept r55 HV2.out
            have x0 := cell_regrown (row0 X (i := j) (by rw [hcl12.out]; omega))
            have x1 := cell_regrown (row1 X (i := j) (by rw [hcl12.out]; omega))
            have x2 := cell_regrown (row0 X (i := k) (by rw [hcl12.out]; omega))
            have x3 := cell_regrown (row1 X (i := k) (by rw [hcl12.out]; omega))
            rw [hx.out] at x0 x1
            rw [hy.out] at x2 x3
            clear H X
            go_upto_region 45 with fail
            have H := Below.refl w1.heap.size w1
            refine wp_region_qB (by kernel_rfl) (by kernel_rfl) ?_
            (repeat (first | fail | (apply qB_step; intro K hK; go_simp; first | (refine hK _ ?_; clear hK K) | (apply Exists.intro; refine ⟨fun _ => ?_, hK _ ?_⟩; (first | (go_at_call 32 <;> (first | (with_reducible exact hC1.out _) | (with_reducible exact hC2.out _)))); clear hK K))))
            refine qB_nil ?_
            intro w1 hw1
            replace H := bstep H hw1
            clear hw1
            go_wp2
            go_roundw
            case rel => exact ⟨k + 1, by omega, .inr (by omega), by go_num, bstep HV2.out H⟩
            case measure => simp [intOf]; omega
          · have hn0 : ¬ n = 0 := fun e => hxy (hcz.1 e)
            have hxk : (x.k == y.k && x.y == y.y) = false := by
              rw [← Bool.not_eq_true]
              intro h
              exact hxy (Bt.like_iff.1 h)
            clear hcz hxy
            go_upto_region 44 with fail
            refine wp_region_qB (by kernel_rfl) (by kernel_rfl) ?_
            (repeat (first | fail | (apply qB_step; intro K hK; go_simp; first | (refine hK _ ?_; clear hK K) | (apply Exists.intro; refine ⟨fun _ => ?_, hK _ ?_⟩; (first | (go_at_call 32 <;> (first | (with_reducible exact hC1.out _) | (with_reducible exact hC2.out _)))); clear hK K))))
            refine qB_nil ?_
            intro w1 hw1
            replace H := bstep H hw1
            clear hw1
            clear x0 x1 x2 x3
            have HV2 := Lib.hid (bstep HV.out H)
            have X := row_kept r55 HV2.out
            have x0 := cell_regrown (row0 X (i := j) (by rw [hcl12.out]; omega))
            have x1 := cell_regrown (row1 X (i := j) (by rw [hcl12.out]; omega))
            have x2 := cell_regrown (row0 X (i := k) (by rw [hcl12.out]; omega))
            have x3 := cell_regrown (row1 X (i := k) (by rw [hcl12.out]; omega))
            rw [hx.out] at x0 x1
            rw [hy.out] at x2 x3
            clear H X
            go_upto_region 45 with fail
            have H := Below.refl w1.heap.size w1
            refine wp_region_qB (by kernel_rfl) (by kernel_rfl) ?_
            (repeat (first | fail | (apply qB_step; intro K hK; go_simp; first | (refine hK _ ?_; clear hK K) | (apply Exists.intro; refine ⟨fun _ => ?_, hK _ ?_⟩; (first | (go_at_call 32 <;> (first | (with_reducible exact hC1.out _) | (with_reducible exact hC2.out _)))); clear hK K))))
            refine qB_nil ?_
            intro w1 hw1
            replace H := bstep H hw1
            clear hw1
            go_wp2
            go_roundw
            case rel => exact ⟨k + 1, by omega, .inr (by omega), by go_num, bstep HV2.out H⟩
            case measure => simp [intOf]; omega
        · as_aux_lemma =>
          have H := HV.out
          have hge : ¬ (k : Int) < ((allB c).length : Int) := by omega
          go_upto_region 48 with (first | ((refine is_load1 28 (Operand.tmp 5) rfl ?_); (refine wp_load_rowBg H ?_ 28 (Operand.tmp 5) rfl g5 rfl (cc c).toArray r5 _ Tryz.underlying28 rfl (infoC c) ?_); rfl) | (go_at_call 33; (with_reducible refine (KPu.out _).mono ?_); rintro e w47 ⟨rfl, hb2⟩; replace H := bstep H hb2; clear hb2))
          by_cases h2 : (allB c).length < 2
          · have hpu := hsh.out h2
            have h2i : ((allB c).length : Int) < 2 := by omega
            rw [hpu]
            have HX := Below.refl w47.heap.size w47
            have HS := H
            replace H := HX
            refine wp_region_qB (by kernel_rfl) (by kernel_rfl) ?_
            (repeat (first | fail | (apply qB_step; intro K hK; go_simp; first | (refine hK _ ?_; clear hK K) | (apply Exists.intro; refine ⟨fun _ => ?_, hK _ ?_⟩; (first | fail); clear hK K))))
            refine qB_nil ?_
            intro w1 hw1
            replace H := bstep H hw1
            clear hw1
            go_wp2
            go_ret
            exact ⟨rfl, bstep H0 (bstep HS H)⟩
          · have hpu := hen.out (by omega)
            have h2i : ¬ ((allB c).length : Int) < 2 := by omega
            have X := row_kept r55 H
            have x0 := cell_regrown (row0 X (i := 0) (by rw [hcl12.out]; decide))
            have x1 := cell_regrown (row1 X (i := 0) (by rw [hcl12.out]; decide))
            have x2 := cell_regrown (row0 X (i := (allB c).length - 1) (by rw [hcl12.out]; omega))
            have x3 := cell_regrown (row1 X (i := (allB c).length - 1) (by rw [hcl12.out]; omega))
            rw [hpk.out 0 (by omega)] at x0 x1
            rw [hpk.out ((allB c).length - 1) (by omega)] at x2 x3
            obtain ⟨lz, hlz⟩ : ∃ lz, lz = (allB c).length - 1 := ⟨_, rfl⟩
            rw [← hlz] at x2 x3 hpu
            have hv1 : IntKind.i64.wrap (lz : Int) = (lz : Int) := by rw [IntKind.wrap_i64]; omega
            have hv2 : ((allB c).length : Int) - 1 = (lz : Int) := by omega
            have hz12 : (lz : Int) < 12 := by omega
            have hz0 : (0 : Int) ≤ (lz : Int) := by omega
            replace hlz := Lib.hid hlz
            generalize rB (sortB (allB c)) 0 = x at *
            generalize rB (sortB (allB c)) lz = y at *
            rw [hpu]
            unfold Bt.like
            have HX := Below.refl w47.heap.size w47
            have HS := H
            replace H := HX
            clear X
            refine wp_region_qB (by kernel_rfl) (by kernel_rfl) ?_
            (repeat (first | fail | (apply qB_step; intro K hK; go_simp; first | (refine hK _ ?_; clear hK K) | (apply Exists.intro; refine ⟨fun _ => ?_, hK _ ?_⟩; (first | fail); clear hK K))))
            refine qB_nil ?_
            intro w1 hw1
            replace H := bstep H hw1
            clear hw1
            go_wp2
            go_ret
            exact ⟨by simp, bstep H0 (bstep HS H)⟩
    · exact absurd a2 (by omega)
end Go.Proofs.YtbngpcghognojaaGreatDoor
