/- Texts of the claim, joined (17 of 22): Join, NestW, SplitS. -/
import Derived.Test.YtbngpcghognojaaGreatDoorBO1
import Derived.Test.YtbngpcghognojaaGreatDoorBO5
import Derived.Test.YtbngpcghognojaaGreatDoorBO6
import Derived.Test.YtbngpcghognojaaGreatDoorBO10
import Derived.Test.YtbngpcghognojaaGreatDoorBO11
import Derived.Test.YtbngpcghognojaaGreatDoorBO16
namespace Go.Proofs.YtbngpcghognojaaGreatDoor
open Go Go.Sort Go.RowKit
set_option linter.unusedVariables false
set_option linter.unusedSimpArgs false
set_option maxRecDepth 100000
set_option maxHeartbeats 1000000
attribute [local go_sem] Oper.qB
/-! ### The order of wants by their bottles -/
def cmpW (x y : Wt) : Int := x.b.cmp y.b
theorem cmpW_swo : SWO (ltOf cmpW) := by
  refine ⟨fun x => ?_, fun x y z h h' => ?_, fun x y z h h' => ?_⟩
  all_goals
    simp only [ltOf, cmpW, decide_eq_true_eq, decide_eq_false_iff_not, cmp_neg] at *
    omega
theorem perm_of {d d' : Array Wt} (h : PermIn 0 d.size d d') : d'.toList.Perm d.toList := by
  obtain ⟨hsz, _, hperm⟩ := h
  have e1 : d'.extract 0 d.size = d' := by rw [← hsz]; exact Array.extract_size
  rw [e1, Array.extract_size] at hperm
  exact hperm
theorem sorted_of {d d' : Array Wt} (hs : d'.size = d.size) (h : SortedIn (ltOf cmpW) 0 d.size d') : d'.toList.Pairwise fun x y => ¬ y.b.cmp x.b < 0 := by
  refine List.pairwise_iff_getElem.2 fun i j hi hj hij => ?_
  have hi' : i < d'.size := by simpa using hi
  have hj' : j < d'.size := by simpa using hj
  have := h i j (Nat.zero_le _) hij (by omega)
  rw [getElem!_pos d' j hj', getElem!_pos d' i hi'] at this
  exact of_decide_eq_false this
theorem Clone_w (b off c : Nat) (l : List Wt) (w : World) (hC : CAt w b off (fl wc l)) (hn : l.length ≤ 1000000) :
    Calls Tryz.prog 94 #[.slice (some ⟨b, off, none⟩) l.length c] w fun e w' => ∃ v, e = .returned v ∧ OwnS wc w' w.heap.size 81 3 v l ∧ Below w.heap.size w w' := by
  obtain ⟨i0, hi, hzz⟩ := Option.map_eq_some_iff.1 infoWantS
  simp only [Prod.mk.injEq] at hzz
  obtain ⟨hz0, hz1, hz2⟩ := hzz
  refine (AnyE.slices_Clone Tryz.lx94 i0 _ 3 6 hi hz0 hz1 hz2 rfl (by decide) Tryz.sizeOf81 b off l.length c (fl wc l) w (fl_length wc_length l) (by simp only [maxLen]; omega) (by omega) (fun j u hu => hC j u hu) (fun u hu => ?_)).mono ?_
  · simp only [fl, List.mem_flatMap] at hu
    obtain ⟨x, _, hx⟩ := hu
    exact wv_one x u (by simpa using hx)
  · rintro e w' ⟨v, rfl, hown, hne, hb⟩
    refine ⟨v, rfl, ⟨hown, ?_⟩, hb⟩
    rcases hown.2 with ⟨h, _⟩ | ⟨g, cap, cur, rfl, _⟩
    · exact absurd h hne
    · exact ⟨g, cap, rfl⟩
attribute [local go_sem high] eqB
theorem Join1_any (x y : Wt) (g : Nat) (w : World) (hy : rowOf w g = some (wc y).toArray) :
    Calls Tryz.prog 96 #[wv x, .pointer (some ⟨g, 0, none⟩)] w fun e w' => e = .returned (.bool (decide (x.b = y.b))) ∧ Below w.heap.size w w' := by
  have hu := Tryz.underlying26
  have hg := rowOf_lt hy
  have hE : Hid ((x.b.k == y.b.k && x.b.y == y.b.y) = decide (x.b = y.b)) := by
    rw [Hid]
    by_cases h : x.b = y.b
    · rw [h]; simp
    · rw [decide_eq_false h, ← Bool.not_eq_true, Bool.and_eq_true, beq_iff_eq, beq_iff_eq]
      exact fun q => h (Bt.ext2 q.1 q.2)
  go_enter Tryz.func96, Tryz.ntmps96
  go_upto_region 1 with fail
  generalize hW : World.alloc _ _ = W
  have H0 : Below w.heap.size w W := by rw [← hW]; go_grown
  have r0 : rowOf W (w.heap.size) = some ((wc x).toArray) := (by (try rw [← hW]); simp only [rowOf_alloc, World.size_alloc, ↓reduceIte]; all_goals ((repeat' split) <;> first | omega | (exfalso; omega) | rfl))
  clear hW
  have l0 : w.heap.size ≤ w.heap.size := Nat.le_refl _
  generalize h0 : w.heap.size = g0 at r0 ⊢
  replace l0 : w.heap.size ≤ g0 := Nat.le_of_eq h0
  clear h0
  have b0 := rowOf_lt r0
  have H := Below.refl W.heap.size W
  have z0 : W.cell? ⟨g, 0, none⟩ = some (.int .u8 y.b.k) := (H0.cell hg).trans (rowOf_cell hy 0)
  have z1 : W.cell? ⟨g, 1, none⟩ = some (.int .i16 y.b.y) := (H0.cell hg).trans (rowOf_cell hy 1)
  have x0 : W.cell? ⟨g0, 0, none⟩ = some (.int .u8 x.b.k) := rowOf_cell r0 0
  have x1 : W.cell? ⟨g0, 1, none⟩ = some (.int .i16 x.b.y) := rowOf_cell r0 1
  go_wp2
  go_ret
  exact ⟨ret_bool hE.out, bstep H0 H⟩
theorem join1_pays (y : Wt) (g : Nat) (w : World) (hy : rowOf w g = some (wc y).toArray) : PredBelow Tryz.prog 96 #[.pointer (some ⟨g, 0, none⟩)] (fun x : Wt => .agg (wc x).toArray) (fun x => decide (x.b = y.b)) w :=
  fun W x hb => (Join1_any x y g W (row_kept hy hb)).mono fun _ _ ⟨he, h⟩ => ⟨he, hb.trans (h.mono hb.size)⟩
theorem IndexFunc_w (b off c : Nat) (l : List Wt) (y : Wt) (g : Nat) (w : World) (hy : rowOf w g = some (wc y).toArray) (hm : l.length ≤ 1000000000) (hC : CAt w b off (fl wc l)) (hb : b < w.heap.size) :
    Calls Tryz.prog 95 #[.slice (some ⟨b, off, none⟩) l.length c, .func (.func 96) #[] #[.pointer (some ⟨g, 0, none⟩)]] w fun e w' => e = .returned (.int .i64 (Lib.idxBy (fun _ x => decide (x.b = y.b)) l default)) ∧ Below w.heap.size w w' := by
  have := AnyQ.slices_IndexFunc Tryz.lx95 3 Tryz.isAgg81 Tryz.sizeOf81 wc wc_length (fun x => decide (x.b = y.b)) 96 #[.pointer (some ⟨g, 0, none⟩)] (enters_of Tryz.func96 (by kernel_rfl) rfl) b off l.length c l w (join1_pays y g w hy) (Nat.le_refl _) (by omega) hb (fun j hj i v hv => by have := hC.el wc_length hj i v hv; rwa [Nat.add_assoc] at this ⊢)
  rwa [List.take_length] at this
theorem Join2_grows (x y : Wt) (w : World) : Calls Tryz.prog 98 #[wv x, wv y] w fun e w' => e = .returned (.int .i64 (cmpW x y)) ∧ ∃ q os', w' = grow (w.drewN q) os' := by
  have HC := Lib.hid (compare_grows x.b y.b)
  have hq : Hid (cmpW x y = x.b.cmp y.b) := rfl
  have hx := x.b
  obtain ⟨⟨k, z, hk, hz⟩, n, hn⟩ := x
  obtain ⟨⟨k', z', hk', hz'⟩, n', hn'⟩ := y
  go_enter Tryz.func98, Tryz.ntmps98
  go_wp2_with (go_at_call 89; refine (HC.out _).mono ?_; rintro e w1 ⟨rfl, q, os, rfl⟩)
  go_ret
  refine ⟨ret_int hq.out.symm, ?_⟩
  rw [alloc_eq_grow, alloc_eq_grow, grow_grow, show ∀ X, (grow w X).drewN q = grow (w.drewN q) X from fun _ => rfl, grow_grow]
  exact ⟨q, _, rfl⟩
theorem wc_lays (blk off size : Nat) (w : World) : CmpLays Tryz.prog 98 #[] wc 3 cmpW blk off size w :=
  fun _ _ _ _ x y => Join2_grows x y _
theorem SortFunc_w (B g cap : Nat) (l : List Wt) (w : World) (h : OwnN wc w B 81 3 (.slice (some ⟨g, 0, none⟩) l.length cap) l) (hn : l.length ≤ 1000000) :
    Calls Tryz.prog 97 #[.slice (some ⟨g, 0, none⟩) l.length cap, .func (.func 98) #[] #[]] w fun e w' => e = .returned (.tuple #[]) ∧ ∃ s : List Wt, s.Perm l ∧ s.Pairwise (fun x y => ¬ y.b.cmp x.b < 0) ∧ OwnN wc w' B 81 3 (.slice (some ⟨g, 0, none⟩) l.length cap) s ∧ Below B w w' := by
  have hc := AnyQ.slices_SortFunc Tryz.lx97 3 Tryz.isAgg81 Tryz.sizeOf81 wc wc_length (fun x u hu => wv_one x u (by simpa using hu)) cmpW cmpW_swo 98 #[] g 0 cap l.toArray w
    (enters_of Tryz.func98 (by kernel_rfl) rfl) (wc_lays g 0 _ w) (own_holds wc_length (by decide) h) (own_lt h g rfl) (by simp; omega)
  refine hc.mono ?_
  rintro e w' ⟨he, d', n, os, hP, hS, rfl⟩
  have hl : d'.toList.length = l.length := by rw [Array.length_toList, hP.1]; simp
  have := own_put wc_length (by decide) h (l' := d'.toList) hl n os
  exact ⟨he, d'.toList, perm_of hP, sorted_of hP.1 hS, this.1, this.2⟩
theorem fl_setW : ∀ (l : List Wt) (i : Nat) (x : Wt) (h : i < l.length), (fl wc l).set (i * 3 + 2) (.int .i16 x.n) = fl wc (l.set i ⟨l[i]!.b, x.n, x.hn⟩)
  | [], i, _, h => by simp at h
  | y :: l, 0, x, _ => rfl
  | y :: l, i + 1, x, h => by
    have := fl_setW l i x (by simpa using h)
    rw [List.set_cons_succ, fl_cons, fl_cons, List.set_append_right _ _ (by rw [wc_length]; omega), wc_length, show (i + 1) * 3 + 2 - 3 = i * 3 + 2 by omega, this]
    rfl
theorem JoinOrders_any (g0 c0 : Nat) (a : List Wt) (g1 c1 : Nat) (b : List Wt) (w : World) (K0 : Lies wc w g0 a) (K1 : Lies wc w g1 b) (hn0 : a.length ≤ 1048576) (hn1 : b.length ≤ 1048576) :
    Calls Tryz.prog 40 #[.slice (some ⟨g0, 0, none⟩) a.length c0, .slice (some ⟨g1, 0, none⟩) b.length c1] w fun e w' => ∃ v, e = .returned (.tuple #[v, .int .i64 (joinR a b).2]) ∧ OwnN wc w' w.heap.size 81 3 v (joinR a b).1 ∧ Below w.heap.size w w' := by
  have HV0 := Lib.hid (fun W (hW : Below w.heap.size w W) => ValidOrder_any g0 0 c0 a W (K0.below hW).c (K0.below hW).lt (by omega))
  have HV1 := Lib.hid (fun W (hW : Below w.heap.size w W) => ValidOrder_any g1 0 c1 b W (K1.below hW).c (K1.below hW).lt (by omega))
  have H := Below.refl w.heap.size w
  replace K0 := Lib.hid K0
  replace K1 := Lib.hid K1
  cases e1 : ordOk a with
  | false =>
    have HF := Lib.hid (show joinR a b = ([], 1) by simp [joinR, e1])
    have e3 := Lib.hid e1
    clear e1
    go_enter Tryz.func40, Tryz.ntmps40
    go_wp2_with (go_at_call 50; with_reducible refine (HV0.out _ H).mono ?_; rintro e w' ⟨rfl, hb⟩; rw [e3.out]; replace H := bstep H hb; clear hb)
    rw [HF.out]
    exact bodyPost_ret (results_tt rfl) rfl ⟨_, rfl, OwnN.nil, H⟩
  | true =>
    cases e2 : ordOk b with
    | false =>
      have HF := Lib.hid (show joinR a b = ([], 1) by simp [joinR, e1, e2])
      have e3 := Lib.hid e1
      have e4 := Lib.hid e2
      clear e1 e2
      go_enter Tryz.func40, Tryz.ntmps40
      go_wp2_with (first | (go_at_call 50; with_reducible refine (HV0.out _ H).mono ?_; rintro e w' ⟨rfl, hb⟩; rw [e3.out]; replace H := bstep H hb; clear hb) | (go_at_call 50; with_reducible refine (HV1.out _ H).mono ?_; rintro e w' ⟨rfl, hb⟩; rw [e4.out]; replace H := bstep H hb; clear hb))
      rw [HF.out]
      exact bodyPost_ret (results_tt rfl) rfl ⟨_, rfl, OwnN.nil, H⟩
    | true =>
      have HF := Lib.hid (show joinR a b = if ordOk (joinW a b) = true then (joinW a b, 0) else ([], 3) by simp [joinR, e1, e2])
      have HA := Lib.hid (ordOk_str e1)
      have HB := Lib.hid (ordOk_str e2)
      have la : a.length ≤ 8 := by simp only [ordOk, Bool.and_eq_true, decide_eq_true_iff] at e1; exact e1.2
      have lb : b.length ≤ 8 := by simp only [ordOk, Bool.and_eq_true, decide_eq_true_iff] at e2; exact e2.2
      have e3 := Lib.hid e1
      have e4 := Lib.hid e2
      clear e1 e2
      have HCL := Lib.hid (fun W (hW : Below w.heap.size w W) => Clone_w g0 0 c0 a W (K0.out.below hW).c (by omega))
      go_enter Tryz.func40, Tryz.ntmps40
      go_wp2_with (first | (go_at_call 50; with_reducible refine (HV0.out _ H).mono ?_; rintro e w' ⟨rfl, hb⟩; rw [e3.out]; replace H := bstep H hb; clear hb) | (go_at_call 50; with_reducible refine (HV1.out _ H).mono ?_; rintro e w' ⟨rfl, hb⟩; rw [e4.out]; replace H := bstep H hb; clear hb) | (go_at_call 94; with_reducible refine (HCL.out _ H).mono ?_; rintro e w1 ⟨v1, rfl, O1, hb⟩; replace O1 := Lib.hid (O1.down H.size); replace H := bstep H hb; clear hb))
      go_loopw [6, 22] (fun s i wr => ∃ k : Nat, k ≤ b.length ∧ i = .int .i64 k ∧ Hid (OwnS wc wr w.heap.size 81 3 s (impJ a (b.take k))) ∧ Below w.heap.size w wr) (fun _ i _ => b.length - (intOf i).toNat)
      case atStart => exact ⟨0, Nat.zero_le _, rfl, by rw [List.take_zero, impJ_nil]; exact O1.out, H⟩
      case round =>
        clear O1 H HCL HV0 HV1
        obtain ⟨k, hk, rfl, HO, hb⟩ := hrel
        by_cases hlt : k < b.length
        · have HX := (K1.out.c.below hb K1.out.lt).el wc_length hlt
          rw [Nat.zero_add] at HX
          have hlt2 : (k : Int) < (b.length : Int) := by omega
          have HR := impJ_round HA.out HB.out hlt
          have hle := impJ_le a (b.take k)
          have hkl : (b.take k).length ≤ k := by simp; omega
          generalize b[k]! = x at HX HR
          generalize impJ a (b.take k) = P at HR HO hle
          have hP : P.length ≤ 100 := by omega
          clear hle hkl
          replace HR := Lib.hid HR
          obtain ⟨g2, cap, rfl, K2, hB2, hg2, -⟩ := HO.out.lies
          have x0 : wr.cell? ⟨g1, k * 3, none⟩ = some (.int .u8 x.b.k) := HX 0 _ rfl
          have x1 : wr.cell? ⟨g1, k * 3 + 1, none⟩ = some (.int .i16 x.b.y) := HX 1 _ rfl
          have x2 : wr.cell? ⟨g1, k * 3 + 2, none⟩ = some (.int .i16 x.n) := HX 2 _ rfl
          clear HX
          go_upto_region 7 with fail
          generalize hW1 : World.alloc _ _ = W1
          have hgr : Below wr.heap.size wr W1 := by rw [← hW1]; go_grown
          have r4 : rowOf W1 wr.heap.size = some (wc x).toArray := by rw [← hW1, rowOf_alloc, if_pos rfl]; rfl
          have HO1 := Lib.hid (HO.out.kept hgr)
          have K3 := K2.below hgr
          have hb2 := bstep hb hgr
          have hg4 : g2 ≠ wr.heap.size := by omega
          clear hW1 x0 x1 x2 hb hgr HO K2
          generalize wr.heap.size = g4 at r4 hg4 ⊢
          have HI := IndexFunc_w g2 0 cap P x g4 W1 r4 (by omega) K3.c K3.lt
          rcases HR.out with ⟨q1, q2⟩ | ⟨i, hi, hi2, q1, q2⟩
          · rw [q1] at HI
            replace HI := Lib.hid HI
            replace q2 := Lib.hid q2
            clear q1 HR K3 hg4
            go_upto_region 9 with (go_at_call 95; with_reducible refine HI.out.mono ?_; rintro e w2 ⟨rfl, hb3⟩)
            have r5 := row_kept r4 hb3
            have y0 : w2.cell? ⟨g4, 0, none⟩ = some (.int .u8 x.b.k) := rowOf_cell r5 0
            have y1 : w2.cell? ⟨g4, 1, none⟩ = some (.int .i16 x.b.y) := rowOf_cell r5 1
            have y2 : w2.cell? ⟨g4, 2, none⟩ = some (.int .i16 x.n) := rowOf_cell r5 2
            have HO2 := Lib.hid (HO1.out.kept hb3)
            have hb4 := bstep hb2 hb3
            clear HI HO1 hb2 hb3 r4 r5
            go_wp2_with (at_builtin; refine wp_app_want w.heap.size rfl _ _ rfl _ P x rfl _ rfl ?hg ?HO ?hB ?hn ?_; (case hg => simp); (case HO => exact HO2.out); (case hB => exact hb4.size); (case hn => omega); intro v1 w1 hown hb1)
            go_roundw
            case rel => exact ⟨k + 1, by omega, by go_num, by rw [q2.out]; exact hown, hb4.trans hb1⟩
            case measure => simp [intOf]; omega
          · rw [q1] at HI
            replace HI := Lib.hid HI
            have HY := K3.c.el wc_length hi
            rw [Nat.zero_add] at HY
            have hi3 : (i : Int) < (P.length : Int) := by omega
            generalize hy : P[i]! = y at q2 HY
            replace hy := Lib.hid hy
            replace q2 := Lib.hid q2
            have hg2l := K3.lt
            clear q1 HR K3
            go_upto_region 10 with (go_at_call 95; with_reducible refine HI.out.mono ?_; rintro e w2 ⟨rfl, hb3⟩)
            have r5 := row_kept r4 hb3
            have z2 : w2.cell? ⟨g4, 2, none⟩ = some (.int .i16 x.n) := rowOf_cell r5 2
            have y2 : w2.cell? ⟨g2, i * 3 + 2, none⟩ = some (.int .i16 y.n) := (HY.below hb3 hg2l) 2 _ rfl
            have HO2 := Lib.hid (HO1.out.kept hb3)
            have hb4 := bstep hb2 hb3
            clear HI HO1 hb2 hb3 r4 r5 HY
            have H := Below.refl w2.heap.size w2
            have hg2k := own_lt HO2.out.1 g2 rfl
            refine wp_region_still_tail 10 (by kernel_rfl) (by kernel_rfl) ?_
            replace H := H.drew
            simp only [List.take_succ_cons, List.take_zero, List.drop_succ_cons, List.drop_zero]
            repeat (first | fail | still_step)
            refine wpStill_nil ?_
            change wpList _ _ _ _ _ (World.drew _)
            generalize World.drew _ = w1 at H ⊢
            have y3 : w1.cell? ⟨g2, i * 3 + 2, none⟩ = some (.int .i16 y.n) := (H.cell hg2k).trans y2
            have HO3 := HO2.out.kept H
            have hb5 := bstep hb4 H
            have f2 := HO3.1.frozenAt (i * 3 + 2)
            have HS := (HO3.1.stored (i * 3 + 2) (.int .i16 (IntKind.i16.wrap (y.n + x.n)))).1
            have HSn : OwnS wc (w1.setCell ⟨g2, i * 3 + 2, none⟩ (.int .i16 (IntKind.i16.wrap (y.n + x.n)))) w.heap.size 81 3 (.slice (some ⟨g2, 0, none⟩) P.length cap) (P.set i (addW y x)) := by
              refine ⟨?_, g2, cap, by rw [List.length_set]⟩
              have e := fl_setW P i (addW y x) hi
              rw [hy.out] at e
              rw [show (fl wc P).set (i * 3 + 2) (.int .i16 (IntKind.i16.wrap (y.n + x.n))) = fl wc (P.set i (addW y x)) from e] at HS
              rw [List.length_set]
              exact HS
            replace HS := Lib.hid HSn
            clear HO3 HSn HO2
            go_wp2
            go_roundw
            case rel => exact ⟨k + 1, by omega, by go_num, by rw [q2.out]; exact HS.out, hb5.setCell hB2 _⟩
            case measure => simp [intOf]; omega
        · obtain rfl : k = b.length := by omega
          rw [List.take_length] at HO
          have hle := impJ_le a b
          have hj := join_le HA.out HB.out
          obtain ⟨g2, cap, rfl, K2, hB2, hg2, -⟩ := HO.out.lies
          have HSF := Lib.hid (SortFunc_w w.heap.size g2 cap (impJ a b) wr HO.out.n (by omega))
          have HJS := Lib.hid (fun s hp hs => join_sorted (s := s) HA.out HB.out hp hs)
          have hpl : ∀ s : List Wt, s.Perm (impJ a b) → s.length = (impJ a b).length := fun s h => h.length_eq
          generalize impJ a b = P at HSF HO HJS hle hpl ⊢
          generalize joinW a b = J at HF HJS hj
          replace hpl := Lib.hid hpl
          clear HO K2
          cases e1 : ordOk J with
          | false =>
            have e5 := Lib.hid e1
            replace HF := Lib.hid (HF.out.trans (if_neg (by rw [e1]; simp)))
            clear e1
            go_upto_region 13 with (go_at_call 97; with_reducible refine HSF.out.mono ?_; rintro e w2 ⟨rfl, s, hp, hs, OS, hb3⟩)
            have hlen := hpl.out s hp
            obtain rfl := HJS.out s hp hs
            have OS2 := OS
            rw [← hlen] at OS2
            have hb4 := hb.trans hb3
            have HV2 := ValidOrder_any g2 0 cap s w2 OS2.lies.c OS2.lies.lt (by omega)
            rw [hlen] at HV2
            replace HV2 := Lib.hid HV2
            replace hlen := Lib.hid hlen
            clear OS2
            go_wp2_with (go_at_call 50; with_reducible refine HV2.out.mono ?_; rintro e w' ⟨rfl, hb⟩; rw [e5.out]; replace hb4 := bstep hb4 hb; clear hb)
            rw [HF.out]
            exact bodyPost_ret (results_tt rfl) rfl ⟨_, rfl, OwnN.nil, hb4⟩
          | true =>
            have e5 := Lib.hid e1
            replace HF := Lib.hid (HF.out.trans (if_pos e1))
            clear e1
            go_upto_region 13 with (go_at_call 97; with_reducible refine HSF.out.mono ?_; rintro e w2 ⟨rfl, s, hp, hs, OS, hb3⟩)
            have hlen := hpl.out s hp
            obtain rfl := HJS.out s hp hs
            have OS2 := OS
            rw [← hlen] at OS2
            have hb4 := hb.trans hb3
            have HV2 := ValidOrder_any g2 0 cap s w2 OS2.lies.c OS2.lies.lt (by omega)
            rw [hlen] at HV2
            replace HV2 := Lib.hid HV2
            replace hlen := Lib.hid hlen
            clear OS2
            replace OS := Lib.hid OS
            go_wp2_with (go_at_call 50; with_reducible refine HV2.out.mono ?_; rintro e w' ⟨rfl, hb⟩; rw [e5.out]; replace OS := Lib.hid (OS.out.below hb); replace hb4 := bstep hb4 hb; clear hb)
            rw [HF.out]
            exact bodyPost_ret (results_tt rfl) rfl ⟨_, rfl, OS.out, hb4⟩
theorem joinW_r (l : List Wt) : joinW l [] = l := by cases l <;> rw [joinW]
theorem joinW_l (l : List Wt) : joinW [] l = l := by rw [joinW]
theorem joinW_cc (x y : Wt) (a b : List Wt) : joinW (x :: a) (y :: b) = if x.b.cmp y.b < 0 then x :: joinW a (y :: b) else if 0 < x.b.cmp y.b then y :: joinW (x :: a) b else addW x y :: joinW a b := by rw [joinW]
theorem drop_at {l : List Wt} {i : Nat} (h : i < l.length) : l.drop i = l[i]! :: l.drop (i + 1) := by
  rw [getB h]
  exact List.drop_eq_getElem_cons h
section
variable {P : Program} {o : Oper} {a : Act} {w w' : World} {k : Act → Prop}
theorem Goes.app (s x : Operand) (t : TypeId) (ho : o.op = .call { callee := .builtin .append, args := #[s, x], argTypes := #[t, t] }) (v u : Value) (hs : a.eval s = v) (hx : a.eval x = u) (v1 : Value)
    (hrun : (Builtin.append_ #[t, t] o.type #[v, u]).run P w = .ok v1 w') (h : k (a.put o.dst v1)) : Goes P o a w w' k := by
  refine Goes.value ?_ h
  unfold execOp
  simp only [ho, resolve, invoke, builtin, Sem.run_bind, Sem.run_pure, Result.andThen_ok, List.map_toArray, List.map_cons, List.map_nil, hs, hx, hrun]
end
/-- append(v, x), run. -/
theorem app_wj (B : Nat) (W : World) (v : Value) (l : List Wt) (y : Wt) (HO : OwnS wc W B 81 3 v l) (hB : B ≤ W.heap.size) (hn : l.length ≤ 100000000) (ty : TypeId) :
    ∃ v1 w1, (Builtin.append_ #[64, 64] ty #[v, .slice (some ⟨W.heap.size, 0, none⟩) 1 1]).run Tryz.prog (W.alloc (.cells #[.int .u8 y.b.k, .int .i16 y.b.y, .int .i16 y.n] 81)) = .ok v1 w1 ∧ OwnS wc w1 B 81 3 v1 (l ++ [y]) ∧ Below B W w1 := by
  obtain ⟨i0, hi, hzz⟩ := Option.map_eq_some_iff.1 infoWantS
  simp only [Prod.mk.injEq] at hzz
  obtain ⟨hz0, hz1, hz2⟩ := hzz
  obtain ⟨v1, w1, hrun, hown, hg, -, -⟩ := run_append_own_at (P := Tryz.prog) (W.alloc (.cells (wc y).toArray 81)) B 64 ty 81 i0 _ 3 6 Tryz.underlying64 hi hz0 hz1 hz2 rfl (by decide) v l.length (fl wc l) (HO.1.alloc _) ⟨W.heap.size, 0, none⟩ 1 1 (wc y) rfl
    (fun j u hj => by rw [addr_at]; simp only [World.cell?_alloc_new]; simpa using hj) (fun u hu => wv_one y u (by simpa using hu)) (by simp only [maxLen]; omega) (by omega) (by simp; omega)
  have hb := ((Below.refl B W).alloc hB (.cells (wc y).toArray 81)).grown hg (by simp; omega) (fun k hk => own_base HO.1 k hk)
  exact ⟨v1, w1, hrun, OwnS.grown (by rw [List.length_append, fl_append, fl_one]; exact hown), hb⟩
theorem sJoinOrders_any (g0 c0 : Nat) (a : List Wt) (g1 c1 : Nat) (b : List Wt) (w : World) (K0 : Lies wc w g0 a) (K1 : Lies wc w g1 b) (hn0 : a.length ≤ 1048576) (hn1 : b.length ≤ 1048576) :
    Calls Tryz.prog 41 #[.slice (some ⟨g0, 0, none⟩) a.length c0, .slice (some ⟨g1, 0, none⟩) b.length c1] w fun e w' => ∃ v, e = .returned (.tuple #[v, .int .i64 (joinR a b).2]) ∧ OwnN wc w' w.heap.size 81 3 v (joinR a b).1 ∧ Below w.heap.size w w' := by
  have HV0 := Lib.hid (fun W (hW : Below w.heap.size w W) => l02Ok_any g0 0 c0 a W (K0.below hW).c (K0.below hW).lt (by omega))
  have HV1 := Lib.hid (fun W (hW : Below w.heap.size w W) => l02Ok_any g1 0 c1 b W (K1.below hW).c (K1.below hW).lt (by omega))
  have H := Below.refl w.heap.size w
  replace K0 := Lib.hid K0
  replace K1 := Lib.hid K1
  cases e1 : ordOk a with
  | false =>
    have HF := Lib.hid (show joinR a b = ([], 1) by simp [joinR, e1])
    have e3 := Lib.hid e1
    clear e1
    go_enter Tryz.func41, Tryz.ntmps41
    go_wp2_with (go_at_call 99; with_reducible refine (HV0.out _ H).mono ?_; rintro e w' ⟨rfl, hb⟩; rw [e3.out]; replace H := bstep H hb; clear hb)
    rw [HF.out]
    exact bodyPost_ret (results_tt rfl) rfl ⟨_, rfl, (OwnS.lit H.size).n, H.alloc H.size _⟩
  | true =>
    cases e2 : ordOk b with
    | false =>
      have HF := Lib.hid (show joinR a b = ([], 1) by simp [joinR, e1, e2])
      have e3 := Lib.hid e1
      have e4 := Lib.hid e2
      clear e1 e2
      go_enter Tryz.func41, Tryz.ntmps41
      go_wp2_with (first | (go_at_call 99; with_reducible refine (HV0.out _ H).mono ?_; rintro e w' ⟨rfl, hb⟩; rw [e3.out]; replace H := bstep H hb; clear hb) | (go_at_call 99; with_reducible refine (HV1.out _ H).mono ?_; rintro e w' ⟨rfl, hb⟩; rw [e4.out]; replace H := bstep H hb; clear hb))
      rw [HF.out]
      exact bodyPost_ret (results_tt rfl) rfl ⟨_, rfl, (OwnS.lit H.size).n, H.alloc H.size _⟩
    | true =>
      have HF := Lib.hid (show joinR a b = if ordOk (joinW a b) = true then (joinW a b, 0) else ([], 3) by simp [joinR, e1, e2])
      have la : a.length ≤ 8 := by simp only [ordOk, Bool.and_eq_true, decide_eq_true_iff] at e1; exact e1.2
      have lb : b.length ≤ 8 := by simp only [ordOk, Bool.and_eq_true, decide_eq_true_iff] at e2; exact e2.2
      have hj := join_le (ordOk_str e1) (ordOk_str e2)
      have e3 := Lib.hid e1
      have e4 := Lib.hid e2
      clear e1 e2
      go_enter Tryz.func41, Tryz.ntmps41
      go_wp2_with (first | (go_at_call 99; with_reducible refine (HV0.out _ H).mono ?_; rintro e w' ⟨rfl, hb⟩; rw [e3.out]; replace H := bstep H hb; clear hb) | (go_at_call 99; with_reducible refine (HV1.out _ H).mono ?_; rintro e w' ⟨rfl, hb⟩; rw [e4.out]; replace H := bstep H hb; clear hb))
      clear HV0 HV1
      go_loopw [6, 7, 8] (fun s p q wr => ∃ i j : Nat, i ≤ a.length ∧ j ≤ b.length ∧ p = .int .i64 i ∧ q = .int .i64 j ∧ Hid (∃ P, OwnS wc wr w.heap.size 81 3 s P ∧ P ++ joinW (a.drop i) (b.drop j) = joinW a b) ∧ Below w.heap.size w wr) (fun _ p q _ => (a.length - (intOf p).toNat) + (b.length - (intOf q).toNat))
      case atStart => exact ⟨0, 0, Nat.zero_le _, Nat.zero_le _, rfl, rfl, ⟨[], OwnS.lit H.size, rfl⟩, H.alloc H.size _⟩
      case round =>
        clear H
        obtain ⟨i, j, hi, hj2, rfl, rfl, HP, hb⟩ := hrel
        obtain ⟨P, HO, HJ⟩ := HP.out
        have hPl : P.length ≤ 16 := by
          have := congrArg List.length HJ
          rw [List.length_append] at this
          omega
        replace HO := Lib.hid HO
        clear HP
        by_cases hia : i < a.length
        · have HX := (K0.out.c.below hb K0.out.lt).el wc_length hia
          rw [Nat.zero_add] at HX
          have hda := drop_at hia
          rw [hda] at HJ
          have hia2 : (i : Int) < (a.length : Int) := by omega
          have hia3 : ((i : Int) == (a.length : Int)) = false := by simp; omega
          have hia4 : ¬ (i : Int) = (a.length : Int) := by omega
          generalize a[i]! = x at HX HJ hda
          have x0 : wr.cell? ⟨g0, i * 3, none⟩ = some (.int .u8 x.b.k) := HX 0 _ rfl
          have x1 : wr.cell? ⟨g0, i * 3 + 1, none⟩ = some (.int .i16 x.b.y) := HX 1 _ rfl
          have x2 : wr.cell? ⟨g0, i * 3 + 2, none⟩ = some (.int .i16 x.n) := HX 2 _ rfl
          by_cases hjb : j < b.length
          · have HY := (K1.out.c.below hb K1.out.lt).el wc_length hjb
            rw [Nat.zero_add] at HY
            have hdb := drop_at hjb
            have hjb2 : (j : Int) < (b.length : Int) := by omega
            have hjb3 : ((j : Int) == (b.length : Int)) = false := by simp; omega
            have hjb4 : ¬ (j : Int) = (b.length : Int) := by omega
            generalize b[j]! = y at HY hdb
            have y0 : wr.cell? ⟨g1, j * 3, none⟩ = some (.int .u8 y.b.k) := HY 0 _ rfl
            have y1 : wr.cell? ⟨g1, j * 3 + 1, none⟩ = some (.int .i16 y.b.y) := HY 1 _ rfl
            have y2 : wr.cell? ⟨g1, j * 3 + 2, none⟩ = some (.int .i16 y.n) := HY 2 _ rfl
            have hg0 := Lib.hid (Nat.lt_of_lt_of_le K0.out.lt hb.size)
            have hg1 := Lib.hid (Nat.lt_of_lt_of_le K1.out.lt hb.size)
            have HN1 : Hid (x.b.cmp y.b < 0 → (P ++ [x]) ++ joinW (a.drop (i + 1)) (b.drop j) = joinW a b) := fun h => by
              rw [← HJ, hdb, joinW_cc, if_pos h]
              simp
            have HN2 : Hid (¬ x.b.cmp y.b < 0 → 0 < x.b.cmp y.b → (P ++ [y]) ++ joinW (a.drop i) (b.drop (j + 1)) = joinW a b) := fun h h' => by
              rw [← HJ, hdb, joinW_cc, if_neg h, if_pos h', hda]
              simp
            have HN3 : Hid (¬ x.b.cmp y.b < 0 → ¬ 0 < x.b.cmp y.b → (P ++ [addW x y]) ++ joinW (a.drop (i + 1)) (b.drop (j + 1)) = joinW a b) := fun h h' => by
              rw [← HJ, hdb, joinW_cc, if_neg h, if_neg h']
              simp
            clear HX HY HJ hda hdb
            go_upto_region 8 with fail
            have H := Below.refl wr.heap.size wr
            have z0 := cell_regrown x0
            have z1 := cell_regrown x1
            have z2 := cell_regrown y0
            have z3 := cell_regrown y1
            have HX := Lib.hid (⟨x0, x1, x2, y0, y1, y2⟩ : _ ∧ _ ∧ _ ∧ _ ∧ _ ∧ _)
            clear x0 x1 x2 y0 y1 y2
            refine wp_region_qB (by kernel_rfl) (by kernel_rfl) ?_
            (repeat (first | fail | (apply qB_step; intro K hK; go_simp; first | (refine hK _ ?_; clear hK K) | (apply Exists.intro; refine ⟨fun _ => ?_, hK _ ?_⟩; (first | (go_at_call 100; with_reducible exact sCompareBottles_any x.b y.b _)); clear hK K))))
            refine qB_nil ?_
            intro w1 hw1
            replace H := bstep H hw1
            clear hw1
            clear z0 z1 z2 z3
            have x0 := (H.cell hg0.out).trans HX.out.1
            have x1 := (H.cell hg0.out).trans HX.out.2.1
            have x2 := (H.cell hg0.out).trans HX.out.2.2.1
            have y0 := (H.cell hg1.out).trans HX.out.2.2.2.1
            have y1 := (H.cell hg1.out).trans HX.out.2.2.2.2.1
            have y2 := (H.cell hg1.out).trans HX.out.2.2.2.2.2
            have HO1 := Lib.hid (HO.out.kept H)
            have hb0 := bstep hb H
            by_cases hc1 : x.b.cmp y.b < 0
            · replace HN1 := Lib.hid (HN1.out hc1)
              clear HN2 HN3 HX
              go_wp2_with (at_builtin; refine wp_app_want w.heap.size rfl _ _ rfl _ P x rfl _ rfl ?hg ?HO ?hB ?hn ?_; (case hg => simp); (case HO => exact HO1.out); (case hB => exact hb0.size); (case hn => omega); intro v1 w1 hown hb1)
              go_roundw
              case rel => exact ⟨i + 1, j, by omega, by omega, by go_num, rfl, ⟨P ++ [x], hown, HN1.out⟩, hb0.trans hb1⟩
              case measure => simp [intOf]; omega
            · by_cases hc2 : 0 < x.b.cmp y.b
              · replace HN2 := Lib.hid (HN2.out hc1 hc2)
                clear HN1 HN3 HX
                go_wp2_with (at_builtin; refine wp_app_want w.heap.size rfl _ _ rfl _ P y rfl _ rfl ?hg ?HO ?hB ?hn ?_; (case hg => simp); (case HO => exact HO1.out); (case hB => exact hb0.size); (case hn => omega); intro v1 w1 hown hb1)
                go_roundw
                case rel => exact ⟨i, j + 1, by omega, by omega, rfl, by go_num, ⟨P ++ [y], hown, HN2.out⟩, hb0.trans hb1⟩
                case measure => simp [intOf]; omega
              · replace HN3 := Lib.hid (HN3.out hc1 hc2)
                clear HN1 HN2 HX
                go_upto_region 12 with fail
                have H2 := H.drew
                have hb2 := bstep hb H2
                have HO2 := HO.out.kept H2
                obtain ⟨v1, w2, hrun, hown, hb1⟩ := app_wj w.heap.size (World.drew w1) _ P (addW x y) HO2 hb2.size (by omega) 64
                obtain ⟨W0, hW0⟩ : ∃ W0, W0 = World.drew w1 := ⟨_, rfl⟩
                obtain ⟨W1, hW1⟩ : ∃ W1, W1 = W0.alloc (.cells #[.int .u8 x.b.k, .int .i16 x.b.y, .int .i16 (IntKind.i16.wrap (x.n + y.n))] 81) := ⟨_, rfl⟩
                have p0 : W0.cell? ⟨g0, i * 3, none⟩ = some (.int .u8 x.b.k) := by rw [hW0]; exact x0
                have p1 : W0.cell? ⟨g0, i * 3 + 1, none⟩ = some (.int .i16 x.b.y) := by rw [hW0]; exact x1
                have p2 : W0.cell? ⟨g0, i * 3 + 2, none⟩ = some (.int .i16 x.n) := by rw [hW0]; exact x2
                have p3 : W0.cell? ⟨g1, j * 3 + 2, none⟩ = some (.int .i16 y.n) := by rw [hW0]; exact y2
                rw [← hW0] at hrun hb1 hb2
                have hBw := Lib.hid hb2.size
                replace hrun : (Builtin.append_ #[64, 64] 64 #[u6, .slice (some ⟨W0.heap.size, 0, none⟩) 1 1]).run Tryz.prog W1 = .ok v1 w2 := by rw [hW1]; exact hrun
                have h1 : Below w.heap.size W0 W1 := by rw [hW1]; exact (Below.refl _ _).alloc hb2.size _
                have q0 := (h1.cell K0.out.lt).trans p0
                have q1 := (h1.cell K0.out.lt).trans p1
                have q2 := (h1.cell K0.out.lt).trans p2
                have q3 := (h1.cell K1.out.lt).trans p3
                have r0 := (hb1.cell K0.out.lt).trans p0
                have r1 := (hb1.cell K0.out.lt).trans p1
                have r2 := (hb1.cell K0.out.lt).trans p2
                have r3 := (hb1.cell K1.out.lt).trans p3
                replace hW0 := Lib.hid hW0
                replace hW1 := Lib.hid hW1
                replace hrun := Lib.hid hrun
                refine d_start 21 [W0, W1, w2] (by rw [hW0.out]; rfl) rfl (by kernel_rfl) ?_
                (refine d_quiet 0 (by kernel_rfl) rfl (fun K hK => ?_); go_simp; refine hK _ ?_; clear hK K)
                (refine d_quiet 1 (by kernel_rfl) rfl (fun K hK => ?_); go_simp; refine hK _ ?_; clear hK K)
                (refine d_quiet 2 (by kernel_rfl) rfl (fun K hK => ?_); go_simp; refine hK _ ?_; clear hK K)
                (refine d_quiet 3 (by kernel_rfl) rfl (fun K hK => ?_); go_simp; refine hK _ ?_; clear hK K)
                (refine d_quiet 4 (by kernel_rfl) rfl (fun K hK => ?_); go_simp; refine hK _ ?_; clear hK K)
                (refine d_quiet 5 (by kernel_rfl) rfl (fun K hK => ?_); go_simp; refine hK _ ?_; clear hK K)
                (refine d_quiet 6 (by kernel_rfl) rfl (fun K hK => ?_); go_simp; refine hK _ ?_; clear hK K)
                (refine d_quiet 7 (by kernel_rfl) rfl (fun K hK => ?_); go_simp; refine hK _ ?_; clear hK K)
                (refine d_quiet 8 (by kernel_rfl) rfl (fun K hK => ?_); go_simp; refine hK _ ?_; clear hK K)
                (refine d_quiet 9 (by kernel_rfl) rfl (fun K hK => ?_); go_simp; refine hK _ ?_; clear hK K)
                (refine d_quiet 10 (by kernel_rfl) rfl (fun K hK => ?_); go_simp; refine hK _ ?_; clear hK K)
                (refine d_quiet 11 (by kernel_rfl) rfl (fun K hK => ?_); go_simp; refine hK _ ?_; clear hK K)
                (refine d_quiet 12 (by kernel_rfl) rfl (fun K hK => ?_); go_simp; refine hK _ ?_; clear hK K)
                (refine d_quiet 13 (by kernel_rfl) rfl (fun K hK => ?_); go_simp; refine hK _ ?_; clear hK K)
                (refine d_quiet 14 (by kernel_rfl) rfl (fun K hK => ?_); go_simp; refine hK _ ?_; clear hK K)
                (refine d_quiet 15 (by kernel_rfl) rfl (fun K hK => ?_); go_simp; refine hK _ ?_; clear hK K)
                (refine d_quiet 16 (by kernel_rfl) rfl (fun K hK => ?_); go_simp; refine hK _ ?_; clear hK K)
                (refine d_quiet 17 (by kernel_rfl) rfl (fun K hK => ?_); go_simp; refine hK _ ?_; clear hK K)
                refine d_step 18 1 W0 W1 rfl rfl (by kernel_rfl) rfl rfl (fun K hK => ?_)
                unfold Goes
                go_simp
                refine ⟨hW1.out.symm, hK _ ?_⟩
                clear hK K
                refine d_step 19 2 W1 w2 rfl rfl (by kernel_rfl) rfl rfl (fun K hK => Goes.app _ _ _ rfl _ _ rfl rfl v1 hrun.out (hK _ ?_))
                clear hK K
                (refine d_quiet 20 (by kernel_rfl) rfl (fun K hK => ?_); go_simp; refine hK _ ?_; clear hK K)
                refine d_done (w := w2) rfl (by kernel_rfl) ?_
                go_wp2
                go_roundw
                case rel => exact ⟨i + 1, j + 1, by omega, by omega, by go_num, by go_num, ⟨P ++ [addW x y], hown, HN3.out⟩, hb2.trans hb1⟩
                case measure => simp [intOf]; omega
          · obtain rfl : j = b.length := by omega
            have HN : Hid ((P ++ [x]) ++ joinW (a.drop (i + 1)) (b.drop b.length) = joinW a b) := by
              rw [Hid, ← HJ, List.drop_length, joinW_r, joinW_r]
              simp
            clear HX HJ hjb
            go_wp2_with (at_builtin; refine wp_app_want w.heap.size rfl _ _ rfl _ P x rfl _ rfl ?hg ?HO ?hB ?hn ?_; (case hg => simp); (case HO => exact HO.out); (case hB => exact hb.size); (case hn => omega); intro v1 w1 hown hb1)
            go_roundw
            case rel => exact ⟨i + 1, b.length, by omega, by omega, by go_num, rfl, ⟨P ++ [x], hown, HN.out⟩, hb.trans hb1⟩
            case measure => simp [intOf]; omega
        · obtain rfl : i = a.length := by omega
          by_cases hjb : j < b.length
          · have HY := (K1.out.c.below hb K1.out.lt).el wc_length hjb
            rw [Nat.zero_add] at HY
            rw [drop_at hjb] at HJ
            have hjb2 : (j : Int) < (b.length : Int) := by omega
            generalize b[j]! = y at HY HJ
            have y0 : wr.cell? ⟨g1, j * 3, none⟩ = some (.int .u8 y.b.k) := HY 0 _ rfl
            have y1 : wr.cell? ⟨g1, j * 3 + 1, none⟩ = some (.int .i16 y.b.y) := HY 1 _ rfl
            have y2 : wr.cell? ⟨g1, j * 3 + 2, none⟩ = some (.int .i16 y.n) := HY 2 _ rfl
            have HN : Hid ((P ++ [y]) ++ joinW (a.drop a.length) (b.drop (j + 1)) = joinW a b) := by
              rw [Hid, ← HJ, List.drop_length, joinW_l, joinW_l]
              simp
            clear HY HJ hia
            go_wp2_with (at_builtin; refine wp_app_want w.heap.size rfl _ _ rfl _ P y rfl _ rfl ?hg ?HO ?hB ?hn ?_; (case hg => simp); (case HO => exact HO.out); (case hB => exact hb.size); (case hn => omega); intro v1 w1 hown hb1)
            go_roundw
            case rel => exact ⟨a.length, j + 1, by omega, by omega, rfl, by go_num, ⟨P ++ [y], hown, HN.out⟩, hb.trans hb1⟩
            case measure => simp [intOf]; omega
          · obtain rfl : j = b.length := by omega
            have hP : P = joinW a b := by
              rw [← HJ, List.drop_length, List.drop_length, joinW_l, List.append_nil]
            clear HJ
            rw [← hP] at HF
            replace hP := Lib.hid hP
            obtain ⟨g2, cap, rfl, K2, hB2, hg2, -⟩ := HO.out.lies
            have HV2 := Lib.hid (l02Ok_any g2 0 cap P wr K2.c K2.lt (by omega))
            cases e1 : ordOk P with
            | false =>
              have e5 := Lib.hid e1
              replace HF := Lib.hid (HF.out.trans (if_neg (by rw [e1]; simp)))
              clear e1
              go_wp2_with (go_at_call 99; with_reducible refine HV2.out.mono ?_; rintro e w' ⟨rfl, hb1⟩; rw [e5.out]; replace hb := bstep hb hb1; clear hb1)
              rw [HF.out]
              exact bodyPost_ret (results_tt rfl) rfl ⟨_, rfl, (OwnS.lit hb.size).n, hb.alloc hb.size _⟩
            | true =>
              have e5 := Lib.hid e1
              replace HF := Lib.hid (HF.out.trans (if_pos e1))
              clear e1
              go_wp2_with (go_at_call 99; with_reducible refine HV2.out.mono ?_; rintro e w' ⟨rfl, hb1⟩; rw [e5.out]; replace HO := Lib.hid (HO.out.kept hb1); replace hb := bstep hb hb1; clear hb1)
              rw [HF.out]
              exact bodyPost_ret (results_tt rfl) rfl ⟨_, rfl, HO.out.n, hb⟩
end Go.Proofs.YtbngpcghognojaaGreatDoor
namespace Go.Proofs.YtbngpcghognojaaGreatDoor
open Go.RowKit Go.ChangeShapes Go.WideShapes Go.ChangeAt
set_option linter.unusedVariables false
set_option linter.unusedSimpArgs false
set_option maxRecDepth 100000
set_option maxHeartbeats 4000000
attribute [local go_sem] Oper.qB
section
variable {α : Type} {f : α → List Value} {w w' : World} {B k e E : Nat} {v : Value} {ls : List (List α)}
/-- Slices of elements, each owned and apart from the others, their blocks below T, in an owned slice. -/
def OwnA (f : α → List Value) (k e E : Nat) (w : World) (B T : Nat) (v : Value) (ls : List (List α)) : Prop :=
  ∃ vs : List Value, vs.length = ls.length ∧ OwnS slv w B E 1 v vs ∧ (∀ i, i < ls.length → OwnS f w B e k vs[i]! ls[i]! ∧ ∀ b, vs[i]!.ownBlock = some b → b < T) ∧ ∀ i j, i < j → j < ls.length → Apart vs[i]! vs[j]!
theorem OwnA.kept {T : Nat} (h : OwnA f k e E w B T v ls) (hb : Below w.heap.size w w') : OwnA f k e E w' B T v ls := by
  obtain ⟨vs, h1, h2, h3, h4⟩ := h
  exact ⟨vs, h1, h2.kept hb, fun i hi => ⟨(h3 i hi).1.kept hb, (h3 i hi).2⟩, h4⟩
theorem OwnA.down {T b : Nat} (h : OwnA f k e E w B T v ls) (hb : b ≤ B) : OwnA f k e E w b T v ls := by
  obtain ⟨vs, h1, h2, h3, h4⟩ := h
  exact ⟨vs, h1, h2.down hb, fun i hi => ⟨(h3 i hi).1.down hb, (h3 i hi).2⟩, h4⟩
theorem OwnA.form {T : Nat} (h : OwnA f k e E w B T v ls) : ∃ g cap, v = .slice (some ⟨g, 0, none⟩) ls.length cap := by
  obtain ⟨vs, h1, h2, h3, h4⟩ := h
  obtain ⟨g, cap, hv, _⟩ := h2.lies
  exact ⟨g, cap, by rw [← h1]; exact hv⟩
theorem OwnA.el {T g cap : Nat} (h : OwnA f k e E w B T (.slice (some ⟨g, 0, none⟩) ls.length cap) ls) {i : Nat} (hi : i < ls.length) : g < w.heap.size ∧ ∃ g1 c1, w.cell? ⟨g, i, none⟩ = some (.slice (some ⟨g1, 0, none⟩) ls[i]!.length c1) ∧ Lies f w g1 ls[i]! ∧ ls[i]!.length ≤ c1 := by
  obtain ⟨vs, h1, h2, h3, h4⟩ := h
  obtain ⟨g', cap', hv, K, hB, hg, _⟩ := h2.lies
  obtain ⟨rfl, -⟩ : g = g' ∧ cap = cap' := by
    simp only [Value.slice.injEq, Option.some.injEq, Addr.mk.injEq, and_true, true_and] at hv
    exact ⟨hv.1, hv.2.2⟩
  obtain ⟨g1, c1, hu, KU, -, -, hc⟩ := (h3 i hi).1.lies
  refine ⟨hg, g1, c1, ?_, KU, hc⟩
  have := K.c.el slv_length (i := i) (by omega) 0 vs[i]! rfl
  rw [← hu]
  simpa using this
/-- How many elements there are in all. -/
def tot (ls : List (List α)) : Nat := (ls.map List.length).sum
theorem tot_step {i : Nat} (h : i < ls.length) : tot (ls.take (i + 1)) = tot (ls.take i) + ls[i]!.length := by
  unfold tot
  rw [List.take_succ_eq_append_getElem h, List.map_append, List.sum_append, getB h]
  simp
theorem tot_take_le (i : Nat) : tot (ls.take i) ≤ tot ls := by
  have e : tot ls = tot (ls.take i) + tot (ls.drop i) := by
    unfold tot
    rw [← List.sum_append, ← List.map_append, List.take_append_drop]
  omega
theorem tot_el {i : Nat} (h : i < ls.length) : ls[i]!.length ≤ tot ls := by
  have := tot_step h
  have := tot_take_le (ls := ls) (i + 1)
  omega
/-- Slices of elements that are read. -/
def RdSS (f : α → List Value) (w : World) (A : Option Addr) (ls : List (List α)) : Prop :=
  ls = [] ∨ ∃ g off, A = some ⟨g, off, none⟩ ∧ g < w.heap.size ∧ ∀ i, i < ls.length → ∃ A' c', w.cell? ⟨g, off + i, none⟩ = some (.slice A' ls[i]!.length c') ∧ ls[i]!.length ≤ maxLen ∧ RdA w A' (fl f ls[i]!)
theorem RdSS.below {A : Option Addr} (h : RdSS f w A ls) (hb : Below w.heap.size w w') : RdSS f w' A ls := by
  rcases h with h | ⟨g, off, hA, hg, h⟩
  · exact .inl h
  · refine .inr ⟨g, off, hA, Nat.lt_of_lt_of_le hg hb.size, fun i hi => ?_⟩
    obtain ⟨A', c', h1, h2, h3⟩ := h i hi
    exact ⟨A', c', (hb.cell hg).trans h1, h2, h3.below hb⟩
theorem RdSS.some {A : Option Addr} (h : RdSS f w A ls) (hn : 0 < ls.length) : ∃ g off, A = Option.some ⟨g, off, none⟩ ∧ g < w.heap.size ∧ ∀ i, i < ls.length → ∃ A' c', w.cell? ⟨g, off + i, none⟩ = Option.some (.slice A' ls[i]!.length c') ∧ ls[i]!.length ≤ maxLen ∧ RdA w A' (fl f ls[i]!) := by
  rcases h with h | h
  · rw [h] at hn
    exact absurd hn (Nat.not_lt_zero _)
  · exact h
/-- The marks: nothing but blocks from B to T has changed. -/
def ButR (B T : Nat) (w w' : World) : Prop := Below 0 w w' ∧ ∀ b, b < w.heap.size → ¬ (B ≤ b ∧ b < T) → w'.heap[b]? = w.heap[b]?
theorem ButR.refl {B T : Nat} : ButR B T w w := ⟨Below.refl _ _, fun _ _ _ => rfl⟩
theorem ButR.trans {B T : Nat} {w1 : World} (h : ButR B T w w1) (h' : ButR B T w1 w') : ButR B T w w' :=
  ⟨h.1.trans h'.1, fun b hb hv => (h'.2 b (Nat.lt_of_lt_of_le hb h.1.size) hv).trans (h.2 b hb hv)⟩
theorem ButR.of {T : Nat} (hb : ButV v w w') (hv : ∀ b, v.ownBlock = Option.some b → B ≤ b ∧ b < T) : ButR B T w w' := ⟨hb.1, fun b hl h => hb.2 b hl fun q => h (hv b q)⟩
theorem OwnN.butR {B' T : Nat} {l : List α} (h : OwnN f w B e k v l) (hb : ButR B' T w w') (ha : ∀ b, v.ownBlock = Option.some b → ¬ (B' ≤ b ∧ b < T)) : OwnN f w' B e k v l :=
  ⟨h.1, h.2.imp (fun h => h) fun ⟨g, cap, cur, hv, hg, hh, hr⟩ => ⟨g, cap, cur, hv, hg, by
    rw [hb.2 g (Array.getElem?_eq_some_iff.1 hh).1 (ha g (by rw [hv]; rfl))]
    exact hh, hr⟩⟩
theorem OwnN.lt {l : List α} (h : OwnN f w B e k v l) : ∀ b, v.ownBlock = Option.some b → b < w.heap.size := own_lt h
theorem OwnN.base {l : List α} (h : OwnN f w B e k v l) : ∀ b, v.ownBlock = Option.some b → B ≤ b := own_base h
end
theorem set_fill {vs : List Value} {n k : Nat} (hk : k < n) (hl : vs.length = k) (v z : Value) : (vs ++ List.replicate (n - k) z).set k v = (vs ++ [v]) ++ List.replicate (n - (k + 1)) z := by
  rw [show n - k = (n - (k + 1)) + 1 by omega, List.replicate_succ, List.set_append_right _ _ (by omega), hl, Nat.sub_self, List.set_cons_zero, List.append_assoc]
  rfl
theorem at_old {vs : List Value} {v : Value} {i : Nat} (h : i < vs.length) : (vs ++ [v])[i]! = vs[i]! := by
  rw [getB (by simp; omega), getB h, List.getElem_append_left h]
theorem at_new {vs : List Value} {v : Value} {i : Nat} (h : i = vs.length) : (vs ++ [v])[i]! = v := by
  subst h
  rw [getB (by simp)]
  simp
theorem fill_slot {w : World} {B E n g k cap : Nat} {vs : List Value} {z : Value} (h : w.ownsRow B E 1 (.slice (some ⟨g, 0, none⟩) n cap) n (fl slv (vs ++ List.replicate (n - k) z))) (hk : k < n) (hl : vs.length = k) :
    w.cell? ⟨g, k, none⟩ = some z ∧ ∀ v, (w.setCell ⟨g, k, none⟩ v).ownsRow B E 1 (.slice (some ⟨g, 0, none⟩) n cap) n (fl slv ((vs ++ [v]) ++ List.replicate (n - (k + 1)) z)) := by
  rw [fl_slv] at h
  constructor
  · have := h.cellAt k (by omega)
    rw [List.getElem?_append_right (by omega), hl, Nat.sub_self, List.getElem?_replicate, if_pos (by omega)] at this
    exact this
  · intro v
    have := (h.stored k v).1
    rw [set_fill hk hl] at this
    rw [fl_slv]
    exact this
end Go.Proofs.YtbngpcghognojaaGreatDoor
namespace Go.Proofs.YtbngpcghognojaaGreatDoor
open Go.RowKit
set_option linter.unusedVariables false
set_option linter.unusedSimpArgs false
set_option maxRecDepth 100000
set_option maxHeartbeats 1000000
attribute [local go_sem] Oper.qB
theorem elt_old {β : Type} [Inhabited β] {vs : List β} {v : β} {i : Nat} (h : i < vs.length) : (vs ++ [v])[i]! = vs[i]! := by
  rw [getB (by simp; omega), getB h, List.getElem_append_left h]
theorem elt_new {β : Type} [Inhabited β] {vs : List β} {v : β} {i : Nat} (h : i = vs.length) : (vs ++ [v])[i]! = v := by
  subst h
  rw [getB (by simp)]
  simp
theorem cellB {w w' : World} {g o : Nat} (h : w'.heap[g]? = w.heap[g]?) : w'.cell? ⟨g, o, none⟩ = w.cell? ⟨g, o, none⟩ := by
  unfold World.cell?
  rw [h]
theorem row_butS {w w' : World} {g : Nat} {cs : Array Value} {v : Value} (h : rowOf w g = some cs) (hb : ButV v w w') (hv : v.ownBlock ≠ some g) : rowOf w' g = some cs := by
  obtain ⟨t, ht⟩ := rowOf_some h
  rw [rowOf_of ((hb.2 g (rowOf_lt h) hv).trans ht)]
theorem belowV {w w' : World} (h : Below w.heap.size w w') (v : Value) : ButV v w w' := ⟨h.mono (Nat.zero_le _), fun b hb _ => h.block b hb⟩
section
variable {α : Type} {f : α → List Value} {w w' : World} {B k e E : Nat} {v : Value} {ls : List (List α)} {S S' : Nat → Prop}
/-- All blocks are such as S tells. -/
def OwnP (S : Nat → Prop) (f : α → List Value) (k e E : Nat) (w : World) (B : Nat) (v : Value) (ls : List (List α)) : Prop :=
  ∃ vs : List Value, vs.length = ls.length ∧ OwnS slv w B E 1 v vs ∧ (∀ i, i < ls.length → OwnS f w B e k vs[i]! ls[i]! ∧ ∀ b, vs[i]!.ownBlock = some b → S b) ∧ (∀ i j, i < j → j < ls.length → Apart vs[i]! vs[j]!) ∧ ∀ b, v.ownBlock = some b → S b
theorem OwnP.a (h : OwnP S f k e E w B v ls) : OwnA f k e E w B w.heap.size v ls := by
  obtain ⟨vs, h1, h2, h3, h4, h5⟩ := h
  exact ⟨vs, h1, h2, fun i hi => ⟨(h3 i hi).1, (h3 i hi).1.n.lt⟩, h4⟩
theorem OwnP.kept (h : OwnP S f k e E w B v ls) (hb : Below w.heap.size w w') : OwnP S f k e E w' B v ls := by
  obtain ⟨vs, h1, h2, h3, h4, h5⟩ := h
  exact ⟨vs, h1, h2.kept hb, fun i hi => ⟨(h3 i hi).1.kept hb, (h3 i hi).2⟩, h4, h5⟩
theorem OwnP.imp (h : OwnP S f k e E w B v ls) (hS : ∀ b, b < w.heap.size → S b → S' b) : OwnP S' f k e E w B v ls := by
  obtain ⟨vs, h1, h2, h3, h4, h5⟩ := h
  exact ⟨vs, h1, h2, fun i hi => ⟨(h3 i hi).1, fun b hb => hS b ((h3 i hi).1.n.lt b hb) ((h3 i hi).2 b hb)⟩, h4, fun b hb => hS b (h2.n.lt b hb) (h5 b hb)⟩
theorem OwnP.lit (hB : B ≤ w.heap.size) (hS : ∀ b, w.heap.size ≤ b → S b) : OwnP S f k e E (w.alloc (.cells #[] E)) B (.slice (some ⟨w.heap.size, 0, none⟩) 0 0) [] :=
  ⟨[], rfl, OwnS.lit hB, fun i hi => absurd hi (Nat.not_lt_zero _), fun i j _ hj => absurd hj (Nat.not_lt_zero _), fun b hb => hS b (by
    obtain rfl : w.heap.size = b := by simpa [Value.ownBlock] using hb
    exact Nat.le_refl _)⟩
theorem OwnP.head (h : OwnP S f k e E w B v ls) : ∀ b, v.ownBlock = some b → S b := by
  obtain ⟨vs, h1, h2, h3, h4, h5⟩ := h
  exact h5
theorem OwnP.form (h : OwnP S f k e E w B v ls) : ∃ g cap, v = .slice (some ⟨g, 0, none⟩) ls.length cap := h.a.form
theorem OwnS.far {l : List α} (h : OwnS f w B e k v l) {g o : Nat} (hg : v.ownBlock ≠ some g) (u : Value) : OwnS f (w.setCell ⟨g, o, none⟩ u) B e k v l := ⟨ownsRow_setCell_other h.1 hg u, h.2⟩
theorem OwnP.far (h : OwnP S f k e E w B v ls) {g o : Nat} (hg : ¬ S g) (u : Value) : OwnP S f k e E (w.setCell ⟨g, o, none⟩ u) B v ls := by
  obtain ⟨vs, h1, h2, h3, h4, h5⟩ := h
  exact ⟨vs, h1, h2.far (fun q => hg (h5 g q)) u, fun i hi => ⟨(h3 i hi).1.far (fun q => hg ((h3 i hi).2 g q)) u, (h3 i hi).2⟩, h4, h5⟩
theorem OwnS.but {l : List α} {v' : Value} (h : OwnS f w B e k v l) (hb : ButV v' w w') (ha : Apart v' v) : OwnS f w' B e k v l := ⟨h.n.but hb ha, h.2⟩
/-- The last one, and what may be put in its place. -/
theorem OwnP.last {p : List (List α)} {l : List α} (h : OwnP S f k e E w B v (p ++ [l])) (hE : E ≠ e) :
    ∃ g cap u, v = .slice (some ⟨g, 0, none⟩) (p.length + 1) cap ∧ B ≤ g ∧ g < w.heap.size ∧ S g ∧ w.cell? ⟨g, p.length, none⟩ = some u ∧ OwnS f w B e k u l ∧ (∀ b, u.ownBlock = some b → S b) ∧ u.ownBlock ≠ some g ∧
      ∀ w2 u' l', OwnS f w2 B e k u' l' → (∀ b, u'.ownBlock = some b → S b) → ButV u w w2 → Away u u' w →
        w2.frozen? ⟨g, p.length, none⟩ = false ∧ OwnP S f k e E (w2.setCell ⟨g, p.length, none⟩ u') B (.slice (some ⟨g, 0, none⟩) (p.length + 1) cap) (p ++ [l']) := by
  obtain ⟨vs, h1, h2, h3, h4, h5⟩ := h
  have hl : vs.length = p.length + 1 := by rw [h1]; simp
  have hlast := h3 p.length (by simp)
  have el : (p ++ [l])[p.length]! = l := elt_new rfl
  rw [el] at hlast
  obtain ⟨hU, hUS⟩ := hlast
  obtain ⟨g, cap, hv, K, hB, hg, _⟩ := h2.lies
  have hu := K.c.el slv_length (i := p.length) (by omega) 0 vs[p.length]! rfl
  rw [hl] at hv
  have hAt := apart_types h2.n hU.n hE
  refine ⟨g, cap, vs[p.length]!, hv, hB, hg, h5 g (by rw [hv]; rfl), by simpa using hu, hU, hUS, fun q => hAt g (by rw [hv]; rfl) q, fun w2 u' l' hU' hS' hb ha => ?_⟩
  have h2' := h2.but hb hAt.symm
  rw [hv] at h2'
  have hst0 := h2'.1
  rw [hl] at hst0
  have hst := (hst0.stored p.length u').1
  have hON : OwnS slv (w2.setCell ⟨g, p.length, none⟩ u') B E 1 (.slice (some ⟨g, 0, none⟩) (p.length + 1) cap) (vs.set p.length u') := by
    refine ⟨?_, g, cap, by rw [List.length_set, hl]⟩
    rw [fl_slv] at hst ⊢
    rw [List.length_set, hl]
    exact hst
  have hBV : ButV (.slice (some ⟨g, 0, none⟩) (p.length + 1) cap) w2 (w2.setCell ⟨g, p.length, none⟩ u') := ButV.set
  refine ⟨hst0.frozenAt p.length, vs.set p.length u', by rw [List.length_set, hl]; simp, hON, fun i hi => ?_, fun i j hij hj => ?_, fun b hb' => h5 b (by rw [hv]; exact hb')⟩
  · have hi' : i < p.length + 1 := by simpa using hi
    rcases Nat.lt_or_ge i p.length with q | q
    · have e1 : (vs.set p.length u')[i]! = vs[i]! := by rw [getB (by rw [List.length_set]; omega), getB (by omega), List.getElem_set_ne (by omega)]
      have e2 : (p ++ [l'])[i]! = (p ++ [l])[i]! := by rw [elt_old q, elt_old q]
      rw [e1, e2]
      have h3i := h3 i (by simp; omega)
      have h3i' := h3i.1.but hb ((h4 i p.length q (by simp)).symm)
      exact ⟨h3i'.but hBV (apart_types h2'.n h3i'.n hE), h3i.2⟩
    · obtain rfl : i = p.length := by omega
      have e1 : (vs.set p.length u')[p.length]! = u' := by rw [getB (by rw [List.length_set]; omega), List.getElem_set_self]
      rw [e1, elt_new rfl]
      exact ⟨hU'.but hBV (apart_types h2'.n hU'.n hE), hS'⟩
  · have hj' : j < p.length + 1 := by simpa using hj
    have e1 : (vs.set p.length u')[i]! = vs[i]! := by rw [getB (by rw [List.length_set]; omega), getB (by omega), List.getElem_set_ne (by omega)]
    rcases Nat.lt_or_ge j p.length with q | q
    · have e2 : (vs.set p.length u')[j]! = vs[j]! := by rw [getB (by rw [List.length_set]; omega), getB (by omega), List.getElem_set_ne (by omega)]
      rw [e1, e2]
      exact h4 i j hij (by simp; omega)
    · obtain rfl : j = p.length := by omega
      have e2 : (vs.set p.length u')[p.length]! = u' := by rw [getB (by rw [List.length_set]; omega), List.getElem_set_self]
      rw [e1, e2]
      intro b hb1 hb2
      exact ha b ((h3 i (by simp; omega)).1.n.lt b hb1) (fun q => h4 i p.length hij (by simp) b hb1 q) hb2
end
section
variable {α : Type} {f : α → List Value} {P : Program} {ops : Array Oper} {rest : List Oper} {o : Oper} {a : Act} {Q : Exit → Act → World → Prop} {W : World} {S S0 : Nat → Prop}
/-- append(v, u), u a slice that lies apart. -/
theorem wp_app_inP (B : Nat) (hgd : o.guard = none) (s x : Operand) (t E : TypeId) (ho : o.op = .call { callee := .builtin .append, args := #[s, x], argTypes := #[t, t] })
    (z : Value) (ht : P.underlying t = some (.slice E)) (hinfo : (P.info? E).map (fun i => (i.zero, i.size, i.bytes)) = some (some z, 1, 24)) (hzs : z.cells.size = 1) (k e : Nat) (hE : E ≠ e)
    (v : Value) (ls : List (List α)) (l : List α) (u : Value) (hs : a.eval s = v) (g : Nat) (hx : a.eval x = .slice (some ⟨g, 0, none⟩) 1 1) (hg : g = W.heap.size)
    (HO : OwnP S0 f k e E W B v ls) (HU : OwnS f W B e k u l) (hu : ∀ b, u.ownBlock = some b → ¬ S0 b ∧ S b) (hSS : ∀ b, S0 b → S b) (hSn : ∀ b, W.heap.size ≤ b → S b) (hB : B ≤ W.heap.size) (hn : ls.length ≤ 100000000)
    (h : ∀ v1 w1, OwnP S f k e E w1 B v1 (ls ++ [l]) → (Below B W w1 ∧ ButV v W w1 ∧ Away v v1 W) → wpList P ops Q rest (a.put o.dst v1) w1) : wpList P ops Q (o :: rest) a (W.alloc (.cells #[u] E)) := by
  obtain ⟨vs, h1, h2, h3, h4, h5⟩ := HO
  refine wp_app3 (P := P) B hgd s x t E ho z 1 24 ht hinfo hzs (by decide) v vs.length (fl slv vs) [u] hs g hx hg rfl (fun q hq => ?_) h2.1 hB (by omega) (by decide) (fun v1 w1 hown hb => h v1 w1 ⟨vs ++ [u], by simp [h1], OwnS.grown (by rw [List.length_append, fl_append, fl_one]; exact hown), fun i hi => ?_, fun i j hij hj => ?_, fun b hb' => ?_⟩ hb)
  · obtain rfl : q = u := by simpa using hq
    obtain ⟨g', c, rfl⟩ := HU.2
    rfl
  · rw [List.length_append, List.length_singleton] at hi
    rcases Nat.lt_or_ge i ls.length with q | q
    · rw [elt_old (by omega), elt_old q]
      exact ⟨(h3 i q).1.but hb.2.1 (apart_types h2.n (h3 i q).1.n hE), fun b hb' => hSS b ((h3 i q).2 b hb')⟩
    · rw [elt_new (by omega), elt_new (by omega)]
      exact ⟨HU.but hb.2.1 (apart_types h2.n HU.n hE), fun b hb' => (hu b hb').2⟩
  · rw [List.length_append, List.length_singleton] at hj
    rw [elt_old (i := i) (by omega)]
    rcases Nat.lt_or_ge j ls.length with q | q
    · rw [elt_old (by omega)]
      exact h4 i j hij q
    · rw [elt_new (by omega)]
      exact fun b hb1 hb2 => (hu b hb2).1 ((h3 i (by omega)).2 b hb1)
  · rcases Nat.lt_or_ge b W.heap.size with q | q
    · refine hSS b (h5 b ?_)
      exact Classical.byContradiction fun hne => hb.2.2 b q hne hb'
    · exact hSn b q
end
/-- append(v, x), run, and where the new slice lies. -/
theorem app_w3 (B : Nat) (W : World) (v : Value) (l : List Wt) (y : Wt) (HO : OwnS wc W B 81 3 v l) (hB : B ≤ W.heap.size) (hn : l.length ≤ 100000000) (ty : TypeId) :
    ∃ v1 w1, (Builtin.append_ #[64, 64] ty #[v, .slice (some ⟨W.heap.size, 0, none⟩) 1 1]).run Tryz.prog (W.alloc (.cells #[.int .u8 y.b.k, .int .i16 y.b.y, .int .i16 y.n] 81)) = .ok v1 w1 ∧ OwnS wc w1 B 81 3 v1 (l ++ [y]) ∧ Below B W w1 ∧ ButV v W w1 ∧ Away v v1 W := by
  obtain ⟨i0, hi, hzz⟩ := Option.map_eq_some_iff.1 infoWantS
  simp only [Prod.mk.injEq] at hzz
  obtain ⟨hz0, hz1, hz2⟩ := hzz
  obtain ⟨v1, w1, hrun, hown, hg, -, hblk⟩ := run_append_own_at (P := Tryz.prog) (W.alloc (.cells (wc y).toArray 81)) B 64 ty 81 i0 _ 3 6 Tryz.underlying64 hi hz0 hz1 hz2 rfl (by decide) v l.length (fl wc l) (HO.1.alloc _) ⟨W.heap.size, 0, none⟩ 1 1 (wc y) rfl
    (fun j u hj => by rw [addr_at]; simp only [World.cell?_alloc_new]; simpa using hj) (fun u hu => wv_one y u (by simpa using hu)) (by simp only [maxLen]; omega) (by omega) (by simp; omega)
  have hb := ((Below.refl B W).alloc hB (.cells (wc y).toArray 81)).grown hg (by simp; omega) (fun k hk => own_base HO.1 k hk)
  refine ⟨v1, w1, hrun, OwnS.grown (by rw [List.length_append, fl_append, fl_one]; exact hown), hb, ⟨⟨hb.os, hb.tape, hb.output, hb.size, fun k hk => absurd hk (Nat.not_lt_zero _)⟩, fun b hb1 hv => ?_⟩, fun b hb1 hv he => ?_⟩
  · rw [hg.block b (by simp; omega) (fun e => hv e.symm)]
    exact (Below.refl W.heap.size W).alloc (Nat.le_refl _) (.cells (wc y).toArray 81) |>.block b hb1
  · rcases hblk with h | h
    · rw [h] at he
      exact hv he
    · rw [h] at he
      simp at he
      omega
end Go.Proofs.YtbngpcghognojaaGreatDoor
