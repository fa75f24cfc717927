/- Texts of the claim, joined (17 of 18): OwnR. -/
import Derived.Test.YtbngpcghognojaaB10
import Derived.Test.YtbngpcghognojaaB11
import Derived.Test.YtbngpcghognojaaB16
namespace Go.Proofs.Ytbngpcghognojaa
open Go Go.RowKit
set_option linter.unusedVariables false
set_option linter.unusedSimpArgs false
set_option maxRecDepth 100000
set_option maxHeartbeats 4000000
attribute [local go_sem] Oper.qB
theorem sFewestOpen_own (g0 c0 : Nat) (lc : List Cr) (g1 c1 : Nat) (l : List Wt) (w : World) (K0 : Lies cc w g0 lc) (K1 : Lies wc w g1 l) (hn : lc.length ≤ 1048576) (hl : l.length ≤ 1048576) (e : fillI lc l = 0) (ha : askOk lc l = true) (hf : lackL (cntL lc) l = []) :
    Calls Try.prog 8 #[.slice (some ⟨g0, 0, none⟩) lc.length c0, .slice (some ⟨g1, 0, none⟩) l.length c1] w fun e w' => ∃ v, e = .returned (.tuple #[v, .int .i64 (fewR lc l).2]) ∧ OwnS iv w' w.heap.size 2 1 v (fewR lc l).1 ∧ Below w.heap.size w w' := by
  have H := Below.refl w.heap.size w
  replace K0 := Lib.hid K0
  replace K1 := Lib.hid K1
  have HF := Lib.hid (show fewR lc l = ((fewS lc l).1, 0) by rw [fewR, if_pos e])
  have HI := Lib.hid e
  have h8 := ask_le ha
  clear e ha hf
  go_enter Try.func8, Try.ntmps8
  go_wp2_with (first | (go_at_call 38; with_reducible refine (l02Filled_any g0 c0 lc g1 c1 l _ (K0.out.below H) (K1.out.below H) hn hl).mono ?_; rintro e w' ⟨rfl, hb⟩; rw [HI.out]; replace H := bstep H hb; clear hb) | (go_at_call 39; with_reducible refine (l02Fewest_any _ c0 lc g1 0 c1 l _ (K0.out.below H).rd (K1.out.below H).c (K1.out.below H).lt h8.1 h8.2).mono ?_; rintro e w2 ⟨v2, rfl, O2, hb⟩; replace O2 := O2.down H.size; replace H := bstep H hb; clear hb))
  rw [HF.out]
  exact bodyPost_ret (results_tt rfl) rfl ⟨_, rfl, O2, H⟩
theorem sGreedyOpen_own (g0 c0 : Nat) (lc : List Cr) (g1 c1 : Nat) (l : List Wt) (w : World) (K0 : Lies cc w g0 lc) (K1 : Lies wc w g1 l) (hn : lc.length ≤ 1048576) (hl : l.length ≤ 1048576) (e : fillI lc l = 0) (ha : askOk lc l = true) (hf : lackL (cntL lc) l = []) :
    Calls Try.prog 10 #[.slice (some ⟨g0, 0, none⟩) lc.length c0, .slice (some ⟨g1, 0, none⟩) l.length c1] w fun e w' => ∃ v, e = .returned (.tuple #[v, .int .i64 (greedyR lc l).2]) ∧ OwnS iv w' w.heap.size 2 1 v (greedyR lc l).1 ∧ Below w.heap.size w w' := by
  have H := Below.refl w.heap.size w
  replace K0 := Lib.hid K0
  replace K1 := Lib.hid K1
  have HF := Lib.hid (show greedyR lc l = (finG lc l [], 0) by rw [greedyR, if_pos e])
  have HI := Lib.hid e
  have HZ := Lib.hid hf
  have h8 := ask_le ha
  clear e ha hf
  go_enter Try.func10, Try.ntmps10
  go_wp2_with (go_at_call 38; with_reducible refine (l02Filled_any g0 c0 lc g1 c1 l _ (K0.out.below H) (K1.out.below H) hn hl).mono ?_; rintro e w' ⟨rfl, hb⟩; rw [HI.out]; replace H := bstep H hb; clear hb)
  go_loopw [7] (fun v wr => ∃ out : List Int, Hid (Good lc.length out ∧ finG lc l out = finG lc l []) ∧ Hid (OwnS iv wr w.heap.size 2 1 v out) ∧ Below w.heap.size w wr) (fun v _ => lc.length - lenOf v)
  case atStart => exact ⟨[], ⟨Good.nil _, rfl⟩, OwnS.lit H.size, H.alloc H.size _⟩
  case round =>
    clear H
    obtain ⟨out, HG, HO, hb⟩ := hrel
    obtain ⟨wo, hwo⟩ : ∃ wo, wo = wr := ⟨_, rfl⟩
    subst hwo
    obtain ⟨g, cap, rfl, L, _, hg, hc⟩ := HO.out.lies
    replace L := Lib.hid L
    have K0' := Lib.hid (K0.out.below hb)
    have K1' := Lib.hid (K1.out.below hb)
    have HOL : (opL lc out).length ≤ 1048576 := Nat.le_trans (opK_le lc out out.length) (by have := HG.out.1.le; omega)
    have H := Below.refl wo.heap.size wo
    have HLE := lackL_le (cntL (opL lc out)) l
    have HS := Lib.hid (finG_stop (l := l) HG.out.1)
    have HP := Lib.hid (finG_step (l := l) HG.out.1)
    have HB := Lib.hid (best_good (l := l) HG.out.1 HZ.out)
    have HX : Hid (leftL lc l out = lackL (cntL (opL lc out)) l) := rfl
    have hgl := HG.out.1.le
    have HLK := l02Lack_any (some ⟨g0, 0, none⟩) c0 lc g1 0 c1 l (some ⟨g, 0, none⟩) cap out wo K0'.out.rd K1'.out.c K1'.out.lt (by rw [← fl_iv]; exact L.out.rd) HG.out.1.inn hc hn (by omega) (by have := HG.out.1.le; omega)
    generalize lackL (cntL (opL lc out)) l = ll at HLE HX HLK
    replace HLK := Lib.hid HLK
    rw [HX.out] at HS HP HB
    rcases Nat.eq_zero_or_pos ll.length with h0 | h0
    · have HS2 := Lib.hid (HS.out (List.length_eq_zero_iff.1 h0))
      go_wp2_with (go_at_call 34; with_reducible refine HLK.out.mono ?_; rintro e w3 ⟨v3, rfl, O3, hb3⟩; obtain ⟨g4, p4, rfl, KL, -⟩ := O3.lies; replace H := bstep H hb3; clear hb3 O3)
      rw [HF.out]
      exact bodyPost_ret (results_tt rfl) rfl ⟨_, rfl, by rw [← HG.out.2, HS2.out]; exact HO.out.kept H, bstep hb H⟩
    · have hne : ll ≠ [] := fun q => by simp [q] at h0
      have HP2 := Lib.hid (HP.out hne)
      have HB2 := Lib.hid (HB.out hne)
      have hz : ((ll.length : Int) == 0) = false := by rw [beq_eq_false_iff_ne]; omega
      clear HP HB hne
      go_wp2_with (go_at_call 34; with_reducible refine HLK.out.mono ?_; rintro e w3 ⟨v3, rfl, O3, hb3⟩; obtain ⟨g4, p4, rfl, KL, -⟩ := O3.lies; replace H := bstep H hb3; clear hb3 O3)
      replace KL := Lib.hid KL
      have K0i := Lib.hid (K0'.out.below H)
      have Lo := Lib.hid (L.out.below H)
      have HH := Lib.hid H
      clear H
      go_loopw [9, 10, 11] (fun b m i wr => ∃ k : Nat, k ≤ lc.length ∧ i = .int .i64 k ∧ b = .int .i64 (bestK lc ll out k).1 ∧ m = .int .i64 (bestK lc ll out k).2 ∧ Hid (Below w3.heap.size w3 wr)) (fun _ _ i _ => lc.length - (intOf i).toNat)
      case atStart => exact ⟨0, Nat.zero_le _, rfl, rfl, rfl, Below.refl _ _⟩
      case round =>
        obtain ⟨k, hk, rfl, rfl, rfl, HQ⟩ := hrel
        by_cases hlt : k < lc.length
        · have HXc := (K0i.out.below HQ.out).c.el cc_length hlt
          rw [Nat.zero_add] at HXc
          replace HXc := Lib.hid (⟨HXc, (K0i.out.below HQ.out).lt⟩ : _ ∧ _)
          have HKL := Lib.hid (KL.out.below HQ.out)
          have HLo := Lib.hid (Lo.out.below HQ.out)
          have HBK : Hid (bestK lc ll out (k + 1) = if (!out.contains (k : Int) && (decide ((bestK lc ll out k).1 < 0) || decide ((bestK lc ll out k).2 < useW lc[k]! ll))) = true then ((k : Int), useW lc[k]! ll) else bestK lc ll out k) := rfl
          have hlt2 : (k : Int) < (lc.length : Int) := by omega
          generalize lc[k]! = c at HXc HBK
          generalize bestK lc ll out k = p at HBK ⊢
          obtain ⟨bk, mk⟩ := p
          have H := Below.refl wr.heap.size wr
          have hus := fun W h h1 b b1 => l02Useful_any g0 (k * 24) g4 0 p4 c ll W h h1 b b1 (by omega)
          have hcn := fun W h => l00Has_rd (some ⟨g, 0, none⟩) cap out.length out (k : Int) W h rfl (by omega)
          generalize useW c ll = u at hus HBK
          generalize out.contains (k : Int) = r at hcn HBK
          cases r with
          | true =>
            have HBK2 := Lib.hid (show bestK lc ll out (k + 1) = (bk, mk) by rw [HBK.out]; rfl)
            clear HBK
            go_wp2_with (first | (go_at_call 45; with_reducible refine (hus _ (HXc.out.1.below H HXc.out.2) (Nat.lt_of_lt_of_le HXc.out.2 H.size) (HKL.out.below H).c (HKL.out.below H).lt).mono ?_; rintro e w2 ⟨rfl, hb2⟩; replace H := bstep H hb2; clear hb2) | (go_at_call 44; with_reducible refine (hcn _ (by rw [← fl_iv]; exact (HLo.out.below H).rd)).mono ?_; rintro e w2 ⟨rfl, rfl⟩))
            go_roundw
            case rel => exact ⟨k + 1, by omega, by go_num, by rw [HBK2.out], by rw [HBK2.out], bstep HQ.out H⟩
            case measure => simp [intOf]; omega
          | false =>
            by_cases hneg : bk < 0
            · have HBK2 := Lib.hid (show bestK lc ll out (k + 1) = ((k : Int), u) by rw [HBK.out]; simp [hneg])
              clear HBK
              go_wp2_with (first | (go_at_call 45; with_reducible refine (hus _ (HXc.out.1.below H HXc.out.2) (Nat.lt_of_lt_of_le HXc.out.2 H.size) (HKL.out.below H).c (HKL.out.below H).lt).mono ?_; rintro e w2 ⟨rfl, hb2⟩; replace H := bstep H hb2; clear hb2) | (go_at_call 44; with_reducible refine (hcn _ (by rw [← fl_iv]; exact (HLo.out.below H).rd)).mono ?_; rintro e w2 ⟨rfl, rfl⟩))
              go_roundw
              case rel => exact ⟨k + 1, by omega, by go_num, by rw [HBK2.out], by rw [HBK2.out], bstep HQ.out H⟩
              case measure => simp [intOf]; omega
            · by_cases hgt : mk < u
              · have HBK2 := Lib.hid (show bestK lc ll out (k + 1) = ((k : Int), u) by rw [HBK.out]; simp [hgt])
                clear HBK
                go_wp2_with (first | (go_at_call 45; with_reducible refine (hus _ (HXc.out.1.below H HXc.out.2) (Nat.lt_of_lt_of_le HXc.out.2 H.size) (HKL.out.below H).c (HKL.out.below H).lt).mono ?_; rintro e w2 ⟨rfl, hb2⟩; replace H := bstep H hb2; clear hb2) | (go_at_call 44; with_reducible refine (hcn _ (by rw [← fl_iv]; exact (HLo.out.below H).rd)).mono ?_; rintro e w2 ⟨rfl, rfl⟩))
                go_roundw
                case rel => exact ⟨k + 1, by omega, by go_num, by rw [HBK2.out], by rw [HBK2.out], bstep HQ.out H⟩
                case measure => simp [intOf]; omega
              · have HBK2 := Lib.hid (show bestK lc ll out (k + 1) = (bk, mk) by rw [HBK.out]; simp [hgt, hneg])
                clear HBK
                go_wp2_with (first | (go_at_call 45; with_reducible refine (hus _ (HXc.out.1.below H HXc.out.2) (Nat.lt_of_lt_of_le HXc.out.2 H.size) (HKL.out.below H).c (HKL.out.below H).lt).mono ?_; rintro e w2 ⟨rfl, hb2⟩; replace H := bstep H hb2; clear hb2) | (go_at_call 44; with_reducible refine (hcn _ (by rw [← fl_iv]; exact (HLo.out.below H).rd)).mono ?_; rintro e w2 ⟨rfl, rfl⟩))
                go_roundw
                case rel => exact ⟨k + 1, by omega, by go_num, by rw [HBK2.out], by rw [HBK2.out], bstep HQ.out H⟩
                case measure => simp [intOf]; omega
        · obtain rfl : k = lc.length := by omega
          have HO2 := Lib.hid (HO.out.kept (bstep HH.out HQ.out))
          have hb2 := Lib.hid (bstep hb (bstep HH.out HQ.out))
          have hB2 := HB2.out.le
          rw [List.length_append, List.length_singleton] at hB2
          have hG2 := HG.out.2
          replace HP2 := Lib.hid (HP2.out.symm.trans hG2)
          clear hG2
          generalize (bestK lc ll out lc.length).1 = bk at HP2 HB2 ⊢
          generalize (bestK lc ll out lc.length).2 = mk
          go_wp2_with (at_builtin; refine wp_app_num w.heap.size rfl _ _ rfl _ out bk rfl _ rfl ?hg ?HO ?hB ?hn ?_; (case hg => simp); (case HO => exact HO2.out); (case hB => exact hb2.out.size); (case hn => omega); intro v1 w1 hown hb3)
          obtain ⟨g8, cap8, rfl, -⟩ := hown.lies
          go_roundw
          case rel => exact ⟨out ++ [bk], ⟨HB2.out, HP2.out⟩, hown, hb2.out.trans hb3⟩
          case measure => show lc.length - (out ++ [bk]).length < lc.length - out.length; rw [List.length_append, List.length_singleton]; omega
theorem FillOrder_own (g0 c0 : Nat) (lc : List Cr) (g1 c1 : Nat) (l : List Wt) (w : World) (K0 : Lies cc w g0 lc) (K1 : Lies wc w g1 l) (hn : lc.length ≤ 1048576) (hl : l.length ≤ 1048576) (e : fillI lc l = 0) (ha : askOk lc l = true) (hf : lackL (cntL lc) l = []) :
    Calls Try.prog 23 #[.slice (some ⟨g0, 0, none⟩) lc.length c0, .slice (some ⟨g1, 0, none⟩) l.length c1] w fun e w' => ∃ v u, e = .returned (.tuple #[v, u, .int .i64 (fillOR lc l).2.2]) ∧ OwnS cc w' w.heap.size 44 24 v (fillOR lc l).1 ∧ OwnS cc w' w.heap.size 44 24 u (fillOR lc l).2.1 ∧ Below w.heap.size w w' := by
  have H := Below.refl w.heap.size w
  replace K0 := Lib.hid K0
  replace K1 := Lib.hid K1
  have HF := Lib.hid (show fillOR lc l = ((outL lc l (fewS lc l).1).1, packL (botsL l), 0) by rw [fillOR, if_pos e])
  have HI := Lib.hid e
  have HZ := Lib.hid hf
  have h8 := ask_le ha
  have hok : ordOk l = true := by
    unfold askOk at ha
    rw [Bool.and_eq_true] at ha
    exact ha.2
  have HG := Lib.hid (fewS_good (lc := lc) (l := l))
  have HN := Lib.hid (ok_nonneg hok)
  have HFL := Lib.hid (fewS_le lc l)
  have HFW := fun A W hr hC hb => fewest_any A c0 lc g1 0 c1 l W hr hC hb h8.1 h8.2 HZ.out
  clear e ha hf hok
  generalize (fewS lc l).1 = ks at HF HG HFL HFW
  have HFW2 := Lib.hid HFW
  clear HFW
  have HTO := Lib.hid (fun A c W k0 hC hb1 h2 => takeOut_any g0 c0 lc g1 0 c1 l A c ks W k0 hC hb1 h2 HG.out.inn h8.1 h8.2 HN.out (by have := HFL.out; omega))
  go_enter Try.func23, Try.ntmps23
  go_wp2_with (first | (go_at_call 36; with_reducible refine (fillCode_any g0 c0 lc g1 c1 l _ (K0.out.below H) (K1.out.below H) hn hl).mono ?_; rintro e w' ⟨rfl, hb⟩; rw [HI.out]; replace H := bstep H hb; clear hb) | (go_at_call 37; with_reducible refine (HFW2.out _ _ (K0.out.below H).rd (K1.out.below H).c (K1.out.below H).lt).mono ?_; rintro e w2 ⟨v2, rfl, O2, hb⟩; obtain ⟨A2, c2, rfl, -, hrd⟩ := O2.rd; rw [fl_iv] at hrd; replace hrd := Lib.hid hrd; replace H := bstep H hb; clear hb O2) | (go_at_call 54; with_reducible refine (HTO.out _ _ _ (K0.out.below H) (K1.out.below H).c (K1.out.below H).lt hrd.out).mono ?_; rintro e w3 ⟨v3, u3, rfl, O3, P3, hb⟩; replace O3 := Lib.hid (O3.down H.size); replace H := bstep H hb; clear hb P3) | (go_at_call 56; with_reducible refine (casesFor_any g1 0 c1 l _ (K1.out.below H).c (K1.out.below H).lt h8.2 HN.out).mono ?_; rintro e w4 ⟨v4, rfl, O4, hb⟩; replace O4 := O4.down H.size; have O5 := O3.out.kept hb; replace H := bstep H hb; clear hb))
  rw [HF.out]
  exact bodyPost_ret (results_ttt rfl) rfl ⟨_, _, rfl, O5, O4, H⟩
theorem sLackBehind_own (g0 c0 : Nat) (lc : List Cr) (g1 c1 : Nat) (l : List Wt) (g2 c2 : Nat) (ks : List Int) (w : World) (K0 : Lies cc w g0 lc) (K1 : Lies wc w g1 l) (K2 : Lies iv w g2 ks) (hc : ks.length ≤ c2) (hn : lc.length ≤ 1048576) (hl : l.length ≤ 1048576) (hk : ks.length ≤ 1048576) (e0 : openI lc l ks = 0) :
    Calls Try.prog 17 #[.slice (some ⟨g0, 0, none⟩) lc.length c0, .slice (some ⟨g1, 0, none⟩) l.length c1, .slice (some ⟨g2, 0, none⟩) ks.length c2] w fun e w' => ∃ v, e = .returned (.tuple #[v, .int .i64 (lackR lc l ks).2]) ∧ OwnS wc w' w.heap.size 54 3 v (lackR lc l ks).1 ∧ Below w.heap.size w w' := by
  have H := Below.refl w.heap.size w
  replace K0 := Lib.hid K0
  replace K1 := Lib.hid K1
  replace K2 := Lib.hid K2
  by_cases e1 : openI lc l ks = 0
  · have h8 := ask_le (openI_zero e1).1
    have HK := Lib.hid (kin_all (openI_zero e1).2)
    have HF := Lib.hid (show lackR lc l ks = (lackL (cntL (opL lc ks)) l, 0) by rw [lackR, if_pos e1])
    have HI := Lib.hid e1
    have HL := Lib.hid (len_none _ (lackL (cntL (opL lc ks)) l) rfl)
    have HLE := lackL_le (cntL (opL lc ks)) l
    have HOL : (opL lc ks).length ≤ 1048576 := Nat.le_trans (opK_le lc ks ks.length) hk
    clear e1
    go_enter Try.func17, Try.ntmps17
    go_wp2_with (first | (go_at_call 50; with_reducible refine (l02Opened_any g0 c0 lc g1 c1 l (some ⟨g2, 0, none⟩) c2 ks _ (K0.out.below H) (K1.out.below H) (by rw [← fl_iv]; exact (K2.out.below H).rd) hn hl hk).mono ?_; rintro e w' ⟨rfl, hb⟩; rw [HI.out]; replace H := bstep H hb; clear hb) | (go_at_call 34; with_reducible refine (l02Lack_any (some ⟨g0, 0, none⟩) c0 lc g1 0 c1 l (some ⟨g2, 0, none⟩) c2 ks _ (K0.out.below H).rd (K1.out.below H).c (K1.out.below H).lt (by rw [← fl_iv]; exact (K2.out.below H).rd) HK.out hc hn (by omega) hk).mono ?_; rintro e w3 ⟨v3, rfl, O3, hb⟩; replace O3 := O3.down H.size; replace H := bstep H hb; clear hb))
    rw [HF.out]
    exact bodyPost_ret (results_tt rfl) rfl ⟨_, rfl, O3, H⟩
  · exact absurd e0 e1
theorem TakeOut_own (g0 c0 : Nat) (lc : List Cr) (g1 c1 : Nat) (l : List Wt) (g2 c2 : Nat) (ks : List Int) (w : World) (K0 : Lies cc w g0 lc) (K1 : Lies wc w g1 l) (K2 : Lies iv w g2 ks) (hc : ks.length ≤ c2) (hn : lc.length ≤ 1048576) (hl : l.length ≤ 1048576) (hk : ks.length ≤ 1048576) (e0 : openI lc l ks = 0) (hz0 : leftL lc l ks = []) :
    Calls Try.prog 21 #[.slice (some ⟨g0, 0, none⟩) lc.length c0, .slice (some ⟨g1, 0, none⟩) l.length c1, .slice (some ⟨g2, 0, none⟩) ks.length c2] w fun e w' => ∃ v u, e = .returned (.tuple #[v, u, .int .i64 (takeOR lc l ks).2.2]) ∧ OwnS cc w' w.heap.size 44 24 v (takeOR lc l ks).1 ∧ OwnS bc w' w.heap.size 42 2 u (takeOR lc l ks).2.1 ∧ Below w.heap.size w w' := by
  have H := Below.refl w.heap.size w
  replace K0 := Lib.hid K0
  replace K1 := Lib.hid K1
  replace K2 := Lib.hid K2
  by_cases e1 : openI lc l ks = 0
  · have ha := (openI_zero e1).1
    have h8 := ask_le ha
    have hok : ordOk l = true := by
      unfold askOk at ha
      rw [Bool.and_eq_true] at ha
      exact ha.2
    have HK := Lib.hid (kin_all (openI_zero e1).2)
    have HN := Lib.hid (ok_nonneg hok)
    have HI := Lib.hid e1
    have HF : Hid (takeOR lc l ks = if leftL lc l ks = [] then ((outL lc l ks).1, (outL lc l ks).2, 0) else ([], [], 4)) := by rw [Hid, takeOR, if_pos e1]
    have HLE := lackL_le (cntL (opL lc ks)) l
    have HOL : (opL lc ks).length ≤ 1048576 := Nat.le_trans (opK_le lc ks ks.length) hk
    have HTO := Lib.hid (fun A c W k0 hC hb1 h2 => takeOut_any g0 c0 lc g1 0 c1 l A c ks W k0 hC hb1 h2 HK.out h8.1 h8.2 HN.out hk)
    have HLK := fun A c W h b hb1 => lack_any A c (opL lc ks) g1 0 c1 l W h b hb1 HOL (by omega)
    clear e1 ha hok
    unfold leftL at HF hz0
    generalize lackL (cntL (opL lc ks)) l = ll at HF HLE HLK hz0
    rcases Nat.eq_zero_or_pos ll.length with h0 | h0
    · have HF2 := Lib.hid (show takeOR lc l ks = ((outL lc l ks).1, (outL lc l ks).2, 0) by rw [HF.out, if_pos (List.length_eq_zero_iff.1 h0)])
      go_enter Try.func21, Try.ntmps21
      go_wp2_with (first | (go_at_call 47; with_reducible refine (openCode_any g0 c0 lc g1 c1 l (some ⟨g2, 0, none⟩) c2 ks _ (K0.out.below H) (K1.out.below H) (by rw [← fl_iv]; exact (K2.out.below H).rd) hn hl hk).mono ?_; rintro e w' ⟨rfl, hb⟩; rw [HI.out]; replace H := bstep H hb; clear hb) | (go_at_call 41; with_reducible refine (opened_any (some ⟨g0, 0, none⟩) c0 lc (some ⟨g2, 0, none⟩) c2 ks _ (K0.out.below H).rd (by rw [← fl_iv]; exact (K2.out.below H).rd) HK.out hc hn hk).mono ?_; rintro e w2 ⟨v2, rfl, O2, hb⟩; obtain ⟨g3, p3, rfl, KO, -⟩ := O2.lies; replace KO := Lib.hid KO; replace H := bstep H hb; clear hb O2) | (go_at_call 40; with_reducible refine (HLK _ p3 _ KO.out.rd (K1.out.below H).c (K1.out.below H).lt).mono ?_; rintro e w3 ⟨v3, rfl, O3, hb⟩; obtain ⟨g4, p4, rfl, -⟩ := O3.lies; replace H := bstep H hb; clear hb O3) | (go_at_call 54; with_reducible refine (HTO.out _ _ _ (K0.out.below H) (K1.out.below H).c (K1.out.below H).lt (by rw [← fl_iv]; exact (K2.out.below H).rd)).mono ?_; rintro e w3 ⟨v4, u4, rfl, O4, P4, hb⟩; replace O4 := O4.down H.size; replace P4 := P4.down H.size; replace H := bstep H hb; clear hb))
      rw [HF2.out]
      exact bodyPost_ret (results_ttt rfl) rfl ⟨_, _, rfl, O4, P4, H⟩
    · rw [hz0] at h0
      simp at h0
  · exact absurd e0 e1
theorem sTakeOut_own (g0 c0 : Nat) (lc : List Cr) (g1 c1 : Nat) (l : List Wt) (g2 c2 : Nat) (ks : List Int) (w : World) (K0 : Lies cc w g0 lc) (K1 : Lies wc w g1 l) (K2 : Lies iv w g2 ks) (hc : ks.length ≤ c2) (hn : lc.length ≤ 1048576) (hl : l.length ≤ 1048576) (hk : ks.length ≤ 1048576) (e0 : openI lc l ks = 0) (hz0 : leftL lc l ks = []) :
    Calls Try.prog 22 #[.slice (some ⟨g0, 0, none⟩) lc.length c0, .slice (some ⟨g1, 0, none⟩) l.length c1, .slice (some ⟨g2, 0, none⟩) ks.length c2] w fun e w' => ∃ v u, e = .returned (.tuple #[v, u, .int .i64 (takeOR lc l ks).2.2]) ∧ OwnS cc w' w.heap.size 44 24 v (takeOR lc l ks).1 ∧ OwnS bc w' w.heap.size 42 2 u (takeOR lc l ks).2.1 ∧ Below w.heap.size w w' := by
  have H := Below.refl w.heap.size w
  replace K0 := Lib.hid K0
  replace K1 := Lib.hid K1
  replace K2 := Lib.hid K2
  by_cases e1 : openI lc l ks = 0
  · have ha := (openI_zero e1).1
    have h8 := ask_le ha
    have hok : ordOk l = true := by
      unfold askOk at ha
      rw [Bool.and_eq_true] at ha
      exact ha.2
    have HK := Lib.hid (kin_all (openI_zero e1).2)
    have HN := Lib.hid (ok_nonneg hok)
    have HI := Lib.hid e1
    have HF : Hid (takeOR lc l ks = if leftL lc l ks = [] then ((outL lc l ks).1, (outL lc l ks).2, 0) else ([], [], 4)) := by rw [Hid, takeOR, if_pos e1]
    have HLE := lackL_le (cntL (opL lc ks)) l
    have HOL : (opL lc ks).length ≤ 1048576 := Nat.le_trans (opK_le lc ks ks.length) hk
    have HTO := Lib.hid (fun A c W k0 hC hb1 h2 => l02Out_any g0 c0 lc g1 0 c1 l A c ks W k0 hC hb1 h2 HK.out h8.1 h8.2 HN.out hk)
    have HLK := fun W a b hb1 k => l02Lack_any (some ⟨g0, 0, none⟩) c0 lc g1 0 c1 l (some ⟨g2, 0, none⟩) c2 ks W a b hb1 k HK.out hc hn (by omega) hk
    clear e1 ha hok
    unfold leftL at HF hz0
    generalize lackL (cntL (opL lc ks)) l = ll at HF HLE HLK hz0
    rcases Nat.eq_zero_or_pos ll.length with h0 | h0
    · have HF2 := Lib.hid (show takeOR lc l ks = ((outL lc l ks).1, (outL lc l ks).2, 0) by rw [HF.out, if_pos (List.length_eq_zero_iff.1 h0)])
      go_enter Try.func22, Try.ntmps22
      go_wp2_with (first | (go_at_call 50; with_reducible refine (l02Opened_any g0 c0 lc g1 c1 l (some ⟨g2, 0, none⟩) c2 ks _ (K0.out.below H) (K1.out.below H) (by rw [← fl_iv]; exact (K2.out.below H).rd) hn hl hk).mono ?_; rintro e w' ⟨rfl, hb⟩; rw [HI.out]; replace H := bstep H hb; clear hb) | (go_at_call 34; with_reducible refine (HLK _ (K0.out.below H).rd (K1.out.below H).c (K1.out.below H).lt (by rw [← fl_iv]; exact (K2.out.below H).rd)).mono ?_; rintro e w3 ⟨v3, rfl, O3, hb⟩; obtain ⟨g4, p4, rfl, -⟩ := O3.lies; replace H := bstep H hb; clear hb O3) | (go_at_call 55; with_reducible refine (HTO.out _ _ _ (K0.out.below H) (K1.out.below H).c (K1.out.below H).lt (by rw [← fl_iv]; exact (K2.out.below H).rd)).mono ?_; rintro e w3 ⟨v4, u4, rfl, O4, P4, hb⟩; replace O4 := O4.down H.size; replace P4 := P4.down H.size; replace H := bstep H hb; clear hb))
      rw [HF2.out]
      exact bodyPost_ret (results_ttt rfl) rfl ⟨_, _, rfl, O4, P4, H⟩
    · rw [hz0] at h0
      simp at h0
  · exact absurd e0 e1
/-- Slices of elements, readable, in a readable slice. -/
def LieA {α : Type} [Inhabited α] (f : α → List Value) (w : World) (v : Value) (ls : List (List α)) : Prop :=
  ∃ g cap, v = .slice (some ⟨g, 0, none⟩) ls.length cap ∧ g < w.heap.size ∧ ∀ i, i < ls.length → ∃ g1 c1, w.cell? ⟨g, i, none⟩ = some (.slice (some ⟨g1, 0, none⟩) ls[i]!.length c1) ∧ Lies f w g1 ls[i]! ∧ ls[i]!.length ≤ c1
theorem LieA.kept {α : Type} [Inhabited α] {f : α → List Value} {w w' : World} {v : Value} {ls : List (List α)} (h : LieA f w v ls) (hb : Below w.heap.size w w') : LieA f w' v ls := by
  obtain ⟨g, cap, h1, h2, h3⟩ := h
  refine ⟨g, cap, h1, Nat.lt_of_lt_of_le h2 hb.size, fun i hi => ?_⟩
  obtain ⟨g1, c1, x, K, hc⟩ := h3 i hi
  exact ⟨g1, c1, (hb.cell h2).trans x, K.below hb, hc⟩
theorem LieA.form {α : Type} [Inhabited α] {f : α → List Value} {w : World} {v : Value} {ls : List (List α)} (h : LieA f w v ls) : ∃ g cap, v = .slice (some ⟨g, 0, none⟩) ls.length cap := by
  obtain ⟨g, cap, h1, _⟩ := h
  exact ⟨g, cap, h1⟩
theorem LieA.el {α : Type} [Inhabited α] {f : α → List Value} {w : World} {g cap : Nat} {ls : List (List α)} (h : LieA f w (.slice (some ⟨g, 0, none⟩) ls.length cap) ls) {i : Nat} (hi : i < ls.length) : g < w.heap.size ∧ ∃ g1 c1, w.cell? ⟨g, i, none⟩ = some (.slice (some ⟨g1, 0, none⟩) ls[i]!.length c1) ∧ Lies f w g1 ls[i]! ∧ ls[i]!.length ≤ c1 := by
  obtain ⟨g', cap', hv, h2, h3⟩ := h
  obtain ⟨rfl, -⟩ : g = g' ∧ cap = cap' := by
    simp only [Value.slice.injEq, Option.some.injEq, Addr.mk.injEq, and_true, true_and] at hv
    exact hv
  exact ⟨h2, h3 i hi⟩
theorem IndexFunc_wl (v : Value) (os : List (List Wt)) (w : World) (KO : LieA wc w v os) (hl : os.length ≤ 1048576) (ht : tot os ≤ 1048576) :
    Calls Try.prog 87 #[v, .func (.func 60) #[] #[]] w fun e w' => (∃ r : Int, e = .returned (.int .i64 r) ∧ decide (0 ≤ r) = !(os.all ordOk) ∧ -1 ≤ r ∧ r ≤ 1048576) ∧ Below w.heap.size w w' := by
  obtain ⟨g, c, rfl⟩ := KO.form
  replace KO := Lib.hid KO
  go_enter Try.func87, Try.ntmps87
  go_wp2
  go_loopw [8] (fun i wr => ∃ k : Nat, k ≤ os.length ∧ i = .int .i64 k ∧ Hid (∀ i, i < k → ordOk os[i]! = true) ∧ Below w.heap.size w wr) (fun i _ => os.length - (intOf i).toNat)
  case atStart => exact ⟨0, Nat.zero_le _, rfl, fun i hi => absurd hi (Nat.not_lt_zero _), Below.refl _ _⟩
  case round =>
    obtain ⟨k, hk, rfl, HA, hb⟩ := hrel
    by_cases hlt : k < os.length
    · obtain ⟨hg, g1, c1, X0, L0, -⟩ := (KO.out.kept hb).el hlt
      have hel := tot_el hlt
      have hlt2 : (k : Int) < (os.length : Int) := by omega
      have hmem : Hid (os[k]! ∈ os) := by rw [Hid, getB hlt]; exact List.getElem_mem hlt
      generalize hle : os[k]! = l at *
      replace hle := Lib.hid hle
      have HS1 := fun W hW => Sev1_any g1 c1 l W (L0.below hW) (by omega)
      replace HS1 := Lib.hid HS1
      have H := Below.refl wr.heap.size wr
      cases e1 : ordOk l with
      | true =>
        have e2 := Lib.hid (show (!ordOk l) = false by rw [e1]; rfl)
        go_wp2_with (go_at_call 60; with_reducible refine (HS1.out _ H).mono ?_; rintro e w1 ⟨rfl, hb1⟩; rw [e2.out])
        go_roundw
        case rel => exact ⟨k + 1, by omega, by go_num, fun i hi => by
          rcases Nat.lt_or_ge i k with q | q
          · exact HA.out i q
          · obtain rfl : i = k := by omega
            rw [hle.out]
            exact e1, bstep hb hb1⟩
        case measure => simp [intOf]; omega
      | false =>
        have e2 := Lib.hid (show (!ordOk l) = true by rw [e1]; rfl)
        have HN := Lib.hid (show os.all ordOk = false from List.all_eq_false.2 ⟨l, hmem.out, by simp [e1]⟩)
        clear e1
        go_wp2_with (go_at_call 60; with_reducible refine (HS1.out _ H).mono ?_; rintro e w1 ⟨rfl, hb1⟩; rw [e2.out])
        go_ret
        exact ⟨⟨(k : Int), rfl, by rw [HN.out]; simp, by omega, by omega⟩, bstep hb hb1⟩
    · obtain rfl : k = os.length := by omega
      have HN := Lib.hid (show os.all ordOk = true from List.all_eq_true.2 fun x hx => by
        obtain ⟨i, hi, rfl⟩ := List.getElem_of_mem hx
        rw [← getB hi]
        exact HA.out i hi)
      go_wp2
      go_ret
      exact ⟨⟨-1, rfl, by rw [HN.out]; rfl, by omega, by omega⟩, hb⟩
theorem ContainsFunc_wl (v : Value) (os : List (List Wt)) (w : World) (KO : LieA wc w v os) (hl : os.length ≤ 1048576) (ht : tot os ≤ 1048576) :
    Calls Try.prog 59 #[v, .func (.func 60) #[] #[]] w fun e w' => e = .returned (.bool (!(os.all ordOk))) ∧ Below w.heap.size w w' := by
  have HI := Lib.hid (fun W hW => IndexFunc_wl v os W (KO.kept hW) hl ht)
  have H := Below.refl w.heap.size w
  go_enter Try.func59, Try.ntmps59
  go_wp2_with (go_at_call 87; with_reducible refine (HI.out _ H).mono ?_; rintro e w1 ⟨⟨r, rfl, hr, -, -⟩, hb⟩; replace hr := Lib.hid hr)
  go_ret
  exact ⟨ret_bool hr.out, hb⟩
theorem FillSeveral_own (g0 c0 : Nat) (lc : List Cr) (v : Value) (os : List (List Wt)) (w : World) (K0 : Lies cc w g0 lc) (KO : LieA wc w v os) (hn : lc.length ≤ 1048576) (hl : os.length ≤ 1048576) (ht : tot os ≤ 1048576) (hs : stackOk lc = true) (ho : os.all ordOk = true) (h20 : os.length ≤ 20) :
    Calls Try.prog 27 #[.slice (some ⟨g0, 0, none⟩) lc.length c0, v] w fun e w' => ∃ v u, e = .returned (.tuple #[v, u, .int .i64 (sevR lc os).2.2]) ∧ OwnS cc w' w.heap.size 44 24 v (sevR lc os).1 ∧ OwnS iv w' w.heap.size 2 1 u (sevR lc os).2.1 ∧ Below w.heap.size w w' := by
  obtain ⟨g1, c1, rfl⟩ := KO.form
  have H := Below.refl w.heap.size w
  replace K0 := Lib.hid K0
  replace KO := Lib.hid KO
  have HCF := Lib.hid (fun W hW => ContainsFunc_wl _ os W (KO.out.kept hW) hl ht)
  have HVS := Lib.hid (fun W (hW : Below w.heap.size w W) => ValidStack_any g0 0 c0 lc W (K0.out.below hW).c (K0.out.below hW).lt (by omega))
  have e1 := hs
  have e2 := ho
  have e3 := Lib.hid e1
  have e4 := Lib.hid (show (!(os.all ordOk)) = false by rw [e2]; rfl)
  have e5 := Lib.hid e2
  have h20' : ¬ 20 < os.length := by omega
  clear hs ho
  · have HF := Lib.hid (show sevR lc os = ((sevK lc os os.length).1, (sevK lc os os.length).2, 0) by simp [sevR, sevI, e1, e2, h20'])
    have h20i : ¬ (20 : Int) < (os.length : Int) := by omega
    have h12 : lc.length ≤ 12 := by simp only [stackOk, Bool.and_eq_true, decide_eq_true_iff] at e1; exact e1.1
    have HCL := Lib.hid (fun W (hW : Below w.heap.size w W) => Clone_cr g0 0 c0 lc W (K0.out.below hW).c (by omega))
    clear e1 e2
    go_enter Try.func27, Try.ntmps27
    go_wp2_with (first | (go_at_call 58; with_reducible refine (HVS.out _ H).mono ?_; rintro e w' ⟨rfl, hb⟩; rw [e3.out]; replace H := bstep H hb; clear hb) | (go_at_call 59; with_reducible refine (HCF.out _ H).mono ?_; rintro e w' ⟨rfl, hb⟩; rw [e4.out]; replace H := bstep H hb; clear hb) | (go_at_call 61; with_reducible refine (HCL.out _ H).mono ?_; rintro e w1 ⟨v1, rfl, O1, hb⟩; replace O1 := Lib.hid (O1.down H.size); replace H := bstep H hb; clear hb))
    go_loopw [7, 8, 28] (fun s f i wr => ∃ k : Nat, k ≤ os.length ∧ i = .int .i64 k ∧ Hid (OwnS cc wr w.heap.size 44 24 s (sevK lc os k).1) ∧ Hid (OwnS iv wr w.heap.size 2 1 f (sevK lc os k).2) ∧ Below w.heap.size w wr) (fun _ _ i _ => os.length - (intOf i).toNat)
    case atStart => exact ⟨0, Nat.zero_le _, rfl, O1.out.kept ((Below.refl _ _).alloc (Nat.le_refl _) _), OwnS.lit H.size, H.alloc H.size _⟩
    case round =>
      clear O1 H HCL HCF HVS
      obtain ⟨k, hk, rfl, HS, HT, hb⟩ := hrel
      obtain ⟨wo, hwo⟩ : ∃ wo, wo = wr := ⟨_, rfl⟩
      subst hwo
      by_cases hlt : k < os.length
      · obtain ⟨hg1, g2, c2, x0, L2, -⟩ := (KO.out.kept hb).el hlt
        have HSV : Hid (sevK lc os (k + 1) = if (fewS (sevK lc os k).1 os[k]!).2 = true then ((outL (sevK lc os k).1 os[k]! (fewS (sevK lc os k).1 os[k]!).1).1, (sevK lc os k).2 ++ [(k : Int)]) else sevK lc os k) := rfl
        have hok : ordOk os[k]! = true := List.all_eq_true.1 e5.out _ (by rw [getB hlt]; exact List.getElem_mem hlt)
        have hst := sevK_ok os e3.out k
        have hsl := sevK_len lc os k
        have hfl := sevK_le lc os k
        have hlt2 : (k : Int) < (os.length : Int) := by omega
        generalize os[k]! = l at x0 L2 HSV hok
        generalize sevK lc os k = r at HSV HS HT hst hsl hfl ⊢
        obtain ⟨st, fd⟩ := r
        replace HS : Hid (OwnS cc wo w.heap.size 44 24 u7 st) := HS
        replace HT : Hid (OwnS iv wo w.heap.size 2 1 u8 fd) := HT
        replace hst : stackOk st = true := hst
        replace hsl : st.length = lc.length := hsl
        replace hfl : fd.length ≤ k := hfl
        replace HSV : Hid (sevK lc os (k + 1) = if (fewS st l).2 = true then ((outL st l (fewS st l).1).1, fd ++ [(k : Int)]) else (st, fd)) := HSV
        have h8 := ask_le (show askOk st l = true by simp [askOk, hst, hok])
        have HN := Lib.hid (ok_nonneg hok)
        have HG := Lib.hid (fewS_good (lc := st) (l := l))
        have HFL := Lib.hid (fewS_le st l)
        obtain ⟨gs, ps, hv7, LS, hBs, hgs, hcs⟩ := HS.out.lies
        subst hv7
        replace LS := Lib.hid LS
        replace L2 := Lib.hid L2
        have H := Below.refl wo.heap.size wo
        have HFI : fillI st l = if lackL (cntL st) l = [] then 0 else 6 := by simp [fillI, askOk, hst, hok]
        have HFC := Lib.hid (fun W (hW : Below wo.heap.size wo W) => fillCode_any gs ps st g2 c2 l W (LS.out.below hW) (L2.out.below hW) (by omega) (by omega))
        replace hsl := Lib.hid hsl
        replace hst := Lib.hid hst
        replace hok := Lib.hid hok
        cases hfd : (fewS st l).2 with
        | false =>
          have HE := Lib.hid (show sevK lc os (k + 1) = (st, fd) by rw [HSV.out, if_neg (by rw [hfd]; decide)])
          have HI := Lib.hid (show fillI st l = 6 by rw [HFI, if_neg (fun q => by rw [fewS_found q] at hfd; cases hfd)])
          clear HSV HFI hfd
          go_wp2_with (go_at_call 36; with_reducible refine (HFC.out _ H).mono ?_; rintro e w' ⟨rfl, hb2⟩; rw [HI.out]; replace H := bstep H hb2; clear hb2)
          go_roundw
          case rel => exact ⟨k + 1, by omega, by go_num, by rw [HE.out]; exact HS.out.kept H, by rw [HE.out]; exact HT.out.kept H, bstep hb H⟩
          case measure => simp [intOf]; omega
        | true =>
          have hlk := fewS_none hfd
          have HE := Lib.hid (show sevK lc os (k + 1) = ((outL st l (fewS st l).1).1, fd ++ [(k : Int)]) by rw [HSV.out, if_pos hfd])
          have HI := Lib.hid (show fillI st l = 0 by rw [HFI, if_pos hlk])
          have HFW := fun W (hW : Below wo.heap.size wo W) => fewest_any (some ⟨gs, 0, none⟩) ps st g2 0 c2 l W (LS.out.below hW).rd (L2.out.below hW).c (L2.out.below hW).lt h8.1 h8.2 hlk
          clear HSV HFI hfd hlk
          generalize (fewS st l).1 = ks at HE HFW HG HFL
          have HTO := Lib.hid (fun A c W (hW : Below wo.heap.size wo W) hr => takeOut_any gs ps st g2 0 c2 l A c ks W (LS.out.below hW) (L2.out.below hW).c (L2.out.below hW).lt hr HG.out.inn h8.1 h8.2 HN.out (by have := HFL.out; omega))
          replace HFW := Lib.hid HFW
          go_upto_region 11 with (first | (go_at_call 36; with_reducible refine (HFC.out _ H).mono ?_; rintro e w' ⟨rfl, hb2⟩; rw [HI.out]; replace H := bstep H hb2; clear hb2) | (go_at_call 37; with_reducible refine (HFW.out _ H).mono ?_; rintro e w2 ⟨v2, rfl, O2, hb2⟩; obtain ⟨A2, p2, rfl, -, hrd⟩ := O2.rd; rw [fl_iv] at hrd; replace hrd := Lib.hid hrd; replace H := bstep H hb2; clear hb2 O2) | (go_at_call 54; with_reducible refine (HTO.out _ _ _ H hrd.out).mono ?_; rintro e w3 ⟨v3, u3, rfl, O3, P3, hb2⟩; replace O3 := Lib.hid (O3.down (Nat.le_trans hb.size H.size)); replace H := bstep H hb2; clear hb2 P3))
          have HT3 := Lib.hid (HT.out.kept H)
          have hb3 := bstep hb H
          have hfn : fd.length ≤ 1000 := by omega
          go_wp2_with (at_builtin; refine wp_app_num3 w.heap.size rfl _ _ rfl _ fd (k : Int) rfl _ rfl ?hg ?HO ?hB ?hn ?_; (case hg => simp); (case HO => exact HT3.out); (case hB => exact hb3.size); (case hn => omega); intro v5 w5 hown hb5)
          go_roundw
          case rel => exact ⟨k + 1, by omega, by go_num, by rw [HE.out]; exact ⟨O3.out.n.but hb5.2.1 (apart_types HT3.out.n O3.out.n (by decide)), O3.out.2⟩, by rw [HE.out]; exact hown, hb3.trans hb5.1⟩
          case measure => simp [intOf]; omega
      · obtain rfl : k = os.length := by omega
        go_wp2
        rw [HF.out]
        exact bodyPost_ret (results_ttt rfl) rfl ⟨_, _, rfl, HS.out, HT.out, hb⟩
theorem sFillSeveral_own (g0 c0 : Nat) (lc : List Cr) (v : Value) (os : List (List Wt)) (w : World) (K0 : Lies cc w g0 lc) (KO : LieA wc w v os) (hn : lc.length ≤ 1048576) (hl : os.length ≤ 1048576) (ht : tot os ≤ 1048576) (hs : stackOk lc = true) (ho : os.all ordOk = true) (hle : os.length ≤ 20) :
    Calls Try.prog 29 #[.slice (some ⟨g0, 0, none⟩) lc.length c0, v] w fun e w' => ∃ v u, e = .returned (.tuple #[v, u, .int .i64 (sevR lc os).2.2]) ∧ OwnS cc w' w.heap.size 44 24 v (sevR lc os).1 ∧ OwnS iv w' w.heap.size 2 1 u (sevR lc os).2.1 ∧ Below w.heap.size w w' := by
  obtain ⟨g1, c1, rfl⟩ := KO.form
  have H := Below.refl w.heap.size w
  replace K0 := Lib.hid K0
  replace KO := Lib.hid KO
  replace hs := Lib.hid hs
  replace ho := Lib.hid ho
  have HA0 : Hid (∀ W b, Below w.heap.size w W → b < W.heap.size → Calls Try.prog 62 #[.slice (some ⟨g0, 0, none⟩) lc.length c0, .slice (some ⟨b, 0, none⟩) 0 0] W fun e w' => e = .returned (.int .i64 (askT lc os 0)) ∧ Below W.heap.size W w') := fun W b hW hb => by
    have := l02Asked_any g0 c0 lc b 0 0 [] W (K0.out.below hW) (fun i v h => by simp [fl] at h) hb hn (by simp)
    rw [show askI lc [] = askT lc os 0 by simp [askI, askOk, ordOk_nil, askT]] at this
    exact this
  go_enter Try.func29, Try.ntmps29
  go_wp2_with (go_at_call 62; with_reducible refine (HA0.out _ _ (H.alloc H.size _) (by simp)).mono ?_; rintro e w' ⟨rfl, hb⟩; replace H := bstep (H.alloc H.size _) hb; clear hb)
  go_loopw [7, 8] (fun cd i wr => ∃ k : Nat, k ≤ os.length ∧ i = .int .i64 k ∧ cd = .int .i64 (askT lc os k) ∧ Hid (Below w.heap.size w wr)) (fun _ i _ => os.length - (intOf i).toNat)
  case atStart => exact ⟨0, Nat.zero_le _, rfl, rfl, H⟩
  case round =>
    clear H HA0
    obtain ⟨k, hk, rfl, rfl, HQ⟩ := hrel
    cases hc : (stackOk lc && (os.take k).all ordOk) with
    | false =>
      exfalso
      have q : (os.take k).all ordOk = true := List.all_eq_true.2 fun x hx => List.all_eq_true.1 ho.out x (List.mem_of_mem_take hx)
      rw [hs.out, q] at hc
      cases hc
    | true =>
      have h1 : askT lc os k = 0 := by simp [askT, hc]
      rw [Bool.and_eq_true] at hc
      have e3 := Lib.hid hc.1
      by_cases hlt : k < os.length
      · obtain ⟨hg1, g2, c2, x0, L2, -⟩ := (KO.out.kept HQ.out).el hlt
        have hel := tot_el hlt
        have HNX : Hid (askT lc os (k + 1) = askI lc os[k]!) := by
          show askT lc os (k + 1) = askI lc os[k]!
          unfold askT askI askOk
          rw [take_all hlt, hc.1, hc.2]
          simp
        have hlt2 : (k : Int) < (os.length : Int) := by omega
        generalize os[k]! = l at x0 L2 hel HNX
        have HA := Lib.hid (fun W hW => l02Asked_any g0 c0 lc g2 0 c2 l W ((K0.out.below HQ.out).below hW) (L2.below hW).c (L2.below hW).lt hn (by omega))
        have H := Below.refl wr.heap.size wr
        clear hc L2
        rw [h1]
        clear h1
        go_wp2_with (go_at_call 62; with_reducible refine (HA.out _ H).mono ?_; rintro e w' ⟨rfl, hb⟩; rw [← HNX.out]; replace H := bstep H hb; clear hb)
        go_roundw
        case rel => exact ⟨k + 1, by omega, by go_num, rfl, bstep HQ.out H⟩
        case measure => simp [intOf]; omega
      · obtain rfl : k = os.length := by omega
        have hal : os.all ordOk = true := by
          have := hc.2
          rwa [List.take_length] at this
        have e5 := Lib.hid hal
        have h12 : lc.length ≤ 12 := by have := hc.1; simp only [stackOk, Bool.and_eq_true, decide_eq_true_iff] at this; exact this.1
        have hc1 := hc.1
        have H := HQ.out
        by_cases h20 : 20 < os.length
        · omega
        · have HF := Lib.hid (show sevR lc os = ((sevK lc os os.length).1, (sevK lc os os.length).2, 0) by simp [sevR, sevI, hc1, hal, h20])
          have h20i : ¬ (20 : Int) < (os.length : Int) := by omega
          have KW := Lib.hid (K0.out.below H)
          clear hc hc1 hal
          rw [h1]
          clear h1
          go_upto_region 11 with (at_builtin; refine wp_app_el (f := cc) wr.heap.size rfl _ _ 24 44 rfl (.agg (cc zC).toArray) 24 48 Try.underlying24 infoCrS (cc_size2 zC zC) (by decide) cc_length (fun c u hu => cc_one c u (by simpa using hu)) _ [] rfl g0 c0 lc rfl ?hO ?hY ?hB ?hn (by decide) ?_; (case hO => exact OwnS.lit (Nat.le_refl _)); (case hY => exact KW.out.below ((Below.refl _ wr).alloc (Nat.le_refl _) _)); (case hB => simp); (case hn => simp; omega); intro v1 w1 O1 hb0)
          rw [List.nil_append] at O1
          replace O1 := Lib.hid (O1.down H.size)
          have hb1 := bstep H (((Below.refl wr.heap.size wr).alloc (Nat.le_refl _) _).trans hb0.1)
          clear hb0 KW H
          go_wp2
          go_loopw [9, 10, 11] (fun s f i wr => ∃ k : Nat, k ≤ os.length ∧ i = .int .i64 k ∧ Hid (OwnS cc wr w.heap.size 44 24 s (sevK lc os k).1) ∧ Hid (OwnS iv wr w.heap.size 2 1 f (sevK lc os k).2) ∧ Below w.heap.size w wr) (fun _ _ i _ => os.length - (intOf i).toNat)
          case atStart => exact ⟨0, Nat.zero_le _, rfl, O1.out.kept ((Below.refl _ _).alloc (Nat.le_refl _) _), OwnS.lit hb1.size, hb1.alloc hb1.size _⟩
          case round =>
            clear O1 hb1 HQ
            obtain ⟨k, hk, rfl, HS, HT, hb⟩ := hrel
            obtain ⟨wo, hwo⟩ : ∃ wo, wo = wr := ⟨_, rfl⟩
            subst hwo
            by_cases hlt : k < os.length
            · obtain ⟨hg1, g2, c2, x0, L2, -⟩ := (KO.out.kept hb).el hlt
              have HSV : Hid (sevK lc os (k + 1) = if (fewS (sevK lc os k).1 os[k]!).2 = true then ((outL (sevK lc os k).1 os[k]! (fewS (sevK lc os k).1 os[k]!).1).1, (sevK lc os k).2 ++ [(k : Int)]) else sevK lc os k) := rfl
              have hok : ordOk os[k]! = true := List.all_eq_true.1 e5.out _ (by rw [getB hlt]; exact List.getElem_mem hlt)
              have hst := sevK_ok os e3.out k
              have hsl := sevK_len lc os k
              have hfl := sevK_le lc os k
              have hlt2 : (k : Int) < (os.length : Int) := by omega
              generalize os[k]! = l at x0 L2 HSV hok
              generalize sevK lc os k = r at HSV HS HT hst hsl hfl ⊢
              obtain ⟨st, fd⟩ := r
              replace HS : Hid (OwnS cc wo w.heap.size 44 24 u9 st) := HS
              replace HT : Hid (OwnS iv wo w.heap.size 2 1 u10 fd) := HT
              replace hst : stackOk st = true := hst
              replace hsl : st.length = lc.length := hsl
              replace hfl : fd.length ≤ k := hfl
              replace HSV : Hid (sevK lc os (k + 1) = if (fewS st l).2 = true then ((outL st l (fewS st l).1).1, fd ++ [(k : Int)]) else (st, fd)) := HSV
              have h8 := ask_le (show askOk st l = true by simp [askOk, hst, hok])
              have HN := Lib.hid (ok_nonneg hok)
              have HG := Lib.hid (fewS_good (lc := st) (l := l))
              have HFL := Lib.hid (fewS_le st l)
              obtain ⟨gs, ps, hv7, LS, hBs, hgs, hcs⟩ := HS.out.lies
              subst hv7
              replace LS := Lib.hid LS
              replace L2 := Lib.hid L2
              have H := Below.refl wo.heap.size wo
              have HFW := fun W (hW : Below wo.heap.size wo W) => l02Fewest_any (some ⟨gs, 0, none⟩) ps st g2 0 c2 l W (LS.out.below hW).rd (L2.out.below hW).c (L2.out.below hW).lt h8.1 h8.2
              replace hsl := Lib.hid hsl
              replace hst := Lib.hid hst
              replace hok := Lib.hid hok
              generalize (fewS st l).1 = ks at HSV HFW HG HFL
              generalize (fewS st l).2 = fdb at HSV HFW
              have HTO := Lib.hid (fun A c W (hW : Below wo.heap.size wo W) hr => l02Out_any gs ps st g2 0 c2 l A c ks W (LS.out.below hW) (L2.out.below hW).c (L2.out.below hW).lt hr HG.out.inn h8.1 h8.2 HN.out (by have := HFL.out; omega))
              replace HFW := Lib.hid HFW
              cases fdb with
              | false =>
                have HE := Lib.hid (show sevK lc os (k + 1) = (st, fd) by rw [HSV.out, if_neg (by decide)])
                clear HSV
                go_wp2_with (go_at_call 39; with_reducible refine (HFW.out _ H).mono ?_; rintro e w2 ⟨v2, rfl, O2, hb2⟩; obtain ⟨g5, c5, rfl, L5, -⟩ := O2.lies; replace H := bstep H hb2; clear hb2 O2)
                go_roundw
                case rel => exact ⟨k + 1, by omega, by go_num, by rw [HE.out]; exact HS.out.kept H, by rw [HE.out]; exact HT.out.kept H, bstep hb H⟩
                case measure => simp [intOf]; omega
              | true =>
                have HE := Lib.hid (show sevK lc os (k + 1) = ((outL st l ks).1, fd ++ [(k : Int)]) by rw [HSV.out, if_pos rfl])
                clear HSV
                go_upto_region 18 with (first | (go_at_call 39; with_reducible refine (HFW.out _ H).mono ?_; rintro e w2 ⟨v2, rfl, O2, hb2⟩; obtain ⟨g5, c5, rfl, L5, -⟩ := O2.lies; replace L5 := Lib.hid L5; replace H := bstep H hb2; clear hb2 O2; have x1 := (H.cell hg1).trans x0) | (go_at_call 55; with_reducible refine (HTO.out _ _ _ H (by rw [← fl_iv]; exact L5.out.rd)).mono ?_; rintro e w3 ⟨v3, u3, rfl, O3, P3, hb2⟩; replace O3 := Lib.hid (O3.down (Nat.le_trans hb.size H.size)); replace H := bstep H hb2; clear hb2 P3))
                have HT3 := Lib.hid (HT.out.kept H)
                have hb3 := bstep hb H
                have hfn : fd.length ≤ 1000 := by omega
                go_wp2_with (at_builtin; refine wp_app_num3 w.heap.size rfl _ _ rfl _ fd (k : Int) rfl _ rfl ?hg ?HO ?hB ?hn ?_; (case hg => simp); (case HO => exact HT3.out); (case hB => exact hb3.size); (case hn => omega); intro v5 w5 hown hb5)
                go_roundw
                case rel => exact ⟨k + 1, by omega, by go_num, by rw [HE.out]; exact ⟨O3.out.n.but hb5.2.1 (apart_types HT3.out.n O3.out.n (by decide)), O3.out.2⟩, by rw [HE.out]; exact hown, hb3.trans hb5.1⟩
                case measure => simp [intOf]; omega
            · obtain rfl : k = os.length := by omega
              go_wp2
              rw [HF.out]
              exact bodyPost_ret (results_ttt rfl) rfl ⟨_, _, rfl, HS.out, HT.out, hb⟩
end Go.Proofs.Ytbngpcghognojaa
