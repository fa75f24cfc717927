/- Contracts of the fewest crates. -/
import Derived.Test.YtnhpgahapjjjbaaFew
import Derived.Test.YtnhpgahapjjjbaaGreedy
namespace Go.Proofs.Ytnhpgahapjjjbaa
open Go.RowKit
set_option linter.unusedVariables false
set_option linter.unusedSimpArgs false
set_option maxRecDepth 100000
set_option maxHeartbeats 1000000
attribute [local go_sem] Oper.qB
/-- An order is filled out of some crates. -/
def okF (lc : List Cr) (l : List Wt) (ks : List Int) : Bool := decide (leftL lc l ks = [])
/-- The fewest crates, and whether there are some. -/
def fewS (lc : List Cr) (l : List Wt) : List Int × Bool := setsK lc.length (okF lc l) (2 ^ lc.length)
theorem okF_every {lc : List Cr} {l : List Wt} (h : lackL (cntL lc) l = []) : okF lc l (everyL lc.length) = true := by
  rw [okF, leftL, opL_every, h]
  rfl
theorem everyL_Asc (n : Nat) : Asc 0 n (everyL n) := ⟨everyL_asc n, fun x hx => by have := everyL_in hx; omega⟩
theorem Asc.good {n : Nat} {ks : List Int} (h : Asc 0 n ks) : Good n ks := ⟨h.1.imp fun q => Int.ne_of_lt q, fun x hx => by have := h.2 x hx; omega⟩
theorem fewS_found {lc : List Cr} {l : List Wt} (h : lackL (cntL lc) l = []) : (fewS lc l).2 = true := sets_found (everyL_Asc _) (okF_every h)
theorem fewS_good {lc : List Cr} {l : List Wt} : Good lc.length (fewS lc l).1 := by
  have := setsK_some (n := lc.length) (p := okF lc l) (2 ^ lc.length)
  cases h : (fewS lc l).2 with
  | true => exact (this.1 h).2.1.good
  | false => unfold fewS; rw [(this.2 h).1]; exact Good.nil _
theorem fewS_ok {lc : List Cr} {l : List Wt} (h : (fewS lc l).2 = true) : leftL lc l (fewS lc l).1 = [] := by
  have := ((setsK_some (n := lc.length) (p := okF lc l) (2 ^ lc.length)).1 h).1
  exact of_decide_eq_true this
theorem drop_cons2 {l : List Int} {k : Nat} (h : k < l.length) : l.drop k = l.getD k 0 :: l.drop (k + 1) := by
  rw [List.drop_eq_getElem_cons h, List.getD_eq_getElem?_getD, List.getElem?_eq_getElem h]
  rfl
theorem ahead_at {a b : List Int} {k : Nat} (hl : a.length = b.length) (h : k < a.length) : ahead (a.drop k) (b.drop k) = if a.getD k 0 = b.getD k 0 then ahead (a.drop (k + 1)) (b.drop (k + 1)) else decide (a.getD k 0 < b.getD k 0) := by
  have h1 := drop_cons2 h
  have h2 := drop_cons2 (l := b) (k := k) (by omega)
  rw [h1, h2, ahead]
theorem l01Ahead_any (A0 : Option Addr) (c0 : Nat) (a : List Int) (A1 : Option Addr) (c1 : Nat) (b : List Int) (w : World) (h0 : RdA w A0 (vi a)) (h1 : RdA w A1 (vi b)) (hl : a.length = b.length) (hn : a.length ≤ 1000000) :
    Calls Try.prog 116 #[.slice A0 a.length c0, .slice A1 b.length c1] w fun e w' => e = .returned (.bool (ahead a b)) ∧ Below w.heap.size w w' := by
  have H0 := Lib.hid h0
  have H1 := Lib.hid h1
  clear h0 h1
  go_enter Try.func116, Try.ntmps116
  go_wp2
  go_loopw [5] (fun i wr => ∃ k : Nat, k ≤ a.length ∧ i = .int .i64 k ∧ Hid (ahead a b = ahead (a.drop k) (b.drop k)) ∧ Below w.heap.size w wr) (fun i _ => a.length - (intOf i).toNat)
  case atStart => exact ⟨0, Nat.zero_le _, rfl, by rw [List.drop_zero, List.drop_zero]; rfl, Below.refl _ _⟩
  case round =>
    obtain ⟨k, hk, rfl, HA, hb⟩ := hrel
    by_cases hlt : k < a.length
    · obtain ⟨g0, o0, rfl, hg0, hC0⟩ := (H0.out.below hb).some (by rw [vi_length]; omega)
      obtain ⟨g1, o1, rfl, hg1, hC1⟩ := (H1.out.below hb).some (by rw [vi_length]; omega)
      have X0 := hC0 k _ (vi_at a k hlt)
      have X1 := hC1 k _ (vi_at b k (by omega))
      have HS := Lib.hid (HA.out.trans (ahead_at hl hlt))
      have hlt2 : (k : Int) < (a.length : Int) := by omega
      have hlt3 : (k : Int) < (b.length : Int) := by omega
      clear hC0 hC1 HA
      generalize a.getD k 0 = x at X0 HS
      generalize b.getD k 0 = y at X1 HS
      have y0 := cell_regrown X0
      have y1 := cell_regrown X1
      go_upto_region 4 with fail
      have H := Below.refl wr.heap.size wr
      refine wp_region_qB (by kernel_rfl) (by kernel_rfl) ?_
      (repeat (first | fail | (apply qB_step; intro K hK; go_simp; first | (refine hK _ ?_; clear hK K) | (apply Exists.intro; refine ⟨fun _ => ?_, hK _ ?_⟩; (first | fail); clear hK K))))
      refine qB_nil ?_
      intro w1 hw1
      replace H := bstep H hw1
      clear hw1
      clear y0 y1
      by_cases he : x = y
      · have HS2 := Lib.hid (HS.out.trans (if_pos he))
        subst he
        go_wp2
        go_roundw
        case rel => exact ⟨k + 1, by omega, by go_num, HS2.out, bstep hb H⟩
        case measure => simp [intOf]; omega
      · have HS2 := Lib.hid (HS.out.trans (if_neg he))
        have y0 := cell_regrown ((H.cell hg0).trans X0)
        have y1 := cell_regrown ((H.cell hg1).trans X1)
        go_upto_region 5 with fail
        have HH := Lib.hid H
        clear H
        have H := Below.refl w1.heap.size w1
        refine wp_region_qB (by kernel_rfl) (by kernel_rfl) ?_
        (repeat (first | fail | (apply qB_step; intro K hK; go_simp; first | (refine hK _ ?_; clear hK K) | (apply Exists.intro; refine ⟨fun _ => ?_, hK _ ?_⟩; (first | fail); clear hK K))))
        refine qB_nil ?_
        intro w1 hw1
        replace H := bstep H hw1
        clear hw1
        go_wp2
        go_ret
        exact ⟨ret_bool HS2.out.symm, bstep (bstep hb HH.out) H⟩
    · obtain rfl : k = a.length := by omega
      have HS : Hid (ahead a b = false) := by rw [Hid, HA.out, List.drop_length]; rfl
      go_wp2
      go_ret
      exact ⟨ret_bool HS.out.symm, hb⟩
theorem fewest_any (A0 : Option Addr) (c0 : Nat) (lc : List Cr) (b off c1 : Nat) (l : List Wt) (w : World) (hr : RdA w A0 (fl cc lc)) (hC : CAt w b off (fl wc l)) (hb1 : b < w.heap.size) (hn : lc.length ≤ 12) (hl : l.length ≤ 8) (hf : lackL (cntL lc) l = []) :
    Calls Try.prog 79 #[.slice A0 lc.length c0, .slice (some ⟨b, off, none⟩) l.length c1] w fun e w' => ∃ v, e = .returned v ∧ OwnN iv w' w.heap.size 2 1 v (fewS lc l).1 ∧ Below w.heap.size w w' := by
  have HC := Lib.hid (⟨hC, hb1⟩ : _ ∧ _)
  have HR := Lib.hid hr
  have HF : Hid (Least lc.length (okF lc l) (fewS lc l).1) := sets_least (fewS_found hf)
  have HV := Lib.hid (okF_every hf)
  clear hC hb1 hr hf
  generalize hnn : lc.length = n at *
  replace hnn := Lib.hid hnn
  go_enter Try.func79, Try.ntmps79
  go_wp2
  go_loopw [5] (fun c wr => ∃ k : Nat, k ≤ n ∧ c = .int .i64 k ∧ Hid (∀ c', c' < k → ∀ q ∈ chF c' 0 n, okF lc l q = false) ∧ Below w.heap.size w wr) (fun c _ => n - (intOf c).toNat)
  case atStart => exact ⟨0, Nat.zero_le _, rfl, fun c' h => absurd h (Nat.not_lt_zero _), Below.refl _ _⟩
  case round =>
    obtain ⟨k, hk, rfl, HN, hb⟩ := hrel
    obtain ⟨wo, hwo⟩ : ∃ wo, wo = wr := ⟨_, rfl⟩
    subst hwo
    have hch := choices_any k 0 n wo (by decide) (by omega) hn (by omega)
    rw [Int.zero_add] at hch
    have HLF := Lib.hid (fun j => least_found (n := n) (c := k) (j := j) (p := okF lc l) HN.out)
    have hrs := chF_le k 0 n
    have hpow : 2 ^ n ≤ 4096 := Nat.pow_le_pow_right (n := 2) (by decide) hn
    have HM := Lib.hid (fun q => (chF_mem k 0 n q).1)
    have HEV : Hid (k = n → everyL n ∈ chF k 0 n) := fun h => (chF_mem k 0 n _).2 ⟨by rw [everyL_length, h], everyL_Asc n⟩
    have HNX : Hid ((∀ q ∈ chF k 0 n, okF lc l q = false) → ∀ c', c' < k + 1 → ∀ q ∈ chF c' 0 n, okF lc l q = false) := fun h c' hc' q hq => by
      rcases Nat.lt_or_ge c' k with q2 | q2
      · exact HN.out c' q2 q hq
      · obtain rfl : c' = k := by omega
        exact h q hq
    generalize chF k 0 n = rs at hch HLF hrs HM HEV HNX
    have hrl : rs.length ≤ 4096 := Nat.le_trans hrs hpow
    clear hrs hpow
    have hch2 := Lib.hid hch
    clear hch
    have hwn : IntKind.i64.wrap ((n : Int) - 1) = n - 1 := by rw [IntKind.wrap_i64]; omega
    go_wp2_with (go_at_call 70; with_reducible refine hch2.out.mono ?_; rintro e wi ⟨v2, rfl, R0, hb2⟩; obtain ⟨g2, p2, rfl, hg2, hB2, HEL⟩ := R0.lies)
    replace HEL := Lib.hid HEL
    clear R0
    go_loopw [16] (fun j wr => ∃ i : Nat, i ≤ rs.length ∧ j = .int .i64 i ∧ Hid (∀ i', i' < i → okF lc l rs[i']! = false) ∧ Hid (Below wi.heap.size wi wr)) (fun j _ => rs.length - (intOf j).toNat)
    case atStart => exact ⟨0, Nat.zero_le _, rfl, fun i' h => absurd h (Nat.not_lt_zero _), Below.refl _ _⟩
    case round =>
      obtain ⟨i, hi, rfl, HI, HQ⟩ := hrel
      by_cases hlt : i < rs.length
      · obtain ⟨u, X0, HU⟩ := HEL.out i hlt
        have x0 := (HQ.out.cell hg2).trans X0
        have HUw := HU.below HQ.out
        have HG := HM.out rs[i]! (by rw [getB hlt]; exact List.getElem_mem hlt)
        have hgl : rs[i]!.length ≤ 12 := by rw [HG.1]; omega
        have HGd := HG.2.good
        clear HG
        have HLF2 := HLF.out i hlt HI.out
        have HNI : Hid (okF lc l rs[i]! = false → ∀ i', i' < i + 1 → okF lc l rs[i']! = false) := fun h i' hi' => by
          rcases Nat.lt_or_ge i' i with q2 | q2
          · exact HI.out i' q2
          · obtain rfl : i' = i := by omega
            exact h
        have hlt2 : (i : Int) < (rs.length : Int) := by omega
        generalize rs[i]! = ks at HUw hgl HGd HLF2 HNI
        have hP : okF lc l ks = decide (lackL (cntL (opL lc ks)) l = []) := rfl
        obtain ⟨A2, c2, rfl, hc2, hrd⟩ := HUw.rd
        have hbo := bstep hb (bstep hb2 HQ.out)
        have R0 := Lib.hid (HR.out.below hbo)
        have C0 := Lib.hid (⟨HC.out.1.below hbo HC.out.2, Nat.lt_of_lt_of_le HC.out.2 hbo.size⟩ : _ ∧ _)
        have hnl := hnn.out
        have HOP := opened_any A0 c0 lc A2 c2 ks wr R0.out (by rw [← fl_iv]; exact hrd) (by rw [hnl]; exact HGd.inn) hc2 (by omega) (by omega)
        rw [hnl] at HOP
        have HOL : (opL lc ks).length ≤ 1048576 := Nat.le_trans (opK_le lc ks ks.length) (by omega)
        clear hnl
        replace HOP := Lib.hid HOP
        have H := Below.refl wr.heap.size wr
        have HLK := fun A c W h hC hb1 => lack_any A c (opL lc ks) b off c1 l W h hC hb1 HOL (by omega)
        have HLE := lackL_le (cntL (opL lc ks)) l
        generalize lackL (cntL (opL lc ks)) l = ll at HLK HLE hP
        replace HLK := Lib.hid HLK
        replace hP := Lib.hid hP
        rcases Nat.eq_zero_or_pos ll.length with h0 | h0
        · have HP2 : okF lc l ks = true := by rw [hP.out, List.length_eq_zero_iff.1 h0]; rfl
          have HE := Lib.hid (show ks = (fewS lc l).1 from (HLF2 HP2).uniq HF.out)
          replace HUw := Lib.hid HUw
          clear HLF2 HP2
          go_wp2_with (first | (go_at_call 85; with_reducible refine HOP.out.mono ?_; rintro e w2 ⟨v2, rfl, O2, hb3⟩; obtain ⟨g3, p3, rfl, KO, -⟩ := O2.lies; replace KO := Lib.hid KO; replace H := bstep H hb3; clear hb3 O2) | (go_at_call 84; with_reducible refine (HLK.out _ p3 _ KO.out.rd (C0.out.1.below H C0.out.2) (Nat.lt_of_lt_of_le C0.out.2 H.size)).mono ?_; rintro e w3 ⟨v3, rfl, O3, hb3⟩; obtain ⟨g4, p4, rfl, KL, -⟩ := O3.lies; replace H := bstep H hb3; clear hb3 O3))
          go_ret
          exact ⟨_, rfl, by rw [← HE.out]; exact (HUw.out.below H).down hb.size, bstep hbo H⟩
        · have HP2 : okF lc l ks = false := by rw [hP.out, decide_eq_false_iff_not]; exact fun q => by simp [q] at h0
          have HN2 := Lib.hid (HNI.out HP2)
          have hz : ((ll.length : Int) == 0) = false := by rw [beq_eq_false_iff_ne]; omega
          clear HLF2 HP2
          go_wp2_with (first | (go_at_call 85; with_reducible refine HOP.out.mono ?_; rintro e w2 ⟨v2, rfl, O2, hb3⟩; obtain ⟨g3, p3, rfl, KO, -⟩ := O2.lies; replace KO := Lib.hid KO; replace H := bstep H hb3; clear hb3 O2) | (go_at_call 84; with_reducible refine (HLK.out _ p3 _ KO.out.rd (C0.out.1.below H C0.out.2) (Nat.lt_of_lt_of_le C0.out.2 H.size)).mono ?_; rintro e w3 ⟨v3, rfl, O3, hb3⟩; obtain ⟨g4, p4, rfl, KL, -⟩ := O3.lies; replace H := bstep H hb3; clear hb3 O3))
          go_roundw
          case rel => exact ⟨i + 1, by omega, by go_num, HN2.out, bstep HQ.out H⟩
          case measure => simp [intOf]; omega
      · obtain rfl : i = rs.length := by omega
        have hall : ∀ q ∈ rs, okF lc l q = false := fun q hq => by
          obtain ⟨i, hi, rfl⟩ := List.getElem_of_mem hq
          rw [← getB hi]
          exact HI.out i hi
        have hkn : k < n := by
          rcases Nat.lt_or_ge k n with q | q
          · exact q
          · have := hall _ (HEV.out (by omega))
            rw [HV.out] at this
            cases this
        have HN2 := Lib.hid (HNX.out hall)
        clear hall
        go_wp2
        go_roundw
        case rel => exact ⟨k + 1, by omega, by go_num, HN2.out, bstep hb (bstep hb2 HQ.out)⟩
        case measure => simp [intOf]; omega
theorem l02Fewest_any (A0 : Option Addr) (c0 : Nat) (lc : List Cr) (b off c1 : Nat) (l : List Wt) (w : World) (hr : RdA w A0 (fl cc lc)) (hC : CAt w b off (fl wc l)) (hb1 : b < w.heap.size) (hn : lc.length ≤ 12) (hl : l.length ≤ 8) :
    Calls Try.prog 75 #[.slice A0 lc.length c0, .slice (some ⟨b, off, none⟩) l.length c1] w fun e w' => ∃ v, e = .returned (.tuple #[v, .bool (fewS lc l).2]) ∧ OwnS iv w' w.heap.size 2 1 v (fewS lc l).1 ∧ Below w.heap.size w w' := by
  have HC := Lib.hid (⟨hC, hb1⟩ : _ ∧ _)
  have HR := Lib.hid hr
  have HF : Hid (fewS lc l = setsK lc.length (okF lc l) (2 ^ lc.length)) := rfl
  have HGE := Lib.hid (fun s => (setsK_some (n := lc.length) (p := okF lc l) s))
  clear hC hb1 hr
  generalize hnn : lc.length = n at *
  replace hnn := Lib.hid hnn
  have hpow : 2 ^ n ≤ 4096 := Nat.pow_le_pow_right (n := 2) (by decide) hn
  obtain ⟨P, hP⟩ : ∃ P : Nat, P = 2 ^ n := ⟨_, rfl⟩
  have hP2 : Hid ((2 : Int) ^ n = (P : Int)) := by rw [Hid, hP]; simp
  rw [← hP] at hpow HF
  replace hP := Lib.hid hP
  have hw1 : IntKind.i64.wrap ((2 : Int) ^ n) = (P : Int) := by rw [hP2.out, IntKind.wrap_i64]; omega
  have hpi : (P : Int) ≤ 4096 := by omega
  go_enter Try.func75, Try.ntmps75
  go_wp2
  go_loopw [6, 7, 8] (fun v fd s wr => ∃ k : Nat, k ≤ P ∧ s = .int .i64 k ∧ fd = .bool (setsK n (okF lc l) k).2 ∧ Hid (OwnS iv wr w.heap.size 2 1 v (setsK n (okF lc l) k).1) ∧ Below w.heap.size w wr) (fun _ _ s _ => P - (intOf s).toNat)
  case atStart => exact ⟨0, Nat.zero_le _, rfl, rfl, OwnS.lit (Nat.le_refl _), by go_grown⟩
  case round =>
    obtain ⟨k, hk, rfl, rfl, HB, hb⟩ := hrel
    obtain ⟨wo, hwo⟩ : ∃ wo, wo = wr := ⟨_, rfl⟩
    subst hwo
    by_cases hlt : k < P
    · have HST : Hid (setsK n (okF lc l) (k + 1) = if ((setsK n (okF lc l) k).2 && !lessL (inSet (fun i => i) k n) (setsK n (okF lc l) k).1) = true then setsK n (okF lc l) k else if okF lc l (inSet (fun i => i) k n) = true then (inSet (fun i => i) k n, true) else setsK n (okF lc l) k) := setStep_eq _ _ _
      have hbl : (setsK n (okF lc l) k).1.length ≤ n := by
        cases hf : (setsK n (okF lc l) k).2 with
        | true => exact ((HGE.out k).1 hf).2.1.good.le
        | false => rw [((HGE.out k).2 hf).1]; exact Nat.zero_le _
      have hlt2 : (k : Int) < (P : Int) := by omega
      have hms : Hid (P - ((k : Int) + 1).toNat < P - (k : Int).toNat) := by show _ < _; omega
      generalize setsK n (okF lc l) k = r at HST HB hbl ⊢
      obtain ⟨bs, fd⟩ := r
      replace HB : Hid (OwnS iv wo w.heap.size 2 1 u6 bs) := HB
      replace hbl : bs.length ≤ n := hbl
      go_wp2
      go_loopw [9, 10] (fun v i wr => ∃ j : Nat, j ≤ n ∧ i = .int .i64 j ∧ Hid (OwnS iv wr wo.heap.size 2 1 v (inSet (fun i => i) k j)) ∧ Hid (Below wo.heap.size wo wr)) (fun _ i _ => n - (intOf i).toNat)
      case atStart => exact ⟨0, Nat.zero_le _, rfl, OwnS.lit (Nat.le_refl _), by show Below wo.heap.size wo _; go_grown⟩
      case round =>
        obtain ⟨j, hj, rfl, HK, HQ⟩ := hrel
        by_cases hltj : j < n
        · have HIS := Lib.hid (inSet_succ (fun i => i) k j)
          have hkl := inSet_le (fun i => i) k j
          have hj2 : (j : Int) < (n : Int) := by omega
          have hdv : ((k : Int) / 2 ^ j).tmod 2 = ((k / 2 ^ j % 2 : Nat) : Int) := by
            have e : ((k : Int) / 2 ^ j) = ((k / 2 ^ j : Nat) : Int) := by simp
            rw [e]
            exact (Int.ofNat_tmod _ _).symm
          have hbo : bitOn k j = decide (k / 2 ^ j % 2 = 1) := rfl
          generalize inSet (fun i => i) k j = ks at HK HIS hkl
          rcases (by omega : k / 2 ^ j % 2 = 1 ∨ k / 2 ^ j % 2 = 0) with hq | hq
          · rw [hq] at hdv hbo
            have HI2 : Hid (inSet (fun i => i) k (j + 1) = ks ++ [(j : Int)]) := by rw [Hid, HIS.out, if_pos (by rw [hbo]; rfl)]
            clear hbo hq
            go_wp2_with (at_builtin; refine wp_app_num wo.heap.size rfl _ _ rfl _ ks (j : Int) rfl _ rfl ?hg ?HO ?hB ?hn ?_; (case hg => simp); (case HO => exact HK.out); (case hB => exact HQ.out.size); (case hn => omega); intro v1 w1 hown hb3)
            go_roundw
            case rel => exact ⟨j + 1, by omega, by go_num, by rw [HI2.out]; exact hown, HQ.out.trans hb3⟩
            case measure => simp [intOf]; omega
          · rw [hq] at hdv hbo
            have HI2 : Hid (inSet (fun i => i) k (j + 1) = ks) := by rw [Hid, HIS.out, if_neg (by rw [hbo]; decide), List.append_nil]
            clear hbo hq
            go_wp2
            go_roundw
            case rel => exact ⟨j + 1, by omega, by go_num, by rw [HI2.out]; exact HK.out, HQ.out⟩
            case measure => simp [intOf]; omega
        · obtain rfl : n = j := by omega
          have hkl := inSet_le (fun i => i) k n
          have HGD := Lib.hid (inSet_asc (fun i => i) k n).good
          generalize inSet (fun i => i) k n = ks at HK HST HGD hkl
          obtain ⟨g9, p9, rfl, L9, hg9, hl9, hc9⟩ := HK.out.lies
          have HB2 := Lib.hid (HB.out.kept HQ.out)
          obtain ⟨g6, p6, rfl, L6, _, _, _⟩ := HB2.out.lies
          replace L9 := Lib.hid L9
          replace L6 := Lib.hid L6
          have hbo := bstep hb HQ.out
          have R0 := Lib.hid (HR.out.below hbo)
          have C0 := Lib.hid (⟨HC.out.1.below hbo HC.out.2, Nat.lt_of_lt_of_le HC.out.2 hbo.size⟩ : _ ∧ _)
          have HLK := fun W (hW : Below wr.heap.size wr W) => l02Lack_any A0 c0 lc b off c1 l (some ⟨g9, 0, none⟩) p9 ks W (R0.out.below hW) (C0.out.1.below hW C0.out.2) (Nat.lt_of_lt_of_le C0.out.2 hW.size) (by rw [← fl_iv]; exact (L9.out.below hW).rd) (by rw [hnn.out]; exact HGD.out.inn) hc9 (by rw [hnn.out]; omega) (by omega) (by omega)
          have hAH := fun W (hW : Below wr.heap.size wr W) => l01Ahead_any (some ⟨g9, 0, none⟩) p9 ks (some ⟨g6, 0, none⟩) p6 bs W (by rw [← fl_iv]; exact (L9.out.below hW).rd) (by rw [← fl_iv]; exact (L6.out.below hW).rd)
          rw [hnn.out] at HLK
          have hP : okF lc l ks = decide (lackL (cntL (opL lc ks)) l = []) := rfl
          have hLSd : lessL ks bs = (decide (ks.length < bs.length) || (decide (ks.length = bs.length) && ahead ks bs)) := rfl
          generalize lackL (cntL (opL lc ks)) l = ll at HLK hP
          replace HLK := Lib.hid HLK
          replace hP := Lib.hid hP
          have H := Below.refl wr.heap.size wr
          clear hbo
          cases fd with
          | false =>
            have HLS : (false && !lessL ks bs) = false := rfl
            clear hLSd hAH
            rcases Nat.eq_zero_or_pos ll.length with h0 | h0
            · have HE := Lib.hid (show setsK n (okF lc l) (k + 1) = (ks, true) by rw [HST.out, if_neg (by simp [HLS]), if_pos (by rw [hP.out, List.length_eq_zero_iff.1 h0]; rfl)])
              go_wp2_with (first | (go_at_call 116; with_reducible refine (hAH _ H).mono ?_; rintro e w2 ⟨rfl, hb3⟩; replace H := bstep H hb3; clear hb3) | (go_at_call 81; with_reducible refine (HLK.out _ H).mono ?_; rintro e w3 ⟨v3, rfl, O3, hb3⟩; obtain ⟨g4, p4, rfl, KL, -⟩ := O3.lies; replace H := bstep H hb3; clear hb3 O3))
              go_roundw
              case rel => exact ⟨k + 1, by omega, by go_num, by rw [HE.out], by rw [HE.out]; exact (HK.out.kept H).down hb.size, bstep hb (bstep HQ.out H)⟩
              case measure => exact hms.out
            · have HE := Lib.hid (show setsK n (okF lc l) (k + 1) = (bs, false) by rw [HST.out, if_neg (by simp [HLS]), if_neg (by rw [hP.out, decide_eq_true_iff]; exact fun q => by simp [q] at h0)])
              have hz : ((ll.length : Int) == 0) = false := by rw [beq_eq_false_iff_ne]; omega
              go_wp2_with (first | (go_at_call 116; with_reducible refine (hAH _ H).mono ?_; rintro e w2 ⟨rfl, hb3⟩; replace H := bstep H hb3; clear hb3) | (go_at_call 81; with_reducible refine (HLK.out _ H).mono ?_; rintro e w3 ⟨v3, rfl, O3, hb3⟩; obtain ⟨g4, p4, rfl, KL, -⟩ := O3.lies; replace H := bstep H hb3; clear hb3 O3))
              go_roundw
              case rel => exact ⟨k + 1, by omega, by go_num, by rw [HE.out], by rw [HE.out]; exact HB2.out.kept H, bstep hb (bstep HQ.out H)⟩
              case measure => exact hms.out
          | true =>
            rcases Nat.lt_trichotomy ks.length bs.length with hc | hc | hc
            · have HLS : (true && !lessL ks bs) = false := by rw [hLSd]; simp [hc]
              have hci : (ks.length : Int) < (bs.length : Int) := by omega
              have hcz : ((ks.length : Int) == (bs.length : Int)) = false := by rw [beq_eq_false_iff_ne]; omega
              clear hLSd hAH
              rcases Nat.eq_zero_or_pos ll.length with h0 | h0
              · have HE := Lib.hid (show setsK n (okF lc l) (k + 1) = (ks, true) by rw [HST.out, if_neg (by simp [HLS]), if_pos (by rw [hP.out, List.length_eq_zero_iff.1 h0]; rfl)])
                go_wp2_with (first | (go_at_call 116; with_reducible refine (hAH _ H).mono ?_; rintro e w2 ⟨rfl, hb3⟩; replace H := bstep H hb3; clear hb3) | (go_at_call 81; with_reducible refine (HLK.out _ H).mono ?_; rintro e w3 ⟨v3, rfl, O3, hb3⟩; obtain ⟨g4, p4, rfl, KL, -⟩ := O3.lies; replace H := bstep H hb3; clear hb3 O3))
                go_roundw
                case rel => exact ⟨k + 1, by omega, by go_num, by rw [HE.out], by rw [HE.out]; exact (HK.out.kept H).down hb.size, bstep hb (bstep HQ.out H)⟩
                case measure => exact hms.out
              · have HE := Lib.hid (show setsK n (okF lc l) (k + 1) = (bs, true) by rw [HST.out, if_neg (by simp [HLS]), if_neg (by rw [hP.out, decide_eq_true_iff]; exact fun q => by simp [q] at h0)])
                have hz : ((ll.length : Int) == 0) = false := by rw [beq_eq_false_iff_ne]; omega
                go_wp2_with (first | (go_at_call 116; with_reducible refine (hAH _ H).mono ?_; rintro e w2 ⟨rfl, hb3⟩; replace H := bstep H hb3; clear hb3) | (go_at_call 81; with_reducible refine (HLK.out _ H).mono ?_; rintro e w3 ⟨v3, rfl, O3, hb3⟩; obtain ⟨g4, p4, rfl, KL, -⟩ := O3.lies; replace H := bstep H hb3; clear hb3 O3))
                go_roundw
                case rel => exact ⟨k + 1, by omega, by go_num, by rw [HE.out], by rw [HE.out]; exact HB2.out.kept H, bstep hb (bstep HQ.out H)⟩
                case measure => exact hms.out
            · have hAH := fun W hW => hAH W hW hc (by omega)
              have hcz : ((ks.length : Int) == (bs.length : Int)) = true := by rw [beq_iff_eq]; omega
              have hci : ¬ (bs.length : Int) < (ks.length : Int) := by omega
              have hLS2 : lessL ks bs = ahead ks bs := by rw [hLSd]; simp [hc]
              replace hc := Lib.hid hc
              clear hLSd
              generalize ahead ks bs = ah at hAH hLS2
              cases ah with
              | true =>
                have HLS : (true && !lessL ks bs) = false := by rw [hLS2]; rfl
                clear hLS2
                rcases Nat.eq_zero_or_pos ll.length with h0 | h0
                · have HE := Lib.hid (show setsK n (okF lc l) (k + 1) = (ks, true) by rw [HST.out, if_neg (by simp [HLS]), if_pos (by rw [hP.out, List.length_eq_zero_iff.1 h0]; rfl)])
                  go_wp2_with (first | (go_at_call 116; with_reducible refine (hAH _ H).mono ?_; rintro e w2 ⟨rfl, hb3⟩; replace H := bstep H hb3; clear hb3) | (go_at_call 81; with_reducible refine (HLK.out _ H).mono ?_; rintro e w3 ⟨v3, rfl, O3, hb3⟩; obtain ⟨g4, p4, rfl, KL, -⟩ := O3.lies; replace H := bstep H hb3; clear hb3 O3))
                  go_roundw
                  case rel => exact ⟨k + 1, by omega, by go_num, by rw [HE.out], by rw [HE.out]; exact (HK.out.kept H).down hb.size, bstep hb (bstep HQ.out H)⟩
                  case measure => exact hms.out
                · have HE := Lib.hid (show setsK n (okF lc l) (k + 1) = (bs, true) by rw [HST.out, if_neg (by simp [HLS]), if_neg (by rw [hP.out, decide_eq_true_iff]; exact fun q => by simp [q] at h0)])
                  have hz : ((ll.length : Int) == 0) = false := by rw [beq_eq_false_iff_ne]; omega
                  go_wp2_with (first | (go_at_call 116; with_reducible refine (hAH _ H).mono ?_; rintro e w2 ⟨rfl, hb3⟩; replace H := bstep H hb3; clear hb3) | (go_at_call 81; with_reducible refine (HLK.out _ H).mono ?_; rintro e w3 ⟨v3, rfl, O3, hb3⟩; obtain ⟨g4, p4, rfl, KL, -⟩ := O3.lies; replace H := bstep H hb3; clear hb3 O3))
                  go_roundw
                  case rel => exact ⟨k + 1, by omega, by go_num, by rw [HE.out], by rw [HE.out]; exact HB2.out.kept H, bstep hb (bstep HQ.out H)⟩
                  case measure => exact hms.out
              | false =>
                have HLS : (true && !lessL ks bs) = true := by rw [hLS2]; rfl
                clear hLS2
                have HE := Lib.hid (show setsK n (okF lc l) (k + 1) = (bs, true) by rw [HST.out, if_pos (by simp [HLS])])
                go_wp2_with (first | (go_at_call 116; with_reducible refine (hAH _ H).mono ?_; rintro e w2 ⟨rfl, hb3⟩; replace H := bstep H hb3; clear hb3) | (go_at_call 81; with_reducible refine (HLK.out _ H).mono ?_; rintro e w3 ⟨v3, rfl, O3, hb3⟩; obtain ⟨g4, p4, rfl, KL, -⟩ := O3.lies; replace H := bstep H hb3; clear hb3 O3))
                go_roundw
                case rel => exact ⟨k + 1, by omega, by go_num, by rw [HE.out], by rw [HE.out]; exact HB2.out.kept H, bstep hb (bstep HQ.out H)⟩
                case measure => exact hms.out
            · have HLS : (true && !lessL ks bs) = true := by rw [hLSd]; simp; omega
              have hci : (bs.length : Int) < (ks.length : Int) := by omega
              clear hLSd hAH
              have HE := Lib.hid (show setsK n (okF lc l) (k + 1) = (bs, true) by rw [HST.out, if_pos (by simp [HLS])])
              go_wp2_with (first | (go_at_call 116; with_reducible refine (hAH _ H).mono ?_; rintro e w2 ⟨rfl, hb3⟩; replace H := bstep H hb3; clear hb3) | (go_at_call 81; with_reducible refine (HLK.out _ H).mono ?_; rintro e w3 ⟨v3, rfl, O3, hb3⟩; obtain ⟨g4, p4, rfl, KL, -⟩ := O3.lies; replace H := bstep H hb3; clear hb3 O3))
              go_roundw
              case rel => exact ⟨k + 1, by omega, by go_num, by rw [HE.out], by rw [HE.out]; exact HB2.out.kept H, bstep hb (bstep HQ.out H)⟩
              case measure => exact hms.out
    · obtain rfl : k = P := by omega
      rw [← HF.out] at HB ⊢
      go_wp2
      exact bodyPost_ret (results_tt rfl) rfl ⟨_, rfl, HB.out, hb⟩
end Go.Proofs.Ytnhpgahapjjjbaa
