/- Texts of the claim, joined (11 of 18): Fewest, Bound, Swap, Free, Fill, Level. -/
import Derived.Test.YtbngpcghognojaaB1
import Derived.Test.YtbngpcghognojaaB2
import Derived.Test.YtbngpcghognojaaB3
import Derived.Test.YtbngpcghognojaaB5
import Derived.Test.YtbngpcghognojaaB8
import Derived.Test.YtbngpcghognojaaB10
namespace Go.Proofs.Ytbngpcghognojaa
open Go.RowKit
set_option linter.unusedVariables false
set_option linter.unusedSimpArgs false
set_option maxRecDepth 100000
set_option maxHeartbeats 1000000
attribute [local go_sem] Oper.qB
/-- An order is filled out of some crates. -/
def okF (lc : List Cr) (l : List Wt) (ks : List Int) : Bool := decide (leftL lc l ks = [])
/-- The fewest crates, and whether there are some. -/
def fewS (lc : List Cr) (l : List Wt) : List Int × Bool := setsK lc.length (okF lc l) (2 ^ lc.length)
theorem okF_every {lc : List Cr} {l : List Wt} (h : lackL (cntL lc) l = []) : okF lc l (everyL lc.length) = true := by
  rw [okF, leftL, opL_every, h]
  rfl
theorem everyL_Asc (n : Nat) : Asc 0 n (everyL n) := ⟨everyL_asc n, fun x hx => by have := everyL_in hx; omega⟩
theorem Asc.good {n : Nat} {ks : List Int} (h : Asc 0 n ks) : Good n ks := ⟨h.1.imp fun q => Int.ne_of_lt q, fun x hx => by have := h.2 x hx; omega⟩
theorem fewS_found {lc : List Cr} {l : List Wt} (h : lackL (cntL lc) l = []) : (fewS lc l).2 = true := sets_found (everyL_Asc _) (okF_every h)
theorem fewS_good {lc : List Cr} {l : List Wt} : Good lc.length (fewS lc l).1 := by
  have := setsK_some (n := lc.length) (p := okF lc l) (2 ^ lc.length)
  cases h : (fewS lc l).2 with
  | true => exact (this.1 h).2.1.good
  | false => unfold fewS; rw [(this.2 h).1]; exact Good.nil _
theorem fewS_ok {lc : List Cr} {l : List Wt} (h : (fewS lc l).2 = true) : leftL lc l (fewS lc l).1 = [] := by
  have := ((setsK_some (n := lc.length) (p := okF lc l) (2 ^ lc.length)).1 h).1
  exact of_decide_eq_true this
theorem drop_cons2 {l : List Int} {k : Nat} (h : k < l.length) : l.drop k = l.getD k 0 :: l.drop (k + 1) := by
  rw [List.drop_eq_getElem_cons h, List.getD_eq_getElem?_getD, List.getElem?_eq_getElem h]
  rfl
theorem ahead_at {a b : List Int} {k : Nat} (hl : a.length = b.length) (h : k < a.length) : ahead (a.drop k) (b.drop k) = if a.getD k 0 = b.getD k 0 then ahead (a.drop (k + 1)) (b.drop (k + 1)) else decide (a.getD k 0 < b.getD k 0) := by
  have h1 := drop_cons2 h
  have h2 := drop_cons2 (l := b) (k := k) (by omega)
  rw [h1, h2, ahead]
theorem l01Ahead_any (A0 : Option Addr) (c0 : Nat) (a : List Int) (A1 : Option Addr) (c1 : Nat) (b : List Int) (w : World) (h0 : RdA w A0 (vi a)) (h1 : RdA w A1 (vi b)) (hl : a.length = b.length) (hn : a.length ≤ 1000000) :
    Calls Try.prog 68 #[.slice A0 a.length c0, .slice A1 b.length c1] w fun e w' => e = .returned (.bool (ahead a b)) ∧ Below w.heap.size w w' := by
  have H0 := Lib.hid h0
  have H1 := Lib.hid h1
  clear h0 h1
  go_enter Try.func68, Try.ntmps68
  go_wp2
  go_loopw [5] (fun i wr => ∃ k : Nat, k ≤ a.length ∧ i = .int .i64 k ∧ Hid (ahead a b = ahead (a.drop k) (b.drop k)) ∧ Below w.heap.size w wr) (fun i _ => a.length - (intOf i).toNat)
  case atStart => exact ⟨0, Nat.zero_le _, rfl, by rw [List.drop_zero, List.drop_zero]; rfl, Below.refl _ _⟩
  case round =>
    obtain ⟨k, hk, rfl, HA, hb⟩ := hrel
    by_cases hlt : k < a.length
    · obtain ⟨g0, o0, rfl, hg0, hC0⟩ := (H0.out.below hb).some (by rw [vi_length]; omega)
      obtain ⟨g1, o1, rfl, hg1, hC1⟩ := (H1.out.below hb).some (by rw [vi_length]; omega)
      have X0 := hC0 k _ (vi_at a k hlt)
      have X1 := hC1 k _ (vi_at b k (by omega))
      have HS := Lib.hid (HA.out.trans (ahead_at hl hlt))
      have hlt2 : (k : Int) < (a.length : Int) := by omega
      have hlt3 : (k : Int) < (b.length : Int) := by omega
      clear hC0 hC1 HA
      generalize a.getD k 0 = x at X0 HS
      generalize b.getD k 0 = y at X1 HS
      have y0 := cell_regrown X0
      have y1 := cell_regrown X1
      go_upto_region 4 with fail
      have H := Below.refl wr.heap.size wr
      refine wp_region_qB (by kernel_rfl) (by kernel_rfl) ?_
      (repeat (first | fail | (apply qB_step; intro K hK; go_simp; first | (refine hK _ ?_; clear hK K) | (apply Exists.intro; refine ⟨fun _ => ?_, hK _ ?_⟩; (first | fail); clear hK K))))
      refine qB_nil ?_
      intro w1 hw1
      replace H := bstep H hw1
      clear hw1
      clear y0 y1
      by_cases he : x = y
      · have HS2 := Lib.hid (HS.out.trans (if_pos he))
        subst he
        go_wp2
        go_roundw
        case rel => exact ⟨k + 1, by omega, by go_num, HS2.out, bstep hb H⟩
        case measure => simp [intOf]; omega
      · have HS2 := Lib.hid (HS.out.trans (if_neg he))
        have y0 := cell_regrown ((H.cell hg0).trans X0)
        have y1 := cell_regrown ((H.cell hg1).trans X1)
        go_upto_region 5 with fail
        have HH := Lib.hid H
        clear H
        have H := Below.refl w1.heap.size w1
        refine wp_region_qB (by kernel_rfl) (by kernel_rfl) ?_
        (repeat (first | fail | (apply qB_step; intro K hK; go_simp; first | (refine hK _ ?_; clear hK K) | (apply Exists.intro; refine ⟨fun _ => ?_, hK _ ?_⟩; (first | fail); clear hK K))))
        refine qB_nil ?_
        intro w1 hw1
        replace H := bstep H hw1
        clear hw1
        go_wp2
        go_ret
        exact ⟨ret_bool HS2.out.symm, bstep (bstep hb HH.out) H⟩
    · obtain rfl : k = a.length := by omega
      have HS : Hid (ahead a b = false) := by rw [Hid, HA.out, List.drop_length]; rfl
      go_wp2
      go_ret
      exact ⟨ret_bool HS.out.symm, hb⟩
theorem fewest_any (A0 : Option Addr) (c0 : Nat) (lc : List Cr) (b off c1 : Nat) (l : List Wt) (w : World) (hr : RdA w A0 (fl cc lc)) (hC : CAt w b off (fl wc l)) (hb1 : b < w.heap.size) (hn : lc.length ≤ 12) (hl : l.length ≤ 8) (hf : lackL (cntL lc) l = []) :
    Calls Try.prog 37 #[.slice A0 lc.length c0, .slice (some ⟨b, off, none⟩) l.length c1] w fun e w' => ∃ v, e = .returned v ∧ OwnN iv w' w.heap.size 2 1 v (fewS lc l).1 ∧ Below w.heap.size w w' := by
  have HC := Lib.hid (⟨hC, hb1⟩ : _ ∧ _)
  have HR := Lib.hid hr
  have HF : Hid (Least lc.length (okF lc l) (fewS lc l).1) := sets_least (fewS_found hf)
  have HV := Lib.hid (okF_every hf)
  clear hC hb1 hr hf
  generalize hnn : lc.length = n at *
  replace hnn := Lib.hid hnn
  go_enter Try.func37, Try.ntmps37
  go_wp2
  go_loopw [5] (fun c wr => ∃ k : Nat, k ≤ n ∧ c = .int .i64 k ∧ Hid (∀ c', c' < k → ∀ q ∈ chF c' 0 n, okF lc l q = false) ∧ Below w.heap.size w wr) (fun c _ => n - (intOf c).toNat)
  case atStart => exact ⟨0, Nat.zero_le _, rfl, fun c' h => absurd h (Nat.not_lt_zero _), Below.refl _ _⟩
  case round =>
    obtain ⟨k, hk, rfl, HN, hb⟩ := hrel
    obtain ⟨wo, hwo⟩ : ∃ wo, wo = wr := ⟨_, rfl⟩
    subst hwo
    have hch := choices_any k 0 n wo (by decide) (by omega) hn (by omega)
    rw [Int.zero_add] at hch
    have HLF := Lib.hid (fun j => least_found (n := n) (c := k) (j := j) (p := okF lc l) HN.out)
    have hrs := chF_le k 0 n
    have hpow : 2 ^ n ≤ 4096 := Nat.pow_le_pow_right (n := 2) (by decide) hn
    have HM := Lib.hid (fun q => (chF_mem k 0 n q).1)
    have HEV : Hid (k = n → everyL n ∈ chF k 0 n) := fun h => (chF_mem k 0 n _).2 ⟨by rw [everyL_length, h], everyL_Asc n⟩
    have HNX : Hid ((∀ q ∈ chF k 0 n, okF lc l q = false) → ∀ c', c' < k + 1 → ∀ q ∈ chF c' 0 n, okF lc l q = false) := fun h c' hc' q hq => by
      rcases Nat.lt_or_ge c' k with q2 | q2
      · exact HN.out c' q2 q hq
      · obtain rfl : c' = k := by omega
        exact h q hq
    generalize chF k 0 n = rs at hch HLF hrs HM HEV HNX
    have hrl : rs.length ≤ 4096 := Nat.le_trans hrs hpow
    clear hrs hpow
    have hch2 := Lib.hid hch
    clear hch
    have hwn : IntKind.i64.wrap ((n : Int) - 1) = n - 1 := by rw [IntKind.wrap_i64]; omega
    go_wp2_with (go_at_call 67; with_reducible refine hch2.out.mono ?_; rintro e wi ⟨v2, rfl, R0, hb2⟩; obtain ⟨g2, p2, rfl, hg2, hB2, HEL⟩ := R0.lies)
    replace HEL := Lib.hid HEL
    clear R0
    go_loopw [16] (fun j wr => ∃ i : Nat, i ≤ rs.length ∧ j = .int .i64 i ∧ Hid (∀ i', i' < i → okF lc l rs[i']! = false) ∧ Hid (Below wi.heap.size wi wr)) (fun j _ => rs.length - (intOf j).toNat)
    case atStart => exact ⟨0, Nat.zero_le _, rfl, fun i' h => absurd h (Nat.not_lt_zero _), Below.refl _ _⟩
    case round =>
      obtain ⟨i, hi, rfl, HI, HQ⟩ := hrel
      by_cases hlt : i < rs.length
      · obtain ⟨u, X0, HU⟩ := HEL.out i hlt
        have x0 := (HQ.out.cell hg2).trans X0
        have HUw := HU.below HQ.out
        have HG := HM.out rs[i]! (by rw [getB hlt]; exact List.getElem_mem hlt)
        have hgl : rs[i]!.length ≤ 12 := by rw [HG.1]; omega
        have HGd := HG.2.good
        clear HG
        have HLF2 := HLF.out i hlt HI.out
        have HNI : Hid (okF lc l rs[i]! = false → ∀ i', i' < i + 1 → okF lc l rs[i']! = false) := fun h i' hi' => by
          rcases Nat.lt_or_ge i' i with q2 | q2
          · exact HI.out i' q2
          · obtain rfl : i' = i := by omega
            exact h
        have hlt2 : (i : Int) < (rs.length : Int) := by omega
        generalize rs[i]! = ks at HUw hgl HGd HLF2 HNI
        have hP : okF lc l ks = decide (lackL (cntL (opL lc ks)) l = []) := rfl
        obtain ⟨A2, c2, rfl, hc2, hrd⟩ := HUw.rd
        have hbo := bstep hb (bstep hb2 HQ.out)
        have R0 := Lib.hid (HR.out.below hbo)
        have C0 := Lib.hid (⟨HC.out.1.below hbo HC.out.2, Nat.lt_of_lt_of_le HC.out.2 hbo.size⟩ : _ ∧ _)
        have hnl := hnn.out
        have HOP := opened_any A0 c0 lc A2 c2 ks wr R0.out (by rw [← fl_iv]; exact hrd) (by rw [hnl]; exact HGd.inn) hc2 (by omega) (by omega)
        rw [hnl] at HOP
        have HOL : (opL lc ks).length ≤ 1048576 := Nat.le_trans (opK_le lc ks ks.length) (by omega)
        clear hnl
        replace HOP := Lib.hid HOP
        have H := Below.refl wr.heap.size wr
        have HLK := fun A c W h hC hb1 => lack_any A c (opL lc ks) b off c1 l W h hC hb1 HOL (by omega)
        have HLE := lackL_le (cntL (opL lc ks)) l
        generalize lackL (cntL (opL lc ks)) l = ll at HLK HLE hP
        replace HLK := Lib.hid HLK
        replace hP := Lib.hid hP
        rcases Nat.eq_zero_or_pos ll.length with h0 | h0
        · have HP2 : okF lc l ks = true := by rw [hP.out, List.length_eq_zero_iff.1 h0]; rfl
          have HE := Lib.hid (show ks = (fewS lc l).1 from (HLF2 HP2).uniq HF.out)
          replace HUw := Lib.hid HUw
          clear HLF2 HP2
          go_wp2_with (first | (go_at_call 41; with_reducible refine HOP.out.mono ?_; rintro e w2 ⟨v2, rfl, O2, hb3⟩; obtain ⟨g3, p3, rfl, KO, -⟩ := O2.lies; replace KO := Lib.hid KO; replace H := bstep H hb3; clear hb3 O2) | (go_at_call 40; with_reducible refine (HLK.out _ p3 _ KO.out.rd (C0.out.1.below H C0.out.2) (Nat.lt_of_lt_of_le C0.out.2 H.size)).mono ?_; rintro e w3 ⟨v3, rfl, O3, hb3⟩; obtain ⟨g4, p4, rfl, KL, -⟩ := O3.lies; replace H := bstep H hb3; clear hb3 O3))
          go_ret
          exact ⟨_, rfl, by rw [← HE.out]; exact (HUw.out.below H).down hb.size, bstep hbo H⟩
        · have HP2 : okF lc l ks = false := by rw [hP.out, decide_eq_false_iff_not]; exact fun q => by simp [q] at h0
          have HN2 := Lib.hid (HNI.out HP2)
          have hz : ((ll.length : Int) == 0) = false := by rw [beq_eq_false_iff_ne]; omega
          clear HLF2 HP2
          go_wp2_with (first | (go_at_call 41; with_reducible refine HOP.out.mono ?_; rintro e w2 ⟨v2, rfl, O2, hb3⟩; obtain ⟨g3, p3, rfl, KO, -⟩ := O2.lies; replace KO := Lib.hid KO; replace H := bstep H hb3; clear hb3 O2) | (go_at_call 40; with_reducible refine (HLK.out _ p3 _ KO.out.rd (C0.out.1.below H C0.out.2) (Nat.lt_of_lt_of_le C0.out.2 H.size)).mono ?_; rintro e w3 ⟨v3, rfl, O3, hb3⟩; obtain ⟨g4, p4, rfl, KL, -⟩ := O3.lies; replace H := bstep H hb3; clear hb3 O3))
          go_roundw
          case rel => exact ⟨i + 1, by omega, by go_num, HN2.out, bstep HQ.out H⟩
          case measure => simp [intOf]; omega
      · obtain rfl : i = rs.length := by omega
        have hall : ∀ q ∈ rs, okF lc l q = false := fun q hq => by
          obtain ⟨i, hi, rfl⟩ := List.getElem_of_mem hq
          rw [← getB hi]
          exact HI.out i hi
        have hkn : k < n := by
          rcases Nat.lt_or_ge k n with q | q
          · exact q
          · have := hall _ (HEV.out (by omega))
            rw [HV.out] at this
            cases this
        have HN2 := Lib.hid (HNX.out hall)
        clear hall
        go_wp2
        go_roundw
        case rel => exact ⟨k + 1, by omega, by go_num, HN2.out, bstep hb (bstep hb2 HQ.out)⟩
        case measure => simp [intOf]; omega
theorem l02Fewest_any (A0 : Option Addr) (c0 : Nat) (lc : List Cr) (b off c1 : Nat) (l : List Wt) (w : World) (hr : RdA w A0 (fl cc lc)) (hC : CAt w b off (fl wc l)) (hb1 : b < w.heap.size) (hn : lc.length ≤ 12) (hl : l.length ≤ 8) :
    Calls Try.prog 39 #[.slice A0 lc.length c0, .slice (some ⟨b, off, none⟩) l.length c1] w fun e w' => ∃ v, e = .returned (.tuple #[v, .bool (fewS lc l).2]) ∧ OwnS iv w' w.heap.size 2 1 v (fewS lc l).1 ∧ Below w.heap.size w w' := by
  have HC := Lib.hid (⟨hC, hb1⟩ : _ ∧ _)
  have HR := Lib.hid hr
  have HF : Hid (fewS lc l = setsK lc.length (okF lc l) (2 ^ lc.length)) := rfl
  have HGE := Lib.hid (fun s => (setsK_some (n := lc.length) (p := okF lc l) s))
  clear hC hb1 hr
  generalize hnn : lc.length = n at *
  replace hnn := Lib.hid hnn
  have hpow : 2 ^ n ≤ 4096 := Nat.pow_le_pow_right (n := 2) (by decide) hn
  obtain ⟨P, hP⟩ : ∃ P : Nat, P = 2 ^ n := ⟨_, rfl⟩
  have hP2 : Hid ((2 : Int) ^ n = (P : Int)) := by rw [Hid, hP]; simp
  rw [← hP] at hpow HF
  replace hP := Lib.hid hP
  have hw1 : IntKind.i64.wrap ((2 : Int) ^ n) = (P : Int) := by rw [hP2.out, IntKind.wrap_i64]; omega
  have hpi : (P : Int) ≤ 4096 := by omega
  go_enter Try.func39, Try.ntmps39
  go_wp2
  go_loopw [6, 7, 8] (fun v fd s wr => ∃ k : Nat, k ≤ P ∧ s = .int .i64 k ∧ fd = .bool (setsK n (okF lc l) k).2 ∧ Hid (OwnS iv wr w.heap.size 2 1 v (setsK n (okF lc l) k).1) ∧ Below w.heap.size w wr) (fun _ _ s _ => P - (intOf s).toNat)
  case atStart => exact ⟨0, Nat.zero_le _, rfl, rfl, OwnS.lit (Nat.le_refl _), by go_grown⟩
  case round =>
    obtain ⟨k, hk, rfl, rfl, HB, hb⟩ := hrel
    obtain ⟨wo, hwo⟩ : ∃ wo, wo = wr := ⟨_, rfl⟩
    subst hwo
    by_cases hlt : k < P
    · have HST : Hid (setsK n (okF lc l) (k + 1) = if ((setsK n (okF lc l) k).2 && !lessL (inSet (fun i => i) k n) (setsK n (okF lc l) k).1) = true then setsK n (okF lc l) k else if okF lc l (inSet (fun i => i) k n) = true then (inSet (fun i => i) k n, true) else setsK n (okF lc l) k) := setStep_eq _ _ _
      have hbl : (setsK n (okF lc l) k).1.length ≤ n := by
        cases hf : (setsK n (okF lc l) k).2 with
        | true => exact ((HGE.out k).1 hf).2.1.good.le
        | false => rw [((HGE.out k).2 hf).1]; exact Nat.zero_le _
      have hlt2 : (k : Int) < (P : Int) := by omega
      have hms : Hid (P - ((k : Int) + 1).toNat < P - (k : Int).toNat) := by show _ < _; omega
      generalize setsK n (okF lc l) k = r at HST HB hbl ⊢
      obtain ⟨bs, fd⟩ := r
      replace HB : Hid (OwnS iv wo w.heap.size 2 1 u6 bs) := HB
      replace hbl : bs.length ≤ n := hbl
      go_wp2
      go_loopw [9, 10] (fun v i wr => ∃ j : Nat, j ≤ n ∧ i = .int .i64 j ∧ Hid (OwnS iv wr wo.heap.size 2 1 v (inSet (fun i => i) k j)) ∧ Hid (Below wo.heap.size wo wr)) (fun _ i _ => n - (intOf i).toNat)
      case atStart => exact ⟨0, Nat.zero_le _, rfl, OwnS.lit (Nat.le_refl _), by show Below wo.heap.size wo _; go_grown⟩
      case round =>
        obtain ⟨j, hj, rfl, HK, HQ⟩ := hrel
        by_cases hltj : j < n
        · have HIS := Lib.hid (inSet_succ (fun i => i) k j)
          have hkl := inSet_le (fun i => i) k j
          have hj2 : (j : Int) < (n : Int) := by omega
          have hdv : ((k : Int) / 2 ^ j).tmod 2 = ((k / 2 ^ j % 2 : Nat) : Int) := by
            have e : ((k : Int) / 2 ^ j) = ((k / 2 ^ j : Nat) : Int) := by simp
            rw [e]
            exact (Int.ofNat_tmod _ _).symm
          have hbo : bitOn k j = decide (k / 2 ^ j % 2 = 1) := rfl
          generalize inSet (fun i => i) k j = ks at HK HIS hkl
          rcases (by omega : k / 2 ^ j % 2 = 1 ∨ k / 2 ^ j % 2 = 0) with hq | hq
          · rw [hq] at hdv hbo
            have HI2 : Hid (inSet (fun i => i) k (j + 1) = ks ++ [(j : Int)]) := by rw [Hid, HIS.out, if_pos (by rw [hbo]; rfl)]
            clear hbo hq
            go_wp2_with (at_builtin; refine wp_app_num wo.heap.size rfl _ _ rfl _ ks (j : Int) rfl _ rfl ?hg ?HO ?hB ?hn ?_; (case hg => simp); (case HO => exact HK.out); (case hB => exact HQ.out.size); (case hn => omega); intro v1 w1 hown hb3)
            go_roundw
            case rel => exact ⟨j + 1, by omega, by go_num, by rw [HI2.out]; exact hown, HQ.out.trans hb3⟩
            case measure => simp [intOf]; omega
          · rw [hq] at hdv hbo
            have HI2 : Hid (inSet (fun i => i) k (j + 1) = ks) := by rw [Hid, HIS.out, if_neg (by rw [hbo]; decide), List.append_nil]
            clear hbo hq
            go_wp2
            go_roundw
            case rel => exact ⟨j + 1, by omega, by go_num, by rw [HI2.out]; exact HK.out, HQ.out⟩
            case measure => simp [intOf]; omega
        · obtain rfl : n = j := by omega
          have hkl := inSet_le (fun i => i) k n
          have HGD := Lib.hid (inSet_asc (fun i => i) k n).good
          generalize inSet (fun i => i) k n = ks at HK HST HGD hkl
          obtain ⟨g9, p9, rfl, L9, hg9, hl9, hc9⟩ := HK.out.lies
          have HB2 := Lib.hid (HB.out.kept HQ.out)
          obtain ⟨g6, p6, rfl, L6, _, _, _⟩ := HB2.out.lies
          replace L9 := Lib.hid L9
          replace L6 := Lib.hid L6
          have hbo := bstep hb HQ.out
          have R0 := Lib.hid (HR.out.below hbo)
          have C0 := Lib.hid (⟨HC.out.1.below hbo HC.out.2, Nat.lt_of_lt_of_le HC.out.2 hbo.size⟩ : _ ∧ _)
          have HLK := fun W (hW : Below wr.heap.size wr W) => l02Lack_any A0 c0 lc b off c1 l (some ⟨g9, 0, none⟩) p9 ks W (R0.out.below hW) (C0.out.1.below hW C0.out.2) (Nat.lt_of_lt_of_le C0.out.2 hW.size) (by rw [← fl_iv]; exact (L9.out.below hW).rd) (by rw [hnn.out]; exact HGD.out.inn) hc9 (by rw [hnn.out]; omega) (by omega) (by omega)
          have hAH := fun W (hW : Below wr.heap.size wr W) => l01Ahead_any (some ⟨g9, 0, none⟩) p9 ks (some ⟨g6, 0, none⟩) p6 bs W (by rw [← fl_iv]; exact (L9.out.below hW).rd) (by rw [← fl_iv]; exact (L6.out.below hW).rd)
          rw [hnn.out] at HLK
          have hP : okF lc l ks = decide (lackL (cntL (opL lc ks)) l = []) := rfl
          have hLSd : lessL ks bs = (decide (ks.length < bs.length) || (decide (ks.length = bs.length) && ahead ks bs)) := rfl
          generalize lackL (cntL (opL lc ks)) l = ll at HLK hP
          replace HLK := Lib.hid HLK
          replace hP := Lib.hid hP
          have H := Below.refl wr.heap.size wr
          clear hbo
          cases fd with
          | false =>
            have HLS : (false && !lessL ks bs) = false := rfl
            clear hLSd hAH
            rcases Nat.eq_zero_or_pos ll.length with h0 | h0
            · have HE := Lib.hid (show setsK n (okF lc l) (k + 1) = (ks, true) by rw [HST.out, if_neg (by simp [HLS]), if_pos (by rw [hP.out, List.length_eq_zero_iff.1 h0]; rfl)])
              go_wp2_with (first | (go_at_call 68; with_reducible refine (hAH _ H).mono ?_; rintro e w2 ⟨rfl, hb3⟩; replace H := bstep H hb3; clear hb3) | (go_at_call 34; with_reducible refine (HLK.out _ H).mono ?_; rintro e w3 ⟨v3, rfl, O3, hb3⟩; obtain ⟨g4, p4, rfl, KL, -⟩ := O3.lies; replace H := bstep H hb3; clear hb3 O3))
              go_roundw
              case rel => exact ⟨k + 1, by omega, by go_num, by rw [HE.out], by rw [HE.out]; exact (HK.out.kept H).down hb.size, bstep hb (bstep HQ.out H)⟩
              case measure => exact hms.out
            · have HE := Lib.hid (show setsK n (okF lc l) (k + 1) = (bs, false) by rw [HST.out, if_neg (by simp [HLS]), if_neg (by rw [hP.out, decide_eq_true_iff]; exact fun q => by simp [q] at h0)])
              have hz : ((ll.length : Int) == 0) = false := by rw [beq_eq_false_iff_ne]; omega
              go_wp2_with (first | (go_at_call 68; with_reducible refine (hAH _ H).mono ?_; rintro e w2 ⟨rfl, hb3⟩; replace H := bstep H hb3; clear hb3) | (go_at_call 34; with_reducible refine (HLK.out _ H).mono ?_; rintro e w3 ⟨v3, rfl, O3, hb3⟩; obtain ⟨g4, p4, rfl, KL, -⟩ := O3.lies; replace H := bstep H hb3; clear hb3 O3))
              go_roundw
              case rel => exact ⟨k + 1, by omega, by go_num, by rw [HE.out], by rw [HE.out]; exact HB2.out.kept H, bstep hb (bstep HQ.out H)⟩
              case measure => exact hms.out
          | true =>
            rcases Nat.lt_trichotomy ks.length bs.length with hc | hc | hc
            · have HLS : (true && !lessL ks bs) = false := by rw [hLSd]; simp [hc]
              have hci : (ks.length : Int) < (bs.length : Int) := by omega
              have hcz : ((ks.length : Int) == (bs.length : Int)) = false := by rw [beq_eq_false_iff_ne]; omega
              clear hLSd hAH
              rcases Nat.eq_zero_or_pos ll.length with h0 | h0
              · have HE := Lib.hid (show setsK n (okF lc l) (k + 1) = (ks, true) by rw [HST.out, if_neg (by simp [HLS]), if_pos (by rw [hP.out, List.length_eq_zero_iff.1 h0]; rfl)])
                go_wp2_with (first | (go_at_call 68; with_reducible refine (hAH _ H).mono ?_; rintro e w2 ⟨rfl, hb3⟩; replace H := bstep H hb3; clear hb3) | (go_at_call 34; with_reducible refine (HLK.out _ H).mono ?_; rintro e w3 ⟨v3, rfl, O3, hb3⟩; obtain ⟨g4, p4, rfl, KL, -⟩ := O3.lies; replace H := bstep H hb3; clear hb3 O3))
                go_roundw
                case rel => exact ⟨k + 1, by omega, by go_num, by rw [HE.out], by rw [HE.out]; exact (HK.out.kept H).down hb.size, bstep hb (bstep HQ.out H)⟩
                case measure => exact hms.out
              · have HE := Lib.hid (show setsK n (okF lc l) (k + 1) = (bs, true) by rw [HST.out, if_neg (by simp [HLS]), if_neg (by rw [hP.out, decide_eq_true_iff]; exact fun q => by simp [q] at h0)])
                have hz : ((ll.length : Int) == 0) = false := by rw [beq_eq_false_iff_ne]; omega
                go_wp2_with (first | (go_at_call 68; with_reducible refine (hAH _ H).mono ?_; rintro e w2 ⟨rfl, hb3⟩; replace H := bstep H hb3; clear hb3) | (go_at_call 34; with_reducible refine (HLK.out _ H).mono ?_; rintro e w3 ⟨v3, rfl, O3, hb3⟩; obtain ⟨g4, p4, rfl, KL, -⟩ := O3.lies; replace H := bstep H hb3; clear hb3 O3))
                go_roundw
                case rel => exact ⟨k + 1, by omega, by go_num, by rw [HE.out], by rw [HE.out]; exact HB2.out.kept H, bstep hb (bstep HQ.out H)⟩
                case measure => exact hms.out
            · have hAH := fun W hW => hAH W hW hc (by omega)
              have hcz : ((ks.length : Int) == (bs.length : Int)) = true := by rw [beq_iff_eq]; omega
              have hci : ¬ (bs.length : Int) < (ks.length : Int) := by omega
              have hLS2 : lessL ks bs = ahead ks bs := by rw [hLSd]; simp [hc]
              replace hc := Lib.hid hc
              clear hLSd
              generalize ahead ks bs = ah at hAH hLS2
              cases ah with
              | true =>
                have HLS : (true && !lessL ks bs) = false := by rw [hLS2]; rfl
                clear hLS2
                rcases Nat.eq_zero_or_pos ll.length with h0 | h0
                · have HE := Lib.hid (show setsK n (okF lc l) (k + 1) = (ks, true) by rw [HST.out, if_neg (by simp [HLS]), if_pos (by rw [hP.out, List.length_eq_zero_iff.1 h0]; rfl)])
                  go_wp2_with (first | (go_at_call 68; with_reducible refine (hAH _ H).mono ?_; rintro e w2 ⟨rfl, hb3⟩; replace H := bstep H hb3; clear hb3) | (go_at_call 34; with_reducible refine (HLK.out _ H).mono ?_; rintro e w3 ⟨v3, rfl, O3, hb3⟩; obtain ⟨g4, p4, rfl, KL, -⟩ := O3.lies; replace H := bstep H hb3; clear hb3 O3))
                  go_roundw
                  case rel => exact ⟨k + 1, by omega, by go_num, by rw [HE.out], by rw [HE.out]; exact (HK.out.kept H).down hb.size, bstep hb (bstep HQ.out H)⟩
                  case measure => exact hms.out
                · have HE := Lib.hid (show setsK n (okF lc l) (k + 1) = (bs, true) by rw [HST.out, if_neg (by simp [HLS]), if_neg (by rw [hP.out, decide_eq_true_iff]; exact fun q => by simp [q] at h0)])
                  have hz : ((ll.length : Int) == 0) = false := by rw [beq_eq_false_iff_ne]; omega
                  go_wp2_with (first | (go_at_call 68; with_reducible refine (hAH _ H).mono ?_; rintro e w2 ⟨rfl, hb3⟩; replace H := bstep H hb3; clear hb3) | (go_at_call 34; with_reducible refine (HLK.out _ H).mono ?_; rintro e w3 ⟨v3, rfl, O3, hb3⟩; obtain ⟨g4, p4, rfl, KL, -⟩ := O3.lies; replace H := bstep H hb3; clear hb3 O3))
                  go_roundw
                  case rel => exact ⟨k + 1, by omega, by go_num, by rw [HE.out], by rw [HE.out]; exact HB2.out.kept H, bstep hb (bstep HQ.out H)⟩
                  case measure => exact hms.out
              | false =>
                have HLS : (true && !lessL ks bs) = true := by rw [hLS2]; rfl
                clear hLS2
                have HE := Lib.hid (show setsK n (okF lc l) (k + 1) = (bs, true) by rw [HST.out, if_pos (by simp [HLS])])
                go_wp2_with (first | (go_at_call 68; with_reducible refine (hAH _ H).mono ?_; rintro e w2 ⟨rfl, hb3⟩; replace H := bstep H hb3; clear hb3) | (go_at_call 34; with_reducible refine (HLK.out _ H).mono ?_; rintro e w3 ⟨v3, rfl, O3, hb3⟩; obtain ⟨g4, p4, rfl, KL, -⟩ := O3.lies; replace H := bstep H hb3; clear hb3 O3))
                go_roundw
                case rel => exact ⟨k + 1, by omega, by go_num, by rw [HE.out], by rw [HE.out]; exact HB2.out.kept H, bstep hb (bstep HQ.out H)⟩
                case measure => exact hms.out
            · have HLS : (true && !lessL ks bs) = true := by rw [hLSd]; simp; omega
              have hci : (bs.length : Int) < (ks.length : Int) := by omega
              clear hLSd hAH
              have HE := Lib.hid (show setsK n (okF lc l) (k + 1) = (bs, true) by rw [HST.out, if_pos (by simp [HLS])])
              go_wp2_with (first | (go_at_call 68; with_reducible refine (hAH _ H).mono ?_; rintro e w2 ⟨rfl, hb3⟩; replace H := bstep H hb3; clear hb3) | (go_at_call 34; with_reducible refine (HLK.out _ H).mono ?_; rintro e w3 ⟨v3, rfl, O3, hb3⟩; obtain ⟨g4, p4, rfl, KL, -⟩ := O3.lies; replace H := bstep H hb3; clear hb3 O3))
              go_roundw
              case rel => exact ⟨k + 1, by omega, by go_num, by rw [HE.out], by rw [HE.out]; exact HB2.out.kept H, bstep hb (bstep HQ.out H)⟩
              case measure => exact hms.out
    · obtain rfl : k = P := by omega
      rw [← HF.out] at HB ⊢
      go_wp2
      exact bodyPost_ret (results_tt rfl) rfl ⟨_, rfl, HB.out, hb⟩
end Go.Proofs.Ytbngpcghognojaa
namespace Go.Proofs.Ytbngpcghognojaa
open Go.RowKit
set_option linter.unusedVariables false
set_option linter.unusedSimpArgs false
set_option maxRecDepth 100000
set_option maxHeartbeats 1000000
attribute [local go_sem] Oper.qB
def fewR (lc : List Cr) (l : List Wt) : List Int × Int := if fillI lc l = 0 then ((fewS lc l).1, 0) else ([], fillI lc l)
def bndK (lc : List Cr) (l : List Wt) : Nat → Int
  | 0 => 0
  | k + 1 => max (bndK lc l k) ((fewS lc [l[k]!]).1.length : Int)
def boundR (lc : List Cr) (l : List Wt) : Int × Int := if fillI lc l = 0 then (bndK lc l l.length, 0) else (0, fillI lc l)
theorem fewS_le (lc : List Cr) (l : List Wt) : (fewS lc l).1.length ≤ lc.length := fewS_good.le
theorem fewR_le (lc : List Cr) (l : List Wt) : (fewR lc l).1.length ≤ 12 := by
  unfold fewR
  split
  · rename_i h
    rcases fillI_cases lc l with ⟨_, h1, h2⟩ | e | e
    · have := fewS_le lc l
      have := (ask_le h1).1
      show (fewS lc l).1.length ≤ 12
      omega
    · rw [e] at h; cases h
    · rw [e] at h; cases h
  · simp
theorem lack_one {f : Bt → Nat} {l : List Wt} (h : lackL f l = []) {x : Wt} (hx : x ∈ l) : lackL f [x] = [] := by
  unfold lackL at *
  rw [List.flatMap_eq_nil_iff] at h
  simp [h x hx]
theorem bndK_le (lc : List Cr) (l : List Wt) : ∀ k, 0 ≤ bndK lc l k ∧ bndK lc l k ≤ lc.length
  | 0 => by simp [bndK]
  | k + 1 => by
    have := bndK_le lc l k
    have := fewS_le lc [l[k]!]
    rw [bndK]
    omega
theorem FewestOpen_any (g0 c0 : Nat) (lc : List Cr) (g1 c1 : Nat) (l : List Wt) (w : World) (K0 : Lies cc w g0 lc) (K1 : Lies wc w g1 l) (hn : lc.length ≤ 1048576) (hl : l.length ≤ 1048576) :
    Calls Try.prog 7 #[.slice (some ⟨g0, 0, none⟩) lc.length c0, .slice (some ⟨g1, 0, none⟩) l.length c1] w fun e w' => ∃ v, e = .returned (.tuple #[v, .int .i64 (fewR lc l).2]) ∧ OwnN iv w' w.heap.size 2 1 v (fewR lc l).1 ∧ Below w.heap.size w w' := by
  have H := Below.refl w.heap.size w
  replace K0 := Lib.hid K0
  replace K1 := Lib.hid K1
  rcases fillI_cases lc l with ⟨e, ha, hf⟩ | e | e
  rotate_left
  all_goals try (
    have HF := Lib.hid (show fewR lc l = ([], fillI lc l) by rw [fewR, if_neg (by rw [e]; decide)])
    have HI := Lib.hid e
    rw [HI.out] at HF
    clear e
    go_enter Try.func7, Try.ntmps7
    go_wp2_with (go_at_call 36; with_reducible refine (fillCode_any g0 c0 lc g1 c1 l _ (K0.out.below H) (K1.out.below H) hn hl).mono ?_; rintro e w' ⟨rfl, hb⟩; rw [HI.out]; replace H := bstep H hb; clear hb)
    rw [HF.out]
    exact bodyPost_ret (results_tt rfl) rfl ⟨_, rfl, OwnN.nil, H⟩)
  have HF := Lib.hid (show fewR lc l = ((fewS lc l).1, 0) by rw [fewR, if_pos e])
  have HI := Lib.hid e
  have HZ := Lib.hid hf
  have h8 := ask_le ha
  clear e ha hf
  go_enter Try.func7, Try.ntmps7
  go_wp2_with (first | (go_at_call 36; with_reducible refine (fillCode_any g0 c0 lc g1 c1 l _ (K0.out.below H) (K1.out.below H) hn hl).mono ?_; rintro e w' ⟨rfl, hb⟩; rw [HI.out]; replace H := bstep H hb; clear hb) | (go_at_call 37; with_reducible refine (fewest_any _ c0 lc g1 0 c1 l _ (K0.out.below H).rd (K1.out.below H).c (K1.out.below H).lt h8.1 h8.2 HZ.out).mono ?_; rintro e w2 ⟨v2, rfl, O2, hb⟩; replace O2 := O2.down H.size; replace H := bstep H hb; clear hb))
  rw [HF.out]
  exact bodyPost_ret (results_tt rfl) rfl ⟨_, rfl, O2, H⟩
theorem sFewestOpen_any (g0 c0 : Nat) (lc : List Cr) (g1 c1 : Nat) (l : List Wt) (w : World) (K0 : Lies cc w g0 lc) (K1 : Lies wc w g1 l) (hn : lc.length ≤ 1048576) (hl : l.length ≤ 1048576) :
    Calls Try.prog 8 #[.slice (some ⟨g0, 0, none⟩) lc.length c0, .slice (some ⟨g1, 0, none⟩) l.length c1] w fun e w' => ∃ v, e = .returned (.tuple #[v, .int .i64 (fewR lc l).2]) ∧ OwnN iv w' w.heap.size 2 1 v (fewR lc l).1 ∧ Below w.heap.size w w' := by
  have H := Below.refl w.heap.size w
  replace K0 := Lib.hid K0
  replace K1 := Lib.hid K1
  rcases fillI_cases lc l with ⟨e, ha, hf⟩ | e | e
  rotate_left
  all_goals try (
    have HF := Lib.hid (show fewR lc l = ([], fillI lc l) by rw [fewR, if_neg (by rw [e]; decide)])
    have HI := Lib.hid e
    rw [HI.out] at HF
    clear e
    go_enter Try.func8, Try.ntmps8
    go_wp2_with (go_at_call 38; with_reducible refine (l02Filled_any g0 c0 lc g1 c1 l _ (K0.out.below H) (K1.out.below H) hn hl).mono ?_; rintro e w' ⟨rfl, hb⟩; rw [HI.out]; replace H := bstep H hb; clear hb)
    rw [HF.out]
    exact bodyPost_ret (results_tt rfl) rfl ⟨_, rfl, (OwnS.lit (f := iv) H.size).n, H.alloc H.size _⟩)
  have HF := Lib.hid (show fewR lc l = ((fewS lc l).1, 0) by rw [fewR, if_pos e])
  have HI := Lib.hid e
  have h8 := ask_le ha
  clear e ha hf
  go_enter Try.func8, Try.ntmps8
  go_wp2_with (first | (go_at_call 38; with_reducible refine (l02Filled_any g0 c0 lc g1 c1 l _ (K0.out.below H) (K1.out.below H) hn hl).mono ?_; rintro e w' ⟨rfl, hb⟩; rw [HI.out]; replace H := bstep H hb; clear hb) | (go_at_call 39; with_reducible refine (l02Fewest_any _ c0 lc g1 0 c1 l _ (K0.out.below H).rd (K1.out.below H).c (K1.out.below H).lt h8.1 h8.2).mono ?_; rintro e w2 ⟨v2, rfl, O2, hb⟩; replace O2 := O2.down H.size; replace H := bstep H hb; clear hb))
  rw [HF.out]
  exact bodyPost_ret (results_tt rfl) rfl ⟨_, rfl, O2.n, H⟩
theorem OpenBound_any (g0 c0 : Nat) (lc : List Cr) (g1 c1 : Nat) (l : List Wt) (w : World) (K0 : Lies cc w g0 lc) (K1 : Lies wc w g1 l) (hn : lc.length ≤ 1048576) (hl : l.length ≤ 1048576) :
    Calls Try.prog 11 #[.slice (some ⟨g0, 0, none⟩) lc.length c0, .slice (some ⟨g1, 0, none⟩) l.length c1] w fun e w' => e = .returned (.tuple #[.int .i64 (boundR lc l).1, .int .i64 (boundR lc l).2]) ∧ Below w.heap.size w w' := by
  have H := Below.refl w.heap.size w
  replace K0 := Lib.hid K0
  replace K1 := Lib.hid K1
  rcases fillI_cases lc l with ⟨e, ha, hf⟩ | e | e
  rotate_left
  all_goals try (
    have HF := Lib.hid (show boundR lc l = (0, fillI lc l) by rw [boundR, if_neg (by rw [e]; decide)])
    have HI := Lib.hid e
    rw [HI.out] at HF
    clear e
    go_enter Try.func11, Try.ntmps11
    go_wp2_with (go_at_call 36; with_reducible refine (fillCode_any g0 c0 lc g1 c1 l _ (K0.out.below H) (K1.out.below H) hn hl).mono ?_; rintro e w' ⟨rfl, hb⟩; rw [HI.out]; replace H := bstep H hb; clear hb)
    rw [HF.out]
    exact bodyPost_ret (results_tt rfl) rfl ⟨rfl, H⟩)
  have HF := Lib.hid (show boundR lc l = (bndK lc l l.length, 0) by rw [boundR, if_pos e])
  have HI := Lib.hid e
  have HZ := Lib.hid hf
  have h8 := ask_le ha
  clear e ha hf
  go_enter Try.func11, Try.ntmps11
  go_wp2_with (go_at_call 36; with_reducible refine (fillCode_any g0 c0 lc g1 c1 l _ (K0.out.below H) (K1.out.below H) hn hl).mono ?_; rintro e w' ⟨rfl, hb⟩; rw [HI.out]; replace H := bstep H hb; clear hb)
  go_loopw [7, 18] (fun m i wr => ∃ k : Nat, k ≤ l.length ∧ i = .int .i64 k ∧ m = .int .i64 (bndK lc l k) ∧ Hid (Below w.heap.size w wr)) (fun _ i _ => l.length - (intOf i).toNat)
  case atStart => exact ⟨0, Nat.zero_le _, rfl, rfl, H⟩
  case round =>
    clear H
    obtain ⟨k, hk, rfl, rfl, HQ⟩ := hrel
    by_cases hlt : k < l.length
    · have HX := (K1.out.below HQ.out).c.el wc_length hlt
      rw [Nat.zero_add] at HX
      have HB : Hid (bndK lc l (k + 1) = max (bndK lc l k) ((fewS lc [l[k]!]).1.length : Int)) := rfl
      have HLO := lack_one HZ.out (x := l[k]!) (by rw [getB hlt]; exact List.getElem_mem hlt)
      have hlt2 : (k : Int) < (l.length : Int) := by omega
      generalize l[k]! = x at HX HB HLO
      have hbd := bndK_le lc l k
      generalize bndK lc l k = m at HB hbd ⊢
      have x0 : wr.cell? ⟨g1, k * 3, none⟩ = some (.int .u8 x.b.k) := HX 0 _ rfl
      have x1 : wr.cell? ⟨g1, k * 3 + 1, none⟩ = some (.int .i16 x.b.y) := HX 1 _ rfl
      have x2 : wr.cell? ⟨g1, k * 3 + 2, none⟩ = some (.int .i16 x.n) := HX 2 _ rfl
      go_upto_region 8 with fail
      generalize hW1 : World.alloc _ _ = W1
      have hg : Below wr.heap.size wr W1 := by rw [← hW1]; go_grown
      have r4 : rowOf W1 wr.heap.size = some (wc x).toArray := by rw [← hW1, rowOf_alloc, if_pos rfl]; rfl
      have HQ1 := Lib.hid (bstep HQ.out hg)
      clear hW1 x0 x1 x2 hg HQ HX
      generalize wr.heap.size = g4 at r4 ⊢
      have z0 : W1.cell? ⟨g4, 0, none⟩ = some (.int .u8 x.b.k) := rowOf_cell r4 0
      have z1 : W1.cell? ⟨g4, 1, none⟩ = some (.int .i16 x.b.y) := rowOf_cell r4 1
      have z2 : W1.cell? ⟨g4, 2, none⟩ = some (.int .i16 x.n) := rowOf_cell r4 2
      have H := Below.refl W1.heap.size W1
      have K0w := Lib.hid (K0.out.below HQ1.out)
      have hle := fewS_le lc [x]
      have HFW := fun c W hr hC hb1 => fewest_any (some ⟨g0, 0, none⟩) c0 lc W1.heap.size 0 c [x] W hr hC hb1 h8.1 (by simp) HLO
      generalize (fewS lc [x]).1 = ks at HB hle HFW
      have HFW2 := Lib.hid HFW
      clear HFW HLO
      go_wp2_with (go_at_call 37; refine (HFW2.out 1 _ ?hr ?hC ?hb).mono ?_; (case hr => exact (K0w.out.below ((Below.refl _ W1).alloc (Nat.le_refl _) _)).rd); (case hC => rw [fl_one]; exact CAt.of_row (by rw [rowOf_alloc, if_pos (by simp)]; rfl)); (case hb => simp); rintro e w2 ⟨v2, rfl, O2, hb⟩; obtain ⟨A2, c2, rfl, -, -⟩ := O2.rd; have hb5 := ((Below.refl W1.heap.size W1).alloc (Nat.le_refl _) _).trans (hb.mono (by simp)); clear hb O2)
      go_roundw
      case rel => exact ⟨k + 1, by omega, by go_num, by rw [HB.out], bstep HQ1.out hb5⟩
      case measure => simp [intOf]; omega
    · obtain rfl : k = l.length := by omega
      go_wp2
      rw [HF.out]
      exact bodyPost_ret (results_tt rfl) rfl ⟨rfl, HQ.out⟩
theorem l00Max_any (a b : Int) (w : World) : Calls Try.prog 46 #[.int .i64 a, .int .i64 b] w fun e w' => e = .returned (.int .i64 (max a b)) ∧ w = w' := by
  rcases (by omega : b < a ∨ a ≤ b) with h | h
  · have HF := Lib.hid (show max a b = a by omega)
    go_enter Try.func46, Try.ntmps46
    go_wp2
    go_ret
    exact ⟨by rw [HF.out]; rfl, rfl⟩
  · have HF := Lib.hid (show max a b = b by omega)
    have h2 : ¬ b < a := by omega
    go_enter Try.func46, Try.ntmps46
    go_wp2
    go_ret
    exact ⟨by rw [HF.out]; rfl, rfl⟩
theorem sOpenBound_any (g0 c0 : Nat) (lc : List Cr) (g1 c1 : Nat) (l : List Wt) (w : World) (K0 : Lies cc w g0 lc) (K1 : Lies wc w g1 l) (hc1 : l.length ≤ c1) (hn : lc.length ≤ 1048576) (hl : l.length ≤ 1048576) :
    Calls Try.prog 12 #[.slice (some ⟨g0, 0, none⟩) lc.length c0, .slice (some ⟨g1, 0, none⟩) l.length c1] w fun e w' => e = .returned (.tuple #[.int .i64 (boundR lc l).1, .int .i64 (boundR lc l).2]) ∧ Below w.heap.size w w' := by
  have H := Below.refl w.heap.size w
  replace K0 := Lib.hid K0
  replace K1 := Lib.hid K1
  rcases fillI_cases lc l with ⟨e, ha, hf⟩ | e | e
  rotate_left
  all_goals try (
    have HF := Lib.hid (show boundR lc l = (0, fillI lc l) by rw [boundR, if_neg (by rw [e]; decide)])
    have HI := Lib.hid e
    rw [HI.out] at HF
    clear e
    go_enter Try.func12, Try.ntmps12
    go_wp2_with (go_at_call 38; with_reducible refine (l02Filled_any g0 c0 lc g1 c1 l _ (K0.out.below H) (K1.out.below H) hn hl).mono ?_; rintro e w' ⟨rfl, hb⟩; rw [HI.out]; replace H := bstep H hb; clear hb)
    rw [HF.out]
    exact bodyPost_ret (results_tt rfl) rfl ⟨rfl, H⟩)
  have HF := Lib.hid (show boundR lc l = (bndK lc l l.length, 0) by rw [boundR, if_pos e])
  have HI := Lib.hid e
  have HZ := Lib.hid hf
  have h8 := ask_le ha
  clear e ha hf
  go_enter Try.func12, Try.ntmps12
  go_wp2_with (go_at_call 38; with_reducible refine (l02Filled_any g0 c0 lc g1 c1 l _ (K0.out.below H) (K1.out.below H) hn hl).mono ?_; rintro e w' ⟨rfl, hb⟩; rw [HI.out]; replace H := bstep H hb; clear hb)
  go_loopw [7, 8] (fun m i wr => ∃ k : Nat, k ≤ l.length ∧ i = .int .i64 k ∧ m = .int .i64 (bndK lc l k) ∧ Hid (Below w.heap.size w wr)) (fun _ i _ => l.length - (intOf i).toNat)
  case atStart => exact ⟨0, Nat.zero_le _, rfl, rfl, H⟩
  case round =>
    clear H
    obtain ⟨k, hk, rfl, rfl, HQ⟩ := hrel
    by_cases hlt : k < l.length
    · have HX := (K1.out.below HQ.out).c.el wc_length hlt
      rw [Nat.zero_add] at HX
      have HB : Hid (bndK lc l (k + 1) = max (bndK lc l k) ((fewS lc [l[k]!]).1.length : Int)) := rfl
      have HLO := lack_one HZ.out (x := l[k]!) (by rw [getB hlt]; exact List.getElem_mem hlt)
      have hlt2 : (k : Int) < (l.length : Int) := by omega
      generalize l[k]! = x at HX HB HLO
      have hbd := bndK_le lc l k
      generalize bndK lc l k = m at HB hbd ⊢
      have hle := fewS_le lc [x]
      have HXw := Lib.hid (⟨HX, (K1.out.below HQ.out).lt⟩ : _ ∧ _)
      have K0w := Lib.hid (K0.out.below HQ.out)
      have HFW := fun c => l02Fewest_any (some ⟨g0, 0, none⟩) c0 lc g1 (k * 3) c [x] wr K0w.out.rd (by rw [fl_one]; exact HXw.out.1) HXw.out.2 h8.1 (by simp)
      generalize (fewS lc [x]).1 = ks at HB hle HFW
      generalize (fewS lc [x]).2 = fd at HFW
      have hxl : [x].length = 1 := rfl
      rw [hxl] at HFW
      have HFW2 := Lib.hid HFW
      have hMax := fun W => l00Max_any m (ks.length : Int) W
      have hk3 : (k : Int) + 1 ≤ c1 := by omega
      have H := Below.refl wr.heap.size wr
      clear HFW HLO HX hxl
      go_wp2_with (first | (go_at_call 39; with_reducible refine (HFW2.out _).mono ?_; rintro e w2 ⟨v2, rfl, O2, hb⟩; obtain ⟨g5, c5, rfl, -⟩ := O2.lies; replace H := bstep H hb; clear hb O2) | (go_at_call 46; with_reducible refine (hMax _).mono ?_; rintro e w2 ⟨rfl, rfl⟩))
      go_roundw
      case rel => exact ⟨k + 1, by omega, by go_num, by rw [HB.out], bstep HQ.out H⟩
      case measure => simp [intOf]; omega
    · obtain rfl : k = l.length := by omega
      go_wp2
      rw [HF.out]
      exact bodyPost_ret (results_tt rfl) rfl ⟨rfl, HQ.out⟩
end Go.Proofs.Ytbngpcghognojaa
namespace Go.Proofs.Ytbngpcghognojaa
open Go.RowKit
set_option linter.unusedVariables false
set_option linter.unusedSimpArgs false
set_option maxRecDepth 100000
set_option maxHeartbeats 1000000
attribute [local go_sem] Oper.qB
def isP (n : Int) : Bool := decide (0 ≤ n) && decide (n ≤ 11)
def Sw.ok (s : Sw) : Bool := isP s.f && isP s.t
/-- A crate with what is in two places exchanged. -/
def swapC (c : Cr) (i j : Nat) : Cr := setC (setC c i (rB c.toList j)) j (rB c.toList i)
def swC (c : Cr) (s : Sw) : Cr := swapC c s.f.toNat s.t.toNat
def swapR (c : Cr) (s : Sw) : Cr × Int := if c.ok = false then (zC, 1) else if s.ok = false then (zC, 2) else (swC c s, 0)
section
variable {P : Program} {ops : Array Oper} {rest : List Oper} {o : Oper} {a : Act} {w : World} {Q : Exit → Act → World → Prop}
theorem run_store_place (w : World) (g i : Nat) (ty : TypeId) (b : Bt) (l : List Bt) (hr : rowOf w g = some (bcs l).toArray) (hl : i < l.length) (hi : (P.info? ty).map (·.size) = some (#[Value.int .u8 b.k, Value.int .i16 b.y] : Array Value).size) :
    (storeVar ty ⟨g, i * 2, none⟩ (.agg #[.int .u8 b.k, .int .i16 b.y])).run P w = .ok () (w.setRow g (bcs (l.set i b)).toArray) := by
  have hz : i * 2 + (#[Value.int .u8 b.k, Value.int .i16 b.y] : Array Value).size ≤ (bcs l).toArray.size := by
    show i * 2 + 2 ≤ _
    rw [List.size_toArray, bcs_length]
    omega
  have hs := run_storeVar_row (P := P) w g (i * 2) ty _ hi _ hr hz (bv_one _ _)
  have e : ((bcs l).toArray.toList.take (i * 2) ++ (#[Value.int .u8 b.k, Value.int .i16 b.y] : Array Value).toList ++ (bcs l).toArray.toList.drop (i * 2 + (#[Value.int .u8 b.k, Value.int .i16 b.y] : Array Value).size)) = bcs (l.set i b) := by
    show (bcs l).take (i * 2) ++ [Value.int .u8 b.k, Value.int .i16 b.y] ++ (bcs l).drop (i * 2 + 2) = _
    rw [List.set_eq_take_append_cons_drop, if_pos hl, bcs_append, bcs_take, show i * 2 + 2 = (i + 1) * 2 by omega, ← bcs_drop]
    simp [bcs]
  rw [e] at hs
  exact hs
/-- A bottle stored into a place of a crate. -/
theorem wp_store_place (hgd : o.guard = none) (hdst : o.dst = none) (ty : TypeId) (x y : Operand) (ho : o.op = .store ty x y) (g i : Nat) (hx : a.eval x = .pointer (some ⟨g, i * 2, none⟩)) (b : Bt) (hy : a.eval y = .agg #[.int .u8 b.k, .int .i16 b.y])
    (l : List Bt) (hr : rowOf w g = some (bcs l).toArray) (hl : i < l.length) (hi : (P.info? ty).map (·.size) = some (#[Value.int .u8 b.k, Value.int .i16 b.y] : Array Value).size)
    (h : wpList P ops Q rest a (w.setRow g (bcs (l.set i b)).toArray)) : wpList P ops Q (o :: rest) a w :=
  wpList_plain hgd fun K hK => by
    have hs := run_store_place (P := P) w g i ty b l hr hl hi
    unfold Oper.wp execOp
    simp only [ho, hx, hy, Instr.storeAt, Instr.sureAddr, Sem.run_bind, Sem.run_pure, Result.andThen_ok, hs]
    show K (a.put o.dst undef) _
    rw [hdst]
    exact hK _ _ h
end
theorem wp_store_place0 {P : Program} {ops : Array Oper} {rest : List Oper} {o : Oper} {a : Act} {w : World} {Q : Exit → Act → World → Prop} (hgd : o.guard = none) (hdst : o.dst = none) (ty : TypeId) (x y : Operand) (ho : o.op = .store ty x y) (g i : Nat) (hx : a.eval x = .pointer (some ⟨g, i * 2, none⟩)) (hy : a.eval y = .agg #[.int .u8 0, .int .i16 0])
    (l : List Bt) (hr : rowOf w g = some (bcs l).toArray) (hl : i < l.length) (hi : (P.info? ty).map (·.size) = some (#[Value.int .u8 0, Value.int .i16 0] : Array Value).size)
    (h : wpList P ops Q rest a (w.setRow g (bcs (l.set i zB)).toArray)) : wpList P ops Q (o :: rest) a w :=
  wp_store_place hgd hdst ty x y ho g i hx zB hy l hr hl hi h
theorem Goes.place {P : Program} {o : Oper} {a : Act} {w : World} {k : Act → Prop} (hdst : o.dst = none) (ty : TypeId) (x y : Operand) (ho : o.op = .store ty x y) (g i : Nat) (hx : a.eval x = .pointer (some ⟨g, i * 2, none⟩)) (b : Bt) (hy : a.eval y = .agg #[.int .u8 b.k, .int .i16 b.y])
    (l : List Bt) (hr : rowOf w g = some (bcs l).toArray) (hl : i < l.length) (hi : (P.info? ty).map (·.size) = some (#[Value.int .u8 b.k, Value.int .i16 b.y] : Array Value).size) (h : k a) : Goes P o a w (w.setRow g (bcs (l.set i b)).toArray) k := by
  have hs := run_store_place (P := P) w g i ty b l hr hl hi
  unfold Goes execOp
  simp only [ho, hx, hy, Instr.storeAt, Instr.sureAddr, Sem.run_bind, Sem.run_pure, Result.andThen_ok, hs]
  rw [hdst]
  exact ⟨trivial, h⟩
theorem Goes.place0 {P : Program} {o : Oper} {a : Act} {w : World} {k : Act → Prop} (hdst : o.dst = none) (ty : TypeId) (x y : Operand) (ho : o.op = .store ty x y) (g i : Nat) (hx : a.eval x = .pointer (some ⟨g, i * 2, none⟩)) (hy : a.eval y = .agg #[.int .u8 0, .int .i16 0])
    (l : List Bt) (hr : rowOf w g = some (bcs l).toArray) (hl : i < l.length) (hi : (P.info? ty).map (·.size) = some (#[Value.int .u8 0, Value.int .i16 0] : Array Value).size) (h : k a) : Goes P o a w (w.setRow g (bcs (l.set i zB)).toArray) k :=
  Goes.place hdst ty x y ho g i hx zB hy l hr hl hi h
theorem row_swap {w : World} {g : Nat} {l : List Bt} {i j : Nat} {x y : Bt} (h : rowOf w g = some (bcs l).toArray) : rowOf ((w.setRow g (bcs (l.set i x)).toArray).setRow g (bcs ((l.set i x).set j y)).toArray) g = some (bcs ((l.set i x).set j y)).toArray := by
  rw [rowOf_setRow, if_pos rfl, rowOf_setRow, if_pos rfl, h]
  rfl
theorem ok_places {s : Sw} (h : s.ok = true) : ∃ i j : Nat, s.f = i ∧ s.t = j ∧ i < 12 ∧ j < 12 := by
  simp [Sw.ok, isP] at h
  exact ⟨s.f.toNat, s.t.toNat, by omega, by omega, by omega, by omega⟩
end Go.Proofs.Ytbngpcghognojaa
namespace Go.Proofs.Ytbngpcghognojaa
open Go.RowKit
set_option linter.unusedVariables false
set_option linter.unusedSimpArgs false
set_option maxRecDepth 100000
set_option maxHeartbeats 1000000
def freeR (c : Cr) : List Int × Int := if c.ok = true then (freeI c, 0) else ([], 1)
end Go.Proofs.Ytbngpcghognojaa
namespace Go.Proofs.Ytbngpcghognojaa
open Go.RowKit
set_option linter.unusedVariables false
set_option linter.unusedSimpArgs false
set_option maxRecDepth 100000
set_option maxHeartbeats 1000000
attribute [local go_sem] Oper.qB
theorem pl_at {p : Bt → Bool} {l : List Bt} {n k : Nat} (h : k < (pl p l n).length) : ∃ i : Nat, i < n ∧ (pl p l n).getD k 0 = (i : Int) := by
  have hm : (pl p l n)[k] ∈ pl p l n := List.getElem_mem h
  rw [List.getD_eq_getElem?_getD, List.getElem?_eq_getElem h]
  generalize (pl p l n)[k] = x at hm
  simp only [pl, List.mem_map, List.mem_filter, List.mem_range] at hm
  obtain ⟨i, ⟨hi, _⟩, rfl⟩ := hm
  exact ⟨i, hi, rfl⟩
/-- The two crates behind k steps. -/
def fillS (fs us : List Int) (a b : Cr) : Nat → Cr × Cr
  | 0 => (a, b)
  | k + 1 =>
    let q := fillS fs us a b k
    (setC q.1 (fs.getD k 0).toNat (rB q.2.toList (us.getD k 0).toNat), setC q.2 (us.getD k 0).toNat zB)
def fillN (a b : Cr) : Nat := min (freeI a).length (usedI b).length
def fillR (a b : Cr) : Cr × Cr × Int :=
  if (a.ok && b.ok) = true then ((fillS (freeI a) (usedI b) a b (fillN a b)).1, (fillS (freeI a) (usedI b) a b (fillN a b)).2, 0) else (zC, zC, 1)
theorem own_setRow {w : World} {B e size n : Nat} {v : Value} {xs : List Value} (h : w.ownsRow B e size v n xs) {g : Nat} (hg : g < B) (c : Array Value) : (w.setRow g c).ownsRow B e size v n xs := by
  obtain ⟨hl, h | ⟨g', cap, cur, hv, hb, hh, r⟩⟩ := h
  · exact ⟨hl, .inl h⟩
  · exact ⟨hl, .inr ⟨g', cap, cur, hv, hb, by rw [setRow_other w g g' c (by omega)]; exact hh, r⟩⟩
theorem own_setCell {w : World} {B e size n : Nat} {v : Value} {xs : List Value} (h : w.ownsRow B e size v n xs) {g o : Nat} (hg : g < B) (u : Value) : (w.setCell ⟨g, o, none⟩ u).ownsRow B e size v n xs := by
  obtain ⟨hl, h | ⟨g', cap, cur, hv, hb, hh, r⟩⟩ := h
  · exact ⟨hl, .inl h⟩
  · exact ⟨hl, .inr ⟨g', cap, cur, hv, hb, by rw [Below.heap_setCell w _ u g' (by show g' ≠ g; omega)]; exact hh, r⟩⟩
theorem own_drew {w : World} {B e size n : Nat} {v : Value} {xs : List Value} (h : w.ownsRow B e size v n xs) : w.drew.ownsRow B e size v n xs := h
/-- Two crates stored into the result's cells, from two worlds on. -/
theorem two_crates {w W : World} {g1 g2 : Nat} {A0 B0 A B : Array Value} (H : Below w.heap.size w W) (h1 : rowOf W g1 = some A0) (h2 : rowOf W g2 = some B0) (l1 : w.heap.size ≤ g1) (hlt : g1 < g2) :
    rowOf ((W.setRow g1 A).setRow g2 B) g1 = some A ∧ rowOf ((W.setRow g1 A).setRow g2 B) g2 = some B ∧ Below w.heap.size w ((W.setRow g1 A).setRow g2 B) := by
  refine ⟨?_, ?_, bsetRow (bsetRow H l1 _) (by omega) _⟩
  · rw [rowOf_setRow, if_neg (by omega), rowOf_setRow, if_pos rfl, h1]
    rfl
  · rw [rowOf_setRow, if_pos rfl, rowOf_setRow, if_neg (by omega), h2]
    rfl
section
variable {ops : Array Oper} {rest : List Oper} {o : Oper} {a : Act} {w : World} {Q : Exit → Act → World → Prop}
/-- The empty crate stored. -/
theorem wp_store_zeroW (hgd : o.guard = none) (hdst : o.dst = none) (x y : Operand) (ho : o.op = .store 44 x y) (g : Nat) (hx : a.eval x = .pointer (some ⟨g, 0, none⟩))
    (hy : a.eval y = .agg #[.int .u8 0, .int .i16 0, .int .u8 0, .int .i16 0, .int .u8 0, .int .i16 0, .int .u8 0, .int .i16 0, .int .u8 0, .int .i16 0, .int .u8 0, .int .i16 0, .int .u8 0, .int .i16 0, .int .u8 0, .int .i16 0, .int .u8 0, .int .i16 0, .int .u8 0, .int .i16 0, .int .u8 0, .int .i16 0, .int .u8 0, .int .i16 0])
    (c : Cr) (hr : rowOf w g = some (cc c).toArray) (h : wpList Try.prog ops Q rest a (w.setRow g (cc zC).toArray)) : wpList Try.prog ops Q (o :: rest) a w :=
  wp_store_rowOf hgd hdst 44 x y ho g hx (cc zC).toArray hy (cc c).toArray hr (cc_size2 _ _) (infoC zC) zC_one h
end
end Go.Proofs.Ytbngpcghognojaa
namespace Go.Proofs.Ytbngpcghognojaa
open Go Go.RowKit
set_option linter.unusedVariables false
set_option linter.unusedSimpArgs false
set_option maxRecDepth 100000
set_option maxHeartbeats 4000000
attribute [local go_sem] Oper.qB
theorem cell_but {w w' : World} {g b i n c : Nat} {v : Value} (hb : ButV (.slice (some ⟨g, 0, none⟩) n c) w w') (h : w.cell? ⟨b, i, none⟩ = some v) (hne : b ≠ g) : w'.cell? ⟨b, i, none⟩ = some v := by
  have hl : b < w.heap.size := World.block_lt_of_cell? _ _ h
  have e := hb.2 b hl (fun q => hne (by have q1 : g = b := by simpa [Value.ownBlock] using q
                                        exact q1.symm))
  unfold World.cell? at h ⊢
  simp only at h ⊢
  rw [e]
  exact h
theorem ButV.of_below {v : Value} {w w' : World} (h : Below w.heap.size w w') : ButV v w w' := ⟨h.mono (Nat.zero_le _), fun b hb _ => h.block b hb⟩
theorem ButV.step {v : Value} {w w1 w' : World} (h : ButV v w w1) (h' : Below w1.heap.size w1 w') : ButV v w w' := h.trans (ButV.of_below h')
theorem spread_place {ks : List Int} {k : Nat} (h : Places ks) (hk : k < ks.length) : ∃ p : Nat, p < 12 ∧ ks.getD k 0 = (p : Int) := by
  have := h.at hk
  exact ⟨(ks.getD k 0).toNat, by omega, by omega⟩
theorem rd_at {l : List Int} {k : Nat} {w : World} {g off : Nat} (hC : CAt w g off (vi l)) (hk : k < l.length) : w.cell? ⟨g, off + k, none⟩ = some (.int .i64 (l.getD k 0)) := hC k _ (vi_at l k hk)
theorem tip_range {ks : List Int} (h : Places ks) : 0 ≤ tipN ks ∧ tipN ks ≤ 72 := by
  have := h.bound
  unfold tipN
  omega
theorem lvS_range (n : Nat) (hn : n ≤ 12) (k : Nat) : -1 ≤ (lvS n k).2 ∧ (lvS n k).2 ≤ 72 := by
  rcases lvS_cases n k with ⟨e, _⟩ | ⟨e, hl, ha, _⟩
  · rw [e]; exact ⟨Int.le_refl _, by decide⟩
  · have := tip_range (ks := (lvS n k).1) ⟨by omega, fun x hx => by have := ha.2 x hx; omega⟩
    omega
theorem and_one_i64 (n : Int) : bits .and .i64 n 1 = n % 2 := by
  have h1 : (BitVec.ofInt 64 1).toNat = 2 ^ 1 - 1 := by decide
  have key : (BitVec.ofInt 64 n &&& BitVec.ofInt 64 1).toNat = (n % ((2 ^ 64 : Nat) : Int)).toNat % 2 ^ 1 := by
    rw [BitVec.toNat_and, BitVec.toNat_ofInt, h1, Nat.and_two_pow_sub_one_eq_mod]
  show IntKind.i64.wrap ((BitVec.ofInt 64 n &&& BitVec.ofInt 64 1).toNat : Nat) = n % 2
  rw [key, IntKind.wrap_i64]
  omega
theorem shr_of (k j : Nat) (hj : j ≤ 11) : ((k : Int)).fdiv (2 ^ min ((j : Nat) : Int).toNat IntKind.i64.bits) = ((k / 2 ^ j : Nat) : Int) := by
  rw [Int.toNat_natCast, show min j IntKind.i64.bits = j from Nat.min_eq_left (by show j ≤ 64; omega)]
  have e : ((2 : Int) ^ j) = ((2 ^ j : Nat) : Int) := by simp
  rw [e, ← Int.ofNat_fdiv]
end Go.Proofs.Ytbngpcghognojaa
