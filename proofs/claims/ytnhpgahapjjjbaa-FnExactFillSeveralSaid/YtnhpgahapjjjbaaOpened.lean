/- Contracts of LackBehind and CheckOpen: what an order lacks behind some crates. -/
import Derived.Test.YtnhpgahapjjjbaaShort
namespace Go.Proofs.Ytnhpgahapjjjbaa
open Go.RowKit
set_option linter.unusedVariables false
set_option linter.unusedSimpArgs false
set_option maxRecDepth 100000
set_option maxHeartbeats 1000000
attribute [local go_sem] Oper.qB
def inR (lo hi x : Int) : Bool := decide (lo ≤ x) && decide (x ≤ hi)
/-- All numbers are numbers of crates. -/
def kin (n : Nat) (ks : List Int) : Bool := ks.all (inR 0 ((n : Int) - 1))
def openI (lc : List Cr) (l : List Wt) (ks : List Int) : Int := if askOk lc l = true then (if kin lc.length ks = true then 0 else 2) else 1
def lackR (lc : List Cr) (l : List Wt) (ks : List Int) : List Wt × Int := if openI lc l ks = 0 then (lackL (cntL (opL lc ks)) l, 0) else ([], openI lc l ks)
def checkR (lc : List Cr) (l : List Wt) (ks : List Int) : Bool × Int := if openI lc l ks = 0 then ((lackL (cntL (opL lc ks)) l).isEmpty, 0) else (false, openI lc l ks)
theorem kin_all {n : Nat} {ks : List Int} (h : kin n ks = true) : ∀ x ∈ ks, 0 ≤ x ∧ x < n := fun x hx => by
  have := (List.all_eq_true.1 h) x hx
  simp [inR] at this
  omega
theorem openI_zero {lc : List Cr} {l : List Wt} {ks : List Int} (h : openI lc l ks = 0) : askOk lc l = true ∧ kin lc.length ks = true := by
  unfold openI at h
  split at h
  · split at h
    · exact ⟨‹_›, ‹_›⟩
    · cases h
  · cases h
theorem openI_cases (lc : List Cr) (l : List Wt) (ks : List Int) : openI lc l ks = 0 ∨ openI lc l ks = 1 ∨ openI lc l ks = 2 := by
  unfold openI
  split
  · split
    · exact .inl rfl
    · exact .inr (.inr rfl)
  · exact .inr (.inl rfl)
theorem lackR_le (lc : List Cr) (l : List Wt) (ks : List Int) : (lackR lc l ks).1.length ≤ 8 := by
  unfold lackR
  split
  · rename_i h
    have := lackL_le (cntL (opL lc ks)) l
    have := ask_le (openI_zero h).1
    show (lackL (cntL (opL lc ks)) l).length ≤ 8
    omega
  · simp
theorem allWithin1_any (x lo hi : Int) (b1 b2 : Nat) (w : World) (h1 : w.cell? ⟨b1, 0, none⟩ = some (.int .i64 lo)) (h2 : w.cell? ⟨b2, 0, none⟩ = some (.int .i64 hi)) :
    Calls Try.prog 143 #[.int .i64 x, .pointer (some ⟨b1, 0, none⟩), .pointer (some ⟨b2, 0, none⟩)] w fun e w' => e = .returned (.bool (!inR lo hi x)) ∧ w = w' := by
  have HB : Hid ((!inR lo hi x) = !(decide (lo ≤ x) && decide (x ≤ hi))) := rfl
  go_enter Try.func143, Try.ntmps143
  go_wp2_with (go_at_call 137; with_reducible refine (within_any x lo hi _).mono ?_; rintro e w' ⟨rfl, rfl⟩)
  rw [HB.out]
  go_ret
  exact ⟨ret_bool (Bool.not_and _ _).symm, rfl⟩
theorem ContainsFunc_int (lo hi : Int) (b1 b2 : Nat) (A : Option Addr) (c : Nat) (l : List Int) (w : World) (h1 : w.cell? ⟨b1, 0, none⟩ = some (.int .i64 lo)) (h2 : w.cell? ⟨b2, 0, none⟩ = some (.int .i64 hi)) (l1 : b1 < w.heap.size) (l2 : b2 < w.heap.size) (hR : RdA w A (vi l)) (hm : l.length ≤ 1000000000) :
    Calls Try.prog 142 #[.slice A l.length c, .func (.func 143) #[] #[.pointer (some ⟨b1, 0, none⟩), .pointer (some ⟨b2, 0, none⟩)]] w fun e w' => e = .returned (.bool (l.any fun x => !inR lo hi x)) ∧ Below w.heap.size w w' := by
  rcases hR with h | ⟨g, off, rfl, hg, hC⟩
  · have h0 : l = [] := by cases l <;> simp [vi] at h ⊢
    subst h0
    exact below_of_same ((AnyE.slices_ContainsFunc_empty Try.lx142 A c _ w).mono fun _ _ ⟨he, hw⟩ => ⟨he, hw.symm⟩)
  · have := AnyE.slices_ContainsFunc Try.lx142 (Value.int .i64) (fun x => !inR lo hi x) 143 #[.pointer (some ⟨b1, 0, none⟩), .pointer (some ⟨b2, 0, none⟩)] (enters_of Try.func143 (by kernel_rfl) rfl) g off l.length c l w
      (fun W x hb => (allWithin1_any x lo hi b1 b2 W ((hb.cell l1).trans h1) ((hb.cell l2).trans h2)).mono fun _ _ ⟨he, hw⟩ => ⟨he, 0, hw.symm⟩) (Nat.le_refl _) (by omega)
      (fun j hj => by rw [hC j _ (vi_at l j hj)]; simp [List.getD_eq_getElem?_getD, hj])
    rw [List.take_length] at this
    exact this.mono fun _ _ ⟨he, q, hq⟩ => ⟨he, by rw [hq]; exact bdrewN (Below.refl _ _) q⟩
theorem allWithin_any (A : Option Addr) (c : Nat) (l : List Int) (lo hi : Int) (w : World) (h : RdA w A (vi l)) (hm : l.length ≤ 1000000000) :
    Calls Try.prog 130 #[.slice A l.length c, .int .i64 lo, .int .i64 hi] w fun e w' => e = .returned (.bool (l.all (inR lo hi))) ∧ Below w.heap.size w w' := by
  have HA : (!(l.any fun x => !inR lo hi x)) = l.all (inR lo hi) := by rw [← List.not_all_eq_any_not, Bool.not_not]
  have HC := fun w b1 b2 h1 h2 l1 l2 hr => ContainsFunc_int lo hi b1 b2 A c l w h1 h2 l1 l2 hr hm
  generalize l.any (fun x => !inR lo hi x) = r at HA HC
  rw [← HA]
  clear HA
  have HR := Lib.hid h
  clear h
  go_enter Try.func130, Try.ntmps130
  go_wp2_with fail
  have hb0 : Below w.heap.size w ((w.alloc (.cells #[.int .i64 lo] 2)).alloc (.cells #[.int .i64 hi] 2)) := by go_grown
  refine (HC _ w.heap.size (w.heap.size + 1) (rowOf_cell (cs := #[.int .i64 lo]) ?_ 0) (rowOf_cell (cs := #[.int .i64 hi]) ?_ 0) (by simp; omega) (by simp) (HR.out.below hb0)).mono ?_
  · rw [rowOf_alloc, if_neg (by simp), rowOf_alloc, if_pos rfl]
  · rw [rowOf_alloc, if_pos (by simp)]
  rintro e w' ⟨rfl, hb⟩
  replace hb := bstepB hb0 hb0.size hb
  go_wp2
  go_ret
  exact ⟨rfl, hb⟩
theorem openCode_any (g0 c0 : Nat) (lc : List Cr) (g1 c1 : Nat) (l : List Wt) (A2 : Option Addr) (c2 : Nat) (ks : List Int) (w : World) (K0 : Lies cc w g0 lc) (K1 : Lies wc w g1 l) (K2 : RdA w A2 (vi ks)) (hn : lc.length ≤ 1048576) (hl : l.length ≤ 1048576) (hk : ks.length ≤ 1048576) :
    Calls Try.prog 90 #[.slice (some ⟨g0, 0, none⟩) lc.length c0, .slice (some ⟨g1, 0, none⟩) l.length c1, .slice A2 ks.length c2] w fun e w' => e = .returned (.int .i64 (openI lc l ks)) ∧ Below w.heap.size w w' := by
  have H := Below.refl w.heap.size w
  replace K0 := Lib.hid K0
  replace K1 := Lib.hid K1
  replace K2 := Lib.hid K2
  have hk9 : ks.length ≤ 1000000000 := by omega
  have HI : Hid (openI lc l ks = if askOk lc l = true then (if kin lc.length ks = true then 0 else 2) else 1) := rfl
  have HW := fun W h => allWithin_any A2 c2 ks 0 ((lc.length : Int) - 1) W h hk9
  have HQ : Hid (kin lc.length ks = ks.all (inR 0 ((lc.length : Int) - 1))) := rfl
  generalize ks.all (inR 0 ((lc.length : Int) - 1)) = r at HW HQ
  cases e1 : stackOk lc with
  | false =>
    have HA := Lib.hid (show askOk lc l = false by simp [askOk, e1])
    go_enter Try.func90, Try.ntmps90
    go_wp2_with (first | (go_at_call 97; with_reducible refine (ValidStack_any g0 0 c0 lc _ (K0.out.below H).c (K0.out.below H).lt (by omega)).mono ?_; rintro e w' ⟨rfl, hb⟩; replace H := bstep H hb; clear hb; have hc := bcell H) | (go_at_call 130; with_reducible refine (HW _ (K2.out.below H)).mono ?_; rintro e w' ⟨rfl, hb⟩; replace H := bstep H hb; clear hb; have hc := bcell H) | (go_at_call 129; with_reducible refine (codeOf_any _ _ _).mono ?_; rintro e w' ⟨rfl, rfl⟩))
    go_ret
    exact ⟨ret_int (by rw [HI.out, HA.out]; rfl), H⟩
  | true =>
    cases e2 : ordOk l with
    | false =>
      have HA := Lib.hid (show askOk lc l = false by simp [askOk, e1, e2])
      go_enter Try.func90, Try.ntmps90
      go_wp2_with (first | (go_at_call 97; with_reducible refine (ValidStack_any g0 0 c0 lc _ (K0.out.below H).c (K0.out.below H).lt (by omega)).mono ?_; rintro e w' ⟨rfl, hb⟩; replace H := bstep H hb; clear hb; have hc := bcell H) | (go_at_call 100; with_reducible refine (ValidOrder_any g1 0 c1 l _ (K1.out.below H).c (K1.out.below H).lt (by omega)).mono ?_; rintro e w' ⟨rfl, hb⟩; replace H := bstep H hb; clear hb; have hc := bcell H) | (go_at_call 130; with_reducible refine (HW _ (K2.out.below H)).mono ?_; rintro e w' ⟨rfl, hb⟩; replace H := bstep H hb; clear hb; have hc := bcell H) | (go_at_call 129; with_reducible refine (codeOf_any _ _ _).mono ?_; rintro e w' ⟨rfl, rfl⟩))
      go_ret
      exact ⟨ret_int (by rw [HI.out, HA.out]; rfl), H⟩
    | true =>
      have HA := Lib.hid (show askOk lc l = true by simp [askOk, e1, e2])
      go_enter Try.func90, Try.ntmps90
      go_wp2_with (first | (go_at_call 97; with_reducible refine (ValidStack_any g0 0 c0 lc _ (K0.out.below H).c (K0.out.below H).lt (by omega)).mono ?_; rintro e w' ⟨rfl, hb⟩; replace H := bstep H hb; clear hb; have hc := bcell H) | (go_at_call 100; with_reducible refine (ValidOrder_any g1 0 c1 l _ (K1.out.below H).c (K1.out.below H).lt (by omega)).mono ?_; rintro e w' ⟨rfl, hb⟩; replace H := bstep H hb; clear hb; have hc := bcell H) | (go_at_call 130; with_reducible refine (HW _ (K2.out.below H)).mono ?_; rintro e w' ⟨rfl, hb⟩; replace H := bstep H hb; clear hb; have hc := bcell H) | (go_at_call 129; with_reducible refine (codeOf_any _ _ _).mono ?_; rintro e w' ⟨rfl, rfl⟩))
      all_goals
        go_ret
        exact ⟨ret_int (by rw [HI.out, HA.out, HQ.out, if_pos rfl]; first | exact (if_pos ‹_›).symm | exact (if_neg ‹_›).symm), H⟩
theorem Contains_int (g off n c : Nat) (l : List Int) (x : Int) (w : World) (hC : CAt w g off (vi l)) (hn : n ≤ l.length) (hm : n ≤ 1000000000) :
    Calls Try.prog 87 #[.slice (some ⟨g, off, none⟩) n c, .int .i64 x] w fun e w' => e = .returned (.bool ((l.take n).contains x)) ∧ w = w' := by
  have := AnyE.slices_Contains Try.lx87 (Value.int .i64) _ (EqlAt.int _ _ .i64) g off n c l x w hn (by omega)
      (fun j hj => by rw [hC j _ (vi_at l j hj)]; simp [List.getD_eq_getElem?_getD, hj])
  rw [List.any_beq] at this
  exact this.mono fun _ _ ⟨he, hw⟩ => ⟨he, hw.symm⟩
attribute [local go_sem] fold_cc cc_len
theorem opened_any (A0 : Option Addr) (c0 : Nat) (lc : List Cr) (A2 : Option Addr) (c2 : Nat) (ks : List Int) (w : World) (hr : RdA w A0 (fl cc lc)) (h2 : RdA w A2 (vi ks))
    (hk : ∀ x ∈ ks, 0 ≤ x ∧ x < lc.length) (hc2 : ks.length ≤ c2) (hn : lc.length ≤ 1048576) (hkn : ks.length ≤ 1048576) :
    Calls Try.prog 85 #[.slice A0 lc.length c0, .slice A2 ks.length c2] w fun e w' => ∃ v, e = .returned v ∧ OwnS cc w' w.heap.size 28 24 v (opL lc ks) ∧ Below w.heap.size w w' := by
  have HR := Lib.hid hr
  have H2 := Lib.hid h2
  have HK := Lib.hid hk
  clear hr h2 hk
  go_enter Try.func85, Try.ntmps85
  go_wp2
  go_loopw [5, 11] (fun v i wr => ∃ j : Nat, j ≤ ks.length ∧ i = .int .i64 j ∧ Hid (OwnS cc wr w.heap.size 28 24 v (opK lc ks j)) ∧ Below w.heap.size w wr) (fun _ i _ => ks.length - (intOf i).toNat)
  case atStart => exact ⟨0, Nat.zero_le _, rfl, OwnS.lit (Nat.le_refl _), by go_grown⟩
  case round =>
    obtain ⟨j, hj, rfl, HO, hb⟩ := hrel
    by_cases hltj : j < ks.length
    · obtain ⟨g2, off2, rfl, hg2, hC2⟩ := (H2.out.below hb).some (by rw [vi_length]; omega)
      obtain ⟨hy1, hy2⟩ := HK.out (ks.getD j 0) (by rw [List.getD_eq_getElem?_getD, List.getElem?_eq_getElem hltj]; exact List.getElem_mem hltj)
      obtain ⟨g0, off0, rfl, hg0, hC0⟩ := (HR.out.below hb).some (by rw [fl_length cc_length]; omega)
      have HY := Lib.hid (@opK_yes lc ks j)
      have HN := Lib.hid (@opK_no lc ks j)
      have HF : Hid (fresh ks j = !(ks.take j).contains (ks.getD j 0)) := rfl
      have HLE := Lib.hid (opK_le lc ks j)
      have y0 := hC2 j _ (vi_at ks j hltj)
      have HCX := Lib.hid (hC0.el cc_length (i := (ks.getD j 0).toNat) (by omega))
      have hHas := Contains_int g2 off2 j c2 ks (ks.getD j 0) wr hC2 hj (by omega)
      clear hC2 hC0 hg2 hg0
      generalize ks.getD j 0 = y at y0 HF HY HN HCX hy1 hy2 hHas
      obtain ⟨i, rfl⟩ : ∃ i : Nat, y = (i : Int) := ⟨y.toNat, by omega⟩
      rw [Int.toNat_natCast] at HY HCX
      have hi2 : i < lc.length := by omega
      generalize lc[i]! = c at HY HCX
      have hj2 : (j : Int) < (ks.length : Int) := by omega
      have hjc : j ≤ c2 := by omega
      have hjc2 : (j : Int) ≤ (c2 : Int) := by omega
      generalize (ks.take j).contains (i : Int) = r at hHas HF
      cases r with
      | true =>
        have HE := Lib.hid (HN.out HF.out)
        go_wp2_with (go_at_call 87; with_reducible refine hHas.mono ?_; rintro e w' ⟨rfl, rfl⟩)
        go_roundw
        case rel => exact ⟨j + 1, by omega, by go_num, by rw [HE.out]; exact HO.out, hb⟩
        case measure => simp [intOf]; omega
      | false =>
        have HE := Lib.hid (HY.out HF.out)
        go_wp2_with (first | (go_at_call 87; with_reducible refine hHas.mono ?_; rintro e w' ⟨rfl, rfl⟩) | (with_reducible refine wp_load_CAt rfl _ _ rfl _ _ rfl (cc c) HCX.out _ Try.underlying28 rfl (infoCl c) ?_) | (at_builtin; refine wp_app_crate w.heap.size rfl _ _ rfl _ (opK lc ks j) c rfl _ rfl ?hg ?HO ?hB ?hn ?_; (case hg => simp); (case HO => exact HO.out); (case hB => exact hb.size); (case hn => have := HLE.out; omega); intro v1 w1 hown hb2))
        go_roundw
        case rel => exact ⟨j + 1, by omega, by go_num, by rw [HE.out]; exact hown, hb.trans hb2⟩
        case measure => simp [intOf]; omega
    · obtain rfl : j = ks.length := by omega
      go_wp2
      go_ret
      exact ⟨_, rfl, HO.out, hb⟩
theorem l02Opened_any (g0 c0 : Nat) (lc : List Cr) (g1 c1 : Nat) (l : List Wt) (A2 : Option Addr) (c2 : Nat) (ks : List Int) (w : World) (K0 : Lies cc w g0 lc) (K1 : Lies wc w g1 l) (K2 : RdA w A2 (vi ks)) (hn : lc.length ≤ 1048576) (hl : l.length ≤ 1048576) (hk : ks.length ≤ 1048576) :
    Calls Try.prog 88 #[.slice (some ⟨g0, 0, none⟩) lc.length c0, .slice (some ⟨g1, 0, none⟩) l.length c1, .slice A2 ks.length c2] w fun e w' => e = .returned (.int .i64 (openI lc l ks)) ∧ Below w.heap.size w w' := by
  have H := Below.refl w.heap.size w
  replace K0 := Lib.hid K0
  replace K1 := Lib.hid K1
  replace K2 := Lib.hid K2
  cases e1 : askOk lc l with
  | false =>
    have HA := Lib.hid (show askI lc l = 1 by simp [askI, e1])
    have HF := Lib.hid (show openI lc l ks = 1 by simp [openI, e1])
    go_enter Try.func88, Try.ntmps88
    go_wp2_with (go_at_call 96; with_reducible refine (l02Asked_any g0 c0 lc g1 0 c1 l _ (K0.out.below H) (K1.out.below H).c (K1.out.below H).lt hn hl).mono ?_; rintro e w' ⟨rfl, hb⟩; rw [HA.out]; replace H := bstep H hb; clear hb)
    clear HA
    go_loopw [7, 8] (fun cd i wr => i = .int .i64 0 ∧ cd = .int .i64 1 ∧ Below w.heap.size w wr) (fun _ i _ => 0)
    case atStart => exact ⟨rfl, rfl, H⟩
    case round =>
      obtain ⟨rfl, rfl, hb⟩ := hrel
      by_cases h0 : 0 < ks.length
      · have h00 : (0 : Int) < (ks.length : Int) := by omega
        go_wp2
        go_ret
        exact ⟨ret_int HF.out.symm, hb⟩
      · have h00 : ¬ (0 : Int) < (ks.length : Int) := by omega
        go_wp2
        go_ret
        exact ⟨ret_int HF.out.symm, hb⟩
  | true =>
    have HA := Lib.hid (show askI lc l = 0 by simp [askI, e1])
    have HF : Hid (openI lc l ks = if kin lc.length ks = true then 0 else 2) := by rw [Hid, openI, e1, if_pos rfl]
    go_enter Try.func88, Try.ntmps88
    go_wp2_with (go_at_call 96; with_reducible refine (l02Asked_any g0 c0 lc g1 0 c1 l _ (K0.out.below H) (K1.out.below H).c (K1.out.below H).lt hn hl).mono ?_; rintro e w' ⟨rfl, hb⟩; rw [HA.out]; replace H := bstep H hb; clear hb)
    clear HA
    go_loopw [7, 8] (fun cd i wr => ∃ k : Nat, k ≤ ks.length ∧ i = .int .i64 k ∧ ((cd = .int .i64 0 ∧ Hid (kin lc.length (ks.take k) = true)) ∨ (cd = .int .i64 2 ∧ Hid (kin lc.length ks = false))) ∧ Below w.heap.size w wr) (fun _ i _ => ks.length - (intOf i).toNat)
    case atStart => exact ⟨0, Nat.zero_le _, rfl, .inl ⟨rfl, rfl⟩, H⟩
    case round =>
      obtain ⟨k, hk, rfl, hcd, hb⟩ := hrel
      rcases hcd with ⟨rfl, HK⟩ | ⟨rfl, HK⟩
      · by_cases hlt : k < ks.length
        · obtain ⟨g2, off2, rfl, hg2, hC2⟩ := (K2.out.below hb).some (by rw [vi_length]; omega)
          have y0 := hC2 k _ (vi_at ks k hlt)
          have HS : Hid (kin lc.length (ks.take (k + 1)) = inR 0 ((lc.length : Int) - 1) (ks.getD k 0)) := by
            have e : ks[k] = ks.getD k 0 := by simp [List.getD_eq_getElem?_getD, hlt]
            have hk' : kin lc.length (ks.take k) = true := HK.out
            rw [Hid, kin, List.take_succ_eq_append_getElem hlt, List.all_append, ← kin, hk', e]
            simp
          have HT : Hid (inR 0 ((lc.length : Int) - 1) (ks.getD k 0) = false → kin lc.length ks = false) := fun h => by
            have e : ks[k] = ks.getD k 0 := by simp [List.getD_eq_getElem?_getD, hlt]
            rw [kin, List.all_eq_false]
            exact ⟨_, List.getElem_mem hlt, by rw [e, h]; simp⟩
          clear hC2 hg2
          generalize ks.getD k 0 = y at y0 HS HT
          have hlt2 : (k : Int) < (ks.length : Int) := by omega
          have hIn := fun W => l00In_any y 0 ((lc.length : Int) - 1) W
          have HI : Hid (inR 0 ((lc.length : Int) - 1) y = (decide (0 ≤ y) && decide (y ≤ (lc.length : Int) - 1))) := rfl
          generalize (decide (0 ≤ y) && decide (y ≤ (lc.length : Int) - 1)) = r at hIn HI
          cases r with
          | true =>
            have HS2 := Lib.hid (HS.out.trans HI.out)
            go_wp2_with (go_at_call 128; with_reducible refine (hIn _).mono ?_; rintro e w' ⟨rfl, rfl⟩)
            go_roundw
            case rel => exact ⟨k + 1, by omega, by go_num, .inl ⟨rfl, HS2.out⟩, hb⟩
            case measure => simp [intOf]; omega
          | false =>
            have HS2 := Lib.hid (HT.out HI.out)
            go_wp2_with (go_at_call 128; with_reducible refine (hIn _).mono ?_; rintro e w' ⟨rfl, rfl⟩)
            go_roundw
            case rel => exact ⟨k + 1, by omega, by go_num, .inr ⟨rfl, HS2.out⟩, hb⟩
            case measure => simp [intOf]; omega
        · obtain rfl : k = ks.length := by omega
          have HF2 : Hid (openI lc l ks = 0) := by
            have := HK.out
            rw [List.take_length] at this
            rw [Hid, HF.out, this, if_pos rfl]
          go_wp2
          go_ret
          exact ⟨ret_int HF2.out.symm, hb⟩
      · have HF2 : Hid (openI lc l ks = 2) := by
          rw [Hid, HF.out, HK.out, if_neg (by simp)]
        by_cases hlt : k < ks.length
        · have hlt2 : (k : Int) < (ks.length : Int) := by omega
          go_wp2
          go_ret
          exact ⟨ret_int HF2.out.symm, hb⟩
        · have hlt2 : ¬ (k : Int) < (ks.length : Int) := by omega
          go_wp2
          go_ret
          exact ⟨ret_int HF2.out.symm, hb⟩
end Go.Proofs.Ytnhpgahapjjjbaa
