/- Contracts of TakeOut. -/
import Derived.Test.YtnhpgahapjjjbaaOutL
import Derived.Test.YtnhpgahapjjjbaaGreedy
import Derived.Test.YtnhpgahapjjjbaaMarkBt
namespace Go.Proofs.Ytnhpgahapjjjbaa
open Go.RowKit
set_option linter.unusedVariables false
set_option linter.unusedSimpArgs false
set_option maxRecDepth 100000
set_option maxHeartbeats 1000000
attribute [local go_sem] Oper.qB
def takeOR (lc : List Cr) (l : List Wt) (ks : List Int) : List Cr × List Bt × Int := if openI lc l ks = 0 then (if leftL lc l ks = [] then ((outL lc l ks).1, (outL lc l ks).2, 0) else ([], [], 4)) else ([], [], openI lc l ks)
theorem takeOR_le (lc : List Cr) (l : List Wt) (ks : List Int) : (takeOR lc l ks).1.length ≤ 30000 := by
  unfold takeOR
  split
  · rename_i h
    have h8 := ask_le (openI_zero h).1
    split
    · show (outL lc l ks).1.length ≤ 30000
      rw [outL, tkW_len]
      omega
    · simp
  · simp
theorem takeOR_le2 (lc : List Cr) (l : List Wt) (ks : List Int) : (takeOR lc l ks).2.1.length ≤ 300000 := by
  unfold takeOR
  split
  · rename_i h
    have ha := (openI_zero h).1
    have h8 := ask_le ha
    split
    · show (outL lc l ks).2.length ≤ 300000
      have hok : ordOk l = true := by
        unfold askOk at ha
        rw [Bool.and_eq_true] at ha
        exact ha.2
      have := tkW_le lc l ks (ok_nonneg hok) l.length (Nat.le_refl _)
      unfold outL
      omega
    · simp
  · simp
theorem TakeOut_any (g0 c0 : Nat) (lc : List Cr) (g1 c1 : Nat) (l : List Wt) (g2 c2 : Nat) (ks : List Int) (w : World) (K0 : Lies cc w g0 lc) (K1 : Lies wc w g1 l) (K2 : Lies iv w g2 ks) (hc : ks.length ≤ c2) (hn : lc.length ≤ 1048576) (hl : l.length ≤ 1048576) (hk : ks.length ≤ 1048576) :
    Calls Try.prog 38 #[.slice (some ⟨g0, 0, none⟩) lc.length c0, .slice (some ⟨g1, 0, none⟩) l.length c1, .slice (some ⟨g2, 0, none⟩) ks.length c2] w fun e w' => ∃ v u, e = .returned (.tuple #[v, u, .int .i64 (takeOR lc l ks).2.2]) ∧ OwnN cc w' w.heap.size 28 24 v (takeOR lc l ks).1 ∧ OwnN bc w' w.heap.size 26 2 u (takeOR lc l ks).2.1 ∧ Below w.heap.size w w' := by
  have H := Below.refl w.heap.size w
  replace K0 := Lib.hid K0
  replace K1 := Lib.hid K1
  replace K2 := Lib.hid K2
  by_cases e1 : openI lc l ks = 0
  · have ha := (openI_zero e1).1
    have h8 := ask_le ha
    have hok : ordOk l = true := by
      unfold askOk at ha
      rw [Bool.and_eq_true] at ha
      exact ha.2
    have HK := Lib.hid (kin_all (openI_zero e1).2)
    have HN := Lib.hid (ok_nonneg hok)
    have HI := Lib.hid e1
    have HF : Hid (takeOR lc l ks = if leftL lc l ks = [] then ((outL lc l ks).1, (outL lc l ks).2, 0) else ([], [], 4)) := by rw [Hid, takeOR, if_pos e1]
    have HLE := lackL_le (cntL (opL lc ks)) l
    have HOL : (opL lc ks).length ≤ 1048576 := Nat.le_trans (opK_le lc ks ks.length) hk
    have HTO := Lib.hid (fun A c W k0 hC hb1 h2 => takeOut_any g0 c0 lc g1 0 c1 l A c ks W k0 hC hb1 h2 HK.out h8.1 h8.2 HN.out hk)
    have HLK := fun A c W h b hb1 => lack_any A c (opL lc ks) g1 0 c1 l W h b hb1 HOL (by omega)
    clear e1 ha hok
    unfold leftL at HF
    generalize lackL (cntL (opL lc ks)) l = ll at HF HLE HLK
    rcases Nat.eq_zero_or_pos ll.length with h0 | h0
    · have HF2 := Lib.hid (show takeOR lc l ks = ((outL lc l ks).1, (outL lc l ks).2, 0) by rw [HF.out, if_pos (List.length_eq_zero_iff.1 h0)])
      go_enter Try.func38, Try.ntmps38
      go_wp2_with (first | (go_at_call 90; with_reducible refine (openCode_any g0 c0 lc g1 c1 l (some ⟨g2, 0, none⟩) c2 ks _ (K0.out.below H) (K1.out.below H) (by rw [← fl_iv]; exact (K2.out.below H).rd) hn hl hk).mono ?_; rintro e w' ⟨rfl, hb⟩; rw [HI.out]; replace H := bstep H hb; clear hb) | (go_at_call 85; with_reducible refine (opened_any (some ⟨g0, 0, none⟩) c0 lc (some ⟨g2, 0, none⟩) c2 ks _ (K0.out.below H).rd (by rw [← fl_iv]; exact (K2.out.below H).rd) HK.out hc hn hk).mono ?_; rintro e w2 ⟨v2, rfl, O2, hb⟩; obtain ⟨g3, p3, rfl, KO, -⟩ := O2.lies; replace KO := Lib.hid KO; replace H := bstep H hb; clear hb O2) | (go_at_call 84; with_reducible refine (HLK _ p3 _ KO.out.rd (K1.out.below H).c (K1.out.below H).lt).mono ?_; rintro e w3 ⟨v3, rfl, O3, hb⟩; obtain ⟨g4, p4, rfl, -⟩ := O3.lies; replace H := bstep H hb; clear hb O3) | (go_at_call 91; with_reducible refine (HTO.out _ _ _ (K0.out.below H) (K1.out.below H).c (K1.out.below H).lt (by rw [← fl_iv]; exact (K2.out.below H).rd)).mono ?_; rintro e w3 ⟨v4, u4, rfl, O4, P4, hb⟩; replace O4 := O4.down H.size; replace P4 := P4.down H.size; replace H := bstep H hb; clear hb))
      rw [HF2.out]
      exact bodyPost_ret (results_ttt rfl) rfl ⟨_, _, rfl, O4.n, P4.n, H⟩
    · have HF2 := Lib.hid (show takeOR lc l ks = ([], [], 4) by rw [HF.out, if_neg (fun q => by simp [q] at h0)])
      go_enter Try.func38, Try.ntmps38
      go_wp2_with (first | (go_at_call 90; with_reducible refine (openCode_any g0 c0 lc g1 c1 l (some ⟨g2, 0, none⟩) c2 ks _ (K0.out.below H) (K1.out.below H) (by rw [← fl_iv]; exact (K2.out.below H).rd) hn hl hk).mono ?_; rintro e w' ⟨rfl, hb⟩; rw [HI.out]; replace H := bstep H hb; clear hb) | (go_at_call 85; with_reducible refine (opened_any (some ⟨g0, 0, none⟩) c0 lc (some ⟨g2, 0, none⟩) c2 ks _ (K0.out.below H).rd (by rw [← fl_iv]; exact (K2.out.below H).rd) HK.out hc hn hk).mono ?_; rintro e w2 ⟨v2, rfl, O2, hb⟩; obtain ⟨g3, p3, rfl, KO, -⟩ := O2.lies; replace KO := Lib.hid KO; replace H := bstep H hb; clear hb O2) | (go_at_call 84; with_reducible refine (HLK _ p3 _ KO.out.rd (K1.out.below H).c (K1.out.below H).lt).mono ?_; rintro e w3 ⟨v3, rfl, O3, hb⟩; obtain ⟨g4, p4, rfl, -⟩ := O3.lies; replace H := bstep H hb; clear hb O3))
      rw [HF2.out]
      exact bodyPost_ret (results_ttt rfl) rfl ⟨_, _, rfl, OwnN.nil, OwnN.nil, H⟩
  · have HF := Lib.hid (show takeOR lc l ks = ([], [], openI lc l ks) by rw [takeOR, if_neg e1])
    rcases openI_cases lc l ks with e | e | e
    · exact absurd e e1
    all_goals
      have HI := Lib.hid e
      clear e e1
      rw [HI.out] at HF
      go_enter Try.func38, Try.ntmps38
      go_wp2_with (go_at_call 90; with_reducible refine (openCode_any g0 c0 lc g1 c1 l (some ⟨g2, 0, none⟩) c2 ks _ (K0.out.below H) (K1.out.below H) (by rw [← fl_iv]; exact (K2.out.below H).rd) hn hl hk).mono ?_; rintro e w' ⟨rfl, hb⟩; rw [HI.out]; replace H := bstep H hb; clear hb)
      rw [HF.out]
      exact bodyPost_ret (results_ttt rfl) rfl ⟨_, _, rfl, OwnN.nil, OwnN.nil, H⟩
theorem sTakeOut_any (g0 c0 : Nat) (lc : List Cr) (g1 c1 : Nat) (l : List Wt) (g2 c2 : Nat) (ks : List Int) (w : World) (K0 : Lies cc w g0 lc) (K1 : Lies wc w g1 l) (K2 : Lies iv w g2 ks) (hc : ks.length ≤ c2) (hn : lc.length ≤ 1048576) (hl : l.length ≤ 1048576) (hk : ks.length ≤ 1048576) :
    Calls Try.prog 36 #[.slice (some ⟨g0, 0, none⟩) lc.length c0, .slice (some ⟨g1, 0, none⟩) l.length c1, .slice (some ⟨g2, 0, none⟩) ks.length c2] w fun e w' => ∃ v u, e = .returned (.tuple #[v, u, .int .i64 (takeOR lc l ks).2.2]) ∧ OwnN cc w' w.heap.size 28 24 v (takeOR lc l ks).1 ∧ OwnN bc w' w.heap.size 26 2 u (takeOR lc l ks).2.1 ∧ Below w.heap.size w w' := by
  have H := Below.refl w.heap.size w
  replace K0 := Lib.hid K0
  replace K1 := Lib.hid K1
  replace K2 := Lib.hid K2
  by_cases e1 : openI lc l ks = 0
  · have ha := (openI_zero e1).1
    have h8 := ask_le ha
    have hok : ordOk l = true := by
      unfold askOk at ha
      rw [Bool.and_eq_true] at ha
      exact ha.2
    have HK := Lib.hid (kin_all (openI_zero e1).2)
    have HN := Lib.hid (ok_nonneg hok)
    have HI := Lib.hid e1
    have HF : Hid (takeOR lc l ks = if leftL lc l ks = [] then ((outL lc l ks).1, (outL lc l ks).2, 0) else ([], [], 4)) := by rw [Hid, takeOR, if_pos e1]
    have HLE := lackL_le (cntL (opL lc ks)) l
    have HOL : (opL lc ks).length ≤ 1048576 := Nat.le_trans (opK_le lc ks ks.length) hk
    have HTO := Lib.hid (fun A c W k0 hC hb1 h2 => l02Out_any g0 c0 lc g1 0 c1 l A c ks W k0 hC hb1 h2 HK.out h8.1 h8.2 HN.out hk)
    have HLK := fun W a b hb1 k => l02Lack_any (some ⟨g0, 0, none⟩) c0 lc g1 0 c1 l (some ⟨g2, 0, none⟩) c2 ks W a b hb1 k HK.out hc hn (by omega) hk
    clear e1 ha hok
    unfold leftL at HF
    generalize lackL (cntL (opL lc ks)) l = ll at HF HLE HLK
    rcases Nat.eq_zero_or_pos ll.length with h0 | h0
    · have HF2 := Lib.hid (show takeOR lc l ks = ((outL lc l ks).1, (outL lc l ks).2, 0) by rw [HF.out, if_pos (List.length_eq_zero_iff.1 h0)])
      go_enter Try.func36, Try.ntmps36
      go_wp2_with (first | (go_at_call 88; with_reducible refine (l02Opened_any g0 c0 lc g1 c1 l (some ⟨g2, 0, none⟩) c2 ks _ (K0.out.below H) (K1.out.below H) (by rw [← fl_iv]; exact (K2.out.below H).rd) hn hl hk).mono ?_; rintro e w' ⟨rfl, hb⟩; rw [HI.out]; replace H := bstep H hb; clear hb) | (go_at_call 81; with_reducible refine (HLK _ (K0.out.below H).rd (K1.out.below H).c (K1.out.below H).lt (by rw [← fl_iv]; exact (K2.out.below H).rd)).mono ?_; rintro e w3 ⟨v3, rfl, O3, hb⟩; obtain ⟨g4, p4, rfl, -⟩ := O3.lies; replace H := bstep H hb; clear hb O3) | (go_at_call 89; with_reducible refine (HTO.out _ _ _ (K0.out.below H) (K1.out.below H).c (K1.out.below H).lt (by rw [← fl_iv]; exact (K2.out.below H).rd)).mono ?_; rintro e w3 ⟨v4, u4, rfl, O4, P4, hb⟩; replace O4 := O4.down H.size; replace P4 := P4.down H.size; replace H := bstep H hb; clear hb))
      rw [HF2.out]
      exact bodyPost_ret (results_ttt rfl) rfl ⟨_, _, rfl, O4.n, P4.n, H⟩
    · have HF2 := Lib.hid (show takeOR lc l ks = ([], [], 4) by rw [HF.out, if_neg (fun q => by simp [q] at h0)])
      go_enter Try.func36, Try.ntmps36
      go_wp2_with (first | (go_at_call 88; with_reducible refine (l02Opened_any g0 c0 lc g1 c1 l (some ⟨g2, 0, none⟩) c2 ks _ (K0.out.below H) (K1.out.below H) (by rw [← fl_iv]; exact (K2.out.below H).rd) hn hl hk).mono ?_; rintro e w' ⟨rfl, hb⟩; rw [HI.out]; replace H := bstep H hb; clear hb) | (go_at_call 81; with_reducible refine (HLK _ (K0.out.below H).rd (K1.out.below H).c (K1.out.below H).lt (by rw [← fl_iv]; exact (K2.out.below H).rd)).mono ?_; rintro e w3 ⟨v3, rfl, O3, hb⟩; obtain ⟨g4, p4, rfl, -⟩ := O3.lies; replace H := bstep H hb; clear hb O3))
      rw [HF2.out]
      have o1 := ((OwnS.lit (f := cc) (e := 28) (size := 24) H.size).n).below ((Below.refl _ _).alloc (Nat.le_refl _) (.cells #[] 26))
      have o2 := (OwnS.lit (f := bc) (e := 26) (size := 2) (H.alloc H.size (.cells #[] 28)).size).n
      rw [World.size_alloc] at o2
      have hz := (H.alloc H.size (.cells #[] 28)).alloc (H.alloc H.size (.cells #[] 28)).size (.cells #[] 26)
      exact bodyPost_ret (results_ttt rfl) rfl ⟨_, _, rfl, o1, o2, hz⟩
  · have HF := Lib.hid (show takeOR lc l ks = ([], [], openI lc l ks) by rw [takeOR, if_neg e1])
    rcases openI_cases lc l ks with e | e | e
    · exact absurd e e1
    all_goals
      have HI := Lib.hid e
      clear e e1
      rw [HI.out] at HF
      go_enter Try.func36, Try.ntmps36
      go_wp2_with (go_at_call 88; with_reducible refine (l02Opened_any g0 c0 lc g1 c1 l (some ⟨g2, 0, none⟩) c2 ks _ (K0.out.below H) (K1.out.below H) (by rw [← fl_iv]; exact (K2.out.below H).rd) hn hl hk).mono ?_; rintro e w' ⟨rfl, hb⟩; rw [HI.out]; replace H := bstep H hb; clear hb)
      rw [HF.out]
      have o1 := ((OwnS.lit (f := cc) (e := 28) (size := 24) H.size).n).below ((Below.refl _ _).alloc (Nat.le_refl _) (.cells #[] 26))
      have o2 := (OwnS.lit (f := bc) (e := 26) (size := 2) (H.alloc H.size (.cells #[] 28)).size).n
      rw [World.size_alloc] at o2
      have hz := (H.alloc H.size (.cells #[] 28)).alloc (H.alloc H.size (.cells #[] 28)).size (.cells #[] 26)
      exact bodyPost_ret (results_ttt rfl) rfl ⟨_, _, rfl, o1, o2, hz⟩
end Go.Proofs.Ytnhpgahapjjjbaa
