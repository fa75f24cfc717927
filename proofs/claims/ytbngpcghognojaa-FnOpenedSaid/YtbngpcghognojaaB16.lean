/- Texts of the claim, joined (16 of 18): TakeO, FillO, NestW, Sev. -/
import Derived.Test.YtbngpcghognojaaB1
import Derived.Test.YtbngpcghognojaaB4
import Derived.Test.YtbngpcghognojaaB8
import Derived.Test.YtbngpcghognojaaB10
import Derived.Test.YtbngpcghognojaaB11
import Derived.Test.YtbngpcghognojaaB14
import Derived.Test.YtbngpcghognojaaB15
namespace Go.Proofs.Ytbngpcghognojaa
open Go.RowKit
set_option linter.unusedVariables false
set_option linter.unusedSimpArgs false
set_option maxRecDepth 100000
set_option maxHeartbeats 1000000
attribute [local go_sem] Oper.qB
def takeOR (lc : List Cr) (l : List Wt) (ks : List Int) : List Cr × List Bt × Int := if openI lc l ks = 0 then (if leftL lc l ks = [] then ((outL lc l ks).1, (outL lc l ks).2, 0) else ([], [], 4)) else ([], [], openI lc l ks)
theorem takeOR_le (lc : List Cr) (l : List Wt) (ks : List Int) : (takeOR lc l ks).1.length ≤ 30000 := by
  unfold takeOR
  split
  · rename_i h
    have h8 := ask_le (openI_zero h).1
    split
    · show (outL lc l ks).1.length ≤ 30000
      rw [outL, tkW_len]
      omega
    · simp
  · simp
theorem takeOR_le2 (lc : List Cr) (l : List Wt) (ks : List Int) : (takeOR lc l ks).2.1.length ≤ 300000 := by
  unfold takeOR
  split
  · rename_i h
    have ha := (openI_zero h).1
    have h8 := ask_le ha
    split
    · show (outL lc l ks).2.length ≤ 300000
      have hok : ordOk l = true := by
        unfold askOk at ha
        rw [Bool.and_eq_true] at ha
        exact ha.2
      have := tkW_le lc l ks (ok_nonneg hok) l.length (Nat.le_refl _)
      unfold outL
      omega
    · simp
  · simp
theorem TakeOut_any (g0 c0 : Nat) (lc : List Cr) (g1 c1 : Nat) (l : List Wt) (g2 c2 : Nat) (ks : List Int) (w : World) (K0 : Lies cc w g0 lc) (K1 : Lies wc w g1 l) (K2 : Lies iv w g2 ks) (hc : ks.length ≤ c2) (hn : lc.length ≤ 1048576) (hl : l.length ≤ 1048576) (hk : ks.length ≤ 1048576) :
    Calls Try.prog 21 #[.slice (some ⟨g0, 0, none⟩) lc.length c0, .slice (some ⟨g1, 0, none⟩) l.length c1, .slice (some ⟨g2, 0, none⟩) ks.length c2] w fun e w' => ∃ v u, e = .returned (.tuple #[v, u, .int .i64 (takeOR lc l ks).2.2]) ∧ OwnN cc w' w.heap.size 44 24 v (takeOR lc l ks).1 ∧ OwnN bc w' w.heap.size 42 2 u (takeOR lc l ks).2.1 ∧ Below w.heap.size w w' := by
  have H := Below.refl w.heap.size w
  replace K0 := Lib.hid K0
  replace K1 := Lib.hid K1
  replace K2 := Lib.hid K2
  by_cases e1 : openI lc l ks = 0
  · have ha := (openI_zero e1).1
    have h8 := ask_le ha
    have hok : ordOk l = true := by
      unfold askOk at ha
      rw [Bool.and_eq_true] at ha
      exact ha.2
    have HK := Lib.hid (kin_all (openI_zero e1).2)
    have HN := Lib.hid (ok_nonneg hok)
    have HI := Lib.hid e1
    have HF : Hid (takeOR lc l ks = if leftL lc l ks = [] then ((outL lc l ks).1, (outL lc l ks).2, 0) else ([], [], 4)) := by rw [Hid, takeOR, if_pos e1]
    have HLE := lackL_le (cntL (opL lc ks)) l
    have HOL : (opL lc ks).length ≤ 1048576 := Nat.le_trans (opK_le lc ks ks.length) hk
    have HTO := Lib.hid (fun A c W k0 hC hb1 h2 => takeOut_any g0 c0 lc g1 0 c1 l A c ks W k0 hC hb1 h2 HK.out h8.1 h8.2 HN.out hk)
    have HLK := fun A c W h b hb1 => lack_any A c (opL lc ks) g1 0 c1 l W h b hb1 HOL (by omega)
    clear e1 ha hok
    unfold leftL at HF
    generalize lackL (cntL (opL lc ks)) l = ll at HF HLE HLK
    rcases Nat.eq_zero_or_pos ll.length with h0 | h0
    · have HF2 := Lib.hid (show takeOR lc l ks = ((outL lc l ks).1, (outL lc l ks).2, 0) by rw [HF.out, if_pos (List.length_eq_zero_iff.1 h0)])
      go_enter Try.func21, Try.ntmps21
      go_wp2_with (first | (go_at_call 47; with_reducible refine (openCode_any g0 c0 lc g1 c1 l (some ⟨g2, 0, none⟩) c2 ks _ (K0.out.below H) (K1.out.below H) (by rw [← fl_iv]; exact (K2.out.below H).rd) hn hl hk).mono ?_; rintro e w' ⟨rfl, hb⟩; rw [HI.out]; replace H := bstep H hb; clear hb) | (go_at_call 41; with_reducible refine (opened_any (some ⟨g0, 0, none⟩) c0 lc (some ⟨g2, 0, none⟩) c2 ks _ (K0.out.below H).rd (by rw [← fl_iv]; exact (K2.out.below H).rd) HK.out hc hn hk).mono ?_; rintro e w2 ⟨v2, rfl, O2, hb⟩; obtain ⟨g3, p3, rfl, KO, -⟩ := O2.lies; replace KO := Lib.hid KO; replace H := bstep H hb; clear hb O2) | (go_at_call 40; with_reducible refine (HLK _ p3 _ KO.out.rd (K1.out.below H).c (K1.out.below H).lt).mono ?_; rintro e w3 ⟨v3, rfl, O3, hb⟩; obtain ⟨g4, p4, rfl, -⟩ := O3.lies; replace H := bstep H hb; clear hb O3) | (go_at_call 54; with_reducible refine (HTO.out _ _ _ (K0.out.below H) (K1.out.below H).c (K1.out.below H).lt (by rw [← fl_iv]; exact (K2.out.below H).rd)).mono ?_; rintro e w3 ⟨v4, u4, rfl, O4, P4, hb⟩; replace O4 := O4.down H.size; replace P4 := P4.down H.size; replace H := bstep H hb; clear hb))
      rw [HF2.out]
      exact bodyPost_ret (results_ttt rfl) rfl ⟨_, _, rfl, O4.n, P4.n, H⟩
    · have HF2 := Lib.hid (show takeOR lc l ks = ([], [], 4) by rw [HF.out, if_neg (fun q => by simp [q] at h0)])
      go_enter Try.func21, Try.ntmps21
      go_wp2_with (first | (go_at_call 47; with_reducible refine (openCode_any g0 c0 lc g1 c1 l (some ⟨g2, 0, none⟩) c2 ks _ (K0.out.below H) (K1.out.below H) (by rw [← fl_iv]; exact (K2.out.below H).rd) hn hl hk).mono ?_; rintro e w' ⟨rfl, hb⟩; rw [HI.out]; replace H := bstep H hb; clear hb) | (go_at_call 41; with_reducible refine (opened_any (some ⟨g0, 0, none⟩) c0 lc (some ⟨g2, 0, none⟩) c2 ks _ (K0.out.below H).rd (by rw [← fl_iv]; exact (K2.out.below H).rd) HK.out hc hn hk).mono ?_; rintro e w2 ⟨v2, rfl, O2, hb⟩; obtain ⟨g3, p3, rfl, KO, -⟩ := O2.lies; replace KO := Lib.hid KO; replace H := bstep H hb; clear hb O2) | (go_at_call 40; with_reducible refine (HLK _ p3 _ KO.out.rd (K1.out.below H).c (K1.out.below H).lt).mono ?_; rintro e w3 ⟨v3, rfl, O3, hb⟩; obtain ⟨g4, p4, rfl, -⟩ := O3.lies; replace H := bstep H hb; clear hb O3))
      rw [HF2.out]
      exact bodyPost_ret (results_ttt rfl) rfl ⟨_, _, rfl, OwnN.nil, OwnN.nil, H⟩
  · have HF := Lib.hid (show takeOR lc l ks = ([], [], openI lc l ks) by rw [takeOR, if_neg e1])
    rcases openI_cases lc l ks with e | e | e
    · exact absurd e e1
    all_goals
      have HI := Lib.hid e
      clear e e1
      rw [HI.out] at HF
      go_enter Try.func21, Try.ntmps21
      go_wp2_with (go_at_call 47; with_reducible refine (openCode_any g0 c0 lc g1 c1 l (some ⟨g2, 0, none⟩) c2 ks _ (K0.out.below H) (K1.out.below H) (by rw [← fl_iv]; exact (K2.out.below H).rd) hn hl hk).mono ?_; rintro e w' ⟨rfl, hb⟩; rw [HI.out]; replace H := bstep H hb; clear hb)
      rw [HF.out]
      exact bodyPost_ret (results_ttt rfl) rfl ⟨_, _, rfl, OwnN.nil, OwnN.nil, H⟩
theorem sTakeOut_any (g0 c0 : Nat) (lc : List Cr) (g1 c1 : Nat) (l : List Wt) (g2 c2 : Nat) (ks : List Int) (w : World) (K0 : Lies cc w g0 lc) (K1 : Lies wc w g1 l) (K2 : Lies iv w g2 ks) (hc : ks.length ≤ c2) (hn : lc.length ≤ 1048576) (hl : l.length ≤ 1048576) (hk : ks.length ≤ 1048576) :
    Calls Try.prog 22 #[.slice (some ⟨g0, 0, none⟩) lc.length c0, .slice (some ⟨g1, 0, none⟩) l.length c1, .slice (some ⟨g2, 0, none⟩) ks.length c2] w fun e w' => ∃ v u, e = .returned (.tuple #[v, u, .int .i64 (takeOR lc l ks).2.2]) ∧ OwnN cc w' w.heap.size 44 24 v (takeOR lc l ks).1 ∧ OwnN bc w' w.heap.size 42 2 u (takeOR lc l ks).2.1 ∧ Below w.heap.size w w' := by
  have H := Below.refl w.heap.size w
  replace K0 := Lib.hid K0
  replace K1 := Lib.hid K1
  replace K2 := Lib.hid K2
  by_cases e1 : openI lc l ks = 0
  · have ha := (openI_zero e1).1
    have h8 := ask_le ha
    have hok : ordOk l = true := by
      unfold askOk at ha
      rw [Bool.and_eq_true] at ha
      exact ha.2
    have HK := Lib.hid (kin_all (openI_zero e1).2)
    have HN := Lib.hid (ok_nonneg hok)
    have HI := Lib.hid e1
    have HF : Hid (takeOR lc l ks = if leftL lc l ks = [] then ((outL lc l ks).1, (outL lc l ks).2, 0) else ([], [], 4)) := by rw [Hid, takeOR, if_pos e1]
    have HLE := lackL_le (cntL (opL lc ks)) l
    have HOL : (opL lc ks).length ≤ 1048576 := Nat.le_trans (opK_le lc ks ks.length) hk
    have HTO := Lib.hid (fun A c W k0 hC hb1 h2 => l02Out_any g0 c0 lc g1 0 c1 l A c ks W k0 hC hb1 h2 HK.out h8.1 h8.2 HN.out hk)
    have HLK := fun W a b hb1 k => l02Lack_any (some ⟨g0, 0, none⟩) c0 lc g1 0 c1 l (some ⟨g2, 0, none⟩) c2 ks W a b hb1 k HK.out hc hn (by omega) hk
    clear e1 ha hok
    unfold leftL at HF
    generalize lackL (cntL (opL lc ks)) l = ll at HF HLE HLK
    rcases Nat.eq_zero_or_pos ll.length with h0 | h0
    · have HF2 := Lib.hid (show takeOR lc l ks = ((outL lc l ks).1, (outL lc l ks).2, 0) by rw [HF.out, if_pos (List.length_eq_zero_iff.1 h0)])
      go_enter Try.func22, Try.ntmps22
      go_wp2_with (first | (go_at_call 50; with_reducible refine (l02Opened_any g0 c0 lc g1 c1 l (some ⟨g2, 0, none⟩) c2 ks _ (K0.out.below H) (K1.out.below H) (by rw [← fl_iv]; exact (K2.out.below H).rd) hn hl hk).mono ?_; rintro e w' ⟨rfl, hb⟩; rw [HI.out]; replace H := bstep H hb; clear hb) | (go_at_call 34; with_reducible refine (HLK _ (K0.out.below H).rd (K1.out.below H).c (K1.out.below H).lt (by rw [← fl_iv]; exact (K2.out.below H).rd)).mono ?_; rintro e w3 ⟨v3, rfl, O3, hb⟩; obtain ⟨g4, p4, rfl, -⟩ := O3.lies; replace H := bstep H hb; clear hb O3) | (go_at_call 55; with_reducible refine (HTO.out _ _ _ (K0.out.below H) (K1.out.below H).c (K1.out.below H).lt (by rw [← fl_iv]; exact (K2.out.below H).rd)).mono ?_; rintro e w3 ⟨v4, u4, rfl, O4, P4, hb⟩; replace O4 := O4.down H.size; replace P4 := P4.down H.size; replace H := bstep H hb; clear hb))
      rw [HF2.out]
      exact bodyPost_ret (results_ttt rfl) rfl ⟨_, _, rfl, O4.n, P4.n, H⟩
    · have HF2 := Lib.hid (show takeOR lc l ks = ([], [], 4) by rw [HF.out, if_neg (fun q => by simp [q] at h0)])
      go_enter Try.func22, Try.ntmps22
      go_wp2_with (first | (go_at_call 50; with_reducible refine (l02Opened_any g0 c0 lc g1 c1 l (some ⟨g2, 0, none⟩) c2 ks _ (K0.out.below H) (K1.out.below H) (by rw [← fl_iv]; exact (K2.out.below H).rd) hn hl hk).mono ?_; rintro e w' ⟨rfl, hb⟩; rw [HI.out]; replace H := bstep H hb; clear hb) | (go_at_call 34; with_reducible refine (HLK _ (K0.out.below H).rd (K1.out.below H).c (K1.out.below H).lt (by rw [← fl_iv]; exact (K2.out.below H).rd)).mono ?_; rintro e w3 ⟨v3, rfl, O3, hb⟩; obtain ⟨g4, p4, rfl, -⟩ := O3.lies; replace H := bstep H hb; clear hb O3))
      rw [HF2.out]
      have o1 := ((OwnS.lit (f := cc) (e := 44) (size := 24) H.size).n).below ((Below.refl _ _).alloc (Nat.le_refl _) (.cells #[] 42))
      have o2 := (OwnS.lit (f := bc) (e := 42) (size := 2) (H.alloc H.size (.cells #[] 44)).size).n
      rw [World.size_alloc] at o2
      have hz := (H.alloc H.size (.cells #[] 44)).alloc (H.alloc H.size (.cells #[] 44)).size (.cells #[] 42)
      exact bodyPost_ret (results_ttt rfl) rfl ⟨_, _, rfl, o1, o2, hz⟩
  · have HF := Lib.hid (show takeOR lc l ks = ([], [], openI lc l ks) by rw [takeOR, if_neg e1])
    rcases openI_cases lc l ks with e | e | e
    · exact absurd e e1
    all_goals
      have HI := Lib.hid e
      clear e e1
      rw [HI.out] at HF
      go_enter Try.func22, Try.ntmps22
      go_wp2_with (go_at_call 50; with_reducible refine (l02Opened_any g0 c0 lc g1 c1 l (some ⟨g2, 0, none⟩) c2 ks _ (K0.out.below H) (K1.out.below H) (by rw [← fl_iv]; exact (K2.out.below H).rd) hn hl hk).mono ?_; rintro e w' ⟨rfl, hb⟩; rw [HI.out]; replace H := bstep H hb; clear hb)
      rw [HF.out]
      have o1 := ((OwnS.lit (f := cc) (e := 44) (size := 24) H.size).n).below ((Below.refl _ _).alloc (Nat.le_refl _) (.cells #[] 42))
      have o2 := (OwnS.lit (f := bc) (e := 42) (size := 2) (H.alloc H.size (.cells #[] 44)).size).n
      rw [World.size_alloc] at o2
      have hz := (H.alloc H.size (.cells #[] 44)).alloc (H.alloc H.size (.cells #[] 44)).size (.cells #[] 42)
      exact bodyPost_ret (results_ttt rfl) rfl ⟨_, _, rfl, o1, o2, hz⟩
end Go.Proofs.Ytbngpcghognojaa
namespace Go.Proofs.Ytbngpcghognojaa
open Go.RowKit
set_option linter.unusedVariables false
set_option linter.unusedSimpArgs false
set_option maxRecDepth 100000
set_option maxHeartbeats 1000000
attribute [local go_sem] Oper.qB
def fillOR (lc : List Cr) (l : List Wt) : List Cr × List Cr × Int := if fillI lc l = 0 then ((outL lc l (fewS lc l).1).1, packL (botsL l), 0) else ([], [], fillI lc l)
theorem outL_len (lc : List Cr) (l : List Wt) (ks : List Int) : (outL lc l ks).1.length = lc.length := tkW_len lc l ks l.length
theorem fillOR_le (lc : List Cr) (l : List Wt) : (fillOR lc l).1.length ≤ 30000 := by
  unfold fillOR
  split
  · rename_i h
    rcases fillI_cases lc l with ⟨_, h1, h2⟩ | e | e
    · have := (ask_le h1).1
      show (outL lc l _).1.length ≤ 30000
      rw [outL_len]
      omega
    · rw [e] at h; cases h
    · rw [e] at h; cases h
  · simp
theorem fillOR_le2 (lc : List Cr) (l : List Wt) : (fillOR lc l).2.1.length ≤ 30000 := by
  unfold fillOR
  split
  · rename_i h
    rcases fillI_cases lc l with ⟨_, h1, h2⟩ | e | e
    · have := (ask_le h1).2
      have := botsL_le l
      show (packL (botsL l)).length ≤ 30000
      rw [packL, packK_length]
      omega
    · rw [e] at h; cases h
    · rw [e] at h; cases h
  · simp
theorem FillOrder_any (g0 c0 : Nat) (lc : List Cr) (g1 c1 : Nat) (l : List Wt) (w : World) (K0 : Lies cc w g0 lc) (K1 : Lies wc w g1 l) (hn : lc.length ≤ 1048576) (hl : l.length ≤ 1048576) :
    Calls Try.prog 23 #[.slice (some ⟨g0, 0, none⟩) lc.length c0, .slice (some ⟨g1, 0, none⟩) l.length c1] w fun e w' => ∃ v u, e = .returned (.tuple #[v, u, .int .i64 (fillOR lc l).2.2]) ∧ OwnN cc w' w.heap.size 44 24 v (fillOR lc l).1 ∧ OwnN cc w' w.heap.size 44 24 u (fillOR lc l).2.1 ∧ Below w.heap.size w w' := by
  have H := Below.refl w.heap.size w
  replace K0 := Lib.hid K0
  replace K1 := Lib.hid K1
  rcases fillI_cases lc l with ⟨e, ha, hf⟩ | e | e
  rotate_left
  all_goals try (
    have HF := Lib.hid (show fillOR lc l = ([], [], fillI lc l) by rw [fillOR, if_neg (by rw [e]; decide)])
    have HI := Lib.hid e
    rw [HI.out] at HF
    clear e
    go_enter Try.func23, Try.ntmps23
    go_wp2_with (go_at_call 36; with_reducible refine (fillCode_any g0 c0 lc g1 c1 l _ (K0.out.below H) (K1.out.below H) hn hl).mono ?_; rintro e w' ⟨rfl, hb⟩; rw [HI.out]; replace H := bstep H hb; clear hb)
    rw [HF.out]
    exact bodyPost_ret (results_ttt rfl) rfl ⟨_, _, rfl, OwnN.nil, OwnN.nil, H⟩)
  have HF := Lib.hid (show fillOR lc l = ((outL lc l (fewS lc l).1).1, packL (botsL l), 0) by rw [fillOR, if_pos e])
  have HI := Lib.hid e
  have HZ := Lib.hid hf
  have h8 := ask_le ha
  have hok : ordOk l = true := by
    unfold askOk at ha
    rw [Bool.and_eq_true] at ha
    exact ha.2
  have HG := Lib.hid (fewS_good (lc := lc) (l := l))
  have HN := Lib.hid (ok_nonneg hok)
  have HFL := Lib.hid (fewS_le lc l)
  have HFW := fun A W hr hC hb => fewest_any A c0 lc g1 0 c1 l W hr hC hb h8.1 h8.2 HZ.out
  clear e ha hf hok
  generalize (fewS lc l).1 = ks at HF HG HFL HFW
  have HFW2 := Lib.hid HFW
  clear HFW
  have HTO := Lib.hid (fun A c W k0 hC hb1 h2 => takeOut_any g0 c0 lc g1 0 c1 l A c ks W k0 hC hb1 h2 HG.out.inn h8.1 h8.2 HN.out (by have := HFL.out; omega))
  go_enter Try.func23, Try.ntmps23
  go_wp2_with (first | (go_at_call 36; with_reducible refine (fillCode_any g0 c0 lc g1 c1 l _ (K0.out.below H) (K1.out.below H) hn hl).mono ?_; rintro e w' ⟨rfl, hb⟩; rw [HI.out]; replace H := bstep H hb; clear hb) | (go_at_call 37; with_reducible refine (HFW2.out _ _ (K0.out.below H).rd (K1.out.below H).c (K1.out.below H).lt).mono ?_; rintro e w2 ⟨v2, rfl, O2, hb⟩; obtain ⟨A2, c2, rfl, -, hrd⟩ := O2.rd; rw [fl_iv] at hrd; replace hrd := Lib.hid hrd; replace H := bstep H hb; clear hb O2) | (go_at_call 54; with_reducible refine (HTO.out _ _ _ (K0.out.below H) (K1.out.below H).c (K1.out.below H).lt hrd.out).mono ?_; rintro e w3 ⟨v3, u3, rfl, O3, P3, hb⟩; replace O3 := Lib.hid (O3.down H.size); replace H := bstep H hb; clear hb P3) | (go_at_call 56; with_reducible refine (casesFor_any g1 0 c1 l _ (K1.out.below H).c (K1.out.below H).lt h8.2 HN.out).mono ?_; rintro e w4 ⟨v4, rfl, O4, hb⟩; replace O4 := O4.down H.size; have O5 := O3.out.kept hb; replace H := bstep H hb; clear hb))
  rw [HF.out]
  exact bodyPost_ret (results_ttt rfl) rfl ⟨_, _, rfl, O5.n, O4.n, H⟩
end Go.Proofs.Ytbngpcghognojaa
namespace Go.Proofs.Ytbngpcghognojaa
open Go.RowKit Go.ChangeShapes Go.WideShapes Go.ChangeAt
set_option linter.unusedVariables false
set_option linter.unusedSimpArgs false
set_option maxRecDepth 100000
set_option maxHeartbeats 4000000
attribute [local go_sem] Oper.qB
section
variable {α : Type} {f : α → List Value} {w w' : World} {B k e E : Nat} {v : Value} {ls : List (List α)}
/-- Slices of elements, each owned and apart from the others, their blocks below T, in an owned slice. -/
def OwnA (f : α → List Value) (k e E : Nat) (w : World) (B T : Nat) (v : Value) (ls : List (List α)) : Prop :=
  ∃ vs : List Value, vs.length = ls.length ∧ OwnS slv w B E 1 v vs ∧ (∀ i, i < ls.length → OwnS f w B e k vs[i]! ls[i]! ∧ ∀ b, vs[i]!.ownBlock = some b → b < T) ∧ ∀ i j, i < j → j < ls.length → Apart vs[i]! vs[j]!
theorem OwnA.kept {T : Nat} (h : OwnA f k e E w B T v ls) (hb : Below w.heap.size w w') : OwnA f k e E w' B T v ls := by
  obtain ⟨vs, h1, h2, h3, h4⟩ := h
  exact ⟨vs, h1, h2.kept hb, fun i hi => ⟨(h3 i hi).1.kept hb, (h3 i hi).2⟩, h4⟩
theorem OwnA.down {T b : Nat} (h : OwnA f k e E w B T v ls) (hb : b ≤ B) : OwnA f k e E w b T v ls := by
  obtain ⟨vs, h1, h2, h3, h4⟩ := h
  exact ⟨vs, h1, h2.down hb, fun i hi => ⟨(h3 i hi).1.down hb, (h3 i hi).2⟩, h4⟩
theorem OwnA.form {T : Nat} (h : OwnA f k e E w B T v ls) : ∃ g cap, v = .slice (some ⟨g, 0, none⟩) ls.length cap := by
  obtain ⟨vs, h1, h2, h3, h4⟩ := h
  obtain ⟨g, cap, hv, _⟩ := h2.lies
  exact ⟨g, cap, by rw [← h1]; exact hv⟩
theorem OwnA.el {T g cap : Nat} (h : OwnA f k e E w B T (.slice (some ⟨g, 0, none⟩) ls.length cap) ls) {i : Nat} (hi : i < ls.length) : g < w.heap.size ∧ ∃ g1 c1, w.cell? ⟨g, i, none⟩ = some (.slice (some ⟨g1, 0, none⟩) ls[i]!.length c1) ∧ Lies f w g1 ls[i]! ∧ ls[i]!.length ≤ c1 := by
  obtain ⟨vs, h1, h2, h3, h4⟩ := h
  obtain ⟨g', cap', hv, K, hB, hg, _⟩ := h2.lies
  obtain ⟨rfl, -⟩ : g = g' ∧ cap = cap' := by
    simp only [Value.slice.injEq, Option.some.injEq, Addr.mk.injEq, and_true, true_and] at hv
    exact ⟨hv.1, hv.2.2⟩
  obtain ⟨g1, c1, hu, KU, -, -, hc⟩ := (h3 i hi).1.lies
  refine ⟨hg, g1, c1, ?_, KU, hc⟩
  have := K.c.el slv_length (i := i) (by omega) 0 vs[i]! rfl
  rw [← hu]
  simpa using this
/-- How many elements there are in all. -/
def tot (ls : List (List α)) : Nat := (ls.map List.length).sum
theorem tot_step {i : Nat} (h : i < ls.length) : tot (ls.take (i + 1)) = tot (ls.take i) + ls[i]!.length := by
  unfold tot
  rw [List.take_succ_eq_append_getElem h, List.map_append, List.sum_append, getB h]
  simp
theorem tot_take_le (i : Nat) : tot (ls.take i) ≤ tot ls := by
  have e : tot ls = tot (ls.take i) + tot (ls.drop i) := by
    unfold tot
    rw [← List.sum_append, ← List.map_append, List.take_append_drop]
  omega
theorem tot_el {i : Nat} (h : i < ls.length) : ls[i]!.length ≤ tot ls := by
  have := tot_step h
  have := tot_take_le (ls := ls) (i + 1)
  omega
/-- Slices of elements that are read. -/
def RdSS (f : α → List Value) (w : World) (A : Option Addr) (ls : List (List α)) : Prop :=
  ls = [] ∨ ∃ g off, A = some ⟨g, off, none⟩ ∧ g < w.heap.size ∧ ∀ i, i < ls.length → ∃ A' c', w.cell? ⟨g, off + i, none⟩ = some (.slice A' ls[i]!.length c') ∧ ls[i]!.length ≤ maxLen ∧ RdA w A' (fl f ls[i]!)
theorem RdSS.below {A : Option Addr} (h : RdSS f w A ls) (hb : Below w.heap.size w w') : RdSS f w' A ls := by
  rcases h with h | ⟨g, off, hA, hg, h⟩
  · exact .inl h
  · refine .inr ⟨g, off, hA, Nat.lt_of_lt_of_le hg hb.size, fun i hi => ?_⟩
    obtain ⟨A', c', h1, h2, h3⟩ := h i hi
    exact ⟨A', c', (hb.cell hg).trans h1, h2, h3.below hb⟩
theorem RdSS.some {A : Option Addr} (h : RdSS f w A ls) (hn : 0 < ls.length) : ∃ g off, A = Option.some ⟨g, off, none⟩ ∧ g < w.heap.size ∧ ∀ i, i < ls.length → ∃ A' c', w.cell? ⟨g, off + i, none⟩ = Option.some (.slice A' ls[i]!.length c') ∧ ls[i]!.length ≤ maxLen ∧ RdA w A' (fl f ls[i]!) := by
  rcases h with h | h
  · rw [h] at hn
    exact absurd hn (Nat.not_lt_zero _)
  · exact h
/-- The marks: nothing but blocks from B to T has changed. -/
def ButR (B T : Nat) (w w' : World) : Prop := Below 0 w w' ∧ ∀ b, b < w.heap.size → ¬ (B ≤ b ∧ b < T) → w'.heap[b]? = w.heap[b]?
theorem ButR.refl {B T : Nat} : ButR B T w w := ⟨Below.refl _ _, fun _ _ _ => rfl⟩
theorem ButR.trans {B T : Nat} {w1 : World} (h : ButR B T w w1) (h' : ButR B T w1 w') : ButR B T w w' :=
  ⟨h.1.trans h'.1, fun b hb hv => (h'.2 b (Nat.lt_of_lt_of_le hb h.1.size) hv).trans (h.2 b hb hv)⟩
theorem ButR.of {T : Nat} (hb : ButV v w w') (hv : ∀ b, v.ownBlock = Option.some b → B ≤ b ∧ b < T) : ButR B T w w' := ⟨hb.1, fun b hl h => hb.2 b hl fun q => h (hv b q)⟩
theorem OwnN.butR {B' T : Nat} {l : List α} (h : OwnN f w B e k v l) (hb : ButR B' T w w') (ha : ∀ b, v.ownBlock = Option.some b → ¬ (B' ≤ b ∧ b < T)) : OwnN f w' B e k v l :=
  ⟨h.1, h.2.imp (fun h => h) fun ⟨g, cap, cur, hv, hg, hh, hr⟩ => ⟨g, cap, cur, hv, hg, by
    rw [hb.2 g (Array.getElem?_eq_some_iff.1 hh).1 (ha g (by rw [hv]; rfl))]
    exact hh, hr⟩⟩
theorem OwnN.lt {l : List α} (h : OwnN f w B e k v l) : ∀ b, v.ownBlock = Option.some b → b < w.heap.size := own_lt h
theorem OwnN.base {l : List α} (h : OwnN f w B e k v l) : ∀ b, v.ownBlock = Option.some b → B ≤ b := own_base h
end
theorem set_fill {vs : List Value} {n k : Nat} (hk : k < n) (hl : vs.length = k) (v z : Value) : (vs ++ List.replicate (n - k) z).set k v = (vs ++ [v]) ++ List.replicate (n - (k + 1)) z := by
  rw [show n - k = (n - (k + 1)) + 1 by omega, List.replicate_succ, List.set_append_right _ _ (by omega), hl, Nat.sub_self, List.set_cons_zero, List.append_assoc]
  rfl
theorem at_old {vs : List Value} {v : Value} {i : Nat} (h : i < vs.length) : (vs ++ [v])[i]! = vs[i]! := by
  rw [getB (by simp; omega), getB h, List.getElem_append_left h]
theorem at_new {vs : List Value} {v : Value} {i : Nat} (h : i = vs.length) : (vs ++ [v])[i]! = v := by
  subst h
  rw [getB (by simp)]
  simp
theorem fill_slot {w : World} {B E n g k cap : Nat} {vs : List Value} {z : Value} (h : w.ownsRow B E 1 (.slice (some ⟨g, 0, none⟩) n cap) n (fl slv (vs ++ List.replicate (n - k) z))) (hk : k < n) (hl : vs.length = k) :
    w.cell? ⟨g, k, none⟩ = some z ∧ ∀ v, (w.setCell ⟨g, k, none⟩ v).ownsRow B E 1 (.slice (some ⟨g, 0, none⟩) n cap) n (fl slv ((vs ++ [v]) ++ List.replicate (n - (k + 1)) z)) := by
  rw [fl_slv] at h
  constructor
  · have := h.cellAt k (by omega)
    rw [List.getElem?_append_right (by omega), hl, Nat.sub_self, List.getElem?_replicate, if_pos (by omega)] at this
    exact this
  · intro v
    have := (h.stored k v).1
    rw [set_fill hk hl] at this
    rw [fl_slv]
    exact this
end Go.Proofs.Ytbngpcghognojaa
namespace Go.Proofs.Ytbngpcghognojaa
open Go.RowKit
set_option linter.unusedVariables false
set_option linter.unusedSimpArgs false
set_option maxRecDepth 100000
set_option maxHeartbeats 4000000
attribute [local go_sem] Oper.qB
theorem wp_app_num3 {ops : Array Oper} {rest : List Oper} {o : Oper} {a : Act} {Q : Exit → Act → World → Prop} {W : World} (B : Nat) (hgd : o.guard = none) (s x : Operand) (ho : o.op = .call { callee := .builtin .append, args := #[s, x], argTypes := #[28, 28] })
    (v : Value) (l : List Int) (y : Int) (hs : a.eval s = v) (g : Nat) (hx : a.eval x = .slice (some ⟨g, 0, none⟩) 1 1) (hg : g = W.heap.size)
    (HO : OwnS iv W B 2 1 v l) (hB : B ≤ W.heap.size) (hn : l.length ≤ 100000000)
    (h : ∀ v1 w1, OwnS iv w1 B 2 1 v1 (l ++ [y]) → (Below B W w1 ∧ ButV v W w1 ∧ Away v v1 W) → wpList Try.prog ops Q rest (a.put o.dst v1) w1) : wpList Try.prog ops Q (o :: rest) a (W.alloc (.cells #[.int .i64 y] 2)) :=
  wp_app3 (P := Try.prog) B hgd s x 28 2 ho (.int .i64 0) 1 8 Try.underlying28 info64 rfl (by decide) v l.length (fl iv l) [.int .i64 y] hs g hx hg rfl (by simp [Value.oneCell']) HO.1 hB (by omega) (by decide)
    (fun v1 w1 h1 h2 => h v1 w1 (OwnS.grown (by rw [List.length_append, fl_append, fl_one]; exact h1)) h2)
theorem Sev1_any (g1 c1 : Nat) (l : List Wt) (w : World) (K : Lies wc w g1 l) (hl : l.length ≤ 1048576) : Calls Try.prog 60 #[.slice (some ⟨g1, 0, none⟩) l.length c1] w fun e w' => e = .returned (.bool (!ordOk l)) ∧ Below w.heap.size w w' := by
  have H := Below.refl w.heap.size w
  replace K := Lib.hid K
  go_enter Try.func60, Try.ntmps60
  go_wp2_with (go_at_call 48; with_reducible refine (ValidOrder_any g1 0 c1 l _ (K.out.below H).c (K.out.below H).lt (by omega)).mono ?_; rintro e w' ⟨rfl, hb⟩; replace H := bstep H hb; clear hb; have hc := bcell H)
  go_ret
  exact ⟨rfl, H⟩
theorem IndexFunc_wss (B T : Nat) (v : Value) (os : List (List Wt)) (w : World) (KO : OwnA wc 3 54 26 w B T v os) (hl : os.length ≤ 1048576) (ht : tot os ≤ 1048576) :
    Calls Try.prog 87 #[v, .func (.func 60) #[] #[]] w fun e w' => (∃ r : Int, e = .returned (.int .i64 r) ∧ decide (0 ≤ r) = !(os.all ordOk) ∧ -1 ≤ r ∧ r ≤ 1048576) ∧ Below w.heap.size w w' := by
  obtain ⟨g, c, rfl⟩ := KO.form
  replace KO := Lib.hid KO
  go_enter Try.func87, Try.ntmps87
  go_wp2
  go_loopw [8] (fun i wr => ∃ k : Nat, k ≤ os.length ∧ i = .int .i64 k ∧ Hid (∀ i, i < k → ordOk os[i]! = true) ∧ Below w.heap.size w wr) (fun i _ => os.length - (intOf i).toNat)
  case atStart => exact ⟨0, Nat.zero_le _, rfl, fun i hi => absurd hi (Nat.not_lt_zero _), Below.refl _ _⟩
  case round =>
    obtain ⟨k, hk, rfl, HA, hb⟩ := hrel
    by_cases hlt : k < os.length
    · obtain ⟨hg, g1, c1, X0, L0, -⟩ := (KO.out.kept hb).el hlt
      have hel := tot_el hlt
      have hlt2 : (k : Int) < (os.length : Int) := by omega
      have hmem : Hid (os[k]! ∈ os) := by rw [Hid, getB hlt]; exact List.getElem_mem hlt
      generalize hle : os[k]! = l at *
      replace hle := Lib.hid hle
      have HS1 := fun W hW => Sev1_any g1 c1 l W (L0.below hW) (by omega)
      replace HS1 := Lib.hid HS1
      have H := Below.refl wr.heap.size wr
      cases e1 : ordOk l with
      | true =>
        have e2 := Lib.hid (show (!ordOk l) = false by rw [e1]; rfl)
        go_wp2_with (go_at_call 60; with_reducible refine (HS1.out _ H).mono ?_; rintro e w1 ⟨rfl, hb1⟩; rw [e2.out])
        go_roundw
        case rel => exact ⟨k + 1, by omega, by go_num, fun i hi => by
          rcases Nat.lt_or_ge i k with q | q
          · exact HA.out i q
          · obtain rfl : i = k := by omega
            rw [hle.out]
            exact e1, bstep hb hb1⟩
        case measure => simp [intOf]; omega
      | false =>
        have e2 := Lib.hid (show (!ordOk l) = true by rw [e1]; rfl)
        have HN := Lib.hid (show os.all ordOk = false from List.all_eq_false.2 ⟨l, hmem.out, by simp [e1]⟩)
        clear e1
        go_wp2_with (go_at_call 60; with_reducible refine (HS1.out _ H).mono ?_; rintro e w1 ⟨rfl, hb1⟩; rw [e2.out])
        go_ret
        exact ⟨⟨(k : Int), rfl, by rw [HN.out]; simp, by omega, by omega⟩, bstep hb hb1⟩
    · obtain rfl : k = os.length := by omega
      have HN := Lib.hid (show os.all ordOk = true from List.all_eq_true.2 fun x hx => by
        obtain ⟨i, hi, rfl⟩ := List.getElem_of_mem hx
        rw [← getB hi]
        exact HA.out i hi)
      go_wp2
      go_ret
      exact ⟨⟨-1, rfl, by rw [HN.out]; rfl, by omega, by omega⟩, hb⟩
theorem ContainsFunc_wss (B T : Nat) (v : Value) (os : List (List Wt)) (w : World) (KO : OwnA wc 3 54 26 w B T v os) (hl : os.length ≤ 1048576) (ht : tot os ≤ 1048576) :
    Calls Try.prog 59 #[v, .func (.func 60) #[] #[]] w fun e w' => e = .returned (.bool (!(os.all ordOk))) ∧ Below w.heap.size w w' := by
  have HI := Lib.hid (fun W hW => IndexFunc_wss B T v os W (KO.kept hW) hl ht)
  have H := Below.refl w.heap.size w
  go_enter Try.func59, Try.ntmps59
  go_wp2_with (go_at_call 87; with_reducible refine (HI.out _ H).mono ?_; rintro e w1 ⟨⟨r, rfl, hr, -, -⟩, hb⟩; replace hr := Lib.hid hr)
  go_ret
  exact ⟨ret_bool hr.out, hb⟩
theorem FillSeveral_any (g0 c0 : Nat) (lc : List Cr) (B T : Nat) (v : Value) (os : List (List Wt)) (w : World) (K0 : Lies cc w g0 lc) (KO : OwnA wc 3 54 26 w B T v os) (hn : lc.length ≤ 1048576) (hl : os.length ≤ 1048576) (ht : tot os ≤ 1048576) :
    Calls Try.prog 27 #[.slice (some ⟨g0, 0, none⟩) lc.length c0, v] w fun e w' => ∃ v u, e = .returned (.tuple #[v, u, .int .i64 (sevR lc os).2.2]) ∧ OwnN cc w' w.heap.size 44 24 v (sevR lc os).1 ∧ OwnN iv w' w.heap.size 2 1 u (sevR lc os).2.1 ∧ Below w.heap.size w w' := by
  obtain ⟨g1, c1, rfl⟩ := KO.form
  have H := Below.refl w.heap.size w
  replace K0 := Lib.hid K0
  replace KO := Lib.hid KO
  have HCF := Lib.hid (fun W hW => ContainsFunc_wss B T _ os W (KO.out.kept hW) hl ht)
  have HVS := Lib.hid (fun W (hW : Below w.heap.size w W) => ValidStack_any g0 0 c0 lc W (K0.out.below hW).c (K0.out.below hW).lt (by omega))
  cases e1 : stackOk lc with
  | false =>
    have HF := Lib.hid (show sevR lc os = ([], [], 1) by simp [sevR, sevI, e1])
    have e2 := Lib.hid e1
    clear e1
    go_enter Try.func27, Try.ntmps27
    go_wp2_with (go_at_call 58; with_reducible refine (HVS.out _ H).mono ?_; rintro e w' ⟨rfl, hb⟩; rw [e2.out]; replace H := bstep H hb; clear hb)
    rw [HF.out]
    exact bodyPost_ret (results_ttt rfl) rfl ⟨_, _, rfl, OwnN.nil, OwnN.nil, H⟩
  | true =>
    cases e2 : os.all ordOk with
    | false =>
      have HF := Lib.hid (show sevR lc os = ([], [], 1) by simp [sevR, sevI, e1, e2])
      have e3 := Lib.hid e1
      have e4 := Lib.hid (show (!(os.all ordOk)) = true by rw [e2]; rfl)
      clear e1 e2
      go_enter Try.func27, Try.ntmps27
      go_wp2_with (first | (go_at_call 58; with_reducible refine (HVS.out _ H).mono ?_; rintro e w' ⟨rfl, hb⟩; rw [e3.out]; replace H := bstep H hb; clear hb) | (go_at_call 59; with_reducible refine (HCF.out _ H).mono ?_; rintro e w' ⟨rfl, hb⟩; rw [e4.out]; replace H := bstep H hb; clear hb))
      rw [HF.out]
      exact bodyPost_ret (results_ttt rfl) rfl ⟨_, _, rfl, OwnN.nil, OwnN.nil, H⟩
    | true =>
      have e3 := Lib.hid e1
      have e4 := Lib.hid (show (!(os.all ordOk)) = false by rw [e2]; rfl)
      have e5 := Lib.hid e2
      by_cases h20 : 20 < os.length
      · have HF := Lib.hid (show sevR lc os = ([], [], 3) by simp [sevR, sevI, e1, e2, h20])
        have h20i : (20 : Int) < (os.length : Int) := by omega
        clear e1 e2
        go_enter Try.func27, Try.ntmps27
        go_wp2_with (first | (go_at_call 58; with_reducible refine (HVS.out _ H).mono ?_; rintro e w' ⟨rfl, hb⟩; rw [e3.out]; replace H := bstep H hb; clear hb) | (go_at_call 59; with_reducible refine (HCF.out _ H).mono ?_; rintro e w' ⟨rfl, hb⟩; rw [e4.out]; replace H := bstep H hb; clear hb))
        rw [HF.out]
        exact bodyPost_ret (results_ttt rfl) rfl ⟨_, _, rfl, OwnN.nil, OwnN.nil, H⟩
      · have HF := Lib.hid (show sevR lc os = ((sevK lc os os.length).1, (sevK lc os os.length).2, 0) by simp [sevR, sevI, e1, e2, h20])
        have h20i : ¬ (20 : Int) < (os.length : Int) := by omega
        have h12 : lc.length ≤ 12 := by simp only [stackOk, Bool.and_eq_true, decide_eq_true_iff] at e1; exact e1.1
        have HCL := Lib.hid (fun W (hW : Below w.heap.size w W) => Clone_cr g0 0 c0 lc W (K0.out.below hW).c (by omega))
        clear e1 e2
        go_enter Try.func27, Try.ntmps27
        go_wp2_with (first | (go_at_call 58; with_reducible refine (HVS.out _ H).mono ?_; rintro e w' ⟨rfl, hb⟩; rw [e3.out]; replace H := bstep H hb; clear hb) | (go_at_call 59; with_reducible refine (HCF.out _ H).mono ?_; rintro e w' ⟨rfl, hb⟩; rw [e4.out]; replace H := bstep H hb; clear hb) | (go_at_call 61; with_reducible refine (HCL.out _ H).mono ?_; rintro e w1 ⟨v1, rfl, O1, hb⟩; replace O1 := Lib.hid (O1.down H.size); replace H := bstep H hb; clear hb))
        go_loopw [7, 8, 28] (fun s f i wr => ∃ k : Nat, k ≤ os.length ∧ i = .int .i64 k ∧ Hid (OwnS cc wr w.heap.size 44 24 s (sevK lc os k).1) ∧ Hid (OwnS iv wr w.heap.size 2 1 f (sevK lc os k).2) ∧ Below w.heap.size w wr) (fun _ _ i _ => os.length - (intOf i).toNat)
        case atStart => exact ⟨0, Nat.zero_le _, rfl, O1.out.kept ((Below.refl _ _).alloc (Nat.le_refl _) _), OwnS.lit H.size, H.alloc H.size _⟩
        case round =>
          clear O1 H HCL HCF HVS
          obtain ⟨k, hk, rfl, HS, HT, hb⟩ := hrel
          obtain ⟨wo, hwo⟩ : ∃ wo, wo = wr := ⟨_, rfl⟩
          subst hwo
          by_cases hlt : k < os.length
          · obtain ⟨hg1, g2, c2, x0, L2, -⟩ := (KO.out.kept hb).el hlt
            have HSV : Hid (sevK lc os (k + 1) = if (fewS (sevK lc os k).1 os[k]!).2 = true then ((outL (sevK lc os k).1 os[k]! (fewS (sevK lc os k).1 os[k]!).1).1, (sevK lc os k).2 ++ [(k : Int)]) else sevK lc os k) := rfl
            have hok : ordOk os[k]! = true := List.all_eq_true.1 e5.out _ (by rw [getB hlt]; exact List.getElem_mem hlt)
            have hst := sevK_ok os e3.out k
            have hsl := sevK_len lc os k
            have hfl := sevK_le lc os k
            have hlt2 : (k : Int) < (os.length : Int) := by omega
            generalize os[k]! = l at x0 L2 HSV hok
            generalize sevK lc os k = r at HSV HS HT hst hsl hfl ⊢
            obtain ⟨st, fd⟩ := r
            replace HS : Hid (OwnS cc wo w.heap.size 44 24 u7 st) := HS
            replace HT : Hid (OwnS iv wo w.heap.size 2 1 u8 fd) := HT
            replace hst : stackOk st = true := hst
            replace hsl : st.length = lc.length := hsl
            replace hfl : fd.length ≤ k := hfl
            replace HSV : Hid (sevK lc os (k + 1) = if (fewS st l).2 = true then ((outL st l (fewS st l).1).1, fd ++ [(k : Int)]) else (st, fd)) := HSV
            have h8 := ask_le (show askOk st l = true by simp [askOk, hst, hok])
            have HN := Lib.hid (ok_nonneg hok)
            have HG := Lib.hid (fewS_good (lc := st) (l := l))
            have HFL := Lib.hid (fewS_le st l)
            obtain ⟨gs, ps, hv7, LS, hBs, hgs, hcs⟩ := HS.out.lies
            subst hv7
            replace LS := Lib.hid LS
            replace L2 := Lib.hid L2
            have H := Below.refl wo.heap.size wo
            have HFI : fillI st l = if lackL (cntL st) l = [] then 0 else 6 := by simp [fillI, askOk, hst, hok]
            have HFC := Lib.hid (fun W (hW : Below wo.heap.size wo W) => fillCode_any gs ps st g2 c2 l W (LS.out.below hW) (L2.out.below hW) (by omega) (by omega))
            replace hsl := Lib.hid hsl
            replace hst := Lib.hid hst
            replace hok := Lib.hid hok
            cases hfd : (fewS st l).2 with
            | false =>
              have HE := Lib.hid (show sevK lc os (k + 1) = (st, fd) by rw [HSV.out, if_neg (by rw [hfd]; decide)])
              have HI := Lib.hid (show fillI st l = 6 by rw [HFI, if_neg (fun q => by rw [fewS_found q] at hfd; cases hfd)])
              clear HSV HFI hfd
              go_wp2_with (go_at_call 36; with_reducible refine (HFC.out _ H).mono ?_; rintro e w' ⟨rfl, hb2⟩; rw [HI.out]; replace H := bstep H hb2; clear hb2)
              go_roundw
              case rel => exact ⟨k + 1, by omega, by go_num, by rw [HE.out]; exact HS.out.kept H, by rw [HE.out]; exact HT.out.kept H, bstep hb H⟩
              case measure => simp [intOf]; omega
            | true =>
              have hlk := fewS_none hfd
              have HE := Lib.hid (show sevK lc os (k + 1) = ((outL st l (fewS st l).1).1, fd ++ [(k : Int)]) by rw [HSV.out, if_pos hfd])
              have HI := Lib.hid (show fillI st l = 0 by rw [HFI, if_pos hlk])
              have HFW := fun W (hW : Below wo.heap.size wo W) => fewest_any (some ⟨gs, 0, none⟩) ps st g2 0 c2 l W (LS.out.below hW).rd (L2.out.below hW).c (L2.out.below hW).lt h8.1 h8.2 hlk
              clear HSV HFI hfd hlk
              generalize (fewS st l).1 = ks at HE HFW HG HFL
              have HTO := Lib.hid (fun A c W (hW : Below wo.heap.size wo W) hr => takeOut_any gs ps st g2 0 c2 l A c ks W (LS.out.below hW) (L2.out.below hW).c (L2.out.below hW).lt hr HG.out.inn h8.1 h8.2 HN.out (by have := HFL.out; omega))
              replace HFW := Lib.hid HFW
              go_upto_region 11 with (first | (go_at_call 36; with_reducible refine (HFC.out _ H).mono ?_; rintro e w' ⟨rfl, hb2⟩; rw [HI.out]; replace H := bstep H hb2; clear hb2) | (go_at_call 37; with_reducible refine (HFW.out _ H).mono ?_; rintro e w2 ⟨v2, rfl, O2, hb2⟩; obtain ⟨A2, p2, rfl, -, hrd⟩ := O2.rd; rw [fl_iv] at hrd; replace hrd := Lib.hid hrd; replace H := bstep H hb2; clear hb2 O2) | (go_at_call 54; with_reducible refine (HTO.out _ _ _ H hrd.out).mono ?_; rintro e w3 ⟨v3, u3, rfl, O3, P3, hb2⟩; replace O3 := Lib.hid (O3.down (Nat.le_trans hb.size H.size)); replace H := bstep H hb2; clear hb2 P3))
              have HT3 := Lib.hid (HT.out.kept H)
              have hb3 := bstep hb H
              have hfn : fd.length ≤ 1000 := by omega
              go_wp2_with (at_builtin; refine wp_app_num3 w.heap.size rfl _ _ rfl _ fd (k : Int) rfl _ rfl ?hg ?HO ?hB ?hn ?_; (case hg => simp); (case HO => exact HT3.out); (case hB => exact hb3.size); (case hn => omega); intro v5 w5 hown hb5)
              go_roundw
              case rel => exact ⟨k + 1, by omega, by go_num, by rw [HE.out]; exact ⟨O3.out.n.but hb5.2.1 (apart_types HT3.out.n O3.out.n (by decide)), O3.out.2⟩, by rw [HE.out]; exact hown, hb3.trans hb5.1⟩
              case measure => simp [intOf]; omega
          · obtain rfl : k = os.length := by omega
            go_wp2
            rw [HF.out]
            exact bodyPost_ret (results_ttt rfl) rfl ⟨_, _, rfl, HS.out.n, HT.out.n, hb⟩
def askT (lc : List Cr) (os : List (List Wt)) (k : Nat) : Int := if (stackOk lc && (os.take k).all ordOk) = true then 0 else 1
theorem ordOk_nil : ordOk [] = true := by simp [ordOk, okK]
theorem take_all {os : List (List Wt)} {k : Nat} (h : k < os.length) : (os.take (k + 1)).all ordOk = ((os.take k).all ordOk && ordOk os[k]!) := by
  rw [List.take_succ_eq_append_getElem h, List.all_append, getB h]
  simp
theorem take_all_no {os : List (List Wt)} {k : Nat} (h : (os.take k).all ordOk = false) : os.all ordOk = false := by
  rw [← Bool.not_eq_true, List.all_eq_true] at h ⊢
  exact fun q => h fun x hx => q x (List.mem_of_mem_take hx)
theorem sFillSeveral_any (g0 c0 : Nat) (lc : List Cr) (B T : Nat) (v : Value) (os : List (List Wt)) (w : World) (K0 : Lies cc w g0 lc) (KO : OwnA wc 3 54 26 w B T v os) (hn : lc.length ≤ 1048576) (hl : os.length ≤ 1048576) (ht : tot os ≤ 1048576) :
    Calls Try.prog 29 #[.slice (some ⟨g0, 0, none⟩) lc.length c0, v] w fun e w' => ∃ v u, e = .returned (.tuple #[v, u, .int .i64 (sevR lc os).2.2]) ∧ OwnN cc w' w.heap.size 44 24 v (sevR lc os).1 ∧ OwnN iv w' w.heap.size 2 1 u (sevR lc os).2.1 ∧ Below w.heap.size w w' := by
  obtain ⟨g1, c1, rfl⟩ := KO.form
  have H := Below.refl w.heap.size w
  replace K0 := Lib.hid K0
  replace KO := Lib.hid KO
  have HA0 : Hid (∀ W b, Below w.heap.size w W → b < W.heap.size → Calls Try.prog 62 #[.slice (some ⟨g0, 0, none⟩) lc.length c0, .slice (some ⟨b, 0, none⟩) 0 0] W fun e w' => e = .returned (.int .i64 (askT lc os 0)) ∧ Below W.heap.size W w') := fun W b hW hb => by
    have := l02Asked_any g0 c0 lc b 0 0 [] W (K0.out.below hW) (fun i v h => by simp [fl] at h) hb hn (by simp)
    rw [show askI lc [] = askT lc os 0 by simp [askI, askOk, ordOk_nil, askT]] at this
    exact this
  go_enter Try.func29, Try.ntmps29
  go_wp2_with (go_at_call 62; with_reducible refine (HA0.out _ _ (H.alloc H.size _) (by simp)).mono ?_; rintro e w' ⟨rfl, hb⟩; replace H := bstep (H.alloc H.size _) hb; clear hb)
  go_loopw [7, 8] (fun cd i wr => ∃ k : Nat, k ≤ os.length ∧ i = .int .i64 k ∧ cd = .int .i64 (askT lc os k) ∧ Hid (Below w.heap.size w wr)) (fun _ i _ => os.length - (intOf i).toNat)
  case atStart => exact ⟨0, Nat.zero_le _, rfl, rfl, H⟩
  case round =>
    clear H HA0
    obtain ⟨k, hk, rfl, rfl, HQ⟩ := hrel
    cases hc : (stackOk lc && (os.take k).all ordOk) with
    | false =>
      have h1 : askT lc os k = 1 := by simp [askT, hc]
      have HF := Lib.hid (show sevR lc os = ([], [], 1) by
        have hno : (stackOk lc && os.all ordOk) = false := by
          rw [Bool.and_eq_false_iff] at hc ⊢
          exact hc.imp id take_all_no
        simp [sevR, sevI, hno])
      rw [h1]
      clear hc h1
      have H := HQ.out
      by_cases hlt : k < os.length
      · have hlt2 : (k : Int) < (os.length : Int) := by omega
        go_wp2
        rw [HF.out]
        have o1 := ((OwnS.lit (f := cc) (e := 44) (size := 24) H.size).n).below ((Below.refl _ _).alloc (Nat.le_refl _) (.cells #[] 2))
        have o2 := (OwnS.lit (f := iv) (e := 2) (size := 1) (H.alloc H.size (.cells #[] 44)).size).n
        rw [World.size_alloc] at o2
        have hz := (H.alloc H.size (.cells #[] 44)).alloc (H.alloc H.size (.cells #[] 44)).size (.cells #[] 2)
        exact bodyPost_ret (results_ttt rfl) rfl ⟨_, _, rfl, o1, o2, hz⟩
      · have hlt2 : ¬ (k : Int) < (os.length : Int) := by omega
        go_wp2
        rw [HF.out]
        have o1 := ((OwnS.lit (f := cc) (e := 44) (size := 24) H.size).n).below ((Below.refl _ _).alloc (Nat.le_refl _) (.cells #[] 2))
        have o2 := (OwnS.lit (f := iv) (e := 2) (size := 1) (H.alloc H.size (.cells #[] 44)).size).n
        rw [World.size_alloc] at o2
        have hz := (H.alloc H.size (.cells #[] 44)).alloc (H.alloc H.size (.cells #[] 44)).size (.cells #[] 2)
        exact bodyPost_ret (results_ttt rfl) rfl ⟨_, _, rfl, o1, o2, hz⟩
    | true =>
      have h1 : askT lc os k = 0 := by simp [askT, hc]
      rw [Bool.and_eq_true] at hc
      have e3 := Lib.hid hc.1
      by_cases hlt : k < os.length
      · obtain ⟨hg1, g2, c2, x0, L2, -⟩ := (KO.out.kept HQ.out).el hlt
        have hel := tot_el hlt
        have HNX : Hid (askT lc os (k + 1) = askI lc os[k]!) := by
          show askT lc os (k + 1) = askI lc os[k]!
          unfold askT askI askOk
          rw [take_all hlt, hc.1, hc.2]
          simp
        have hlt2 : (k : Int) < (os.length : Int) := by omega
        generalize os[k]! = l at x0 L2 hel HNX
        have HA := Lib.hid (fun W hW => l02Asked_any g0 c0 lc g2 0 c2 l W ((K0.out.below HQ.out).below hW) (L2.below hW).c (L2.below hW).lt hn (by omega))
        have H := Below.refl wr.heap.size wr
        clear hc L2
        rw [h1]
        clear h1
        go_wp2_with (go_at_call 62; with_reducible refine (HA.out _ H).mono ?_; rintro e w' ⟨rfl, hb⟩; rw [← HNX.out]; replace H := bstep H hb; clear hb)
        go_roundw
        case rel => exact ⟨k + 1, by omega, by go_num, rfl, bstep HQ.out H⟩
        case measure => simp [intOf]; omega
      · obtain rfl : k = os.length := by omega
        have hal : os.all ordOk = true := by
          have := hc.2
          rwa [List.take_length] at this
        have e5 := Lib.hid hal
        have h12 : lc.length ≤ 12 := by have := hc.1; simp only [stackOk, Bool.and_eq_true, decide_eq_true_iff] at this; exact this.1
        have hc1 := hc.1
        have H := HQ.out
        by_cases h20 : 20 < os.length
        · have HF := Lib.hid (show sevR lc os = ([], [], 3) by simp [sevR, sevI, hc1, hal, h20])
          have h20i : (20 : Int) < (os.length : Int) := by omega
          clear hc hc1 hal
          rw [h1]
          clear h1
          go_wp2
          rw [HF.out]
          have o1 := ((OwnS.lit (f := cc) (e := 44) (size := 24) H.size).n).below ((Below.refl _ _).alloc (Nat.le_refl _) (.cells #[] 2))
          have o2 := (OwnS.lit (f := iv) (e := 2) (size := 1) (H.alloc H.size (.cells #[] 44)).size).n
          rw [World.size_alloc] at o2
          have hz := (H.alloc H.size (.cells #[] 44)).alloc (H.alloc H.size (.cells #[] 44)).size (.cells #[] 2)
          exact bodyPost_ret (results_ttt rfl) rfl ⟨_, _, rfl, o1, o2, hz⟩
        · have HF := Lib.hid (show sevR lc os = ((sevK lc os os.length).1, (sevK lc os os.length).2, 0) by simp [sevR, sevI, hc1, hal, h20])
          have h20i : ¬ (20 : Int) < (os.length : Int) := by omega
          have KW := Lib.hid (K0.out.below H)
          clear hc hc1 hal
          rw [h1]
          clear h1
          go_upto_region 11 with (at_builtin; refine wp_app_el (f := cc) wr.heap.size rfl _ _ 24 44 rfl (.agg (cc zC).toArray) 24 48 Try.underlying24 infoCrS (cc_size2 zC zC) (by decide) cc_length (fun c u hu => cc_one c u (by simpa using hu)) _ [] rfl g0 c0 lc rfl ?hO ?hY ?hB ?hn (by decide) ?_; (case hO => exact OwnS.lit (Nat.le_refl _)); (case hY => exact KW.out.below ((Below.refl _ wr).alloc (Nat.le_refl _) _)); (case hB => simp); (case hn => simp; omega); intro v1 w1 O1 hb0)
          rw [List.nil_append] at O1
          replace O1 := Lib.hid (O1.down H.size)
          have hb1 := bstep H (((Below.refl wr.heap.size wr).alloc (Nat.le_refl _) _).trans hb0.1)
          clear hb0 KW H
          go_wp2
          go_loopw [9, 10, 11] (fun s f i wr => ∃ k : Nat, k ≤ os.length ∧ i = .int .i64 k ∧ Hid (OwnS cc wr w.heap.size 44 24 s (sevK lc os k).1) ∧ Hid (OwnS iv wr w.heap.size 2 1 f (sevK lc os k).2) ∧ Below w.heap.size w wr) (fun _ _ i _ => os.length - (intOf i).toNat)
          case atStart => exact ⟨0, Nat.zero_le _, rfl, O1.out.kept ((Below.refl _ _).alloc (Nat.le_refl _) _), OwnS.lit hb1.size, hb1.alloc hb1.size _⟩
          case round =>
            clear O1 hb1 HQ
            obtain ⟨k, hk, rfl, HS, HT, hb⟩ := hrel
            obtain ⟨wo, hwo⟩ : ∃ wo, wo = wr := ⟨_, rfl⟩
            subst hwo
            by_cases hlt : k < os.length
            · obtain ⟨hg1, g2, c2, x0, L2, -⟩ := (KO.out.kept hb).el hlt
              have HSV : Hid (sevK lc os (k + 1) = if (fewS (sevK lc os k).1 os[k]!).2 = true then ((outL (sevK lc os k).1 os[k]! (fewS (sevK lc os k).1 os[k]!).1).1, (sevK lc os k).2 ++ [(k : Int)]) else sevK lc os k) := rfl
              have hok : ordOk os[k]! = true := List.all_eq_true.1 e5.out _ (by rw [getB hlt]; exact List.getElem_mem hlt)
              have hst := sevK_ok os e3.out k
              have hsl := sevK_len lc os k
              have hfl := sevK_le lc os k
              have hlt2 : (k : Int) < (os.length : Int) := by omega
              generalize os[k]! = l at x0 L2 HSV hok
              generalize sevK lc os k = r at HSV HS HT hst hsl hfl ⊢
              obtain ⟨st, fd⟩ := r
              replace HS : Hid (OwnS cc wo w.heap.size 44 24 u9 st) := HS
              replace HT : Hid (OwnS iv wo w.heap.size 2 1 u10 fd) := HT
              replace hst : stackOk st = true := hst
              replace hsl : st.length = lc.length := hsl
              replace hfl : fd.length ≤ k := hfl
              replace HSV : Hid (sevK lc os (k + 1) = if (fewS st l).2 = true then ((outL st l (fewS st l).1).1, fd ++ [(k : Int)]) else (st, fd)) := HSV
              have h8 := ask_le (show askOk st l = true by simp [askOk, hst, hok])
              have HN := Lib.hid (ok_nonneg hok)
              have HG := Lib.hid (fewS_good (lc := st) (l := l))
              have HFL := Lib.hid (fewS_le st l)
              obtain ⟨gs, ps, hv7, LS, hBs, hgs, hcs⟩ := HS.out.lies
              subst hv7
              replace LS := Lib.hid LS
              replace L2 := Lib.hid L2
              have H := Below.refl wo.heap.size wo
              have HFW := fun W (hW : Below wo.heap.size wo W) => l02Fewest_any (some ⟨gs, 0, none⟩) ps st g2 0 c2 l W (LS.out.below hW).rd (L2.out.below hW).c (L2.out.below hW).lt h8.1 h8.2
              replace hsl := Lib.hid hsl
              replace hst := Lib.hid hst
              replace hok := Lib.hid hok
              generalize (fewS st l).1 = ks at HSV HFW HG HFL
              generalize (fewS st l).2 = fdb at HSV HFW
              have HTO := Lib.hid (fun A c W (hW : Below wo.heap.size wo W) hr => l02Out_any gs ps st g2 0 c2 l A c ks W (LS.out.below hW) (L2.out.below hW).c (L2.out.below hW).lt hr HG.out.inn h8.1 h8.2 HN.out (by have := HFL.out; omega))
              replace HFW := Lib.hid HFW
              cases fdb with
              | false =>
                have HE := Lib.hid (show sevK lc os (k + 1) = (st, fd) by rw [HSV.out, if_neg (by decide)])
                clear HSV
                go_wp2_with (go_at_call 39; with_reducible refine (HFW.out _ H).mono ?_; rintro e w2 ⟨v2, rfl, O2, hb2⟩; obtain ⟨g5, c5, rfl, L5, -⟩ := O2.lies; replace H := bstep H hb2; clear hb2 O2)
                go_roundw
                case rel => exact ⟨k + 1, by omega, by go_num, by rw [HE.out]; exact HS.out.kept H, by rw [HE.out]; exact HT.out.kept H, bstep hb H⟩
                case measure => simp [intOf]; omega
              | true =>
                have HE := Lib.hid (show sevK lc os (k + 1) = ((outL st l ks).1, fd ++ [(k : Int)]) by rw [HSV.out, if_pos rfl])
                clear HSV
                go_upto_region 18 with (first | (go_at_call 39; with_reducible refine (HFW.out _ H).mono ?_; rintro e w2 ⟨v2, rfl, O2, hb2⟩; obtain ⟨g5, c5, rfl, L5, -⟩ := O2.lies; replace L5 := Lib.hid L5; replace H := bstep H hb2; clear hb2 O2; have x1 := (H.cell hg1).trans x0) | (go_at_call 55; with_reducible refine (HTO.out _ _ _ H (by rw [← fl_iv]; exact L5.out.rd)).mono ?_; rintro e w3 ⟨v3, u3, rfl, O3, P3, hb2⟩; replace O3 := Lib.hid (O3.down (Nat.le_trans hb.size H.size)); replace H := bstep H hb2; clear hb2 P3))
                have HT3 := Lib.hid (HT.out.kept H)
                have hb3 := bstep hb H
                have hfn : fd.length ≤ 1000 := by omega
                go_wp2_with (at_builtin; refine wp_app_num3 w.heap.size rfl _ _ rfl _ fd (k : Int) rfl _ rfl ?hg ?HO ?hB ?hn ?_; (case hg => simp); (case HO => exact HT3.out); (case hB => exact hb3.size); (case hn => omega); intro v5 w5 hown hb5)
                go_roundw
                case rel => exact ⟨k + 1, by omega, by go_num, by rw [HE.out]; exact ⟨O3.out.n.but hb5.2.1 (apart_types HT3.out.n O3.out.n (by decide)), O3.out.2⟩, by rw [HE.out]; exact hown, hb3.trans hb5.1⟩
                case measure => simp [intOf]; omega
            · obtain rfl : k = os.length := by omega
              go_wp2
              rw [HF.out]
              exact bodyPost_ret (results_ttt rfl) rfl ⟨_, _, rfl, HS.out.n, HT.out.n, hb⟩
end Go.Proofs.Ytbngpcghognojaa
