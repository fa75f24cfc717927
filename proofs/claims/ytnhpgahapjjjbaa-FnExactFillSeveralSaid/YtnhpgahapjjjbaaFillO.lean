/- Contracts of FillOrder. -/
import Derived.Test.YtnhpgahapjjjbaaOutL
import Derived.Test.YtnhpgahapjjjbaaBound
namespace Go.Proofs.Ytnhpgahapjjjbaa
open Go.RowKit
set_option linter.unusedVariables false
set_option linter.unusedSimpArgs false
set_option maxRecDepth 100000
set_option maxHeartbeats 1000000
attribute [local go_sem] Oper.qB
def fillOR (lc : List Cr) (l : List Wt) : List Cr × List Cr × Int := if fillI lc l = 0 then ((outL lc l (fewS lc l).1).1, packL (botsL l), 0) else ([], [], fillI lc l)
theorem outL_len (lc : List Cr) (l : List Wt) (ks : List Int) : (outL lc l ks).1.length = lc.length := tkW_len lc l ks l.length
theorem fillOR_le (lc : List Cr) (l : List Wt) : (fillOR lc l).1.length ≤ 30000 := by
  unfold fillOR
  split
  · rename_i h
    rcases fillI_cases lc l with ⟨_, h1, h2⟩ | e | e
    · have := (ask_le h1).1
      show (outL lc l _).1.length ≤ 30000
      rw [outL_len]
      omega
    · rw [e] at h; cases h
    · rw [e] at h; cases h
  · simp
theorem fillOR_le2 (lc : List Cr) (l : List Wt) : (fillOR lc l).2.1.length ≤ 30000 := by
  unfold fillOR
  split
  · rename_i h
    rcases fillI_cases lc l with ⟨_, h1, h2⟩ | e | e
    · have := (ask_le h1).2
      have := botsL_le l
      show (packL (botsL l)).length ≤ 30000
      rw [packL, packK_length]
      omega
    · rw [e] at h; cases h
    · rw [e] at h; cases h
  · simp
theorem FillOrder_any (g0 c0 : Nat) (lc : List Cr) (g1 c1 : Nat) (l : List Wt) (w : World) (K0 : Lies cc w g0 lc) (K1 : Lies wc w g1 l) (hn : lc.length ≤ 1048576) (hl : l.length ≤ 1048576) :
    Calls Try.prog 46 #[.slice (some ⟨g0, 0, none⟩) lc.length c0, .slice (some ⟨g1, 0, none⟩) l.length c1] w fun e w' => ∃ v u, e = .returned (.tuple #[v, u, .int .i64 (fillOR lc l).2.2]) ∧ OwnN cc w' w.heap.size 28 24 v (fillOR lc l).1 ∧ OwnN cc w' w.heap.size 28 24 u (fillOR lc l).2.1 ∧ Below w.heap.size w w' := by
  have H := Below.refl w.heap.size w
  replace K0 := Lib.hid K0
  replace K1 := Lib.hid K1
  rcases fillI_cases lc l with ⟨e, ha, hf⟩ | e | e
  rotate_left
  all_goals try (
    have HF := Lib.hid (show fillOR lc l = ([], [], fillI lc l) by rw [fillOR, if_neg (by rw [e]; decide)])
    have HI := Lib.hid e
    rw [HI.out] at HF
    clear e
    go_enter Try.func46, Try.ntmps46
    go_wp2_with (go_at_call 78; with_reducible refine (fillCode_any g0 c0 lc g1 c1 l _ (K0.out.below H) (K1.out.below H) hn hl).mono ?_; rintro e w' ⟨rfl, hb⟩; rw [HI.out]; replace H := bstep H hb; clear hb)
    rw [HF.out]
    exact bodyPost_ret (results_ttt rfl) rfl ⟨_, _, rfl, OwnN.nil, OwnN.nil, H⟩)
  have HF := Lib.hid (show fillOR lc l = ((outL lc l (fewS lc l).1).1, packL (botsL l), 0) by rw [fillOR, if_pos e])
  have HI := Lib.hid e
  have HZ := Lib.hid hf
  have h8 := ask_le ha
  have hok : ordOk l = true := by
    unfold askOk at ha
    rw [Bool.and_eq_true] at ha
    exact ha.2
  have HG := Lib.hid (fewS_good (lc := lc) (l := l))
  have HN := Lib.hid (ok_nonneg hok)
  have HFL := Lib.hid (fewS_le lc l)
  have HFW := fun A W hr hC hb => fewest_any A c0 lc g1 0 c1 l W hr hC hb h8.1 h8.2 HZ.out
  clear e ha hf hok
  generalize (fewS lc l).1 = ks at HF HG HFL HFW
  have HFW2 := Lib.hid HFW
  clear HFW
  have HTO := Lib.hid (fun A c W k0 hC hb1 h2 => takeOut_any g0 c0 lc g1 0 c1 l A c ks W k0 hC hb1 h2 HG.out.inn h8.1 h8.2 HN.out (by have := HFL.out; omega))
  go_enter Try.func46, Try.ntmps46
  go_wp2_with (first | (go_at_call 78; with_reducible refine (fillCode_any g0 c0 lc g1 c1 l _ (K0.out.below H) (K1.out.below H) hn hl).mono ?_; rintro e w' ⟨rfl, hb⟩; rw [HI.out]; replace H := bstep H hb; clear hb) | (go_at_call 79; with_reducible refine (HFW2.out _ _ (K0.out.below H).rd (K1.out.below H).c (K1.out.below H).lt).mono ?_; rintro e w2 ⟨v2, rfl, O2, hb⟩; obtain ⟨A2, c2, rfl, -, hrd⟩ := O2.rd; rw [fl_iv] at hrd; replace hrd := Lib.hid hrd; replace H := bstep H hb; clear hb O2) | (go_at_call 91; with_reducible refine (HTO.out _ _ _ (K0.out.below H) (K1.out.below H).c (K1.out.below H).lt hrd.out).mono ?_; rintro e w3 ⟨v3, u3, rfl, O3, P3, hb⟩; replace O3 := Lib.hid (O3.down H.size); replace H := bstep H hb; clear hb P3) | (go_at_call 95; with_reducible refine (casesFor_any g1 0 c1 l _ (K1.out.below H).c (K1.out.below H).lt h8.2 HN.out).mono ?_; rintro e w4 ⟨v4, rfl, O4, hb⟩; replace O4 := O4.down H.size; have O5 := O3.out.kept hb; replace H := bstep H hb; clear hb))
  rw [HF.out]
  exact bodyPost_ret (results_ttt rfl) rfl ⟨_, _, rfl, O5.n, O4.n, H⟩
theorem sFillOrder_any (g0 c0 : Nat) (lc : List Cr) (g1 c1 : Nat) (l : List Wt) (w : World) (K0 : Lies cc w g0 lc) (K1 : Lies wc w g1 l) (hn : lc.length ≤ 1048576) (hl : l.length ≤ 1048576) :
    Calls Try.prog 45 #[.slice (some ⟨g0, 0, none⟩) lc.length c0, .slice (some ⟨g1, 0, none⟩) l.length c1] w fun e w' => ∃ v u, e = .returned (.tuple #[v, u, .int .i64 (fillOR lc l).2.2]) ∧ OwnN cc w' w.heap.size 28 24 v (fillOR lc l).1 ∧ OwnN cc w' w.heap.size 28 24 u (fillOR lc l).2.1 ∧ Below w.heap.size w w' := by
  have H := Below.refl w.heap.size w
  replace K0 := Lib.hid K0
  replace K1 := Lib.hid K1
  rcases fillI_cases lc l with ⟨e, ha, hf⟩ | e | e
  rotate_left
  all_goals try (
    have HF := Lib.hid (show fillOR lc l = ([], [], fillI lc l) by rw [fillOR, if_neg (by rw [e]; decide)])
    have HI := Lib.hid e
    rw [HI.out] at HF
    clear e
    go_enter Try.func45, Try.ntmps45
    go_wp2_with (go_at_call 74; with_reducible refine (l02Filled_any g0 c0 lc g1 c1 l _ (K0.out.below H) (K1.out.below H) hn hl).mono ?_; rintro e w' ⟨rfl, hb⟩; rw [HI.out]; replace H := bstep H hb; clear hb)
    rw [HF.out]
    have o1 := ((OwnS.lit (f := cc) (e := 28) (size := 24) H.size).n).below ((Below.refl _ _).alloc (Nat.le_refl _) (.cells #[] 28))
    have o2 := (OwnS.lit (f := cc) (e := 28) (size := 24) (H.alloc H.size (.cells #[] 28)).size).n
    rw [World.size_alloc] at o2
    have hz := (H.alloc H.size (.cells #[] 28)).alloc (H.alloc H.size (.cells #[] 28)).size (.cells #[] 28)
    exact bodyPost_ret (results_ttt rfl) rfl ⟨_, _, rfl, o1, o2, hz⟩)
  have HF := Lib.hid (show fillOR lc l = ((outL lc l (fewS lc l).1).1, packL (botsL l), 0) by rw [fillOR, if_pos e])
  have HI := Lib.hid e
  have h8 := ask_le ha
  have hok : ordOk l = true := by
    unfold askOk at ha
    rw [Bool.and_eq_true] at ha
    exact ha.2
  have HG := Lib.hid (fewS_good (lc := lc) (l := l))
  have HN := Lib.hid (ok_nonneg hok)
  have HFL := Lib.hid (fewS_le lc l)
  have HOB := Lib.hid (outL_bots hok HG.out (fewS_ok (fewS_found hf)))
  have HFW := fun A W hr hC hb => l02Fewest_any A c0 lc g1 0 c1 l W hr hC hb h8.1 h8.2
  clear e ha hf hok
  generalize (fewS lc l).1 = ks at HF HG HFL HFW HOB
  have HFW2 := Lib.hid HFW
  clear HFW
  have HTO := Lib.hid (fun A c W k0 hC hb1 h2 => l02Out_any g0 c0 lc g1 0 c1 l A c ks W k0 hC hb1 h2 HG.out.inn h8.1 h8.2 HN.out (by have := HFL.out; omega))
  have hbl := botsL_le l
  have HPK := Lib.hid (fun A c W h => l01Packed_any A c (botsL l) W h (by omega))
  clear hbl
  go_enter Try.func45, Try.ntmps45
  go_wp2_with (first | (go_at_call 74; with_reducible refine (l02Filled_any g0 c0 lc g1 c1 l _ (K0.out.below H) (K1.out.below H) hn hl).mono ?_; rintro e w' ⟨rfl, hb⟩; rw [HI.out]; replace H := bstep H hb; clear hb) | (go_at_call 75; with_reducible refine (HFW2.out _ _ (K0.out.below H).rd (K1.out.below H).c (K1.out.below H).lt).mono ?_; rintro e w2 ⟨v2, rfl, O2, hb⟩; obtain ⟨A2, c2, rfl, -, hrd⟩ := O2.n.rd; rw [fl_iv] at hrd; replace hrd := Lib.hid hrd; replace H := bstep H hb; clear hb O2) | (go_at_call 89; with_reducible refine (HTO.out _ _ _ (K0.out.below H) (K1.out.below H).c (K1.out.below H).lt hrd.out).mono ?_; rintro e w3 ⟨v3, u3, rfl, O3, P3, hb⟩; replace O3 := Lib.hid (O3.down H.size); rw [HOB.out] at P3; obtain ⟨g5, c5, rfl, KP, -⟩ := P3.lies; replace KP := Lib.hid KP; replace H := bstep H hb; clear hb P3) | (go_at_call 94; with_reducible refine (HPK.out _ _ _ KP.out.rd).mono ?_; rintro e w4 ⟨v4, rfl, O4, hb⟩; replace O4 := O4.down H.size; have O5 := O3.out.kept hb; replace H := bstep H hb; clear hb))
  rw [HF.out]
  exact bodyPost_ret (results_ttt rfl) rfl ⟨_, _, rfl, O5.n, O4.n, H⟩
end Go.Proofs.Ytnhpgahapjjjbaa
