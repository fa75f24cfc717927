/- Texts of the claim, joined (23 of 22): LOr1. -/
import Derived.Test.YtbngpcghognojaaGreatDoorBO22
namespace Go.Proofs.YtbngpcghognojaaGreatDoor
open Go Go.RowKit
set_option linter.unusedVariables false
set_option linter.unusedSimpArgs false
set_option maxRecDepth 100000
set_option maxHeartbeats 60000000
attribute [local go_sem] Oper.qB Oper.qK
attribute [local go_sem high] eqB eqC
theorem FnOrders_run1 (w : World) (ht : Tab w) (h2 : ErrV w (Tryz.lx117_ren.g 15)) (h3 : ErrV w (Tryz.lx117_ren.g 16)) (hm : ∃ m, w.cell? ⟨Tryz.lx64_ren.g 1, 0, none⟩ = some (.int .i64 m)) (A0 : Option Addr) (c0 : Nat) (l0 : List Int) (hr0 : RdA w A0 (u8v l0)) (hb0 : ∀ x ∈ l0, 0 ≤ x ∧ x ≤ 255) (A1 : Option Addr) (c1 : Nat) (l1 : List Int) (hr1 : RdA w A1 (u8v l1)) (hb1 : ∀ x ∈ l1, 0 ≤ x ∧ x ≤ 255) (hL : l0.length ≤ 3000 ∧ l1.length ≤ 3000) (hc : (joinR (ordF l1 (0, 0)) (ordF l0 (0, 0))).2 = 0) :
    Calls Tryz.prog 4 #[.slice A0 l0.length c0, .slice A1 l1.length c1] w fun e w' => e = .returned (.bool true) ∧ Below w.heap.size w w' := by
  have HL := Lib.hid (a2Long_no A0 A1 c0 c1 _ _ w hL.1 hL.2)
  have hst := Lib.hid (stackF_stk l0)
  have h5 := stackF_len l0
  have KST := Lib.hid (A2Stack_any A0 c0 l0 w hr0 hb0 (by omega))
  have KOA : Hid (∀ W, Below w.heap.size w W → Calls Tryz.prog 36 #[.slice A1 l1.length c1] W fun e w' => ∃ v, e = .returned v ∧ OwnS wc w' W.heap.size 81 3 v (ordF l1 (0, 0)) ∧ Below W.heap.size W w') := fun W hW => A2Order_any A1 c1 l1 W (hr1.below hW) hb1 (by omega)
  have KOB : Hid (∀ W, Below w.heap.size w W → Calls Tryz.prog 36 #[.slice A0 l0.length c0] W fun e w' => ∃ v, e = .returned v ∧ OwnS wc w' W.heap.size 81 3 v (ordF l0 (0, 0)) ∧ Below W.heap.size W w') := fun W hW => A2Order_any A0 c0 l0 W (hr0.below hW) hb0 (by omega)
  have KAT : Hid (∀ W, Below w.heap.size w W → Calls Tryz.prog 37 #[.slice A1 l1.length c1, .int .i64 0, .int .i64 6] W fun e w' => (∃ n : Int, e = .returned (.int .i64 n) ∧ 0 ≤ n ∧ n ≤ 5) ∧ Below W.heap.size W w') := fun W hW => a2At_any A1 c1 l1 W (hr1.below hW) hb1 (by omega)
  have hao := Lib.hid (ordF_ok l1 (0, 0))
  have hbo := Lib.hid (ordF_ok l0 (0, 0))
  have ha4 := ordF_len l1 (0, 0)
  have hb4 := ordF_len l0 (0, 0)
  obtain ⟨m, hm⟩ := hm
  have KRD : Hid (∀ W, Below w.heap.size w W → Calls Tryz.prog 38 #[.string ⟨(ordT (ordF l1 (0, 0))).toArray⟩] W fun e w' => ∃ v, e = .returned (.tuple #[v, .int .i64 0]) ∧ OwnN wc w' W.heap.size 81 3 v (ordF l1 (0, 0)) ∧ Below W.heap.size W w') := fun W hW => ReadOrder_ok _ hao.out m W (ht.below hW) (h2.below hW) (h3.below hW) ((hW.cell (World.block_lt_of_cell? _ _ hm)).trans hm)
  have KOT : Hid (∀ ga qa W, Below w.heap.size w W → Lies wc W ga (ordF l1 (0, 0)) → Calls Tryz.prog 39 #[.slice (some ⟨ga, 0, none⟩) (ordF l1 (0, 0)).length qa] W fun e w' => e = .returned (.string ⟨(ordT (ordF l1 (0, 0))).toArray⟩) ∧ Below W.heap.size W w') := fun ga qa W hW K => OrderText_ok ga qa _ W K hao.out (ht.below hW)
  clear hr0 hr1 hb0 hb1 hL h2 h3 ht hm
  generalize ordF l1 (0, 0) = a at *
  generalize ordF l0 (0, 0) = b at *
  generalize stackF l0 = lc at *
  obtain ⟨d, c2, hj, hd, hcase⟩ : ∃ d c2, joinR a b = (d, c2) ∧ d.length ≤ 8 ∧ ((c2 = 0 ∧ ordOk d = true ∧ sumW d = sumW a + sumW b) ∨ c2 = 3) := by
    have h8 := joinR_le a b
    rcases joinR_is hao.out hbo.out with ⟨q1, q2, q3⟩ | q
    · rw [q2] at h8
      exact ⟨_, _, q2, h8, .inl ⟨rfl, q1, q3⟩⟩
    · exact ⟨_, _, q, by simp, .inr rfl⟩
  have KJ : Hid (∀ ga qa gb qb W, Lies wc W ga a → Lies wc W gb b → Calls Tryz.prog 40 #[.slice (some ⟨ga, 0, none⟩) a.length qa, .slice (some ⟨gb, 0, none⟩) b.length qb] W fun e w' => ∃ v, e = .returned (.tuple #[v, .int .i64 c2]) ∧ OwnN wc w' W.heap.size 81 3 v d ∧ Below W.heap.size W w') := fun ga qa gb qb W k1 k2 => by
    have := JoinOrders_any ga qa a gb qb b W k1 k2 (by omega) (by omega)
    rwa [hj] at this
  have KSJ : Hid (∀ ga qa gb qb W, Lies wc W ga a → Lies wc W gb b → Calls Tryz.prog 41 #[.slice (some ⟨ga, 0, none⟩) a.length qa, .slice (some ⟨gb, 0, none⟩) b.length qb] W fun e w' => ∃ v, e = .returned (.tuple #[v, .int .i64 c2]) ∧ OwnN wc w' W.heap.size 81 3 v d ∧ Below W.heap.size W w') := fun ga qa gb qb W k1 k2 => by
    have := sJoinOrders_any ga qa a gb qb b W k1 k2 (by omega) (by omega)
    rwa [hj] at this
  rw [hj] at hc
  replace hc := Lib.hid (show c2 = 0 from hc)
  replace hcase := Lib.hid hcase
  clear hj
  have KWA : Hid (∀ ga qa W, Lies wc W ga a → Calls Tryz.prog 42 #[.slice (some ⟨ga, 0, none⟩) a.length qa] W fun e w' => e = .returned (.tuple #[.int .i64 (sumW a), .int .i64 0]) ∧ Below W.heap.size W w') := fun ga qa W k => Wanted_ok ga qa a W k hao.out
  have KWB : Hid (∀ ga qa W, Lies wc W ga b → Calls Tryz.prog 42 #[.slice (some ⟨ga, 0, none⟩) b.length qa] W fun e w' => e = .returned (.tuple #[.int .i64 (sumW b), .int .i64 0]) ∧ Below W.heap.size W w') := fun ga qa W k => Wanted_ok ga qa b W k hbo.out
  have hl8 := lack_le8 hao.out (cntL lc)
  have KSH : Hid (∀ g5 q5 ga qa W, Lies cc W g5 lc → Lies wc W ga a → Calls Tryz.prog 45 #[.slice (some ⟨g5, 0, none⟩) lc.length q5, .slice (some ⟨ga, 0, none⟩) a.length qa] W fun e w' => ∃ v, e = .returned (.tuple #[v, .int .i64 0]) ∧ OwnN wc w' W.heap.size 81 3 v (lackL (cntL lc) a) ∧ Below W.heap.size W w') := fun g5 q5 ga qa W k1 k2 => Short_ok g5 q5 lc ga qa a W k1 k2 hst.out hao.out
  have KSS : Hid (∀ g5 q5 ga qa W, Lies cc W g5 lc → Lies wc W ga a → Calls Tryz.prog 46 #[.slice (some ⟨g5, 0, none⟩) lc.length q5, .slice (some ⟨ga, 0, none⟩) a.length qa] W fun e w' => ∃ v, e = .returned (.tuple #[v, .int .i64 0]) ∧ OwnN wc w' W.heap.size 81 3 v (lackL (cntL lc) a) ∧ Below W.heap.size W w') := fun g5 q5 ga qa W k1 k2 => sShort_ok g5 q5 lc ga qa a W k1 k2 hst.out hao.out
  have KCF : Hid (∀ g5 q5 ga qa W, Lies cc W g5 lc → Lies wc W ga a → Calls Tryz.prog 47 #[.slice (some ⟨g5, 0, none⟩) lc.length q5, .slice (some ⟨ga, 0, none⟩) a.length qa] W fun e w' => e = .returned (.tuple #[.bool (((lackL (cntL lc) a).length : Int) == 0), .int .i64 0]) ∧ Below W.heap.size W w') := fun g5 q5 ga qa W k1 k2 => Can_ok g5 q5 lc ga qa a W k1 k2 hst.out hao.out
  have hLA := Lib.hid (fun i (hi : i < a.length) (h : 0 < a[i]!.n - (cntL lc a[i]!.b : Int)) => lack_at (f := cntL lc) hi h)
  have hLL := Lib.hid (fun i (hi : i < a.length) => lack_len (f := cntL lc) hi)
  have hLT := Lib.hid (show (lackL (cntL lc) (a.take a.length)).length = (lackL (cntL lc) a).length by rw [List.take_length])
  have hL0 := Lib.hid (show (lackL (cntL lc) (a.take 0)).length = 0 by simp [lackL])
  have hLM := Lib.hid (fun i => lackL_le (cntL lc) (a.take i))
  have KC1 : Hid (∀ ga qa W, Lies wc W ga a → Calls Tryz.prog 53 #[.slice (some ⟨ga, 0, none⟩) a.length qa] W fun e w' => ∃ v, e = .returned (.tuple #[v, .int .i64 0]) ∧ OwnN cc w' W.heap.size 28 24 v (packL (botsL a)) ∧ Below W.heap.size W w') := fun ga qa W k => Cases_ok ga qa a W k hao.out
  have KC2 : Hid (∀ ga qa W, Lies wc W ga a → Calls Tryz.prog 54 #[.slice (some ⟨ga, 0, none⟩) a.length qa] W fun e w' => ∃ v, e = .returned (.tuple #[v, .int .i64 0]) ∧ OwnN cc w' W.heap.size 28 24 v (packL (botsL a)) ∧ Below W.heap.size W w') := fun ga qa W k => sCases_ok ga qa a W k hao.out
  have hcl := Lib.hid (cases_len hao.out)
  have hcc := Lib.hid (fun i (hi : i < a.length) => cases_cnt hao.out hi)
  have hsa := sumW_le a
  have hsb := sumW_le b
  have hsa0 := sumW_ge (fun x hx => (Wt.ok_n (ordOk_all hao.out x hx)).1)
  have hsb0 := sumW_ge (fun x hx => (Wt.ok_n (ordOk_all hbo.out x hx)).1)
  have hwok := Lib.hid (fun i (hi : i < a.length) => Wt.ok_n (ordOk_all hao.out a[i]! (by rw [getB hi]; exact List.getElem_mem _)))
  have KCN := Lib.hid (fun g5 q5 W (k : Lies cc W g5 lc) i (hi : i < a.length) => Count_ok g5 q5 lc a[i]!.b W k hst.out (hwok.out i hi).2.2)
  obtain ⟨sa, hsa1⟩ : ∃ x, x = sumW a := ⟨_, rfl⟩
  obtain ⟨sb, hsb1⟩ : ∃ x, x = sumW b := ⟨_, rfl⟩
  rw [← hsa1] at hsa hsa0 hcl KWA hcase
  rw [← hsb1] at hsb hsb0 KWB hcase
  clear hsa1 hsb1
  obtain ⟨lk, hlk⟩ : ∃ x, x = lackL (cntL lc) a := ⟨_, rfl⟩
  rw [← hlk] at hl8 KSH KSS KCF hLT hLA
  clear hlk
  obtain ⟨pk, hpk⟩ : ∃ x, x = packL (botsL a) := ⟨_, rfl⟩
  rw [← hpk] at KC1 KC2 hcl hcc
  clear hpk
  have hpl : pk.length ≤ 20000 := by have := hcl.out; omega
  have H0 := Lib.hid (Below.refl w.heap.size w)
  go_enter Tryz.func4, Tryz.ntmps4
  go_upto_region 4 with (first | (go_at_call 34; (refine HL.out.mono ?_); rintro e w1 ⟨rfl, rfl⟩) | (go_at_call 35; refine KST.out.mono ?_; rintro e w3 ⟨v, rfl, O, hb⟩; obtain ⟨g3, q3, rfl, K3, -, -, hq3⟩ := O.lies; replace K3 := Lib.hid K3; replace H0 := Lib.hid (bstep H0.out hb); clear O hb))
  clear HL KST
  go_upto_region 5 with (first | (go_at_call 36; refine (KOA.out w3 H0.out).mono ?_; rintro e w4 ⟨v, rfl, O, hb⟩; obtain ⟨g4, q4, rfl, K4, -, -, hq4⟩ := O.lies; replace K4 := Lib.hid K4; replace K3 := Lib.hid (K3.out.below hb); replace H0 := Lib.hid (bstep H0.out hb); clear O hb))
  go_upto_region 6 with (first | (go_at_call 36; refine (KOB.out w4 H0.out).mono ?_; rintro e w5 ⟨v, rfl, O, hb⟩; obtain ⟨g5, q5, rfl, K5, -, -, hq5⟩ := O.lies; replace K5 := Lib.hid K5; replace K3 := Lib.hid (K3.out.below hb); replace K4 := Lib.hid (K4.out.below hb); replace H0 := Lib.hid (bstep H0.out hb); clear O hb))
  clear KOA KOB
  go_upto_region 7 with (first | (go_at_call 37; refine (KAT.out w5 H0.out).mono ?_; rintro e w6 ⟨⟨n, rfl, hn0, hn5⟩, hb⟩; replace K3 := Lib.hid (K3.out.below hb); replace K4 := Lib.hid (K4.out.below hb); replace K5 := Lib.hid (K5.out.below hb); replace H0 := Lib.hid (bstep H0.out hb); clear hb))
  clear KAT
  have hmo1 : 1 ≤ 1 + n := by omega
  have hmo6 : 1 + n ≤ 6 := by omega
  generalize 1 + n = mo at *
  clear hn0 hn5
  have hP := parts_of hao.out hmo1 (show mo ≤ 144 by omega)
  have hpl2 := parts_len hao.out hmo1 (show mo ≤ 144 by omega)
  have KS1 : Hid (∀ ga qa W, Lies wc W ga a → Calls Tryz.prog 43 #[.slice (some ⟨ga, 0, none⟩) a.length qa, .int .i64 mo] W fun e w' => ∃ v, e = .returned (.tuple #[v, .int .i64 0]) ∧ PtV w' v (splI a mo a.length).1 ∧ Below W.heap.size W w') := fun ga qa W k => iSplit_ok ga qa a mo W k hao.out hmo1 (by omega)
  have KS2 : Hid (∀ ga qa W, Lies wc W ga a → Calls Tryz.prog 44 #[.slice (some ⟨ga, 0, none⟩) a.length qa, .int .i64 mo] W fun e w' => ∃ v, e = .returned (.tuple #[v, .int .i64 0]) ∧ PtV w' v (splI a mo a.length).1 ∧ Below W.heap.size W w') := fun ga qa W k => sSplit_ok ga qa a mo W k hao.out hmo1 (by omega)
  generalize (splI a mo a.length).1 = ps at *
  have hfa := Lib.hid (fold_all hao.out hP)
  replace hP := Lib.hid hP
  go_upto_region 8 with (first | (go_at_call 39; refine (KOT.out g4 q4 w6 H0.out K4.out).mono ?_; rintro e w7 ⟨rfl, hb⟩; replace K3 := Lib.hid (K3.out.below hb); replace K4 := Lib.hid (K4.out.below hb); replace K5 := Lib.hid (K5.out.below hb); replace H0 := Lib.hid (bstep H0.out hb); clear hb) | (go_at_call 38; refine (KRD.out w7 H0.out).mono ?_; rintro e w8 ⟨v, rfl, O8, hb⟩; obtain ⟨A8, q8, rfl, hq8, R8⟩ := O8.rd; replace O8 := Lib.hid O8; replace R8 := Lib.hid R8; replace K3 := Lib.hid (K3.out.below hb); replace K4 := Lib.hid (K4.out.below hb); replace K5 := Lib.hid (K5.out.below hb); replace H0 := Lib.hid (bstep H0.out hb); clear hb))
  clear KOT KRD
  go_upto_region 9 with (first | (go_at_call 40; refine (KJ.out g4 q4 g5 q5 w8 K4.out K5.out).mono ?_; rintro e w9 ⟨v, rfl, O9, hb⟩; obtain ⟨A9, q9, rfl, hq9, R9⟩ := O9.rd; replace O9 := Lib.hid O9; replace R9 := Lib.hid R9; replace K3 := Lib.hid (K3.out.below hb); replace K4 := Lib.hid (K4.out.below hb); replace K5 := Lib.hid (K5.out.below hb); replace O8 := Lib.hid (O8.out.below hb); replace R8 := Lib.hid (R8.out.below hb); replace H0 := Lib.hid (bstep H0.out hb); clear hb))
  go_upto_region 10 with (first | (go_at_call 41; refine (KSJ.out g4 q4 g5 q5 w9 K4.out K5.out).mono ?_; rintro e w10 ⟨v, rfl, O10, hb⟩; obtain ⟨A10, q10, rfl, hq10, R10⟩ := O10.rd; replace O10 := Lib.hid O10; replace R10 := Lib.hid R10; replace K3 := Lib.hid (K3.out.below hb); replace K4 := Lib.hid (K4.out.below hb); replace K5 := Lib.hid (K5.out.below hb); replace O8 := Lib.hid (O8.out.below hb); replace R8 := Lib.hid (R8.out.below hb); replace O9 := Lib.hid (O9.out.below hb); replace R9 := Lib.hid (R9.out.below hb); replace H0 := Lib.hid (bstep H0.out hb); clear hb))
  clear KJ KSJ
  go_upto_region 11 with (first | (go_at_call 42; refine (KWA.out g4 q4 w10 K4.out).mono ?_; rintro e w11 ⟨rfl, hb⟩; replace K3 := Lib.hid (K3.out.below hb); replace K4 := Lib.hid (K4.out.below hb); replace K5 := Lib.hid (K5.out.below hb); replace O8 := Lib.hid (O8.out.below hb); replace R8 := Lib.hid (R8.out.below hb); replace O9 := Lib.hid (O9.out.below hb); replace R9 := Lib.hid (R9.out.below hb); replace O10 := Lib.hid (O10.out.below hb); replace R10 := Lib.hid (R10.out.below hb); replace H0 := Lib.hid (bstep H0.out hb); clear hb))
  go_upto_region 12 with (first | (go_at_call 42; refine (KWB.out g5 q5 w11 K5.out).mono ?_; rintro e w12 ⟨rfl, hb⟩; replace K3 := Lib.hid (K3.out.below hb); replace K4 := Lib.hid (K4.out.below hb); replace K5 := Lib.hid (K5.out.below hb); replace O8 := Lib.hid (O8.out.below hb); replace R8 := Lib.hid (R8.out.below hb); replace O9 := Lib.hid (O9.out.below hb); replace R9 := Lib.hid (R9.out.below hb); replace O10 := Lib.hid (O10.out.below hb); replace R10 := Lib.hid (R10.out.below hb); replace H0 := Lib.hid (bstep H0.out hb); clear hb))
  go_upto_region 13 with (first | (go_at_call 43; refine (KS1.out g4 q4 w12 K4.out).mono ?_; rintro e w13 ⟨v, rfl, P13, hb⟩; obtain ⟨A13, q13, rfl⟩ := P13.sl; replace P13 := Lib.hid P13; replace K3 := Lib.hid (K3.out.below hb); replace K4 := Lib.hid (K4.out.below hb); replace K5 := Lib.hid (K5.out.below hb); replace O8 := Lib.hid (O8.out.below hb); replace R8 := Lib.hid (R8.out.below hb); replace O9 := Lib.hid (O9.out.below hb); replace R9 := Lib.hid (R9.out.below hb); replace O10 := Lib.hid (O10.out.below hb); replace R10 := Lib.hid (R10.out.below hb); replace H0 := Lib.hid (bstep H0.out hb); clear hb))
  go_upto_region 14 with (first | (go_at_call 44; refine (KS2.out g4 q4 w13 K4.out).mono ?_; rintro e w14 ⟨v, rfl, P14, hb⟩; obtain ⟨A14, q14, rfl⟩ := P14.sl; replace P14 := Lib.hid P14; replace K3 := Lib.hid (K3.out.below hb); replace K4 := Lib.hid (K4.out.below hb); replace K5 := Lib.hid (K5.out.below hb); replace O8 := Lib.hid (O8.out.below hb); replace R8 := Lib.hid (R8.out.below hb); replace O9 := Lib.hid (O9.out.below hb); replace R9 := Lib.hid (R9.out.below hb); replace O10 := Lib.hid (O10.out.below hb); replace R10 := Lib.hid (R10.out.below hb); replace P13 := Lib.hid (P13.out.below hb); replace H0 := Lib.hid (bstep H0.out hb); clear hb))
  clear KWA KWB KS1 KS2
  go_upto_region 15 with (first | (go_at_call 45; refine (KSH.out g3 q3 g4 q4 w14 K3.out K4.out).mono ?_; rintro e w15 ⟨v, rfl, O15, hb⟩; obtain ⟨A15, q15, rfl, hq15, R15⟩ := O15.rd; replace O15 := Lib.hid O15; replace R15 := Lib.hid R15; replace K3 := Lib.hid (K3.out.below hb); replace K4 := Lib.hid (K4.out.below hb); replace K5 := Lib.hid (K5.out.below hb); replace O8 := Lib.hid (O8.out.below hb); replace R8 := Lib.hid (R8.out.below hb); replace O9 := Lib.hid (O9.out.below hb); replace R9 := Lib.hid (R9.out.below hb); replace O10 := Lib.hid (O10.out.below hb); replace R10 := Lib.hid (R10.out.below hb); replace P13 := Lib.hid (P13.out.below hb); replace P14 := Lib.hid (P14.out.below hb); replace H0 := Lib.hid (bstep H0.out hb); clear hb))
  go_upto_region 16 with (first | (go_at_call 46; refine (KSS.out g3 q3 g4 q4 w15 K3.out K4.out).mono ?_; rintro e w16 ⟨v, rfl, O16, hb⟩; obtain ⟨A16, q16, rfl, hq16, R16⟩ := O16.rd; replace O16 := Lib.hid O16; replace R16 := Lib.hid R16; replace K3 := Lib.hid (K3.out.below hb); replace K4 := Lib.hid (K4.out.below hb); replace K5 := Lib.hid (K5.out.below hb); replace O8 := Lib.hid (O8.out.below hb); replace R8 := Lib.hid (R8.out.below hb); replace O9 := Lib.hid (O9.out.below hb); replace R9 := Lib.hid (R9.out.below hb); replace O10 := Lib.hid (O10.out.below hb); replace R10 := Lib.hid (R10.out.below hb); replace P13 := Lib.hid (P13.out.below hb); replace P14 := Lib.hid (P14.out.below hb); replace O15 := Lib.hid (O15.out.below hb); replace R15 := Lib.hid (R15.out.below hb); replace H0 := Lib.hid (bstep H0.out hb); clear hb))
  clear KSH KSS
  have T1 : Hid (∀ W, Below w16.heap.size w16 W → Calls Tryz.prog 48 #[.slice A8 a.length q8, .slice (some ⟨g4, 0, none⟩) a.length q4] W fun e w' => e = .returned (.bool true) ∧ Below W.heap.size W w') := fun W hW => sSame_lies_own g4 q4 a W (O8.out.below hW) (K4.out.below hW) (by omega)
  have T2 : Hid (∀ W, Below w16.heap.size w16 W → Calls Tryz.prog 49 #[.slice A8 a.length q8, .slice (some ⟨g4, 0, none⟩) a.length q4] W fun e w' => e = .returned (.bool true) ∧ Below W.heap.size W w') := fun W hW => iSame_lies_own g4 q4 a W (O8.out.below hW) (K4.out.below hW) (by omega)
  have T3 : Hid (∀ W, Below w16.heap.size w16 W → Calls Tryz.prog 50 #[.slice (some ⟨g4, 0, none⟩) a.length q4] W fun e w' => e = .returned (.bool true) ∧ Below W.heap.size W w') := fun W hW => Valid_ok g4 q4 a W (K4.out.below hW) hao.out
  have T4 : Hid (∀ W, Below w16.heap.size w16 W → Calls Tryz.prog 48 #[.slice A9 d.length q9, .slice A10 d.length q10] W fun e w' => e = .returned (.bool true) ∧ Below W.heap.size W w') := fun W hW => sSameOrder_own W (O9.out.below hW) (O10.out.below hW) (by omega)
  have T5 : Hid (∀ W, Below w16.heap.size w16 W → Calls Tryz.prog 48 #[.slice A15 lk.length q15, .slice A16 lk.length q16] W fun e w' => e = .returned (.bool true) ∧ Below W.heap.size W w') := fun W hW => sSameOrder_own W (O15.out.below hW) (O16.out.below hW) (by omega)
  have T6 : Hid (∀ W, Below w16.heap.size w16 W → Calls Tryz.prog 47 #[.slice (some ⟨g3, 0, none⟩) lc.length q3, .slice (some ⟨g4, 0, none⟩) a.length q4] W fun e w' => e = .returned (.tuple #[.bool ((lk.length : Int) == 0), .int .i64 0]) ∧ Below W.heap.size W w') := fun W hW => KCF.out g3 q3 g4 q4 W (K3.out.below hW) (K4.out.below hW)
  clear KCF
  have HX := Below.refl w16.heap.size w16
  rcases hcase.out with ⟨rfl, hd1, hd2⟩ | rfl
  · as_aux_lemma =>
    clear hcase
    replace hd1 := Lib.hid hd1
    replace hd2 := Lib.hid hd2
    go_upto_region 19 with (first | (go_at_call 47; with_reducible refine (T6.out _ HX).mono ?_; rintro e w17 ⟨rfl, hb⟩; replace HX := bstep HX hb; clear hb) | (go_at_call 48; with_reducible refine (T1.out _ HX).mono ?_; rintro e w18 ⟨rfl, hb⟩; replace HX := bstep HX hb; clear hb) | (go_at_call 49; with_reducible refine (T2.out _ HX).mono ?_; rintro e w19 ⟨rfl, hb⟩; replace HX := bstep HX hb; clear hb) | (go_at_call 50; with_reducible refine (T3.out _ HX).mono ?_; rintro e w20 ⟨rfl, hb⟩; replace HX := bstep HX hb; clear hb) | (go_at_call 48; with_reducible refine (T4.out _ HX).mono ?_; rintro e w21 ⟨rfl, hb⟩; replace HX := bstep HX hb; clear hb) | (go_at_call 48; with_reducible refine (T5.out _ HX).mono ?_; rintro e w22 ⟨rfl, hb⟩; replace HX := bstep HX hb; clear hb))
    replace K3 := Lib.hid (K3.out.below HX)
    replace K4 := Lib.hid (K4.out.below HX)
    replace K5 := Lib.hid (K5.out.below HX)
    replace O8 := Lib.hid (O8.out.below HX)
    replace R8 := Lib.hid (R8.out.below HX)
    replace O9 := Lib.hid (O9.out.below HX)
    replace R9 := Lib.hid (R9.out.below HX)
    replace O10 := Lib.hid (O10.out.below HX)
    replace R10 := Lib.hid (R10.out.below HX)
    replace P13 := Lib.hid (P13.out.below HX)
    replace P14 := Lib.hid (P14.out.below HX)
    replace O15 := Lib.hid (O15.out.below HX)
    replace R15 := Lib.hid (R15.out.below HX)
    replace O16 := Lib.hid (O16.out.below HX)
    replace R16 := Lib.hid (R16.out.below HX)
    replace H0 := Lib.hid (bstep H0.out HX)
    clear HX T1 T2 T3 T4 T5 T6
    have T7 : Hid (∀ W, Below w22.heap.size w22 W → Calls Tryz.prog 42 #[.slice A10 d.length q10] W fun e w' => e = .returned (.tuple #[.int .i64 (sa + sb), .int .i64 0]) ∧ Below W.heap.size W w') := fun W hW => by have := WantedIn_own W (O10.out.below hW) (by omega) hd1.out; rwa [hd2.out] at this
    have T8 : Hid (∀ W, Below w22.heap.size w22 W → Calls Tryz.prog 50 #[.slice A10 d.length q10] W fun e w' => e = .returned (.bool true) ∧ Below W.heap.size W w') := fun W hW => ValidOrder_own W (O10.out.below hW) (by omega) hd1.out
    have hv1 : IntKind.i64.wrap (sa + sb) = sa + sb := by rw [IntKind.wrap_i64]; omega
    have HX := Below.refl w22.heap.size w22
    go_upto_region 23 with (first | (go_at_call 42; with_reducible refine (T7.out _ HX).mono ?_; rintro e w23 ⟨rfl, hb⟩; replace HX := bstep HX hb; clear hb) | (go_at_call 50; with_reducible refine (T8.out _ HX).mono ?_; rintro e w24 ⟨rfl, hb⟩; replace HX := bstep HX hb; clear hb))
    replace K3 := Lib.hid (K3.out.below HX)
    replace K4 := Lib.hid (K4.out.below HX)
    replace K5 := Lib.hid (K5.out.below HX)
    replace O8 := Lib.hid (O8.out.below HX)
    replace R8 := Lib.hid (R8.out.below HX)
    replace O9 := Lib.hid (O9.out.below HX)
    replace R9 := Lib.hid (R9.out.below HX)
    replace O10 := Lib.hid (O10.out.below HX)
    replace R10 := Lib.hid (R10.out.below HX)
    replace P13 := Lib.hid (P13.out.below HX)
    replace P14 := Lib.hid (P14.out.below HX)
    replace O15 := Lib.hid (O15.out.below HX)
    replace R15 := Lib.hid (R15.out.below HX)
    replace O16 := Lib.hid (O16.out.below HX)
    replace R16 := Lib.hid (R16.out.below HX)
    replace H0 := Lib.hid (bstep H0.out HX)
    clear HX T7 T8 hv1
    clear K5 O8 R8 O9 R9 O10 R10 O15 R15 R16
    go_wp2
    go_loopw [31, 32] (fun v i wr => ∃ (k g c : Nat), k ≤ ps.length ∧ v = .slice (some ⟨g, 0, none⟩) (foldJ ps k).length c ∧ i = .int .i64 (k : Int) ∧ Hid (Lies wc wr g (foldJ ps k)) ∧ Hid (Below w24.heap.size w24 wr)) (fun _ i _ => ps.length - (intOf i).toNat)
    case atStart => exact ⟨0, _, 0, Nat.zero_le _, rfl, rfl, OwnN.lies (size := 3) (l := []) (OwnS.lit (Nat.zero_le _)).n, (Below.refl _ _).alloc (Nat.le_refl _) _⟩
    case round =>
      obtain ⟨k, g, c, hk, rfl, rfl, HF, HV⟩ := hrel
      by_cases hlt : k < ps.length
      · as_aux_lemma =>
        have hlt2 : (k : Int) < (ps.length : Int) := by omega
        obtain ⟨gp, gp1, qp1, rfl, hgp, xp0, Kp, hqp⟩ := (P13.out.below HV.out).at hlt
        obtain ⟨gm, gm1, qm1, rfl, hgm, xm, Km, hqm⟩ := (P14.out.below HV.out).at hlt
        have hpt := hP.out.at hlt
        have hpo := part_ok hao.out hP.out hlt
        have hp8 := ordOk_len hpo
        have KW : Hid (∀ W, Below wr.heap.size wr W → Calls Tryz.prog 42 #[.slice (some ⟨gm1, 0, none⟩) ps[k]!.length qm1] W fun e w' => e = .returned (.tuple #[.int .i64 (sumW ps[k]!), .int .i64 0]) ∧ Below W.heap.size W w') := fun W hW => Wanted_ok gm1 qm1 _ W (Km.below hW) hpo
        have KE : Hid (∀ W, Below wr.heap.size wr W → Calls Tryz.prog 48 #[.slice (some ⟨gp1, 0, none⟩) ps[k]!.length qp1, .slice (some ⟨gm1, 0, none⟩) ps[k]!.length qm1] W fun e w' => e = .returned (.bool true) ∧ Below W.heap.size W w') := fun W hW => sSame_lies gp1 qp1 gm1 qm1 _ W (Kp.below hW) (Km.below hW) (by omega)
        have KJ : Hid (∀ W, Below wr.heap.size wr W → Calls Tryz.prog 41 #[.slice (some ⟨g, 0, none⟩) (foldJ ps k).length c, .slice (some ⟨gm1, 0, none⟩) ps[k]!.length qm1] W fun e w' => ∃ g c, e = .returned (.tuple #[.slice (some ⟨g, 0, none⟩) (foldJ ps (k + 1)).length c, .int .i64 0]) ∧ Lies wc w' g (foldJ ps (k + 1)) ∧ Below W.heap.size W w') := fun W hW => sJoin_part hao.out hP.out hlt g c gm1 qm1 W (HF.out.below hW) (Km.below hW)
        have hv1 : IntKind.i64.wrap ((ps.length : Int) - 1) = (ps.length : Int) - 1 := by rw [IntKind.wrap_i64]; omega
        have xm0 := Lib.hid xm
        replace xp0 := Lib.hid xp0
        obtain ⟨s, hs⟩ : ∃ s, s = sumW ps[k]! := ⟨_, rfl⟩
        rw [← hs] at hpt KW
        have hs1 := hpt.1
        have hs2 := hpt.2.1
        have hsm := hpt.2.2
        clear hs Kp Km hpo hpt hqp hqm hfa
        generalize ps[k]! = pp at *
        have HX := Below.refl wr.heap.size wr
        have s1 : ¬ s < 1 := by omega
        have s2 : ¬ mo < s := by omega
        by_cases hla : k + 1 < ps.length
        · obtain rfl := hsm hla
          have hl2 : (k : Int) < (ps.length : Int) - 1 := by omega
          go_upto_region 28 with (go_at_call 42; with_reducible refine (KW.out _ HX).mono ?_; rintro e w30 ⟨rfl, hb⟩; replace HX := bstep HX hb; clear hb; replace xm := (HX.cell hgm).trans xm0.out)
          have y1 := cell_regrown ((HX.cell hgm).trans xm0.out)
          have y2 := cell_regrown ((HX.cell hgp).trans xp0.out)
          clear xm
          have H := Below.refl w30.heap.size w30
          refine wp_region_qB (by kernel_rfl) (by kernel_rfl) ?_
          (repeat (first | fail | (apply qB_step; intro K hK; go_simp; first | (refine hK _ ?_; clear hK K) | (apply Exists.intro; refine ⟨fun _ => ?_, hK _ ?_⟩; (first | (go_at_call 48 <;> with_reducible exact KE.out _ (bstep HX (below_regrown _ _ _)))); clear hK K))))
          refine qB_nil ?_
          intro w1 hw1
          replace H := bstep H hw1
          clear hw1
          clear y1 y2
          replace HX := bstep HX H
          clear H
          have xm := (HX.cell hgm).trans xm0.out
          go_wp2_with (go_at_call 41; with_reducible refine (KJ.out _ HX).mono ?_; rintro e w33 ⟨gn, cn, rfl, KN, hb⟩; replace KN := Lib.hid KN; replace HX := bstep HX hb; clear hb)
          go_roundw
          case rel => exact ⟨k + 1, gn, cn, by omega, rfl, by go_num, KN, bstep HV.out HX⟩
          case measure => simp [intOf]; omega
        · have hl2 : (ps.length : Int) - 1 = (k : Int) := by omega
          have hl3 : IntKind.i64.wrap (k : Int) = (k : Int) := by rw [IntKind.wrap_i64]; omega
          clear hv1 hsm
          go_upto_region 28 with (go_at_call 42; with_reducible refine (KW.out _ HX).mono ?_; rintro e w30 ⟨rfl, hb⟩; replace HX := bstep HX hb; clear hb; replace xm := (HX.cell hgm).trans xm0.out)
          have y1 := cell_regrown ((HX.cell hgm).trans xm0.out)
          have y2 := cell_regrown ((HX.cell hgp).trans xp0.out)
          clear xm
          have H := Below.refl w30.heap.size w30
          refine wp_region_qB (by kernel_rfl) (by kernel_rfl) ?_
          (repeat (first | fail | (apply qB_step; intro K hK; go_simp; first | (refine hK _ ?_; clear hK K) | (apply Exists.intro; refine ⟨fun _ => ?_, hK _ ?_⟩; (first | (go_at_call 48 <;> with_reducible exact KE.out _ (bstep HX (below_regrown _ _ _)))); clear hK K))))
          refine qB_nil ?_
          intro w1 hw1
          replace H := bstep H hw1
          clear hw1
          clear y1 y2
          replace HX := bstep HX H
          clear H
          have xm := (HX.cell hgm).trans xm0.out
          go_wp2_with (go_at_call 41; with_reducible refine (KJ.out _ HX).mono ?_; rintro e w33 ⟨gn, cn, rfl, KN, hb⟩; replace KN := Lib.hid KN; replace HX := bstep HX hb; clear hb)
          go_roundw
          case rel => exact ⟨k + 1, gn, cn, by omega, rfl, by go_num, KN, bstep HV.out HX⟩
          case measure => simp [intOf]; omega
      · as_aux_lemma =>
        obtain rfl : k = ps.length := by omega
        rw [hfa.out] at HF ⊢
        clear P13 P14 hP hfa
        replace K3 := Lib.hid (K3.out.below HV.out)
        replace K4 := Lib.hid (K4.out.below HV.out)
        replace O16 := Lib.hid (O16.out.below HV.out)
        replace H0 := Lib.hid (bstep H0.out HV.out)
        clear HV
        have T9 : Hid (∀ W, Below wr.heap.size wr W → Calls Tryz.prog 48 #[.slice (some ⟨g, 0, none⟩) a.length c, .slice (some ⟨g4, 0, none⟩) a.length q4] W fun e w' => e = .returned (.bool true) ∧ Below W.heap.size W w') := fun W hW => sSame_lies g c g4 q4 a W (HF.out.below hW) (K4.out.below hW) (by omega)
        have HX := Below.refl wr.heap.size wr
        go_wp2_with (go_at_call 48; with_reducible refine (T9.out _ HX).mono ?_; rintro e w36 ⟨rfl, hb⟩; replace HX := bstep HX hb; clear hb)
        replace K3 := Lib.hid (K3.out.below HX)
        replace K4 := Lib.hid (K4.out.below HX)
        replace O16 := Lib.hid (O16.out.below HX)
        replace H0 := Lib.hid (bstep H0.out HX)
        clear HX T9 HF
        obtain ⟨wb, hwb⟩ : ∃ wb, wb = w36 := ⟨_, rfl⟩
        subst hwb
        go_loopw [37, 38] (fun t i wr => ∃ k r : Nat, k ≤ a.length ∧ t = .int .i64 (r : Int) ∧ i = .int .i64 (k : Int) ∧ Hid (r = (lackL (cntL lc) (a.take k)).length) ∧ Hid (Below wb.heap.size wb wr)) (fun _ i _ => a.length - (intOf i).toNat)
        case atStart => exact ⟨0, 0, Nat.zero_le _, rfl, rfl, hL0.out.symm, Below.refl _ _⟩
        case round =>
          obtain ⟨k, r, hk, rfl, rfl, hr, HV⟩ := hrel
          by_cases hlt : k < a.length
          · as_aux_lemma =>
            have hlt2 : (k : Int) < (a.length : Int) := by omega
            have hnn := hwok.out k hlt
            have hll := hLL.out k hlt
            have hrt := hLM.out k
            have hla := hLA.out k hlt
            rw [← hr.out] at hla hll hrt
            have hr4 : r ≤ 4 := by rw [List.length_take] at hrt; omega
            have hcn := cntL_le lc a[k]!.b
            have KN1 : Hid (∀ W, Below wr.heap.size wr W → Calls Tryz.prog 51 #[.slice (some ⟨g3, 0, none⟩) lc.length q3, bv a[k]!.b] W fun e w' => e = .returned (.tuple #[.int .i64 (cntL lc a[k]!.b), .int .i64 0]) ∧ Below W.heap.size W w') := fun W hW => KCN.out g3 q3 W ((K3.out.below HV.out).below hW) k hlt
            have KN2 : Hid (∀ W, Below wr.heap.size wr W → Calls Tryz.prog 52 #[.slice (some ⟨g3, 0, none⟩) lc.length q3, bv a[k]!.b] W fun e w' => e = .returned (.int .i64 (cntL lc a[k]!.b)) ∧ Below W.heap.size W w') := fun W hW => A2InCrates_any (some ⟨g3, 0, none⟩) q3 lc a[k]!.b W ((K3.out.below HV.out).below hW).rd (by omega)
            have HE : Hid (∀ W, Below wr.heap.size wr W → W.cell? ⟨g4, k * 3, none⟩ = some (.int .u8 a[k]!.b.k) ∧ W.cell? ⟨g4, k * 3 + 1, none⟩ = some (.int .i16 a[k]!.b.y) ∧ W.cell? ⟨g4, k * 3 + 2, none⟩ = some (.int .i16 a[k]!.n)) := fun W hW => by
              have h := (K4.out.below (bstep HV.out hW)).c.el wc_length hlt
              rw [Nat.zero_add] at h
              exact ⟨h 0 _ rfl, h 1 _ rfl, h 2 _ rfl⟩
            generalize a[k]! = x at *
            generalize cntL lc x.b = n at *
            obtain ⟨z, hz⟩ : ∃ z, z = x.n - (n : Int) := ⟨_, rfl⟩
            have hnn1 := hnn.1
            have hnn2 := hnn.2.1
            have hwx : IntKind.i64.wrap x.n = x.n := by rw [IntKind.wrap_i64]; omega
            have hsub : IntKind.i64.wrap (x.n - (n : Int)) = z := by rw [IntKind.wrap_i64]; omega
            have hwz : IntKind.i64.wrap z = z := by rw [IntKind.wrap_i64]; omega
            rw [← hz] at hla hll
            replace hz := Lib.hid hz
            replace hll := Lib.hid hll
            replace hla := Lib.hid hla
            clear hnn hrt hcn
            have HX := Below.refl wr.heap.size wr
            obtain ⟨x0, x1, x2⟩ := HE.out _ HX
            go_upto_region 44 with (first | (go_at_call 51; with_reducible refine (KN1.out _ HX).mono ?_; rintro e w40 ⟨rfl, hb⟩; replace HX := bstep HX hb; clear hb x0 x1 x2; obtain ⟨x0, x1, x2⟩ := HE.out _ HX) | (go_at_call 52; with_reducible refine (KN2.out _ HX).mono ?_; rintro e w41 ⟨rfl, hb⟩; replace HX := bstep HX hb; clear hb x0 x1 x2; obtain ⟨x0, x1, x2⟩ := HE.out _ HX))
            clear hsub KN1 KN2
            by_cases hz0 : z ≤ 0
            · rw [if_neg (by omega)] at hll
              clear x0 x1 x2
              go_wp2
              go_roundw
              case rel => exact ⟨k + 1, r, by omega, rfl, by go_num, by rw [Hid, hll.out]; rfl, bstep HV.out HX⟩
              case measure => simp [intOf]; omega
            · obtain ⟨y, hy1, hy2, hy3⟩ := hla.out (by omega)
              rw [if_pos (by omega)] at hll
              have hrl : r < lk.length := (List.getElem?_eq_some_iff.1 hy1).1
              have hre : lk[r]! = y := by rw [getB hrl]; exact (List.getElem?_eq_some_iff.1 hy1).2
              rcases O16.out.two (by decide) wc_length with ⟨hn, -⟩ | ⟨g16, c16, e16, K16⟩
              · rw [hn] at hrl
                exact absurd hrl (Nat.not_lt_zero _)
              obtain ⟨rfl, -, rfl⟩ := Value.slice.inj e16
              have HL : Hid (∀ W, Below wr.heap.size wr W → W.cell? ⟨g16, r * 3, none⟩ = some (.int .u8 x.b.k) ∧ W.cell? ⟨g16, r * 3 + 1, none⟩ = some (.int .i16 x.b.y) ∧ W.cell? ⟨g16, r * 3 + 2, none⟩ = some (.int .i16 z)) := fun W hW => by
                have h := (K16.below (bstep HV.out hW)).c.el wc_length hrl
                rw [Nat.zero_add, hre] at h
                rw [← hy2, ← hy3]
                exact ⟨h 0 _ rfl, h 1 _ rfl, h 2 _ rfl⟩
              clear hy1 hy2 hy3 hre e16 K16 x2
              obtain ⟨u0, u1, u2⟩ := HL.out _ HX
              have hrl2 : (r : Int) < (lk.length : Int) := by omega
              have hrl3 : ¬ (lk.length : Int) ≤ (r : Int) := by omega
              have hrl4 : ¬ lk.length ≤ r := by omega
              go_upto_region 45 with fail
              have y0 := cell_regrown x0
              have y1 := cell_regrown x1
              have y2 := cell_regrown u0
              have y3 := cell_regrown u1
              have y4 := cell_regrown u2
              clear x0 x1 u0 u1 u2
              have hu := Tryz.underlying26
              have H := Below.refl w41.heap.size w41
              refine wp_region_qB (by kernel_rfl) (by kernel_rfl) ?_
              (repeat (first | fail | (apply qB_step; intro K hK; go_simp; first | (refine hK _ ?_; clear hK K) | (apply Exists.intro; refine ⟨fun _ => ?_, hK _ ?_⟩; (first | fail); clear hK K))))
              refine qB_nil ?_
              intro w1 hw1
              replace H := bstep H hw1
              clear hw1
              clear y0 y1 y2 y3 y4
              go_wp2
              go_roundw
              case rel => exact ⟨k + 1, r + 1, by omega, by go_num, by go_num, hll.out.symm, bstep HV.out (bstep HX H)⟩
              case measure => simp [intOf]; omega
          · as_aux_lemma =>
            obtain rfl : k = a.length := by omega
            obtain rfl : r = lk.length := hr.out.trans hLT.out
            clear hr hLA hLL hLT hL0 hLM KCN
            clear O16
            replace K3 := Lib.hid (K3.out.below HV.out)
            replace K4 := Lib.hid (K4.out.below HV.out)
            replace H0 := Lib.hid (bstep H0.out HV.out)
            clear HV
            go_upto_region 51 with (first | (go_at_call 53; refine (KC1.out g4 q4 wr K4.out).mono ?_; rintro e w50 ⟨v, rfl, O50, hb⟩; obtain ⟨A50, q50, rfl, hq50, R50⟩ := O50.rd; replace O50 := Lib.hid O50; replace R50 := Lib.hid R50; replace K3 := Lib.hid (K3.out.below hb); replace K4 := Lib.hid (K4.out.below hb); replace H0 := Lib.hid (bstep H0.out hb); clear hb))
            go_upto_region 52 with (first | (go_at_call 54; refine (KC2.out g4 q4 w50 K4.out).mono ?_; rintro e w51 ⟨v, rfl, O51, hb⟩; obtain ⟨A51, q51, rfl, hq51, R51⟩ := O51.rd; replace O51 := Lib.hid O51; replace R51 := Lib.hid R51; replace K3 := Lib.hid (K3.out.below hb); replace K4 := Lib.hid (K4.out.below hb); replace O50 := Lib.hid (O50.out.below hb); replace R50 := Lib.hid (R50.out.below hb); replace H0 := Lib.hid (bstep H0.out hb); clear hb))
            have T10 : Hid (∀ W, Below w51.heap.size w51 W → Calls Tryz.prog 55 #[.slice A50 pk.length q50, .slice A51 pk.length q51] W fun e w' => e = .returned (.bool true) ∧ Below W.heap.size W w') := fun W hW => sSameStack_own W (O50.out.below hW) (O51.out.below hW) (by omega)
            clear KC1 KC2
            have hpk1 := hcl.out
            have hv2 : IntKind.i64.wrap (sa + 11) = sa + 11 := by rw [IntKind.wrap_i64]; omega
            have HX := Below.refl w51.heap.size w51
            go_upto_region 54 with (go_at_call 55; with_reducible refine (T10.out _ HX).mono ?_; rintro e w52 ⟨rfl, hb⟩; replace HX := bstep HX hb; clear hb)
            clear hpk1 hv2 T10 O50 R50 O51
            replace K3 := Lib.hid (K3.out.below HX)
            replace K4 := Lib.hid (K4.out.below HX)
            replace R51 := Lib.hid (R51.out.below HX)
            replace H0 := Lib.hid (bstep H0.out HX)
            clear HX K3
            go_wp2
            go_loopw [46] (fun i wr => ∃ k : Nat, k ≤ a.length ∧ i = .int .i64 (k : Int) ∧ Hid (Below w52.heap.size w52 wr)) (fun i _ => a.length - (intOf i).toNat)
            case atStart => exact ⟨0, Nat.zero_le _, rfl, Below.refl _ _⟩
            case round =>
              obtain ⟨k, hk, rfl, HV⟩ := hrel
              by_cases hlt : k < a.length
              · as_aux_lemma =>
                have hlt2 : (k : Int) < (a.length : Int) := by omega
                have hnn := hwok.out k hlt
                have KA : Hid (∀ W, Below w52.heap.size w52 W → Calls Tryz.prog 52 #[.slice A51 pk.length q51, bv a[k]!.b] W fun e w' => e = .returned (.int .i64 a[k]!.n) ∧ Below W.heap.size W w') := fun W hW => by
                  have := A2InCrates_any A51 q51 pk a[k]!.b W (R51.out.below hW) (by omega)
                  rwa [hcc.out k hlt] at this
                have h := (K4.out.below HV.out).c.el wc_length hlt
                rw [Nat.zero_add] at h
                have x0 := cell_regrown (h 0 _ rfl)
                have x1 := cell_regrown (h 1 _ rfl)
                have x2 := cell_regrown (h 2 _ rfl)
                rw [Nat.add_zero] at x0
                generalize a[k]! = x at *
                have hnn1 := hnn.1
                have hnn2 := hnn.2.1
                have hwx : IntKind.i64.wrap x.n = x.n := by rw [IntKind.wrap_i64]; omega
                clear hnn h
                go_upto_region 57 with fail
                have H := Below.refl wr.heap.size wr
                refine wp_region_qB (by kernel_rfl) (by kernel_rfl) ?_
                (repeat (first | fail | (apply qB_step; intro K hK; go_simp; first | (refine hK _ ?_; clear hK K) | (apply Exists.intro; refine ⟨fun _ => ?_, hK _ ?_⟩; (first | (go_at_call 52 <;> with_reducible exact KA.out _ (bstep HV.out (below_regrown _ _ _)))); clear hK K))))
                refine qB_nil ?_
                intro w1 hw1
                replace H := bstep H hw1
                clear hw1
                clear x0 x1 x2
                go_wp2
                go_roundw
                case rel => exact ⟨k + 1, by omega, by go_num, bstep HV.out H⟩
                case measure => simp [intOf]; omega
              · as_aux_lemma =>
                obtain rfl : k = a.length := by omega
                go_wp2
                go_ret
                exact ⟨rfl, bstep H0.out HV.out⟩
  · exact absurd hc.out (by decide)
end Go.Proofs.YtbngpcghognojaaGreatDoor
