/- The law FnOpened holds: whatever the bytes. -/
import Derived.Test.YtbngpcghognojaaRows
import Derived.Test.YtbngpcghognojaaB1
import Derived.Test.YtbngpcghognojaaB2
import Derived.Test.YtbngpcghognojaaB3
import Derived.Test.YtbngpcghognojaaB4
import Derived.Test.YtbngpcghognojaaB5
import Derived.Test.YtbngpcghognojaaB6
import Derived.Test.YtbngpcghognojaaB7
import Derived.Test.YtbngpcghognojaaB8
import Derived.Test.YtbngpcghognojaaB9
import Derived.Test.YtbngpcghognojaaB10
import Derived.Test.YtbngpcghognojaaB11
import Derived.Test.YtbngpcghognojaaB12
import Derived.Test.YtbngpcghognojaaB13
import Derived.Test.YtbngpcghognojaaB14
import Derived.Test.YtbngpcghognojaaB15
import Derived.Test.YtbngpcghognojaaB16
import Derived.Test.YtbngpcghognojaaB17
import Derived.Test.YtbngpcghognojaaB18
namespace Go.Proofs.Ytbngpcghognojaa
open Go Go.RowKit
set_option linter.unusedVariables false
set_option linter.unusedSimpArgs false
set_option maxRecDepth 100000
set_option maxHeartbeats 60000000
attribute [local go_sem] Oper.qB Oper.qK
attribute [local go_sem high] eqB eqC
theorem lieA_three {w : World} {g q g' q' E : Nat} {l o : List Wt} (h : Lies wc w g l) (h' : Lies wc w g' o) (hq : l.length ≤ q) (hq' : o.length ≤ q') :
    LieA wc (w.alloc (.cells #[.slice (some ⟨g, 0, none⟩) l.length q, .slice (some ⟨g', 0, none⟩) o.length q', .slice (some ⟨g, 0, none⟩) l.length q] E)) (.slice (some ⟨w.heap.size, 0, none⟩) 3 3) [l, o, l] := by
  have hb : Below w.heap.size w (w.alloc (.cells #[.slice (some ⟨g, 0, none⟩) l.length q, .slice (some ⟨g', 0, none⟩) o.length q', .slice (some ⟨g, 0, none⟩) l.length q] E)) := (Below.refl _ w).alloc (Nat.le_refl _) _
  have hr : rowOf (w.alloc (.cells #[.slice (some ⟨g, 0, none⟩) l.length q, .slice (some ⟨g', 0, none⟩) o.length q', .slice (some ⟨g, 0, none⟩) l.length q] E)) w.heap.size = some #[.slice (some ⟨g, 0, none⟩) l.length q, .slice (some ⟨g', 0, none⟩) o.length q', .slice (some ⟨g, 0, none⟩) l.length q] := by rw [rowOf_alloc, if_pos rfl]
  refine ⟨w.heap.size, 3, rfl, rowOf_lt hr, fun i hi => ?_⟩
  have h3 : i = 0 ∨ i = 1 ∨ i = 2 := by simp at hi; omega
  rcases h3 with rfl | rfl | rfl
  · exact ⟨g, q, (rowOf_cell hr 0).trans rfl, h.below hb, hq⟩
  · exact ⟨g', q', (rowOf_cell hr 1).trans rfl, h'.below hb, hq'⟩
  · exact ⟨g, q, (rowOf_cell hr 2).trans rfl, h.below hb, hq⟩
theorem FnOpened_run (w : World) (A0 : Option Addr) (c0 : Nat) (l0 : List Int) (hm0 : l0.length ≤ maxLen) (hr0 : RdA w A0 (u8v l0)) (hb0 : ∀ x ∈ l0, 0 ≤ x ∧ x ≤ 255) (A1 : Option Addr) (c1 : Nat) (l1 : List Int) (hm1 : l1.length ≤ maxLen) (hr1 : RdA w A1 (u8v l1)) (hb1 : ∀ x ∈ l1, 0 ≤ x ∧ x ≤ 255) :
    Calls Try.prog 3 #[.slice A0 l0.length c0, .slice A1 l1.length c1] w fun e w' => e = .returned (.bool true) ∧ Below w.heap.size w w' := by
  by_cases hL : l0.length ≤ 3000 ∧ l1.length ≤ 3000
  rotate_left
  · have HL := Lib.hid (a2Long_yes A0 A1 c0 c1 _ _ w hL)
    clear hL
    go_enter Try.func3, Try.ntmps3
    go_wp2_with (go_at_call 4; (refine HL.out.mono ?_); rintro e w1 ⟨rfl, rfl⟩)
    go_ret
    exact ⟨rfl, Below.refl _ _⟩
  have HL := Lib.hid (a2Long_no A0 A1 c0 c1 _ _ w hL.1 hL.2)
  have hF := fine_of l0 l1
  have HST := Lib.hid (A2Stack_any A0 c0 l0 w hr0 hb0 (by omega))
  have HPO : Hid (∀ g0 q0 W, Below w.heap.size w W → Lies cc W g0 (stackF l0) → Calls Try.prog 6 #[.slice A1 l1.length c1, .slice (some ⟨g0, 0, none⟩) (stackF l0).length q0] W fun e w' => ∃ v, e = .returned v ∧ OwnS wc w' W.heap.size 54 3 v (possL (stackF l0) (ordF l1 (0, 0))) ∧ Below W.heap.size W w') := fun g0 q0 W hW K => A2Possible_any A1 c1 l1 g0 q0 (stackF l0) W (hr1.below hW) hb1 (by omega) K (by have := hF.n5; omega)
  have HOR : Hid (∀ W, Below w.heap.size w W → Calls Try.prog 28 #[.slice A0 l0.length c0] W fun e w' => ∃ v, e = .returned v ∧ OwnS wc w' W.heap.size 54 3 v (ordF l0 (0, 0)) ∧ Below W.heap.size W w') := fun W hW => A2Order_any A0 c0 l0 W (hr0.below hW) hb0 (by omega)
  have HO2 := Lib.hid (ordF_ok l0 (0, 0))
  have ho4 := ordF_len l0 (0, 0)
  clear hr0 hr1 hb0 hb1 hL
  generalize ordF l0 (0, 0) = o2 at *
  generalize stackF l0 = lc at *
  generalize possL lc (ordF l1 (0, 0)) = l at *
  have h5 := hF.n5
  have h4 := hF.l4
  replace hF := Lib.hid hF
  have H0 := Lib.hid (Below.refl w.heap.size w)
  go_enter Try.func3, Try.ntmps3
  go_upto_region 4 with (first | (go_at_call 4; (refine HL.out.mono ?_); rintro e w1 ⟨rfl, rfl⟩) | (go_at_call 5; refine HST.out.mono ?_; rintro e w1 ⟨v1, rfl, O1, hb⟩; obtain ⟨g5, q5, rfl, K0, -, -, hq5⟩ := O1.lies; replace K0 := Lib.hid K0; replace H0 := Lib.hid (bstep H0.out hb); clear O1 hb))
  clear HL HST
  go_upto_region 5 with (go_at_call 6; refine (HPO.out g5 q5 w1 H0.out K0.out).mono ?_; rintro e w2 ⟨v2, rfl, O2, hb⟩; obtain ⟨g6, q6, rfl, K1, -, -, hq6⟩ := O2.lies; replace K1 := Lib.hid K1; replace K0 := Lib.hid (K0.out.below hb); replace H0 := Lib.hid (bstep H0.out hb); clear O2 hb)
  clear HPO
  go_upto_region 6 with (go_at_call 7; refine (FewestOpen_any g5 q5 lc g6 q6 l w2 K0.out K1.out (by omega) (by omega)).mono ?_; rintro e w3 ⟨v3, rfl, O3, hb⟩; rw [hF.out.few] at O3 ⊢; obtain ⟨A3, q3, rfl, -, R3⟩ := O3.rd; rw [fl_iv] at R3; replace R3 := Lib.hid R3; replace K0 := Lib.hid (K0.out.below hb); replace K1 := Lib.hid (K1.out.below hb); replace H0 := Lib.hid (bstep H0.out hb); clear O3 hb)
  go_upto_region 7 with (go_at_call 8; refine (sFewestOpen_own g5 q5 lc g6 q6 l w3 K0.out K1.out (by omega) (by omega) hF.out.fill hF.out.ask hF.out.lk).mono ?_; rintro e w4 ⟨v4, rfl, O4, hb⟩; rw [hF.out.few] at O4 ⊢; obtain ⟨g4, q4, rfl, K2, -, -, hq4⟩ := O4.lies; replace K2 := Lib.hid K2; replace R3 := Lib.hid (R3.out.below hb); replace K0 := Lib.hid (K0.out.below hb); replace K1 := Lib.hid (K1.out.below hb); replace H0 := Lib.hid (bstep H0.out hb); clear O4 hb)
  go_upto_region 8 with (go_at_call 9; refine (GreedyOpen_any g5 q5 lc g6 q6 l w4 K0.out K1.out (by omega) (by omega)).mono ?_; rintro e w5 ⟨v5, rfl, O5, hb⟩; rw [hF.out.greedy] at O5 ⊢; obtain ⟨A5, p5, rfl, -, R5⟩ := O5.rd; rw [fl_iv] at R5; replace R5 := Lib.hid R5; replace K0 := Lib.hid (K0.out.below hb); replace K1 := Lib.hid (K1.out.below hb); replace K2 := Lib.hid (K2.out.below hb); replace R3 := Lib.hid (R3.out.below hb); replace H0 := Lib.hid (bstep H0.out hb); clear O5 hb)
  go_upto_region 9 with (go_at_call 10; refine (sGreedyOpen_own g5 q5 lc g6 q6 l w5 K0.out K1.out (by omega) (by omega) hF.out.fill hF.out.ask hF.out.lk).mono ?_; rintro e w6 ⟨v6, rfl, O6, hb⟩; rw [hF.out.greedy] at O6 ⊢; obtain ⟨g7, q7, rfl, K3, -, -, hq7⟩ := O6.lies; replace K3 := Lib.hid K3; replace K0 := Lib.hid (K0.out.below hb); replace K1 := Lib.hid (K1.out.below hb); replace K2 := Lib.hid (K2.out.below hb); replace R3 := Lib.hid (R3.out.below hb); replace R5 := Lib.hid (R5.out.below hb); replace H0 := Lib.hid (bstep H0.out hb); clear O6 hb)
  go_upto_region 10 with (go_at_call 11; refine (OpenBound_any g5 q5 lc g6 q6 l w6 K0.out K1.out (by omega) (by omega)).mono ?_; rintro e w7 ⟨rfl, hb⟩; rw [hF.out.bound]; replace K0 := Lib.hid (K0.out.below hb); replace K1 := Lib.hid (K1.out.below hb); replace K2 := Lib.hid (K2.out.below hb); replace K3 := Lib.hid (K3.out.below hb); replace R3 := Lib.hid (R3.out.below hb); replace R5 := Lib.hid (R5.out.below hb); replace H0 := Lib.hid (bstep H0.out hb); clear hb)
  go_upto_region 11 with (go_at_call 12; refine (sOpenBound_any g5 q5 lc g6 q6 l w7 K0.out K1.out hq6 (by omega) (by omega)).mono ?_; rintro e w8 ⟨rfl, hb⟩; rw [hF.out.bound]; replace K0 := Lib.hid (K0.out.below hb); replace K1 := Lib.hid (K1.out.below hb); replace K2 := Lib.hid (K2.out.below hb); replace K3 := Lib.hid (K3.out.below hb); replace R3 := Lib.hid (R3.out.below hb); replace R5 := Lib.hid (R5.out.below hb); replace H0 := Lib.hid (bstep H0.out hb); clear hb)
  have HD := Lib.hid (fewS_good (lc := lc) (l := l))
  have HDok := Lib.hid (few_ok hF.out.lk)
  have HM := finG_spec hF.out.lk _ [] (Good.nil _) rfl
  have HMok := Lib.hid HM.2.1
  have HMg := Lib.hid HM.1
  clear HM
  have hdl := HD.out.le
  have hml := HMg.out.le
  have hbd := bnd_few hF.out.lk l.length (Nat.le_refl _)
  have hdm := few_len HMg.out HMok.out
  have hs0 := Lib.hid hF.out.sum0
  have HGA := Lib.hid (fun k hk => greedy_at hF.out.ok hF.out.lk (k := k) hk)
  have HFL := Lib.hid (fun k hk => @few_less lc l k hk)
  have HFA := Lib.hid (few_asc (lc := lc) (l := l))
  have HFO := Lib.hid hF.out.fillO
  have hsw := sumW_le l
  generalize (fewS lc l).1 = due at *
  generalize finG lc l [] = model at *
  generalize bndK lc l l.length = bd at *
  obtain ⟨sw, hsw0⟩ : ∃ x, x = sumW l := ⟨_, rfl⟩
  have hwl := hF.out.wanted
  rw [← hsw0] at hsw hs0 hwl
  have HSW := Lib.hid hsw0
  replace hwl := Lib.hid hwl
  clear hsw0
  go_upto_region 12 with (go_at_call 13; refine (CheckOpen_any g5 q5 lc g6 q6 l g4 q4 due w8 K0.out K1.out K2.out hq4 (by omega) (by omega) (by omega)).mono ?_; rintro e w9 ⟨rfl, hb⟩; rw [hF.out.check HD.out.inn, HDok.out]; replace K0 := Lib.hid (K0.out.below hb); replace K1 := Lib.hid (K1.out.below hb); replace K2 := Lib.hid (K2.out.below hb); replace K3 := Lib.hid (K3.out.below hb); replace R3 := Lib.hid (R3.out.below hb); replace R5 := Lib.hid (R5.out.below hb); replace H0 := Lib.hid (bstep H0.out hb); clear hb)
  go_upto_region 13 with (go_at_call 13; refine (CheckOpen_any g5 q5 lc g6 q6 l g7 q7 model w9 K0.out K1.out K3.out hq7 (by omega) (by omega) (by omega)).mono ?_; rintro e w10 ⟨rfl, hb⟩; rw [hF.out.check HMg.out.inn, HMok.out]; replace K0 := Lib.hid (K0.out.below hb); replace K1 := Lib.hid (K1.out.below hb); replace K2 := Lib.hid (K2.out.below hb); replace K3 := Lib.hid (K3.out.below hb); replace R3 := Lib.hid (R3.out.below hb); replace R5 := Lib.hid (R5.out.below hb); replace H0 := Lib.hid (bstep H0.out hb); clear hb)
  go_upto_region 14 with (go_at_call 14; refine (WantedIn_any g6 0 q6 l w10 K1.out.c K1.out.lt (by omega)).mono ?_; rintro e w11 ⟨rfl, hb⟩; rw [hwl.out]; replace K0 := Lib.hid (K0.out.below hb); replace K1 := Lib.hid (K1.out.below hb); replace K2 := Lib.hid (K2.out.below hb); replace K3 := Lib.hid (K3.out.below hb); replace R3 := Lib.hid (R3.out.below hb); replace R5 := Lib.hid (R5.out.below hb); replace H0 := Lib.hid (bstep H0.out hb); clear hb)
  have hn1 : ¬ (due.length : Int) < bd := by omega
  have hn2 : ¬ (model.length : Int) < (due.length : Int) := by omega
  have hn3 : ¬ model.length < due.length := by omega
  have hs1 : ((due.length : Int) == 0) = (sw == 0) := by
    rw [Bool.eq_iff_iff, beq_iff_eq, beq_iff_eq]; exact hs0.out
  have HA1 : Hid (∀ W, Below w11.heap.size w11 W → Calls Try.prog 15 #[.slice A3 due.length q3, .slice (some ⟨g4, 0, none⟩) due.length q4] W fun e w' => e = .returned (.bool true) ∧ Below W.heap.size W w') := fun W hW => A2Same_refl A3 _ q3 q4 due W (R3.out.below hW) (by have := (K2.out.below hW).rd; rwa [fl_iv] at this) (by omega)
  have HA2 : Hid (∀ W, Below w11.heap.size w11 W → Calls Try.prog 15 #[.slice A5 model.length p5, .slice (some ⟨g7, 0, none⟩) model.length q7] W fun e w' => e = .returned (.bool true) ∧ Below W.heap.size W w') := fun W hW => A2Same_refl A5 _ p5 q7 model W (R5.out.below hW) (by have := (K3.out.below hW).rd; rwa [fl_iv] at this) (by omega)
  have HX := Below.refl w11.heap.size w11
  go_upto_region 16 with (first | (go_at_call 15; with_reducible refine (HA1.out _ HX).mono ?_; rintro e w12 ⟨rfl, hb⟩; replace K0 := Lib.hid (K0.out.below hb); replace K1 := Lib.hid (K1.out.below hb); replace K2 := Lib.hid (K2.out.below hb); replace K3 := Lib.hid (K3.out.below hb); replace R3 := Lib.hid (R3.out.below hb); replace R5 := Lib.hid (R5.out.below hb); replace H0 := Lib.hid (bstep H0.out hb); replace HX := bstep HX hb; clear hb) | (go_at_call 15; with_reducible refine (HA2.out _ HX).mono ?_; rintro e w13 ⟨rfl, hb⟩; replace K0 := Lib.hid (K0.out.below hb); replace K1 := Lib.hid (K1.out.below hb); replace K2 := Lib.hid (K2.out.below hb); replace K3 := Lib.hid (K3.out.below hb); replace R3 := Lib.hid (R3.out.below hb); replace R5 := Lib.hid (R5.out.below hb); replace H0 := Lib.hid (bstep H0.out hb); replace HX := bstep HX hb; clear hb))
  have hd100 : due.length ≤ 5 := by omega
  clear hn1 hn2 hn3 hs1 HX HA1 HA2
  go_wp2
  have KB := Lib.hid (⟨K0.out, K1.out, K2.out⟩ : Lies cc w13 g5 lc ∧ Lies wc w13 g6 l ∧ Lies iv w13 g4 due)
  go_loopw [25] (fun i wr => ∃ k : Nat, k ≤ due.length ∧ i = .int .i64 (k : Int) ∧ Hid (Below w13.heap.size w13 wr)) (fun i _ => due.length - (intOf i).toNat)
  case atStart => exact ⟨0, Nat.zero_le _, rfl, Below.refl _ _⟩
  case round =>
    obtain ⟨k, hk, rfl, HW⟩ := hrel
    by_cases hlt : k < due.length
    · as_aux_lemma =>
      have hlt2 : (k : Int) < (due.length : Int) := by omega
      have hw1 : IntKind.i64.wrap ((k : Int) + 1) = (k : Int) + 1 := by rw [IntKind.wrap_i64]; omega
      have hw2 : ((k : Int) + 1).toNat = k + 1 := by omega
      have hw4 : (0 : Int) ≤ (k : Int) + 1 := by omega
      have hw5 : (k : Int) + 1 ≤ (due.length : Int) := by omega
      have hw6 : k ≤ q4 := by omega
      have hw7 : k + 1 ≤ due.length := by omega
      have hw8 : (k : Int) ≤ (q4 : Int) := by omega
      go_upto_region 19 with fail
      have hq0 : Below w13.heap.size w13 (World.drew wr) := HW.out.drew
      refine e_start ⟨fun w2 => Below w13.heap.size w13 w2, fun w2 w3 h hb => bstep h hb⟩ ⟨fun w2 => True, fun w2 w3 h hb => trivial⟩ hq0 trivial 11 rfl (by kernel_rfl) ?_
      haveI : Nonempty {w2 : World // Fact.p ⟨fun w2 => Below w13.heap.size w13 w2, fun w2 w3 h hb => bstep h hb⟩ w2} := ⟨⟨_, hq0⟩⟩
      (refine e_quiet 1 (by kernel_rfl) rfl (fun K hK => ?_); first | ((first | fail); clear hK K) | (go_simp; first | (refine hK _ ?_; clear hK K) | (apply Exists.intro; refine ⟨?_, hK _ ?_⟩; (intros; first | fail); clear hK K)))
      (refine e_quiet 2 (by kernel_rfl) rfl (fun K hK => ?_); first | ((first | fail); clear hK K) | (go_simp; first | (refine hK _ ?_; clear hK K) | (apply Exists.intro; refine ⟨?_, hK _ ?_⟩; (intros; first | fail); clear hK K)))
      (refine e_quiet 3 (by kernel_rfl) rfl (fun K hK => ?_); first | ((first | fail); clear hK K) | (go_simp; first | (refine hK _ ?_; clear hK K) | (apply Exists.intro; refine ⟨?_, hK _ ?_⟩; (intros; first | fail); clear hK K)))
      (refine e_quiet 5 (by kernel_rfl) rfl (fun K hK => ?_); first | ((first | fail); clear hK K) | (go_simp; first | (refine hK _ ?_; clear hK K) | (apply Exists.intro; refine ⟨?_, hK _ ?_⟩; (intros; first | fail); clear hK K)))
      (refine e_quiet 6 (by kernel_rfl) rfl (fun K hK => ?_); first | ((first | fail); clear hK K) | (go_simp; first | (refine hK _ ?_; clear hK K) | (apply Exists.intro; refine ⟨?_, hK _ ?_⟩; (intros; first | fail); clear hK K)))
      (refine e_quiet 7 (by kernel_rfl) rfl (fun K hK => ?_); first | ((first | fail); clear hK K) | (go_simp; first | (refine hK _ ?_; clear hK K) | (apply Exists.intro; refine ⟨?_, hK _ ?_⟩; (intros; first | fail); clear hK K)))
      (refine e_quiet 8 (by kernel_rfl) rfl (fun K hK => ?_); first | ((first | fail); clear hK K) | (go_simp; first | (refine hK _ ?_; clear hK K) | (apply Exists.intro; refine ⟨?_, hK _ ?_⟩; (intros; first | fail); clear hK K)))
      refine e_alone 0 (by kernel_rfl) rfl rfl (fun K hK wx hP hG => ?_)
      have hP' : Below w13.heap.size w13 wx := hP
      go_simp
      have hb10 : Below wx.heap.size wx (wx.alloc (.cells #[] 2)) := by go_grown
      refine e_val ⟨fun w2 => OwnS iv w2 w13.heap.size 2 1 (.slice (some ⟨wx.heap.size, 0, none⟩) 0 0) [], fun w2 w3 h hb => h.kept hb⟩ rfl (bstep hP' hb10) (OwnS.lit hP'.size) (hK _ _ ?_)
      clear hK K hP hG hP' hb10
      generalize wx.heap.size = g10
      refine e_alone 4 (by kernel_rfl) rfl rfl (fun K hK wy hP hG => ?_)
      have hP' : Below w13.heap.size w13 wy := hP
      have hG' : OwnS iv wy w13.heap.size 2 1 (.slice (some ⟨g10, 0, none⟩) 0 0) [] := hG
      obtain ⟨v1, w1', hrun, O1, hb1⟩ := app_n w13.heap.size wy _ [] (due.take k) g4 0 k q4 (by simp; omega) hG' (CAt_take (KB.out.2.2.below hP').c) hP'.size (by simp; omega) 28
      rw [List.nil_append] at O1
      refine e_val ⟨fun w2 => OwnS iv w2 w13.heap.size 2 1 v1 (due.take k), fun w2 w3 h hb => h.kept hb⟩ (app_exec _ _ _ rfl _ _ rfl rfl v1 hrun) (hP'.trans hb1) O1 (hK _ _ ?_)
      clear hK K hP hG hP' hG' hrun O1 hb1 w1' wx wy
      refine e_alone 9 (by kernel_rfl) rfl rfl (fun K hK wy hP hG => ?_)
      have hP' : Below w13.heap.size w13 wy := hP
      have hG' : OwnS iv wy w13.heap.size 2 1 v1 (due.take k) := hG
      obtain ⟨off, hoff, hCd⟩ : ∃ off, (if q4 = k + 1 then (some ⟨g4, 0, none⟩ : Option Addr) else some ⟨g4, k + 1, none⟩) = some ⟨g4, off, none⟩ ∧ CAt wy g4 off (fl iv (due.drop (k + 1))) := by
        have hD := CAt_drop (k := k + 1) (KB.out.2.2.below hP').c
        rw [Nat.zero_add] at hD
        by_cases hq : q4 = k + 1
        · refine ⟨0, if_pos hq, ?_⟩
          rw [List.drop_of_length_le (by omega)]
          intro i v hi
          simp [fl] at hi
        · exact ⟨k + 1, if_neg hq, hD⟩
      obtain ⟨v2, w2', hrun, O2, hb2⟩ := app_n w13.heap.size wy v1 (due.take k) (due.drop (k + 1)) g4 off (due.length - (k + 1)) (q4 - (k + 1)) (by simp) hG' hCd hP'.size (by simp; omega) 28
      rw [← hoff] at hrun
      refine e_val ⟨fun w2 => OwnS iv w2 w13.heap.size 2 1 v2 (due.take k ++ due.drop (k + 1)), fun w2 w3 h hb => h.kept hb⟩ (app_exec _ _ _ rfl _ _ rfl rfl v2 hrun) (hP'.trans hb2) O2 (hK _ _ ?_)
      clear hK K hP hG hP' hG' hrun O2 hb2 w2' wy hCd hoff
      (refine e_quiet 10 (by kernel_rfl) rfl (fun K hK => ?_); first | ((first | fail); clear hK K) | (go_simp; first | (refine hK _ ?_; clear hK K) | (apply Exists.intro; refine ⟨?_, hK _ ?_⟩; (intros; first | fail); clear hK K)))
      refine e_done (by kernel_rfl) ?_
      rintro w14 hP hG
      have hP' := Lib.hid (show Below w13.heap.size w13 w14 from hP)
      have hG' := Lib.hid (show OwnS iv w14 w13.heap.size 2 1 v2 (due.take k ++ due.drop (k + 1)) from hG)
      clear hP hG hq0
      have hlk : due.take k ++ due.drop (k + 1) ⊆ due := fun x hx => (List.mem_append.1 hx).elim List.mem_of_mem_take List.mem_of_mem_drop
      have hnn := HFL.out k hlt
      have hll : (due.take k ++ due.drop (k + 1)).length ≤ 5 := by simp; omega
      have HIN := Lib.hid (fun x (hx : x ∈ due.take k ++ due.drop (k + 1)) => HD.out.inn x (hlk hx))
      generalize due.take k ++ due.drop (k + 1) = less at *
      obtain ⟨g8, q8, rfl, K8, -, -, hq8⟩ := hG'.out.lies
      replace K8 := Lib.hid K8
      have hemp : (leftL lc l less).isEmpty = false := by
        cases h : leftL lc l less with
        | nil => exact absurd h hnn
        | cons _ _ => rfl
      replace hemp := Lib.hid hemp
      replace hnn := Lib.hid hnn
      clear hG' hlk
      go_upto_region 21 with (go_at_call 13; refine (CheckOpen_any g5 q5 lc g6 q6 l g8 q8 less w14 (KB.out.1.below hP'.out) (KB.out.2.1.below hP'.out) K8.out hq8 (by omega) (by omega) (by omega)).mono ?_; rintro e w15 ⟨rfl, hb⟩; rw [hF.out.check HIN.out, hemp.out]; replace K8 := Lib.hid (K8.out.below hb); replace hP' := Lib.hid (bstep hP'.out hb); clear hb)
      go_upto_region 22 with (go_at_call 16; refine (LackBehind_any g5 q5 lc g6 q6 l g8 q8 less w15 (KB.out.1.below hP'.out) (KB.out.2.1.below hP'.out) K8.out hq8 (by omega) (by omega) (by omega)).mono ?_; rintro e w16 ⟨v16, rfl, O16, hb⟩; rw [hF.out.lack HIN.out] at O16 ⊢; obtain ⟨A16, q16, rfl, -⟩ := O16.rd; replace hP' := Lib.hid (bstep hP'.out hb); clear hb O16)
      have hlp : 0 < (leftL lc l less).length := List.length_pos_iff.2 hnn.out
      have hlp2 : ¬ (leftL lc l less).length < 1 := by omega
      have hlp3 : ¬ ((leftL lc l less).length : Int) < 1 := by omega
      generalize (leftL lc l less).length = lln at *
      have K2x := KB.out.2.2.below hP'.out
      by_cases hk0 : k = 0
      · have hk1 : ¬ (0 : Int) < (k : Int) := by omega
        have H := Below.refl w16.heap.size w16
        refine wp_region_qB (by kernel_rfl) (by kernel_rfl) ?_
        (repeat (first | fail | (apply qB_step; intro K hK; go_simp; first | (refine hK _ ?_; clear hK K) | (apply Exists.intro; refine ⟨fun _ => ?_, hK _ ?_⟩; (first | fail); clear hK K))))
        refine qB_nil ?_
        intro w1 hw1
        replace H := bstep H hw1
        clear hw1
        go_wp2
        go_roundw
        case rel => exact ⟨k + 1, by omega, by go_num, bstep hP'.out H⟩
        case measure => simp [intOf]; omega
      · obtain ⟨j, hj⟩ : ∃ j, k = j + 1 := ⟨k - 1, by omega⟩
        have hk1 : (0 : Int) < (k : Int) := by omega
        have hk1n : 0 < k := by omega
        have hk1b : (decide ((0 : Int) < (k : Int))) = true := decide_eq_true hk1
        have hv1 : IntKind.i64.wrap (j : Int) = (j : Int) := by rw [IntKind.wrap_i64]; omega
        have hv2 : (k : Int) - 1 = (j : Int) := by omega
        have hv4 : (j : Int) < (due.length : Int) := by omega
        have hv5 : j < due.length := by omega
        have x1 := rd_at (by have := K2x.c; rwa [fl_iv] at this) hlt
        have x2 := rd_at (by have := K2x.c; rwa [fl_iv] at this) hv5
        have hxy : due.getD j 0 < due.getD k 0 := by
          have := List.pairwise_iff_getElem.1 HFA.out.1 j k (by omega) hlt (by omega)
          rw [List.getD_eq_getElem?_getD, List.getD_eq_getElem?_getD, List.getElem?_eq_getElem hlt, List.getElem?_eq_getElem hv5]
          exact this
        rw [Nat.zero_add] at x1 x2
        replace hj := Lib.hid hj
        generalize due.getD j 0 = x at *
        generalize due.getD k 0 = y at *
        have hxy2 : ¬ y ≤ x := by omega
        have y1 := cell_regrown x1
        have y2 := cell_regrown x2
        clear K2x x1 x2
        have H := Below.refl w16.heap.size w16
        refine wp_region_qB (by kernel_rfl) (by kernel_rfl) ?_
        (repeat (first | fail | (apply qB_step; intro K hK; go_simp; first | (refine hK _ ?_; clear hK K) | (apply Exists.intro; refine ⟨fun _ => ?_, hK _ ?_⟩; (first | fail); clear hK K))))
        refine qB_nil ?_
        intro w1 hw1
        replace H := bstep H hw1
        clear hw1
        clear y1 y2
        go_wp2
        go_roundw
        case rel => exact ⟨k + 1, by omega, by go_num, bstep hP'.out H⟩
        case measure => simp [intOf]; omega
    · as_aux_lemma =>
      obtain rfl : k = due.length := by omega
      have KC := Lib.hid (⟨K0.out.below HW.out, K1.out.below HW.out, K2.out.below HW.out, K3.out.below HW.out⟩ : Lies cc wr g5 lc ∧ Lies wc wr g6 l ∧ Lies iv wr g4 due ∧ Lies iv wr g7 model)
      have H1 := Lib.hid (bstep H0.out HW.out)
      clear KB K0 K1 K2 K3 R3 R5 HFL HFA
      go_wp2
      obtain ⟨wb, hwb⟩ : ∃ wb, wb = wr := ⟨_, rfl⟩
      subst hwb
      go_loopw [31] (fun i wr => ∃ k : Nat, k ≤ model.length ∧ i = .int .i64 (k : Int) ∧ Hid (Below wb.heap.size wb wr)) (fun i _ => model.length - (intOf i).toNat)
      case atStart => exact ⟨0, Nat.zero_le _, rfl, Below.refl _ _⟩
      case round =>
        clear HW
        obtain ⟨k, hk, rfl, HW⟩ := hrel
        by_cases hlt : k < model.length
        · as_aux_lemma =>
          have hlt2 : (k : Int) < (model.length : Int) := by omega
          have hw6 : k ≤ q7 := by omega
          have hw8 : (k : Int) ≤ (q7 : Int) := by omega
          have hw4 : (0 : Int) ≤ (k : Int) := by omega
          obtain ⟨j, hj, hmk, huj, hlne, hbest⟩ := HGA.out k hlt
          have hml2 : (model.take k).length = k := by simp; omega
          have hin := fun x (hx : x ∈ model.take k) => HMg.out.inn x (List.mem_of_mem_take hx)
          have HLB : Hid (∀ W, Below wb.heap.size wb W → Calls Try.prog 17 #[.slice (some ⟨g5, 0, none⟩) lc.length q5, .slice (some ⟨g6, 0, none⟩) l.length q6, .slice (some ⟨g7, 0, none⟩) k q7] W fun e w' => ∃ v, e = .returned (.tuple #[v, .int .i64 0]) ∧ OwnS wc w' W.heap.size 54 3 v (leftL lc l (model.take k)) ∧ Below W.heap.size W w') := fun W hW => by
            have := sLackBehind_own g5 q5 lc g6 q6 l g7 q7 (model.take k) W (KC.out.1.below hW) (KC.out.2.1.below hW) ⟨CAt_take (KC.out.2.2.2.below hW).c, (KC.out.2.2.2.below hW).lt⟩ (by omega) (by omega) (by omega) (by omega) (hF.out.open0 hin)
            rw [hml2, hF.out.lack hin] at this
            exact this
          have hlok : ordOk (leftL lc l (model.take k)) = true := lackL_ok hF.out.ok
          replace hlok := Lib.hid hlok
          have hlpos : 0 < (leftL lc l (model.take k)).length := List.length_pos_iff.2 hlne
          have hll8 : (leftL lc l (model.take k)).length ≤ 8 := ordOk_len hlok.out
          replace hbest := Lib.hid hbest
          have hcok : Hid (∀ i, i < lc.length → lc[i]!.ok = true) := fun i hi => by
            have h2 := hF.out.st
            simp only [stackOk, Bool.and_eq_true, decide_eq_true_iff, List.all_eq_true] at h2
            rw [getB hi]
            exact h2.2 _ (List.getElem_mem hi)
          clear hlne
          generalize leftL lc l (model.take k) = left at *
          have hlp1 : ¬ left.length < 1 := by omega
          have hlp2 : ¬ (left.length : Int) < 1 := by omega
          go_upto_region 28 with (go_at_call 17; refine (HLB.out _ HW.out).mono ?_; rintro e w20 ⟨v20, rfl, O20, hb⟩; obtain ⟨g9, q9, rfl, K9, -⟩ := O20.lies; replace K9 := Lib.hid K9; replace HW := Lib.hid (bstep HW.out hb); clear hb O20)
          clear HLB
          go_upto_region 30 with fail
          have x1 := rd_at (by have := (KC.out.2.2.2.below HW.out).c; rwa [fl_iv] at this) hlt
          rw [Nat.zero_add, hmk] at x1
          have hjl : (j : Int) < (lc.length : Int) := by omega
          have HCj := (KC.out.1.below HW.out).c.el cc_length hj
          rw [Nat.zero_add] at HCj
          replace HCj := Lib.hid HCj
          have hux : usefulR lc[j]! left = (useW lc[j]! left, 0) := by rw [usefulR, if_pos (by rw [hcok.out j hj, hlok.out]; rfl)]
          replace hux := Lib.hid hux
          generalize lc[j]! = cj at *
          go_upto_region 31 with (first | (with_reducible refine wp_load_CAt rfl _ _ rfl _ _ rfl (cc cj) HCj.out _ Try.underlying44 rfl (infoCl cj) ?_) | (go_at_call 18; refine (UsefulIn_any g9 0 q9 cj left w20 K9.out.c K9.out.lt (by omega)).mono ?_; rintro e w21 ⟨rfl, hb⟩; rw [hux.out]; replace K9 := Lib.hid (K9.out.below hb); replace HW := Lib.hid (bstep HW.out hb); clear hb))
          generalize useW cj left = uj at *
          have hu1 : ¬ uj < 1 := by omega
          go_upto_region 33 with fail
          clear x1 HCj hux hlp1 hlp2
          go_wp2
          go_loopw [36] (fun i wr => ∃ m : Nat, m ≤ lc.length ∧ i = .int .i64 (m : Int) ∧ Hid (Below w21.heap.size w21 wr)) (fun i _ => lc.length - (intOf i).toNat)
          case atStart => exact ⟨0, Nat.zero_le _, rfl, Below.refl _ _⟩
          case round =>
            obtain ⟨m, hm, rfl, HV⟩ := hrel
            by_cases hmt : m < lc.length
            · as_aux_lemma =>
              have hmt2 : (m : Int) < (lc.length : Int) := by omega
              have HW2 := Lib.hid (bstep HW.out HV.out)
              have HCm := (KC.out.1.below HW2.out).c.el cc_length hmt
              rw [Nat.zero_add] at HCm
              replace HCm := Lib.hid HCm
              have hum : usefulR lc[m]! left = (useW lc[m]! left, 0) := by rw [usefulR, if_pos (by rw [hcok.out m hmt, hlok.out]; rfl)]
              replace hum := Lib.hid hum
              have hbm := Lib.hid (hbest.out m hmt)
              generalize lc[m]! = cm at *
              generalize useW cm left = um at *
              have HV2 := Lib.hid (bstep HW.out HV.out)
              have HAS : Hid (∀ W, Below wb.heap.size wb W → Calls Try.prog 20 #[.slice (some ⟨g7, 0, none⟩) k q7, .int .i64 (m : Int)] W fun e w' => e = .returned (.bool ((model.take k).contains (m : Int))) ∧ W = w') := fun W hW => A2Has_any (some ⟨g7, 0, none⟩) q7 k (model.take k) (m : Int) W (by have := (show Lies iv W g7 (model.take k) from ⟨CAt_take (KC.out.2.2.2.below hW).c, (KC.out.2.2.2.below hW).lt⟩).rd; rwa [fl_iv] at this) hml2 (by omega)
              cases hc : (model.take k).contains (m : Int) with
              | true =>
                rw [hc] at HAS
                clear hbm
                go_upto_region 37 with (first | (with_reducible refine wp_load_CAt rfl _ _ rfl _ _ rfl (cc cm) HCm.out _ Try.underlying44 rfl (infoCl cm) ?_) | (go_at_call 19; refine (sUsefulIn_any g9 0 q9 cm left wr (K9.out.below HV.out).c (K9.out.below HV.out).lt (by omega)).mono ?_; rintro e w22 ⟨rfl, hb⟩; rw [hum.out]; replace HV := Lib.hid (bstep HV.out hb); replace HV2 := Lib.hid (bstep HW.out HV.out); clear hb))
                clear HCm hum
                by_cases hum0 : 0 < um
                · go_wp2_with (go_at_call 20; with_reducible refine (HAS.out _ HV2.out).mono ?_; rintro e w23 ⟨rfl, rfl⟩)
                  go_roundw
                  case rel => exact ⟨m + 1, by omega, by go_num, HV⟩
                  case measure => simp [intOf]; omega
                · go_wp2_with (go_at_call 20; with_reducible refine (HAS.out _ HV2.out).mono ?_; rintro e w23 ⟨rfl, rfl⟩)
                  go_roundw
                  case rel => exact ⟨m + 1, by omega, by go_num, HV⟩
                  case measure => simp [intOf]; omega
              | false =>
                have hbb := hbm.out (by simpa using hc)
                rw [hc] at HAS
                clear hbm
                have hb1 : ¬ uj < um := by omega
                go_upto_region 37 with (first | (with_reducible refine wp_load_CAt rfl _ _ rfl _ _ rfl (cc cm) HCm.out _ Try.underlying44 rfl (infoCl cm) ?_) | (go_at_call 19; refine (sUsefulIn_any g9 0 q9 cm left wr (K9.out.below HV.out).c (K9.out.below HV.out).lt (by omega)).mono ?_; rintro e w22 ⟨rfl, hb⟩; rw [hum.out]; replace HV := Lib.hid (bstep HV.out hb); replace HV2 := Lib.hid (bstep HW.out HV.out); clear hb))
                clear HCm hum
                by_cases hue : um = uj
                · have hjm := hbb.2 hue
                  subst hue
                  have x1 := rd_at (by have := (KC.out.2.2.2.below HV2.out).c; rwa [fl_iv] at this) hlt
                  rw [Nat.zero_add, hmk] at x1
                  have hjm2 : ¬ (m : Int) < (j : Int) := by omega
                  clear hbb hb1
                  go_wp2_with (go_at_call 20; with_reducible refine (HAS.out _ HV2.out).mono ?_; rintro e w23 ⟨rfl, rfl⟩)
                  go_roundw
                  case rel => exact ⟨m + 1, by omega, by go_num, HV⟩
                  case measure => simp [intOf]; omega
                · clear hbb
                  go_wp2_with (go_at_call 20; with_reducible refine (HAS.out _ HV2.out).mono ?_; rintro e w23 ⟨rfl, rfl⟩)
                  go_roundw
                  case rel => exact ⟨m + 1, by omega, by go_num, HV⟩
                  case measure => simp [intOf]; omega
            · obtain rfl : m = lc.length := by omega
              go_wp2
              go_roundw
              case rel => exact ⟨k + 1, by omega, by go_num, bstep HW.out HV.out⟩
              case measure => simp [intOf]; omega
        · as_aux_lemma =>
          obtain rfl : k = model.length := by omega
          have HQ := Lib.hid (bstep H1.out HW.out)
          obtain ⟨wd, hwd⟩ : ∃ wd, wd = wr := ⟨_, rfl⟩
          subst hwd
          have KD := Lib.hid (⟨KC.out.1.below HW.out, KC.out.2.1.below HW.out, KC.out.2.2.1.below HW.out⟩ : Lies cc wd g5 lc ∧ Lies wc wd g6 l ∧ Lies iv wd g4 due)
          have HZ := Lib.hid (Below.refl wd.heap.size wd)
          have hTO := hF.out.out HD.out.inn HDok.out
          have hO0 := Lib.hid (hF.out.open0 HD.out.inn)
          rw [outL_bots hF.out.ok HD.out HDok.out] at hTO
          have hol := outL_len lc l due
          have hbl := botsL_len (ok_nonneg hF.out.ok)
          have hMI := Lib.hid (fun j hj => out_miss hF.out.ok HD.out HDok.out (j := j) hj)
          have hOT : Hid (∀ i, i < lc.length → (i : Int) ∉ due → (outL lc l due).1[i]! = lc[i]!) := fun i hi hn => out_other HD.out hi hn l.length
          have hCN : Hid (∀ j, j < l.length → (cntL (packL (botsL l)) l[j]!.b : Int) = l[j]!.n) := fun i hi => by
            have h := hF.out.ok
            have hm : l[i]! ∈ l := by rw [getB hi]; exact List.getElem_mem hi
            have hk : okK l l.length := by simp only [ordOk, Bool.and_eq_true, decide_eq_true_iff] at h; exact h.1
            have h1 := (Wt.ok_n (ordOk_all h _ hm)).1
            rw [packL_cnt _ _ (okK_z hk hi), botsL_cnt (ordOk_str h) hm]
            omega
          have hBA := Lib.hid (fun i k (hi : i < l.length) hk => botsL_at (l := l) (i := i) (k := k) hi hk)
          have hNN := Lib.hid (fun i (hi : i < l.length) => (Wt.ok_n (ordOk_all hF.out.ok l[i]! (by rw [getB hi]; exact List.getElem_mem hi))))
          have hPL : (packL (botsL l)).length = ((botsL l).length + 11) / 12 := packK_length _ _
          rw [← HSW.out] at hbl
          clear HSW HGA
          generalize (outL lc l due).1 = st at *
          generalize packL (botsL l) = pk at *
          obtain ⟨bs, hbs⟩ : ∃ bs, bs = botsL l := ⟨_, rfl⟩
          rw [← hbs] at hTO hbl hPL
          have hBA2 : Hid (∀ i k, i < l.length → k < l[i]!.n.toNat → bs[(botsL (l.take i)).length + k]? = some l[i]!.b) := fun i k hi hk => by rw [hbs]; exact hBA.out i k hi hk
          have hBT : Hid ((botsL (l.take l.length)).length = bs.length) := by rw [Hid, List.take_length, hbs]
          have HFO2 := HFO.out
          clear hBA HFO hbs
          replace hTO := Lib.hid hTO
          replace HFO2 := Lib.hid HFO2
          subst hbl
          have hbs5 : bs.length ≤ 32768 * 4 := by omega
          replace hol := Lib.hid hol
          replace hPL := Lib.hid hPL
          go_upto_region 40 with (go_at_call 21; refine (TakeOut_own g5 q5 lc g6 q6 l g4 q4 due wd KD.out.1 KD.out.2.1 KD.out.2.2 hq4 (by omega) (by omega) (by omega) hO0.out HDok.out).mono ?_; rintro e w30 ⟨v30, u30, rfl, O30, P30, hb⟩; rw [hTO.out] at O30 P30 ⊢; replace O30 : OwnS cc w30 wd.heap.size 44 24 v30 st := O30; replace P30 : OwnS bc w30 wd.heap.size 42 2 u30 bs := P30; obtain ⟨g30, q30, rfl, L30, -, -, hq30⟩ := O30.lies; obtain ⟨g31, q31, rfl, L31, -, -, hq31⟩ := P30.lies; replace L30 := Lib.hid L30; replace L31 := Lib.hid L31; replace HZ := Lib.hid hb; clear hb O30 P30)
          go_upto_region 41 with (go_at_call 22; refine (sTakeOut_own g5 q5 lc g6 q6 l g4 q4 due w30 (KD.out.1.below HZ.out) (KD.out.2.1.below HZ.out) (KD.out.2.2.below HZ.out) hq4 (by omega) (by omega) (by omega) hO0.out HDok.out).mono ?_; rintro e w31 ⟨v31, u31, rfl, O30, P30, hb⟩; rw [hTO.out] at O30 P30 ⊢; replace O30 : OwnS cc w31 w30.heap.size 44 24 v31 st := O30; replace P30 : OwnS bc w31 w30.heap.size 42 2 u31 bs := P30; obtain ⟨g32, q32, rfl, L32, -, -, hq32⟩ := O30.lies; obtain ⟨g33, q33, rfl, L33, -, -, hq33⟩ := P30.lies; replace L32 := Lib.hid L32; replace L33 := Lib.hid L33; replace L30 := Lib.hid (L30.out.below hb); replace L31 := Lib.hid (L31.out.below hb); replace HZ := Lib.hid (bstep HZ.out hb); clear hb O30 P30)
          go_upto_region 42 with (go_at_call 23; refine (FillOrder_own g5 q5 lc g6 q6 l w31 (KD.out.1.below HZ.out) (KD.out.2.1.below HZ.out) (by omega) (by omega) hF.out.fill hF.out.ask hF.out.lk).mono ?_; rintro e w32 ⟨v32, u32, rfl, O30, P30, hb⟩; rw [HFO2.out] at O30 P30 ⊢; replace O30 : OwnS cc w32 w31.heap.size 44 24 v32 st := O30; replace P30 : OwnS cc w32 w31.heap.size 44 24 u32 pk := P30; obtain ⟨g34, q34, rfl, L34, -, -, hq34⟩ := O30.lies; obtain ⟨g35, q35, rfl, L35, -, -, hq35⟩ := P30.lies; replace L34 := Lib.hid L34; replace L35 := Lib.hid L35; replace L30 := Lib.hid (L30.out.below hb); replace L31 := Lib.hid (L31.out.below hb); replace L32 := Lib.hid (L32.out.below hb); replace L33 := Lib.hid (L33.out.below hb); replace HZ := Lib.hid (bstep HZ.out hb); clear hb O30 P30)
          clear hTO HFO2 hO0
          have hst1 : st.length ≤ 1000 := by rw [hol.out]; omega
          have HS1 : Hid (∀ W, Below w32.heap.size w32 W → Calls Try.prog 24 #[.slice (some ⟨g30, 0, none⟩) st.length q30, .slice (some ⟨g32, 0, none⟩) st.length q32] W fun e w' => e = .returned (.bool true) ∧ Below W.heap.size W w') := fun W hW => (sSameStack_any g30 0 q30 g32 0 q32 st st W (L30.out.below hW).c (L32.out.below hW).c (L30.out.below hW).lt (L32.out.below hW).lt (by omega) (by omega)).mono fun e w' ⟨he, hb⟩ => ⟨by rw [he]; simp, hb⟩
          have HS2 : Hid (∀ W, Below w32.heap.size w32 W → Calls Try.prog 24 #[.slice (some ⟨g34, 0, none⟩) st.length q34, .slice (some ⟨g32, 0, none⟩) st.length q32] W fun e w' => e = .returned (.bool true) ∧ Below W.heap.size W w') := fun W hW => (sSameStack_any g34 0 q34 g32 0 q32 st st W (L34.out.below hW).c (L32.out.below hW).c (L34.out.below hW).lt (L32.out.below hW).lt (by omega) (by omega)).mono fun e w' ⟨he, hb⟩ => ⟨by rw [he]; simp, hb⟩
          have HS3 : Hid (∀ W, Below w32.heap.size w32 W → Calls Try.prog 25 #[.slice (some ⟨g31, 0, none⟩) bs.length q31, .slice (some ⟨g33, 0, none⟩) bs.length q33] W fun e w' => e = .returned (.bool true) ∧ Below W.heap.size W w') := fun W hW => A2SameBottles_refl (some ⟨g31, 0, none⟩) (some ⟨g33, 0, none⟩) q31 q33 bs W (L31.out.below hW).rd (L33.out.below hW).rd (by omega)
          have M := Lib.hid (⟨KD.out.1.below HZ.out, KD.out.2.1.below HZ.out, KD.out.2.2.below HZ.out, L32.out, L33.out, L35.out⟩ : Lies cc w32 g5 lc ∧ Lies wc w32 g6 l ∧ Lies iv w32 g4 due ∧ Lies cc w32 g32 st ∧ Lies bc w32 g33 bs ∧ Lies cc w32 g35 pk)
          have hle1 : (st.length : Int) = (lc.length : Int) := by rw [hol.out]
          have hle2 := hol
          have hpk1 : (pk.length : Int) = ((bs.length : Int) + 11) / 12 := by
            rw [hPL.out]
            omega
          have HY := Below.refl w32.heap.size w32
          go_wp2_with (first | (go_at_call 24; with_reducible refine (HS1.out _ HY).mono ?_; rintro e w33 ⟨rfl, hb⟩; replace HY := bstep HY hb; clear hb) | (go_at_call 24; with_reducible refine (HS2.out _ HY).mono ?_; rintro e w34 ⟨rfl, hb⟩; replace HY := bstep HY hb; clear hb) | (go_at_call 25; with_reducible refine (HS3.out _ HY).mono ?_; rintro e w35 ⟨rfl, hb⟩; replace HY := bstep HY hb; clear hb))
          have HQ2 := Lib.hid (bstep (bstep HQ.out HZ.out) HY)
          clear HS1 HS2 HS3 hle1 hpk1 L30 L31 L32 L33 L34 L35 HZ KD
          replace M := Lib.hid (⟨M.out.1.below HY, M.out.2.1.below HY, M.out.2.2.1.below HY, M.out.2.2.2.1.below HY, M.out.2.2.2.2.1.below HY, M.out.2.2.2.2.2.below HY⟩ : Lies cc w34 g5 lc ∧ Lies wc w34 g6 l ∧ Lies iv w34 g4 due ∧ Lies cc w34 g32 st ∧ Lies bc w34 g33 bs ∧ Lies cc w34 g35 pk)
          clear HY HQ
          go_loopw [48, 49] (fun t i wr => ∃ k : Nat, k ≤ l.length ∧ i = .int .i64 (k : Int) ∧ t = .int .i64 ((botsL (l.take k)).length : Int) ∧ Hid (Below w34.heap.size w34 wr)) (fun _ i _ => l.length - (intOf i).toNat)
          case atStart => exact ⟨0, Nat.zero_le _, rfl, by simp [botsL], Below.refl _ _⟩
          case round =>
            obtain ⟨k, hk, rfl, rfl, HV⟩ := hrel
            by_cases hlt : k < l.length
            · as_aux_lemma =>
              have hlt2 : (k : Int) < (l.length : Int) := by omega
              have HX := (M.out.2.1.below HV.out).c.el wc_length hlt
              rw [Nat.zero_add] at HX
              have hba2 : Hid ((botsL (l.take (k + 1))).length = (botsL (l.take k)).length + l[k]!.n.toNat) := by rw [Hid, botsL_step hlt, List.length_append, List.length_replicate]
              have hmi := hMI.out k hlt
              have hcn := hCN.out k hlt
              have hba : Hid (∀ q, q < l[k]!.n.toNat → bs[(botsL (l.take k)).length + q]? = some l[k]!.b) := fun q hq => hBA2.out k q hlt hq
              have hnn := hNN.out k hlt
              have hpl : pk.length ≤ 1048576 := by rw [hPL.out]; omega
              have hA1 : Hid (∀ W, Below w34.heap.size w34 W → Calls Try.prog 26 #[.slice (some ⟨g5, 0, none⟩) lc.length q5, bv l[k]!.b] W fun e w' => e = .returned (.int .i64 (cntL lc l[k]!.b)) ∧ Below W.heap.size W w') := fun W hW => A2InCrates_any (some ⟨g5, 0, none⟩) q5 lc l[k]!.b W (M.out.1.below hW).rd (by omega)
              have hA2 : Hid (∀ W, Below w34.heap.size w34 W → Calls Try.prog 26 #[.slice (some ⟨g32, 0, none⟩) st.length q32, bv l[k]!.b] W fun e w' => e = .returned (.int .i64 (cntL st l[k]!.b)) ∧ Below W.heap.size W w') := fun W hW => A2InCrates_any (some ⟨g32, 0, none⟩) q32 st l[k]!.b W (M.out.2.2.2.1.below hW).rd (by omega)
              have hA3 : Hid (∀ W, Below w34.heap.size w34 W → Calls Try.prog 26 #[.slice (some ⟨g35, 0, none⟩) pk.length q35, bv l[k]!.b] W fun e w' => e = .returned (.int .i64 (cntL pk l[k]!.b)) ∧ Below W.heap.size W w') := fun W hW => A2InCrates_any (some ⟨g35, 0, none⟩) q35 pk l[k]!.b W (M.out.2.2.2.2.2.below hW).rd hpl
              have hc1 := cntL_le lc l[k]!.b
              have hc2 := cntL_le st l[k]!.b
              generalize hx : l[k]! = x at *
              replace hx := Lib.hid hx
              generalize (botsL (l.take k)).length = ba at *
              generalize cntL lc x.b = n1 at *
              generalize cntL st x.b = n2 at *
              generalize cntL pk x.b = n3 at *
              have hn144 : 1 ≤ x.n ∧ x.n ≤ 144 := ⟨hnn.1, hnn.2.1⟩
              clear hnn
              have hwx : IntKind.i64.wrap x.n = x.n := by rw [IntKind.wrap_i64]; omega
              have hsub : IntKind.i64.wrap ((n1 : Int) - (n2 : Int)) = x.n := by rw [IntKind.wrap_i64]; omega
              have x2 : wr.cell? ⟨g6, k * 3 + 2, none⟩ = some (.int .i16 x.n) := HX 2 _ rfl
              have x0 := cell_regrown (HX 0 _ rfl)
              have x1 := cell_regrown (HX 1 _ rfl)
              rw [Nat.add_zero] at x0
              replace HX := Lib.hid HX
              clear hmi hc1 hc2
              go_upto_region 49 with fail
              have H := Below.refl wr.heap.size wr
              refine wp_region_qB (by kernel_rfl) (by kernel_rfl) ?_
              (repeat (first | fail | (apply qB_step; intro K hK; go_simp; first | (refine hK _ ?_; clear hK K) | (apply Exists.intro; refine ⟨fun _ => ?_, hK _ ?_⟩; (first | (go_at_call 26 <;> (first | (with_reducible exact hA1.out _ (bstep HV.out (below_regrown _ _ _))) | (with_reducible exact hA2.out _ (bstep HV.out (below_regrown _ _ _))) | (with_reducible exact hA3.out _ (bstep HV.out (below_regrown _ _ _)))))); clear hK K))))
              refine qB_nil ?_
              intro w1 hw1
              replace H := bstep H hw1
              clear hw1
              clear x0 x1 x2 hA1 hA2 hA3
              have HV1 := Lib.hid (bstep HV.out H)
              clear H
              go_wp2
              go_loopw [48, 51] (fun t j wr => ∃ q r : Nat, (q : Int) ≤ x.n ∧ Hid (r = ba + q) ∧ j = .int .i64 (q : Int) ∧ t = .int .i64 (r : Int) ∧ Hid (Below w34.heap.size w34 wr)) (fun _ j _ => x.n.toNat - (intOf j).toNat)
              case atStart => exact ⟨0, ba, by omega, rfl, rfl, rfl, HV1⟩
              case round =>
                obtain ⟨q, r, hq, hr, rfl, rfl, HU⟩ := hrel
                by_cases hqt : (q : Int) < x.n
                · as_aux_lemma =>
                  have hg := hba.out q (by omega)
                  rw [← hr.out] at hg
                  have hrl : r < bs.length := (List.getElem?_eq_some_iff.1 hg).1
                  have hre : bs[r]! = x.b := by rw [getB hrl]; exact (List.getElem?_eq_some_iff.1 hg).2
                  have HB := (M.out.2.2.2.2.1.below HU.out).c.el bc_length hrl
                  rw [Nat.zero_add, hre] at HB
                  have HX2 := (M.out.2.1.below HU.out).c.el wc_length hlt
                  rw [Nat.zero_add, hx.out] at HX2
                  have hrl2 : (r : Int) < (bs.length : Int) := by omega
                  have hqn : (q : Int) < 144 := by omega
                  have hr2 := hr.out
                  have y0 := cell_regrown (HB 0 _ rfl)
                  have y1 := cell_regrown (HB 1 _ rfl)
                  rw [Nat.add_zero] at y0
                  have x0 := cell_regrown (HX2 0 _ rfl)
                  have x1 := cell_regrown (HX2 1 _ rfl)
                  rw [Nat.add_zero] at x0
                  clear HB HX2 hg hre
                  replace hr2 := Lib.hid hr2
                  go_upto_region 54 with fail
                  have H := Below.refl wr.heap.size wr
                  refine wp_region_qB (by kernel_rfl) (by kernel_rfl) ?_
                  (repeat (first | fail | (apply qB_step; intro K hK; go_simp; first | (refine hK _ ?_; clear hK K) | (apply Exists.intro; refine ⟨fun _ => ?_, hK _ ?_⟩; (first | fail); clear hK K))))
                  refine qB_nil ?_
                  intro w1 hw1
                  replace H := bstep H hw1
                  clear hw1
                  clear x0 x1 y0 y1
                  go_wp2
                  go_roundw
                  case rel => exact ⟨q + 1, r + 1, by omega, by rw [Hid, hr.out]; omega, by go_num, by go_num, bstep HU.out H⟩
                  case measure => simp [intOf]; omega
                · go_wp2
                  go_roundw
                  case rel => exact ⟨k + 1, by omega, by go_num, by rw [hba2.out, hr.out, show q = x.n.toNat by omega], HU⟩
                  case measure => simp [intOf]; omega
            · as_aux_lemma =>
              obtain rfl : k = l.length := by omega
              clear hBT hBA2
              generalize (botsL (l.take l.length)).length = bz at *
              go_wp2
              obtain ⟨we, hwe⟩ : ∃ we, we = wr := ⟨_, rfl⟩
              subst hwe
              replace M := Lib.hid (⟨M.out.1.below HV.out, M.out.2.1.below HV.out, M.out.2.2.1.below HV.out, M.out.2.2.2.1.below HV.out⟩ : Lies cc we g5 lc ∧ Lies wc we g6 l ∧ Lies iv we g4 due ∧ Lies cc we g32 st)
              replace HQ2 := Lib.hid (bstep HQ2.out HV.out)
              clear HV hMI hCN hNN
              go_loopw [52] (fun i wr => ∃ k : Nat, k ≤ lc.length ∧ i = .int .i64 (k : Int) ∧ Hid (Below we.heap.size we wr)) (fun i _ => lc.length - (intOf i).toNat)
              case atStart => exact ⟨0, Nat.zero_le _, rfl, Below.refl _ _⟩
              case round =>
                obtain ⟨k, hk, rfl, HV⟩ := hrel
                by_cases hlt : k < lc.length
                · as_aux_lemma =>
                  have hlt2 : (k : Int) < (lc.length : Int) := by omega
                  have hlt3 : (k : Int) < (st.length : Int) := by rw [hle2.out]; omega
                  have HXL := (M.out.1.below HV.out).c.el cc_length hlt
                  have HXS := (M.out.2.2.2.below HV.out).c.el cc_length (show k < st.length by rw [hle2.out]; exact hlt)
                  rw [Nat.zero_add] at HXL HXS
                  replace HXL := Lib.hid HXL
                  replace HXS := Lib.hid HXS
                  have HGL := Lib.hid (M.out.1.below HV.out).lt
                  have HGS := Lib.hid (M.out.2.2.2.below HV.out).lt
                  have HAS : Hid (∀ W, Below we.heap.size we W → Calls Try.prog 20 #[.slice (some ⟨g4, 0, none⟩) due.length q4, .int .i64 (k : Int)] W fun e w' => e = .returned (.bool (due.contains (k : Int))) ∧ Below W.heap.size W w') := fun W hW => below_of_same (A2Has_any (some ⟨g4, 0, none⟩) q4 due.length due (k : Int) W (by have := (M.out.2.2.1.below hW).rd; rwa [fl_iv] at this) rfl (by omega))
                  go_upto_region 60 with fail
                  have H := Below.refl wr.heap.size wr
                  cases hc : due.contains (k : Int) with
                  | true =>
                    rw [hc] at HAS
                    refine wp_region_qB (by kernel_rfl) (by kernel_rfl) ?_
                    (repeat (first | fail | (apply qB_step; intro K hK; go_simp; first | (refine hK _ ?_; clear hK K) | (apply Exists.intro; refine ⟨fun _ => ?_, hK _ ?_⟩; (first | (go_at_call 20 <;> with_reducible exact HAS.out _ (bstep HV.out (below_regrown _ _ _)))); clear hK K))))
                    refine qB_nil ?_
                    intro w1 hw1
                    replace H := bstep H hw1
                    clear hw1
                    go_wp2
                    go_roundw
                    case rel => exact ⟨k + 1, by omega, by go_num, bstep HV.out H⟩
                    case measure => simp [intOf]; omega
                  | false =>
                    rw [hc] at HAS
                    have he := hOT.out k hlt (by simpa using hc)
                    rw [he] at HXS
                    clear he
                    generalize lc[k]! = x at HXL HXS
                    refine wp_region_qB (by kernel_rfl) (by kernel_rfl) ?_
                    (repeat (first | (apply qB_step;intro K hK;refine qB_CAtK H rfl _ _ rfl _ _ rfl (cc x) HXL.out HGL.out _ Try.underlying44 rfl (infoCl x) (hK _ ?_);clear hK K) | (apply qB_step;intro K hK;refine qB_CAtK H rfl _ _ rfl _ _ rfl (cc x) HXS.out HGS.out _ Try.underlying44 rfl (infoCl x) (hK _ ?_);clear hK K) | (apply qB_step; intro K hK; go_simp; first | (refine hK _ ?_; clear hK K) | (apply Exists.intro; refine ⟨fun _ => ?_, hK _ ?_⟩; (first | (go_at_call 20 <;> with_reducible exact HAS.out _ (bstep HV.out (below_regrown _ _ _)))); clear hK K))))
                    refine qB_nil ?_
                    intro w1 hw1
                    replace H := bstep H hw1
                    clear hw1
                    go_wp2
                    go_roundw
                    case rel => exact ⟨k + 1, by omega, by go_num, bstep HV.out H⟩
                    case measure => simp [intOf]; omega
                · as_aux_lemma =>
                  obtain rfl : k = lc.length := by omega
                  replace M := Lib.hid (⟨M.out.1.below HV.out, M.out.2.1.below HV.out⟩ : Lies cc wr g5 lc ∧ Lies wc wr g6 l)
                  replace HQ2 := Lib.hid (bstep HQ2.out HV.out)
                  clear HV hOT
                  obtain ⟨wf, hwf⟩ : ∃ wf, wf = wr := ⟨_, rfl⟩
                  subst hwf
                  have hsev : sevR lc [l, o2, l] = ((sevK lc [l, o2, l] 3).1, (sevK lc [l, o2, l] 3).2, 0) := by
                    have h1 : sevI lc [l, o2, l] = 0 := by
                      have h2 : (stackOk lc && [l, o2, l].all ordOk) = true := by simp [hF.out.st, hF.out.ok, HO2.out]
                      rw [sevI, if_pos h2, if_neg (by simp)]
                    rw [sevR, if_pos h1]
                    rfl
                  have hsl := sevK_len lc [l, o2, l] 3
                  obtain ⟨rs, hrs⟩ := sevK_first (lc := lc) (os := [l, o2, l]) (by simp) hF.out.lk 3 (by omega)
                  have hsle := sevK_le lc [l, o2, l] 3
                  rw [hrs] at hsev hsle
                  have HFA : Hid (∀ W v, Lies cc W g5 lc → LieA wc W v [l, o2, l] → Calls Try.prog 27 #[.slice (some ⟨g5, 0, none⟩) lc.length q5, v] W fun e w' => ∃ v u, e = .returned (.tuple #[v, u, .int .i64 (sevR lc [l, o2, l]).2.2]) ∧ OwnS cc w' W.heap.size 44 24 v (sevR lc [l, o2, l]).1 ∧ OwnS iv w' W.heap.size 2 1 u (sevR lc [l, o2, l]).2.1 ∧ Below W.heap.size W w') := fun W v k1 k2 => FillSeveral_own g5 q5 lc v [l, o2, l] W k1 k2 (by omega) (by simp) (by simp [tot]; omega) hF.out.st (by simp [hF.out.ok, HO2.out]) (by simp)
                  have HFB : Hid (∀ W v, Lies cc W g5 lc → LieA wc W v [l, o2, l] → Calls Try.prog 29 #[.slice (some ⟨g5, 0, none⟩) lc.length q5, v] W fun e w' => ∃ v u, e = .returned (.tuple #[v, u, .int .i64 (sevR lc [l, o2, l]).2.2]) ∧ OwnS cc w' W.heap.size 44 24 v (sevR lc [l, o2, l]).1 ∧ OwnS iv w' W.heap.size 2 1 u (sevR lc [l, o2, l]).2.1 ∧ Below W.heap.size W w') := fun W v k1 k2 => sFillSeveral_own g5 q5 lc v [l, o2, l] W k1 k2 (by omega) (by simp) (by simp [tot]; omega) hF.out.st (by simp [hF.out.ok, HO2.out]) (by simp)
                  rw [hsev] at HFA HFB
                  obtain ⟨fs, hfs⟩ : ∃ fs, fs = 0 :: rs := ⟨_, rfl⟩
                  have hf1 : Hid (0 < fs.length ∧ fs.getD 0 0 = 0) := by rw [hfs]; exact ⟨by simp, rfl⟩
                  have hf3 : fs.length ≤ 3 := by rw [hfs]; simpa using hsle
                  rw [← hfs] at HFA HFB
                  generalize (sevK lc [l, o2, l] 3).1 = sv at *
                  clear hsev hrs hfs hsle
                  have hsl5 : sv.length ≤ 5 := by omega
                  replace hsl := Lib.hid hsl
                  have HE := Lib.hid (Below.refl wf.heap.size wf)
                  go_upto_region 63 with (first | (go_at_call 28; refine (HOR.out _ (bstep HQ2.out HE.out)).mono ?_; rintro e w50 ⟨v50, rfl, O50, hb⟩; obtain ⟨g50, q50, rfl, L50, -, -, hq50⟩ := O50.lies; replace L50 := Lib.hid L50; replace HE := Lib.hid (bstep HE.out hb); clear hb O50) | (go_at_call 27; go_loud (refine (HFA.out _ _ ((M.out.1.below HE.out).below ((Below.refl _ _).alloc (Nat.le_refl _) _)) (lieA_three (E := 26) (M.out.2.below HE.out) L50.out hq6 hq50)).mono ?_; rintro e w51 ⟨v51, u51, rfl, O51, P51, hb⟩; obtain ⟨g51, q51, rfl, L51, -, -, hq51⟩ := O51.lies; obtain ⟨g52, q52, rfl, L52, -, -, hq52⟩ := P51.lies; replace L51 := Lib.hid L51; replace L52 := Lib.hid L52; replace HE := Lib.hid (bstep (bstep HE.out ((Below.refl _ _).alloc (Nat.le_refl _) _)) hb); clear hb O51 P51)))
                  clear HFA L50 hq50
                  go_upto_region 64 with (first | (go_at_call 28; refine (HOR.out _ (bstep HQ2.out HE.out)).mono ?_; rintro e w53 ⟨v53, rfl, O50, hb⟩; obtain ⟨g53, q53, rfl, L53, -, -, hq53⟩ := O50.lies; replace L53 := Lib.hid L53; replace L51 := Lib.hid (L51.out.below hb); replace L52 := Lib.hid (L52.out.below hb); replace HE := Lib.hid (bstep HE.out hb); clear hb O50) | (go_at_call 29; go_loud (refine (HFB.out _ _ ((M.out.1.below HE.out).below ((Below.refl _ _).alloc (Nat.le_refl _) _)) (lieA_three (E := 26) (M.out.2.below HE.out) L53.out hq6 hq53)).mono ?_; rintro e w54 ⟨v54, u54, rfl, O51, P51, hb⟩; obtain ⟨g54, q54, rfl, L54, -, -, hq54⟩ := O51.lies; obtain ⟨g55, q55, rfl, L55, -, -, hq55⟩ := P51.lies; replace L54 := Lib.hid L54; replace L55 := Lib.hid L55; have hb2 := bstep ((Below.refl w53.heap.size w53).alloc (Nat.le_refl _) _) hb; replace L51 := Lib.hid (L51.out.below hb2); replace L52 := Lib.hid (L52.out.below hb2); replace HE := Lib.hid (bstep HE.out hb2); clear hb hb2 O51 P51)))
                  clear HFB L53 hq53 HOR
                  have HS1 : Hid (∀ W, Below w54.heap.size w54 W → Calls Try.prog 24 #[.slice (some ⟨g51, 0, none⟩) sv.length q51, .slice (some ⟨g54, 0, none⟩) sv.length q54] W fun e w' => e = .returned (.bool true) ∧ Below W.heap.size W w') := fun W hW => (sSameStack_any g51 0 q51 g54 0 q54 sv sv W (L51.out.below hW).c (L54.out.below hW).c (L51.out.below hW).lt (L54.out.below hW).lt (by omega) (by omega)).mono fun e w' ⟨he, hb⟩ => ⟨by rw [he]; simp, hb⟩
                  have HS2 : Hid (∀ W, Below w54.heap.size w54 W → Calls Try.prog 15 #[.slice (some ⟨g52, 0, none⟩) fs.length q52, .slice (some ⟨g55, 0, none⟩) fs.length q55] W fun e w' => e = .returned (.bool true) ∧ Below W.heap.size W w') := fun W hW => A2Same_refl (some ⟨g52, 0, none⟩) (some ⟨g55, 0, none⟩) q52 q55 fs W (by have := (L52.out.below hW).rd; rwa [fl_iv] at this) (by have := (L55.out.below hW).rd; rwa [fl_iv] at this) (by omega)
                  have hf1a := hf1.out.1
                  have hf1b : (0 : Int) < (fs.length : Int) := by omega
                  have hf1c := Lib.hid hf1.out.2
                  have hsl2 : (sv.length : Int) = (lc.length : Int) := by rw [hsl.out]
                  have HY := Below.refl w54.heap.size w54
                  go_wp2_with (first | (go_at_call 24; with_reducible refine (HS1.out _ HY).mono ?_; rintro e w55 ⟨rfl, hb⟩; replace HY := bstep HY hb; clear hb) | (go_at_call 15; with_reducible refine (HS2.out _ HY).mono ?_; rintro e w56 ⟨rfl, hb⟩; replace HY := bstep HY hb; clear hb; have x0 := rd_at (by have := (L55.out.below HY).c; rwa [fl_iv] at this) hf1a; rw [hf1c.out] at x0))
                  go_ret
                  exact ⟨rfl, bstep (bstep HQ2.out HE.out) HY⟩
theorem FnOpened_any (w : World) (A0 : Option Addr) (c0 : Nat) (l0 : List Int) (hm0 : l0.length ≤ maxLen) (hr0 : RdA w A0 (u8v l0) ∧ ∀ x ∈ l0, 0 ≤ x ∧ x ≤ 255) (A1 : Option Addr) (c1 : Nat) (l1 : List Int) (hm1 : l1.length ≤ maxLen) (hr1 : RdA w A1 (u8v l1) ∧ ∀ x ∈ l1, 0 ≤ x ∧ x ≤ 255) :
    Calls Try.prog 3 #[.slice A0 l0.length c0, .slice A1 l1.length c1] w fun e w' => e = .returned (.bool true) ∧ Below w.heap.size w w' :=
  FnOpened_run w A0 c0 l0 hm0 hr0.1 hr0.2 A1 c1 l1 hm1 hr1.1 hr1.2
end Go.Proofs.Ytbngpcghognojaa
namespace Go.Proofs.Ytbngpcghognojaa.fnOpened
open Go.ChangeShapes Go.WideShapes Go.ChangeAt Go.RowKit
open Go.ChangeMaps (open_string shut_string)
set_option linter.unusedVariables false
set_option linter.unusedSimpArgs false
set_option maxRecDepth 100000 in
theorem lifted (os : Os) (started : os.Started) (H : Type) (enc : TypeId × Value → H) :
    ReturnsInHanded {} Try.checked os 3 .any (Rows.fnOpenedSpec.pre6 enc Try.prog Try.f3 Rows.fnOpenedRow.domain false) (Rows.fnOpenedSpec.post enc Try.prog Try.f3 false true false false) := by
  refine returnsInHanded_of_change_sized (C := Try.checked) own started (by kernel_rfl) Try.func3
    (ChangeSpec.witness6 (enc := enc) (C := Try.checked) false ⟨#[], #[.slice none 0 0, .slice none 0 0], []⟩ 8 (by kernel_rfl) (by kernel_rfl) (by kernel_rfl) (by kernel_rfl)) ?_
  intro W base args ds gs before hval0 hW hcnd hsz0 _
  have hsz : (DataW.weightsEach Try.prog (Try.f3.params.toList ++ Rows.fnOpenedSpec.plain.varTypes Try.prog) (ds ++ gs)).all (· ≤ reachBytes) = true := hsz0
  have hval : ∀ (j : Nat) t v, Try.f3.params[j]? = some t → args[j]? = some v → Value.okWide Try.prog W .any base t v := hval0
  have hW' := hW
  obtain ⟨p, q, hA0, hV, rfl, hfz, hnd⟩ := hW
  have hA : DataW.TrodAll enc Try.prog W 0 (fun _ => true) true Try.f3.params.toList args.toList ds p := hA0
  rw [Try.params3] at hA hval hsz
  obtain ⟨v0, vs0, d0, ds0, p0, q0, hargs0, rfl, rfl, h0, r0⟩ := trodAll_cons hA
  obtain ⟨v1, vs1, d1, ds1, p1, q1, hargs1, rfl, rfl, h1, r1⟩ := trodAll_cons r0
  obtain ⟨rfl, rfl, rfl⟩ := trodAll_nil r1
  subst hargs1
  obtain rfl : args = #[v0, v1] := by cases args; simp_all
  obtain ⟨rfl, rfl⟩ := trodVars_none hV
  have hlt0 : ∀ x ∈ p0, x.block < W.heap.size := fun x hx => by simpa using hW'.lt x (by simp [hx])
  have hlt1 : ∀ x ∈ p1, x.block < W.heap.size := fun x hx => by simpa using hW'.lt x (by simp [hx])
  obtain ⟨A0, c0, l0, hv0, hm0, hr0⟩ := read_bytes (hval 0 22 v0 rfl rfl) h0
  subst hv0
  obtain ⟨A1, c1, l1, hv1, hm1, hr1⟩ := read_bytes (hval 1 22 v1 rfl rfl) h1
  subst hv1
  refine (FnOpened_any (w := W) A0 c0 l0 hm0 hr0 A1 c1 l1 hm1 hr1).mono fun e W' ⟨he, bel⟩ => ?_
  subst he
  exact ⟨_, rfl, _, _, _, [], _, [], hW', trodAll_mk1 (shut_bool Try.underlying4 _), (trodAll_cons_mk (Below.trod laidOut (by kernel_rfl) (of_decide_eq_true (by kernel_rfl)) h0 bel hlt0) (trodAll_cons_mk (Below.trod laidOut (by kernel_rfl) (of_decide_eq_true (by kernel_rfl)) h1 bel hlt1) trodAll_mk0)), rfl, bel.frame _, fun h => by cases h⟩
theorem over : Rows.fnOpenedRow.holds Try.pinned (OpenSpec.ofChange Rows.fnOpenedSpec) :=
  OpenClaim.holds_of_wide 3 Try.f3 rfl rfl rfl rfl rfl rfl rfl ⟨rfl, rfl, rfl, rfl, rfl⟩ rfl rfl rfl rfl rfl (by kernel_rfl) Try.func3 (by kernel_rfl)
    (of_decide_eq_true (by kernel_rfl)) (by unfold Func.isWrapper; first | (rw [if_pos (by decide +kernel)]; kernel_rfl) | (rw [if_neg (by decide +kernel)]; exact ⟨rfl, rfl⟩))
    (fun os started H enc _ => lifted os started H enc)
theorem proved : Rows.FnOpenedSaid := over
end Go.Proofs.Ytbngpcghognojaa.fnOpened
namespace Go.Proofs.Ytbngpcghognojaa
/-- The row, under a short name, for the claim. -/
theorem fnOpened_holds : Rows.FnOpenedSaid := fnOpened.proved
end Go.Proofs.Ytbngpcghognojaa
