/- Contracts of SameOrder: two orders compared. -/
import Derived.Test.YtnhpgahapjjjbaaMarkW
namespace Go.Proofs.Ytnhpgahapjjjbaa
open Go.RowKit
set_option linter.unusedVariables false
set_option linter.unusedSimpArgs false
set_option maxRecDepth 100000
set_option maxHeartbeats 1000000
theorem infoWl (x : Wt) : (Try.prog.info? 100).map (·.size) = some (wc x).length := by rw [wc_length]; kernel_rfl
/-- '==' of wants, as one Bool. -/
theorem eqW (d : Nat) (w : World) (a b : Wt) : (Op.equalIn (d + 3) 100 (.agg (wc a).toArray) (.agg (wc b).toArray)).run Try.prog w = .ok (decide (a = b)) w := by
  have h := Try.underlying100
  have h2 := Try.underlying26
  obtain ⟨⟨k, y, hk, hy⟩, n, hn⟩ := a
  obtain ⟨⟨k', y', hk', hy'⟩, n', hn'⟩ := b
  have e : decide ((⟨⟨k, y, hk, hy⟩, n, hn⟩ : Wt) = ⟨⟨k', y', hk', hy'⟩, n', hn'⟩) = (k == k' && y == y' && n == n') := by
    rw [Bool.eq_iff_iff, decide_eq_true_iff, Wt.eq_iff, Bt.eq_iff]
    simp
  rw [e]
  by_cases h0 : k = k' <;> by_cases h1 : y = y' <;> by_cases h3 : n = n' <;> simp [go_sem, wc, h0, h1, h3]
theorem allEqW {α : Type} [DecidableEq α] : ∀ l m : List α, Lib.allEq (fun x y => decide (x = y)) l m = decide (l = m)
  | [], [] => by simp [Lib.allEq]
  | [], _ :: _ => by simp [Lib.allEq]
  | _ :: _, [] => by simp [Lib.allEq]
  | x :: l, y :: m => by
    have := allEqW l m
    by_cases h : x = y <;> simp [Lib.allEq, this, h]
theorem SameNeW (x y : Wt) (w : World) : (binOp .neq 100 (.agg (wc x).toArray) (.agg (wc y).toArray)).run Try.prog w = .ok (.bool (!decide (x = y))) w := by
  simp [binOp, Op.equal, Op.maxDepth, eqW]
theorem SameOrder_any (b off c b' off' c' : Nat) (l m : List Wt) (w : World) (hC : CAt w b off (fl wc l)) (hC' : CAt w b' off' (fl wc m)) (hn : l.length ≤ 1000000000) (hm : m.length ≤ 1000000000) :
    Calls Try.prog 63 #[.slice (some ⟨b, off, none⟩) l.length c, .slice (some ⟨b', off', none⟩) m.length c'] w fun e w' => e = .returned (.bool (decide (l = m))) ∧ Below w.heap.size w w' := by
  have := AnyQ.slices_Equal Try.lx111 3 Try.isAgg100 Try.sizeOf100 wc wc_length (fun x y => decide (x = y)) ⟨SameNeW, GuardAt.agg (fun b => (wc b).toArray) (by kernel_rfl)⟩ b off l.length c b' off' m.length c' l m w (Nat.le_refl _) (Nat.le_refl _) (by omega) (by omega)
    (fun j hj i v hv => by have := hC.el wc_length hj i v hv; rwa [Nat.add_assoc] at this ⊢) (fun j hj i v hv => by have := hC'.el wc_length hj i v hv; rwa [Nat.add_assoc] at this ⊢)
  rw [List.take_length, List.take_length, allEqW] at this
  generalize decide (l = m) = r at this ⊢
  go_enter Try.func63, Try.ntmps63
  go_wp2_with (go_at_call 111; refine this.mono ?_; rintro e w' ⟨rfl, q, rfl⟩)
  go_ret
  exact ⟨rfl, bdrewN (Below.refl _ _) q⟩
attribute [local go_sem] Oper.qB
attribute [local go_sem high] eqW
theorem sSameOrder_any (b off c b' off' c' : Nat) (l m : List Wt) (w : World) (hC : CAt w b off (fl wc l)) (hC' : CAt w b' off' (fl wc m)) (hb : b < w.heap.size) (hb' : b' < w.heap.size) (hn : l.length ≤ 1000000000) (hm : m.length ≤ 1000000000) :
    Calls Try.prog 62 #[.slice (some ⟨b, off, none⟩) l.length c, .slice (some ⟨b', off', none⟩) m.length c'] w fun e w' => e = .returned (.bool (decide (l = m))) ∧ Below w.heap.size w w' := by
  have HC := Lib.hid (⟨hC, hC', hb, hb'⟩ : _ ∧ _ ∧ _ ∧ _)
  clear hC hC' hb hb'
  by_cases hlen : l.length = m.length
  · rw [← hlen]
    replace hlen := Lib.hid hlen
    go_enter Try.func62, Try.ntmps62
    go_wp2
    go_loopw [5] (fun i wr => ∃ k : Nat, k ≤ l.length ∧ i = .int .i64 k ∧ Hid (l.take k = m.take k) ∧ Below w.heap.size w wr) (fun i _ => l.length - (intOf i).toNat)
    case atStart => exact ⟨0, Nat.zero_le _, rfl, rfl, Below.refl _ _⟩
    case round =>
      obtain ⟨k, hk, rfl, H1, hb⟩ := hrel
      by_cases hlt : k < l.length
      · have hlt' : k < m.length := by rw [← hlen.out]; exact hlt
        have HX := Lib.hid ((HC.out.1.below hb HC.out.2.2.1).el wc_length hlt)
        have HY := Lib.hid ((HC.out.2.1.below hb HC.out.2.2.2).el wc_length hlt')
        have HG := Lib.hid (Nat.lt_of_lt_of_le HC.out.2.2.1 hb.size)
        have HG' := Lib.hid (Nat.lt_of_lt_of_le HC.out.2.2.2 hb.size)
        have H2 : Hid (l[k]! = m[k]! → l.take (k + 1) = m.take (k + 1)) := fun h => by
          rw [List.take_succ_eq_append_getElem hlt, List.take_succ_eq_append_getElem hlt', H1.out, ← getB hlt, ← getB hlt', h]
        have H3 : Hid (l[k]! ≠ m[k]! → l ≠ m) := fun h e => h (by rw [e])
        have hlt2 : (k : Int) < (l.length : Int) := by omega
        clear hlt'
        generalize l[k]! = x at HX H2 H3
        generalize m[k]! = y at HY H2 H3
        go_upto_region 6 with fail
        have H := Below.refl wr.heap.size wr
        by_cases e : x = y
        · have H2' := Lib.hid (H2.out e)
          clear H2 H3
          subst e
          refine g_start 9 rfl (by kernel_rfl) ?_
          (refine g_quiet 0 (by kernel_rfl) rfl (fun K hK => ?_); first | ((first | (refine qB_CAtK H rfl _ _ rfl _ _ rfl (wc x) HX.out HG.out _ Try.underlying100 rfl (infoWl x) (hK _ ?_)) | (refine qB_CAtK H rfl _ _ rfl _ _ rfl (wc x) HY.out HG'.out _ Try.underlying100 rfl (infoWl x) (hK _ ?_))); clear hK K) | (go_simp; first | (refine hK _ ?_; clear hK K) | (apply Exists.intro; refine ⟨fun _ => ?_, hK _ ?_⟩; (first | fail); clear hK K)))
          (refine g_quiet 1 (by kernel_rfl) rfl (fun K hK => ?_); first | ((first | (refine qB_CAtK H rfl _ _ rfl _ _ rfl (wc x) HX.out HG.out _ Try.underlying100 rfl (infoWl x) (hK _ ?_)) | (refine qB_CAtK H rfl _ _ rfl _ _ rfl (wc x) HY.out HG'.out _ Try.underlying100 rfl (infoWl x) (hK _ ?_))); clear hK K) | (go_simp; first | (refine hK _ ?_; clear hK K) | (apply Exists.intro; refine ⟨fun _ => ?_, hK _ ?_⟩; (first | fail); clear hK K)))
          (refine g_quiet 2 (by kernel_rfl) rfl (fun K hK => ?_); first | ((first | (refine qB_CAtK H rfl _ _ rfl _ _ rfl (wc x) HX.out HG.out _ Try.underlying100 rfl (infoWl x) (hK _ ?_)) | (refine qB_CAtK H rfl _ _ rfl _ _ rfl (wc x) HY.out HG'.out _ Try.underlying100 rfl (infoWl x) (hK _ ?_))); clear hK K) | (go_simp; first | (refine hK _ ?_; clear hK K) | (apply Exists.intro; refine ⟨fun _ => ?_, hK _ ?_⟩; (first | fail); clear hK K)))
          (refine g_quiet 3 (by kernel_rfl) rfl (fun K hK => ?_); first | ((first | (refine qB_CAtK H rfl _ _ rfl _ _ rfl (wc x) HX.out HG.out _ Try.underlying100 rfl (infoWl x) (hK _ ?_)) | (refine qB_CAtK H rfl _ _ rfl _ _ rfl (wc x) HY.out HG'.out _ Try.underlying100 rfl (infoWl x) (hK _ ?_))); clear hK K) | (go_simp; first | (refine hK _ ?_; clear hK K) | (apply Exists.intro; refine ⟨fun _ => ?_, hK _ ?_⟩; (first | fail); clear hK K)))
          (refine g_quiet 4 (by kernel_rfl) rfl (fun K hK => ?_); first | ((first | (refine qB_CAtK H rfl _ _ rfl _ _ rfl (wc x) HX.out HG.out _ Try.underlying100 rfl (infoWl x) (hK _ ?_)) | (refine qB_CAtK H rfl _ _ rfl _ _ rfl (wc x) HY.out HG'.out _ Try.underlying100 rfl (infoWl x) (hK _ ?_))); clear hK K) | (go_simp; first | (refine hK _ ?_; clear hK K) | (apply Exists.intro; refine ⟨fun _ => ?_, hK _ ?_⟩; (first | fail); clear hK K)))
          (refine g_quiet 5 (by kernel_rfl) rfl (fun K hK => ?_); first | ((first | (refine qB_CAtK H rfl _ _ rfl _ _ rfl (wc x) HX.out HG.out _ Try.underlying100 rfl (infoWl x) (hK _ ?_)) | (refine qB_CAtK H rfl _ _ rfl _ _ rfl (wc x) HY.out HG'.out _ Try.underlying100 rfl (infoWl x) (hK _ ?_))); clear hK K) | (go_simp; first | (refine hK _ ?_; clear hK K) | (apply Exists.intro; refine ⟨fun _ => ?_, hK _ ?_⟩; (first | fail); clear hK K)))
          (refine g_quiet 6 (by kernel_rfl) rfl (fun K hK => ?_); first | ((first | (refine qB_CAtK H rfl _ _ rfl _ _ rfl (wc x) HX.out HG.out _ Try.underlying100 rfl (infoWl x) (hK _ ?_)) | (refine qB_CAtK H rfl _ _ rfl _ _ rfl (wc x) HY.out HG'.out _ Try.underlying100 rfl (infoWl x) (hK _ ?_))); clear hK K) | (go_simp; first | (refine hK _ ?_; clear hK K) | (apply Exists.intro; refine ⟨fun _ => ?_, hK _ ?_⟩; (first | fail); clear hK K)))
          (refine g_quiet 7 (by kernel_rfl) rfl (fun K hK => ?_); first | ((first | (refine qB_CAtK H rfl _ _ rfl _ _ rfl (wc x) HX.out HG.out _ Try.underlying100 rfl (infoWl x) (hK _ ?_)) | (refine qB_CAtK H rfl _ _ rfl _ _ rfl (wc x) HY.out HG'.out _ Try.underlying100 rfl (infoWl x) (hK _ ?_))); clear hK K) | (go_simp; first | (refine hK _ ?_; clear hK K) | (apply Exists.intro; refine ⟨fun _ => ?_, hK _ ?_⟩; (first | fail); clear hK K)))
          (refine g_quiet 8 (by kernel_rfl) rfl (fun K hK => ?_); first | ((first | (refine qB_CAtK H rfl _ _ rfl _ _ rfl (wc x) HX.out HG.out _ Try.underlying100 rfl (infoWl x) (hK _ ?_)) | (refine qB_CAtK H rfl _ _ rfl _ _ rfl (wc x) HY.out HG'.out _ Try.underlying100 rfl (infoWl x) (hK _ ?_))); clear hK K) | (go_simp; first | (refine hK _ ?_; clear hK K) | (apply Exists.intro; refine ⟨fun _ => ?_, hK _ ?_⟩; (first | fail); clear hK K)))
          refine g_done (by kernel_rfl) ?_
          rintro w1 hw1 -
          go_wp2
          go_roundw
          case rel => exact ⟨k + 1, by omega, by go_num, H2'.out, bstep hb hw1⟩
          case measure => simp [intOf]; omega
        · have e1 : decide (x = y) = false := decide_eq_false e
          have H3' := Lib.hid (H3.out e)
          clear e H2 H3
          refine g_start 9 rfl (by kernel_rfl) ?_
          (refine g_quiet 0 (by kernel_rfl) rfl (fun K hK => ?_); first | ((first | (refine qB_CAtK H rfl _ _ rfl _ _ rfl (wc x) HX.out HG.out _ Try.underlying100 rfl (infoWl x) (hK _ ?_)) | (refine qB_CAtK H rfl _ _ rfl _ _ rfl (wc y) HY.out HG'.out _ Try.underlying100 rfl (infoWl y) (hK _ ?_))); clear hK K) | (go_simp; first | (refine hK _ ?_; clear hK K) | (apply Exists.intro; refine ⟨fun _ => ?_, hK _ ?_⟩; (first | fail); clear hK K)))
          (refine g_quiet 1 (by kernel_rfl) rfl (fun K hK => ?_); first | ((first | (refine qB_CAtK H rfl _ _ rfl _ _ rfl (wc x) HX.out HG.out _ Try.underlying100 rfl (infoWl x) (hK _ ?_)) | (refine qB_CAtK H rfl _ _ rfl _ _ rfl (wc y) HY.out HG'.out _ Try.underlying100 rfl (infoWl y) (hK _ ?_))); clear hK K) | (go_simp; first | (refine hK _ ?_; clear hK K) | (apply Exists.intro; refine ⟨fun _ => ?_, hK _ ?_⟩; (first | fail); clear hK K)))
          (refine g_quiet 2 (by kernel_rfl) rfl (fun K hK => ?_); first | ((first | (refine qB_CAtK H rfl _ _ rfl _ _ rfl (wc x) HX.out HG.out _ Try.underlying100 rfl (infoWl x) (hK _ ?_)) | (refine qB_CAtK H rfl _ _ rfl _ _ rfl (wc y) HY.out HG'.out _ Try.underlying100 rfl (infoWl y) (hK _ ?_))); clear hK K) | (go_simp; first | (refine hK _ ?_; clear hK K) | (apply Exists.intro; refine ⟨fun _ => ?_, hK _ ?_⟩; (first | fail); clear hK K)))
          (refine g_quiet 3 (by kernel_rfl) rfl (fun K hK => ?_); first | ((first | (refine qB_CAtK H rfl _ _ rfl _ _ rfl (wc x) HX.out HG.out _ Try.underlying100 rfl (infoWl x) (hK _ ?_)) | (refine qB_CAtK H rfl _ _ rfl _ _ rfl (wc y) HY.out HG'.out _ Try.underlying100 rfl (infoWl y) (hK _ ?_))); clear hK K) | (go_simp; first | (refine hK _ ?_; clear hK K) | (apply Exists.intro; refine ⟨fun _ => ?_, hK _ ?_⟩; (first | fail); clear hK K)))
          (refine g_quiet 4 (by kernel_rfl) rfl (fun K hK => ?_); first | ((first | (refine qB_CAtK H rfl _ _ rfl _ _ rfl (wc x) HX.out HG.out _ Try.underlying100 rfl (infoWl x) (hK _ ?_)) | (refine qB_CAtK H rfl _ _ rfl _ _ rfl (wc y) HY.out HG'.out _ Try.underlying100 rfl (infoWl y) (hK _ ?_))); clear hK K) | (go_simp; first | (refine hK _ ?_; clear hK K) | (apply Exists.intro; refine ⟨fun _ => ?_, hK _ ?_⟩; (first | fail); clear hK K)))
          (refine g_quiet 5 (by kernel_rfl) rfl (fun K hK => ?_); first | ((first | (refine qB_CAtK H rfl _ _ rfl _ _ rfl (wc x) HX.out HG.out _ Try.underlying100 rfl (infoWl x) (hK _ ?_)) | (refine qB_CAtK H rfl _ _ rfl _ _ rfl (wc y) HY.out HG'.out _ Try.underlying100 rfl (infoWl y) (hK _ ?_))); clear hK K) | (go_simp; first | (refine hK _ ?_; clear hK K) | (apply Exists.intro; refine ⟨fun _ => ?_, hK _ ?_⟩; (first | fail); clear hK K)))
          (refine g_quiet 6 (by kernel_rfl) rfl (fun K hK => ?_); first | ((first | (refine qB_CAtK H rfl _ _ rfl _ _ rfl (wc x) HX.out HG.out _ Try.underlying100 rfl (infoWl x) (hK _ ?_)) | (refine qB_CAtK H rfl _ _ rfl _ _ rfl (wc y) HY.out HG'.out _ Try.underlying100 rfl (infoWl y) (hK _ ?_))); clear hK K) | (go_simp; first | (refine hK _ ?_; clear hK K) | (apply Exists.intro; refine ⟨fun _ => ?_, hK _ ?_⟩; (first | fail); clear hK K)))
          (refine g_quiet 7 (by kernel_rfl) rfl (fun K hK => ?_); first | ((first | (refine qB_CAtK H rfl _ _ rfl _ _ rfl (wc x) HX.out HG.out _ Try.underlying100 rfl (infoWl x) (hK _ ?_)) | (refine qB_CAtK H rfl _ _ rfl _ _ rfl (wc y) HY.out HG'.out _ Try.underlying100 rfl (infoWl y) (hK _ ?_))); clear hK K) | (go_simp; first | (refine hK _ ?_; clear hK K) | (apply Exists.intro; refine ⟨fun _ => ?_, hK _ ?_⟩; (first | fail); clear hK K)))
          (refine g_quiet 8 (by kernel_rfl) rfl (fun K hK => ?_); first | ((first | (refine qB_CAtK H rfl _ _ rfl _ _ rfl (wc x) HX.out HG.out _ Try.underlying100 rfl (infoWl x) (hK _ ?_)) | (refine qB_CAtK H rfl _ _ rfl _ _ rfl (wc y) HY.out HG'.out _ Try.underlying100 rfl (infoWl y) (hK _ ?_))); clear hK K) | (go_simp; first | (refine hK _ ?_; clear hK K) | (apply Exists.intro; refine ⟨fun _ => ?_, hK _ ?_⟩; (first | fail); clear hK K)))
          refine g_done (by kernel_rfl) ?_
          rintro w1 hw1 -
          go_wp2
          go_ret
          exact ⟨ret_bool (decide_eq_false H3'.out).symm, bstep hb hw1⟩
      · obtain rfl : k = l.length := by omega
        have H4 : Hid (l = m) := by
          have := H1.out
          rw [List.take_length, hlen.out, List.take_length] at this
          exact this
        go_wp2
        go_ret
        exact ⟨ret_bool (decide_eq_true H4.out).symm, hb⟩
  · have hl2 : ¬ (l.length : Int) = (m.length : Int) := by omega
    have HN : Hid (decide (l = m) = false) := decide_eq_false (fun e => hlen (by rw [e]))
    go_enter Try.func62, Try.ntmps62
    go_wp2
    go_ret
    exact ⟨ret_bool HN.out.symm, Below.refl _ _⟩
end Go.Proofs.Ytnhpgahapjjjbaa
