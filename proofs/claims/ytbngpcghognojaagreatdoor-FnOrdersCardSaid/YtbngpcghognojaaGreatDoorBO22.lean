/- Texts of the claim, joined (22 of 22): Same, OK, CrS, OrS, OQ, Bytes, Laid. -/
import Derived.HandedShaped
import Derived.Shelf.Vars
import Derived.LaidLaws
import Derived.Stop.LaidErr
import Derived.Test.YtbngpcghognojaaGreatDoorBO1
import Derived.Test.YtbngpcghognojaaGreatDoorBO6
import Derived.Test.YtbngpcghognojaaGreatDoorBO9
import Derived.Test.YtbngpcghognojaaGreatDoorBO10
import Derived.Test.YtbngpcghognojaaGreatDoorBO14
import Derived.Test.YtbngpcghognojaaGreatDoorBO15
import Derived.Test.YtbngpcghognojaaGreatDoorBO16
import Derived.Test.YtbngpcghognojaaGreatDoorBO17
import Derived.Test.YtbngpcghognojaaGreatDoorBO18
import Derived.Test.YtbngpcghognojaaGreatDoorBO20
import Derived.Test.YtbngpcghognojaaGreatDoorBO21
namespace Go.Proofs.YtbngpcghognojaaGreatDoor
open Go.RowKit
set_option linter.unusedVariables false
set_option linter.unusedSimpArgs false
set_option maxRecDepth 100000
set_option maxHeartbeats 1000000
theorem infoWl (x : Wt) : (Tryz.prog.info? 81).map (·.size) = some (wc x).length := by rw [wc_length]; kernel_rfl
/-- '==' of wants, as one Bool. -/
theorem eqW (d : Nat) (w : World) (a b : Wt) : (Op.equalIn (d + 3) 81 (.agg (wc a).toArray) (.agg (wc b).toArray)).run Tryz.prog w = .ok (decide (a = b)) w := by
  have h := Tryz.underlying81
  have h2 := Tryz.underlying26
  obtain ⟨⟨k, y, hk, hy⟩, n, hn⟩ := a
  obtain ⟨⟨k', y', hk', hy'⟩, n', hn'⟩ := b
  have e : decide ((⟨⟨k, y, hk, hy⟩, n, hn⟩ : Wt) = ⟨⟨k', y', hk', hy'⟩, n', hn'⟩) = (k == k' && y == y' && n == n') := by
    rw [Bool.eq_iff_iff, decide_eq_true_iff, Wt.eq_iff, Bt.eq_iff]
    simp
  rw [e]
  by_cases h0 : k = k' <;> by_cases h1 : y = y' <;> by_cases h3 : n = n' <;> simp [go_sem, wc, h0, h1, h3]
theorem allEqW {α : Type} [DecidableEq α] : ∀ l m : List α, Lib.allEq (fun x y => decide (x = y)) l m = decide (l = m)
  | [], [] => by simp [Lib.allEq]
  | [], _ :: _ => by simp [Lib.allEq]
  | _ :: _, [] => by simp [Lib.allEq]
  | x :: l, y :: m => by
    have := allEqW l m
    by_cases h : x = y <;> simp [Lib.allEq, this, h]
theorem SameNeW (x y : Wt) (w : World) : (binOp .neq 81 (.agg (wc x).toArray) (.agg (wc y).toArray)).run Tryz.prog w = .ok (.bool (!decide (x = y))) w := by
  simp [binOp, Op.equal, Op.maxDepth, eqW]
theorem SameOrder_any (b off c b' off' c' : Nat) (l m : List Wt) (w : World) (hC : CAt w b off (fl wc l)) (hC' : CAt w b' off' (fl wc m)) (hn : l.length ≤ 1000000000) (hm : m.length ≤ 1000000000) :
    Calls Tryz.prog 49 #[.slice (some ⟨b, off, none⟩) l.length c, .slice (some ⟨b', off', none⟩) m.length c'] w fun e w' => e = .returned (.bool (decide (l = m))) ∧ Below w.heap.size w w' := by
  have := AnyQ.slices_Equal Tryz.lx109 3 Tryz.isAgg81 Tryz.sizeOf81 wc wc_length (fun x y => decide (x = y)) ⟨SameNeW, GuardAt.agg (fun b => (wc b).toArray) (by kernel_rfl)⟩ b off l.length c b' off' m.length c' l m w (Nat.le_refl _) (Nat.le_refl _) (by omega) (by omega)
    (fun j hj i v hv => by have := hC.el wc_length hj i v hv; rwa [Nat.add_assoc] at this ⊢) (fun j hj i v hv => by have := hC'.el wc_length hj i v hv; rwa [Nat.add_assoc] at this ⊢)
  rw [List.take_length, List.take_length, allEqW] at this
  generalize decide (l = m) = r at this ⊢
  go_enter Tryz.func49, Tryz.ntmps49
  go_wp2_with (go_at_call 109; refine this.mono ?_; rintro e w' ⟨rfl, q, rfl⟩)
  go_ret
  exact ⟨rfl, bdrewN (Below.refl _ _) q⟩
attribute [local go_sem] Oper.qB
attribute [local go_sem high] eqW
theorem sSameOrder_any (b off c b' off' c' : Nat) (l m : List Wt) (w : World) (hC : CAt w b off (fl wc l)) (hC' : CAt w b' off' (fl wc m)) (hb : b < w.heap.size) (hb' : b' < w.heap.size) (hn : l.length ≤ 1000000000) (hm : m.length ≤ 1000000000) :
    Calls Tryz.prog 48 #[.slice (some ⟨b, off, none⟩) l.length c, .slice (some ⟨b', off', none⟩) m.length c'] w fun e w' => e = .returned (.bool (decide (l = m))) ∧ Below w.heap.size w w' := by
  have HC := Lib.hid (⟨hC, hC', hb, hb'⟩ : _ ∧ _ ∧ _ ∧ _)
  clear hC hC' hb hb'
  by_cases hlen : l.length = m.length
  · rw [← hlen]
    replace hlen := Lib.hid hlen
    go_enter Tryz.func48, Tryz.ntmps48
    go_wp2
    go_loopw [5] (fun i wr => ∃ k : Nat, k ≤ l.length ∧ i = .int .i64 k ∧ Hid (l.take k = m.take k) ∧ Below w.heap.size w wr) (fun i _ => l.length - (intOf i).toNat)
    case atStart => exact ⟨0, Nat.zero_le _, rfl, rfl, Below.refl _ _⟩
    case round =>
      obtain ⟨k, hk, rfl, H1, hb⟩ := hrel
      by_cases hlt : k < l.length
      · have hlt' : k < m.length := by rw [← hlen.out]; exact hlt
        have HX := Lib.hid ((HC.out.1.below hb HC.out.2.2.1).el wc_length hlt)
        have HY := Lib.hid ((HC.out.2.1.below hb HC.out.2.2.2).el wc_length hlt')
        have HG := Lib.hid (Nat.lt_of_lt_of_le HC.out.2.2.1 hb.size)
        have HG' := Lib.hid (Nat.lt_of_lt_of_le HC.out.2.2.2 hb.size)
        have H2 : Hid (l[k]! = m[k]! → l.take (k + 1) = m.take (k + 1)) := fun h => by
          rw [List.take_succ_eq_append_getElem hlt, List.take_succ_eq_append_getElem hlt', H1.out, ← getB hlt, ← getB hlt', h]
        have H3 : Hid (l[k]! ≠ m[k]! → l ≠ m) := fun h e => h (by rw [e])
        have hlt2 : (k : Int) < (l.length : Int) := by omega
        clear hlt'
        generalize l[k]! = x at HX H2 H3
        generalize m[k]! = y at HY H2 H3
        go_upto_region 6 with fail
        have H := Below.refl wr.heap.size wr
        by_cases e : x = y
        · have H2' := Lib.hid (H2.out e)
          clear H2 H3
          subst e
          refine g_start 9 rfl (by kernel_rfl) ?_
          (refine g_quiet 0 (by kernel_rfl) rfl (fun K hK => ?_); first | ((first | (refine qB_CAtK H rfl _ _ rfl _ _ rfl (wc x) HX.out HG.out _ Tryz.underlying81 rfl (infoWl x) (hK _ ?_)) | (refine qB_CAtK H rfl _ _ rfl _ _ rfl (wc x) HY.out HG'.out _ Tryz.underlying81 rfl (infoWl x) (hK _ ?_))); clear hK K) | (go_simp; first | (refine hK _ ?_; clear hK K) | (apply Exists.intro; refine ⟨fun _ => ?_, hK _ ?_⟩; (first | fail); clear hK K)))
          (refine g_quiet 1 (by kernel_rfl) rfl (fun K hK => ?_); first | ((first | (refine qB_CAtK H rfl _ _ rfl _ _ rfl (wc x) HX.out HG.out _ Tryz.underlying81 rfl (infoWl x) (hK _ ?_)) | (refine qB_CAtK H rfl _ _ rfl _ _ rfl (wc x) HY.out HG'.out _ Tryz.underlying81 rfl (infoWl x) (hK _ ?_))); clear hK K) | (go_simp; first | (refine hK _ ?_; clear hK K) | (apply Exists.intro; refine ⟨fun _ => ?_, hK _ ?_⟩; (first | fail); clear hK K)))
          (refine g_quiet 2 (by kernel_rfl) rfl (fun K hK => ?_); first | ((first | (refine qB_CAtK H rfl _ _ rfl _ _ rfl (wc x) HX.out HG.out _ Tryz.underlying81 rfl (infoWl x) (hK _ ?_)) | (refine qB_CAtK H rfl _ _ rfl _ _ rfl (wc x) HY.out HG'.out _ Tryz.underlying81 rfl (infoWl x) (hK _ ?_))); clear hK K) | (go_simp; first | (refine hK _ ?_; clear hK K) | (apply Exists.intro; refine ⟨fun _ => ?_, hK _ ?_⟩; (first | fail); clear hK K)))
          (refine g_quiet 3 (by kernel_rfl) rfl (fun K hK => ?_); first | ((first | (refine qB_CAtK H rfl _ _ rfl _ _ rfl (wc x) HX.out HG.out _ Tryz.underlying81 rfl (infoWl x) (hK _ ?_)) | (refine qB_CAtK H rfl _ _ rfl _ _ rfl (wc x) HY.out HG'.out _ Tryz.underlying81 rfl (infoWl x) (hK _ ?_))); clear hK K) | (go_simp; first | (refine hK _ ?_; clear hK K) | (apply Exists.intro; refine ⟨fun _ => ?_, hK _ ?_⟩; (first | fail); clear hK K)))
          (refine g_quiet 4 (by kernel_rfl) rfl (fun K hK => ?_); first | ((first | (refine qB_CAtK H rfl _ _ rfl _ _ rfl (wc x) HX.out HG.out _ Tryz.underlying81 rfl (infoWl x) (hK _ ?_)) | (refine qB_CAtK H rfl _ _ rfl _ _ rfl (wc x) HY.out HG'.out _ Tryz.underlying81 rfl (infoWl x) (hK _ ?_))); clear hK K) | (go_simp; first | (refine hK _ ?_; clear hK K) | (apply Exists.intro; refine ⟨fun _ => ?_, hK _ ?_⟩; (first | fail); clear hK K)))
          (refine g_quiet 5 (by kernel_rfl) rfl (fun K hK => ?_); first | ((first | (refine qB_CAtK H rfl _ _ rfl _ _ rfl (wc x) HX.out HG.out _ Tryz.underlying81 rfl (infoWl x) (hK _ ?_)) | (refine qB_CAtK H rfl _ _ rfl _ _ rfl (wc x) HY.out HG'.out _ Tryz.underlying81 rfl (infoWl x) (hK _ ?_))); clear hK K) | (go_simp; first | (refine hK _ ?_; clear hK K) | (apply Exists.intro; refine ⟨fun _ => ?_, hK _ ?_⟩; (first | fail); clear hK K)))
          (refine g_quiet 6 (by kernel_rfl) rfl (fun K hK => ?_); first | ((first | (refine qB_CAtK H rfl _ _ rfl _ _ rfl (wc x) HX.out HG.out _ Tryz.underlying81 rfl (infoWl x) (hK _ ?_)) | (refine qB_CAtK H rfl _ _ rfl _ _ rfl (wc x) HY.out HG'.out _ Tryz.underlying81 rfl (infoWl x) (hK _ ?_))); clear hK K) | (go_simp; first | (refine hK _ ?_; clear hK K) | (apply Exists.intro; refine ⟨fun _ => ?_, hK _ ?_⟩; (first | fail); clear hK K)))
          (refine g_quiet 7 (by kernel_rfl) rfl (fun K hK => ?_); first | ((first | (refine qB_CAtK H rfl _ _ rfl _ _ rfl (wc x) HX.out HG.out _ Tryz.underlying81 rfl (infoWl x) (hK _ ?_)) | (refine qB_CAtK H rfl _ _ rfl _ _ rfl (wc x) HY.out HG'.out _ Tryz.underlying81 rfl (infoWl x) (hK _ ?_))); clear hK K) | (go_simp; first | (refine hK _ ?_; clear hK K) | (apply Exists.intro; refine ⟨fun _ => ?_, hK _ ?_⟩; (first | fail); clear hK K)))
          (refine g_quiet 8 (by kernel_rfl) rfl (fun K hK => ?_); first | ((first | (refine qB_CAtK H rfl _ _ rfl _ _ rfl (wc x) HX.out HG.out _ Tryz.underlying81 rfl (infoWl x) (hK _ ?_)) | (refine qB_CAtK H rfl _ _ rfl _ _ rfl (wc x) HY.out HG'.out _ Tryz.underlying81 rfl (infoWl x) (hK _ ?_))); clear hK K) | (go_simp; first | (refine hK _ ?_; clear hK K) | (apply Exists.intro; refine ⟨fun _ => ?_, hK _ ?_⟩; (first | fail); clear hK K)))
          refine g_done (by kernel_rfl) ?_
          rintro w1 hw1 -
          go_wp2
          go_roundw
          case rel => exact ⟨k + 1, by omega, by go_num, H2'.out, bstep hb hw1⟩
          case measure => simp [intOf]; omega
        · have e1 : decide (x = y) = false := decide_eq_false e
          have H3' := Lib.hid (H3.out e)
          clear e H2 H3
          refine g_start 9 rfl (by kernel_rfl) ?_
          (refine g_quiet 0 (by kernel_rfl) rfl (fun K hK => ?_); first | ((first | (refine qB_CAtK H rfl _ _ rfl _ _ rfl (wc x) HX.out HG.out _ Tryz.underlying81 rfl (infoWl x) (hK _ ?_)) | (refine qB_CAtK H rfl _ _ rfl _ _ rfl (wc y) HY.out HG'.out _ Tryz.underlying81 rfl (infoWl y) (hK _ ?_))); clear hK K) | (go_simp; first | (refine hK _ ?_; clear hK K) | (apply Exists.intro; refine ⟨fun _ => ?_, hK _ ?_⟩; (first | fail); clear hK K)))
          (refine g_quiet 1 (by kernel_rfl) rfl (fun K hK => ?_); first | ((first | (refine qB_CAtK H rfl _ _ rfl _ _ rfl (wc x) HX.out HG.out _ Tryz.underlying81 rfl (infoWl x) (hK _ ?_)) | (refine qB_CAtK H rfl _ _ rfl _ _ rfl (wc y) HY.out HG'.out _ Tryz.underlying81 rfl (infoWl y) (hK _ ?_))); clear hK K) | (go_simp; first | (refine hK _ ?_; clear hK K) | (apply Exists.intro; refine ⟨fun _ => ?_, hK _ ?_⟩; (first | fail); clear hK K)))
          (refine g_quiet 2 (by kernel_rfl) rfl (fun K hK => ?_); first | ((first | (refine qB_CAtK H rfl _ _ rfl _ _ rfl (wc x) HX.out HG.out _ Tryz.underlying81 rfl (infoWl x) (hK _ ?_)) | (refine qB_CAtK H rfl _ _ rfl _ _ rfl (wc y) HY.out HG'.out _ Tryz.underlying81 rfl (infoWl y) (hK _ ?_))); clear hK K) | (go_simp; first | (refine hK _ ?_; clear hK K) | (apply Exists.intro; refine ⟨fun _ => ?_, hK _ ?_⟩; (first | fail); clear hK K)))
          (refine g_quiet 3 (by kernel_rfl) rfl (fun K hK => ?_); first | ((first | (refine qB_CAtK H rfl _ _ rfl _ _ rfl (wc x) HX.out HG.out _ Tryz.underlying81 rfl (infoWl x) (hK _ ?_)) | (refine qB_CAtK H rfl _ _ rfl _ _ rfl (wc y) HY.out HG'.out _ Tryz.underlying81 rfl (infoWl y) (hK _ ?_))); clear hK K) | (go_simp; first | (refine hK _ ?_; clear hK K) | (apply Exists.intro; refine ⟨fun _ => ?_, hK _ ?_⟩; (first | fail); clear hK K)))
          (refine g_quiet 4 (by kernel_rfl) rfl (fun K hK => ?_); first | ((first | (refine qB_CAtK H rfl _ _ rfl _ _ rfl (wc x) HX.out HG.out _ Tryz.underlying81 rfl (infoWl x) (hK _ ?_)) | (refine qB_CAtK H rfl _ _ rfl _ _ rfl (wc y) HY.out HG'.out _ Tryz.underlying81 rfl (infoWl y) (hK _ ?_))); clear hK K) | (go_simp; first | (refine hK _ ?_; clear hK K) | (apply Exists.intro; refine ⟨fun _ => ?_, hK _ ?_⟩; (first | fail); clear hK K)))
          (refine g_quiet 5 (by kernel_rfl) rfl (fun K hK => ?_); first | ((first | (refine qB_CAtK H rfl _ _ rfl _ _ rfl (wc x) HX.out HG.out _ Tryz.underlying81 rfl (infoWl x) (hK _ ?_)) | (refine qB_CAtK H rfl _ _ rfl _ _ rfl (wc y) HY.out HG'.out _ Tryz.underlying81 rfl (infoWl y) (hK _ ?_))); clear hK K) | (go_simp; first | (refine hK _ ?_; clear hK K) | (apply Exists.intro; refine ⟨fun _ => ?_, hK _ ?_⟩; (first | fail); clear hK K)))
          (refine g_quiet 6 (by kernel_rfl) rfl (fun K hK => ?_); first | ((first | (refine qB_CAtK H rfl _ _ rfl _ _ rfl (wc x) HX.out HG.out _ Tryz.underlying81 rfl (infoWl x) (hK _ ?_)) | (refine qB_CAtK H rfl _ _ rfl _ _ rfl (wc y) HY.out HG'.out _ Tryz.underlying81 rfl (infoWl y) (hK _ ?_))); clear hK K) | (go_simp; first | (refine hK _ ?_; clear hK K) | (apply Exists.intro; refine ⟨fun _ => ?_, hK _ ?_⟩; (first | fail); clear hK K)))
          (refine g_quiet 7 (by kernel_rfl) rfl (fun K hK => ?_); first | ((first | (refine qB_CAtK H rfl _ _ rfl _ _ rfl (wc x) HX.out HG.out _ Tryz.underlying81 rfl (infoWl x) (hK _ ?_)) | (refine qB_CAtK H rfl _ _ rfl _ _ rfl (wc y) HY.out HG'.out _ Tryz.underlying81 rfl (infoWl y) (hK _ ?_))); clear hK K) | (go_simp; first | (refine hK _ ?_; clear hK K) | (apply Exists.intro; refine ⟨fun _ => ?_, hK _ ?_⟩; (first | fail); clear hK K)))
          (refine g_quiet 8 (by kernel_rfl) rfl (fun K hK => ?_); first | ((first | (refine qB_CAtK H rfl _ _ rfl _ _ rfl (wc x) HX.out HG.out _ Tryz.underlying81 rfl (infoWl x) (hK _ ?_)) | (refine qB_CAtK H rfl _ _ rfl _ _ rfl (wc y) HY.out HG'.out _ Tryz.underlying81 rfl (infoWl y) (hK _ ?_))); clear hK K) | (go_simp; first | (refine hK _ ?_; clear hK K) | (apply Exists.intro; refine ⟨fun _ => ?_, hK _ ?_⟩; (first | fail); clear hK K)))
          refine g_done (by kernel_rfl) ?_
          rintro w1 hw1 -
          go_wp2
          go_ret
          exact ⟨ret_bool (decide_eq_false H3'.out).symm, bstep hb hw1⟩
      · obtain rfl : k = l.length := by omega
        have H4 : Hid (l = m) := by
          have := H1.out
          rw [List.take_length, hlen.out, List.take_length] at this
          exact this
        go_wp2
        go_ret
        exact ⟨ret_bool (decide_eq_true H4.out).symm, hb⟩
  · have hl2 : ¬ (l.length : Int) = (m.length : Int) := by omega
    have HN : Hid (decide (l = m) = false) := decide_eq_false (fun e => hlen (by rw [e]))
    go_enter Tryz.func48, Tryz.ntmps48
    go_wp2
    go_ret
    exact ⟨ret_bool HN.out.symm, Below.refl _ _⟩
end Go.Proofs.YtbngpcghognojaaGreatDoor
namespace Go.Proofs.YtbngpcghognojaaGreatDoor
open Go Go.RowKit
set_option linter.unusedVariables false
set_option linter.unusedSimpArgs false
set_option maxRecDepth 100000
set_option maxHeartbeats 4000000
attribute [local go_sem] Oper.qB
theorem OwnN.two {α : Type} {f : α → List Value} {k : Nat} (hk : 0 < k) (hf : ∀ x, (f x).length = k) {w : World} {B e : Nat} {v : Value} {l : List α} (h : OwnN f w B e k v l) : (l = [] ∧ ∃ A c, v = .slice A 0 c) ∨ ∃ g cap, v = .slice (some ⟨g, 0, none⟩) l.length cap ∧ Lies f w g l := by
  rcases h.cases hk hf with ⟨rfl, rfl⟩ | ⟨g, cap, rfl⟩
  · exact .inl ⟨rfl, none, 0, rfl⟩
  · exact .inr ⟨g, cap, rfl, h.lies⟩
theorem sSameOrder_nil (A A' : Option Addr) (c c' : Nat) (w : World) : Calls Tryz.prog 48 #[.slice A 0 c, .slice A' 0 c'] w fun e w' => e = .returned (.bool true) ∧ Below w.heap.size w w' := by
  have HS : Hid (Calls Tryz.prog 108 #[.slice A 0 c, .slice A' 0 c'] w fun e w' => e = .returned (.bool true) ∧ Below w.heap.size w w') := by
    show Calls Tryz.prog 108 #[.slice A 0 c, .slice A' 0 c'] w fun e w' => e = .returned (.bool true) ∧ Below w.heap.size w w'
    go_enter Tryz.func108, Tryz.ntmps108
    go_wp2
    go_loopw [5] (fun i wr => i = .int .i64 0 ∧ Below w.heap.size w wr) (fun i _ => 0)
    case atStart => exact ⟨rfl, Below.refl _ _⟩
    case round =>
      obtain ⟨rfl, hb⟩ := hrel
      go_wp2
      go_ret
      exact ⟨rfl, hb⟩
  go_enter Tryz.func48, Tryz.ntmps48
  go_wp2_with (go_at_call 108; refine HS.out.mono ?_; rintro e w1 ⟨rfl, hb⟩)
  go_ret
  exact ⟨rfl, hb⟩
theorem sSameOrder_own {B B' e e' : Nat} {v v' : Value} {l : List Wt} (w : World) (h : OwnN wc w B e 3 v l) (h' : OwnN wc w B' e' 3 v' l) (hl : l.length ≤ 1000000) : Calls Tryz.prog 48 #[v, v'] w fun e w' => e = .returned (.bool true) ∧ Below w.heap.size w w' := by
  rcases h.two (by decide) wc_length with ⟨hn, A, c, rfl⟩ | ⟨g, c, rfl, K⟩
  · subst hn
    obtain ⟨A', c', rfl, -⟩ := h'.rd
    exact sSameOrder_nil A A' c c' w
  · rcases h'.two (by decide) wc_length with ⟨hn, A', c', rfl⟩ | ⟨g', c', rfl, K'⟩
    · subst hn
      exact sSameOrder_nil _ A' c c' w
    · exact (sSameOrder_any g 0 c g' 0 c' l l w K.c K'.c K.lt K'.lt (by omega) (by omega)).mono fun e w' ⟨he, hb⟩ => ⟨by rw [he]; simp, hb⟩
theorem SameOrder_nil (A A' : Option Addr) (c c' : Nat) (w : World) : Calls Tryz.prog 49 #[.slice A 0 c, .slice A' 0 c'] w fun e w' => e = .returned (.bool true) ∧ Below w.heap.size w w' := by
  have HS : Hid (Calls Tryz.prog 109 #[.slice A 0 c, .slice A' 0 c'] w fun e w' => e = .returned (.bool true) ∧ Below w.heap.size w w') := by
    show Calls Tryz.prog 109 #[.slice A 0 c, .slice A' 0 c'] w fun e w' => e = .returned (.bool true) ∧ Below w.heap.size w w'
    go_enter Tryz.func109, Tryz.ntmps109
    go_wp2
    go_loopw [13] (fun i wr => i = .int .i64 0 ∧ Below w.heap.size w wr) (fun i _ => 0)
    case atStart => exact ⟨rfl, Below.refl _ _⟩
    case round =>
      obtain ⟨rfl, hb⟩ := hrel
      go_wp2
      go_ret
      exact ⟨rfl, hb⟩
  go_enter Tryz.func49, Tryz.ntmps49
  go_wp2_with (go_at_call 109; refine HS.out.mono ?_; rintro e w1 ⟨rfl, hb⟩)
  go_ret
  exact ⟨rfl, hb⟩
theorem SameOrder_own {B B' e e' : Nat} {v v' : Value} {l : List Wt} (w : World) (h : OwnN wc w B e 3 v l) (h' : OwnN wc w B' e' 3 v' l) (hl : l.length ≤ 1000000) : Calls Tryz.prog 49 #[v, v'] w fun e w' => e = .returned (.bool true) ∧ Below w.heap.size w w' := by
  rcases h.two (by decide) wc_length with ⟨hn, A, c, rfl⟩ | ⟨g, c, rfl, K⟩
  · subst hn
    obtain ⟨A', c', rfl, -⟩ := h'.rd
    exact SameOrder_nil A A' c c' w
  · rcases h'.two (by decide) wc_length with ⟨hn, A', c', rfl⟩ | ⟨g', c', rfl, K'⟩
    · subst hn
      exact SameOrder_nil _ A' c c' w
    · exact (SameOrder_any g 0 c g' 0 c' l l w K.c K'.c (by omega) (by omega)).mono fun e w' ⟨he, hb⟩ => ⟨by rw [he]; simp, hb⟩
theorem ValidOrder_nil (A : Option Addr) (c : Nat) (w : World) : Calls Tryz.prog 50 #[.slice A 0 c] w fun e w' => e = .returned (.bool true) ∧ Below w.heap.size w w' := by
  go_enter Tryz.func50, Tryz.ntmps50
  go_wp2
  go_loopw [7] (fun i wr => i = .int .i64 0 ∧ Below w.heap.size w wr) (fun i _ => 0)
  case atStart => exact ⟨rfl, Below.refl _ _⟩
  case round =>
    obtain ⟨rfl, hb⟩ := hrel
    go_wp2
    go_ret
    exact ⟨rfl, hb⟩
theorem ValidOrder_own {B e : Nat} {v : Value} {l : List Wt} (w : World) (h : OwnN wc w B e 3 v l) (hl : l.length ≤ 1000000) (hk : ordOk l = true) : Calls Tryz.prog 50 #[v] w fun e w' => e = .returned (.bool true) ∧ Below w.heap.size w w' := by
  rcases h.two (by decide) wc_length with ⟨hn, A, c, rfl⟩ | ⟨g, c, rfl, K⟩
  · exact ValidOrder_nil A c w
  · have := ValidOrder_any g 0 c l w K.c K.lt (by omega)
    rwa [hk] at this
theorem WantedIn_nil (A : Option Addr) (c : Nat) (w : World) : Calls Tryz.prog 42 #[.slice A 0 c] w fun e w' => e = .returned (.tuple #[.int .i64 0, .int .i64 0]) ∧ Below w.heap.size w w' := by
  have HV := Lib.hid (ValidOrder_nil A c w)
  go_enter Tryz.func42, Tryz.ntmps42
  go_wp2_with (go_at_call 50; refine HV.out.mono ?_; rintro e w1 ⟨rfl, hb1⟩)
  go_loopw [4, 12] (fun s i wr => s = .int .i64 0 ∧ i = .int .i64 0 ∧ Below w.heap.size w wr) (fun _ i _ => 0)
  case atStart => exact ⟨rfl, rfl, hb1⟩
  case round =>
    obtain ⟨rfl, rfl, hb⟩ := hrel
    go_wp2
    exact bodyPost_ret (results_tt rfl) rfl ⟨rfl, hb⟩
theorem WantedIn_own {B e : Nat} {v : Value} {l : List Wt} (w : World) (h : OwnN wc w B e 3 v l) (hl : l.length ≤ 1000000) (hk : ordOk l = true) : Calls Tryz.prog 42 #[v] w fun e w' => e = .returned (.tuple #[.int .i64 (sumW l), .int .i64 0]) ∧ Below w.heap.size w w' := by
  rcases h.two (by decide) wc_length with ⟨hn, A, c, rfl⟩ | ⟨g, c, rfl, K⟩
  · subst hn
    exact WantedIn_nil A c w
  · have := WantedIn_any g 0 c l w K.c K.lt (by omega)
    rwa [show wantedR l = (sumW l, 0) by rw [wantedR, if_pos hk]] at this
theorem sSameStack_nil (A A' : Option Addr) (c c' : Nat) (w : World) : Calls Tryz.prog 55 #[.slice A 0 c, .slice A' 0 c'] w fun e w' => e = .returned (.bool true) ∧ Below w.heap.size w w' := by
  go_enter Tryz.func55, Tryz.ntmps55
  go_wp2
  go_loopw [5] (fun i wr => i = .int .i64 0 ∧ Below w.heap.size w wr) (fun i _ => 0)
  case atStart => exact ⟨rfl, Below.refl _ _⟩
  case round =>
    obtain ⟨rfl, hb⟩ := hrel
    go_wp2
    go_ret
    exact ⟨rfl, hb⟩
theorem sSameStack_own {B B' e e' : Nat} {v v' : Value} {l : List Cr} (w : World) (h : OwnN cc w B e 24 v l) (h' : OwnN cc w B' e' 24 v' l) (hl : l.length ≤ 1000000) : Calls Tryz.prog 55 #[v, v'] w fun e w' => e = .returned (.bool true) ∧ Below w.heap.size w w' := by
  rcases h.two (by decide) cc_length with ⟨hn, A, c, rfl⟩ | ⟨g, c, rfl, K⟩
  · subst hn
    obtain ⟨A', c', rfl, -⟩ := h'.rd
    exact sSameStack_nil A A' c c' w
  · rcases h'.two (by decide) cc_length with ⟨hn, A', c', rfl⟩ | ⟨g', c', rfl, K'⟩
    · subst hn
      exact sSameStack_nil _ A' c c' w
    · exact (sSameStack_any g 0 c g' 0 c' l l w K.c K'.c K.lt K'.lt (by omega) (by omega)).mono fun e w' ⟨he, hb⟩ => ⟨by rw [he]; simp, hb⟩
/-- A number from 0 to n - 1. -/
theorem a2At_any (A : Option Addr) (c : Nat) (l : List Int) (w : World) (hr : RdA w A (u8v l)) (hb : ∀ x ∈ l, 0 ≤ x ∧ x ≤ 255) (hl : l.length ≤ 1000000) :
    Calls Tryz.prog 37 #[.slice A l.length c, .int .i64 0, .int .i64 6] w fun e w' => (∃ n : Int, e = .returned (.int .i64 n) ∧ 0 ≤ n ∧ n ≤ 5) ∧ Below w.heap.size w w' := by
  by_cases h0 : 0 < l.length
  · obtain ⟨g, off, rfl, hg, hC⟩ := hr.some (by rw [u8v_length]; exact h0)
    have x0 : w.cell? ⟨g, off, none⟩ = some (.int .u8 (l.getD 0 0)) := by simpa using hC 0 _ (u8v_at l 0 h0)
    have hx := byte_at hb 0
    generalize l.getD 0 0 = x at x0 hx
    have hx1 := hx.1
    have hx2 := hx.2
    have h0i : (0 : Int) < (l.length : Int) := by omega
    have hne : ¬ l = [] := by intro e; subst e; simp at h0
    have hxw : IntKind.i64.wrap x = x := by rw [IntKind.wrap_i64]; omega
    go_enter Tryz.func37, Tryz.ntmps37
    go_wp2
    go_ret
    refine ⟨⟨_, rfl, ?_, ?_⟩, Below.refl _ _⟩
    · have := Int.tmod_nonneg 6 hx1; first | assumption | (rw [Int.tmod_eq_emod_of_nonneg hx1] at *; omega) | omega
    · first | (rw [Int.tmod_eq_emod_of_nonneg hx1]; omega) | omega
  · obtain rfl : l = [] := List.length_eq_zero_iff.1 (by omega)
    go_enter Tryz.func37, Tryz.ntmps37
    go_wp2
    go_ret
    exact ⟨⟨0, rfl, by decide, by decide⟩, Below.refl _ _⟩
end Go.Proofs.YtbngpcghognojaaGreatDoor
namespace Go.Proofs.YtbngpcghognojaaGreatDoor
open Go Go.Sort Go.RowKit
set_option linter.unusedVariables false
set_option linter.unusedSimpArgs false
set_option maxRecDepth 100000
set_option maxHeartbeats 1000000
attribute [local go_sem] Oper.qB
theorem str_app (a b : List UInt8) : (⟨a.toArray⟩ : ByteArray) ++ ⟨b.toArray⟩ = ⟨(a ++ b).toArray⟩ := by
  refine ByteArray.ext ?_
  simp [ByteArray.data_append]
end Go.Proofs.YtbngpcghognojaaGreatDoor
namespace Go.Proofs.YtbngpcghognojaaGreatDoor
open Go Go.Sort Go.RowKit
set_option linter.unusedVariables false
set_option linter.unusedSimpArgs false
set_option maxRecDepth 100000
set_option maxHeartbeats 1000000
attribute [local go_sem] Oper.qB
theorem intc_snoc (s : UInt8) (p : List UInt8) : ∀ ls : List (List UInt8), ls ≠ [] → intc s (ls ++ [p]) = intc s ls ++ s :: p
  | [], h => absurd rfl h
  | [q], _ => rfl
  | q :: r :: ls, _ => by
    have ih := intc_snoc s p (r :: ls) (by simp)
    show q ++ s :: intc s (r :: ls ++ [p]) = q ++ s :: intc s (r :: ls) ++ s :: p
    rw [ih]
    simp
theorem ordK_len {l : List Wt} (h : ordOk l = true) {k : Nat} (hk : k ≤ l.length) : (intc 32 ((l.take k).map wantT)).length ≤ 8 * 4001 := by
  have h8 : l.length ≤ 8 := by
    simp only [ordOk, Bool.and_eq_true, decide_eq_true_iff] at h
    exact h.2
  have := intc_len 32 4000 ((l.take k).map wantT) fun p hp => by
    obtain ⟨x, hx, rfl⟩ := List.mem_map.1 hp
    obtain ⟨i, hi, rfl⟩ := List.getElem_of_mem (List.mem_of_mem_take hx)
    have h2 := ordOk_at h hi
    rw [getB hi] at h2
    exact wantT_len h2.1 h2.2.1 h2.2.2
  rw [List.length_map, List.length_take] at this
  have h3 : (min k l.length) * (4000 + 1) ≤ 8 * 4001 := Nat.mul_le_mul_right _ (by omega)
  omega
end Go.Proofs.YtbngpcghognojaaGreatDoor
namespace Go.Proofs.YtbngpcghognojaaGreatDoor
open Go Go.RowKit
set_option linter.unusedVariables false
set_option linter.unusedSimpArgs false
set_option maxRecDepth 100000
set_option maxHeartbeats 4000000
/-- Slices of slices: nil and empty, or lying in memory. -/
def PtV (w : World) (v : Value) (ps : List (List Wt)) : Prop :=
  ∃ A c, v = .slice A ps.length c ∧ ∀ i, i < ps.length → ∃ g g1 c1, A = some ⟨g, 0, none⟩ ∧ g < w.heap.size ∧ w.cell? ⟨g, i, none⟩ = some (.slice (some ⟨g1, 0, none⟩) ps[i]!.length c1) ∧ Lies wc w g1 ps[i]! ∧ ps[i]!.length ≤ c1
theorem PtV.below {w w' : World} {v : Value} {ps : List (List Wt)} (h : PtV w v ps) (hb : Below w.heap.size w w') : PtV w' v ps := by
  obtain ⟨A, c, e, h⟩ := h
  refine ⟨A, c, e, fun i hi => ?_⟩
  obtain ⟨g, g1, c1, h1, h2, h3, h4, h5⟩ := h i hi
  exact ⟨g, g1, c1, h1, Nat.lt_of_lt_of_le h2 hb.size, (hb.cell h2).trans h3, h4.below hb, h5⟩
theorem PtV.sl {w : World} {v : Value} {ps : List (List Wt)} (h : PtV w v ps) : ∃ A c, v = .slice A ps.length c := by
  obtain ⟨A, c, e, -⟩ := h
  exact ⟨A, c, e⟩
theorem PtV.at {w : World} {A : Option Addr} {n c : Nat} {ps : List (List Wt)} (h : PtV w (.slice A n c) ps) {i : Nat} (hi : i < ps.length) : ∃ g g1 c1, A = some ⟨g, 0, none⟩ ∧ g < w.heap.size ∧ w.cell? ⟨g, i, none⟩ = some (.slice (some ⟨g1, 0, none⟩) ps[i]!.length c1) ∧ Lies wc w g1 ps[i]! ∧ ps[i]!.length ≤ c1 := by
  obtain ⟨A', c', e, h⟩ := h
  have e1 : A = A' := by injection e
  obtain ⟨g, g1, c1, h1, h2⟩ := h i hi
  exact ⟨g, g1, c1, e1.trans h1, h2⟩
theorem PtV.ofA {w : World} {B T : Nat} {v : Value} {ps : List (List Wt)} (h : OwnA wc 3 81 64 w B T v ps) : PtV w v ps := by
  obtain ⟨g, c, rfl⟩ := h.form
  refine ⟨_, c, rfl, fun i hi => ?_⟩
  obtain ⟨h1, g1, c1, h2, h3, h4⟩ := h.el hi
  exact ⟨g, g1, c1, rfl, h1, h2, h3, h4⟩
theorem iSplit_ok (g0 c0 : Nat) (l : List Wt) (most : Int) (w : World) (K0 : Lies wc w g0 l) (hk : ordOk l = true) (h0 : 1 ≤ most) (hm : most ≤ 144) :
    Calls Tryz.prog 43 #[.slice (some ⟨g0, 0, none⟩) l.length c0, .int .i64 most] w fun e w' => ∃ v, e = .returned (.tuple #[v, .int .i64 0]) ∧ PtV w' v (splI l most l.length).1 ∧ Below w.heap.size w w' := by
  have h8 := ordOk_len hk
  have := SplitOrder_any g0 c0 l most w K0 (by omega)
  rw [splitR_is hk h0 hm] at this
  refine this.mono fun e w' ⟨v, he, hv, hb⟩ => ⟨v, he, ?_, hb⟩
  rcases hv with ⟨h1, h2⟩ | hv
  · replace h1 : (splI l most l.length).1 = [] := h1
    rw [h1, h2]
    exact ⟨none, 0, rfl, fun i hi => absurd hi (Nat.not_lt_zero _)⟩
  · exact PtV.ofA hv
theorem sSplit_ok (g0 c0 : Nat) (l : List Wt) (most : Int) (w : World) (K0 : Lies wc w g0 l) (hk : ordOk l = true) (h0 : 1 ≤ most) (hm : most ≤ 144) :
    Calls Tryz.prog 44 #[.slice (some ⟨g0, 0, none⟩) l.length c0, .int .i64 most] w fun e w' => ∃ v, e = .returned (.tuple #[v, .int .i64 0]) ∧ PtV w' v (splI l most l.length).1 ∧ Below w.heap.size w w' := by
  have h8 := ordOk_len hk
  have := sSplitOrder_any g0 c0 l most w K0 (by omega)
  rw [splitR_is hk h0 hm] at this
  exact this.mono fun e w' ⟨v, he, hv, hb⟩ => ⟨v, he, PtV.ofA hv, hb⟩
theorem OrderText_ok (g0 c0 : Nat) (l : List Wt) (w : World) (K0 : Lies wc w g0 l) (hk : ordOk l = true) (ht : Tab w) :
    Calls Tryz.prog 39 #[.slice (some ⟨g0, 0, none⟩) l.length c0] w fun e w' => e = .returned (.string ⟨(ordT l).toArray⟩) ∧ Below w.heap.size w w' := by
  have h8 := ordOk_len hk
  have := OrderText_any g0 0 c0 l w K0.c K0.lt (by omega) ht
  rwa [if_pos hk] at this
theorem ReadOrder_ok (l : List Wt) (hk : ordOk l = true) (m : Int) (w : World) (ht : Tab w) (h2 : ErrV w (Tryz.lx117_ren.g 15)) (h3 : ErrV w (Tryz.lx117_ren.g 16)) (hm : w.cell? ⟨Tryz.lx64_ren.g 1, 0, none⟩ = some (.int .i64 m)) :
    Calls Tryz.prog 38 #[.string ⟨(ordT l).toArray⟩] w fun e w' => ∃ v, e = .returned (.tuple #[v, .int .i64 0]) ∧ OwnN wc w' w.heap.size 81 3 v l ∧ Below w.heap.size w w' := by
  have h1 := ordT_len hk
  have := ReadOrder_any (ordT l) (by omega) m w ht h2 h3 hm
  rwa [roR_ordT hk] at this
theorem Short_ok (g0 c0 : Nat) (lc : List Cr) (g1 c1 : Nat) (l : List Wt) (w : World) (K0 : Lies cc w g0 lc) (K1 : Lies wc w g1 l) (hs : stackOk lc = true) (hk : ordOk l = true) :
    Calls Tryz.prog 45 #[.slice (some ⟨g0, 0, none⟩) lc.length c0, .slice (some ⟨g1, 0, none⟩) l.length c1] w fun e w' => ∃ v, e = .returned (.tuple #[v, .int .i64 0]) ∧ OwnN wc w' w.heap.size 81 3 v (lackL (cntL lc) l) ∧ Below w.heap.size w w' := by
  have ha : askOk lc l = true := by rw [askOk, hs, hk]; rfl
  have hle := ask_le ha
  have := ShortIn_any g0 c0 lc g1 c1 l w K0 K1 (by omega) (by omega)
  rwa [show shortR lc l = (lackL (cntL lc) l, 0) by rw [shortR, if_pos ha]] at this
theorem sShort_ok (g0 c0 : Nat) (lc : List Cr) (g1 c1 : Nat) (l : List Wt) (w : World) (K0 : Lies cc w g0 lc) (K1 : Lies wc w g1 l) (hs : stackOk lc = true) (hk : ordOk l = true) :
    Calls Tryz.prog 46 #[.slice (some ⟨g0, 0, none⟩) lc.length c0, .slice (some ⟨g1, 0, none⟩) l.length c1] w fun e w' => ∃ v, e = .returned (.tuple #[v, .int .i64 0]) ∧ OwnN wc w' w.heap.size 81 3 v (lackL (cntL lc) l) ∧ Below w.heap.size w w' := by
  have ha : askOk lc l = true := by rw [askOk, hs, hk]; rfl
  have hle := ask_le ha
  have := sShortIn_any g0 c0 lc g1 c1 l w K0 K1 (by omega) (by omega)
  rwa [show shortR lc l = (lackL (cntL lc) l, 0) by rw [shortR, if_pos ha]] at this
theorem Can_ok (g0 c0 : Nat) (lc : List Cr) (g1 c1 : Nat) (l : List Wt) (w : World) (K0 : Lies cc w g0 lc) (K1 : Lies wc w g1 l) (hs : stackOk lc = true) (hk : ordOk l = true) :
    Calls Tryz.prog 47 #[.slice (some ⟨g0, 0, none⟩) lc.length c0, .slice (some ⟨g1, 0, none⟩) l.length c1] w fun e w' => e = .returned (.tuple #[.bool (((lackL (cntL lc) l).length : Int) == 0), .int .i64 0]) ∧ Below w.heap.size w w' := by
  have ha : askOk lc l = true := by rw [askOk, hs, hk]; rfl
  have hle := ask_le ha
  have := CanFill_any g0 c0 lc g1 c1 l w K0 K1 (by omega) (by omega)
  rw [show canR lc l = ((lackL (cntL lc) l).isEmpty, 0) by rw [canR, if_pos ha]] at this
  have e : (((lackL (cntL lc) l).length : Int) == 0) = (lackL (cntL lc) l).isEmpty := by
    generalize lackL (cntL lc) l = x
    cases x with
    | nil => rfl
    | cons y x => rw [List.isEmpty_cons, beq_eq_false_iff_ne, List.length_cons]; omega
  rwa [e]
theorem Cases_ok (g0 c0 : Nat) (l : List Wt) (w : World) (K0 : Lies wc w g0 l) (hk : ordOk l = true) :
    Calls Tryz.prog 53 #[.slice (some ⟨g0, 0, none⟩) l.length c0] w fun e w' => ∃ v, e = .returned (.tuple #[v, .int .i64 0]) ∧ OwnN cc w' w.heap.size 28 24 v (packL (botsL l)) ∧ Below w.heap.size w w' := by
  have h8 := ordOk_len hk
  have := CasesFor_any g0 c0 l w K0 (by omega)
  rwa [show casesR l = (packL (botsL l), 0) by rw [casesR, if_pos hk]] at this
theorem sCases_ok (g0 c0 : Nat) (l : List Wt) (w : World) (K0 : Lies wc w g0 l) (hk : ordOk l = true) :
    Calls Tryz.prog 54 #[.slice (some ⟨g0, 0, none⟩) l.length c0] w fun e w' => ∃ v, e = .returned (.tuple #[v, .int .i64 0]) ∧ OwnN cc w' w.heap.size 28 24 v (packL (botsL l)) ∧ Below w.heap.size w w' := by
  have h8 := ordOk_len hk
  have := sCasesFor_any g0 c0 l w K0 (by omega)
  rwa [show casesR l = (packL (botsL l), 0) by rw [casesR, if_pos hk]] at this
theorem Count_ok (g0 c0 : Nat) (lc : List Cr) (b : Bt) (w : World) (K0 : Lies cc w g0 lc) (hs : stackOk lc = true) (hb : b.ok = true) :
    Calls Tryz.prog 51 #[.slice (some ⟨g0, 0, none⟩) lc.length c0, bv b] w fun e w' => e = .returned (.tuple #[.int .i64 (cntL lc b), .int .i64 0]) ∧ Below w.heap.size w w' := by
  have h5 : lc.length ≤ 12 := by simp [stackOk] at hs; omega
  have := CountOf_any g0 0 c0 lc b w K0.c K0.lt (by omega)
  rwa [show countR lc b = ((cntL lc b : Int), 0) by rw [countR, hs, hb]; rfl] at this
theorem Wanted_ok (g0 c0 : Nat) (l : List Wt) (w : World) (K0 : Lies wc w g0 l) (hk : ordOk l = true) :
    Calls Tryz.prog 42 #[.slice (some ⟨g0, 0, none⟩) l.length c0] w fun e w' => e = .returned (.tuple #[.int .i64 (sumW l), .int .i64 0]) ∧ Below w.heap.size w w' := by
  have h8 := ordOk_len hk
  have := WantedIn_any g0 0 c0 l w K0.c K0.lt (by omega)
  rwa [show wantedR l = (sumW l, 0) by rw [wantedR, if_pos hk]] at this
theorem sSame_lies (g0 c0 g1 c1 : Nat) (l : List Wt) (w : World) (K0 : Lies wc w g0 l) (K1 : Lies wc w g1 l) (hl : l.length ≤ 1000000) :
    Calls Tryz.prog 48 #[.slice (some ⟨g0, 0, none⟩) l.length c0, .slice (some ⟨g1, 0, none⟩) l.length c1] w fun e w' => e = .returned (.bool true) ∧ Below w.heap.size w w' :=
  (sSameOrder_any g0 0 c0 g1 0 c1 l l w K0.c K1.c K0.lt K1.lt (by omega) (by omega)).mono fun e w' ⟨he, hb⟩ => ⟨by rw [he]; simp, hb⟩
theorem sSame_lies_own {B e : Nat} {v : Value} (g1 c1 : Nat) (l : List Wt) (w : World) (h : OwnN wc w B e 3 v l) (K1 : Lies wc w g1 l) (hl : l.length ≤ 1000000) :
    Calls Tryz.prog 48 #[v, .slice (some ⟨g1, 0, none⟩) l.length c1] w fun e w' => e = .returned (.bool true) ∧ Below w.heap.size w w' := by
  rcases h.two (by decide) wc_length with ⟨hn, A, c, rfl⟩ | ⟨g, c, rfl, K⟩
  · subst hn
    exact sSameOrder_nil A _ c c1 w
  · exact sSame_lies g c g1 c1 l w K K1 hl
theorem iSame_lies_own {B e : Nat} {v : Value} (g1 c1 : Nat) (l : List Wt) (w : World) (h : OwnN wc w B e 3 v l) (K1 : Lies wc w g1 l) (hl : l.length ≤ 1000000) :
    Calls Tryz.prog 49 #[v, .slice (some ⟨g1, 0, none⟩) l.length c1] w fun e w' => e = .returned (.bool true) ∧ Below w.heap.size w w' := by
  rcases h.two (by decide) wc_length with ⟨hn, A, c, rfl⟩ | ⟨g, c, rfl, K⟩
  · subst hn
    exact SameOrder_nil A _ c c1 w
  · exact (SameOrder_any g 0 c g1 0 c1 l l w K.c K1.c (by omega) (by omega)).mono fun e w' ⟨he, hb⟩ => ⟨by rw [he]; simp, hb⟩
theorem Valid_ok (g0 c0 : Nat) (l : List Wt) (w : World) (K0 : Lies wc w g0 l) (hk : ordOk l = true) : Calls Tryz.prog 50 #[.slice (some ⟨g0, 0, none⟩) l.length c0] w fun e w' => e = .returned (.bool true) ∧ Below w.heap.size w w' := by
  have h8 := ordOk_len hk
  have := ValidOrder_any g0 0 c0 l w K0.c K0.lt (by omega)
  rwa [hk] at this
/-- The parts that are joined so far, and the next: the reference joins them. -/
theorem sJoin_part {l : List Wt} {most : Int} {ps : List (List Wt)} (hl : ordOk l = true) (h : Parts l most ps) {i : Nat} (hi : i < ps.length) (g0 c0 g1 c1 : Nat) (w : World) (K0 : Lies wc w g0 (foldJ ps i)) (K1 : Lies wc w g1 ps[i]!) :
    Calls Tryz.prog 41 #[.slice (some ⟨g0, 0, none⟩) (foldJ ps i).length c0, .slice (some ⟨g1, 0, none⟩) ps[i]!.length c1] w fun e w' => ∃ g c, e = .returned (.tuple #[.slice (some ⟨g, 0, none⟩) (foldJ ps (i + 1)).length c, .int .i64 0]) ∧ Lies wc w' g (foldJ ps (i + 1)) ∧ Below w.heap.size w w' := by
  have ha := (fold_ok hl h i (by omega)).2.2
  have hb := part_ok hl h hi
  have h8 := ordOk_len ha
  have h9 := ordOk_len hb
  have := sJoinOrders_any g0 c0 _ g1 c1 _ w K0 K1 (by omega) (by omega)
  rw [fold_join hl h hi] at this
  refine this.mono fun e w' ⟨v, he, hv, hb2⟩ => ?_
  rcases hv.two (by decide) wc_length with ⟨hn, -⟩ | ⟨g, c, rfl, K⟩
  · exfalso
    have h1 := (join_num zB (foldJ ps i) ps[i]! (ok_range ha) (ok_range hb)).2
    have h2 := (h.pt ps[i]! (by rw [getB hi]; exact List.getElem_mem _)).2.1
    have h3 := sumW_ge (fold_ok hl h i (by omega)).1.pos
    have h4 : joinW (foldJ ps i) ps[i]! = [] := hn
    rw [h4] at h1
    have h5 : sumW [] = 0 := by simp [sumW]
    omega
  · exact ⟨g, c, he, K, hb2⟩
theorem fold_len {l : List Wt} {most : Int} {ps : List (List Wt)} (hl : ordOk l = true) (h : Parts l most ps) {i : Nat} (hi : i ≤ ps.length) : (foldJ ps i).length ≤ 8 := ordOk_len (fold_ok hl h i hi).2.2
theorem Parts.at {l : List Wt} {most : Int} {ps : List (List Wt)} (h : Parts l most ps) {i : Nat} (hi : i < ps.length) : 1 ≤ sumW ps[i]! ∧ sumW ps[i]! ≤ most ∧ (i + 1 < ps.length → sumW ps[i]! = most) :=
  have := h.pt ps[i]! (by rw [getB hi]; exact List.getElem_mem _)
  ⟨this.2.1, this.2.2, h.full i⟩
theorem parts_len {l : List Wt} {most : Int} (hl : ordOk l = true) (h0 : 1 ≤ most) (hm : most ≤ 144) : (splI l most l.length).1.length ≤ 1152 := by
  have := (splitR_le l most).1
  rwa [splitR_is hl h0 hm] at this
theorem lack_le8 {l : List Wt} (hl : ordOk l = true) (f : Bt → Nat) : (lackL f l).length ≤ 8 := by
  have h1 := ordOk_len hl
  have h2 := lackL_le f l
  omega
end Go.Proofs.YtbngpcghognojaaGreatDoor
namespace Go.Proofs.YtbngpcghognojaaGreatDoor
open Go Go.RowKit Go.ChangeShapes Go.WideShapes Go.ChangeAt
set_option linter.unusedVariables false
set_option linter.unusedSimpArgs false
set_option maxRecDepth 100000
set_option maxHeartbeats 1000000
/-- A byte. -/
structure By where
  n : Int
  h : 0 ≤ n ∧ n ≤ 255
instance : Inhabited By := ⟨⟨0, by decide⟩⟩
def byc (x : By) : List Value := [.int .u8 x.n]
theorem byc_len (x : By) : (byc x).length = 1 := rfl
theorem fl_byc : ∀ l : List By, fl byc l = u8v (l.map By.n)
  | [] => rfl
  | x :: l => by
    rw [fl_cons, fl_byc l]
    rfl
theorem bounds_byte {k : Int} (h : IntKind.u8.wrap k = k) : 0 ≤ k ∧ k ≤ 255 := by
  rw [IntKind.wrap_u8] at h
  omega
theorem trod_byte {H : Type} {enc : TypeId × Value → H} {w : World} {base : Nat} {spare : Nat → Bool} {held : Bool} {n : Nat} {cs : List Value} {x : DataW H × List MemPlace} (h : DataW.trod enc Tryz.prog w base spare held n 5 cs = some x) : ∃ b : By, cs = byc b := by
  obtain ⟨d, m⟩ := x
  obtain ⟨y, e1, _, w1⟩ := DataW.trod_int Tryz.underlying5 h
  exact ⟨⟨y, bounds_u8 w1⟩, e1⟩
theorem read_bytes {H : Type} {enc : TypeId × Value → H} {w : World} {base : Nat} {spare : Nat → Bool} {held : Bool} {v : Value} {d : DataW H} {ps : List MemPlace} (hv : Value.okWide Tryz.prog w .any 0 22 v) (h : DataW.Trod enc Tryz.prog w base spare held 22 v d ps) :
    ∃ (A : Option Addr) (c : Nat) (l : List Int), v = .slice A l.length c ∧ l.length ≤ maxLen ∧ (RdA w A (u8v l) ∧ ∀ x ∈ l, 0 ≤ x ∧ x ≤ 255) := by
  obtain ⟨A, c, l, h1, h2, h3⟩ := read_slice Tryz.underlying22 (by kernel_rfl) (by decide) byc_len (fun n cs x h => trod_byte h) hv h
  refine ⟨A, c, l.map By.n, by rw [List.length_map]; exact h1, by rw [List.length_map]; exact h2, by rw [← fl_byc]; exact h3, fun x hx => ?_⟩
  obtain ⟨y, _, rfl⟩ := List.mem_map.1 hx
  exact y.h
end Go.Proofs.YtbngpcghognojaaGreatDoor
namespace Go.Proofs.YtbngpcghognojaaGreatDoor
open Go Go.RowKit
set_option linter.unusedVariables false
section
variable {H : Type} {enc : TypeId × Value → H}
/-- A law's contract, asked in a world that fits and whose listed variables read as told. -/
theorem handed_and_shaped {a : Assume} {C : Checked} {os : Os} {f : FuncId} {fn : Func} {s : ChangeSpec} {conds : List PathCond} {apart fresh handsOn again : Bool} {X : World → Array Value → Prop}
    (hX : ∀ (w w' : World) (args : Array Value), w.heap = w'.heap → X w args → X w' args)
    (own : ownKnob C.prog.godebug = none) (started : os.Started) (noInit : C.prog.inits.idxOf? f = none) (hfn : C.prog.funcs[f]? = some fn)
    (witness : ∃ (w : World) (tape : Tape) (i : Input), w.os = os ∧ (w.forCall tape i).Shaped C.prog ∧ i.vars = [] ∧ Input.okWide C.prog (w.forCall tape i) .any w.heap.size f i ∧
      ((s.pre enc C.prog fn conds apart (w.forCall tape i).memory i.args ∧ X (w.forCall tape i).memory i.args) ∧ sizedMet enc C.prog fn (OpenSpec.ofChange s) apart (w.forCall tape i).memory i.args) ∧ a.holds C.prog (lone (Frame.enter C.prog f i.args .normal) [] (w.forCall tape i)))
    (contract : ∀ (W : World) (base : Nat) (args : Array Value) (ds gs : List (DataW H)) (before : List MemPlace),
      (∀ (j : Nat) t v, fn.params[j]? = some t → args[j]? = some v → Value.okWide C.prog W .any base t v) →
      DataW.Whole enc C.prog fn.params.toList s.vars apart W args.toList ds gs before →
      conds.all (PathCond.test C.prog ⟨fn.params.toList, ds, s.plain.varTypes C.prog, gs⟩) = true →
      (DataW.weightsEach C.prog (fn.params.toList ++ s.plain.varTypes C.prog) (ds ++ gs)).all (· ≤ reachBytes) = true → X W args → W.ShapedOpen C.prog →
      a.holds C.prog (lone (Frame.enter C.prog f args .normal) [] W) →
      Calls C.prog f args W fun e W' => ∃ v, e = .returned v ∧ s.post enc C.prog fn apart fresh handsOn again W args v W') :
    ReturnsInHanded a C os f .any (fun w args => (s.pre enc C.prog fn conds apart w args ∧ X w args) ∧ sizedMet enc C.prog fn (OpenSpec.ofChange s) apart w args) (s.post enc C.prog fn apart fresh handsOn again) := by
  refine returnsInHanded_of_calls own started noInit witness ?_
  intro w tape i _ hsh _ hok hpre hholds
  obtain ⟨_, _, _, fn', hfn', _, _, _, _, hval⟩ := hok
  have e : fn' = fn := Option.some.inj (hfn'.symm.trans hfn)
  subst e
  obtain ⟨⟨⟨ds, gs, before, hw, hc⟩, hx⟩, hz⟩ := hpre
  have hw' := DataW.Whole.of_heap (w' := w.forCall tape i) (by rfl) hw
  refine (contract (w.forCall tape i) w.heap.size i.args ds gs before hval hw' hc (hz.weights hw) (hX _ _ _ (by rfl) hx) hsh hholds).mono fun e W' ⟨v, he, hp⟩ => ?_
  subst he
  exact ChangeSpec.post_blind hp
end
/-- What is listed behind the first variable. -/
theorem laidMet_tail {P : Program} {x : String × DataW Unit} {r : List (String × DataW Unit)} {W : World} (h : laidMet P (x :: r) W) : laidMet P r W := by
  obtain ⟨n, d⟩ := x
  obtain ⟨ps, ⟨g0, t0, cs0, f0, p0, q0, hg0, ht0, hv0, hd0, hq, e0⟩, hn, hrows⟩ := h
  subst e0
  exact ⟨q0, hq, (List.nodup_append.1 hn).2.1, fun b off hp => hrows b off (List.mem_append_right _ hp)⟩
/-- A variable that is listed as an error holds one. -/
theorem errV_of {P : Program} {n nm : String} {text : List UInt8} {r : List (String × DataW Unit)} {W : World} {g : Nat} {ti tp te ts : TypeId} {ms : Array (String × TypeId)} {f : Field}
    (h : laidMet P ((n, .iface nm (.ptr (.agg [.lit (.string text)]))) :: r) W)
    (hg : P.globalNamed n = some g) (ht : (P.globals[g]?).map (·.type) = some ti) (hi : P.underlying ti = some (.interface ms)) (hrow : ∀ u, P.typeName? 3 u = some nm → u = tp)
    (hp : P.underlying tp = some (.pointer te)) (he : P.underlying te = some (.struct #[f])) (hft : f.type = ts) (hfo : f.offset = 0) (hs : P.underlying ts = some .string) (hc : P.cellsOf te = 1) (hcs : P.cellsOf ts = 1) : ErrV W g := by
  obtain ⟨a, s, hv, _⟩ := laid_sentinel h hg ht hi hrow hp he hft hfo hs hc hcs
  exact ⟨_, by simpa using World.var?_cell hg hv 0, .inr ⟨_, _, rfl⟩⟩
end Go.Proofs.YtbngpcghognojaaGreatDoor
