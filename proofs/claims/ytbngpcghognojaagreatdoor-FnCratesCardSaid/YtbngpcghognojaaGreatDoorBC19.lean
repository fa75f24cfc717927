/- Texts of the claim, joined (19 of 19): Same, CK, Bytes, Laid. -/
import Derived.HandedShaped
import Derived.Shelf.Vars
import Derived.LaidLaws
import Derived.Stop.LaidErr
import Derived.Test.YtbngpcghognojaaGreatDoorBC1
import Derived.Test.YtbngpcghognojaaGreatDoorBC5
import Derived.Test.YtbngpcghognojaaGreatDoorBC14
import Derived.Test.YtbngpcghognojaaGreatDoorBC15
import Derived.Test.YtbngpcghognojaaGreatDoorBC16
import Derived.Test.YtbngpcghognojaaGreatDoorBC17
import Derived.Test.YtbngpcghognojaaGreatDoorBC18
namespace Go.Proofs.YtbngpcghognojaaGreatDoor
open Go.RowKit
set_option linter.unusedVariables false
set_option linter.unusedSimpArgs false
set_option maxRecDepth 100000
set_option maxHeartbeats 1000000
theorem infoWl (x : Wt) : (Tryz.prog.info? 81).map (·.size) = some (wc x).length := by rw [wc_length]; kernel_rfl
/-- '==' of wants, as one Bool. -/
theorem eqW (d : Nat) (w : World) (a b : Wt) : (Op.equalIn (d + 3) 81 (.agg (wc a).toArray) (.agg (wc b).toArray)).run Tryz.prog w = .ok (decide (a = b)) w := by
  have h := Tryz.underlying81
  have h2 := Tryz.underlying26
  obtain ⟨⟨k, y, hk, hy⟩, n, hn⟩ := a
  obtain ⟨⟨k', y', hk', hy'⟩, n', hn'⟩ := b
  have e : decide ((⟨⟨k, y, hk, hy⟩, n, hn⟩ : Wt) = ⟨⟨k', y', hk', hy'⟩, n', hn'⟩) = (k == k' && y == y' && n == n') := by
    rw [Bool.eq_iff_iff, decide_eq_true_iff, Wt.eq_iff, Bt.eq_iff]
    simp
  rw [e]
  by_cases h0 : k = k' <;> by_cases h1 : y = y' <;> by_cases h3 : n = n' <;> simp [go_sem, wc, h0, h1, h3]
theorem allEqW {α : Type} [DecidableEq α] : ∀ l m : List α, Lib.allEq (fun x y => decide (x = y)) l m = decide (l = m)
  | [], [] => by simp [Lib.allEq]
  | [], _ :: _ => by simp [Lib.allEq]
  | _ :: _, [] => by simp [Lib.allEq]
  | x :: l, y :: m => by
    have := allEqW l m
    by_cases h : x = y <;> simp [Lib.allEq, this, h]
theorem SameNeW (x y : Wt) (w : World) : (binOp .neq 81 (.agg (wc x).toArray) (.agg (wc y).toArray)).run Tryz.prog w = .ok (.bool (!decide (x = y))) w := by
  simp [binOp, Op.equal, Op.maxDepth, eqW]
theorem SameOrder_any (b off c b' off' c' : Nat) (l m : List Wt) (w : World) (hC : CAt w b off (fl wc l)) (hC' : CAt w b' off' (fl wc m)) (hn : l.length ≤ 1000000000) (hm : m.length ≤ 1000000000) :
    Calls Tryz.prog 49 #[.slice (some ⟨b, off, none⟩) l.length c, .slice (some ⟨b', off', none⟩) m.length c'] w fun e w' => e = .returned (.bool (decide (l = m))) ∧ Below w.heap.size w w' := by
  have := AnyQ.slices_Equal Tryz.lx109 3 Tryz.isAgg81 Tryz.sizeOf81 wc wc_length (fun x y => decide (x = y)) ⟨SameNeW, GuardAt.agg (fun b => (wc b).toArray) (by kernel_rfl)⟩ b off l.length c b' off' m.length c' l m w (Nat.le_refl _) (Nat.le_refl _) (by omega) (by omega)
    (fun j hj i v hv => by have := hC.el wc_length hj i v hv; rwa [Nat.add_assoc] at this ⊢) (fun j hj i v hv => by have := hC'.el wc_length hj i v hv; rwa [Nat.add_assoc] at this ⊢)
  rw [List.take_length, List.take_length, allEqW] at this
  generalize decide (l = m) = r at this ⊢
  go_enter Tryz.func49, Tryz.ntmps49
  go_wp2_with (go_at_call 109; refine this.mono ?_; rintro e w' ⟨rfl, q, rfl⟩)
  go_ret
  exact ⟨rfl, bdrewN (Below.refl _ _) q⟩
attribute [local go_sem] Oper.qB
attribute [local go_sem high] eqW
theorem sSameOrder_any (b off c b' off' c' : Nat) (l m : List Wt) (w : World) (hC : CAt w b off (fl wc l)) (hC' : CAt w b' off' (fl wc m)) (hb : b < w.heap.size) (hb' : b' < w.heap.size) (hn : l.length ≤ 1000000000) (hm : m.length ≤ 1000000000) :
    Calls Tryz.prog 48 #[.slice (some ⟨b, off, none⟩) l.length c, .slice (some ⟨b', off', none⟩) m.length c'] w fun e w' => e = .returned (.bool (decide (l = m))) ∧ Below w.heap.size w w' := by
  have HC := Lib.hid (⟨hC, hC', hb, hb'⟩ : _ ∧ _ ∧ _ ∧ _)
  clear hC hC' hb hb'
  by_cases hlen : l.length = m.length
  · rw [← hlen]
    replace hlen := Lib.hid hlen
    go_enter Tryz.func48, Tryz.ntmps48
    go_wp2
    go_loopw [5] (fun i wr => ∃ k : Nat, k ≤ l.length ∧ i = .int .i64 k ∧ Hid (l.take k = m.take k) ∧ Below w.heap.size w wr) (fun i _ => l.length - (intOf i).toNat)
    case atStart => exact ⟨0, Nat.zero_le _, rfl, rfl, Below.refl _ _⟩
    case round =>
      obtain ⟨k, hk, rfl, H1, hb⟩ := hrel
      by_cases hlt : k < l.length
      · have hlt' : k < m.length := by rw [← hlen.out]; exact hlt
        have HX := Lib.hid ((HC.out.1.below hb HC.out.2.2.1).el wc_length hlt)
        have HY := Lib.hid ((HC.out.2.1.below hb HC.out.2.2.2).el wc_length hlt')
        have HG := Lib.hid (Nat.lt_of_lt_of_le HC.out.2.2.1 hb.size)
        have HG' := Lib.hid (Nat.lt_of_lt_of_le HC.out.2.2.2 hb.size)
        have H2 : Hid (l[k]! = m[k]! → l.take (k + 1) = m.take (k + 1)) := fun h => by
          rw [List.take_succ_eq_append_getElem hlt, List.take_succ_eq_append_getElem hlt', H1.out, ← getB hlt, ← getB hlt', h]
        have H3 : Hid (l[k]! ≠ m[k]! → l ≠ m) := fun h e => h (by rw [e])
        have hlt2 : (k : Int) < (l.length : Int) := by omega
        clear hlt'
        generalize l[k]! = x at HX H2 H3
        generalize m[k]! = y at HY H2 H3
        go_upto_region 6 with fail
        have H := Below.refl wr.heap.size wr
        by_cases e : x = y
        · have H2' := Lib.hid (H2.out e)
          clear H2 H3
          subst e
          refine g_start 9 rfl (by kernel_rfl) ?_
          (refine g_quiet 0 (by kernel_rfl) rfl (fun K hK => ?_); first | ((first | (refine qB_CAtK H rfl _ _ rfl _ _ rfl (wc x) HX.out HG.out _ Tryz.underlying81 rfl (infoWl x) (hK _ ?_)) | (refine qB_CAtK H rfl _ _ rfl _ _ rfl (wc x) HY.out HG'.out _ Tryz.underlying81 rfl (infoWl x) (hK _ ?_))); clear hK K) | (go_simp; first | (refine hK _ ?_; clear hK K) | (apply Exists.intro; refine ⟨fun _ => ?_, hK _ ?_⟩; (first | fail); clear hK K)))
          (refine g_quiet 1 (by kernel_rfl) rfl (fun K hK => ?_); first | ((first | (refine qB_CAtK H rfl _ _ rfl _ _ rfl (wc x) HX.out HG.out _ Tryz.underlying81 rfl (infoWl x) (hK _ ?_)) | (refine qB_CAtK H rfl _ _ rfl _ _ rfl (wc x) HY.out HG'.out _ Tryz.underlying81 rfl (infoWl x) (hK _ ?_))); clear hK K) | (go_simp; first | (refine hK _ ?_; clear hK K) | (apply Exists.intro; refine ⟨fun _ => ?_, hK _ ?_⟩; (first | fail); clear hK K)))
          (refine g_quiet 2 (by kernel_rfl) rfl (fun K hK => ?_); first | ((first | (refine qB_CAtK H rfl _ _ rfl _ _ rfl (wc x) HX.out HG.out _ Tryz.underlying81 rfl (infoWl x) (hK _ ?_)) | (refine qB_CAtK H rfl _ _ rfl _ _ rfl (wc x) HY.out HG'.out _ Tryz.underlying81 rfl (infoWl x) (hK _ ?_))); clear hK K) | (go_simp; first | (refine hK _ ?_; clear hK K) | (apply Exists.intro; refine ⟨fun _ => ?_, hK _ ?_⟩; (first | fail); clear hK K)))
          (refine g_quiet 3 (by kernel_rfl) rfl (fun K hK => ?_); first | ((first | (refine qB_CAtK H rfl _ _ rfl _ _ rfl (wc x) HX.out HG.out _ Tryz.underlying81 rfl (infoWl x) (hK _ ?_)) | (refine qB_CAtK H rfl _ _ rfl _ _ rfl (wc x) HY.out HG'.out _ Tryz.underlying81 rfl (infoWl x) (hK _ ?_))); clear hK K) | (go_simp; first | (refine hK _ ?_; clear hK K) | (apply Exists.intro; refine ⟨fun _ => ?_, hK _ ?_⟩; (first | fail); clear hK K)))
          (refine g_quiet 4 (by kernel_rfl) rfl (fun K hK => ?_); first | ((first | (refine qB_CAtK H rfl _ _ rfl _ _ rfl (wc x) HX.out HG.out _ Tryz.underlying81 rfl (infoWl x) (hK _ ?_)) | (refine qB_CAtK H rfl _ _ rfl _ _ rfl (wc x) HY.out HG'.out _ Tryz.underlying81 rfl (infoWl x) (hK _ ?_))); clear hK K) | (go_simp; first | (refine hK _ ?_; clear hK K) | (apply Exists.intro; refine ⟨fun _ => ?_, hK _ ?_⟩; (first | fail); clear hK K)))
          (refine g_quiet 5 (by kernel_rfl) rfl (fun K hK => ?_); first | ((first | (refine qB_CAtK H rfl _ _ rfl _ _ rfl (wc x) HX.out HG.out _ Tryz.underlying81 rfl (infoWl x) (hK _ ?_)) | (refine qB_CAtK H rfl _ _ rfl _ _ rfl (wc x) HY.out HG'.out _ Tryz.underlying81 rfl (infoWl x) (hK _ ?_))); clear hK K) | (go_simp; first | (refine hK _ ?_; clear hK K) | (apply Exists.intro; refine ⟨fun _ => ?_, hK _ ?_⟩; (first | fail); clear hK K)))
          (refine g_quiet 6 (by kernel_rfl) rfl (fun K hK => ?_); first | ((first | (refine qB_CAtK H rfl _ _ rfl _ _ rfl (wc x) HX.out HG.out _ Tryz.underlying81 rfl (infoWl x) (hK _ ?_)) | (refine qB_CAtK H rfl _ _ rfl _ _ rfl (wc x) HY.out HG'.out _ Tryz.underlying81 rfl (infoWl x) (hK _ ?_))); clear hK K) | (go_simp; first | (refine hK _ ?_; clear hK K) | (apply Exists.intro; refine ⟨fun _ => ?_, hK _ ?_⟩; (first | fail); clear hK K)))
          (refine g_quiet 7 (by kernel_rfl) rfl (fun K hK => ?_); first | ((first | (refine qB_CAtK H rfl _ _ rfl _ _ rfl (wc x) HX.out HG.out _ Tryz.underlying81 rfl (infoWl x) (hK _ ?_)) | (refine qB_CAtK H rfl _ _ rfl _ _ rfl (wc x) HY.out HG'.out _ Tryz.underlying81 rfl (infoWl x) (hK _ ?_))); clear hK K) | (go_simp; first | (refine hK _ ?_; clear hK K) | (apply Exists.intro; refine ⟨fun _ => ?_, hK _ ?_⟩; (first | fail); clear hK K)))
          (refine g_quiet 8 (by kernel_rfl) rfl (fun K hK => ?_); first | ((first | (refine qB_CAtK H rfl _ _ rfl _ _ rfl (wc x) HX.out HG.out _ Tryz.underlying81 rfl (infoWl x) (hK _ ?_)) | (refine qB_CAtK H rfl _ _ rfl _ _ rfl (wc x) HY.out HG'.out _ Tryz.underlying81 rfl (infoWl x) (hK _ ?_))); clear hK K) | (go_simp; first | (refine hK _ ?_; clear hK K) | (apply Exists.intro; refine ⟨fun _ => ?_, hK _ ?_⟩; (first | fail); clear hK K)))
          refine g_done (by kernel_rfl) ?_
          rintro w1 hw1 -
          go_wp2
          go_roundw
          case rel => exact ⟨k + 1, by omega, by go_num, H2'.out, bstep hb hw1⟩
          case measure => simp [intOf]; omega
        · have e1 : decide (x = y) = false := decide_eq_false e
          have H3' := Lib.hid (H3.out e)
          clear e H2 H3
          refine g_start 9 rfl (by kernel_rfl) ?_
          (refine g_quiet 0 (by kernel_rfl) rfl (fun K hK => ?_); first | ((first | (refine qB_CAtK H rfl _ _ rfl _ _ rfl (wc x) HX.out HG.out _ Tryz.underlying81 rfl (infoWl x) (hK _ ?_)) | (refine qB_CAtK H rfl _ _ rfl _ _ rfl (wc y) HY.out HG'.out _ Tryz.underlying81 rfl (infoWl y) (hK _ ?_))); clear hK K) | (go_simp; first | (refine hK _ ?_; clear hK K) | (apply Exists.intro; refine ⟨fun _ => ?_, hK _ ?_⟩; (first | fail); clear hK K)))
          (refine g_quiet 1 (by kernel_rfl) rfl (fun K hK => ?_); first | ((first | (refine qB_CAtK H rfl _ _ rfl _ _ rfl (wc x) HX.out HG.out _ Tryz.underlying81 rfl (infoWl x) (hK _ ?_)) | (refine qB_CAtK H rfl _ _ rfl _ _ rfl (wc y) HY.out HG'.out _ Tryz.underlying81 rfl (infoWl y) (hK _ ?_))); clear hK K) | (go_simp; first | (refine hK _ ?_; clear hK K) | (apply Exists.intro; refine ⟨fun _ => ?_, hK _ ?_⟩; (first | fail); clear hK K)))
          (refine g_quiet 2 (by kernel_rfl) rfl (fun K hK => ?_); first | ((first | (refine qB_CAtK H rfl _ _ rfl _ _ rfl (wc x) HX.out HG.out _ Tryz.underlying81 rfl (infoWl x) (hK _ ?_)) | (refine qB_CAtK H rfl _ _ rfl _ _ rfl (wc y) HY.out HG'.out _ Tryz.underlying81 rfl (infoWl y) (hK _ ?_))); clear hK K) | (go_simp; first | (refine hK _ ?_; clear hK K) | (apply Exists.intro; refine ⟨fun _ => ?_, hK _ ?_⟩; (first | fail); clear hK K)))
          (refine g_quiet 3 (by kernel_rfl) rfl (fun K hK => ?_); first | ((first | (refine qB_CAtK H rfl _ _ rfl _ _ rfl (wc x) HX.out HG.out _ Tryz.underlying81 rfl (infoWl x) (hK _ ?_)) | (refine qB_CAtK H rfl _ _ rfl _ _ rfl (wc y) HY.out HG'.out _ Tryz.underlying81 rfl (infoWl y) (hK _ ?_))); clear hK K) | (go_simp; first | (refine hK _ ?_; clear hK K) | (apply Exists.intro; refine ⟨fun _ => ?_, hK _ ?_⟩; (first | fail); clear hK K)))
          (refine g_quiet 4 (by kernel_rfl) rfl (fun K hK => ?_); first | ((first | (refine qB_CAtK H rfl _ _ rfl _ _ rfl (wc x) HX.out HG.out _ Tryz.underlying81 rfl (infoWl x) (hK _ ?_)) | (refine qB_CAtK H rfl _ _ rfl _ _ rfl (wc y) HY.out HG'.out _ Tryz.underlying81 rfl (infoWl y) (hK _ ?_))); clear hK K) | (go_simp; first | (refine hK _ ?_; clear hK K) | (apply Exists.intro; refine ⟨fun _ => ?_, hK _ ?_⟩; (first | fail); clear hK K)))
          (refine g_quiet 5 (by kernel_rfl) rfl (fun K hK => ?_); first | ((first | (refine qB_CAtK H rfl _ _ rfl _ _ rfl (wc x) HX.out HG.out _ Tryz.underlying81 rfl (infoWl x) (hK _ ?_)) | (refine qB_CAtK H rfl _ _ rfl _ _ rfl (wc y) HY.out HG'.out _ Tryz.underlying81 rfl (infoWl y) (hK _ ?_))); clear hK K) | (go_simp; first | (refine hK _ ?_; clear hK K) | (apply Exists.intro; refine ⟨fun _ => ?_, hK _ ?_⟩; (first | fail); clear hK K)))
          (refine g_quiet 6 (by kernel_rfl) rfl (fun K hK => ?_); first | ((first | (refine qB_CAtK H rfl _ _ rfl _ _ rfl (wc x) HX.out HG.out _ Tryz.underlying81 rfl (infoWl x) (hK _ ?_)) | (refine qB_CAtK H rfl _ _ rfl _ _ rfl (wc y) HY.out HG'.out _ Tryz.underlying81 rfl (infoWl y) (hK _ ?_))); clear hK K) | (go_simp; first | (refine hK _ ?_; clear hK K) | (apply Exists.intro; refine ⟨fun _ => ?_, hK _ ?_⟩; (first | fail); clear hK K)))
          (refine g_quiet 7 (by kernel_rfl) rfl (fun K hK => ?_); first | ((first | (refine qB_CAtK H rfl _ _ rfl _ _ rfl (wc x) HX.out HG.out _ Tryz.underlying81 rfl (infoWl x) (hK _ ?_)) | (refine qB_CAtK H rfl _ _ rfl _ _ rfl (wc y) HY.out HG'.out _ Tryz.underlying81 rfl (infoWl y) (hK _ ?_))); clear hK K) | (go_simp; first | (refine hK _ ?_; clear hK K) | (apply Exists.intro; refine ⟨fun _ => ?_, hK _ ?_⟩; (first | fail); clear hK K)))
          (refine g_quiet 8 (by kernel_rfl) rfl (fun K hK => ?_); first | ((first | (refine qB_CAtK H rfl _ _ rfl _ _ rfl (wc x) HX.out HG.out _ Tryz.underlying81 rfl (infoWl x) (hK _ ?_)) | (refine qB_CAtK H rfl _ _ rfl _ _ rfl (wc y) HY.out HG'.out _ Tryz.underlying81 rfl (infoWl y) (hK _ ?_))); clear hK K) | (go_simp; first | (refine hK _ ?_; clear hK K) | (apply Exists.intro; refine ⟨fun _ => ?_, hK _ ?_⟩; (first | fail); clear hK K)))
          refine g_done (by kernel_rfl) ?_
          rintro w1 hw1 -
          go_wp2
          go_ret
          exact ⟨ret_bool (decide_eq_false H3'.out).symm, bstep hb hw1⟩
      · obtain rfl : k = l.length := by omega
        have H4 : Hid (l = m) := by
          have := H1.out
          rw [List.take_length, hlen.out, List.take_length] at this
          exact this
        go_wp2
        go_ret
        exact ⟨ret_bool (decide_eq_true H4.out).symm, hb⟩
  · have hl2 : ¬ (l.length : Int) = (m.length : Int) := by omega
    have HN : Hid (decide (l = m) = false) := decide_eq_false (fun e => hlen (by rw [e]))
    go_enter Tryz.func48, Tryz.ntmps48
    go_wp2
    go_ret
    exact ⟨ret_bool HN.out.symm, Below.refl _ _⟩
end Go.Proofs.YtbngpcghognojaaGreatDoor
namespace Go.Proofs.YtbngpcghognojaaGreatDoor
open Go Go.RowKit
set_option linter.unusedVariables false
set_option linter.unusedSimpArgs false
set_option linter.unusedSectionVars false
set_option maxRecDepth 100000
set_option maxHeartbeats 1000000
section
variable {c : Cr} (hc : c.ok = true) {b : Bt} (hb : b.ok = true) (w : World)
theorem fin_eq {P : Program} {f : FuncId} {args : Array Value} {w : World} {v v' : Value} (h : Calls P f args w fun e w' => e = .returned v ∧ Below w.heap.size w w') (e : v = v') : Calls P f args w fun e w' => e = .returned v' ∧ Below w.heap.size w w' := by rw [← e]; exact h
include hc in
theorem CrateText_ok (ht : Tab w) : Calls Tryz.prog 9 #[cv c] w fun e w' => e = .returned (.string ⟨(crT c).toArray⟩) ∧ Below w.heap.size w w' := by
  have := CrateText_any c w ht
  rwa [if_pos hc] at this
include hb in
theorem BottleText_ok (ht : Tab w) : Calls Tryz.prog 11 #[bv b] w fun e w' => e = .returned (.string ⟨(botT b).toArray⟩) ∧ Below w.heap.size w w' := by
  have := BottleText_any b w ht
  rwa [if_pos hb] at this
include hc in
theorem rcR_crT : rcR (crT c) = (c, 0) := by
  unfold rcR
  rw [rdC_some.2 ⟨hc, rfl⟩]
include hb in
theorem rbR_botT : rbR (botT b) = (b, 0) := by
  unfold rbR
  rw [rdB_some.2 ⟨hb, rfl⟩]
include hc in
theorem ReadCrate_ok (hl : (crT c).length ≤ 1048576) (m : Int) (ht : Tab w) (h2 : ErrV w (Tryz.lx117_ren.g 15)) (h3 : ErrV w (Tryz.lx117_ren.g 16)) (hm : w.cell? ⟨Tryz.lx64_ren.g 1, 0, none⟩ = some (.int .i64 m)) :
    Calls Tryz.prog 8 #[.string ⟨(crT c).toArray⟩] w fun e w' => e = .returned (.tuple #[cv c, .int .i64 0]) ∧ Below w.heap.size w w' := by
  have := ReadCrate_any (crT c) hl m w ht h2 h3 hm
  rwa [rcR_crT hc] at this
include hb in
theorem ReadBottle_ok (hl : (botT b).length ≤ 1048576) (m : Int) (ht : Tab w) (h2 : ErrV w (Tryz.lx117_ren.g 15)) (h3 : ErrV w (Tryz.lx117_ren.g 16)) (hm : w.cell? ⟨Tryz.lx64_ren.g 1, 0, none⟩ = some (.int .i64 m)) :
    Calls Tryz.prog 10 #[.string ⟨(botT b).toArray⟩] w fun e w' => e = .returned (.tuple #[bv b, .int .i64 0]) ∧ Below w.heap.size w w' := by
  have := ReadBottle_any (botT b) hl m w ht h2 h3 hm
  rwa [rbR_botT hb] at this
include hc in
theorem TurnCrate_ok : Calls Tryz.prog 12 #[cv c] w fun e w' => e = .returned (.tuple #[cv (revC c), .int .i64 0]) ∧ Below w.heap.size w w' := by
  have := TurnCrate_any c w
  rwa [turnR_ok hc] at this
include hc in
theorem sTurnCrate_ok : Calls Tryz.prog 13 #[cv c] w fun e w' => e = .returned (.tuple #[cv (revC c), .int .i64 0]) ∧ Below w.heap.size w w' := by
  have := sTurnCrate_any c w
  rwa [turnR_ok hc] at this
include hc in
theorem TurnBack_ok : Calls Tryz.prog 12 #[cv (revC c)] w fun e w' => e = .returned (.tuple #[cv c, .int .i64 0]) ∧ Below w.heap.size w w' := by
  have := TurnCrate_any (revC c) w
  rwa [turnR_ok (by rw [revC_ok]; exact hc), revC_revC] at this
include hc in
theorem LevelCrate_ok : Calls Tryz.prog 14 #[cv c] w fun e w' => e = .returned (.tuple #[cv (levC c), .int .i64 0]) ∧ Below w.heap.size w w' := by
  have := LevelCrate_any c w
  rwa [levelR_ok hc] at this
include hc in
theorem sLevelCrate_ok : Calls Tryz.prog 15 #[cv c] w fun e w' => e = .returned (.tuple #[cv (levC c), .int .i64 0]) ∧ Below w.heap.size w w' := by
  have := sLevelCrate_any c w
  rwa [levelR_ok hc] at this
include hc in
theorem BottlesIn_ok : Calls Tryz.prog 16 #[cv c] w fun e w' => ∃ A p, e = .returned (.tuple #[.slice A (allB c).length p, .int .i64 0]) ∧ RdA w' A (fl bc (allB c)) ∧ Below w.heap.size w w' := by
  have := BottlesIn_any c w
  rw [show allR c = (allB c, 0) by rw [allR, if_pos hc]] at this
  refine this.mono ?_
  rintro e w' ⟨v, rfl, O, hb⟩
  obtain ⟨A, p, rfl, -, hr⟩ := (show OwnN bc w' w.heap.size 26 2 v (allB c) from O).rd
  exact ⟨A, p, rfl, hr, hb⟩
include hc in
theorem sBottlesIn_ok : Calls Tryz.prog 17 #[cv c] w fun e w' => ∃ A p, e = .returned (.tuple #[.slice A (allB c).length p, .int .i64 0]) ∧ RdA w' A (fl bc (allB c)) ∧ Below w.heap.size w w' := by
  have := sBottlesIn_any c w
  rw [show allR c = (allB c, 0) by rw [allR, if_pos hc]] at this
  refine this.mono ?_
  rintro e w' ⟨v, rfl, O, hb⟩
  obtain ⟨A, p, rfl, -, hr⟩ := (show OwnN bc w' w.heap.size 26 2 v (allB c) from O).rd
  exact ⟨A, p, rfl, hr, hb⟩
include hc in
theorem BottlesLev_ok : Calls Tryz.prog 16 #[cv (levC c)] w fun e w' => ∃ A p, e = .returned (.tuple #[.slice A (allB c).length p, .int .i64 0]) ∧ RdA w' A (fl bc (allB c)) ∧ Below w.heap.size w w' := by
  have := BottlesIn_ok (levC_ok hc) w
  rwa [levC_all] at this
include hc in
theorem ValidCrate_ok : Calls Tryz.prog 18 #[cv c] w fun e w' => e = .returned (.bool true) ∧ Below w.heap.size w w' := by
  have := ValidCrate_any c w
  rwa [hc] at this
include hb in
theorem ValidBottle_ok : Calls Tryz.prog 19 #[bv b] w fun e w' => e = .returned (.bool true) ∧ Below w.heap.size w w' := by
  have := ValidBottle_any b w
  rwa [hb] at this
include hc in
theorem TipOf_ok : Calls Tryz.prog 21 #[cv c] w fun e w' => e = .returned (.tuple #[.int .i64 (eastI (usedI c)), .int .i64 (southI (usedI c)), .int .i64 0]) ∧ Below w.heap.size w w' := by
  have := TipOf_any c w
  rwa [tipR_ok hc] at this
include hc in
theorem TipLev_ok : Calls Tryz.prog 21 #[cv (levC c)] w fun e w' => e = .returned (.tuple #[.int .i64 (eastI (usedI (levC c))), .int .i64 (southI (usedI (levC c))), .int .i64 0]) ∧ Below w.heap.size w w' := TipOf_ok (levC_ok hc) w
include hc in
theorem TipRev_ok : Calls Tryz.prog 21 #[cv (revC c)] w fun e w' => e = .returned (.tuple #[.int .i64 (-eastI (usedI c)), .int .i64 (-southI (usedI c)), .int .i64 0]) ∧ Below w.heap.size w w' := by
  have := TipOf_ok (show (revC c).ok = true by rw [revC_ok]; exact hc) w
  rwa [rev_tip.1, rev_tip.2] at this
include hc in
theorem FreePlaces_ok : Calls Tryz.prog 23 #[cv c] w fun e w' => ∃ A p, e = .returned (.tuple #[.slice A (freeI c).length p, .int .i64 0]) ∧ RdA w' A (vi (freeI c)) ∧ Below w.heap.size w w' := by
  have := FreePlaces_any c w
  rw [freeR_ok hc] at this
  refine this.mono ?_
  rintro e w' ⟨v, rfl, O, hb⟩
  obtain ⟨A, p, rfl, -, hr, -⟩ := own_rdA O
  exact ⟨A, p, rfl, hr, hb⟩
include hc in
theorem SortCrate_ok : Calls Tryz.prog 30 #[cv c] w fun e w' => e = .returned (.tuple #[cv (packC1 (sortB (allB c))), .int .i64 0]) ∧ Below w.heap.size w w' := by
  have := SortCrate_any c w
  rwa [sortedR_ok hc] at this
include hc in
theorem sSortCrate_ok : Calls Tryz.prog 31 #[cv c] w fun e w' => e = .returned (.tuple #[cv (packC1 (sortB (allB c))), .int .i64 0]) ∧ Below w.heap.size w w' := by
  have := sSortCrate_any c w
  rwa [sortedR_ok hc] at this
include hc in
theorem IsPure_ok : Calls Tryz.prog 33 #[cv c] w fun e w' => e = .returned (.tuple #[.bool (alike (allB c)), .int .i64 0]) ∧ Below w.heap.size w w' := by
  have := IsPure_any c w
  rwa [pureR_ok hc] at this
include hc hb in
theorem PutBottle_yes {p : Nat} (hp : p < 12) (he : (rB c.toList p).em = true) : Calls Tryz.prog 24 #[cv c, .int .i64 (p : Int), bv b] w fun e w' => e = .returned (.tuple #[cv (setC c p b), .int .i64 0]) ∧ Below w.heap.size w w' := by
  have := PutBottle_any c p b w
  rwa [putR_is hc hb hp, if_pos he] at this
include hc hb in
theorem PutBottle_no {p : Nat} (hp : p < 12) (he : (rB c.toList p).em = false) : Calls Tryz.prog 24 #[cv c, .int .i64 (p : Int), bv b] w fun e w' => e = .returned (.tuple #[cv zC, .int .i64 4]) ∧ Below w.heap.size w w' := by
  have := PutBottle_any c p b w
  rwa [putR_is hc hb hp, if_neg (by rw [he]; decide)] at this
include hc hb in
theorem TakeBottle_ok {p : Nat} (hp : p < 12) (he : (rB c.toList p).em = true) : Calls Tryz.prog 26 #[cv (setC c p b), .int .i64 (p : Int)] w fun e w' => e = .returned (.tuple #[cv c, bv b, .int .i64 0]) ∧ Below w.heap.size w w' := by
  have := TakeBottle_any (setC c p b) p w
  rwa [takeR_put hc hb hp he] at this
end
end Go.Proofs.YtbngpcghognojaaGreatDoor
namespace Go.Proofs.YtbngpcghognojaaGreatDoor
open Go Go.RowKit Go.ChangeShapes Go.WideShapes Go.ChangeAt
set_option linter.unusedVariables false
set_option linter.unusedSimpArgs false
set_option maxRecDepth 100000
set_option maxHeartbeats 1000000
/-- A byte. -/
structure By where
  n : Int
  h : 0 ≤ n ∧ n ≤ 255
instance : Inhabited By := ⟨⟨0, by decide⟩⟩
def byc (x : By) : List Value := [.int .u8 x.n]
theorem byc_len (x : By) : (byc x).length = 1 := rfl
theorem fl_byc : ∀ l : List By, fl byc l = u8v (l.map By.n)
  | [] => rfl
  | x :: l => by
    rw [fl_cons, fl_byc l]
    rfl
theorem bounds_byte {k : Int} (h : IntKind.u8.wrap k = k) : 0 ≤ k ∧ k ≤ 255 := by
  rw [IntKind.wrap_u8] at h
  omega
theorem trod_byte {H : Type} {enc : TypeId × Value → H} {w : World} {base : Nat} {spare : Nat → Bool} {held : Bool} {n : Nat} {cs : List Value} {x : DataW H × List MemPlace} (h : DataW.trod enc Tryz.prog w base spare held n 5 cs = some x) : ∃ b : By, cs = byc b := by
  obtain ⟨d, m⟩ := x
  obtain ⟨y, e1, _, w1⟩ := DataW.trod_int Tryz.underlying5 h
  exact ⟨⟨y, bounds_u8 w1⟩, e1⟩
theorem read_bytes {H : Type} {enc : TypeId × Value → H} {w : World} {base : Nat} {spare : Nat → Bool} {held : Bool} {v : Value} {d : DataW H} {ps : List MemPlace} (hv : Value.okWide Tryz.prog w .any 0 22 v) (h : DataW.Trod enc Tryz.prog w base spare held 22 v d ps) :
    ∃ (A : Option Addr) (c : Nat) (l : List Int), v = .slice A l.length c ∧ l.length ≤ maxLen ∧ (RdA w A (u8v l) ∧ ∀ x ∈ l, 0 ≤ x ∧ x ≤ 255) := by
  obtain ⟨A, c, l, h1, h2, h3⟩ := read_slice Tryz.underlying22 (by kernel_rfl) (by decide) byc_len (fun n cs x h => trod_byte h) hv h
  refine ⟨A, c, l.map By.n, by rw [List.length_map]; exact h1, by rw [List.length_map]; exact h2, by rw [← fl_byc]; exact h3, fun x hx => ?_⟩
  obtain ⟨y, _, rfl⟩ := List.mem_map.1 hx
  exact y.h
end Go.Proofs.YtbngpcghognojaaGreatDoor
namespace Go.Proofs.YtbngpcghognojaaGreatDoor
open Go Go.RowKit
set_option linter.unusedVariables false
section
variable {H : Type} {enc : TypeId × Value → H}
/-- A law's contract, asked in a world that fits and whose listed variables read as told. -/
theorem handed_and_shaped {a : Assume} {C : Checked} {os : Os} {f : FuncId} {fn : Func} {s : ChangeSpec} {conds : List PathCond} {apart fresh handsOn again : Bool} {X : World → Array Value → Prop}
    (hX : ∀ (w w' : World) (args : Array Value), w.heap = w'.heap → X w args → X w' args)
    (own : ownKnob C.prog.godebug = none) (started : os.Started) (noInit : C.prog.inits.idxOf? f = none) (hfn : C.prog.funcs[f]? = some fn)
    (witness : ∃ (w : World) (tape : Tape) (i : Input), w.os = os ∧ (w.forCall tape i).Shaped C.prog ∧ i.vars = [] ∧ Input.okWide C.prog (w.forCall tape i) .any w.heap.size f i ∧
      ((s.pre enc C.prog fn conds apart (w.forCall tape i).memory i.args ∧ X (w.forCall tape i).memory i.args) ∧ sizedMet enc C.prog fn (OpenSpec.ofChange s) apart (w.forCall tape i).memory i.args) ∧ a.holds C.prog (lone (Frame.enter C.prog f i.args .normal) [] (w.forCall tape i)))
    (contract : ∀ (W : World) (base : Nat) (args : Array Value) (ds gs : List (DataW H)) (before : List MemPlace),
      (∀ (j : Nat) t v, fn.params[j]? = some t → args[j]? = some v → Value.okWide C.prog W .any base t v) →
      DataW.Whole enc C.prog fn.params.toList s.vars apart W args.toList ds gs before →
      conds.all (PathCond.test C.prog ⟨fn.params.toList, ds, s.plain.varTypes C.prog, gs⟩) = true →
      (DataW.weightsEach C.prog (fn.params.toList ++ s.plain.varTypes C.prog) (ds ++ gs)).all (· ≤ reachBytes) = true → X W args → W.ShapedOpen C.prog →
      a.holds C.prog (lone (Frame.enter C.prog f args .normal) [] W) →
      Calls C.prog f args W fun e W' => ∃ v, e = .returned v ∧ s.post enc C.prog fn apart fresh handsOn again W args v W') :
    ReturnsInHanded a C os f .any (fun w args => (s.pre enc C.prog fn conds apart w args ∧ X w args) ∧ sizedMet enc C.prog fn (OpenSpec.ofChange s) apart w args) (s.post enc C.prog fn apart fresh handsOn again) := by
  refine returnsInHanded_of_calls own started noInit witness ?_
  intro w tape i _ hsh _ hok hpre hholds
  obtain ⟨_, _, _, fn', hfn', _, _, _, _, hval⟩ := hok
  have e : fn' = fn := Option.some.inj (hfn'.symm.trans hfn)
  subst e
  obtain ⟨⟨⟨ds, gs, before, hw, hc⟩, hx⟩, hz⟩ := hpre
  have hw' := DataW.Whole.of_heap (w' := w.forCall tape i) (by rfl) hw
  refine (contract (w.forCall tape i) w.heap.size i.args ds gs before hval hw' hc (hz.weights hw) (hX _ _ _ (by rfl) hx) hsh hholds).mono fun e W' ⟨v, he, hp⟩ => ?_
  subst he
  exact ChangeSpec.post_blind hp
end
/-- What is listed behind the first variable. -/
theorem laidMet_tail {P : Program} {x : String × DataW Unit} {r : List (String × DataW Unit)} {W : World} (h : laidMet P (x :: r) W) : laidMet P r W := by
  obtain ⟨n, d⟩ := x
  obtain ⟨ps, ⟨g0, t0, cs0, f0, p0, q0, hg0, ht0, hv0, hd0, hq, e0⟩, hn, hrows⟩ := h
  subst e0
  exact ⟨q0, hq, (List.nodup_append.1 hn).2.1, fun b off hp => hrows b off (List.mem_append_right _ hp)⟩
/-- A variable that is listed as an error holds one. -/
theorem errV_of {P : Program} {n nm : String} {text : List UInt8} {r : List (String × DataW Unit)} {W : World} {g : Nat} {ti tp te ts : TypeId} {ms : Array (String × TypeId)} {f : Field}
    (h : laidMet P ((n, .iface nm (.ptr (.agg [.lit (.string text)]))) :: r) W)
    (hg : P.globalNamed n = some g) (ht : (P.globals[g]?).map (·.type) = some ti) (hi : P.underlying ti = some (.interface ms)) (hrow : ∀ u, P.typeName? 3 u = some nm → u = tp)
    (hp : P.underlying tp = some (.pointer te)) (he : P.underlying te = some (.struct #[f])) (hft : f.type = ts) (hfo : f.offset = 0) (hs : P.underlying ts = some .string) (hc : P.cellsOf te = 1) (hcs : P.cellsOf ts = 1) : ErrV W g := by
  obtain ⟨a, s, hv, _⟩ := laid_sentinel h hg ht hi hrow hp he hft hfo hs hc hcs
  exact ⟨_, by simpa using World.var?_cell hg hv 0, .inr ⟨_, _, rfl⟩⟩
end Go.Proofs.YtbngpcghognojaaGreatDoor
