/- Contracts of the laws' helpers on slices of wants: copied, compared, measured. -/
import Derived.Test.YtbngpcghognojaaDoorStack
import Derived.Test.YtbngpcghognojaaDoorWant
namespace Go.Proofs.YtbngpcghognojaaDoor
open Go.RowKit
set_option linter.unusedVariables false
set_option linter.unusedSimpArgs false
set_option maxRecDepth 100000
set_option maxHeartbeats 1000000
attribute [local go_sem] Oper.qB
theorem szWantS_any (A : Option Addr) (n c : Nat) (left : Int) (w : World) (h0 : 0 ≤ left) (h1 : left ≤ 1048576) (hn : n ≤ maxLen) : Calls Tryd.prog 15 #[.slice A n c, .int .i64 left] w fun e w' => e = .returned (.int .i64 (if left < n then -1 else left - n)) ∧ Below w.heap.size w w' := by
  have hm : n ≤ 9223372036854775807 := by simpa [maxLen] using hn
  by_cases h : left < (n : Int)
  · have h2 : left - (n : Int) < 0 := by omega
    have HF := Lib.hid (show (if left < (n : Int) then (-1 : Int) else left - n) = -1 from if_pos h)
    go_enter Tryd.func15, Tryd.ntmps15
    go_wp2
    go_ret
    exact ⟨rfl, Below.refl _ _⟩
  · have h2 : ¬ left - (n : Int) < 0 := by omega
    have HF := Lib.hid (show (if left < (n : Int) then (-1 : Int) else left - n) = left - n from if_neg h)
    go_enter Tryd.func15, Tryd.ntmps15
    go_wp2
    go_ret
    exact ⟨rfl, Below.refl _ _⟩
theorem sziWant (x : Wt) : (Tryd.prog.info? 70).map (·.size) = some (wc x).length := by rw [wc_length]; kernel_rfl
theorem infoWantS : (Tryd.prog.info? 70).map (fun i => (i.zero, i.size, i.bytes)) = some (some (.agg (wc zW).toArray), 3, 6) := by kernel_rfl
theorem szlWant (x : Wt) : (Tryd.prog.info? 73).map (·.size) = some (wc x).length := by rw [wc_length]; kernel_rfl
theorem toWantS_any (A : Option Addr) (c : Nat) (l : List Wt) (w : World) (h : RdA w A (fl wc l)) (hn : l.length ≤ 1048576) :
    Calls Tryd.prog 17 #[.slice A l.length c] w fun e w' => ∃ g, e = .returned (.slice (some ⟨g, 0, none⟩) l.length l.length) ∧ w'.ownsRow w.heap.size 70 3 (.slice (some ⟨g, 0, none⟩) l.length l.length) l.length (fl wc l) ∧ Below w.heap.size w w' := by
  have HR := Lib.hid h
  clear h
  have hmk := run_make_el (P := Tryd.prog) Tryd.underlying38 infoWantS rfl l.length (by omega) (by omega)
  go_enter Tryd.func17, Tryd.ntmps17
  go_wp2
  have hO := World.ownsRow_full (base := w.heap.size) w (madeCells (wc zW).toArray (l.length * 3)) 70 3 l.length (Nat.le_refl _) (by simp [maxLen]; omega) (size_madeCells _ _)
  rw [made_fl wc_length (by decide) zW _ rfl l.length] at hO
  go_loopw [4] (fun i wr => ∃ k : Nat, k ≤ l.length ∧ i = .int .i64 k ∧ Hid (wr.ownsRow w.heap.size 70 3 (.slice (some ⟨w.heap.size, 0, none⟩) l.length l.length) l.length (fl wc (l.take k ++ List.replicate (l.length - k) zW))) ∧ Below w.heap.size w wr) (fun i _ => l.length - (intOf i).toNat)
  case atStart => exact ⟨0, Nat.zero_le _, rfl, Lib.hid (by simpa using hO), by go_grown⟩
  case round =>
    clear hO hmk
    obtain ⟨k, hk, rfl, HO, hb⟩ := hrel
    by_cases hlt : k < l.length
    · obtain ⟨g, off, rfl, hg, hC⟩ := HR.out.some (by rw [fl_length wc_length]; omega)
      have HX := Lib.hid ((hC.below hb hg).el wc_length hlt)
      have HS : Hid (l.take k ++ List.replicate (l.length - k) zW = l.take k ++ zW :: List.replicate (l.length - (k + 1)) zW ∧ l.take k ++ l[k]! :: List.replicate (l.length - (k + 1)) zW = l.take (k + 1) ++ List.replicate (l.length - (k + 1)) zW) := by
        constructor
        · rw [show l.length - k = (l.length - (k + 1)) + 1 by omega, List.replicate_succ]
        · rw [getB hlt, List.take_succ_eq_append_getElem hlt, List.append_assoc]
          rfl
      have hlt2 : (k : Int) < (l.length : Int) := by omega
      clear hC
      generalize l[k]! = x at HX HS
      go_wp2_with (first | (with_reducible refine wp_load_CAt rfl _ _ rfl _ _ rfl (wc x) HX.out _ Tryd.underlying73 rfl (szlWant x) ?_) | (go_at_call 42; refine (toWant_any x _).mono ?_; rintro e w1 ⟨rfl, hb1⟩; have HO1 := Lib.hid (own_kept HO.out hb1)) | (refine wp_store_el rfl rfl _ _ _ rfl _ _ rfl _ rfl (own_room (i := k) HO1.out hlt (by exact rfl)) (by exact infoW x) (by exact wv_one x) ?_))
      go_roundw
      case rel =>
        refine ⟨k + 1, by omega, by go_num, ?_, (bstep hb hb1).trans (putEl_below (by have := (bstep hb hb1).size; exact Nat.le_refl _) _ _)⟩
        have := putEl_own (vs := (wc x).toArray) HO1.out hlt (by exact rfl)
        rw [HS.out.1] at this
        rw [← HS.out.2]
        have e := fl_set wc_length (l.take k ++ zW :: List.replicate (l.length - (k + 1)) zW) k x (by simp; omega)
        rw [show (l.take k ++ zW :: List.replicate (l.length - (k + 1)) zW).set k x = l.take k ++ x :: List.replicate (l.length - (k + 1)) zW by rw [List.set_append_right _ _ (by simp; omega)]; simp [Nat.min_eq_left (Nat.le_of_lt hlt)]] at e
        show World.ownsRow _ _ _ _ _ _ _
        rw [e]
        exact this
      case measure => simp [intOf]; omega
    · obtain rfl : k = l.length := by omega
      have HO2 : Hid (wr.ownsRow w.heap.size 70 3 (.slice (some ⟨w.heap.size, 0, none⟩) l.length l.length) l.length (fl wc l)) := by
        have := HO.out
        rw [List.take_length, Nat.sub_self, List.replicate_zero, List.append_nil] at this
        exact this
      go_wp2
      go_ret
      exact ⟨_, rfl, HO2.out, hb⟩
theorem read_wants {H : Type} {enc : TypeId × Value → H} {w : World} {base : Nat} {spare : Nat → Bool} {held : Bool} {v : Value} {d : DataW H} {ps : List MemPlace} (hv : Value.okWide Tryd.prog w .any 0 35 v) (h : DataW.Trod enc Tryd.prog w base spare held 35 v d ps) :
    ∃ (A : Option Addr) (c : Nat) (l : List Wt), v = .slice A l.length c ∧ l.length ≤ maxLen ∧ RdA w A (fl wc l) :=
  read_slice Tryd.underlying35 (by kernel_rfl) (by decide) wc_length (fun n cs x h => trod_want h) hv h
theorem eqWantS_refl (A A' : Option Addr) (c c' : Nat) (l : List Wt) (w : World) (h : RdA w A (fl wc l)) (h' : RdA w A' (fl wc l)) (hm : l.length ≤ 1000000000) :
    Calls Tryd.prog 19 #[.slice A l.length c, .slice A' l.length c'] w fun e w' => e = .returned (.bool true) ∧ Below w.heap.size w w' := by
  have HR := Lib.hid h
  have HR' := Lib.hid h'
  clear h h'
  go_enter Tryd.func19, Tryd.ntmps19
  go_wp2
  go_loopw [5] (fun i wr => ∃ k : Nat, k ≤ l.length ∧ i = .int .i64 k ∧ Below w.heap.size w wr) (fun i _ => l.length - (intOf i).toNat)
  case atStart => exact ⟨0, Nat.zero_le _, rfl, Below.refl _ _⟩
  case round =>
    obtain ⟨k, hk, rfl, hb⟩ := hrel
    by_cases hlt : k < l.length
    · obtain ⟨g, off, rfl, hg, hC⟩ := HR.out.some (by rw [fl_length wc_length]; omega)
      obtain ⟨g', off', rfl, hg', hC'⟩ := HR'.out.some (by rw [fl_length wc_length]; omega)
      have HX := Lib.hid ((hC.below hb hg).el wc_length hlt)
      have HX' := Lib.hid ((hC'.below hb hg').el wc_length hlt)
      have HG := Lib.hid (Nat.lt_of_lt_of_le hg hb.size)
      have HG' := Lib.hid (Nat.lt_of_lt_of_le hg' hb.size)
      have hlt2 : (k : Int) < (l.length : Int) := by omega
      clear hC hC' HR HR'
      generalize l[k]! = x at HX HX'
      go_upto_region 6 with fail
      have H := Below.refl wr.heap.size wr
      refine g_start 10 rfl (by kernel_rfl) ?_
      (refine g_quiet 0 (by kernel_rfl) rfl (fun K hK => ?_); first | ((first | (refine qB_CAtK H rfl _ _ rfl _ _ rfl (wc x) HX.out HG.out _ Tryd.underlying70 rfl (sziWant x) (hK _ ?_)) | (refine qB_CAtK H rfl _ _ rfl _ _ rfl (wc x) HX'.out HG'.out _ Tryd.underlying70 rfl (sziWant x) (hK _ ?_))); clear hK K) | (go_simp; first | (refine hK _ ?_; clear hK K) | (apply Exists.intro; refine ⟨fun _ => ?_, hK _ ?_⟩; (first | (go_at_call 45 <;> exact eqWant_refl x _)); clear hK K)))
      (refine g_quiet 1 (by kernel_rfl) rfl (fun K hK => ?_); first | ((first | (refine qB_CAtK H rfl _ _ rfl _ _ rfl (wc x) HX.out HG.out _ Tryd.underlying70 rfl (sziWant x) (hK _ ?_)) | (refine qB_CAtK H rfl _ _ rfl _ _ rfl (wc x) HX'.out HG'.out _ Tryd.underlying70 rfl (sziWant x) (hK _ ?_))); clear hK K) | (go_simp; first | (refine hK _ ?_; clear hK K) | (apply Exists.intro; refine ⟨fun _ => ?_, hK _ ?_⟩; (first | (go_at_call 45 <;> exact eqWant_refl x _)); clear hK K)))
      (refine g_quiet 2 (by kernel_rfl) rfl (fun K hK => ?_); first | ((first | (refine qB_CAtK H rfl _ _ rfl _ _ rfl (wc x) HX.out HG.out _ Tryd.underlying70 rfl (sziWant x) (hK _ ?_)) | (refine qB_CAtK H rfl _ _ rfl _ _ rfl (wc x) HX'.out HG'.out _ Tryd.underlying70 rfl (sziWant x) (hK _ ?_))); clear hK K) | (go_simp; first | (refine hK _ ?_; clear hK K) | (apply Exists.intro; refine ⟨fun _ => ?_, hK _ ?_⟩; (first | (go_at_call 45 <;> exact eqWant_refl x _)); clear hK K)))
      (refine g_quiet 3 (by kernel_rfl) rfl (fun K hK => ?_); first | ((first | (refine qB_CAtK H rfl _ _ rfl _ _ rfl (wc x) HX.out HG.out _ Tryd.underlying70 rfl (sziWant x) (hK _ ?_)) | (refine qB_CAtK H rfl _ _ rfl _ _ rfl (wc x) HX'.out HG'.out _ Tryd.underlying70 rfl (sziWant x) (hK _ ?_))); clear hK K) | (go_simp; first | (refine hK _ ?_; clear hK K) | (apply Exists.intro; refine ⟨fun _ => ?_, hK _ ?_⟩; (first | (go_at_call 45 <;> exact eqWant_refl x _)); clear hK K)))
      (refine g_quiet 4 (by kernel_rfl) rfl (fun K hK => ?_); first | ((first | (refine qB_CAtK H rfl _ _ rfl _ _ rfl (wc x) HX.out HG.out _ Tryd.underlying70 rfl (sziWant x) (hK _ ?_)) | (refine qB_CAtK H rfl _ _ rfl _ _ rfl (wc x) HX'.out HG'.out _ Tryd.underlying70 rfl (sziWant x) (hK _ ?_))); clear hK K) | (go_simp; first | (refine hK _ ?_; clear hK K) | (apply Exists.intro; refine ⟨fun _ => ?_, hK _ ?_⟩; (first | (go_at_call 45 <;> exact eqWant_refl x _)); clear hK K)))
      (refine g_quiet 5 (by kernel_rfl) rfl (fun K hK => ?_); first | ((first | (refine qB_CAtK H rfl _ _ rfl _ _ rfl (wc x) HX.out HG.out _ Tryd.underlying70 rfl (sziWant x) (hK _ ?_)) | (refine qB_CAtK H rfl _ _ rfl _ _ rfl (wc x) HX'.out HG'.out _ Tryd.underlying70 rfl (sziWant x) (hK _ ?_))); clear hK K) | (go_simp; first | (refine hK _ ?_; clear hK K) | (apply Exists.intro; refine ⟨fun _ => ?_, hK _ ?_⟩; (first | (go_at_call 45 <;> exact eqWant_refl x _)); clear hK K)))
      (refine g_quiet 6 (by kernel_rfl) rfl (fun K hK => ?_); first | ((first | (refine qB_CAtK H rfl _ _ rfl _ _ rfl (wc x) HX.out HG.out _ Tryd.underlying70 rfl (sziWant x) (hK _ ?_)) | (refine qB_CAtK H rfl _ _ rfl _ _ rfl (wc x) HX'.out HG'.out _ Tryd.underlying70 rfl (sziWant x) (hK _ ?_))); clear hK K) | (go_simp; first | (refine hK _ ?_; clear hK K) | (apply Exists.intro; refine ⟨fun _ => ?_, hK _ ?_⟩; (first | (go_at_call 45 <;> exact eqWant_refl x _)); clear hK K)))
      (refine g_quiet 7 (by kernel_rfl) rfl (fun K hK => ?_); first | ((first | (refine qB_CAtK H rfl _ _ rfl _ _ rfl (wc x) HX.out HG.out _ Tryd.underlying70 rfl (sziWant x) (hK _ ?_)) | (refine qB_CAtK H rfl _ _ rfl _ _ rfl (wc x) HX'.out HG'.out _ Tryd.underlying70 rfl (sziWant x) (hK _ ?_))); clear hK K) | (go_simp; first | (refine hK _ ?_; clear hK K) | (apply Exists.intro; refine ⟨fun _ => ?_, hK _ ?_⟩; (first | (go_at_call 45 <;> exact eqWant_refl x _)); clear hK K)))
      (refine g_quiet 8 (by kernel_rfl) rfl (fun K hK => ?_); first | ((first | (refine qB_CAtK H rfl _ _ rfl _ _ rfl (wc x) HX.out HG.out _ Tryd.underlying70 rfl (sziWant x) (hK _ ?_)) | (refine qB_CAtK H rfl _ _ rfl _ _ rfl (wc x) HX'.out HG'.out _ Tryd.underlying70 rfl (sziWant x) (hK _ ?_))); clear hK K) | (go_simp; first | (refine hK _ ?_; clear hK K) | (apply Exists.intro; refine ⟨fun _ => ?_, hK _ ?_⟩; (first | (go_at_call 45 <;> exact eqWant_refl x _)); clear hK K)))
      (refine g_quiet 9 (by kernel_rfl) rfl (fun K hK => ?_); first | ((first | (refine qB_CAtK H rfl _ _ rfl _ _ rfl (wc x) HX.out HG.out _ Tryd.underlying70 rfl (sziWant x) (hK _ ?_)) | (refine qB_CAtK H rfl _ _ rfl _ _ rfl (wc x) HX'.out HG'.out _ Tryd.underlying70 rfl (sziWant x) (hK _ ?_))); clear hK K) | (go_simp; first | (refine hK _ ?_; clear hK K) | (apply Exists.intro; refine ⟨fun _ => ?_, hK _ ?_⟩; (first | (go_at_call 45 <;> exact eqWant_refl x _)); clear hK K)))
      refine g_done (by kernel_rfl) ?_
      rintro w1 hw1 -
      go_wp2
      go_roundw
      case rel => exact ⟨k + 1, by omega, by go_num, bstep hb hw1⟩
      case measure => simp [intOf]; omega
    · obtain rfl : k = l.length := by omega
      go_wp2
      go_ret
      exact ⟨rfl, hb⟩
end Go.Proofs.YtbngpcghognojaaDoor
