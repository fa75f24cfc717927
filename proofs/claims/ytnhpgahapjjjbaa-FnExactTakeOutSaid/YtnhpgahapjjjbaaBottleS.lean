/- Contracts of the laws' helpers on slices of bottles: copied, compared, measured. -/
import Derived.Test.YtnhpgahapjjjbaaStack
import Derived.Test.YtnhpgahapjjjbaaAll
namespace Go.Proofs.Ytnhpgahapjjjbaa
open Go.RowKit
set_option linter.unusedVariables false
set_option linter.unusedSimpArgs false
set_option maxRecDepth 100000
set_option maxHeartbeats 1000000
attribute [local go_sem] Oper.qB
theorem sziBottle (x : Bt) : (Try.prog.info? 26).map (·.size) = some (bc x).length := by rw [bc_length]; kernel_rfl
theorem eqBottleS_refl (A A' : Option Addr) (c c' : Nat) (l : List Bt) (w : World) (h : RdA w A (fl bc l)) (h' : RdA w A' (fl bc l)) (hm : l.length ≤ 1000000000) :
    Calls Try.prog 39 #[.slice A l.length c, .slice A' l.length c'] w fun e w' => e = .returned (.bool true) ∧ Below w.heap.size w w' := by
  have HR := Lib.hid h
  have HR' := Lib.hid h'
  clear h h'
  go_enter Try.func39, Try.ntmps39
  go_wp2
  go_loopw [5] (fun i wr => ∃ k : Nat, k ≤ l.length ∧ i = .int .i64 k ∧ Below w.heap.size w wr) (fun i _ => l.length - (intOf i).toNat)
  case atStart => exact ⟨0, Nat.zero_le _, rfl, Below.refl _ _⟩
  case round =>
    obtain ⟨k, hk, rfl, hb⟩ := hrel
    by_cases hlt : k < l.length
    · obtain ⟨g, off, rfl, hg, hC⟩ := HR.out.some (by rw [fl_length bc_length]; omega)
      obtain ⟨g', off', rfl, hg', hC'⟩ := HR'.out.some (by rw [fl_length bc_length]; omega)
      have HX := Lib.hid ((hC.below hb hg).el bc_length hlt)
      have HX' := Lib.hid ((hC'.below hb hg').el bc_length hlt)
      have HG := Lib.hid (Nat.lt_of_lt_of_le hg hb.size)
      have HG' := Lib.hid (Nat.lt_of_lt_of_le hg' hb.size)
      have hlt2 : (k : Int) < (l.length : Int) := by omega
      clear hC hC' HR HR'
      generalize l[k]! = x at HX HX'
      go_upto_region 6 with fail
      have H := Below.refl wr.heap.size wr
      refine g_start 10 rfl (by kernel_rfl) ?_
      (refine g_quiet 0 (by kernel_rfl) rfl (fun K hK => ?_); first | ((first | (refine qB_CAtK H rfl _ _ rfl _ _ rfl (bc x) HX.out HG.out _ Try.underlying26 rfl (sziBottle x) (hK _ ?_)) | (refine qB_CAtK H rfl _ _ rfl _ _ rfl (bc x) HX'.out HG'.out _ Try.underlying26 rfl (sziBottle x) (hK _ ?_))); clear hK K) | (go_simp; first | (refine hK _ ?_; clear hK K) | (apply Exists.intro; refine ⟨fun _ => ?_, hK _ ?_⟩; (first | (go_at_call 73 <;> exact eqBottle_refl x _)); clear hK K)))
      (refine g_quiet 1 (by kernel_rfl) rfl (fun K hK => ?_); first | ((first | (refine qB_CAtK H rfl _ _ rfl _ _ rfl (bc x) HX.out HG.out _ Try.underlying26 rfl (sziBottle x) (hK _ ?_)) | (refine qB_CAtK H rfl _ _ rfl _ _ rfl (bc x) HX'.out HG'.out _ Try.underlying26 rfl (sziBottle x) (hK _ ?_))); clear hK K) | (go_simp; first | (refine hK _ ?_; clear hK K) | (apply Exists.intro; refine ⟨fun _ => ?_, hK _ ?_⟩; (first | (go_at_call 73 <;> exact eqBottle_refl x _)); clear hK K)))
      (refine g_quiet 2 (by kernel_rfl) rfl (fun K hK => ?_); first | ((first | (refine qB_CAtK H rfl _ _ rfl _ _ rfl (bc x) HX.out HG.out _ Try.underlying26 rfl (sziBottle x) (hK _ ?_)) | (refine qB_CAtK H rfl _ _ rfl _ _ rfl (bc x) HX'.out HG'.out _ Try.underlying26 rfl (sziBottle x) (hK _ ?_))); clear hK K) | (go_simp; first | (refine hK _ ?_; clear hK K) | (apply Exists.intro; refine ⟨fun _ => ?_, hK _ ?_⟩; (first | (go_at_call 73 <;> exact eqBottle_refl x _)); clear hK K)))
      (refine g_quiet 3 (by kernel_rfl) rfl (fun K hK => ?_); first | ((first | (refine qB_CAtK H rfl _ _ rfl _ _ rfl (bc x) HX.out HG.out _ Try.underlying26 rfl (sziBottle x) (hK _ ?_)) | (refine qB_CAtK H rfl _ _ rfl _ _ rfl (bc x) HX'.out HG'.out _ Try.underlying26 rfl (sziBottle x) (hK _ ?_))); clear hK K) | (go_simp; first | (refine hK _ ?_; clear hK K) | (apply Exists.intro; refine ⟨fun _ => ?_, hK _ ?_⟩; (first | (go_at_call 73 <;> exact eqBottle_refl x _)); clear hK K)))
      (refine g_quiet 4 (by kernel_rfl) rfl (fun K hK => ?_); first | ((first | (refine qB_CAtK H rfl _ _ rfl _ _ rfl (bc x) HX.out HG.out _ Try.underlying26 rfl (sziBottle x) (hK _ ?_)) | (refine qB_CAtK H rfl _ _ rfl _ _ rfl (bc x) HX'.out HG'.out _ Try.underlying26 rfl (sziBottle x) (hK _ ?_))); clear hK K) | (go_simp; first | (refine hK _ ?_; clear hK K) | (apply Exists.intro; refine ⟨fun _ => ?_, hK _ ?_⟩; (first | (go_at_call 73 <;> exact eqBottle_refl x _)); clear hK K)))
      (refine g_quiet 5 (by kernel_rfl) rfl (fun K hK => ?_); first | ((first | (refine qB_CAtK H rfl _ _ rfl _ _ rfl (bc x) HX.out HG.out _ Try.underlying26 rfl (sziBottle x) (hK _ ?_)) | (refine qB_CAtK H rfl _ _ rfl _ _ rfl (bc x) HX'.out HG'.out _ Try.underlying26 rfl (sziBottle x) (hK _ ?_))); clear hK K) | (go_simp; first | (refine hK _ ?_; clear hK K) | (apply Exists.intro; refine ⟨fun _ => ?_, hK _ ?_⟩; (first | (go_at_call 73 <;> exact eqBottle_refl x _)); clear hK K)))
      (refine g_quiet 6 (by kernel_rfl) rfl (fun K hK => ?_); first | ((first | (refine qB_CAtK H rfl _ _ rfl _ _ rfl (bc x) HX.out HG.out _ Try.underlying26 rfl (sziBottle x) (hK _ ?_)) | (refine qB_CAtK H rfl _ _ rfl _ _ rfl (bc x) HX'.out HG'.out _ Try.underlying26 rfl (sziBottle x) (hK _ ?_))); clear hK K) | (go_simp; first | (refine hK _ ?_; clear hK K) | (apply Exists.intro; refine ⟨fun _ => ?_, hK _ ?_⟩; (first | (go_at_call 73 <;> exact eqBottle_refl x _)); clear hK K)))
      (refine g_quiet 7 (by kernel_rfl) rfl (fun K hK => ?_); first | ((first | (refine qB_CAtK H rfl _ _ rfl _ _ rfl (bc x) HX.out HG.out _ Try.underlying26 rfl (sziBottle x) (hK _ ?_)) | (refine qB_CAtK H rfl _ _ rfl _ _ rfl (bc x) HX'.out HG'.out _ Try.underlying26 rfl (sziBottle x) (hK _ ?_))); clear hK K) | (go_simp; first | (refine hK _ ?_; clear hK K) | (apply Exists.intro; refine ⟨fun _ => ?_, hK _ ?_⟩; (first | (go_at_call 73 <;> exact eqBottle_refl x _)); clear hK K)))
      (refine g_quiet 8 (by kernel_rfl) rfl (fun K hK => ?_); first | ((first | (refine qB_CAtK H rfl _ _ rfl _ _ rfl (bc x) HX.out HG.out _ Try.underlying26 rfl (sziBottle x) (hK _ ?_)) | (refine qB_CAtK H rfl _ _ rfl _ _ rfl (bc x) HX'.out HG'.out _ Try.underlying26 rfl (sziBottle x) (hK _ ?_))); clear hK K) | (go_simp; first | (refine hK _ ?_; clear hK K) | (apply Exists.intro; refine ⟨fun _ => ?_, hK _ ?_⟩; (first | (go_at_call 73 <;> exact eqBottle_refl x _)); clear hK K)))
      (refine g_quiet 9 (by kernel_rfl) rfl (fun K hK => ?_); first | ((first | (refine qB_CAtK H rfl _ _ rfl _ _ rfl (bc x) HX.out HG.out _ Try.underlying26 rfl (sziBottle x) (hK _ ?_)) | (refine qB_CAtK H rfl _ _ rfl _ _ rfl (bc x) HX'.out HG'.out _ Try.underlying26 rfl (sziBottle x) (hK _ ?_))); clear hK K) | (go_simp; first | (refine hK _ ?_; clear hK K) | (apply Exists.intro; refine ⟨fun _ => ?_, hK _ ?_⟩; (first | (go_at_call 73 <;> exact eqBottle_refl x _)); clear hK K)))
      refine g_done (by kernel_rfl) ?_
      rintro w1 hw1 -
      go_wp2
      go_roundw
      case rel => exact ⟨k + 1, by omega, by go_num, bstep hb hw1⟩
      case measure => simp [intOf]; omega
    · obtain rfl : k = l.length := by omega
      go_wp2
      go_ret
      exact ⟨rfl, hb⟩
end Go.Proofs.Ytnhpgahapjjjbaa
