/- Contracts of the laws' helpers on slices of crates: copied, compared, measured. -/
import Derived.Test.YtnhpgahapjjjbaaStack
namespace Go.Proofs.Ytnhpgahapjjjbaa
open Go.RowKit
set_option linter.unusedVariables false
set_option linter.unusedSimpArgs false
set_option maxRecDepth 100000
set_option maxHeartbeats 1000000
attribute [local go_sem] Oper.qB
theorem szCrateS_any (A : Option Addr) (n c : Nat) (left : Int) (w : World) (h0 : 0 ≤ left) (h1 : left ≤ 1048576) (hn : n ≤ maxLen) : Calls Try.prog 19 #[.slice A n c, .int .i64 left] w fun e w' => e = .returned (.int .i64 (if left < n then -1 else left - n)) ∧ Below w.heap.size w w' := by
  have hm : n ≤ 9223372036854775807 := by simpa [maxLen] using hn
  by_cases h : left < (n : Int)
  · have h2 : left - (n : Int) < 0 := by omega
    have HF := Lib.hid (show (if left < (n : Int) then (-1 : Int) else left - n) = -1 from if_pos h)
    go_enter Try.func19, Try.ntmps19
    go_wp2
    go_ret
    exact ⟨rfl, Below.refl _ _⟩
  · have h2 : ¬ left - (n : Int) < 0 := by omega
    have HF := Lib.hid (show (if left < (n : Int) then (-1 : Int) else left - n) = left - n from if_neg h)
    go_enter Try.func19, Try.ntmps19
    go_wp2
    go_ret
    exact ⟨rfl, Below.refl _ _⟩
theorem sziCrate (x : Cr) : (Try.prog.info? 28).map (·.size) = some (cc x).length := by rw [cc_length]; kernel_rfl
theorem infoCrateS : (Try.prog.info? 28).map (fun i => (i.zero, i.size, i.bytes)) = some (some (.agg (cc zC).toArray), 24, 48) := by kernel_rfl
theorem szlCrate (x : Cr) : (Try.prog.info? 25).map (·.size) = some (cc x).length := by rw [cc_length]; kernel_rfl
theorem toCrateS_any (A : Option Addr) (c : Nat) (l : List Cr) (w : World) (h : RdA w A (fl cc l)) (hn : l.length ≤ 1048576) :
    Calls Try.prog 22 #[.slice A l.length c] w fun e w' => ∃ g, e = .returned (.slice (some ⟨g, 0, none⟩) l.length l.length) ∧ w'.ownsRow w.heap.size 28 24 (.slice (some ⟨g, 0, none⟩) l.length l.length) l.length (fl cc l) ∧ Below w.heap.size w w' := by
  have HR := Lib.hid h
  clear h
  have hmk := run_make_el (P := Try.prog) Try.underlying40 infoCrateS rfl l.length (by omega) (by omega)
  go_enter Try.func22, Try.ntmps22
  go_wp2
  have hO := World.ownsRow_full (base := w.heap.size) w (madeCells (cc zC).toArray (l.length * 24)) 28 24 l.length (Nat.le_refl _) (by simp [maxLen]; omega) (size_madeCells _ _)
  rw [made_fl cc_length (by decide) zC _ rfl l.length] at hO
  go_loopw [4] (fun i wr => ∃ k : Nat, k ≤ l.length ∧ i = .int .i64 k ∧ Hid (wr.ownsRow w.heap.size 28 24 (.slice (some ⟨w.heap.size, 0, none⟩) l.length l.length) l.length (fl cc (l.take k ++ List.replicate (l.length - k) zC))) ∧ Below w.heap.size w wr) (fun i _ => l.length - (intOf i).toNat)
  case atStart => exact ⟨0, Nat.zero_le _, rfl, Lib.hid (by simpa using hO), by go_grown⟩
  case round =>
    clear hO hmk
    obtain ⟨k, hk, rfl, HO, hb⟩ := hrel
    by_cases hlt : k < l.length
    · obtain ⟨g, off, rfl, hg, hC⟩ := HR.out.some (by rw [fl_length cc_length]; omega)
      have HX := Lib.hid ((hC.below hb hg).el cc_length hlt)
      have HS : Hid (l.take k ++ List.replicate (l.length - k) zC = l.take k ++ zC :: List.replicate (l.length - (k + 1)) zC ∧ l.take k ++ l[k]! :: List.replicate (l.length - (k + 1)) zC = l.take (k + 1) ++ List.replicate (l.length - (k + 1)) zC) := by
        constructor
        · rw [show l.length - k = (l.length - (k + 1)) + 1 by omega, List.replicate_succ]
        · rw [getB hlt, List.take_succ_eq_append_getElem hlt, List.append_assoc]
          rfl
      have hlt2 : (k : Int) < (l.length : Int) := by omega
      clear hC
      generalize l[k]! = x at HX HS
      go_wp2_with (first | (with_reducible refine wp_load_CAt rfl _ _ rfl _ _ rfl (cc x) HX.out _ Try.underlying25 rfl (szlCrate x) ?_) | (go_at_call 16; refine (toCrate_any x _).mono ?_; rintro e w1 ⟨rfl, hb1⟩; have HO1 := Lib.hid (own_kept HO.out hb1)) | (refine wp_store_el rfl rfl _ _ _ rfl _ _ rfl _ rfl (own_room (i := k) HO1.out hlt (by exact cc_size x)) (by exact infoC x) (by exact cc_one x) ?_))
      go_roundw
      case rel =>
        refine ⟨k + 1, by omega, by go_num, ?_, (bstep hb hb1).trans (putEl_below (by have := (bstep hb hb1).size; exact Nat.le_refl _) _ _)⟩
        have := putEl_own (vs := (cc x).toArray) HO1.out hlt (by exact cc_size x)
        rw [HS.out.1] at this
        rw [← HS.out.2]
        have e := fl_set cc_length (l.take k ++ zC :: List.replicate (l.length - (k + 1)) zC) k x (by simp; omega)
        rw [show (l.take k ++ zC :: List.replicate (l.length - (k + 1)) zC).set k x = l.take k ++ x :: List.replicate (l.length - (k + 1)) zC by rw [List.set_append_right _ _ (by simp; omega)]; simp [Nat.min_eq_left (Nat.le_of_lt hlt)]] at e
        show World.ownsRow _ _ _ _ _ _ _
        rw [e]
        exact this
      case measure => simp [intOf]; omega
    · obtain rfl : k = l.length := by omega
      have HO2 : Hid (wr.ownsRow w.heap.size 28 24 (.slice (some ⟨w.heap.size, 0, none⟩) l.length l.length) l.length (fl cc l)) := by
        have := HO.out
        rw [List.take_length, Nat.sub_self, List.replicate_zero, List.append_nil] at this
        exact this
      go_wp2
      go_ret
      exact ⟨_, rfl, HO2.out, hb⟩
theorem read_crates {H : Type} {enc : TypeId × Value → H} {w : World} {base : Nat} {spare : Nat → Bool} {held : Bool} {v : Value} {d : DataW H} {ps : List MemPlace} (hv : Value.okWide Try.prog w .any 0 34 v) (h : DataW.Trod enc Try.prog w base spare held 34 v d ps) :
    ∃ (A : Option Addr) (c : Nat) (l : List Cr), v = .slice A l.length c ∧ l.length ≤ maxLen ∧ RdA w A (fl cc l) :=
  read_slice Try.underlying34 (by kernel_rfl) (by decide) cc_length (fun n cs x h => trod_crate h) hv h
theorem eqCrateS_refl (A A' : Option Addr) (c c' : Nat) (l : List Cr) (w : World) (h : RdA w A (fl cc l)) (h' : RdA w A' (fl cc l)) (hm : l.length ≤ 1000000000) :
    Calls Try.prog 25 #[.slice A l.length c, .slice A' l.length c'] w fun e w' => e = .returned (.bool true) ∧ Below w.heap.size w w' := by
  have HR := Lib.hid h
  have HR' := Lib.hid h'
  clear h h'
  go_enter Try.func25, Try.ntmps25
  go_wp2
  go_loopw [5] (fun i wr => ∃ k : Nat, k ≤ l.length ∧ i = .int .i64 k ∧ Below w.heap.size w wr) (fun i _ => l.length - (intOf i).toNat)
  case atStart => exact ⟨0, Nat.zero_le _, rfl, Below.refl _ _⟩
  case round =>
    obtain ⟨k, hk, rfl, hb⟩ := hrel
    by_cases hlt : k < l.length
    · obtain ⟨g, off, rfl, hg, hC⟩ := HR.out.some (by rw [fl_length cc_length]; omega)
      obtain ⟨g', off', rfl, hg', hC'⟩ := HR'.out.some (by rw [fl_length cc_length]; omega)
      have HX := Lib.hid ((hC.below hb hg).el cc_length hlt)
      have HX' := Lib.hid ((hC'.below hb hg').el cc_length hlt)
      have HG := Lib.hid (Nat.lt_of_lt_of_le hg hb.size)
      have HG' := Lib.hid (Nat.lt_of_lt_of_le hg' hb.size)
      have hlt2 : (k : Int) < (l.length : Int) := by omega
      clear hC hC' HR HR'
      generalize l[k]! = x at HX HX'
      go_upto_region 6 with fail
      have H := Below.refl wr.heap.size wr
      refine g_start 10 rfl (by kernel_rfl) ?_
      (refine g_quiet 0 (by kernel_rfl) rfl (fun K hK => ?_); first | ((first | (refine qB_CAtK H rfl _ _ rfl _ _ rfl (cc x) HX.out HG.out _ Try.underlying28 rfl (sziCrate x) (hK _ ?_)) | (refine qB_CAtK H rfl _ _ rfl _ _ rfl (cc x) HX'.out HG'.out _ Try.underlying28 rfl (sziCrate x) (hK _ ?_))); clear hK K) | (go_simp; first | (refine hK _ ?_; clear hK K) | (apply Exists.intro; refine ⟨fun _ => ?_, hK _ ?_⟩; (first | (go_at_call 18 <;> exact eqCrate_refl x _)); clear hK K)))
      (refine g_quiet 1 (by kernel_rfl) rfl (fun K hK => ?_); first | ((first | (refine qB_CAtK H rfl _ _ rfl _ _ rfl (cc x) HX.out HG.out _ Try.underlying28 rfl (sziCrate x) (hK _ ?_)) | (refine qB_CAtK H rfl _ _ rfl _ _ rfl (cc x) HX'.out HG'.out _ Try.underlying28 rfl (sziCrate x) (hK _ ?_))); clear hK K) | (go_simp; first | (refine hK _ ?_; clear hK K) | (apply Exists.intro; refine ⟨fun _ => ?_, hK _ ?_⟩; (first | (go_at_call 18 <;> exact eqCrate_refl x _)); clear hK K)))
      (refine g_quiet 2 (by kernel_rfl) rfl (fun K hK => ?_); first | ((first | (refine qB_CAtK H rfl _ _ rfl _ _ rfl (cc x) HX.out HG.out _ Try.underlying28 rfl (sziCrate x) (hK _ ?_)) | (refine qB_CAtK H rfl _ _ rfl _ _ rfl (cc x) HX'.out HG'.out _ Try.underlying28 rfl (sziCrate x) (hK _ ?_))); clear hK K) | (go_simp; first | (refine hK _ ?_; clear hK K) | (apply Exists.intro; refine ⟨fun _ => ?_, hK _ ?_⟩; (first | (go_at_call 18 <;> exact eqCrate_refl x _)); clear hK K)))
      (refine g_quiet 3 (by kernel_rfl) rfl (fun K hK => ?_); first | ((first | (refine qB_CAtK H rfl _ _ rfl _ _ rfl (cc x) HX.out HG.out _ Try.underlying28 rfl (sziCrate x) (hK _ ?_)) | (refine qB_CAtK H rfl _ _ rfl _ _ rfl (cc x) HX'.out HG'.out _ Try.underlying28 rfl (sziCrate x) (hK _ ?_))); clear hK K) | (go_simp; first | (refine hK _ ?_; clear hK K) | (apply Exists.intro; refine ⟨fun _ => ?_, hK _ ?_⟩; (first | (go_at_call 18 <;> exact eqCrate_refl x _)); clear hK K)))
      (refine g_quiet 4 (by kernel_rfl) rfl (fun K hK => ?_); first | ((first | (refine qB_CAtK H rfl _ _ rfl _ _ rfl (cc x) HX.out HG.out _ Try.underlying28 rfl (sziCrate x) (hK _ ?_)) | (refine qB_CAtK H rfl _ _ rfl _ _ rfl (cc x) HX'.out HG'.out _ Try.underlying28 rfl (sziCrate x) (hK _ ?_))); clear hK K) | (go_simp; first | (refine hK _ ?_; clear hK K) | (apply Exists.intro; refine ⟨fun _ => ?_, hK _ ?_⟩; (first | (go_at_call 18 <;> exact eqCrate_refl x _)); clear hK K)))
      (refine g_quiet 5 (by kernel_rfl) rfl (fun K hK => ?_); first | ((first | (refine qB_CAtK H rfl _ _ rfl _ _ rfl (cc x) HX.out HG.out _ Try.underlying28 rfl (sziCrate x) (hK _ ?_)) | (refine qB_CAtK H rfl _ _ rfl _ _ rfl (cc x) HX'.out HG'.out _ Try.underlying28 rfl (sziCrate x) (hK _ ?_))); clear hK K) | (go_simp; first | (refine hK _ ?_; clear hK K) | (apply Exists.intro; refine ⟨fun _ => ?_, hK _ ?_⟩; (first | (go_at_call 18 <;> exact eqCrate_refl x _)); clear hK K)))
      (refine g_quiet 6 (by kernel_rfl) rfl (fun K hK => ?_); first | ((first | (refine qB_CAtK H rfl _ _ rfl _ _ rfl (cc x) HX.out HG.out _ Try.underlying28 rfl (sziCrate x) (hK _ ?_)) | (refine qB_CAtK H rfl _ _ rfl _ _ rfl (cc x) HX'.out HG'.out _ Try.underlying28 rfl (sziCrate x) (hK _ ?_))); clear hK K) | (go_simp; first | (refine hK _ ?_; clear hK K) | (apply Exists.intro; refine ⟨fun _ => ?_, hK _ ?_⟩; (first | (go_at_call 18 <;> exact eqCrate_refl x _)); clear hK K)))
      (refine g_quiet 7 (by kernel_rfl) rfl (fun K hK => ?_); first | ((first | (refine qB_CAtK H rfl _ _ rfl _ _ rfl (cc x) HX.out HG.out _ Try.underlying28 rfl (sziCrate x) (hK _ ?_)) | (refine qB_CAtK H rfl _ _ rfl _ _ rfl (cc x) HX'.out HG'.out _ Try.underlying28 rfl (sziCrate x) (hK _ ?_))); clear hK K) | (go_simp; first | (refine hK _ ?_; clear hK K) | (apply Exists.intro; refine ⟨fun _ => ?_, hK _ ?_⟩; (first | (go_at_call 18 <;> exact eqCrate_refl x _)); clear hK K)))
      (refine g_quiet 8 (by kernel_rfl) rfl (fun K hK => ?_); first | ((first | (refine qB_CAtK H rfl _ _ rfl _ _ rfl (cc x) HX.out HG.out _ Try.underlying28 rfl (sziCrate x) (hK _ ?_)) | (refine qB_CAtK H rfl _ _ rfl _ _ rfl (cc x) HX'.out HG'.out _ Try.underlying28 rfl (sziCrate x) (hK _ ?_))); clear hK K) | (go_simp; first | (refine hK _ ?_; clear hK K) | (apply Exists.intro; refine ⟨fun _ => ?_, hK _ ?_⟩; (first | (go_at_call 18 <;> exact eqCrate_refl x _)); clear hK K)))
      (refine g_quiet 9 (by kernel_rfl) rfl (fun K hK => ?_); first | ((first | (refine qB_CAtK H rfl _ _ rfl _ _ rfl (cc x) HX.out HG.out _ Try.underlying28 rfl (sziCrate x) (hK _ ?_)) | (refine qB_CAtK H rfl _ _ rfl _ _ rfl (cc x) HX'.out HG'.out _ Try.underlying28 rfl (sziCrate x) (hK _ ?_))); clear hK K) | (go_simp; first | (refine hK _ ?_; clear hK K) | (apply Exists.intro; refine ⟨fun _ => ?_, hK _ ?_⟩; (first | (go_at_call 18 <;> exact eqCrate_refl x _)); clear hK K)))
      refine g_done (by kernel_rfl) ?_
      rintro w1 hw1 -
      go_wp2
      go_roundw
      case rel => exact ⟨k + 1, by omega, by go_num, bstep hb hw1⟩
      case measure => simp [intOf]; omega
    · obtain rfl : k = l.length := by omega
      go_wp2
      go_ret
      exact ⟨rfl, hb⟩
end Go.Proofs.Ytnhpgahapjjjbaa
