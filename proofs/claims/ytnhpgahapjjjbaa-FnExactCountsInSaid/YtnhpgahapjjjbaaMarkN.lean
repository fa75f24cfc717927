/- Contracts of the laws' helpers on slices of counts: compared, marked, held. -/
import Derived.Test.YtnhpgahapjjjbaaRuns
import Derived.Test.YtnhpgahapjjjbaaConv
namespace Go.Proofs.Ytnhpgahapjjjbaa
open Go.RowKit
set_option linter.unusedVariables false
set_option linter.unusedSimpArgs false
set_option maxRecDepth 100000
set_option maxHeartbeats 1000000
attribute [local go_sem] Oper.qB
/-- The marks of a count. -/
def mkn (k0 : Int) (i : Nat) : List Value := [.int .u8 ((k0 + 3 * (i : Int)) % 256), .int .i16 (IntKind.i16.wrap (k0 + 3 * (i : Int) + 1)), .int .i64 (k0 + 3 * (i : Int) + 1 + 1)]
theorem mkn_length (k0 : Int) (i : Nat) : (mkn k0 i).length = 3 := rfl
theorem mkn_step {k0 : Int} {l : List Ct} {k : Nat} (hk : k < l.length) :
    (((fl (mkn k0) (List.range k) ++ fl nc (l.drop k)).set (k * 3) (.int .u8 ((k0 + 3 * (k : Int)) % 256))).set (k * 3 + 1) (.int .i16 (IntKind.i16.wrap (k0 + 3 * (k : Int) + 1)))).set (k * 3 + 2) (.int .i64 (k0 + 3 * (k : Int) + 1 + 1)) = fl (mkn k0) (List.range (k + 1)) ++ fl nc (l.drop (k + 1)) := by
  have hl : (fl (mkn k0) (List.range k)).length = k * 3 := by rw [fl_length (mkn_length k0), List.length_range]
  rw [List.set_append_right _ _ (by omega), hl, Nat.sub_self, List.set_append_right _ _ (by omega), hl, Nat.add_sub_cancel_left, List.set_append_right _ _ (by omega), hl, Nat.add_sub_cancel_left, List.range_succ, fl_append, fl_one, List.drop_eq_getElem_cons hk, fl_cons]
  simp [nc, mkn]
theorem markCountS_own (B : Nat) (v : Value) (l : List Ct) (k0 : Int) (w : World) (h : OwnN nc w B 126 3 v l) (h0 : 0 ≤ k0) (h1 : k0 ≤ 1000000000000) (hm : l.length ≤ 1000000000) :
    Calls Try.prog 60 #[v, .int .i64 k0] w fun e w' => e = .returned (.int .i64 (k0 + 3 * (l.length : Int))) ∧ OwnN (mkn k0) w' B 126 3 v (List.range l.length) ∧ ButV v w w' := by
  have HO := Lib.hid h
  obtain ⟨A, c, rfl, hc, _⟩ := own_rdA h
  clear h
  go_enter Try.func60, Try.ntmps60
  go_wp2
  go_loopw [1, 5] (fun kk i wr => ∃ k : Nat, k ≤ l.length ∧ i = .int .i64 k ∧ kk = .int .i64 (k0 + 3 * (k : Int)) ∧ Hid (wr.ownsRow B 126 3 (.slice A l.length c) l.length (fl (mkn k0) (List.range k) ++ fl nc (l.drop k))) ∧ Hid (ButV (.slice A l.length c) w wr)) (fun _ i _ => l.length - (intOf i).toNat)
  case atStart => exact ⟨0, Nat.zero_le _, rfl, by simp, Lib.hid (by simpa [fl, OwnN] using HO.out), ButV.refl⟩
  case round =>
    clear HO
    obtain ⟨k, hk, rfl, rfl, HO, hb⟩ := hrel
    by_cases hlt : k < l.length
    · obtain ⟨g, cap, hv⟩ := own_form HO.out (by omega)
      simp only [Value.slice.injEq] at hv
      obtain ⟨rfl, _, rfl⟩ := hv
      have hlen : (fl (mkn k0) (List.range k) ++ fl nc (l.drop k)).length = l.length * 3 := HO.out.1
      have x0 := HO.out.cellAt (k * 3) (by omega)
      have x1 := HO.out.cellAt (k * 3 + 1) (by omega)
      have x2 := HO.out.cellAt (k * 3 + 2) (by omega)
      rw [List.getElem?_eq_getElem (by omega)] at x0 x1 x2
      have f0 := HO.out.frozenAt (k * 3)
      have f1 := HO.out.frozenAt (k * 3 + 1)
      have f2 := HO.out.frozenAt (k * 3 + 2)
      have HS := Lib.hid ((((HO.out.stored (k * 3) (.int .u8 ((k0 + 3 * (k : Int)) % 256))).1.stored (k * 3 + 1) (.int .i16 (IntKind.i16.wrap (k0 + 3 * (k : Int) + 1)))).1.stored (k * 3 + 2) (.int .i64 (k0 + 3 * (k : Int) + 1 + 1))).1)
      rw [mkn_step hlt] at HS
      have hlt2 : (k : Int) < (l.length : Int) := by omega
      have q0 : 0 ≤ k0 + 3 * (k : Int) := by omega
      generalize (fl (mkn k0) (List.range k) ++ fl nc (l.drop k))[k * 3] = y0 at x0
      generalize (fl (mkn k0) (List.range k) ++ fl nc (l.drop k))[k * 3 + 1] = y1 at x1
      generalize (fl (mkn k0) (List.range k) ++ fl nc (l.drop k))[k * 3 + 2] = y2 at x2
      clear hlen
      go_wp2
      go_roundw
      case rel => exact ⟨k + 1, by omega, by go_num, congrArg (Value.int .i64) (by omega), HS.out, ((hb.out.trans ButV.set).trans ButV.set).trans ButV.set⟩
      case measure => simp [intOf]; omega
    · obtain rfl : k = l.length := by omega
      go_wp2
      go_ret
      exact ⟨rfl, by simpa [fl, OwnN] using HO.out, hb.out⟩
theorem heldCountS_own (B : Nat) (v : Value) (n : Nat) (k0 : Int) (w : World) (h : OwnN (mkn k0) w B 126 3 v (List.range n)) (h0 : 0 ≤ k0) (h1 : k0 ≤ 1000000000000) (hm : n ≤ 1000000000) :
    Calls Try.prog 61 #[v, .int .i64 k0] w fun e w' => e = .returned (.int .i64 (k0 + 3 * (n : Int))) ∧ Below w.heap.size w w' := by
  obtain ⟨A, c, rfl, hc, hr⟩ := h.rd
  rw [List.length_range]
  have HR := Lib.hid hr
  clear h hr hc
  go_enter Try.func61, Try.ntmps61
  go_wp2
  go_loopw [1, 5] (fun kk i wr => ∃ k : Nat, k ≤ n ∧ i = .int .i64 k ∧ kk = .int .i64 (k0 + 3 * (k : Int)) ∧ Below w.heap.size w wr) (fun _ i _ => n - (intOf i).toNat)
  case atStart => exact ⟨0, Nat.zero_le _, rfl, by simp, Below.refl _ _⟩
  case round =>
    obtain ⟨k, hk, rfl, rfl, hb⟩ := hrel
    by_cases hlt : k < n
    · obtain ⟨g, off, rfl, hg, hC⟩ := HR.out.some (by rw [fl_length (mkn_length k0), List.length_range]; omega)
      have hX := (hC.below hb hg).el (mkn_length k0) (i := k) (by simpa using hlt)
      rw [show (List.range n)[k]! = k by rw [getB (by simpa using hlt)]; simp] at hX
      have x0 : wr.cell? ⟨g, off + k * 3, none⟩ = some (.int .u8 ((k0 + 3 * (k : Int)) % 256)) := hX 0 _ rfl
      have x1 : wr.cell? ⟨g, off + k * 3 + 1, none⟩ = some (.int .i16 (IntKind.i16.wrap (k0 + 3 * (k : Int) + 1))) := hX 1 _ rfl
      have x2 : wr.cell? ⟨g, off + k * 3 + 2, none⟩ = some (.int .i64 (k0 + 3 * (k : Int) + 1 + 1)) := hX 2 _ rfl
      have hlt2 : (k : Int) < (n : Int) := by omega
      have q0 : 0 ≤ k0 + 3 * (k : Int) := by omega
      clear hC hX
      go_wp2
      go_roundw
      case rel => exact ⟨k + 1, by omega, by go_num, congrArg (Value.int .i64) (by omega), hb⟩
      case measure => simp [intOf]; omega
    · obtain rfl : k = n := by omega
      go_wp2
      go_ret
      exact ⟨rfl, hb⟩
theorem infoNl (x : Ct) : (Try.prog.info? 126).map (·.size) = some (nc x).length := by kernel_rfl
theorem eqCount_refl (x : Ct) (w : World) : Calls Try.prog 109 #[.agg (nc x).toArray, .agg (nc x).toArray] w fun e w' => e = .returned (.bool true) ∧ Below w.heap.size w w' := by
  go_enter Try.func109, Try.ntmps109
  go_upto_region 1 with fail
  generalize hW : World.alloc _ _ = W
  have H0 : Below w.heap.size w W := by rw [← hW]; go_grown
  have r0 : rowOf W (w.heap.size) = some ((nc x).toArray) := (by (try rw [← hW]); simp only [rowOf_alloc, World.size_alloc, ↓reduceIte]; all_goals ((repeat' split) <;> first | omega | (exfalso; omega) | rfl))
  have r1 : rowOf W (w.heap.size + 1) = some ((nc x).toArray) := (by (try rw [← hW]); simp only [rowOf_alloc, World.size_alloc, ↓reduceIte]; all_goals ((repeat' split) <;> first | omega | (exfalso; omega) | rfl))
  clear hW
  have q0 : w.heap.size < w.heap.size + 1 := by omega
  have l0 : w.heap.size ≤ w.heap.size := Nat.le_refl _
  generalize w.heap.size + 1 = g1 at r1 q0 ⊢
  generalize h0 : w.heap.size = g0 at r0 q0 ⊢
  replace l0 : w.heap.size ≤ g0 := Nat.le_of_eq h0
  clear h0
  have b0 := rowOf_lt r0
  have b1 := rowOf_lt r1
  have H := Below.refl W.heap.size W
  have x0 : W.cell? ⟨g0, 0, none⟩ = some (.int .u8 x.b.k) := rowOf_cell r0 0
  have x1 : W.cell? ⟨g0, 1, none⟩ = some (.int .i16 x.b.y) := rowOf_cell r0 1
  have x2 : W.cell? ⟨g0, 2, none⟩ = some (.int .i64 x.n) := rowOf_cell r0 2
  have y0 : W.cell? ⟨g1, 0, none⟩ = some (.int .u8 x.b.k) := rowOf_cell r1 0
  have y1 : W.cell? ⟨g1, 1, none⟩ = some (.int .i16 x.b.y) := rowOf_cell r1 1
  have y2 : W.cell? ⟨g1, 2, none⟩ = some (.int .i64 x.n) := rowOf_cell r1 2
  go_wp2_with (go_at_call 73; with_reducible refine (eqBottle_refl x.b _).mono ?_; rintro e w' ⟨rfl, hb⟩; replace H := bstep H hb; clear hb; have hc := bcell H)
  go_ret
  exact ⟨rfl, bstep H0 H⟩
theorem eqCountS_refl (A A' : Option Addr) (c c' : Nat) (l : List Ct) (w : World) (h : RdA w A (fl nc l)) (h' : RdA w A' (fl nc l)) (hm : l.length ≤ 1000000000) :
    Calls Try.prog 59 #[.slice A l.length c, .slice A' l.length c'] w fun e w' => e = .returned (.bool true) ∧ Below w.heap.size w w' := by
  have HR := Lib.hid h
  have HR' := Lib.hid h'
  clear h h'
  go_enter Try.func59, Try.ntmps59
  go_wp2
  go_loopw [5] (fun i wr => ∃ k : Nat, k ≤ l.length ∧ i = .int .i64 k ∧ Below w.heap.size w wr) (fun i _ => l.length - (intOf i).toNat)
  case atStart => exact ⟨0, Nat.zero_le _, rfl, Below.refl _ _⟩
  case round =>
    obtain ⟨k, hk, rfl, hb⟩ := hrel
    by_cases hlt : k < l.length
    · obtain ⟨g, off, rfl, hg, hC⟩ := HR.out.some (by rw [fl_length nc_length]; omega)
      obtain ⟨g', off', rfl, hg', hC'⟩ := HR'.out.some (by rw [fl_length nc_length]; omega)
      have HX := Lib.hid ((hC.below hb hg).el nc_length hlt)
      have HX' := Lib.hid ((hC'.below hb hg').el nc_length hlt)
      have HG := Lib.hid (Nat.lt_of_lt_of_le hg hb.size)
      have HG' := Lib.hid (Nat.lt_of_lt_of_le hg' hb.size)
      have hlt2 : (k : Int) < (l.length : Int) := by omega
      clear hC hC' HR HR'
      generalize l[k]! = x at HX HX'
      go_upto_region 6 with fail
      have H := Below.refl wr.heap.size wr
      refine g_start 10 rfl (by kernel_rfl) ?_
      (refine g_quiet 0 (by kernel_rfl) rfl (fun K hK => ?_); first | ((first | (refine qB_CAtK H rfl _ _ rfl _ _ rfl (nc x) HX.out HG.out _ Try.underlying126 rfl (infoNl x) (hK _ ?_)) | (refine qB_CAtK H rfl _ _ rfl _ _ rfl (nc x) HX'.out HG'.out _ Try.underlying126 rfl (infoNl x) (hK _ ?_))); clear hK K) | (go_simp; first | (refine hK _ ?_; clear hK K) | (apply Exists.intro; refine ⟨fun _ => ?_, hK _ ?_⟩; (first | (go_at_call 109 <;> exact eqCount_refl x _)); clear hK K)))
      (refine g_quiet 1 (by kernel_rfl) rfl (fun K hK => ?_); first | ((first | (refine qB_CAtK H rfl _ _ rfl _ _ rfl (nc x) HX.out HG.out _ Try.underlying126 rfl (infoNl x) (hK _ ?_)) | (refine qB_CAtK H rfl _ _ rfl _ _ rfl (nc x) HX'.out HG'.out _ Try.underlying126 rfl (infoNl x) (hK _ ?_))); clear hK K) | (go_simp; first | (refine hK _ ?_; clear hK K) | (apply Exists.intro; refine ⟨fun _ => ?_, hK _ ?_⟩; (first | (go_at_call 109 <;> exact eqCount_refl x _)); clear hK K)))
      (refine g_quiet 2 (by kernel_rfl) rfl (fun K hK => ?_); first | ((first | (refine qB_CAtK H rfl _ _ rfl _ _ rfl (nc x) HX.out HG.out _ Try.underlying126 rfl (infoNl x) (hK _ ?_)) | (refine qB_CAtK H rfl _ _ rfl _ _ rfl (nc x) HX'.out HG'.out _ Try.underlying126 rfl (infoNl x) (hK _ ?_))); clear hK K) | (go_simp; first | (refine hK _ ?_; clear hK K) | (apply Exists.intro; refine ⟨fun _ => ?_, hK _ ?_⟩; (first | (go_at_call 109 <;> exact eqCount_refl x _)); clear hK K)))
      (refine g_quiet 3 (by kernel_rfl) rfl (fun K hK => ?_); first | ((first | (refine qB_CAtK H rfl _ _ rfl _ _ rfl (nc x) HX.out HG.out _ Try.underlying126 rfl (infoNl x) (hK _ ?_)) | (refine qB_CAtK H rfl _ _ rfl _ _ rfl (nc x) HX'.out HG'.out _ Try.underlying126 rfl (infoNl x) (hK _ ?_))); clear hK K) | (go_simp; first | (refine hK _ ?_; clear hK K) | (apply Exists.intro; refine ⟨fun _ => ?_, hK _ ?_⟩; (first | (go_at_call 109 <;> exact eqCount_refl x _)); clear hK K)))
      (refine g_quiet 4 (by kernel_rfl) rfl (fun K hK => ?_); first | ((first | (refine qB_CAtK H rfl _ _ rfl _ _ rfl (nc x) HX.out HG.out _ Try.underlying126 rfl (infoNl x) (hK _ ?_)) | (refine qB_CAtK H rfl _ _ rfl _ _ rfl (nc x) HX'.out HG'.out _ Try.underlying126 rfl (infoNl x) (hK _ ?_))); clear hK K) | (go_simp; first | (refine hK _ ?_; clear hK K) | (apply Exists.intro; refine ⟨fun _ => ?_, hK _ ?_⟩; (first | (go_at_call 109 <;> exact eqCount_refl x _)); clear hK K)))
      (refine g_quiet 5 (by kernel_rfl) rfl (fun K hK => ?_); first | ((first | (refine qB_CAtK H rfl _ _ rfl _ _ rfl (nc x) HX.out HG.out _ Try.underlying126 rfl (infoNl x) (hK _ ?_)) | (refine qB_CAtK H rfl _ _ rfl _ _ rfl (nc x) HX'.out HG'.out _ Try.underlying126 rfl (infoNl x) (hK _ ?_))); clear hK K) | (go_simp; first | (refine hK _ ?_; clear hK K) | (apply Exists.intro; refine ⟨fun _ => ?_, hK _ ?_⟩; (first | (go_at_call 109 <;> exact eqCount_refl x _)); clear hK K)))
      (refine g_quiet 6 (by kernel_rfl) rfl (fun K hK => ?_); first | ((first | (refine qB_CAtK H rfl _ _ rfl _ _ rfl (nc x) HX.out HG.out _ Try.underlying126 rfl (infoNl x) (hK _ ?_)) | (refine qB_CAtK H rfl _ _ rfl _ _ rfl (nc x) HX'.out HG'.out _ Try.underlying126 rfl (infoNl x) (hK _ ?_))); clear hK K) | (go_simp; first | (refine hK _ ?_; clear hK K) | (apply Exists.intro; refine ⟨fun _ => ?_, hK _ ?_⟩; (first | (go_at_call 109 <;> exact eqCount_refl x _)); clear hK K)))
      (refine g_quiet 7 (by kernel_rfl) rfl (fun K hK => ?_); first | ((first | (refine qB_CAtK H rfl _ _ rfl _ _ rfl (nc x) HX.out HG.out _ Try.underlying126 rfl (infoNl x) (hK _ ?_)) | (refine qB_CAtK H rfl _ _ rfl _ _ rfl (nc x) HX'.out HG'.out _ Try.underlying126 rfl (infoNl x) (hK _ ?_))); clear hK K) | (go_simp; first | (refine hK _ ?_; clear hK K) | (apply Exists.intro; refine ⟨fun _ => ?_, hK _ ?_⟩; (first | (go_at_call 109 <;> exact eqCount_refl x _)); clear hK K)))
      (refine g_quiet 8 (by kernel_rfl) rfl (fun K hK => ?_); first | ((first | (refine qB_CAtK H rfl _ _ rfl _ _ rfl (nc x) HX.out HG.out _ Try.underlying126 rfl (infoNl x) (hK _ ?_)) | (refine qB_CAtK H rfl _ _ rfl _ _ rfl (nc x) HX'.out HG'.out _ Try.underlying126 rfl (infoNl x) (hK _ ?_))); clear hK K) | (go_simp; first | (refine hK _ ?_; clear hK K) | (apply Exists.intro; refine ⟨fun _ => ?_, hK _ ?_⟩; (first | (go_at_call 109 <;> exact eqCount_refl x _)); clear hK K)))
      (refine g_quiet 9 (by kernel_rfl) rfl (fun K hK => ?_); first | ((first | (refine qB_CAtK H rfl _ _ rfl _ _ rfl (nc x) HX.out HG.out _ Try.underlying126 rfl (infoNl x) (hK _ ?_)) | (refine qB_CAtK H rfl _ _ rfl _ _ rfl (nc x) HX'.out HG'.out _ Try.underlying126 rfl (infoNl x) (hK _ ?_))); clear hK K) | (go_simp; first | (refine hK _ ?_; clear hK K) | (apply Exists.intro; refine ⟨fun _ => ?_, hK _ ?_⟩; (first | (go_at_call 109 <;> exact eqCount_refl x _)); clear hK K)))
      refine g_done (by kernel_rfl) ?_
      rintro w1 hw1 -
      go_wp2
      go_roundw
      case rel => exact ⟨k + 1, by omega, by go_num, bstep hb hw1⟩
      case measure => simp [intOf]; omega
    · obtain rfl : k = l.length := by omega
      go_wp2
      go_ret
      exact ⟨rfl, hb⟩
theorem eqCountS_own {B B' : Nat} {v v' : Value} (l : List Ct) (w : World) (h : OwnN nc w B 126 3 v l) (h' : OwnN nc w B' 126 3 v' l) (hm : l.length ≤ 1000000000) :
    Calls Try.prog 59 #[v, v'] w fun e w' => e = .returned (.bool true) ∧ Below w.heap.size w w' := by
  obtain ⟨A, c, rfl, _, hr⟩ := h.rd
  obtain ⟨A', c', rfl, _, hr'⟩ := h'.rd
  exact eqCountS_refl A A' c c' l w hr hr' hm
end Go.Proofs.Ytnhpgahapjjjbaa
