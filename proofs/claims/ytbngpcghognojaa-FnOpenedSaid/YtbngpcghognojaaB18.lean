/- Texts of the claim, joined (18 of 18): A2, OpF, Bytes. -/
import Derived.Test.YtbngpcghognojaaB1
import Derived.Test.YtbngpcghognojaaB12
import Derived.Test.YtbngpcghognojaaB15
import Derived.Test.YtbngpcghognojaaB17
namespace Go.Proofs.Ytbngpcghognojaa
open Go Go.RowKit
set_option linter.unusedVariables false
set_option linter.unusedSimpArgs false
set_option maxRecDepth 100000
set_option maxHeartbeats 4000000
attribute [local go_sem] Oper.qB
theorem l00Same_refl (A A' : Option Addr) (c c' : Nat) (l : List Int) (w : World) (h : RdA w A (vi l)) (h' : RdA w A' (vi l)) (hm : l.length ≤ 1000000000) :
    Calls Try.prog 49 #[.slice A l.length c, .slice A' l.length c'] w fun e w' => e = .returned (.bool true) ∧ Below w.heap.size w w' := by
  have HR := Lib.hid h
  have HR' := Lib.hid h'
  clear h h'
  go_enter Try.func49, Try.ntmps49
  go_wp2
  go_loopw [5] (fun i wr => ∃ k : Nat, k ≤ l.length ∧ i = .int .i64 k ∧ Below w.heap.size w wr) (fun i _ => l.length - (intOf i).toNat)
  case atStart => exact ⟨0, Nat.zero_le _, rfl, Below.refl _ _⟩
  case round =>
    obtain ⟨k, hk, rfl, hb⟩ := hrel
    by_cases hlt : k < l.length
    · obtain ⟨g, off, rfl, hg, hC⟩ := HR.out.some (by rw [vi_length]; omega)
      obtain ⟨g', off', rfl, hg', hC'⟩ := HR'.out.some (by rw [vi_length]; omega)
      have x0 := (hb.cell (p := ⟨g, off + k, none⟩) hg).trans (hC k _ (vi_at l k hlt))
      have x1 := (hb.cell (p := ⟨g', off' + k, none⟩) hg').trans (hC' k _ (vi_at l k hlt))
      clear hC hC'
      generalize l.getD k 0 = x at x0 x1
      go_wp2
      go_quiet (fail)
      go_wp2
      go_roundw
      case rel => exact ⟨k + 1, by omega, by go_num, bdrewN hb _⟩
      case measure => simp [intOf]; omega
    · obtain rfl : k = l.length := by omega
      go_wp2
      go_ret
      exact ⟨rfl, hb⟩
theorem A2Same_refl (A A' : Option Addr) (c c' : Nat) (l : List Int) (w : World) (h : RdA w A (vi l)) (h' : RdA w A' (vi l)) (hm : l.length ≤ 1000000000) :
    Calls Try.prog 15 #[.slice A l.length c, .slice A' l.length c'] w fun e w' => e = .returned (.bool true) ∧ Below w.heap.size w w' := by
  have HS := Lib.hid (l00Same_refl A A' c c' l w h h' hm)
  clear h h'
  go_enter Try.func15, Try.ntmps15
  go_wp2_with (go_at_call 49; refine HS.out.mono ?_; rintro e w1 ⟨rfl, hb⟩)
  go_ret
  exact ⟨rfl, hb⟩
theorem A2Has_any (A : Option Addr) (c n : Nat) (l : List Int) (x : Int) (w : World) (h : RdA w A (vi l)) (hn : l.length = n) (hm : n ≤ 1000000000) :
    Calls Try.prog 20 #[.slice A n c, .int .i64 x] w fun e w' => e = .returned (.bool (l.contains x)) ∧ w = w' := by
  have HS := Lib.hid (l00Has_rd A c n l x w h hn hm)
  clear h hn hm
  go_enter Try.func20, Try.ntmps20
  go_wp2_with (go_at_call 44; refine HS.out.mono ?_; rintro e w1 ⟨rfl, rfl⟩)
  go_ret
  exact ⟨congrArg (fun z => Ending.returned (Value.bool z)) (by simp), rfl⟩
theorem a2Long_no (A A' : Option Addr) (c c' n n' : Nat) (w : World) (h : n ≤ 3000) (h' : n' ≤ 3000) : Calls Try.prog 4 #[.slice A n c, .slice A' n' c'] w fun e w' => e = .returned (.bool false) ∧ w = w' := by
  have h1 : ¬ (3000 : Int) < (n : Int) := by omega
  have h2 : ¬ (3000 : Int) < (n' : Int) := by omega
  go_enter Try.func4, Try.ntmps4
  go_wp2
  go_ret
  exact ⟨by simp [h1, h2], rfl⟩
theorem a2Long_yes (A A' : Option Addr) (c c' n n' : Nat) (w : World) (h : ¬ (n ≤ 3000 ∧ n' ≤ 3000)) : Calls Try.prog 4 #[.slice A n c, .slice A' n' c'] w fun e w' => e = .returned (.bool true) ∧ w = w' := by
  by_cases hn : 3000 < n
  · have h1 : (3000 : Int) < (n : Int) := by omega
    go_enter Try.func4, Try.ntmps4
    go_wp2
    go_ret
    exact ⟨by simp [h1], rfl⟩
  · have h1 : ¬ (3000 : Int) < (n : Int) := by omega
    have h2 : (3000 : Int) < (n' : Int) := by omega
    go_enter Try.func4, Try.ntmps4
    go_wp2
    go_ret
    exact ⟨by simp [h1, h2], rfl⟩
attribute [local go_sem high] eqB
theorem A2SameBottles_refl (A A' : Option Addr) (c c' : Nat) (l : List Bt) (w : World) (h : RdA w A (fl bc l)) (h' : RdA w A' (fl bc l)) (hm : l.length ≤ 1000000000) :
    Calls Try.prog 25 #[.slice A l.length c, .slice A' l.length c'] w fun e w' => e = .returned (.bool true) ∧ Below w.heap.size w w' := by
  have hu := Try.underlying42
  have HR := Lib.hid h
  have HR' := Lib.hid h'
  clear h h'
  go_enter Try.func25, Try.ntmps25
  go_wp2
  go_loopw [5] (fun i wr => ∃ k : Nat, k ≤ l.length ∧ i = .int .i64 k ∧ Below w.heap.size w wr) (fun i _ => l.length - (intOf i).toNat)
  case atStart => exact ⟨0, Nat.zero_le _, rfl, Below.refl _ _⟩
  case round =>
    obtain ⟨k, hk, rfl, hb⟩ := hrel
    by_cases hlt : k < l.length
    · obtain ⟨g, off, rfl, hg, hC⟩ := HR.out.some (by rw [fl_length bc_length]; omega)
      obtain ⟨g', off', rfl, hg', hC'⟩ := HR'.out.some (by rw [fl_length bc_length]; omega)
      have HX := Lib.hid ((hC.below hb hg).el bc_length hlt)
      have HX' := Lib.hid ((hC'.below hb hg').el bc_length hlt)
      have HG := Lib.hid (Nat.lt_of_lt_of_le hg hb.size)
      have HG' := Lib.hid (Nat.lt_of_lt_of_le hg' hb.size)
      have hlt2 : (k : Int) < (l.length : Int) := by omega
      clear hC hC' HR HR'
      generalize l[k]! = x at HX HX'
      go_upto_region 6 with fail
      have H := Below.refl wr.heap.size wr
      refine g_start 9 rfl (by kernel_rfl) ?_
      (refine g_quiet 0 (by kernel_rfl) rfl (fun K hK => ?_); first | ((first | (refine qB_CAtK H rfl _ _ rfl _ _ rfl [.int .u8 x.k, .int .i16 x.y] HX.out HG.out _ Try.underlying42 rfl (sziBottle x) (hK _ ?_)) | (refine qB_CAtK H rfl _ _ rfl _ _ rfl [.int .u8 x.k, .int .i16 x.y] HX'.out HG'.out _ Try.underlying42 rfl (sziBottle x) (hK _ ?_))); clear hK K) | (go_simp; first | (refine hK _ ?_; clear hK K) | (apply Exists.intro; refine ⟨fun _ => ?_, hK _ ?_⟩; (first | fail); clear hK K)))
      (refine g_quiet 1 (by kernel_rfl) rfl (fun K hK => ?_); first | ((first | (refine qB_CAtK H rfl _ _ rfl _ _ rfl [.int .u8 x.k, .int .i16 x.y] HX.out HG.out _ Try.underlying42 rfl (sziBottle x) (hK _ ?_)) | (refine qB_CAtK H rfl _ _ rfl _ _ rfl [.int .u8 x.k, .int .i16 x.y] HX'.out HG'.out _ Try.underlying42 rfl (sziBottle x) (hK _ ?_))); clear hK K) | (go_simp; first | (refine hK _ ?_; clear hK K) | (apply Exists.intro; refine ⟨fun _ => ?_, hK _ ?_⟩; (first | fail); clear hK K)))
      (refine g_quiet 2 (by kernel_rfl) rfl (fun K hK => ?_); first | ((first | (refine qB_CAtK H rfl _ _ rfl _ _ rfl [.int .u8 x.k, .int .i16 x.y] HX.out HG.out _ Try.underlying42 rfl (sziBottle x) (hK _ ?_)) | (refine qB_CAtK H rfl _ _ rfl _ _ rfl [.int .u8 x.k, .int .i16 x.y] HX'.out HG'.out _ Try.underlying42 rfl (sziBottle x) (hK _ ?_))); clear hK K) | (go_simp; first | (refine hK _ ?_; clear hK K) | (apply Exists.intro; refine ⟨fun _ => ?_, hK _ ?_⟩; (first | fail); clear hK K)))
      (refine g_quiet 3 (by kernel_rfl) rfl (fun K hK => ?_); first | ((first | (refine qB_CAtK H rfl _ _ rfl _ _ rfl [.int .u8 x.k, .int .i16 x.y] HX.out HG.out _ Try.underlying42 rfl (sziBottle x) (hK _ ?_)) | (refine qB_CAtK H rfl _ _ rfl _ _ rfl [.int .u8 x.k, .int .i16 x.y] HX'.out HG'.out _ Try.underlying42 rfl (sziBottle x) (hK _ ?_))); clear hK K) | (go_simp; first | (refine hK _ ?_; clear hK K) | (apply Exists.intro; refine ⟨fun _ => ?_, hK _ ?_⟩; (first | fail); clear hK K)))
      (refine g_quiet 4 (by kernel_rfl) rfl (fun K hK => ?_); first | ((first | (refine qB_CAtK H rfl _ _ rfl _ _ rfl [.int .u8 x.k, .int .i16 x.y] HX.out HG.out _ Try.underlying42 rfl (sziBottle x) (hK _ ?_)) | (refine qB_CAtK H rfl _ _ rfl _ _ rfl [.int .u8 x.k, .int .i16 x.y] HX'.out HG'.out _ Try.underlying42 rfl (sziBottle x) (hK _ ?_))); clear hK K) | (go_simp; first | (refine hK _ ?_; clear hK K) | (apply Exists.intro; refine ⟨fun _ => ?_, hK _ ?_⟩; (first | fail); clear hK K)))
      (refine g_quiet 5 (by kernel_rfl) rfl (fun K hK => ?_); first | ((first | (refine qB_CAtK H rfl _ _ rfl _ _ rfl [.int .u8 x.k, .int .i16 x.y] HX.out HG.out _ Try.underlying42 rfl (sziBottle x) (hK _ ?_)) | (refine qB_CAtK H rfl _ _ rfl _ _ rfl [.int .u8 x.k, .int .i16 x.y] HX'.out HG'.out _ Try.underlying42 rfl (sziBottle x) (hK _ ?_))); clear hK K) | (go_simp; first | (refine hK _ ?_; clear hK K) | (apply Exists.intro; refine ⟨fun _ => ?_, hK _ ?_⟩; (first | fail); clear hK K)))
      (refine g_quiet 6 (by kernel_rfl) rfl (fun K hK => ?_); first | ((first | (refine qB_CAtK H rfl _ _ rfl _ _ rfl [.int .u8 x.k, .int .i16 x.y] HX.out HG.out _ Try.underlying42 rfl (sziBottle x) (hK _ ?_)) | (refine qB_CAtK H rfl _ _ rfl _ _ rfl [.int .u8 x.k, .int .i16 x.y] HX'.out HG'.out _ Try.underlying42 rfl (sziBottle x) (hK _ ?_))); clear hK K) | (go_simp; first | (refine hK _ ?_; clear hK K) | (apply Exists.intro; refine ⟨fun _ => ?_, hK _ ?_⟩; (first | fail); clear hK K)))
      (refine g_quiet 7 (by kernel_rfl) rfl (fun K hK => ?_); first | ((first | (refine qB_CAtK H rfl _ _ rfl _ _ rfl [.int .u8 x.k, .int .i16 x.y] HX.out HG.out _ Try.underlying42 rfl (sziBottle x) (hK _ ?_)) | (refine qB_CAtK H rfl _ _ rfl _ _ rfl [.int .u8 x.k, .int .i16 x.y] HX'.out HG'.out _ Try.underlying42 rfl (sziBottle x) (hK _ ?_))); clear hK K) | (go_simp; first | (refine hK _ ?_; clear hK K) | (apply Exists.intro; refine ⟨fun _ => ?_, hK _ ?_⟩; (first | fail); clear hK K)))
      (refine g_quiet 8 (by kernel_rfl) rfl (fun K hK => ?_); first | ((first | (refine qB_CAtK H rfl _ _ rfl _ _ rfl [.int .u8 x.k, .int .i16 x.y] HX.out HG.out _ Try.underlying42 rfl (sziBottle x) (hK _ ?_)) | (refine qB_CAtK H rfl _ _ rfl _ _ rfl [.int .u8 x.k, .int .i16 x.y] HX'.out HG'.out _ Try.underlying42 rfl (sziBottle x) (hK _ ?_))); clear hK K) | (go_simp; first | (refine hK _ ?_; clear hK K) | (apply Exists.intro; refine ⟨fun _ => ?_, hK _ ?_⟩; (first | fail); clear hK K)))
      refine g_done (by kernel_rfl) ?_
      rintro w1 hw1 -
      go_wp2
      go_roundw
      case rel => exact ⟨k + 1, by omega, by go_num, bstep hb hw1⟩
      case measure => simp [intOf]; omega
    · obtain rfl : k = l.length := by omega
      go_wp2
      go_ret
      exact ⟨rfl, hb⟩
theorem A2InCrates_any (A0 : Option Addr) (c0 : Nat) (l : List Cr) (b : Bt) (w : World) (hr : RdA w A0 (fl cc l)) (hn : l.length ≤ 1048576) :
    Calls Try.prog 26 #[.slice A0 l.length c0, bv b] w fun e w' => e = .returned (.int .i64 (cntL l b)) ∧ Below w.heap.size w w' := by
  have HR := Lib.hid hr
  clear hr
  go_enter Try.func26, Try.ntmps26
  go_upto_region 1 with fail
  generalize hW : World.alloc _ _ = W
  have H0 : Below w.heap.size w W := by rw [← hW]; go_grown
  have r0 : rowOf W (w.heap.size) = some (#[.int .u8 b.k, .int .i16 b.y]) := (by (try rw [← hW]); simp only [rowOf_alloc, World.size_alloc, ↓reduceIte]; all_goals ((repeat' split) <;> first | omega | (exfalso; omega) | rfl))
  clear hW
  have l0 : w.heap.size ≤ w.heap.size := Nat.le_refl _
  generalize h0 : w.heap.size = g0 at r0 ⊢
  replace l0 : w.heap.size ≤ g0 := Nat.le_of_eq h0
  clear h0
  have b0 := rowOf_lt r0
  have H := Below.refl W.heap.size W
  clear H
  go_wp2
  go_loopw [5, 6] (fun n i wr => ∃ k : Nat, k ≤ l.length ∧ i = .int .i64 k ∧ n = .int .i64 (cntL (l.take k) b) ∧ Below w.heap.size w wr ∧ Hid (Below W.heap.size W wr)) (fun _ i _ => l.length - (intOf i).toNat)
  case atStart => exact ⟨0, Nat.zero_le _, rfl, by simp [cntL], H0, Below.refl _ _⟩
  case round =>
    obtain ⟨k, hk, rfl, rfl, hb, HW⟩ := hrel
    by_cases hlt : k < l.length
    · obtain ⟨gl, off, rfl, hg, hC⟩ := HR.out.some (by rw [fl_length cc_length]; omega)
      have hX := (hC.below hb hg).el cc_length hlt
      have HL := Lib.hid (@cntL_step l b k hlt)
      have hcn := cntL_le (l.take k) b
      have hcl : (l.take k).length ≤ k := by simp; omega
      have hc12 := cntC_le l[k]! b
      have hlt2 : (k : Int) < (l.length : Int) := by omega
      have hgw := Nat.lt_of_lt_of_le hg hb.size
      have HHas : Hid (∀ W', Below wr.heap.size wr W' → Calls Try.prog 57 #[.pointer (some ⟨gl, off + k * 24, none⟩), bv b] W' fun e w' => e = .returned (.int .i64 (cntC l[k]! b)) ∧ Below W'.heap.size W' w') := fun W' hW => l02Has_any gl (off + k * 24) l[k]! b W' (hX.below hW hgw) (Nat.lt_of_lt_of_le hgw hW.size)
      have R0 := row_kept r0 HW.out
      clear hX hC
      generalize cntC l[k]! b = m at *
      generalize cntL (l.take k) b = n at HL hcn ⊢
      have hwn : IntKind.i64.wrap ((n : Int) + (m : Int)) = (n : Int) + (m : Int) := by rw [IntKind.wrap_i64]; omega
      go_upto_region 5 with fail
      have H := Below.refl wr.heap.size wr
      refine g_start 8 rfl (by kernel_rfl) ?_
      (refine g_quiet 0 (by kernel_rfl) rfl (fun K hK => ?_); first | ((first | (refine qB_rowK H rfl _ _ rfl _ rfl _ R0 _ Try.underlying42 rfl (infoB _ _) (hK _ ?_))); clear hK K) | (go_simp; first | (refine hK _ ?_; clear hK K) | (apply Exists.intro; refine ⟨fun _ => ?_, hK _ ?_⟩; (first | (go_at_call 57 <;> exact HHas.out _ (below_regrown _ _ _))); clear hK K)))
      (refine g_quiet 1 (by kernel_rfl) rfl (fun K hK => ?_); first | ((first | (refine qB_rowK H rfl _ _ rfl _ rfl _ R0 _ Try.underlying42 rfl (infoB _ _) (hK _ ?_))); clear hK K) | (go_simp; first | (refine hK _ ?_; clear hK K) | (apply Exists.intro; refine ⟨fun _ => ?_, hK _ ?_⟩; (first | (go_at_call 57 <;> exact HHas.out _ (below_regrown _ _ _))); clear hK K)))
      (refine g_quiet 2 (by kernel_rfl) rfl (fun K hK => ?_); first | ((first | (refine qB_rowK H rfl _ _ rfl _ rfl _ R0 _ Try.underlying42 rfl (infoB _ _) (hK _ ?_))); clear hK K) | (go_simp; first | (refine hK _ ?_; clear hK K) | (apply Exists.intro; refine ⟨fun _ => ?_, hK _ ?_⟩; (first | (go_at_call 57 <;> exact HHas.out _ (below_regrown _ _ _))); clear hK K)))
      (refine g_quiet 3 (by kernel_rfl) rfl (fun K hK => ?_); first | ((first | (refine qB_rowK H rfl _ _ rfl _ rfl _ R0 _ Try.underlying42 rfl (infoB _ _) (hK _ ?_))); clear hK K) | (go_simp; first | (refine hK _ ?_; clear hK K) | (apply Exists.intro; refine ⟨fun _ => ?_, hK _ ?_⟩; (first | (go_at_call 57 <;> exact HHas.out _ (below_regrown _ _ _))); clear hK K)))
      (refine g_quiet 4 (by kernel_rfl) rfl (fun K hK => ?_); first | ((first | (refine qB_rowK H rfl _ _ rfl _ rfl _ R0 _ Try.underlying42 rfl (infoB _ _) (hK _ ?_))); clear hK K) | (go_simp; first | (refine hK _ ?_; clear hK K) | (apply Exists.intro; refine ⟨fun _ => ?_, hK _ ?_⟩; (first | (go_at_call 57 <;> exact HHas.out _ (below_regrown _ _ _))); clear hK K)))
      (refine g_quiet 5 (by kernel_rfl) rfl (fun K hK => ?_); first | ((first | (refine qB_rowK H rfl _ _ rfl _ rfl _ R0 _ Try.underlying42 rfl (infoB _ _) (hK _ ?_))); clear hK K) | (go_simp; first | (refine hK _ ?_; clear hK K) | (apply Exists.intro; refine ⟨fun _ => ?_, hK _ ?_⟩; (first | (go_at_call 57 <;> exact HHas.out _ (below_regrown _ _ _))); clear hK K)))
      (refine g_quiet 6 (by kernel_rfl) rfl (fun K hK => ?_); first | ((first | (refine qB_rowK H rfl _ _ rfl _ rfl _ R0 _ Try.underlying42 rfl (infoB _ _) (hK _ ?_))); clear hK K) | (go_simp; first | (refine hK _ ?_; clear hK K) | (apply Exists.intro; refine ⟨fun _ => ?_, hK _ ?_⟩; (first | (go_at_call 57 <;> exact HHas.out _ (below_regrown _ _ _))); clear hK K)))
      (refine g_quiet 7 (by kernel_rfl) rfl (fun K hK => ?_); first | ((first | (refine qB_rowK H rfl _ _ rfl _ rfl _ R0 _ Try.underlying42 rfl (infoB _ _) (hK _ ?_))); clear hK K) | (go_simp; first | (refine hK _ ?_; clear hK K) | (apply Exists.intro; refine ⟨fun _ => ?_, hK _ ?_⟩; (first | (go_at_call 57 <;> exact HHas.out _ (below_regrown _ _ _))); clear hK K)))
      refine g_done (by kernel_rfl) ?_
      rintro w1 hw1 -
      go_wp2
      go_roundw
      case rel => exact ⟨k + 1, by omega, by go_num, by rw [HL.out]; first | rfl | (congr 1; omega), bstep hb hw1, bstep HW.out hw1⟩
      case measure => simp [intOf]; omega
    · obtain rfl : k = l.length := by omega
      rw [List.take_length]
      go_wp2
      go_ret
      exact ⟨rfl, hb⟩
end Go.Proofs.Ytbngpcghognojaa
namespace Go.Proofs.Ytbngpcghognojaa
open Go Go.RowKit
set_option linter.unusedVariables false
set_option linter.unusedSimpArgs false
set_option maxRecDepth 100000
set_option maxHeartbeats 1000000
structure Fine (lc : List Cr) (l : List Wt) : Prop where
  st : stackOk lc = true
  ok : ordOk l = true
  lk : lackL (cntL lc) l = []
  n5 : lc.length ≤ 5
  l4 : l.length ≤ 4
section
variable {lc : List Cr} {l : List Wt} {ks : List Int} (h : Fine lc l)
include h
theorem Fine.ask : askOk lc l = true := by simp [askOk, h.st, h.ok]
theorem Fine.fill : fillI lc l = 0 := by simp [fillI, h.ask, h.lk]
theorem Fine.few : fewR lc l = ((fewS lc l).1, 0) := by rw [fewR, if_pos h.fill]
theorem Fine.greedy : greedyR lc l = (finG lc l [], 0) := by rw [greedyR, if_pos h.fill]
theorem Fine.bound : boundR lc l = (bndK lc l l.length, 0) := by rw [boundR, if_pos h.fill]
theorem Fine.wanted : wantedR l = (sumW l, 0) := by rw [wantedR, if_pos h.ok]
theorem Fine.open0 (hk : ∀ x ∈ ks, 0 ≤ x ∧ x < lc.length) : openI lc l ks = 0 := by
  have : kin lc.length ks = true := by
    unfold kin
    rw [List.all_eq_true]
    intro x hx
    have := hk x hx
    simp [inR]
    omega
  simp [openI, h.ask, this]
theorem Fine.check (hk : ∀ x ∈ ks, 0 ≤ x ∧ x < lc.length) : checkR lc l ks = ((leftL lc l ks).isEmpty, 0) := by rw [checkR, if_pos (h.open0 hk)]; rfl
theorem Fine.lack (hk : ∀ x ∈ ks, 0 ≤ x ∧ x < lc.length) : lackR lc l ks = (leftL lc l ks, 0) := by rw [lackR, if_pos (h.open0 hk)]; rfl
theorem Fine.out (hk : ∀ x ∈ ks, 0 ≤ x ∧ x < lc.length) (hl : leftL lc l ks = []) : takeOR lc l ks = ((outL lc l ks).1, (outL lc l ks).2, 0) := by rw [takeOR, if_pos (h.open0 hk), if_pos hl]
theorem Fine.fillO : fillOR lc l = ((outL lc l (fewS lc l).1).1, packL (botsL l), 0) := by rw [fillOR, if_pos h.fill]
theorem Fine.sum0 : (((fewS lc l).1.length : Int) = 0) ↔ sumW l = 0 := by
  have h1 := few_nil h.lk h.ok
  have hn : ∀ x ∈ l, 1 ≤ x.n := fun x hx => (Wt.ok_n (ordOk_all h.ok x hx)).1
  constructor
  · intro q
    have : (fewS lc l).1 = [] := List.length_eq_zero_iff.1 (by omega)
    rw [h1.1 this]
    rfl
  · intro q
    have : l = [] := by
      cases l with
      | nil => rfl
      | cons x l =>
        have hx := hn x (by simp)
        have hl : ∀ (m : List Wt), (∀ y ∈ m, 1 ≤ y.n) → 0 ≤ (m.map Wt.n).sum := by
          intro m
          induction m with
          | nil => intro _; simp
          | cons y m ih => intro hm; have a1 := hm y (by simp); have a2 := ih fun z hz => hm z (by simp [hz]); simp only [List.map_cons, List.sum_cons]; omega
        have := hl l fun y hy => hn y (by simp [hy])
        simp only [sumW, List.map_cons, List.sum_cons] at q
        omega
    rw [h1.2 this]
    rfl
end
theorem fine_of (a b : List Int) : Fine (stackF a) (possL (stackF a) (ordF b (0, 0))) :=
  ⟨stackF_stk a, possL_ok (ordF_ok b _), possL_lack _ _, stackF_len a, Nat.le_trans (possL_le _ _) (ordF_len b _)⟩
/-- append(v, ys...), run: the numbers ys lie in a block. -/
theorem app_n (B : Nat) (w : World) (v : Value) (l ys : List Int) (g off m c : Nat) (hm : ys.length = m) (HO : OwnS iv w B 2 1 v l) (hr : CAt w g off (fl iv ys)) (hB : B ≤ w.heap.size) (hn : l.length + ys.length ≤ 100000000) (ty : TypeId) :
    ∃ v1 w1, (Builtin.append_ #[28, 28] ty #[v, .slice (some ⟨g, off, none⟩) m c]).run Try.prog w = .ok v1 w1 ∧ OwnS iv w1 B 2 1 v1 (l ++ ys) ∧ Below B w w1 := by
  subst hm
  obtain ⟨i0, hi, hzz⟩ := Option.map_eq_some_iff.1 info64
  simp only [Prod.mk.injEq] at hzz
  obtain ⟨hz0, hz1, hz2⟩ := hzz
  obtain ⟨v1, w1, hrun, hown, hg, hnil, -⟩ := run_append_own_at (P := Try.prog) w B 28 ty 2 i0 _ 1 8 Try.underlying28 hi hz0 hz1 hz2 rfl (by decide) v l.length (fl iv l) HO.1 ⟨g, off, none⟩ ys.length c (fl iv ys) (by rw [fl_length iv_length])
    (fun j u hj => by
      rw [show (⟨g, off, none⟩ : Addr).add j = ⟨g, off + j, none⟩ by simp [Addr.add]]
      exact hr j u hj) (by
      intro u hu
      rw [fl_iv] at hu
      simp only [vi, List.mem_map] at hu
      obtain ⟨x, _, rfl⟩ := hu
      rfl) (by simp only [maxLen]; omega) (by omega) hB
  have hb := (Below.refl B w).grown hg hB (fun k hk => own_base HO.1 k hk)
  have hO1 : w1.ownsRow B 2 1 v1 (l ++ ys).length (fl iv (l ++ ys)) := by rw [List.length_append, fl_append]; exact hown
  refine ⟨v1, w1, hrun, ⟨hO1, ?_⟩, hb⟩
  rcases hO1.2 with ⟨h0, _⟩ | ⟨g', cap', cur, hv, _⟩
  · obtain ⟨_, g0, cap0, rfl⟩ := HO
    have := (hnil.1 h0).1
    cases this
  · exact ⟨g', cap', hv⟩
theorem CAt_take {w : World} {g off k : Nat} {l : List Int} (h : CAt w g off (fl iv l)) : CAt w g off (fl iv (l.take k)) := by
  have := h.take k
  rwa [fl_iv, vi, ← List.map_take, ← vi, ← fl_iv] at this
theorem CAt_drop {w : World} {g off k : Nat} {l : List Int} (h : CAt w g off (fl iv l)) : CAt w g (off + k) (fl iv (l.drop k)) := by
  have := h.sub k
  rwa [fl_iv, vi, ← List.map_drop, ← vi, ← fl_iv] at this
end Go.Proofs.Ytbngpcghognojaa
namespace Go.Proofs.Ytbngpcghognojaa
open Go Go.RowKit Go.ChangeShapes Go.WideShapes Go.ChangeAt
set_option linter.unusedVariables false
set_option linter.unusedSimpArgs false
set_option maxRecDepth 100000
set_option maxHeartbeats 1000000
/-- A byte. -/
structure By where
  n : Int
  h : 0 ≤ n ∧ n ≤ 255
instance : Inhabited By := ⟨⟨0, by decide⟩⟩
def byc (x : By) : List Value := [.int .u8 x.n]
theorem byc_len (x : By) : (byc x).length = 1 := rfl
theorem fl_byc : ∀ l : List By, fl byc l = u8v (l.map By.n)
  | [] => rfl
  | x :: l => by
    rw [fl_cons, fl_byc l]
    rfl
theorem bounds_byte {k : Int} (h : IntKind.u8.wrap k = k) : 0 ≤ k ∧ k ≤ 255 := by
  rw [IntKind.wrap_u8] at h
  omega
theorem trod_byte {H : Type} {enc : TypeId × Value → H} {w : World} {base : Nat} {spare : Nat → Bool} {held : Bool} {n : Nat} {cs : List Value} {x : DataW H × List MemPlace} (h : DataW.trod enc Try.prog w base spare held n 5 cs = some x) : ∃ b : By, cs = byc b := by
  obtain ⟨d, m⟩ := x
  obtain ⟨y, e1, _, w1⟩ := DataW.trod_int Try.underlying5 h
  exact ⟨⟨y, bounds_u8 w1⟩, e1⟩
theorem read_bytes {H : Type} {enc : TypeId × Value → H} {w : World} {base : Nat} {spare : Nat → Bool} {held : Bool} {v : Value} {d : DataW H} {ps : List MemPlace} (hv : Value.okWide Try.prog w .any 0 22 v) (h : DataW.Trod enc Try.prog w base spare held 22 v d ps) :
    ∃ (A : Option Addr) (c : Nat) (l : List Int), v = .slice A l.length c ∧ l.length ≤ maxLen ∧ (RdA w A (u8v l) ∧ ∀ x ∈ l, 0 ≤ x ∧ x ≤ 255) := by
  obtain ⟨A, c, l, h1, h2, h3⟩ := read_slice Try.underlying22 (by kernel_rfl) (by decide) byc_len (fun n cs x h => trod_byte h) hv h
  refine ⟨A, c, l.map By.n, by rw [List.length_map]; exact h1, by rw [List.length_map]; exact h2, by rw [← fl_byc]; exact h3, fun x hx => ?_⟩
  obtain ⟨y, _, rfl⟩ := List.mem_map.1 hx
  exact y.h
end Go.Proofs.Ytbngpcghognojaa
