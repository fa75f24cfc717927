/- Contracts of UsefulIn: how many bottles of a crate an order can use. -/
import Derived.Test.YtnhpgahapjjjbaaOrder
import Derived.Test.YtnhpgahapjjjbaaCount
import Derived.Test.YtnhpgahapjjjbaaOwn
import Derived.Test.YtnhpgahapjjjbaaDrawn
namespace Go.Proofs.Ytnhpgahapjjjbaa
open Go.RowKit
set_option linter.unusedVariables false
set_option linter.unusedSimpArgs false
set_option maxRecDepth 100000
set_option maxHeartbeats 1000000
def use1 (c : Cr) (x : Wt) : Int := min x.n (cntC c x.b)
def useW (c : Cr) (l : List Wt) : Int := (l.map (use1 c)).sum
theorem useW_step {c : Cr} {l : List Wt} {k : Nat} (hk : k < l.length) : useW c (l.take (k + 1)) = useW c (l.take k) + use1 c l[k]! := by
  unfold useW
  rw [List.take_succ_eq_append_getElem hk, getB hk, List.map_append, List.sum_append]
  simp
theorem cntC_le (c : Cr) (b : Bt) : cntC c b ≤ 12 := cntK_le c b 12
theorem useW_le (c : Cr) : ∀ l : List Wt, -(32768 * (l.length : Int)) ≤ useW c l ∧ useW c l ≤ 32768 * (l.length : Int)
  | [] => by simp [useW]
  | x :: l => by
    have h := useW_le c l
    have hx := x.hn
    have hc := cntC_le c x.b
    have e : useW c (x :: l) = use1 c x + useW c l := by simp [useW]
    rw [e, List.length_cons]
    unfold use1
    omega
def usefulR (c : Cr) (l : List Wt) : Int × Int := if (c.ok && ordOk l) = true then (useW c l, 0) else (0, 1)
section
variable {P : Program} {ops : Array Oper} {W : World}
/-- A step that yields a value and lays something new that is known. -/
theorem found_val {P : Program} {W w w' : World} {γ : Fact} {u : Value} {k : Value → Fact → Prop} {Φ : World → Prop} (hΦ : ∀ w w', Φ w → BelowOf w w' → Φ w') (H : Below W.heap.size W w) (hγ : γ.p w) (hb : Below w.heap.size w w') (hv : Φ w')
    (h : k u (γ.and Φ hΦ)) : gUpon (CF W) P k (.ok (.value u) w') := ⟨γ.and Φ hΦ, ⟨bstep H hb, γ.s _ _ hγ hb, hv⟩, h⟩
end
attribute [local go_sem high] eqB
theorem l02Has_any (gl off : Nat) (c : Cr) (b : Bt) (w : World) (hC : CAt w gl off (cc c)) (hb0 : gl < w.heap.size) :
    Calls Try.prog 124 #[.pointer (some ⟨gl, off, none⟩), bv b] w fun e w' => e = .returned (.int .i64 (cntC c b)) ∧ Below w.heap.size w w' := by
  have hu := Try.underlying26
  go_enter Try.func124, Try.ntmps124
  go_upto_region 1 with fail
  generalize hW : World.alloc _ _ = W
  have H0 : Below w.heap.size w W := by rw [← hW]; go_grown
  have r0 : rowOf W (w.heap.size) = some (#[.int .u8 b.k, .int .i16 b.y]) := (by (try rw [← hW]); simp only [rowOf_alloc, World.size_alloc, ↓reduceIte]; all_goals ((repeat' split) <;> first | omega | (exfalso; omega) | rfl))
  clear hW
  have l0 : w.heap.size ≤ w.heap.size := Nat.le_refl _
  generalize h0 : w.heap.size = g0 at r0 ⊢
  replace l0 : w.heap.size ≤ g0 := Nat.le_of_eq h0
  clear h0
  have b0 := rowOf_lt r0
  have H := Below.refl W.heap.size W
  have HC := Lib.hid (⟨hC.below H0 hb0, Nat.lt_of_lt_of_le hb0 H0.size⟩ : CAt W gl off (cc c) ∧ gl < W.heap.size)
  clear hC hb0
  go_wp2
  go_loopw [5, 6] (fun n i wr => ∃ j : Nat, j ≤ 12 ∧ i = .int .i64 j ∧ n = .int .i64 (cntK c b j) ∧ Hid (Below W.heap.size W wr)) (fun _ i _ => 12 - (intOf i).toNat)
  case atStart => exact ⟨0, Nat.zero_le _, rfl, by simp [cntK], H⟩
  case round =>
    clear H
    obtain ⟨j, hj, rfl, rfl, HW⟩ := hrel
    by_cases hlt : j < 12
    · have hjl : j < c.toList.length := by rw [Vector.length_toList]; exact hlt
      have HY := Lib.hid (@cntK_yes c b j hlt)
      have HN := Lib.hid (@cntK_no c b j hlt)
      have hcj := cntK_le c b j
      have R0 := row_kept r0 HW.out
      have y0 : wr.cell? ⟨g0, 0, none⟩ = some (.int .u8 b.k) := rowOf_cell R0 0
      have y1 : wr.cell? ⟨g0, 1, none⟩ = some (.int .i16 b.y) := rowOf_cell R0 1
      have x0 : wr.cell? ⟨gl, off + j * 2, none⟩ = some (.int .u8 (rB c.toList j).k) := (HC.out.1.below HW.out HC.out.2).bot0 hjl
      have x1 : wr.cell? ⟨gl, off + j * 2 + 1, none⟩ = some (.int .i16 (rB c.toList j).y) := (HC.out.1.below HW.out HC.out.2).bot1 hjl
      have hj2 : (j : Int) < 12 := by omega
      clear hjl R0
      generalize rB c.toList j = x at x0 x1 HY HN
      generalize cntK c b j = m at HY HN hcj ⊢
      go_upto_region 5 with fail
      cases e1 : x.like b with
      | true =>
        have e2 : (x.k == b.k && x.y == b.y) = true := e1
        have HY' := Lib.hid (HY.out e1)
        clear e1 HN HY
        go_quiet (fail)
        have hq := bdrewN (Below.refl wr.heap.size wr) nq
        generalize wr.drewN nq = wq at hq ⊢
        go_wp2
        go_roundw
        case rel => exact ⟨j + 1, by omega, by go_num, by rw [HY'.out]; exact congrArg (Value.int .i64) (by omega), bstep HW.out hq⟩
        case measure => simp [intOf]; omega
      | false =>
        have e2 : (x.k == b.k && x.y == b.y) = false := e1
        have HN' := Lib.hid (HN.out e1)
        clear e1 HN HY
        go_quiet (fail)
        have hq := bdrewN (Below.refl wr.heap.size wr) nq
        generalize wr.drewN nq = wq at hq ⊢
        go_wp2
        go_roundw
        case rel => exact ⟨j + 1, by omega, by go_num, by rw [HN'.out], bstep HW.out hq⟩
        case measure => simp [intOf]; omega
    · obtain rfl : j = 12 := by omega
      go_wp2
      go_ret
      exact ⟨rfl, bstep H0 HW.out⟩
theorem l00Min_any (a b : Int) (w : World) : Calls Try.prog 125 #[.int .i64 a, .int .i64 b] w fun e w' => e = .returned (.int .i64 (min a b)) ∧ w = w' := by
  rcases (by omega : a < b ∨ b ≤ a) with h | h
  · have HF := Lib.hid (show min a b = a by omega)
    go_enter Try.func125, Try.ntmps125
    go_wp2
    go_ret
    exact ⟨by rw [HF.out]; rfl, rfl⟩
  · have HF := Lib.hid (show min a b = b by omega)
    have h2 : ¬ a < b := by omega
    go_enter Try.func125, Try.ntmps125
    go_wp2
    go_ret
    exact ⟨by rw [HF.out]; rfl, rfl⟩
attribute [local go_sem] Oper.qB
theorem l02Useful_any (gc oc b off c0 : Nat) (c : Cr) (l : List Wt) (w : World) (hX : CAt w gc oc (cc c)) (hb0 : gc < w.heap.size) (hC : CAt w b off (fl wc l)) (hb1 : b < w.heap.size) (hn : l.length ≤ 1000000) :
    Calls Try.prog 83 #[.pointer (some ⟨gc, oc, none⟩), .slice (some ⟨b, off, none⟩) l.length c0] w fun e w' => e = .returned (.int .i64 (useW c l)) ∧ Below w.heap.size w w' := by
  have HC := Lib.hid (⟨hC, hb1⟩ : _ ∧ _)
  have HC0 := Lib.hid (⟨hX, hb0⟩ : _ ∧ _)
  clear hC hb1 hX hb0
  go_enter Try.func83, Try.ntmps83
  go_wp2
  go_loopw [5, 6] (fun s i wr => ∃ k : Nat, k ≤ l.length ∧ i = .int .i64 k ∧ s = .int .i64 (useW c (l.take k)) ∧ Below w.heap.size w wr) (fun _ i _ => l.length - (intOf i).toNat)
  case atStart => exact ⟨0, Nat.zero_le _, rfl, by simp [useW], Below.refl _ _⟩
  case round =>
    obtain ⟨k, hk, rfl, rfl, hb⟩ := hrel
    by_cases hlt : k < l.length
    · have HX := Lib.hid ((HC.out.1.below hb HC.out.2).el wc_length hlt)
      have HW := Lib.hid (Nat.lt_of_lt_of_le HC.out.2 hb.size)
      have HX0 := Lib.hid (⟨HC0.out.1.below hb HC0.out.2, Nat.lt_of_lt_of_le HC0.out.2 hb.size⟩ : CAt wr gc oc (cc c) ∧ gc < wr.heap.size)
      have HL := Lib.hid (@useW_step c l k hlt)
      have hs := useW_le c (l.take k)
      have hcl : (l.take k).length ≤ k := by simp; omega
      have hlt2 : (k : Int) < (l.length : Int) := by omega
      generalize l[k]! = x at HX HL
      generalize useW c (l.take k) = s at HL hs ⊢
      have hs1 : -32768000000 ≤ s := by omega
      have hs2 : s ≤ 32768000000 := by omega
      have hxn := x.hn
      have hxc := cntC_le c x.b
      have hwx : IntKind.i64.wrap x.n = x.n := by rw [IntKind.wrap_i64]; omega
      have x0 := cell_regrown (HX.out 0 _ rfl)
      have x1 := cell_regrown (HX.out 1 _ rfl)
      have x2 := cell_regrown (HX.out 2 _ rfl)
      rw [Nat.add_zero] at x0
      have hbw := HW.out
      go_upto_region 5 with fail
      have H := Below.refl wr.heap.size wr
      have hmin : -32768 ≤ min x.n (cntC c x.b : Int) ∧ min x.n (cntC c x.b : Int) ≤ 12 := by omega
      have hMin := fun W => below_of_same (l00Min_any x.n (cntC c x.b : Int) W)
      have HM : Hid (use1 c x = min x.n (cntC c x.b)) := rfl
      refine wp_region_qB (by kernel_rfl) (by kernel_rfl) ?_
      (repeat (first | fail | (apply qB_step; intro K hK; go_simp; first | (refine hK _ ?_; clear hK K) | (apply Exists.intro; refine ⟨fun _ => ?_, hK _ ?_⟩; (first | (go_at_call 124 <;> exact l02Has_any gc oc c x.b _ (HX0.out.1.below (below_regrown _ _ _) HX0.out.2) (Nat.lt_of_lt_of_le HX0.out.2 (below_regrown _ _ _).size)) | (go_at_call 125; with_reducible exact hMin _)); clear hK K))))
      refine qB_nil ?_
      intro w1 hw1
      replace H := bstep H hw1
      clear hw1
      go_wp2
      go_roundw
      case rel => exact ⟨k + 1, by omega, by go_num, by rw [HL.out, HM.out]; exact congrArg (Value.int .i64) (by rw [IntKind.wrap_i64]; omega), bstep hb H⟩
      case measure => simp [intOf]; omega
    · obtain rfl : k = l.length := by omega
      rw [List.take_length]
      go_wp2
      go_ret
      exact ⟨rfl, hb⟩
attribute [local go_sem] fold_cc cc_len
theorem useful_any (b off c0 : Nat) (c : Cr) (l : List Wt) (w : World) (hC : CAt w b off (fl wc l)) (hb1 : b < w.heap.size) (hn : l.length ≤ 1000000) :
    Calls Try.prog 86 #[cv c, .slice (some ⟨b, off, none⟩) l.length c0] w fun e w' => e = .returned (.int .i64 (useW c l)) ∧ Below w.heap.size w w' := by
  go_enter Try.func86, Try.ntmps86
  go_upto_region 1 with fail
  generalize hW : World.alloc _ _ = W
  have H0 : Below w.heap.size w W := by rw [← hW]; go_grown
  have r0 : rowOf W (w.heap.size) = some ((cc c).toArray) := (by (try rw [← hW]); simp only [rowOf_alloc, World.size_alloc, ↓reduceIte]; all_goals ((repeat' split) <;> first | omega | (exfalso; omega) | rfl))
  clear hW
  have l0 : w.heap.size ≤ w.heap.size := Nat.le_refl _
  generalize h0 : w.heap.size = g0 at r0 ⊢
  replace l0 : w.heap.size ≤ g0 := Nat.le_of_eq h0
  clear h0
  have b0 := rowOf_lt r0
  have H := Below.refl W.heap.size W
  have HC := Lib.hid (⟨hC.below H0 hb1, Nat.lt_of_lt_of_le hb1 H0.size⟩ : CAt W b off (fl wc l) ∧ b < W.heap.size)
  clear hC hb1
  go_wp2
  go_loopw [5, 10] (fun s i wr => ∃ k : Nat, k ≤ l.length ∧ i = .int .i64 k ∧ s = .int .i64 (useW c (l.take k)) ∧ Below W.heap.size W wr) (fun _ i _ => l.length - (intOf i).toNat)
  case atStart => exact ⟨0, Nat.zero_le _, rfl, by simp [useW], H⟩
  case round =>
    clear H
    obtain ⟨k, hk, rfl, rfl, hb⟩ := hrel
    by_cases hlt : k < l.length
    · have HX := (HC.out.1.below hb HC.out.2).el wc_length hlt
      have R0 := row_kept r0 hb
      have HL := Lib.hid (@useW_step c l k hlt)
      have hs := useW_le c (l.take k)
      have hcl : (l.take k).length ≤ k := by simp; omega
      have hlt2 : (k : Int) < (l.length : Int) := by omega
      generalize l[k]! = x at HX HL
      generalize useW c (l.take k) = s at HL hs ⊢
      have hs1 : -32768000000 ≤ s := by omega
      have hs2 : s ≤ 32768000000 := by omega
      have hxn := x.hn
      have hxc := cntC_le c x.b
      have x0 : wr.cell? ⟨b, off + k * 3, none⟩ = some (.int .u8 x.b.k) := HX 0 _ rfl
      have x1 : wr.cell? ⟨b, off + k * 3 + 1, none⟩ = some (.int .i16 x.b.y) := HX 1 _ rfl
      have x2 : wr.cell? ⟨b, off + k * 3 + 2, none⟩ = some (.int .i16 x.n) := HX 2 _ rfl
      go_upto_region 5 with fail
      generalize hW1 : World.alloc _ _ = W1
      have hg : Below wr.heap.size wr W1 := by rw [← hW1]; go_grown
      have r4 : rowOf W1 wr.heap.size = some (wc x).toArray := by rw [← hW1, rowOf_alloc, if_pos rfl]; rfl
      have R1 := row_kept R0 hg
      have hb2 := Lib.hid (bstep hb hg)
      clear hW1 x0 x1 x2 hb hg R0 HX
      generalize wr.heap.size = g4 at r4 ⊢
      have z0 := cell_regrown (show W1.cell? ⟨g4, 0, none⟩ = some (.int .u8 x.b.k) from rowOf_cell r4 0)
      have z1 := cell_regrown (show W1.cell? ⟨g4, 1, none⟩ = some (.int .i16 x.b.y) from rowOf_cell r4 1)
      have z2 := cell_regrown (show W1.cell? ⟨g4, 2, none⟩ = some (.int .i16 x.n) from rowOf_cell r4 2)
      have hwx : IntKind.i64.wrap x.n = x.n := by rw [IntKind.wrap_i64]; omega
      have hmin : -32768 ≤ min x.n (cntC c x.b : Int) ∧ min x.n (cntC c x.b : Int) ≤ 12 := by omega
      have HM : Hid (use1 c x = min x.n (cntC c x.b)) := rfl
      have H := Below.refl W1.heap.size W1
      have hN : cntL [c] x.b = cntC c x.b := by simp [cntL]
      refine g_start 12 rfl (by kernel_rfl) ?_
      (refine g_quiet 0 (by kernel_rfl) rfl (fun K hK => ?_); first | ((first | (refine qB_rowK H rfl _ _ rfl _ rfl _ R1 _ Try.underlying28 rfl (infoC c) (hK _ ?_))); clear hK K) | (go_simp; first | (refine hK _ ?_; clear hK K) | (apply Exists.intro; refine ⟨fun _ => ?_, hK _ ?_⟩; (first | fail); clear hK K)))
      (refine g_quiet 1 (by kernel_rfl) rfl (fun K hK => ?_); first | ((first | (refine qB_rowK H rfl _ _ rfl _ rfl _ R1 _ Try.underlying28 rfl (infoC c) (hK _ ?_))); clear hK K) | (go_simp; first | (refine hK _ ?_; clear hK K) | (apply Exists.intro; refine ⟨fun _ => ?_, hK _ ?_⟩; (first | fail); clear hK K)))
      (refine g_quiet 2 (by kernel_rfl) rfl (fun K hK => ?_); first | ((first | (refine qB_rowK H rfl _ _ rfl _ rfl _ R1 _ Try.underlying28 rfl (infoC c) (hK _ ?_))); clear hK K) | (go_simp; first | (refine hK _ ?_; clear hK K) | (apply Exists.intro; refine ⟨fun _ => ?_, hK _ ?_⟩; (first | fail); clear hK K)))
      (refine g_quiet 3 (by kernel_rfl) rfl (fun K hK => ?_); first | ((first | (refine qB_rowK H rfl _ _ rfl _ rfl _ R1 _ Try.underlying28 rfl (infoC c) (hK _ ?_))); clear hK K) | (go_simp; first | (refine hK _ ?_; clear hK K) | (apply Exists.intro; refine ⟨fun _ => ?_, hK _ ?_⟩; (first | fail); clear hK K)))
      (refine g_quiet 4 (by kernel_rfl) rfl (fun K hK => ?_); first | ((first | (refine qB_rowK H rfl _ _ rfl _ rfl _ R1 _ Try.underlying28 rfl (infoC c) (hK _ ?_))); clear hK K) | (go_simp; first | (refine hK _ ?_; clear hK K) | (apply Exists.intro; refine ⟨fun _ => ?_, hK _ ?_⟩; (first | fail); clear hK K)))
      (refine g_quiet 6 (by kernel_rfl) rfl (fun K hK => ?_); first | ((first | (refine qB_rowK H rfl _ _ rfl _ rfl _ R1 _ Try.underlying28 rfl (infoC c) (hK _ ?_))); clear hK K) | (go_simp; first | (refine hK _ ?_; clear hK K) | (apply Exists.intro; refine ⟨fun _ => ?_, hK _ ?_⟩; (first | fail); clear hK K)))
      (refine g_quiet 7 (by kernel_rfl) rfl (fun K hK => ?_); first | ((first | (refine qB_rowK H rfl _ _ rfl _ rfl _ R1 _ Try.underlying28 rfl (infoC c) (hK _ ?_))); clear hK K) | (go_simp; first | (refine hK _ ?_; clear hK K) | (apply Exists.intro; refine ⟨fun _ => ?_, hK _ ?_⟩; (first | fail); clear hK K)))
      refine g_alone 5 (by kernel_rfl) rfl rfl (fun K hK wx hwx hfx => ?_)
      go_simp
      have hfz : Lies cc (wx.alloc (.cells (cc c).toArray 28)) wx.heap.size [c] := ⟨by rw [fl_one]; exact CAt.of_row (by rw [rowOf_alloc, if_pos rfl]), by simp⟩
      refine found_val (Φ := fun w => Lies cc w wx.heap.size [c]) (fun w w' h hb => h.below hb) hwx hfx ((Below.refl _ wx).alloc (Nat.le_refl _) _) hfz (hK _ _ ?_)
      clear hfx hwx hfz hK K
      generalize wx.heap.size = g6
      refine g_alone 8 (by kernel_rfl) rfl rfl (fun K hK wx hwx hfx => ?_)
      have hfy := hfx
      obtain ⟨-, K1⟩ := hfy
      go_simp
      refine plain_call hwx hfx (countOf_rd _ 1 [c] x.b _ K1.rd (by simp)) (hK _ _ ?_)
      clear hfx hwx hK K
      rw [hN]
      (refine g_quiet 9 (by kernel_rfl) rfl (fun K hK => ?_); first | ((first | fail); clear hK K) | (go_simp; first | (refine hK _ ?_; clear hK K) | (apply Exists.intro; refine ⟨fun _ => ?_, hK _ ?_⟩; (first | fail); clear hK K)))
      (refine g_quiet 10 (by kernel_rfl) rfl (fun K hK => ?_); first | ((first | fail); clear hK K) | (go_simp; first | (refine hK _ ?_; clear hK K) | (apply Exists.intro; refine ⟨fun _ => ?_, hK _ ?_⟩; (first | fail); clear hK K)))
      (refine g_quiet 11 (by kernel_rfl) rfl (fun K hK => ?_); first | ((first | fail); clear hK K) | (go_simp; first | (refine hK _ ?_; clear hK K) | (apply Exists.intro; refine ⟨fun _ => ?_, hK _ ?_⟩; (first | fail); clear hK K)))
      refine g_done (by kernel_rfl) ?_
      rintro w2 hw2 -
      have HB := Lib.hid (bstep hb2.out hw2)
      go_wp2
      go_roundw
      case rel => exact ⟨k + 1, by omega, by go_num, by rw [HL.out, HM.out]; exact congrArg (Value.int .i64) (by rw [IntKind.wrap_i64]; omega), HB.out⟩
      case measure => simp [intOf]; omega
    · obtain rfl : k = l.length := by omega
      rw [List.take_length]
      go_wp2
      go_ret
      exact ⟨rfl, bstep H0 hb⟩
end Go.Proofs.Ytnhpgahapjjjbaa
