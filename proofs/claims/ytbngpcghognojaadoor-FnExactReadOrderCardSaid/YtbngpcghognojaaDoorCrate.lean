/- Contracts of the functions that look at one crate. -/
import Derived.Test.YtbngpcghognojaaDoorRow
namespace Go.Proofs.YtbngpcghognojaaDoor
open Go.RowKit
set_option linter.unusedVariables false
set_option linter.unusedSimpArgs false
set_option maxRecDepth 100000
set_option maxHeartbeats 1000000

theorem l01Ok_any (g o : Nat) (c : Cr) (w : World) (hc : CAt w g o (cc c)) (hg : g < w.heap.size) : Calls Tryd.prog 34 #[.pointer (some ⟨g, o, none⟩)] w fun e w' => e = .returned (.bool c.ok) ∧ Below w.heap.size w w' := by
  have HC := Lib.hid hc
  clear hc
  have HL := Lib.hid (Vector.length_toList (xs := c))
  go_enter Tryd.func34, Tryd.ntmps34
  go_wp2
  go_loopw [3] (fun i wr => ∃ k : Nat, k ≤ 12 ∧ i = .int .i64 k ∧ Hid ((c.toList.take k).all Bt.fine = true) ∧ Below w.heap.size w wr) (fun i _ => 12 - (intOf i).toNat)
  case atStart => exact ⟨0, by omega, rfl, rfl, Below.refl _ _⟩
  case round =>
    obtain ⟨k, hk, rfl, H1, hb⟩ := hrel
    by_cases hlt : k < 12
    · have hr := HC.out.below hb hg
      have hkl : k < c.toList.length := by rw [HL.out]; exact hlt
      have x0 := hr.bot0 hkl
      have x1 := hr.bot1 hkl
      have H2 : Hid ((c.toList.take (k + 1)).all Bt.fine = (rB c.toList k).fine) := by
        show (c.toList.take (k + 1)).all Bt.fine = _
        rw [List.take_succ_eq_append_getElem hkl, List.all_append, H1.out, rB_lt hkl]
        simp
      have H3 : Hid ((rB c.toList k).fine = false → c.ok = false) := fun h => by
        unfold Cr.ok
        rw [List.all_eq_false]
        exact ⟨_, List.getElem_mem hkl, by rw [← rB_lt hkl, h]; simp⟩
      clear hr hkl
      generalize rB c.toList k = b at x0 x1 H2 H3
      by_cases e1 : b.em = true
      · go_wp2_with (go_at_call 58; refine (l01Free_any b _).mono ?_; rintro e w' ⟨rfl, hb1⟩)
        go_roundw
        case rel => exact ⟨k + 1, by omega, by go_num, H2.out.trans (by simp [Bt.fine, e1]), bstep hb hb1⟩
        case measure => simp [intOf]; omega
      · replace e1 : b.em = false := by simpa using e1
        by_cases e2 : b.ok = true
        · go_wp2_with (first | (go_at_call 58; refine (l01Free_any b _).mono ?_; rintro e w' ⟨rfl, hb1⟩; have x0' := (hb1.cell (World.block_lt_of_cell? _ _ x0)).trans x0; have x1' := (hb1.cell (World.block_lt_of_cell? _ _ x1)).trans x1) | (go_at_call 30; refine (l01Bottle_any b _).mono ?_; rintro e w' ⟨rfl, hb2⟩))
          go_roundw
          case rel => exact ⟨k + 1, by omega, by go_num, H2.out.trans (by simp [Bt.fine, e2]), bstep hb (bstep hb1 hb2)⟩
          case measure => simp [intOf]; omega
        · replace e2 : b.ok = false := by simpa using e2
          go_wp2_with (first | (go_at_call 58; refine (l01Free_any b _).mono ?_; rintro e w' ⟨rfl, hb1⟩; have x0' := (hb1.cell (World.block_lt_of_cell? _ _ x0)).trans x0; have x1' := (hb1.cell (World.block_lt_of_cell? _ _ x1)).trans x1) | (go_at_call 30; refine (l01Bottle_any b _).mono ?_; rintro e w' ⟨rfl, hb2⟩))
          go_ret
          exact ⟨ret_bool (H3.out (by simp [Bt.fine, e1, e2])).symm, bstep hb (bstep hb1 hb2)⟩
    · obtain rfl : k = 12 := by omega
      go_wp2
      go_ret
      exact ⟨ret_bool (by unfold Cr.ok; rw [← H1.out, List.take_of_length_le (by rw [HL.out]; exact Nat.le_refl _)]), hb⟩
theorem l01Ok_row {W w : World} {g : Nat} {c : Cr} (H : Below W.heap.size W w) (hr : rowOf W g = some (cc c).toArray) : Calls Tryd.prog 34 #[.pointer (some ⟨g, 0, none⟩)] w fun e w' => e = .returned (.bool c.ok) ∧ Below w.heap.size w w' :=
  l01Ok_any g 0 c w (CAt.of_row ((rowOf_below H (rowOf_lt hr)).trans hr)) (Nat.lt_of_lt_of_le (rowOf_lt hr) H.size)
attribute [local go_sem high] eqB
theorem ValidCrate1_any (b : Bt) (w : World) : Calls Tryd.prog 60 #[bv b] w fun e w' => e = .returned (.bool (!b.fine)) ∧ Below w.heap.size w w' := by
  have h := Tryd.underlying26
  have HE : Hid (b.em = (b.k == 0 && b.y == 0)) := rfl
  cases e1 : b.em with
  | true =>
    have e2 : (b.k == 0 && b.y == 0) = true := by rw [← HE.out]; exact e1
    have HF : Hid ((!b.fine) = false) := by simp [Hid, Bt.fine, e1]
    clear e1
    go_enter Tryd.func60, Tryd.ntmps60
    go_wp2
    go_ret
    exact ⟨ret_bool HF.out.symm, by go_grown⟩
  | false =>
    have e2 : (b.k == 0 && b.y == 0) = false := by rw [← HE.out]; exact e1
    have HF : Hid ((!b.fine) = !b.ok) := by simp [Hid, Bt.fine, e1]
    clear e1
    go_enter Tryd.func60, Tryd.ntmps60
    go_wp2_with (go_at_call 32; refine (ValidBottle_any b _).mono ?_; rintro e w' ⟨rfl, hb⟩)
    go_ret
    exact ⟨ret_bool HF.out.symm, bstepB ((Below.refl _ _).alloc (Nat.le_refl _) _) (by simp) hb⟩
end Go.Proofs.YtbngpcghognojaaDoor
