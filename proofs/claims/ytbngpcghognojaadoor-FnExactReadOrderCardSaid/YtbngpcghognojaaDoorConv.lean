/- Contracts of the laws' own conversions and comparisons of crates. -/
import Derived.Test.YtbngpcghognojaaDoorRow
namespace Go.Proofs.YtbngpcghognojaaDoor
open Go.RowKit
set_option linter.unusedVariables false
set_option linter.unusedSimpArgs false
set_option maxRecDepth 100000
set_option maxHeartbeats 1000000
theorem eqBottle_refl (b : Bt) (w : World) : Calls Tryd.prog 22 #[bv b, bv b] w fun e w' => e = .returned (.bool true) ∧ Below w.heap.size w w' := by
  have := eqBottle_any b b w
  rwa [show b.like b = true from Bt.like_iff.2 rfl] at this
theorem toCrate_any (c : Cr) (w : World) : Calls Tryd.prog 13 #[cv c] w fun e w' => e = .returned (cv c) ∧ Below w.heap.size w w' := by
  have HL := Lib.hid (Vector.length_toList (xs := c))
  go_enter Tryd.func13, Tryd.ntmps13
  go_wp2
  generalize hW : World.alloc _ _ = W
  have H0 : Below w.heap.size w W := by rw [← hW]; go_grown
  have r0 : rowOf W w.heap.size = some (cc c).toArray := (by (try rw [← hW]); simp only [rowOf_alloc, World.size_alloc, ↓reduceIte]; all_goals ((repeat' split) <;> first | omega | (exfalso; omega) | rfl))
  have r1 : rowOf W (w.heap.size + 1) = some (cc zC).toArray := (by (try rw [← hW]); simp only [rowOf_alloc, World.size_alloc, ↓reduceIte]; all_goals ((repeat' split) <;> first | omega | (exfalso; omega) | rfl))
  have r2 : rowOf W (w.heap.size + 1 + 1) = some (cc zC).toArray := (by (try rw [← hW]); simp only [rowOf_alloc, World.size_alloc, ↓reduceIte]; all_goals ((repeat' split) <;> first | omega | (exfalso; omega) | rfl))
  clear hW
  have q1 : w.heap.size < w.heap.size + 1 := by omega
  have q2 : w.heap.size + 1 < w.heap.size + 1 + 1 := by omega
  have l0 : w.heap.size ≤ w.heap.size := by omega
  generalize w.heap.size + 1 + 1 = g2 at r2 q2 ⊢
  generalize w.heap.size + 1 = g1 at r1 q1 q2 ⊢
  generalize h0 : w.heap.size = g0 at r0 q1 ⊢
  replace l0 : w.heap.size ≤ g0 := by omega
  clear h0
  go_loopw [4] (fun i wr => ∃ k : Nat, k ≤ 12 ∧ i = .int .i64 k ∧ Below w.heap.size w wr ∧ Hid (rowOf wr g0 = some (cc c).toArray ∧ rowOf wr g1 = some (cc zC).toArray ∧ rowOf wr g2 = some (bcs (pad c.toList k)).toArray)) (fun i _ => 12 - (intOf i).toNat)
  case atStart => exact ⟨0, by omega, rfl, H0, r0, r1, by rw [pad_zero]; exact r2⟩
  case round =>
    clear r0 r1 r2 H0
    obtain ⟨k, hk, rfl, hb, HR⟩ := hrel
    by_cases hlt : k < 12
    · have hkl : k < c.toList.length := by rw [HL.out]; exact hlt
      have hpl : k < (pad c.toList k).length := by rw [pad_length (by omega) hk]; exact hlt
      have x0 := row0 HR.out.1 hkl
      have x1 := row1 HR.out.1 hkl
      have HP := Lib.hid (pad_set hkl hlt)
      generalize rB c.toList k = b at x0 x1 HP
      have HKL := Lib.hid hpl
      clear hkl hpl
      go_wp2_with (go_at_call 10; refine (toBottle_any b _).mono ?_; rintro e w' ⟨rfl, hb1⟩; have HS := Lib.hid (row_kept HR.out.2.2 hb1); have y0 := row0 HS.out HKL.out; have y1 := row1 HS.out HKL.out; have f0 := rowOf_frozen HS.out (k * 2); have f1 := rowOf_frozen HS.out (k * 2 + 1))
      go_roundw
      case rel =>
        refine ⟨k + 1, by omega, by go_num, ((bstep hb hb1).setCell (by show _ ≤ g2; omega) _).setCell (by show _ ≤ g2; omega) _, ?_, ?_, ?_⟩
        · rw [row_far (by omega), row_far (by omega), row_kept HR.out.1 hb1]
        · rw [row_far (by omega), row_far (by omega), row_kept HR.out.2.1 hb1]
        · rw [row_put b HS.out HKL.out, HP.out]
      case measure => simp [intOf]; omega
    · obtain rfl : k = 12 := by omega
      have HR2 : Hid (rowOf wr g2 = some (cc c).toArray) := by
        have := HR.out.2.2
        rwa [pad_full HL.out] at this
      go_wp2_with (first | (with_reducible refine wp_load_rowOf rfl _ _ rfl _ rfl _ HR2.out _ Tryd.underlying32 rfl (infoC c) ?_) | (with_reducible refine wp_store_rowOf rfl rfl _ _ _ rfl _ rfl _ rfl _ HR.out.2.1 (cc_size2 _ _) (infoC c) (cc_one c) ?_))
      refine bodyPost_ret (results_c rfl rfl (loadVar_rowOf (cc c).toArray (by rw [rowOf_setRow, if_pos rfl, HR.out.2.1]; rfl) _ Tryd.underlying32 rfl (infoC c))) rfl ⟨rfl, bsetRow hb (by omega) _⟩
theorem eqCrate_refl (c : Cr) (w : World) : Calls Tryd.prog 25 #[cv c, cv c] w fun e w' => e = .returned (.bool true) ∧ Below w.heap.size w w' := by
  have HL := Lib.hid (Vector.length_toList (xs := c))
  go_enter Tryd.func25, Tryd.ntmps25
  go_wp2
  generalize hW : World.alloc _ _ = W
  have H0 : Below w.heap.size w W := by rw [← hW]; go_grown
  have r0 : rowOf W w.heap.size = some (cc c).toArray := (by (try rw [← hW]); simp only [rowOf_alloc, World.size_alloc, ↓reduceIte]; all_goals ((repeat' split) <;> first | omega | (exfalso; omega) | rfl))
  have r1 : rowOf W (w.heap.size + 1) = some (cc c).toArray := (by (try rw [← hW]); simp only [rowOf_alloc, World.size_alloc, ↓reduceIte]; all_goals ((repeat' split) <;> first | omega | (exfalso; omega) | rfl))
  have hs : W.heap.size = w.heap.size + 2 := by rw [← hW]; simp
  clear hW
  go_loopw [5] (fun i wr => ∃ k : Nat, k ≤ 12 ∧ i = .int .i64 k ∧ Below w.heap.size w wr ∧ Hid (rowOf wr w.heap.size = some (cc c).toArray ∧ rowOf wr (w.heap.size + 1) = some (cc c).toArray)) (fun i _ => 12 - (intOf i).toNat)
  case atStart => exact ⟨0, by omega, rfl, H0, r0, r1⟩
  case round =>
    clear r0 r1 H0 hs
    obtain ⟨k, hk, rfl, hb, HR⟩ := hrel
    by_cases hlt : k < 12
    · have hkl : k < c.toList.length := by rw [HL.out]; exact hlt
      have x0 := cell_regrown (row0 HR.out.1 hkl)
      have x1 := cell_regrown (row1 HR.out.1 hkl)
      have y0 := cell_regrown (row0 HR.out.2 hkl)
      have y1 := cell_regrown (row1 HR.out.2 hkl)
      generalize rB c.toList k = b at x0 x1 y0 y1
      clear hkl
      go_wp2
      refine wp_region_quiet_below (by kernel_rfl) (by kernel_rfl) ?_
      repeat (quiet_step ((go_at_call 22; exact Calls.regrown_of (eqBottle_refl b _))))
      refine wpQuiet_nil ?_
      intro _ hw'
      obtain ⟨⟨dq, osq⟩, hw''⟩ := hw'
      subst hw''
      have hq := below_regrown wr dq osq
      clear x0 x1 y0 y1
      generalize Sort.grow (redrawn wr dq) osq = w' at hq ⊢
      go_wp2
      go_roundw
      case rel => exact ⟨k + 1, by omega, by go_num, bstep hb hq, row_kept HR.out.1 hq, row_kept HR.out.2 hq⟩
      case measure => simp [intOf]; omega
    · obtain rfl : k = 12 := by omega
      go_wp2
      go_ret
      exact ⟨rfl, hb⟩
end Go.Proofs.YtbngpcghognojaaDoor
