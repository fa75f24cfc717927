/- Contracts of FreePlaces and AddBottle. -/
import Derived.Test.YtkpaijbjbbgpmaaList
import Derived.Test.YtkpaijbjbbgpmaaInts
import Derived.Test.YtkpaijbjbbgpmaaFunc
import Derived.Test.YtkpaijbjbbgpmaaPut
import Derived.Test.YtkpaijbjbbgpmaaTail
namespace Go.Proofs.Ytkpaijbjbbgpmaa
open Go.RowKit
set_option linter.unusedVariables false
set_option linter.unusedSimpArgs false
set_option maxRecDepth 100000
set_option maxHeartbeats 1000000
theorem l01Empty_row {W w : World} {g : Nat} {c : Cr} (H : Below W.heap.size W w) (hr : rowOf W g = some (cc c).toArray) :
    Calls Try.prog 72 #[.pointer (some ⟨g, 0, none⟩)] w fun e w' => ∃ v, e = .returned v ∧ w'.ownsRow w.heap.size 2 1 v (freeI c).length (vi (freeI c)) ∧ Below w.heap.size w w' := by
  have HR := Lib.hid (row_kept hr H)
  have HL := Lib.hid (Vector.length_toList (xs := c))
  clear hr H
  go_enter Try.func72, Try.ntmps72
  go_wp2
  go_loopw [3, 4] (fun v i wr => ∃ k : Nat, k ≤ 12 ∧ i = .int .i64 k ∧ Hid (wr.ownsRow w.heap.size 2 1 v (pl Bt.em c.toList k).length (vi (pl Bt.em c.toList k))) ∧ Below w.heap.size w wr) (fun _ i _ => 12 - (intOf i).toNat)
  case atStart =>
    refine ⟨0, by omega, rfl, ?_, by go_grown⟩
    exact World.ownsRow_lit (base := w.heap.size) (e := 2) (size := 1) w #[] 0 (by simp) (by simp [maxLen]) (by simp)
  case round =>
    obtain ⟨k, hk, rfl, HO, hb⟩ := hrel
    by_cases hlt : k < 12
    · have hkl : k < c.toList.length := by rw [HL.out]; exact hlt
      have HB := Lib.hid hb
      have x0 := row0 (row_kept HR.out hb) hkl
      have x1 := row1 (row_kept HR.out hb) hkl
      have HY := Lib.hid (@pl_yes Bt.em c.toList k)
      have HN := Lib.hid (@pl_no Bt.em c.toList k)
      have HP := Lib.hid (pl_le Bt.em c.toList k)
      clear hkl hb
      generalize rB c.toList k = b at x0 x1 HY HN
      cases e1 : b.em with
      | false =>
        have HN' := Lib.hid (HN.out e1)
        clear HN HY
        go_wp2_with (go_at_call 59; refine (l01Free_any b _).mono ?_; rintro e w' ⟨rfl, hb1⟩)
        go_roundw
        case rel => exact ⟨k + 1, by omega, by go_num, by rw [HN'.out]; exact own_kept HO.out hb1, bstep HB.out hb1⟩
        case measure => simp [intOf]; omega
      | true =>
        have HY' := Lib.hid (HY.out e1)
        clear HN HY
        go_wp2_with (first | (go_at_call 59; refine (l01Free_any b _).mono ?_; rintro e w' ⟨rfl, hb1⟩) | (at_builtin; refine wp_app_int w.heap.size rfl _ _ rfl _ (pl Bt.em c.toList k) (k : Int) rfl _ rfl ?hg ?HO ?hB ?hn ?_; (case hg => simp); (case HO => exact own_kept HO.out hb1); (case hB => have := HB.out.size; have := hb1.size; omega); (case hn => have := HP.out; omega); intro v1 w1 hown hb2))
        go_roundw
        case rel => exact ⟨k + 1, by omega, by go_num, by rw [HY'.out]; exact hown, (bstep HB.out hb1).trans hb2⟩
        case measure => simp [intOf]; omega
    · obtain rfl : k = 12 := by omega
      go_wp2
      go_ret
      exact ⟨_, rfl, HO.out, hb⟩
def freeR (c : Cr) : List Int × Int := if c.ok = true then (freeI c, 0) else ([], 1)
theorem sFreePlaces_any (c : Cr) (w : World) : Calls Try.prog 35 #[cv c] w fun e w' => ∃ v, e = .returned (.tuple #[v, .int .i64 (freeR c).2]) ∧ w'.ownsRow w.heap.size 2 1 v (freeR c).1.length (vi (freeR c).1) ∧ Below w.heap.size w w' := by
  go_enter Try.func35, Try.ntmps35
  go_upto_region 1 with fail
  generalize hW : World.alloc _ _ = W
  have H0 : Below w.heap.size w W := by rw [← hW]; go_grown
  have r0 : rowOf W (w.heap.size) = some ((cc c).toArray) := (by (try rw [← hW]); simp only [rowOf_alloc, World.size_alloc, ↓reduceIte]; all_goals ((repeat' split) <;> first | omega | (exfalso; omega) | rfl))
  clear hW
  have l0 : w.heap.size ≤ w.heap.size := Nat.le_refl _
  generalize h0 : w.heap.size = g0 at r0 ⊢
  replace l0 : w.heap.size ≤ g0 := Nat.le_of_eq h0
  clear h0
  have b0 := rowOf_lt r0
  have H := Below.refl W.heap.size W
  cases e1 : c.ok with
  | false =>
    have HF := Lib.hid (show freeR c = ([], 1) by simp [freeR, e1])
    go_wp2_with (go_at_call 57; with_reducible refine (l01Ok_row H r0).mono ?_; rintro e w' ⟨rfl, hb⟩; replace H := bstep H hb; clear hb; have hc := bcell H)
    rw [HF.out]
    exact bodyPost_ret (results_tt rfl) rfl ⟨_, rfl, World.ownsRow_lit (base := w.heap.size) (e := 2) (size := 1) w' #[] 0 (bstep H0 H).size (by simp [maxLen]) rfl, (bstep H0 H).alloc (bstep H0 H).size _⟩
  | true =>
    have HF := Lib.hid (show freeR c = (freeI c, 0) by simp [freeR, e1])
    go_wp2_with (first | (go_at_call 57; with_reducible refine (l01Ok_row H r0).mono ?_; rintro e w' ⟨rfl, hb⟩; replace H := bstep H hb; clear hb; have hc := bcell H) | (go_at_call 72; refine (l01Empty_row H r0).mono ?_; rintro e w2 ⟨v, rfl, hown, hb⟩))
    rw [HF.out]
    exact bodyPost_ret (results_tt rfl) rfl ⟨v, rfl, own_down hown (bstep H0 H).size, (bstep H0 H).trans (hb.mono (bstep H0 H).size)⟩
theorem FreePlaces_any (c : Cr) (w : World) : Calls Try.prog 36 #[cv c] w fun e w' => ∃ v, e = .returned (.tuple #[v, .int .i64 (freeR c).2]) ∧ w'.ownsRow w.heap.size 2 1 v (freeR c).1.length (vi (freeR c).1) ∧ Below w.heap.size w w' := by
  go_enter Try.func36, Try.ntmps36
  go_upto_region 1 with fail
  generalize hW : World.alloc _ _ = W
  have H0 : Below w.heap.size w W := by rw [← hW]; go_grown
  have r0 : rowOf W (w.heap.size) = some ((cc c).toArray) := (by (try rw [← hW]); simp only [rowOf_alloc, World.size_alloc, ↓reduceIte]; all_goals ((repeat' split) <;> first | omega | (exfalso; omega) | rfl))
  clear hW
  have l0 : w.heap.size ≤ w.heap.size := Nat.le_refl _
  generalize h0 : w.heap.size = g0 at r0 ⊢
  replace l0 : w.heap.size ≤ g0 := Nat.le_of_eq h0
  clear h0
  have b0 := rowOf_lt r0
  have H := Below.refl W.heap.size W
  cases e1 : c.ok with
  | false =>
    have HF := Lib.hid (show freeR c = ([], 1) by simp [freeR, e1])
    go_wp2_with (first | ((with_reducible refine wp_load_rowBg H ?_ _ _ rfl _ rfl _ r0 _ Try.underlying34 rfl (infoC c) ?_); rfl) | (go_at_call 61; with_reducible refine (ValidCrate_any c _).mono ?_; rintro e w' ⟨rfl, hb⟩; replace H := bstep H hb; clear hb; have hc := bcell H))
    rw [HF.out]
    exact bodyPost_ret (results_tt rfl) rfl ⟨_, rfl, own_nil, bstep H0 H⟩
  | true =>
    have HF := Lib.hid (show freeR c = (freeI c, 0) by simp [freeR, e1])
    go_wp2_with (first | ((with_reducible refine wp_load_rowBg H ?_ _ _ rfl _ rfl _ r0 _ Try.underlying34 rfl (infoC c) ?_); rfl) | (go_at_call 61; with_reducible refine (ValidCrate_any c _).mono ?_; rintro e w' ⟨rfl, hb⟩; replace H := bstep H hb; clear hb; have hc := bcell H) | (go_at_call 69; refine (free_any c _).mono ?_; rintro e w2 ⟨v, rfl, hown, hb⟩))
    rw [HF.out]
    exact bodyPost_ret (results_tt rfl) rfl ⟨v, rfl, own_down hown (bstep H0 H).size, (bstep H0 H).trans (hb.mono (bstep H0 H).size)⟩
end Go.Proofs.Ytkpaijbjbbgpmaa
