/- Contracts of TipOf: which way the bottles in some places hang. -/
import Derived.Test.YtkpaijbjbbgpmaaList
import Derived.Test.YtkpaijbjbbgpmaaInts
import Derived.Test.YtkpaijbjbbgpmaaFunc
namespace Go.Proofs.Ytkpaijbjbbgpmaa
open Go.RowKit
set_option linter.unusedVariables false
set_option linter.unusedSimpArgs false
set_option maxRecDepth 100000
set_option maxHeartbeats 1000000
def eastI (l : List Int) : Int := (l.map fun i => 2 * (i % 4) - 3).sum
def southI (l : List Int) : Int := (l.map fun i => i / 4 - 1).sum
theorem eastI_succ {l : List Int} {k : Nat} (h : k < l.length) : eastI (l.take (k + 1)) = eastI (l.take k) + (2 * (l.getD k 0 % 4) - 3) := by
  rw [List.take_succ_eq_append_getElem h]
  rw [eastI, List.map_append, List.sum_append, List.getD_eq_getElem?_getD, List.getElem?_eq_getElem h]
  simp [eastI]
theorem southI_succ {l : List Int} {k : Nat} (h : k < l.length) : southI (l.take (k + 1)) = southI (l.take k) + (l.getD k 0 / 4 - 1) := by
  rw [List.take_succ_eq_append_getElem h]
  rw [southI, List.map_append, List.sum_append, List.getD_eq_getElem?_getD, List.getElem?_eq_getElem h]
  simp [southI]
/-- Numbers of places. -/
def Places (l : List Int) : Prop := l.length ≤ 12 ∧ ∀ x ∈ l, 0 ≤ x ∧ x ≤ 11
theorem tip_bound {l : List Int} (h : ∀ x ∈ l, 0 ≤ x ∧ x ≤ 11) : -3 * (l.length : Int) ≤ eastI l ∧ eastI l ≤ 3 * (l.length : Int) ∧ -3 * (l.length : Int) ≤ southI l ∧ southI l ≤ 3 * (l.length : Int) := by
  induction l with
  | nil => decide
  | cons x l ih =>
    have h0 := h x (by simp)
    have h1 := ih fun y hy => h y (by simp [hy])
    simp only [eastI, southI, List.map_cons, List.sum_cons, List.length_cons] at h1 ⊢
    omega
theorem Places.take {l : List Int} (h : Places l) (k : Nat) : Places (l.take k) :=
  ⟨by rw [List.length_take]; have := h.1; omega, fun x hx => h.2 x (List.mem_of_mem_take hx)⟩
theorem Places.bound {l : List Int} (h : Places l) : -36 ≤ eastI l ∧ eastI l ≤ 36 ∧ -36 ≤ southI l ∧ southI l ≤ 36 := by
  have := tip_bound h.2
  have := h.1
  omega
theorem Places.at {l : List Int} (h : Places l) {k : Nat} (hk : k < l.length) : 0 ≤ l.getD k 0 ∧ l.getD k 0 ≤ 11 := by
  rw [List.getD_eq_getElem?_getD, List.getElem?_eq_getElem hk]
  exact h.2 _ (List.getElem_mem hk)
theorem pl_places (p : Bt → Bool) (l : List Bt) : Places (pl p l 12) := by
  refine ⟨pl_le p l 12, fun x hx => ?_⟩
  simp only [pl, List.mem_map, List.mem_filter, List.mem_range] at hx
  obtain ⟨k, ⟨hk, _⟩, rfl⟩ := hx
  simp only [Int.ofNat_eq_natCast]
  omega
theorem l01Used_row {W w : World} {g : Nat} {c : Cr} (H : Below W.heap.size W w) (hr : rowOf W g = some (cc c).toArray) :
    Calls Try.prog 79 #[.pointer (some ⟨g, 0, none⟩)] w fun e w' => ∃ v, e = .returned v ∧ w'.ownsRow w.heap.size 2 1 v (usedI c).length (vi (usedI c)) ∧ Below w.heap.size w w' := by
  have HR := Lib.hid (row_kept hr H)
  have HL := Lib.hid (Vector.length_toList (xs := c))
  clear hr H
  go_enter Try.func79, Try.ntmps79
  go_wp2
  go_loopw [3, 4] (fun v i wr => ∃ k : Nat, k ≤ 12 ∧ i = .int .i64 k ∧ Hid (wr.ownsRow w.heap.size 2 1 v (pl (fun b => !b.em) c.toList k).length (vi (pl (fun b => !b.em) c.toList k))) ∧ Below w.heap.size w wr) (fun _ i _ => 12 - (intOf i).toNat)
  case atStart =>
    refine ⟨0, by omega, rfl, ?_, by go_grown⟩
    exact World.ownsRow_lit (base := w.heap.size) (e := 2) (size := 1) w #[] 0 (by simp) (by simp [maxLen]) (by simp)
  case round =>
    obtain ⟨k, hk, rfl, HO, hb⟩ := hrel
    by_cases hlt : k < 12
    · have hkl : k < c.toList.length := by rw [HL.out]; exact hlt
      have HB := Lib.hid hb
      have x0 := row0 (row_kept HR.out hb) hkl
      have x1 := row1 (row_kept HR.out hb) hkl
      have HY := Lib.hid (@pl_yes (fun b => !b.em) c.toList k)
      have HN := Lib.hid (@pl_no (fun b => !b.em) c.toList k)
      have HP := Lib.hid (pl_le (fun b => !b.em) c.toList k)
      clear hkl hb
      generalize rB c.toList k = b at x0 x1 HY HN
      cases e1 : b.em with
      | true =>
        have HN' := Lib.hid (HN.out (by simp [e1]))
        clear HN HY
        go_wp2_with (go_at_call 59; refine (l01Free_any b _).mono ?_; rintro e w' ⟨rfl, hb1⟩)
        go_roundw
        case rel => exact ⟨k + 1, by omega, by go_num, by rw [HN'.out]; exact own_kept HO.out hb1, bstep HB.out hb1⟩
        case measure => simp [intOf]; omega
      | false =>
        have HY' := Lib.hid (HY.out (by simp [e1]))
        clear HN HY
        go_wp2_with (first | (go_at_call 59; refine (l01Free_any b _).mono ?_; rintro e w' ⟨rfl, hb1⟩) | (at_builtin; refine wp_app_int w.heap.size rfl _ _ rfl _ (pl (fun b => !b.em) c.toList k) (k : Int) rfl _ rfl ?hg ?HO ?hB ?hn ?_; (case hg => simp); (case HO => exact own_kept HO.out hb1); (case hB => have := HB.out.size; have := hb1.size; omega); (case hn => have := HP.out; omega); intro v1 w1 hown hb2))
        go_roundw
        case rel => exact ⟨k + 1, by omega, by go_num, by rw [HY'.out]; exact hown, (bstep HB.out hb1).trans hb2⟩
        case measure => simp [intOf]; omega
    · obtain rfl : k = 12 := by omega
      go_wp2
      go_ret
      exact ⟨_, rfl, HO.out, hb⟩
def tipR (c : Cr) : Int × Int × Int := if c.ok = true then (eastI (usedI c), southI (usedI c), 0) else (0, 0, 1)
end Go.Proofs.Ytkpaijbjbbgpmaa
