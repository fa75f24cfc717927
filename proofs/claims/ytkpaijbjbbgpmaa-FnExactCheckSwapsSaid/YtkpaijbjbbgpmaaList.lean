/- Contracts of the functions that list the places and the bottles of a crate. -/
import Derived.Test.YtkpaijbjbbgpmaaApp
import Derived.Test.YtkpaijbjbbgpmaaCrate
namespace Go.Proofs.Ytkpaijbjbbgpmaa
open Go.RowKit
set_option linter.unusedVariables false
set_option linter.unusedSimpArgs false
set_option maxRecDepth 100000
set_option maxHeartbeats 1000000
/-- The first k places of which p holds. -/
def pl (p : Bt → Bool) (l : List Bt) (k : Nat) : List Int := ((List.range k).filter fun i => p (rB l i)).map Int.ofNat
theorem pl_yes {p : Bt → Bool} {l : List Bt} {k : Nat} (h : p (rB l k) = true) : pl p l (k + 1) = pl p l k ++ [(k : Int)] := by
  simp [pl, List.range_succ, h]
theorem pl_no {p : Bt → Bool} {l : List Bt} {k : Nat} (h : p (rB l k) = false) : pl p l (k + 1) = pl p l k := by
  simp [pl, List.range_succ, h]
theorem pl_le (p : Bt → Bool) (l : List Bt) (k : Nat) : (pl p l k).length ≤ k := by
  simp only [pl, List.length_map]
  exact Nat.le_trans (List.length_filter_le _ _) (by simp)
/-- All places with a bottle; all without one. -/
def usedI (c : Cr) : List Int := pl (fun b => !b.em) c.toList 12
def freeI (c : Cr) : List Int := pl Bt.em c.toList 12
theorem cc_take (c : Cr) (k : Nat) (h : k < 12) : List.take 2 (List.drop (k * 2) (cc c)) = [.int .u8 (rB c.toList k).k, .int .i16 (rB c.toList k).y] := by
  have hl : k < c.toList.length := by rw [Vector.length_toList]; exact h
  obtain ⟨h0, h1⟩ := bcs_at c.toList k hl
  apply List.ext_getElem?
  intro j
  rw [List.getElem?_take, List.getElem?_drop, show cc c = bcs c.toList from rfl]
  rcases j with _ | _ | j
  · simpa using h0
  · simpa using h1
  · simp
    omega
/-- An element of a crate by value. -/
theorem run_indexC (c : Cr) (k : Nat) (h : k < 12) (w : World) : (Instr.index 34 (.agg (cc c).toArray) (.int .i64 (k : Int))).run Try.prog w = .ok (.agg #[.int .u8 (rB c.toList k).k, .int .i16 (rB c.toList k).y]) w := by
  have hu := Try.underlying34
  have hE := cc_take c k h
  simp only [Instr.index, asIntOf]
  simp [go_sem, run_underlying hu, part, h, hE]
attribute [local go_sem high] eqB
theorem full_any (c : Cr) (w : World) : Calls Try.prog 80 #[cv c] w fun e w' => ∃ v, e = .returned v ∧ w'.ownsRow w.heap.size 2 1 v (usedI c).length (vi (usedI c)) ∧ Below w.heap.size w w' := by
  have hu := Try.underlying32
  go_enter Try.func80, Try.ntmps80
  go_wp2_with (with_reducible refine wp_load_rowOf rfl _ _ rfl _ rfl (cc c).toArray (by simp [rowOf_alloc]) _ Try.underlying34 rfl (infoC c) ?_)
  have hs : (w.alloc (Obj.cells (cc c).toArray 34)).heap.size = w.heap.size + 1 := by simp
  go_loopw [3, 8] (fun v i wr => ∃ k : Nat, k ≤ 12 ∧ i = .int .i64 k ∧ Hid (wr.ownsRow w.heap.size 2 1 v (pl (fun b => !b.em) c.toList k).length (vi (pl (fun b => !b.em) c.toList k))) ∧ Below w.heap.size w wr) (fun _ i _ => 12 - (intOf i).toNat)
  case atStart =>
    refine ⟨0, by omega, rfl, ?_, by go_grown⟩
    have := World.ownsRow_lit (base := w.heap.size) (e := 2) (size := 1) (w.alloc (Obj.cells (cc c).toArray 34)) #[] 0 (by simp) (by simp [maxLen]) (by simp)
    rw [hs] at this
    exact this
  case round =>
    clear hs
    obtain ⟨k, hk, rfl, HO, hb⟩ := hrel
    by_cases hlt : k < 12
    · have hE := run_indexC c k hlt
      have HY := Lib.hid (@pl_yes (fun b => !b.em) c.toList k)
      have HN := Lib.hid (@pl_no (fun b => !b.em) c.toList k)
      have HL := Lib.hid (pl_le (fun b => !b.em) c.toList k)
      generalize rB c.toList k = b at hE HY HN
      cases e1 : b.em with
      | true =>
        have e2 : (b.k == 0 && b.y == 0) = true := e1
        have HN' := Lib.hid (HN.out (by simp [e1]))
        clear e1 HN HY
        go_wp2
        go_roundw
        case rel => exact ⟨k + 1, by omega, by go_num, by rw [HN'.out]; exact own_kept HO.out (by go_grown), bstep hb (by go_grown)⟩
        case measure => simp [intOf]; omega
      | false =>
        have e2 : (b.k == 0 && b.y == 0) = false := e1
        have HY' := Lib.hid (HY.out (by simp [e1]))
        clear e1 HN HY
        go_wp2_with (at_builtin; refine wp_app_int w.heap.size rfl _ _ rfl _ (pl (fun b => !b.em) c.toList k) (k : Int) rfl _ rfl ?hg ?HO ?hB ?hn ?_; (case hg => simp); (case HO => exact own_kept HO.out (by go_grown)); (case hB => simp; have := hb.size; omega); (case hn => have := HL.out; omega); intro v1 w1 hown hb1)
        go_roundw
        case rel =>
          refine ⟨k + 1, by omega, by go_num, by rw [HY'.out]; exact hown, (bstep hb ?_).trans hb1⟩
          go_grown
        case measure => simp [intOf]; omega
    · obtain rfl : k = 12 := by omega
      go_wp2
      go_ret
      exact ⟨_, rfl, HO.out, hb⟩
attribute [local go_sem high] eqB
theorem free_any (c : Cr) (w : World) : Calls Try.prog 69 #[cv c] w fun e w' => ∃ v, e = .returned v ∧ w'.ownsRow w.heap.size 2 1 v (freeI c).length (vi (freeI c)) ∧ Below w.heap.size w w' := by
  have hu := Try.underlying32
  go_enter Try.func69, Try.ntmps69
  go_wp2_with (with_reducible refine wp_load_rowOf rfl _ _ rfl _ rfl (cc c).toArray (by simp [rowOf_alloc]) _ Try.underlying34 rfl (infoC c) ?_)
  have hs : (w.alloc (Obj.cells (cc c).toArray 34)).heap.size = w.heap.size + 1 := by simp
  go_loopw [3, 8] (fun v i wr => ∃ k : Nat, k ≤ 12 ∧ i = .int .i64 k ∧ Hid (wr.ownsRow w.heap.size 2 1 v (pl Bt.em c.toList k).length (vi (pl Bt.em c.toList k))) ∧ Below w.heap.size w wr) (fun _ i _ => 12 - (intOf i).toNat)
  case atStart =>
    refine ⟨0, by omega, rfl, ?_, by go_grown⟩
    have := World.ownsRow_lit (base := w.heap.size) (e := 2) (size := 1) (w.alloc (Obj.cells (cc c).toArray 34)) #[] 0 (by simp) (by simp [maxLen]) (by simp)
    rw [hs] at this
    exact this
  case round =>
    clear hs
    obtain ⟨k, hk, rfl, HO, hb⟩ := hrel
    by_cases hlt : k < 12
    · have hE := run_indexC c k hlt
      have HY := Lib.hid (@pl_yes Bt.em c.toList k)
      have HN := Lib.hid (@pl_no Bt.em c.toList k)
      have HL := Lib.hid (pl_le Bt.em c.toList k)
      generalize rB c.toList k = b at hE HY HN
      cases e1 : b.em with
      | false =>
        have e2 : (b.k == 0 && b.y == 0) = false := e1
        have HN' := Lib.hid (HN.out e1)
        clear e1 HN HY
        go_wp2
        go_roundw
        case rel => exact ⟨k + 1, by omega, by go_num, by rw [HN'.out]; exact own_kept HO.out (by go_grown), bstep hb (by go_grown)⟩
        case measure => simp [intOf]; omega
      | true =>
        have e2 : (b.k == 0 && b.y == 0) = true := e1
        have HY' := Lib.hid (HY.out e1)
        clear e1 HN HY
        go_wp2_with (at_builtin; refine wp_app_int w.heap.size rfl _ _ rfl _ (pl Bt.em c.toList k) (k : Int) rfl _ rfl ?hg ?HO ?hB ?hn ?_; (case hg => simp); (case HO => exact own_kept HO.out (by go_grown)); (case hB => simp; have := hb.size; omega); (case hn => have := HL.out; omega); intro v1 w1 hown hb1)
        go_roundw
        case rel =>
          refine ⟨k + 1, by omega, by go_num, by rw [HY'.out]; exact hown, (bstep hb ?_).trans hb1⟩
          go_grown
        case measure => simp [intOf]; omega
    · obtain rfl : k = 12 := by omega
      go_wp2
      go_ret
      exact ⟨_, rfl, HO.out, hb⟩
end Go.Proofs.Ytkpaijbjbbgpmaa
