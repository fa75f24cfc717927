/- Bottles in order: the library's SortFunc with the program's compare. -/
import Derived.Test.YtoiinpoiggkkdaaMarkW
import Derived.Test.YtoiinpoiggkkdaaCompare
import Derived.Test.YtoiinpoiggkkdaaShelf
import Derived.Shelf.SlSortCmp.NoneTotal
namespace Go.Proofs.Ytoiinpoiggkkdaa
open Go Go.Sort Go.RowKit
set_option linter.unusedVariables false
set_option linter.unusedSimpArgs false
set_option maxRecDepth 100000
set_option maxHeartbeats 1000000
/-! ### A sorted row, owned -/
section
variable {α : Type} [Inhabited α] {f : α → List Value} {k : Nat}
theorem flat_fl (hf : ∀ x, (f x).length = k) (hk : 0 < k) (l : List α) : Sort.flatK f k l.toArray = (fl f l).toArray := by
  apply Array.ext
  · simp [fl_length hf]
  · intro i h1 h2
    have h3 : i < l.length * k := by simpa using h1
    have hi : i / k < l.length := by rw [Nat.div_lt_iff_lt_mul hk]; exact h3
    have hg : l.toArray[i / k]! = l[i / k]! := by simp
    have h0 := Sort.get_flatK f k l.toArray i (by simpa using h3)
    rw [getElem!_pos _ i h1, hg] at h0
    rw [h0]
    have hm : i % k < (f l[i / k]!).length := by rw [hf]; exact Nat.mod_lt _ hk
    have h4 := fl_at hf l (i / k) hi (i % k) (f l[i / k]!)[i % k] (List.getElem?_eq_getElem hm)
    rw [Nat.div_add_mod'] at h4
    have h5 : (fl f l)[i]? = some ((fl f l).toArray[i]) := by rw [← List.getElem?_toArray]; exact Array.getElem?_eq_getElem h2
    rw [h4] at h5
    simp only [Option.some.injEq] at h5
    rw [← h5, getElem!_pos (f l[i / k]!) (i % k) hm]
theorem own_holds (hf : ∀ x, (f x).length = k) (hk : 0 < k) {w : World} {B e g cap : Nat} {l : List α} (h : OwnN f w B e k (.slice (some ⟨g, 0, none⟩) l.length cap) l) : Sort.HoldsK f k w g 0 l.toArray := by
  show Sort.Holds id w g 0 (Sort.flatK f k l.toArray)
  rw [flat_fl hf hk]
  obtain ⟨cur, hr, hh, hb, hn, hm, hc, ht⟩ := own_row h
  intro j hj
  have hj' : j < (fl f l).length := by simpa using hj
  refine ⟨?_, rowOf_frozen hr _⟩
  rw [Nat.zero_add, rowOf_cell hr, ← Array.getElem?_toList]
  have e : (fl f l)[j]? = some ((fl f l)[j]) := List.getElem?_eq_getElem hj'
  have hlt : j < l.length * k := by rw [← fl_length hf]; exact hj'
  conv at e => lhs; rw [← ht, List.getElem?_take_of_lt hlt]
  rw [e]
  simp [hj']
/-- What the sort leaves behind is owned as before. -/
theorem own_put (hf : ∀ x, (f x).length = k) (hk : 0 < k) {w : World} {B e g cap : Nat} {l l' : List α} (h : OwnN f w B e k (.slice (some ⟨g, 0, none⟩) l.length cap) l) (hl : l'.length = l.length) (m : Nat) (os : Array Obj) :
    OwnN f (sortWorldK f k w g 0 m l'.toArray os) B e k (.slice (some ⟨g, 0, none⟩) l.length cap) l' ∧ Below B w (sortWorldK f k w g 0 m l'.toArray os) := by
  obtain ⟨cur, hr, hh, hb, hn, hm, hc, ht⟩ := own_row h
  have hgs : g < w.heap.size := rowOf_lt hr
  have eW : sortWorldK f k w g 0 m l'.toArray os = grow (Sort.putRow id (Sort.ahead w m) g 0 (fl f l').toArray) os := by
    unfold sortWorldK Sort.putRowK
    rw [flat_fl hf hk]
  rw [eW]
  have hln : l.length * k ≤ cap * k := Nat.mul_le_mul_right _ hn
  have hF : (fl f l').length = l.length * k := by rw [fl_length hf, hl]
  have hsz : (Sort.putCells id 0 (fl f l').toArray cur).size = cap * k := by simp [Sort.putCells, hc]
  have htk : (Sort.putCells id 0 (fl f l').toArray cur).toList.take (l.length * k) = fl f l' := by
    apply List.ext_getElem
    · have hq : (Sort.putCells id 0 (fl f l').toArray cur).toList.length = cap * k := by rw [Array.length_toList]; exact hsz
      rw [List.length_take, hq, hF, Nat.min_eq_left hln]
    · intro i h1 h2
      rw [List.getElem_take, Array.getElem_toList]
      simp [Sort.putCells, h2]
  have hrow : (Sort.putRow id (Sort.ahead w m) g 0 (fl f l').toArray).heap[g]? = some (.cells (Sort.putCells id 0 (fl f l').toArray cur) e (0, 0)) := by
    simp only [Sort.putRow, Sort.mapBlock, Sort.ahead, Array.getElem?_modify, if_true, hh, Option.map_some, Sort.onCells]
  have hB : Below B w (Sort.putRow id (Sort.ahead w m) g 0 (fl f l').toArray) := by
    refine ⟨rfl, rfl, rfl, by simp [Sort.putRow, Sort.mapBlock, Sort.ahead], fun j hj => ?_⟩
    simp only [Sort.putRow, Sort.mapBlock, Sort.ahead, Array.getElem?_modify]
    rw [if_neg (by omega)]
  have hz : (Sort.putRow id (Sort.ahead w m) g 0 (fl f l').toArray).heap.size = w.heap.size := by simp [Sort.putRow, Sort.mapBlock, Sort.ahead]
  have hO : OwnN f (Sort.putRow id (Sort.ahead w m) g 0 (fl f l').toArray) B e k (.slice (some ⟨g, 0, none⟩) l.length cap) l' := by
    refine ⟨by rw [hF, hl], .inr ⟨g, cap, _, by rw [hl], hb, hrow, by omega, hm, hsz, by rw [hl]; exact htk⟩⟩
  have hgr : Below (Sort.putRow id (Sort.ahead w m) g 0 (fl f l').toArray).heap.size (Sort.putRow id (Sort.ahead w m) g 0 (fl f l').toArray) (grow (Sort.putRow id (Sort.ahead w m) g 0 (fl f l').toArray) os) :=
    ⟨rfl, rfl, rfl, by show _ ≤ (_ ++ os).size; rw [Array.size_append]; omega, fun j hj => heap_grow_old _ os hj⟩
  exact ⟨hO.below hgr, hB.trans (hgr.mono (by rw [hz]; exact Nat.le_trans hb (Nat.le_of_lt hgs)))⟩
end
/-! ### The order of bottles is total -/
theorem cmp_neg {a b : Bt} : a.cmp b < 0 ↔ a.k < b.k ∨ a.k = b.k ∧ a.y < b.y := by
  unfold Bt.cmp
  repeat' split
  all_goals omega
theorem cmp_swo : SWO (ltOf Bt.cmp) := by
  refine ⟨fun x => ?_, fun x y z h h' => ?_, fun x y z h h' => ?_⟩
  all_goals
    simp only [ltOf, decide_eq_true_eq, decide_eq_false_iff_not, cmp_neg] at *
    omega
theorem cmp_total (x y : Bt) (h : ltOf Bt.cmp x y = false) (h' : ltOf Bt.cmp y x = false) : x = y := by
  simp only [ltOf, decide_eq_false_iff_not, cmp_neg] at h h'
  exact Bt.ext2 (by omega) (by omega)
/-- Not behind. -/
def leB (x y : Bt) : Bool := !ltOf Bt.cmp y x
/-- Bottles in order. -/
def sortB (l : List Bt) : List Bt := l.mergeSort leB
theorem sortB_length (l : List Bt) : (sortB l).length = l.length := List.length_mergeSort l
theorem leB_iff {x y : Bt} : leB x y = true ↔ ¬ y.cmp x < 0 := by simp [leB, ltOf]
theorem leB_trans (a b c : Bt) (h : leB a b = true) (h' : leB b c = true) : leB a c = true := by
  rw [leB_iff, cmp_neg] at *
  omega
theorem leB_total (a b : Bt) : (leB a b || leB b a) = true := by
  rw [Bool.or_eq_true, leB_iff, leB_iff, cmp_neg, cmp_neg]
  omega
theorem leB_anti {a b : Bt} (h : leB a b = true) (h' : leB b a = true) : a = b := by
  rw [leB_iff, cmp_neg] at *
  exact Bt.ext2 (by omega) (by omega)
theorem sortB_perm (l : List Bt) : (sortB l).Perm l := List.mergeSort_perm l leB
theorem sortB_sorted (l : List Bt) : (sortB l).Pairwise fun a b => leB a b = true := List.pairwise_mergeSort leB_trans leB_total l
/-- There is one way to put bottles in order. -/
theorem sortB_of {l s : List Bt} (hp : s.Perm l) (hs : s.Pairwise fun a b => leB a b = true) : s = sortB l :=
  List.Perm.eq_of_pairwise (fun a b _ _ h h' => leB_anti h h') hs (sortB_sorted l) (hp.trans (sortB_perm l).symm)
theorem compare_grows (a b : Bt) (w : World) : Calls Try.prog 31 #[bv a, bv b] w fun e w' => e = .returned (.int .i64 (a.cmp b)) ∧ ∃ q os', w' = grow (w.drewN q) os' := by
  obtain ⟨k, y, hk, hy⟩ := a
  obtain ⟨k', y', hk', hy'⟩ := b
  go_enter Try.func31, Try.ntmps31
  go_wp2
  generalize hW : World.alloc _ _ = W
  have hs : W.heap.size = w.heap.size + 2 := by rw [← hW]; simp
  have x0 : W.cell? ⟨w.heap.size, 0, none⟩ = some (.int .u8 k) := by rw [← hW]; simp [go_sem]
  have x1 : W.cell? ⟨w.heap.size, 1, none⟩ = some (.int .i16 y) := by rw [← hW]; simp [go_sem]
  have y0 : W.cell? ⟨w.heap.size + 1, 0, none⟩ = some (.int .u8 k') := by rw [← hW]; simp [go_sem]
  have y1 : W.cell? ⟨w.heap.size + 1, 1, none⟩ = some (.int .i16 y') := by rw [← hW]; simp [go_sem]
  replace hW := Lib.hid hW
  generalize w.heap.size = g at x0 x1 y0 y1 hs
  go_still_tail 10, (by kernel_rfl)
  still_call (flip_same (Compare8_any _ _ _))
  repeat still_step
  still_call (flip_same (Compare16_any _ _ _))
  refine wpStill_nil ?_
  change wpList _ _ _ _ _ (World.drew _)
  clear hs x0 x1 y0 y1
  go_wp2_with fail
  refine (Or_any _ (cmpI k k') (cmpI y y') _ _ (by simp [go_sem]) (by simp [go_sem])).mono ?_
  rintro e w' ⟨rfl, rfl⟩
  go_wp2
  go_ret
  refine ⟨ret_int ?_, ?_⟩
  · exact cmp_or ⟨k, y, hk, hy⟩ ⟨k', y', hk', hy'⟩
  · rw [← hW.out]
    exact ⟨1, _, by rw [alloc_eq_grow, alloc_eq_grow, alloc_eq_grow, grow_grow, grow_grow]; rfl⟩
end Go.Proofs.Ytoiinpoiggkkdaa
