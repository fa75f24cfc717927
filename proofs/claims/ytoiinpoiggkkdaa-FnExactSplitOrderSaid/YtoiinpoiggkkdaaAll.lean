/- Contracts of BottlesIn: all bottles of a crate; those that are none are left out. -/
import Derived.Test.YtoiinpoiggkkdaaSlc
import Derived.Test.YtoiinpoiggkkdaaList
import Derived.Test.YtoiinpoiggkkdaaFunc
import Derived.Test.YtoiinpoiggkkdaaDrawn
namespace Go.Proofs.Ytoiinpoiggkkdaa
open Go.RowKit
set_option linter.unusedVariables false
set_option linter.unusedSimpArgs false
set_option maxRecDepth 100000
set_option maxHeartbeats 1000000
/-- A bottle. -/
def Bt.is (b : Bt) : Bool := !b.em
/-- All bottles of a crate. -/
def allB (c : Cr) : List Bt := c.toList.filter Bt.is
def allK (c : Cr) (k : Nat) : List Bt := (c.toList.take k).filter Bt.is
theorem allK_le (c : Cr) (k : Nat) : (allK c k).length ≤ 12 := by
  refine Nat.le_trans (List.length_filter_le _ _) ?_
  rw [List.length_take, Vector.length_toList]
  omega
theorem allK_yes {c : Cr} {k : Nat} (hk : k < 12) (h : (rB c.toList k).em = false) : allK c (k + 1) = allK c k ++ [rB c.toList k] := by
  have hl : k < c.toList.length := by rw [Vector.length_toList]; exact hk
  unfold allK
  rw [List.take_succ_eq_append_getElem hl, List.filter_append, ← rB_lt hl]
  simp [Bt.is, h]
theorem allK_no {c : Cr} {k : Nat} (hk : k < 12) (h : (rB c.toList k).em = true) : allK c (k + 1) = allK c k := by
  have hl : k < c.toList.length := by rw [Vector.length_toList]; exact hk
  unfold allK
  rw [List.take_succ_eq_append_getElem hl, List.filter_append, ← rB_lt hl]
  simp [Bt.is, h]
theorem allK_full (c : Cr) : allK c 12 = allB c := by
  unfold allK
  rw [List.take_of_length_le (by rw [Vector.length_toList]; exact Nat.le_refl _)]
  rfl
theorem allB_le (c : Cr) : (allB c).length ≤ 12 := by rw [← allK_full]; exact allK_le c 12
def allR (c : Cr) : List Bt × Int := if c.ok = true then (allB c, 0) else ([], 1)
theorem zero_one (n : Nat) : ∀ v ∈ (Builtin.zeroCells (Value.cells (.agg #[.int .u8 0, .int .i16 0])) n).toList, v.oneCell' = true := by
  intro v hv
  simp only [Builtin.zeroCells, Value.cells, Array.toList_map, List.mem_map] at hv
  obtain ⟨i, _, rfl⟩ := hv
  have : i % 2 = 0 ∨ i % 2 = 1 := by omega
  show ((#[.int .u8 0, .int .i16 0] : Array Value)[i % 2]!).oneCell' = true
  rcases this with h | h <;> rw [h] <;> rfl
theorem first_or {α : Type} [Inhabited α] (p : α → Bool) : ∀ l : List α, (∀ j, j < l.length → p l[j]! = false) ∨ ∃ k, k < l.length ∧ p l[k]! = true ∧ ∀ j, j < k → p l[j]! = false
  | [] => .inl fun j hj => absurd hj (Nat.not_lt_zero _)
  | x :: l => by
    cases hx : p x with
    | true => exact .inr ⟨0, by simp, by simpa using hx, fun j hj => absurd hj (Nat.not_lt_zero _)⟩
    | false =>
      rcases first_or p l with h | ⟨k, hk, h1, h2⟩
      · refine .inl fun j hj => ?_
        cases j with
        | zero => simpa using hx
        | succ j => simpa using h j (by simpa using hj)
      · refine .inr ⟨k + 1, by simpa using hk, by simpa using h1, fun j hj => ?_⟩
        cases j with
        | zero => simpa using hx
        | succ j => simpa using h2 j (by omega)
theorem filter_all {l : List Bt} (h : ∀ j, j < l.length → Bt.em l[j]! = false) : l.filter Bt.is = l := by
  rw [List.filter_eq_self]
  intro x hx
  obtain ⟨j, hj, rfl⟩ := List.getElem_of_mem hx
  have := h j hj
  rw [getB hj] at this
  simp [Bt.is, this]
/-- All of the first j that are bottles. -/
def keptK (l : List Bt) (j : Nat) : List Bt := (l.take j).filter Bt.is
theorem keptK_le (l : List Bt) (j : Nat) : (keptK l j).length ≤ j := by
  refine Nat.le_trans (List.length_filter_le _ _) ?_
  rw [List.length_take]
  omega
theorem keptK_yes {l : List Bt} {j : Nat} (hj : j < l.length) (h : l[j]!.em = false) : keptK l (j + 1) = keptK l j ++ [l[j]!] := by
  unfold keptK
  rw [List.take_succ_eq_append_getElem hj, List.filter_append, ← getB hj]
  simp only [List.filter_cons, Bt.is, h, Bool.not_false, ↓reduceIte, List.filter_nil]
theorem keptK_no {l : List Bt} {j : Nat} (hj : j < l.length) (h : l[j]!.em = true) : keptK l (j + 1) = keptK l j := by
  unfold keptK
  rw [List.take_succ_eq_append_getElem hj, List.filter_append, ← getB hj]
  simp only [List.filter_cons, Bt.is, h, Bool.not_true, Bool.false_eq_true, ↓reduceIte, List.filter_nil, List.append_nil]
section
variable {P : Program} {ops : Array Oper} {rest : List Oper} {o : Oper} {a : Act} {w : World} {Q : Exit → Act → World → Prop}
/-- clear(s[m:]) of an owned slice. -/
theorem wp_clear_own (hgd : o.guard = none) (hdst : o.dst = none) (x : Operand) (t : TypeId) (ho : o.op = .call { callee := .builtin .clear, args := #[x], argTypes := #[t] }) (e : TypeId) (ht : P.underlying t = some (.slice e)) (z : Value) (hz : ∀ w, (zeroValue e).run P w = .ok z w)
    (k : Nat) (hk : z.cells.size = k) (hone : ∀ n, ∀ v ∈ (Builtin.zeroCells z.cells n).toList, v.oneCell' = true) (B g n m q cap c : Nat) (xs : List Value) (HO : w.ownsRow B e k (.slice (some ⟨g, 0, none⟩) n cap) n xs) (hq : m + q = n) (hx : a.eval x = .slice (some ⟨g, m * k, none⟩) q c)
    (h : ∀ w1, w1.ownsRow B e k (.slice (some ⟨g, 0, none⟩) m cap) m (xs.take (m * k)) → Below B w w1 → wpList P ops Q rest a w1) : wpList P ops Q (o :: rest) a w := by
  obtain ⟨cur, hr, hh, hb, hn, hm, hc, hxs⟩ := own_row HO
  have hle : m * k + q * k = n * k := by rw [← hq, Nat.add_mul]
  have hle2 : n * k ≤ cap * k := Nat.mul_le_mul_right _ hn
  have hrun : ∃ cs : Array Value, cs.size = cur.size ∧ cs.toList.take (m * k) = cur.toList.take (m * k) ∧ (Builtin.clear_ #[t] o.type #[.slice (some ⟨g, m * k, none⟩) q c]).run P w = .ok (.tuple #[]) (w.setRow g cs) := by
    cases q with
    | zero =>
      refine ⟨cur, rfl, rfl, ?_⟩
      rw [setRow_self w g cur e (0, 0) hh]
      simp [Builtin.clear_, run_underlying ht]
    | succ q =>
      have hs := run_storeCells_at P g (m * k) e (Builtin.zeroCells z.cells (q + 1)).toList 0 cur w hh (by simp only [Array.length_toList, size_zeroCells, hk, Nat.add_zero]; omega) (hone _)
      rw [Nat.add_zero] at hs
      refine ⟨(cur.toList.take (m * k) ++ (Builtin.zeroCells z.cells (q + 1)).toList ++ cur.toList.drop (m * k + (Builtin.zeroCells z.cells (q + 1)).toList.length)).toArray, ?_, ?_, ?_⟩
      rotate_left
      rotate_left
      · simp only [Builtin.clear_, Sem.run_bind, run_underlying ht, hz, Result.andThen_ok, List.getElem?_toArray, List.getElem?_cons_zero]
        rw [hs]
        first | done | rfl | (simp; done) | (simp; rfl)
      · have hcl : cur.toList.length = cap * k := by simpa using hc
        simp only [List.size_toArray, List.length_append, List.length_take, List.length_drop, Array.length_toList, size_zeroCells, hk, Nat.add_zero, hc]
        omega
      · have hcl : cur.toList.length = cap * k := by simpa using hc
        rw [List.append_assoc, List.take_append_of_le_length (by rw [List.length_take]; omega), List.take_take, Nat.min_self]
  obtain ⟨cs, h1, h2, hrun⟩ := hrun
  refine wpList_plain hgd fun K hK => ?_
  have hstep : wpList P ops Q rest a (w.setRow g cs) := by
    refine h _ ⟨?_, .inr ⟨g, cap, cs, rfl, hb, setRow_heap w g _ _ _ _ hh, by omega, hm, by rw [h1, hc], ?_⟩⟩ (bsetRow (Below.refl _ _) hb _)
    · rw [List.length_take, HO.1]
      omega
    · rw [h2, ← hxs, List.take_take]
      congr 1
      omega
  have hdone := hK _ _ hstep
  unfold Oper.wp
  simp only [execOp, ho, resolve, invoke, builtin, hx, hrun, Result.andThen, Sem.run_bind, Sem.run_pure, List.map_toArray, List.map_cons, List.map_nil]
  first
    | exact hdone
    | (show K (a.put o.dst _) _; rw [hdst]; exact hdone)
    | (simp [hrun, Result.andThen]; show K (a.put o.dst _) _; rw [hdst]; exact hdone)
end
theorem set_kept {l s : List Bt} {i j : Nat} (hi : i = (keptK l j).length) (hij : i < j) (hs : s.length = l.length) (h1 : s.take i = keptK l j) (h2 : s.drop j = l.drop j) (hj : j < l.length) (h : l[j]!.em = false) :
    (s.set i l[j]!).take (i + 1) = keptK l (j + 1) ∧ (s.set i l[j]!).drop (j + 1) = l.drop (j + 1) ∧ (keptK l (j + 1)).length = i + 1 := by
  have hk := keptK_yes hj h
  refine ⟨?_, ?_, by rw [hk, List.length_append, ← hi]; rfl⟩
  · rw [hk, ← h1, List.take_succ_eq_append_getElem (by rw [List.length_set]; omega), List.getElem_set_self, List.take_set_of_le (Nat.le_refl _)]
  · rw [List.drop_set_of_lt (by omega)]
    have := congrArg (List.drop 1) h2
    simpa [List.drop_drop] using this
theorem at_kept {l s : List Bt} {j : Nat} (hs : s.length = l.length) (h2 : s.drop j = l.drop j) (hj : j < l.length) : s[j]! = l[j]! := by
  have h := congrArg (fun x => x[0]?) h2
  simp only [List.getElem?_drop, Nat.add_zero] at h
  rw [getB (by omega), getB hj]
  rw [List.getElem?_eq_getElem (by omega), List.getElem?_eq_getElem hj] at h
  exact Option.some.inj h
end Go.Proofs.Ytoiinpoiggkkdaa
