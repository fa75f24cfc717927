/- Contracts of FillFrom: free places of one crate filled with bottles of another one. -/
import Derived.Test.YtnhpgahapjjjbaaSwap
import Derived.Test.YtnhpgahapjjjbaaTip
import Derived.Test.YtnhpgahapjjjbaaFree
namespace Go.Proofs.Ytnhpgahapjjjbaa
open Go.RowKit
set_option linter.unusedVariables false
set_option linter.unusedSimpArgs false
set_option maxRecDepth 100000
set_option maxHeartbeats 1000000
attribute [local go_sem] Oper.qB
theorem pl_at {p : Bt → Bool} {l : List Bt} {n k : Nat} (h : k < (pl p l n).length) : ∃ i : Nat, i < n ∧ (pl p l n).getD k 0 = (i : Int) := by
  have hm : (pl p l n)[k] ∈ pl p l n := List.getElem_mem h
  rw [List.getD_eq_getElem?_getD, List.getElem?_eq_getElem h]
  generalize (pl p l n)[k] = x at hm
  simp only [pl, List.mem_map, List.mem_filter, List.mem_range] at hm
  obtain ⟨i, ⟨hi, _⟩, rfl⟩ := hm
  exact ⟨i, hi, rfl⟩
/-- The two crates behind k steps. -/
def fillS (fs us : List Int) (a b : Cr) : Nat → Cr × Cr
  | 0 => (a, b)
  | k + 1 =>
    let q := fillS fs us a b k
    (setC q.1 (fs.getD k 0).toNat (rB q.2.toList (us.getD k 0).toNat), setC q.2 (us.getD k 0).toNat zB)
def fillN (a b : Cr) : Nat := min (freeI a).length (usedI b).length
def fillR (a b : Cr) : Cr × Cr × Int :=
  if (a.ok && b.ok) = true then ((fillS (freeI a) (usedI b) a b (fillN a b)).1, (fillS (freeI a) (usedI b) a b (fillN a b)).2, 0) else (zC, zC, 1)
theorem own_setRow {w : World} {B e size n : Nat} {v : Value} {xs : List Value} (h : w.ownsRow B e size v n xs) {g : Nat} (hg : g < B) (c : Array Value) : (w.setRow g c).ownsRow B e size v n xs := by
  obtain ⟨hl, h | ⟨g', cap, cur, hv, hb, hh, r⟩⟩ := h
  · exact ⟨hl, .inl h⟩
  · exact ⟨hl, .inr ⟨g', cap, cur, hv, hb, by rw [setRow_other w g g' c (by omega)]; exact hh, r⟩⟩
theorem own_setCell {w : World} {B e size n : Nat} {v : Value} {xs : List Value} (h : w.ownsRow B e size v n xs) {g o : Nat} (hg : g < B) (u : Value) : (w.setCell ⟨g, o, none⟩ u).ownsRow B e size v n xs := by
  obtain ⟨hl, h | ⟨g', cap, cur, hv, hb, hh, r⟩⟩ := h
  · exact ⟨hl, .inl h⟩
  · exact ⟨hl, .inr ⟨g', cap, cur, hv, hb, by rw [Below.heap_setCell w _ u g' (by show g' ≠ g; omega)]; exact hh, r⟩⟩
theorem own_drew {w : World} {B e size n : Nat} {v : Value} {xs : List Value} (h : w.ownsRow B e size v n xs) : w.drew.ownsRow B e size v n xs := h
/-- Two crates stored into the result's cells, from two worlds on. -/
theorem two_crates {w W : World} {g1 g2 : Nat} {A0 B0 A B : Array Value} (H : Below w.heap.size w W) (h1 : rowOf W g1 = some A0) (h2 : rowOf W g2 = some B0) (l1 : w.heap.size ≤ g1) (hlt : g1 < g2) :
    rowOf ((W.setRow g1 A).setRow g2 B) g1 = some A ∧ rowOf ((W.setRow g1 A).setRow g2 B) g2 = some B ∧ Below w.heap.size w ((W.setRow g1 A).setRow g2 B) := by
  refine ⟨?_, ?_, bsetRow (bsetRow H l1 _) (by omega) _⟩
  · rw [rowOf_setRow, if_neg (by omega), rowOf_setRow, if_pos rfl, h1]
    rfl
  · rw [rowOf_setRow, if_pos rfl, rowOf_setRow, if_neg (by omega), h2]
    rfl
section
variable {ops : Array Oper} {rest : List Oper} {o : Oper} {a : Act} {w : World} {Q : Exit → Act → World → Prop}
/-- The empty crate stored. -/
theorem wp_store_zeroW (hgd : o.guard = none) (hdst : o.dst = none) (x y : Operand) (ho : o.op = .store 28 x y) (g : Nat) (hx : a.eval x = .pointer (some ⟨g, 0, none⟩))
    (hy : a.eval y = .agg #[.int .u8 0, .int .i16 0, .int .u8 0, .int .i16 0, .int .u8 0, .int .i16 0, .int .u8 0, .int .i16 0, .int .u8 0, .int .i16 0, .int .u8 0, .int .i16 0, .int .u8 0, .int .i16 0, .int .u8 0, .int .i16 0, .int .u8 0, .int .i16 0, .int .u8 0, .int .i16 0, .int .u8 0, .int .i16 0, .int .u8 0, .int .i16 0])
    (c : Cr) (hr : rowOf w g = some (cc c).toArray) (h : wpList Try.prog ops Q rest a (w.setRow g (cc zC).toArray)) : wpList Try.prog ops Q (o :: rest) a w :=
  wp_store_rowOf hgd hdst 28 x y ho g hx (cc zC).toArray hy (cc c).toArray hr (cc_size2 _ _) (infoC zC) zC_one h
end
end Go.Proofs.Ytnhpgahapjjjbaa
