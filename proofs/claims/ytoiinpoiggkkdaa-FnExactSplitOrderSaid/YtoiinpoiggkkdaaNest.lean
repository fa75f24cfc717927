/- Owned slices of owned slices. -/
import Derived.Test.YtoiinpoiggkkdaaRuns
import Derived.Test.YtoiinpoiggkkdaaShort
namespace Go.Proofs.Ytoiinpoiggkkdaa
open Go.RowKit
set_option linter.unusedVariables false
set_option linter.unusedSimpArgs false
set_option maxRecDepth 100000
set_option maxHeartbeats 1000000
/-- A slice as an element. -/
def slv (v : Value) : List Value := [v]
theorem slv_length (v : Value) : (slv v).length = 1 := rfl
theorem fl_slv : ∀ vs : List Value, fl slv vs = vs
  | [] => rfl
  | v :: vs => by rw [fl_cons, fl_slv vs]; rfl
section
variable {α β : Type} {f : α → List Value} {f' : β → List Value} {w w' : World} {B B' e e' k k' : Nat} {v v' : Value} {l : List α} {l' : List β}
/-- Slices of elements of different types lie in different blocks. -/
theorem apart_types (h : OwnN f w B e k v l) (h' : OwnN f' w B' e' k' v' l') (he : e ≠ e') : Apart v v' := fun b hb hb' => by
  rcases h.2 with ⟨rfl, _⟩ | ⟨g, cap, cur, rfl, _, hh, _⟩
  · cases hb
  · rcases h'.2 with ⟨rfl, _⟩ | ⟨g', cap', cur', rfl, _, hh', _⟩
    · cases hb'
    · have e1 : g = b := by simpa [Value.ownBlock] using hb
      have e2 : g' = b := by simpa [Value.ownBlock] using hb'
      subst e1 e2
      rw [hh] at hh'
      simp at hh'
      exact he hh'.2
theorem OwnN.slice (h : OwnN f w B e k v l) : ∃ A c, v = .slice A l.length c := by
  obtain ⟨A, c, hv, _⟩ := h.rd
  exact ⟨A, c, hv⟩
/-- Slices ls of elements, owned, in an owned slice. -/
def OwnL (f : α → List Value) (k e E : Nat) (w : World) (B : Nat) (v : Value) (ls : List (List α)) : Prop :=
  ∃ vs : List Value, vs.length = ls.length ∧ OwnS slv w B E 1 v vs ∧ ∀ i, i < ls.length → OwnN f w B e k vs[i]! ls[i]!
variable {E : Nat} {ls : List (List α)}
theorem OwnL.kept (h : OwnL f k e E w B v ls) (hb : Below w.heap.size w w') : OwnL f k e E w' B v ls := by
  obtain ⟨vs, h1, h2, h3⟩ := h
  exact ⟨vs, h1, h2.kept hb, fun i hi => (h3 i hi).below hb⟩
theorem OwnL.down {b : Nat} (h : OwnL f k e E w B v ls) (hb : b ≤ B) : OwnL f k e E w b v ls := by
  obtain ⟨vs, h1, h2, h3⟩ := h
  exact ⟨vs, h1, h2.down hb, fun i hi => (h3 i hi).down hb⟩
theorem OwnL.lit (hB : B ≤ w.heap.size) : OwnL f k e E (w.alloc (.cells #[] E)) B (.slice (some ⟨w.heap.size, 0, none⟩) 0 0) [] :=
  ⟨[], rfl, OwnS.lit hB, fun i hi => absurd hi (Nat.not_lt_zero _)⟩
theorem OwnL.lies' (h : OwnL f k e E w B v ls) : ∃ g cap, v = .slice (some ⟨g, 0, none⟩) ls.length cap ∧ g < w.heap.size ∧ B ≤ g := by
  obtain ⟨vs, h1, h2, h3⟩ := h
  obtain ⟨g, cap, hv, K, hB, hg, _⟩ := h2.lies
  exact ⟨g, cap, by rw [← h1]; exact hv, hg, hB⟩
theorem OwnL.one {u : Value} {l : List α} (hB : B ≤ w.heap.size) (HU : OwnN f w B e k u l) : OwnL f k e E (w.alloc (.cells #[u] E)) B (.slice (some ⟨w.heap.size, 0, none⟩) 1 1) [l] :=
  ⟨[u], rfl, ⟨World.ownsRow_lit (base := B) (e := E) (size := 1) w #[u] 1 hB (by simp [maxLen]) (by simp), _, _, rfl⟩, fun i hi => by
    obtain rfl : i = 0 := by simp at hi; omega
    exact HU.below ((Below.refl _ w).alloc (Nat.le_refl _) _)⟩
theorem OwnL.but {v' : Value} {B' : Nat} {ls' : List (List α)} (h : OwnL f k e E w B v ls) (h' : OwnL f k e E w B' v' ls') (hb : ButV v' w w') (ha : Apart v' v) (hE : E ≠ e) : OwnL f k e E w' B v ls := by
  obtain ⟨vs, h1, h2, h3⟩ := h
  obtain ⟨vs', _, h2', _⟩ := h'
  exact ⟨vs, h1, ⟨h2.n.but hb ha, h2.2⟩, fun i hi => (h3 i hi).but hb (apart_types h2'.n (h3 i hi) hE)⟩
/-- A slice laid behind what another one lies in. -/
theorem OwnL.away {B' : Nat} {ls' : List (List α)} (h : OwnL f k e E w B v ls) (h' : OwnL f k e E w' B' v' ls') (hw : w'.heap.size ≤ B) : Apart v' v := by
  obtain ⟨_, _, h2, _⟩ := h
  obtain ⟨_, _, h2', _⟩ := h'
  exact h2'.n.apart h2.n hw
theorem OwnL.apart_away {v1 : Value} (h : OwnL f k e E w B v ls) (ha : Apart v' v) (hw : Away v' v1 w) : Apart v1 v := fun b hb hb' => by
  obtain ⟨g, cap, rfl, hg, _⟩ := h.lies'
  obtain rfl : g = b := by simpa [Value.ownBlock] using hb'
  exact hw g hg (fun q => ha g q rfl) hb
theorem OwnL.lies (h : OwnL f k e E w B v ls) : ∃ g cap, v = .slice (some ⟨g, 0, none⟩) ls.length cap ∧ g < w.heap.size ∧ B ≤ g ∧ ∀ i, i < ls.length → ∃ u, w.cell? ⟨g, i, none⟩ = some u ∧ OwnN f w B e k u ls[i]! := by
  obtain ⟨vs, h1, h2, h3⟩ := h
  obtain ⟨g, cap, hv, K, hB, hg, _⟩ := h2.lies
  refine ⟨g, cap, by rw [← h1]; exact hv, hg, hB, fun i hi => ⟨vs[i]!, ?_, h3 i hi⟩⟩
  have := K.c.el slv_length (i := i) (by omega) 0 vs[i]! rfl
  simpa using this
end
section
variable {α : Type} {f : α → List Value} {P : Program} {ops : Array Oper} {rest : List Oper} {o : Oper} {a : Act} {Q : Exit → Act → World → Prop} {W : World}
/-- append(v, x), x a slice. -/
theorem wp_app_in (B : Nat) (hgd : o.guard = none) (s x : Operand) (t E : TypeId) (ho : o.op = .call { callee := .builtin .append, args := #[s, x], argTypes := #[t, t] })
    (z : Value) (ht : P.underlying t = some (.slice E)) (hinfo : (P.info? E).map (fun i => (i.zero, i.size, i.bytes)) = some (some z, 1, 24)) (hzs : z.cells.size = 1) (k e : Nat) (hE : E ≠ e)
    (v : Value) (ls : List (List α)) (l : List α) (u : Value) (hs : a.eval s = v) (g : Nat) (hx : a.eval x = .slice (some ⟨g, 0, none⟩) 1 1) (hg : g = W.heap.size)
    (HO : OwnL f k e E W B v ls) (HU : OwnN f W B e k u l) (hB : B ≤ W.heap.size) (hn : ls.length ≤ 100000000)
    (h : ∀ v1 w1, OwnL f k e E w1 B v1 (ls ++ [l]) → (Below B W w1 ∧ ButV v W w1 ∧ Away v v1 W) → wpList P ops Q rest (a.put o.dst v1) w1) : wpList P ops Q (o :: rest) a (W.alloc (.cells #[u] E)) := by
  obtain ⟨vs, h1, h2, h3⟩ := HO
  refine wp_app3 (P := P) B hgd s x t E ho z 1 24 ht hinfo hzs (by decide) v vs.length (fl slv vs) [u] hs g hx hg rfl (fun q hq => ?_) h2.1 hB (by omega) (by decide) (fun v1 w1 hown hb => h v1 w1 ⟨vs ++ [u], by simp [h1], OwnS.grown (by rw [List.length_append, fl_append, fl_one]; exact hown), fun i hi => ?_⟩ hb)
  · obtain rfl : q = u := by simpa using hq
    obtain ⟨A, c, rfl⟩ := HU.slice
    rfl
  · rw [List.length_append, List.length_singleton] at hi
    rcases Nat.lt_or_ge i ls.length with q | q
    · have e1 : (vs ++ [u])[i]! = vs[i]! := by rw [getB (by simp; omega), getB (by omega), List.getElem_append_left (by omega)]
      have e2 : (ls ++ [l])[i]! = ls[i]! := by rw [getB (by simp; omega), getB q, List.getElem_append_left q]
      rw [e1, e2]
      exact (h3 i q).but hb.2.1 (apart_types h2.n (h3 i q) hE)
    · have e1 : (vs ++ [u])[i]! = u := by rw [getB (by simp; omega), List.getElem_append_right (by omega)]; simp
      have e2 : (ls ++ [l])[i]! = l := by rw [getB (by simp; omega), List.getElem_append_right q]; simp
      rw [e1, e2]
      exact HU.but hb.2.1 (apart_types h2.n HU hE)
end
end Go.Proofs.Ytoiinpoiggkkdaa
