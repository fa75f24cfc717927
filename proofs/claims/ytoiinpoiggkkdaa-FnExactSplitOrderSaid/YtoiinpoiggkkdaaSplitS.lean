/- Owned slices of owned slices that lie where they may: grown, and their last one grown. -/
import Derived.Test.YtoiinpoiggkkdaaSplitP
import Derived.Test.YtoiinpoiggkkdaaNestW
import Derived.Test.YtoiinpoiggkkdaaJoin
namespace Go.Proofs.Ytoiinpoiggkkdaa
open Go.RowKit
set_option linter.unusedVariables false
set_option linter.unusedSimpArgs false
set_option maxRecDepth 100000
set_option maxHeartbeats 1000000
attribute [local go_sem] Oper.qB
theorem elt_old {β : Type} [Inhabited β] {vs : List β} {v : β} {i : Nat} (h : i < vs.length) : (vs ++ [v])[i]! = vs[i]! := by
  rw [getB (by simp; omega), getB h, List.getElem_append_left h]
theorem elt_new {β : Type} [Inhabited β] {vs : List β} {v : β} {i : Nat} (h : i = vs.length) : (vs ++ [v])[i]! = v := by
  subst h
  rw [getB (by simp)]
  simp
theorem cellB {w w' : World} {g o : Nat} (h : w'.heap[g]? = w.heap[g]?) : w'.cell? ⟨g, o, none⟩ = w.cell? ⟨g, o, none⟩ := by
  unfold World.cell?
  rw [h]
theorem row_butS {w w' : World} {g : Nat} {cs : Array Value} {v : Value} (h : rowOf w g = some cs) (hb : ButV v w w') (hv : v.ownBlock ≠ some g) : rowOf w' g = some cs := by
  obtain ⟨t, ht⟩ := rowOf_some h
  rw [rowOf_of ((hb.2 g (rowOf_lt h) hv).trans ht)]
theorem belowV {w w' : World} (h : Below w.heap.size w w') (v : Value) : ButV v w w' := ⟨h.mono (Nat.zero_le _), fun b hb _ => h.block b hb⟩
section
variable {α : Type} {f : α → List Value} {w w' : World} {B k e E : Nat} {v : Value} {ls : List (List α)} {S S' : Nat → Prop}
/-- All blocks are such as S tells. -/
def OwnP (S : Nat → Prop) (f : α → List Value) (k e E : Nat) (w : World) (B : Nat) (v : Value) (ls : List (List α)) : Prop :=
  ∃ vs : List Value, vs.length = ls.length ∧ OwnS slv w B E 1 v vs ∧ (∀ i, i < ls.length → OwnS f w B e k vs[i]! ls[i]! ∧ ∀ b, vs[i]!.ownBlock = some b → S b) ∧ (∀ i j, i < j → j < ls.length → Apart vs[i]! vs[j]!) ∧ ∀ b, v.ownBlock = some b → S b
theorem OwnP.a (h : OwnP S f k e E w B v ls) : OwnA f k e E w B w.heap.size v ls := by
  obtain ⟨vs, h1, h2, h3, h4, h5⟩ := h
  exact ⟨vs, h1, h2, fun i hi => ⟨(h3 i hi).1, (h3 i hi).1.n.lt⟩, h4⟩
theorem OwnP.kept (h : OwnP S f k e E w B v ls) (hb : Below w.heap.size w w') : OwnP S f k e E w' B v ls := by
  obtain ⟨vs, h1, h2, h3, h4, h5⟩ := h
  exact ⟨vs, h1, h2.kept hb, fun i hi => ⟨(h3 i hi).1.kept hb, (h3 i hi).2⟩, h4, h5⟩
theorem OwnP.imp (h : OwnP S f k e E w B v ls) (hS : ∀ b, b < w.heap.size → S b → S' b) : OwnP S' f k e E w B v ls := by
  obtain ⟨vs, h1, h2, h3, h4, h5⟩ := h
  exact ⟨vs, h1, h2, fun i hi => ⟨(h3 i hi).1, fun b hb => hS b ((h3 i hi).1.n.lt b hb) ((h3 i hi).2 b hb)⟩, h4, fun b hb => hS b (h2.n.lt b hb) (h5 b hb)⟩
theorem OwnP.lit (hB : B ≤ w.heap.size) (hS : ∀ b, w.heap.size ≤ b → S b) : OwnP S f k e E (w.alloc (.cells #[] E)) B (.slice (some ⟨w.heap.size, 0, none⟩) 0 0) [] :=
  ⟨[], rfl, OwnS.lit hB, fun i hi => absurd hi (Nat.not_lt_zero _), fun i j _ hj => absurd hj (Nat.not_lt_zero _), fun b hb => hS b (by
    obtain rfl : w.heap.size = b := by simpa [Value.ownBlock] using hb
    exact Nat.le_refl _)⟩
theorem OwnP.head (h : OwnP S f k e E w B v ls) : ∀ b, v.ownBlock = some b → S b := by
  obtain ⟨vs, h1, h2, h3, h4, h5⟩ := h
  exact h5
theorem OwnP.form (h : OwnP S f k e E w B v ls) : ∃ g cap, v = .slice (some ⟨g, 0, none⟩) ls.length cap := h.a.form
theorem OwnS.far {l : List α} (h : OwnS f w B e k v l) {g o : Nat} (hg : v.ownBlock ≠ some g) (u : Value) : OwnS f (w.setCell ⟨g, o, none⟩ u) B e k v l := ⟨ownsRow_setCell_other h.1 hg u, h.2⟩
theorem OwnP.far (h : OwnP S f k e E w B v ls) {g o : Nat} (hg : ¬ S g) (u : Value) : OwnP S f k e E (w.setCell ⟨g, o, none⟩ u) B v ls := by
  obtain ⟨vs, h1, h2, h3, h4, h5⟩ := h
  exact ⟨vs, h1, h2.far (fun q => hg (h5 g q)) u, fun i hi => ⟨(h3 i hi).1.far (fun q => hg ((h3 i hi).2 g q)) u, (h3 i hi).2⟩, h4, h5⟩
theorem OwnS.but {l : List α} {v' : Value} (h : OwnS f w B e k v l) (hb : ButV v' w w') (ha : Apart v' v) : OwnS f w' B e k v l := ⟨h.n.but hb ha, h.2⟩
/-- The last one, and what may be put in its place. -/
theorem OwnP.last {p : List (List α)} {l : List α} (h : OwnP S f k e E w B v (p ++ [l])) (hE : E ≠ e) :
    ∃ g cap u, v = .slice (some ⟨g, 0, none⟩) (p.length + 1) cap ∧ B ≤ g ∧ g < w.heap.size ∧ S g ∧ w.cell? ⟨g, p.length, none⟩ = some u ∧ OwnS f w B e k u l ∧ (∀ b, u.ownBlock = some b → S b) ∧ u.ownBlock ≠ some g ∧
      ∀ w2 u' l', OwnS f w2 B e k u' l' → (∀ b, u'.ownBlock = some b → S b) → ButV u w w2 → Away u u' w →
        w2.frozen? ⟨g, p.length, none⟩ = false ∧ OwnP S f k e E (w2.setCell ⟨g, p.length, none⟩ u') B (.slice (some ⟨g, 0, none⟩) (p.length + 1) cap) (p ++ [l']) := by
  obtain ⟨vs, h1, h2, h3, h4, h5⟩ := h
  have hl : vs.length = p.length + 1 := by rw [h1]; simp
  have hlast := h3 p.length (by simp)
  have el : (p ++ [l])[p.length]! = l := elt_new rfl
  rw [el] at hlast
  obtain ⟨hU, hUS⟩ := hlast
  obtain ⟨g, cap, hv, K, hB, hg, _⟩ := h2.lies
  have hu := K.c.el slv_length (i := p.length) (by omega) 0 vs[p.length]! rfl
  rw [hl] at hv
  have hAt := apart_types h2.n hU.n hE
  refine ⟨g, cap, vs[p.length]!, hv, hB, hg, h5 g (by rw [hv]; rfl), by simpa using hu, hU, hUS, fun q => hAt g (by rw [hv]; rfl) q, fun w2 u' l' hU' hS' hb ha => ?_⟩
  have h2' := h2.but hb hAt.symm
  rw [hv] at h2'
  have hst0 := h2'.1
  rw [hl] at hst0
  have hst := (hst0.stored p.length u').1
  have hON : OwnS slv (w2.setCell ⟨g, p.length, none⟩ u') B E 1 (.slice (some ⟨g, 0, none⟩) (p.length + 1) cap) (vs.set p.length u') := by
    refine ⟨?_, g, cap, by rw [List.length_set, hl]⟩
    rw [fl_slv] at hst ⊢
    rw [List.length_set, hl]
    exact hst
  have hBV : ButV (.slice (some ⟨g, 0, none⟩) (p.length + 1) cap) w2 (w2.setCell ⟨g, p.length, none⟩ u') := ButV.set
  refine ⟨hst0.frozenAt p.length, vs.set p.length u', by rw [List.length_set, hl]; simp, hON, fun i hi => ?_, fun i j hij hj => ?_, fun b hb' => h5 b (by rw [hv]; exact hb')⟩
  · have hi' : i < p.length + 1 := by simpa using hi
    rcases Nat.lt_or_ge i p.length with q | q
    · have e1 : (vs.set p.length u')[i]! = vs[i]! := by rw [getB (by rw [List.length_set]; omega), getB (by omega), List.getElem_set_ne (by omega)]
      have e2 : (p ++ [l'])[i]! = (p ++ [l])[i]! := by rw [elt_old q, elt_old q]
      rw [e1, e2]
      have h3i := h3 i (by simp; omega)
      have h3i' := h3i.1.but hb ((h4 i p.length q (by simp)).symm)
      exact ⟨h3i'.but hBV (apart_types h2'.n h3i'.n hE), h3i.2⟩
    · obtain rfl : i = p.length := by omega
      have e1 : (vs.set p.length u')[p.length]! = u' := by rw [getB (by rw [List.length_set]; omega), List.getElem_set_self]
      rw [e1, elt_new rfl]
      exact ⟨hU'.but hBV (apart_types h2'.n hU'.n hE), hS'⟩
  · have hj' : j < p.length + 1 := by simpa using hj
    have e1 : (vs.set p.length u')[i]! = vs[i]! := by rw [getB (by rw [List.length_set]; omega), getB (by omega), List.getElem_set_ne (by omega)]
    rcases Nat.lt_or_ge j p.length with q | q
    · have e2 : (vs.set p.length u')[j]! = vs[j]! := by rw [getB (by rw [List.length_set]; omega), getB (by omega), List.getElem_set_ne (by omega)]
      rw [e1, e2]
      exact h4 i j hij (by simp; omega)
    · obtain rfl : j = p.length := by omega
      have e2 : (vs.set p.length u')[p.length]! = u' := by rw [getB (by rw [List.length_set]; omega), List.getElem_set_self]
      rw [e1, e2]
      intro b hb1 hb2
      exact ha b ((h3 i (by simp; omega)).1.n.lt b hb1) (fun q => h4 i p.length hij (by simp) b hb1 q) hb2
end
section
variable {α : Type} {f : α → List Value} {P : Program} {ops : Array Oper} {rest : List Oper} {o : Oper} {a : Act} {Q : Exit → Act → World → Prop} {W : World} {S S0 : Nat → Prop}
/-- append(v, u), u a slice that lies apart. -/
theorem wp_app_inP (B : Nat) (hgd : o.guard = none) (s x : Operand) (t E : TypeId) (ho : o.op = .call { callee := .builtin .append, args := #[s, x], argTypes := #[t, t] })
    (z : Value) (ht : P.underlying t = some (.slice E)) (hinfo : (P.info? E).map (fun i => (i.zero, i.size, i.bytes)) = some (some z, 1, 24)) (hzs : z.cells.size = 1) (k e : Nat) (hE : E ≠ e)
    (v : Value) (ls : List (List α)) (l : List α) (u : Value) (hs : a.eval s = v) (g : Nat) (hx : a.eval x = .slice (some ⟨g, 0, none⟩) 1 1) (hg : g = W.heap.size)
    (HO : OwnP S0 f k e E W B v ls) (HU : OwnS f W B e k u l) (hu : ∀ b, u.ownBlock = some b → ¬ S0 b ∧ S b) (hSS : ∀ b, S0 b → S b) (hSn : ∀ b, W.heap.size ≤ b → S b) (hB : B ≤ W.heap.size) (hn : ls.length ≤ 100000000)
    (h : ∀ v1 w1, OwnP S f k e E w1 B v1 (ls ++ [l]) → (Below B W w1 ∧ ButV v W w1 ∧ Away v v1 W) → wpList P ops Q rest (a.put o.dst v1) w1) : wpList P ops Q (o :: rest) a (W.alloc (.cells #[u] E)) := by
  obtain ⟨vs, h1, h2, h3, h4, h5⟩ := HO
  refine wp_app3 (P := P) B hgd s x t E ho z 1 24 ht hinfo hzs (by decide) v vs.length (fl slv vs) [u] hs g hx hg rfl (fun q hq => ?_) h2.1 hB (by omega) (by decide) (fun v1 w1 hown hb => h v1 w1 ⟨vs ++ [u], by simp [h1], OwnS.grown (by rw [List.length_append, fl_append, fl_one]; exact hown), fun i hi => ?_, fun i j hij hj => ?_, fun b hb' => ?_⟩ hb)
  · obtain rfl : q = u := by simpa using hq
    obtain ⟨g', c, rfl⟩ := HU.2
    rfl
  · rw [List.length_append, List.length_singleton] at hi
    rcases Nat.lt_or_ge i ls.length with q | q
    · rw [elt_old (by omega), elt_old q]
      exact ⟨(h3 i q).1.but hb.2.1 (apart_types h2.n (h3 i q).1.n hE), fun b hb' => hSS b ((h3 i q).2 b hb')⟩
    · rw [elt_new (by omega), elt_new (by omega)]
      exact ⟨HU.but hb.2.1 (apart_types h2.n HU.n hE), fun b hb' => (hu b hb').2⟩
  · rw [List.length_append, List.length_singleton] at hj
    rw [elt_old (i := i) (by omega)]
    rcases Nat.lt_or_ge j ls.length with q | q
    · rw [elt_old (by omega)]
      exact h4 i j hij q
    · rw [elt_new (by omega)]
      exact fun b hb1 hb2 => (hu b hb2).1 ((h3 i (by omega)).2 b hb1)
  · rcases Nat.lt_or_ge b W.heap.size with q | q
    · refine hSS b (h5 b ?_)
      exact Classical.byContradiction fun hne => hb.2.2 b q hne hb'
    · exact hSn b q
end
/-- append(v, x), run, and where the new slice lies. -/
theorem app_w3 (B : Nat) (W : World) (v : Value) (l : List Wt) (y : Wt) (HO : OwnS wc W B 43 3 v l) (hB : B ≤ W.heap.size) (hn : l.length ≤ 100000000) (ty : TypeId) :
    ∃ v1 w1, (Builtin.append_ #[27, 27] ty #[v, .slice (some ⟨W.heap.size, 0, none⟩) 1 1]).run Try.prog (W.alloc (.cells #[.int .u8 y.b.k, .int .i16 y.b.y, .int .i16 y.n] 43)) = .ok v1 w1 ∧ OwnS wc w1 B 43 3 v1 (l ++ [y]) ∧ Below B W w1 ∧ ButV v W w1 ∧ Away v v1 W := by
  obtain ⟨i0, hi, hzz⟩ := Option.map_eq_some_iff.1 infoWantS
  simp only [Prod.mk.injEq] at hzz
  obtain ⟨hz0, hz1, hz2⟩ := hzz
  obtain ⟨v1, w1, hrun, hown, hg, -, hblk⟩ := run_append_own_at (P := Try.prog) (W.alloc (.cells (wc y).toArray 43)) B 27 ty 43 i0 _ 3 6 Try.underlying27 hi hz0 hz1 hz2 rfl (by decide) v l.length (fl wc l) (HO.1.alloc _) ⟨W.heap.size, 0, none⟩ 1 1 (wc y) rfl
    (fun j u hj => by rw [addr_at]; simp only [World.cell?_alloc_new]; simpa using hj) (fun u hu => wv_one y u (by simpa using hu)) (by simp only [maxLen]; omega) (by omega) (by simp; omega)
  have hb := ((Below.refl B W).alloc hB (.cells (wc y).toArray 43)).grown hg (by simp; omega) (fun k hk => own_base HO.1 k hk)
  refine ⟨v1, w1, hrun, OwnS.grown (by rw [List.length_append, fl_append, fl_one]; exact hown), hb, ⟨⟨hb.os, hb.tape, hb.output, hb.size, fun k hk => absurd hk (Nat.not_lt_zero _)⟩, fun b hb1 hv => ?_⟩, fun b hb1 hv he => ?_⟩
  · rw [hg.block b (by simp; omega) (fun e => hv e.symm)]
    exact (Below.refl W.heap.size W).alloc (Nat.le_refl _) (.cells (wc y).toArray 43) |>.block b hb1
  · rcases hblk with h | h
    · rw [h] at he
      exact hv he
    · rw [h] at he
      simp at he
      omega
end Go.Proofs.Ytoiinpoiggkkdaa
