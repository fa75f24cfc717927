/- Contracts of CasesFor: the bottles of an order packed into crates. -/
import Derived.Test.YtoiinpoiggkkdaaPack
import Derived.Test.YtoiinpoiggkkdaaShort
namespace Go.Proofs.Ytoiinpoiggkkdaa
open Go.RowKit
set_option linter.unusedVariables false
set_option linter.unusedSimpArgs false
set_option maxRecDepth 100000
set_option maxHeartbeats 1000000
attribute [local go_sem] Oper.qB
section
variable {α : Type} {f : α → List Value} {P : Program} {ops : Array Oper} {rest : List Oper} {o : Oper} {a : Act} {Q : Exit → Act → World → Prop} {W : World}
/-- append(v, ys...) -/
theorem wp_app_el (B : Nat) (hgd : o.guard = none) (s x : Operand) (t e : TypeId) (ho : o.op = .call { callee := .builtin .append, args := #[s, x], argTypes := #[t, t] })
    (z : Value) (size bytes : Nat) (ht : P.underlying t = some (.slice e)) (hinfo : (P.info? e).map (fun i => (i.zero, i.size, i.bytes)) = some (some z, size, bytes)) (hzs : z.cells.size = size) (hsz : 0 < size)
    (hf : ∀ x, (f x).length = size) (h1 : ∀ x, ∀ u ∈ f x, u.oneCell' = true)
    (v : Value) (l : List α) (hs : a.eval s = v) (g mc : Nat) (ys : List α) (hx : a.eval x = .slice (some ⟨g, 0, none⟩) ys.length mc)
    (HO : OwnS f W B e size v l) (HY : Lies f W g ys) (hB : B ≤ W.heap.size) (hn : l.length + ys.length ≤ 100000000) (hby : bytes ≤ 1000)
    (h : ∀ v1 w1, OwnS f w1 B e size v1 (l ++ ys) → Below B W w1 ∧ ButV v W w1 → wpList P ops Q rest (a.put o.dst v1) w1) : wpList P ops Q (o :: rest) a W := by
  obtain ⟨i0, hi, hzz⟩ := Option.map_eq_some_iff.1 hinfo
  simp only [Prod.mk.injEq] at hzz
  obtain ⟨hz0, hz1, hz2⟩ := hzz
  refine wpList_append_own W hgd s x t ho B e i0 z size bytes ht hi hz0 hz1 hz2 hzs hsz v l.length (fl f l) hs HO.1 ⟨g, 0, none⟩ ys.length mc (fl f ys) hx (fl_length hf ys) (fun j u hj => ?_) (fl_ones h1 ys) (by simp only [maxLen]; omega) ?_ hB ?_
  · rw [addr_at]
    have := HY.c j u hj
    rwa [Nat.zero_add] at this
  · calc (l.length + ys.length) * bytes ≤ 100000000 * 1000 := Nat.mul_le_mul hn hby
      _ ≤ 140737488355328 := by decide
  intro v1 w1 hown hg hnil
  have hb : Below B W w1 := (Below.refl B W).grown hg hB (fun k hk => own_base HO.1 k hk)
  have hO1 : w1.ownsRow B e size v1 (l ++ ys).length (fl f (l ++ ys)) := by rw [List.length_append, fl_append]; exact hown
  refine h v1 w1 ⟨hO1, ?_⟩ ⟨hb, ⟨hb.os, hb.tape, hb.output, hb.size, fun k hk => absurd hk (Nat.not_lt_zero _)⟩, fun b hb1 hv => hg.block b hb1 (fun e => hv e.symm)⟩
  rcases hO1.2 with ⟨h0, _⟩ | ⟨g', cap', cur, hv, _⟩
  · obtain ⟨_, g0, cap0, rfl⟩ := HO
    have := (hnil.1 h0).1
    cases this
  · exact ⟨g', cap', hv⟩
end
def casesR (l : List Wt) : List Cr × Int := if ordOk l = true then (packL (botsL l), 0) else ([], 1)
theorem casesR_le (l : List Wt) : (casesR l).1.length ≤ 30000 := by
  unfold casesR
  split
  · rename_i h
    have h8 : l.length ≤ 8 := by simp [ordOk] at h; exact h.2
    have := botsL_le l
    show (packK _ _).length ≤ 30000
    rw [packK_length]
    omega
  · simp
theorem ok_nonneg {l : List Wt} (h : ordOk l = true) : ∀ x ∈ l, 0 ≤ x.n := fun x hx => by
  have h1 : okK l l.length := by simp [ordOk] at h; exact h.1
  obtain ⟨i, hi, rfl⟩ := List.getElem_of_mem hx
  have := (h1 i hi).1
  rw [getB hi] at this
  simp [Wt.ok] at this
  omega
end Go.Proofs.Ytoiinpoiggkkdaa
