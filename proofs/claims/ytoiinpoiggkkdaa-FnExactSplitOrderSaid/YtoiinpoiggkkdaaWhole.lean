/- Contracts of PackStack: all bottles of a stack, in order, packed. -/
import Derived.Test.YtoiinpoiggkkdaaPure
import Derived.Laws.AppendOwnNone
namespace Go.Proofs.Ytoiinpoiggkkdaa
open Go Go.RowKit
set_option linter.unusedVariables false
set_option linter.unusedSimpArgs false
set_option maxRecDepth 100000
set_option maxHeartbeats 1000000
attribute [local go_sem] Oper.qB
section
variable {α : Type} {f : α → List Value} {P : Program} {ops : Array Oper} {rest : List Oper} {o : Oper} {a : Act} {Q : Exit → Act → World → Prop} {W : World}
/-- append(v, ys...), the second one nil or not. -/
theorem wp_app_any (B : Nat) (hgd : o.guard = none) (s x : Operand) (t e : TypeId) (ho : o.op = .call { callee := .builtin .append, args := #[s, x], argTypes := #[t, t] })
    (z : Value) (size bytes : Nat) (ht : P.underlying t = some (.slice e)) (hinfo : (P.info? e).map (fun i => (i.zero, i.size, i.bytes)) = some (some z, size, bytes)) (hzs : z.cells.size = size) (hsz : 0 < size)
    (hf : ∀ x, (f x).length = size) (h1 : ∀ x, ∀ u ∈ f x, u.oneCell' = true)
    (v : Value) (l : List α) (hs : a.eval s = v) (u : Value) (B' : Nat) (ys : List α) (hx : a.eval x = u)
    (HO : OwnS f W B e size v l) (HY : OwnN f W B' e size u ys) (hB : B ≤ W.heap.size) (hn : l.length + ys.length ≤ 100000000) (hby : bytes ≤ 1000)
    (h : ∀ v1 w1, OwnS f w1 B e size v1 (l ++ ys) → Below B W w1 ∧ ButV v W w1 → wpList P ops Q rest (a.put o.dst v1) w1) : wpList P ops Q (o :: rest) a W := by
  rcases HY.cases hsz hf with ⟨rfl, rfl⟩ | ⟨g, cap, rfl⟩
  · obtain ⟨i0, hi, hzz⟩ := Option.map_eq_some_iff.1 hinfo
    refine wpList_append_own_none hgd s x t ho B e i0 size ht hi v l.length (fl f l) hs HO.1 hx ?_
    exact h v W (by rw [List.append_nil]; exact HO) ⟨Below.refl _ _, ButV.refl⟩
  · exact wp_app_el B hgd s x t e ho z size bytes ht hinfo hzs hsz hf h1 v l hs g cap ys hx HO HY.lies hB hn hby h
end
/-- All bottles of crates. -/
def wholeL (L : List Cr) : List Bt := L.flatMap allB
theorem wholeL_step {L : List Cr} {k : Nat} (hk : k < L.length) : wholeL (L.take (k + 1)) = wholeL (L.take k) ++ allB L[k]! := by
  unfold wholeL
  rw [List.take_succ_eq_append_getElem hk, getB hk, List.flatMap_append]
  simp
theorem wholeL_le : ∀ L : List Cr, (wholeL L).length ≤ 12 * L.length
  | [] => by simp [wholeL]
  | c :: L => by
    have h := wholeL_le L
    have hc := allB_le c
    have e : wholeL (c :: L) = allB c ++ wholeL L := by simp [wholeL]
    rw [e, List.length_append, List.length_cons]
    omega
def packR (L : List Cr) : List Cr × Int := if stackOk L = true then (packL (sortB (wholeL L)), 0) else ([], 1)
theorem stack_le {L : List Cr} (h : stackOk L = true) : L.length ≤ 12 := by
  simp [stackOk] at h
  exact h.1
theorem packR_le (L : List Cr) : (packR L).1.length ≤ 12 := by
  unfold packR
  split
  · rename_i h
    have := stack_le h
    have := wholeL_le L
    show (packK _ _).length ≤ 12
    rw [packK_length, sortB_length]
    omega
  · simp
end Go.Proofs.Ytoiinpoiggkkdaa
