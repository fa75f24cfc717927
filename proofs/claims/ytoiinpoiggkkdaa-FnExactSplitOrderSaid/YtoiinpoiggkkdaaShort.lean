/- Contracts of ShortIn and CanFill: what an order lacks in a stack. -/
import Derived.Test.YtoiinpoiggkkdaaOpen
import Derived.Test.YtoiinpoiggkkdaaMarkW
namespace Go.Proofs.Ytoiinpoiggkkdaa
open Go.RowKit
set_option linter.unusedVariables false
set_option linter.unusedSimpArgs false
set_option maxRecDepth 100000
set_option maxHeartbeats 1000000
attribute [local go_sem] Oper.qB
/-- All numbers of crates. -/
def everyL (n : Nat) : List Int := (List.range n).map Int.ofNat
theorem everyL_length (n : Nat) : (everyL n).length = n := by simp [everyL]
theorem everyL_succ (n : Nat) : everyL (n + 1) = everyL n ++ [(n : Int)] := by simp [everyL, List.range_succ]
theorem everyL_at {n i : Nat} (h : i < n) : (everyL n).getD i 0 = (i : Int) := by simp [everyL, List.getD_eq_getElem?_getD, h]
theorem everyL_take {n i : Nat} (h : i ≤ n) : (everyL n).take i = everyL i := by simp [everyL, ← List.map_take, List.take_range, Nat.min_eq_left h]
theorem everyL_in {n : Nat} {x : Int} (h : x ∈ everyL n) : 0 ≤ x ∧ x < n := by
  simp only [everyL, List.mem_map, List.mem_range] at h
  obtain ⟨i, hi, rfl⟩ := h
  exact ⟨Int.natCast_nonneg i, by show (i : Int) < n; omega⟩
theorem opK_every (lc : List Cr) : ∀ j, j ≤ lc.length → opK lc (everyL lc.length) j = lc.take j
  | 0, _ => by simp [opK]
  | j + 1, h => by
    have hf : fresh (everyL lc.length) j = true := by
      unfold fresh
      rw [everyL_at (by omega), everyL_take (by omega), Bool.not_eq_true', ← Bool.not_eq_true, List.contains_eq_mem, decide_eq_true_iff]
      intro hm
      have := (everyL_in hm).2
      omega
    rw [opK_yes hf, opK_every lc j (by omega), everyL_at (by omega), Int.toNat_natCast, List.take_succ_eq_append_getElem (by omega), getB (by omega)]
theorem opL_every (lc : List Cr) : opL lc (everyL lc.length) = lc := by
  unfold opL
  rw [everyL_length, opK_every lc _ (Nat.le_refl _), List.take_length]
def askOk (lc : List Cr) (l : List Wt) : Bool := stackOk lc && ordOk l
theorem ask_le {lc : List Cr} {l : List Wt} (h : askOk lc l = true) : lc.length ≤ 12 ∧ l.length ≤ 8 := by
  simp [askOk, stackOk, ordOk] at h
  omega
def askI (lc : List Cr) (l : List Wt) : Int := if askOk lc l = true then 0 else 1
def shortR (lc : List Cr) (l : List Wt) : List Wt × Int := if askOk lc l = true then (lackL (cntL lc) l, 0) else ([], 1)
def canR (lc : List Cr) (l : List Wt) : Bool × Int := if askOk lc l = true then ((lackL (cntL lc) l).isEmpty, 0) else (false, 1)
theorem shortR_le (lc : List Cr) (l : List Wt) : (shortR lc l).1.length ≤ 8 := by
  unfold shortR
  split
  · rename_i h
    have := lackL_le (cntL lc) l
    have := ask_le h
    show (lackL (cntL lc) l).length ≤ 8
    omega
  · simp
theorem OwnS.n {α : Type} {f : α → List Value} {w : World} {B e size : Nat} {v : Value} {l : List α} (h : OwnS f w B e size v l) : OwnN f w B e size v l := h.1
theorem OwnN.nil {α : Type} {f : α → List Value} {w : World} {B e size : Nat} : OwnN f w B e size (.slice none 0 0) ([] : List α) := own_nil
theorem len_none (n : Nat) {α : Type} (l : List α) (h : l.length = n) : ((n : Int) == 0) = l.isEmpty := by
  subst h
  cases l with
  | nil => rfl
  | cons x l =>
    simp only [List.isEmpty_cons, beq_eq_false_iff_ne, List.length_cons]
    omega
end Go.Proofs.Ytoiinpoiggkkdaa
