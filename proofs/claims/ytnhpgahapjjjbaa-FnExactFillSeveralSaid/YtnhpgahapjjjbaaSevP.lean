/- Several orders filled one after the other: what it computes. -/
import Derived.Test.YtnhpgahapjjjbaaOutL
namespace Go.Proofs.Ytnhpgahapjjjbaa
open Go.RowKit
set_option linter.unusedVariables false
set_option linter.unusedSimpArgs false
set_option maxRecDepth 100000
theorem Bt.fine_z : Bt.fine zB = true := by decide
theorem ok_put {L : List Cr} {j p : Nat} (hj : j < L.length) (h : ∀ c ∈ L, Cr.ok c = true) : ∀ c ∈ putL L j p zB, Cr.ok c = true := by
  intro c hc
  rcases List.mem_or_eq_of_mem_set hc with q | rfl
  · exact h c q
  · have h1 := h L[j]! (by rw [getB hj]; exact List.getElem_mem hj)
    unfold Cr.ok at h1 ⊢
    rw [setC_toList, List.all_eq_true]
    intro b hb
    rcases List.mem_or_eq_of_mem_set hb with q | rfl
    · exact List.all_eq_true.1 h1 b q
    · exact Bt.fine_z
theorem tkP_ok (b : Bt) (k : Nat) (s : List Cr × List Bt × Int) (hk : k < s.1.length) (h : ∀ c ∈ s.1, Cr.ok c = true) : ∀ p, ∀ c ∈ (tkP b k p s).1, Cr.ok c = true
  | 0 => h
  | p + 1 => by
    have ih := tkP_ok b k s hk h p
    have hl := (tkP_stay b k p s).len
    rw [tkP, tkStep]
    split
    · exact ok_put (by rw [hl]; exact hk) ih
    · exact ih
theorem tkK_ok (b : Bt) (ks : List Int) (s : List Cr × List Bt × Int) (hk : ∀ x ∈ ks, 0 ≤ x ∧ x < s.1.length) (h : ∀ c ∈ s.1, Cr.ok c = true) : ∀ j, j ≤ ks.length → ∀ c ∈ (tkK b ks j s).1, Cr.ok c = true
  | 0, _ => h
  | j + 1, hj => by
    rw [tkK]
    refine tkP_ok b _ _ ?_ (tkK_ok b ks s hk h j (by omega)) 12
    rw [(tkK_stay b ks j s).len]
    have := hk _ (getD_mem (show j < ks.length by omega))
    omega
theorem tkW_ok (lc : List Cr) (l : List Wt) (ks : List Int) (hk : ∀ x ∈ ks, 0 ≤ x ∧ x < lc.length) (h : ∀ c ∈ lc, Cr.ok c = true) : ∀ i, ∀ c ∈ (tkW lc l ks i).1, Cr.ok c = true
  | 0 => h
  | i + 1 => by
    rw [tkW]
    exact tkK_ok _ ks _ (by rw [show ((tkW lc l ks i).1, (tkW lc l ks i).2, l[i]!.n).1.length = lc.length from tkW_len lc l ks i]; exact hk) (tkW_ok lc l ks hk h i) ks.length (Nat.le_refl _)
theorem outL_stack {lc : List Cr} {l : List Wt} {ks : List Int} (hk : ∀ x ∈ ks, 0 ≤ x ∧ x < lc.length) (h : stackOk lc = true) : stackOk (outL lc l ks).1 = true := by
  simp only [stackOk, Bool.and_eq_true, decide_eq_true_iff, List.all_eq_true] at h ⊢
  refine ⟨?_, tkW_ok lc l ks hk h.2 l.length⟩
  show (tkW lc l ks l.length).1.length ≤ 12
  rw [tkW_len]
  exact h.1
theorem sum_sub {α : Type} [DecidableEq α] (g : α → Nat) : ∀ (ks L : List α), ks.Nodup → (∀ x ∈ ks, x ∈ L) → (ks.map g).sum ≤ (L.map g).sum
  | [], L, _, _ => by simp
  | x :: ks, L, hn, hs => by
    have hx := hs x (List.mem_cons_self ..)
    have hp := List.perm_cons_erase hx
    rw [List.nodup_cons] at hn
    have ih := sum_sub g ks (L.erase x) hn.2 fun y hy => (List.mem_erase_of_ne (show y ≠ x from fun e => hn.1 (by rw [← e]; exact hy))).2 (hs y (List.mem_cons_of_mem _ hy))
    have e := (hp.map g).sum_nat
    rw [e, List.map_cons, List.map_cons, List.sum_cons, List.sum_cons]
    omega
theorem cntL_sub {lc : List Cr} {ks : List Int} (hg : Good lc.length ks) (b : Bt) : cntL (opL lc ks) b ≤ cntL lc b := by
  have e := opL_every lc
  rw [opL_nodup lc (everyL_nodup _)] at e
  rw [opL_nodup lc hg.nd]
  conv => rhs; rw [← e]
  unfold cntL
  rw [List.map_map, List.map_map]
  exact sum_sub _ ks (everyL lc.length) hg.nd fun x hx => everyL_mem (hg.inn x hx).1 (hg.inn x hx).2
/-- What is filled out of some crates is filled out of all. -/
theorem fewS_none {lc : List Cr} {l : List Wt} (h : (fewS lc l).2 = true) : lackL (cntL lc) l = [] := by
  have h1 := fewS_ok h
  have hg := fewS_good (lc := lc) (l := l)
  unfold leftL lackL at h1
  unfold lackL
  rw [List.flatMap_eq_nil_iff] at h1 ⊢
  intro x hx
  have h2 := h1 x hx
  have h3 := cntL_sub hg x.b
  apply Classical.byContradiction
  intro hne
  have h4 : 0 < x.n - (cntL lc x.b : Int) := by
    apply Classical.byContradiction
    intro q
    exact hne (lack1_no q)
  rw [lack1_yes (by omega)] at h2
  cases h2
theorem fewS_iff (lc : List Cr) (l : List Wt) : (fewS lc l).2 = decide (lackL (cntL lc) l = []) := by
  by_cases h : lackL (cntL lc) l = []
  · rw [fewS_found h, decide_eq_true h]
  · rw [decide_eq_false h, ← Bool.not_eq_true]
    exact fun q => h (fewS_none q)
/-- The first orders, filled. -/
def sevK (lc : List Cr) (os : List (List Wt)) : Nat → List Cr × List Int
  | 0 => (lc, [])
  | i + 1 => if (fewS (sevK lc os i).1 os[i]!).2 = true then ((outL (sevK lc os i).1 os[i]! (fewS (sevK lc os i).1 os[i]!).1).1, (sevK lc os i).2 ++ [(i : Int)]) else sevK lc os i
theorem sevK_len (lc : List Cr) (os : List (List Wt)) : ∀ i, (sevK lc os i).1.length = lc.length
  | 0 => rfl
  | i + 1 => by
    rw [sevK]
    split
    · show (outL _ _ _).1.length = _
      rw [outL, tkW_len, sevK_len lc os i]
    · exact sevK_len lc os i
theorem sevK_le (lc : List Cr) (os : List (List Wt)) : ∀ i, (sevK lc os i).2.length ≤ i
  | 0 => Nat.le_refl _
  | i + 1 => by
    have ih := sevK_le lc os i
    rw [sevK]
    split
    · show ((sevK lc os i).2 ++ [(i : Int)]).length ≤ i + 1
      rw [List.length_append, List.length_singleton]
      omega
    · omega
theorem sevK_ok {lc : List Cr} (os : List (List Wt)) (h : stackOk lc = true) : ∀ i, stackOk (sevK lc os i).1 = true
  | 0 => h
  | i + 1 => by
    have ih := sevK_ok os h i
    rw [sevK]
    split
    · exact outL_stack (fewS_good).inn ih
    · exact ih
def sevI (lc : List Cr) (os : List (List Wt)) : Int := if (stackOk lc && os.all ordOk) = true then (if 20 < os.length then 3 else 0) else 1
def sevR (lc : List Cr) (os : List (List Wt)) : List Cr × List Int × Int := if sevI lc os = 0 then ((sevK lc os os.length).1, (sevK lc os os.length).2, 0) else ([], [], sevI lc os)
theorem sevI_zero {lc : List Cr} {os : List (List Wt)} (h : sevI lc os = 0) : stackOk lc = true ∧ (∀ l ∈ os, ordOk l = true) ∧ os.length ≤ 20 := by
  unfold sevI at h
  split at h
  · rename_i h1
    rw [Bool.and_eq_true, List.all_eq_true] at h1
    split at h
    · cases h
    · exact ⟨h1.1, h1.2, by omega⟩
  · cases h
theorem sevR_le (lc : List Cr) (os : List (List Wt)) : (sevR lc os).1.length ≤ 30000 := by
  unfold sevR
  split
  · rename_i h
    have h1 := (sevI_zero h).1
    show (sevK lc os os.length).1.length ≤ 30000
    rw [sevK_len]
    simp only [stackOk, Bool.and_eq_true, decide_eq_true_iff] at h1
    omega
  · simp
theorem sevR_le2 (lc : List Cr) (os : List (List Wt)) : (sevR lc os).2.1.length ≤ 30000 := by
  unfold sevR
  split
  · rename_i h
    have h1 := (sevI_zero h).2.2
    have h2 := sevK_le lc os os.length
    show (sevK lc os os.length).2.length ≤ 30000
    omega
  · simp
end Go.Proofs.Ytnhpgahapjjjbaa
