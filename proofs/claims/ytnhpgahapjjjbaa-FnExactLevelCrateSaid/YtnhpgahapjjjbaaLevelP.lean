/- The first places for so many bottles that tip least: found in their order, or over all sets. -/
import Derived.Test.YtnhpgahapjjjbaaFew
import Derived.Test.YtnhpgahapjjjbaaTip
namespace Go.Proofs.Ytnhpgahapjjjbaa
open Go Go.RowKit
set_option linter.unusedVariables false
set_option linter.unusedSimpArgs false
set_option maxRecDepth 100000
/-- How much places tip. -/
def tipN (ks : List Int) : Int := max (eastI ks) (-eastI ks) + max (southI ks) (-southI ks)
theorem tipN_pos (ks : List Int) : 0 ≤ tipN ks := by unfold tipN; omega
/-- a tips less, or as much and stands before. -/
def lessT (a b : List Int) : Bool := decide (tipN a < tipN b) || (decide (tipN a = tipN b) && ahead a b)
theorem lessT_tot {a b : List Int} (hl : a.length = b.length) (h1 : lessT a b = false) (h2 : lessT b a = false) : a = b := by
  simp only [lessT, Bool.or_eq_false_iff, Bool.and_eq_false_iff, decide_eq_false_iff_not] at h1 h2
  have he : tipN a = tipN b := by omega
  rcases h1.2 with q | q
  · exact absurd he q
  · rcases h2.2 with q2 | q2
    · exact absurd he.symm q2
    · exact ahead_tot a b hl q q2
theorem lessT_trans {a b c : List Int} (hl : a.length = b.length) (hl2 : b.length = c.length) (h1 : lessT a b = true) (h2 : lessT b c = true) : lessT a c = true := by
  simp only [lessT, Bool.or_eq_true, Bool.and_eq_true, decide_eq_true_iff] at *
  rcases h1 with h1 | ⟨h1, k1⟩ <;> rcases h2 with h2 | ⟨h2, k2⟩
  · exact .inl (by omega)
  · exact .inl (by omega)
  · exact .inl (by omega)
  · exact .inr ⟨by omega, ahead_trans a b c hl hl2 k1 k2⟩
theorem lessT_irr (a : List Int) : lessT a a = false := by
  simp [lessT, ahead_irr]
/-- The least of the lists of n places. -/
structure LeastT (n : Nat) (r : List Int) : Prop where
  len : r.length = n
  asc : Asc 0 12 r
  min : ∀ q, Asc 0 12 q → q.length = n → lessT q r = false
theorem LeastT.uniq {n : Nat} {r r' : List Int} (h : LeastT n r) (h' : LeastT n r') : r = r' := lessT_tot (h.len.trans h'.len.symm) (h'.min r h.asc h.len) (h.min r' h'.asc h'.len)
/-- The best of the first lists, in their order. -/
def lvI (rs : List (List Int)) : Nat → List Int × Int
  | 0 => ([], -1)
  | j + 1 => if (decide ((lvI rs j).2 < 0) || decide (tipN rs[j]! < (lvI rs j).2)) = true then (rs[j]!, tipN rs[j]!) else lvI rs j
theorem lvI_cases (rs : List (List Int)) : ∀ j, j = 0 ∨ ∃ i, i < j ∧ lvI rs j = (rs[i]!, tipN rs[i]!) ∧ (∀ i', i' < j → tipN rs[i]! ≤ tipN rs[i']!) ∧ ∀ i', i' < i → tipN rs[i]! < tipN rs[i']!
  | 0 => .inl rfl
  | j + 1 => by
    right
    rw [lvI]
    rcases lvI_cases rs j with rfl | ⟨i, hi, e, h1, h2⟩
    · refine ⟨0, Nat.zero_lt_one, ?_, fun i' hi' => ?_, fun i' hi' => absurd hi' (Nat.not_lt_zero _)⟩
      · rw [if_pos (by simp [lvI])]
      · obtain rfl : i' = 0 := by omega
        exact Int.le_refl _
    · rw [e]
      have hp := tipN_pos rs[i]!
      have e1 : decide ((rs[i]!, tipN rs[i]!).2 < 0) = false := by rw [decide_eq_false_iff_not]; show ¬ tipN rs[i]! < 0; omega
      by_cases hlt : tipN rs[j]! < tipN rs[i]!
      · refine ⟨j, Nat.lt_succ_self _, ?_, fun i' hi' => ?_, fun i' hi' => ?_⟩
        · rw [if_pos (by rw [e1]; simpa using hlt)]
        · rcases Nat.lt_or_ge i' j with q | q
          · have := h1 i' q; omega
          · obtain rfl : i' = j := by omega
            exact Int.le_refl _
        · have := h1 i' hi'; omega
      · refine ⟨i, by omega, ?_, fun i' hi' => ?_, h2⟩
        · rw [if_neg (by rw [e1]; simpa using hlt)]
        · rcases Nat.lt_or_ge i' j with q | q
          · exact h1 i' q
          · obtain rfl : i' = j := by omega
            omega
theorem lvI_asc {n j : Nat} (hj : j ≤ (chF n 0 12).length) : (lvI (chF n 0 12) j) = ([], -1) ∨ ((lvI (chF n 0 12) j).1.length = n ∧ Asc 0 12 (lvI (chF n 0 12) j).1 ∧ (lvI (chF n 0 12) j).2 = tipN (lvI (chF n 0 12) j).1) := by
  rcases lvI_cases (chF n 0 12) j with rfl | ⟨i, hi, e, h1, h2⟩
  · exact .inl rfl
  · right
    rw [e]
    have hm := (chF_mem n 0 12 _).1 (show (chF n 0 12)[i]! ∈ chF n 0 12 by rw [getB (by omega)]; exact List.getElem_mem _)
    exact ⟨hm.1, hm.2, rfl⟩
theorem lvI_least {n : Nat} (hn : n ≤ 12) : LeastT n (lvI (chF n 0 12) (chF n 0 12).length).1 := by
  have hne : everyL n ∈ chF n 0 12 := (chF_mem n 0 12 _).2 ⟨everyL_length n, everyL_asc n, fun x hx => by have := everyL_in hx; omega⟩
  rcases lvI_cases (chF n 0 12) (chF n 0 12).length with h | ⟨i, hi, e, h1, h2⟩
  · rw [List.length_eq_zero_iff.1 h] at hne
    cases hne
  · rw [e]
    have hm := (chF_mem n 0 12 _).1 (show (chF n 0 12)[i]! ∈ chF n 0 12 by rw [getB hi]; exact List.getElem_mem hi)
    refine ⟨hm.1, hm.2, fun q hq hql => ?_⟩
    obtain ⟨i', hi', rfl⟩ := List.getElem_of_mem ((chF_mem n 0 12 q).2 ⟨hql, hq⟩)
    rw [← getB hi'] at hql ⊢
    simp only [lessT, Bool.or_eq_false_iff, Bool.and_eq_false_iff, decide_eq_false_iff_not]
    have k1 := h1 i' hi'
    refine ⟨by omega, ?_⟩
    rcases Nat.lt_trichotomy i' i with h | h | h
    · have := h2 i' h
      exact .inl (by omega)
    · subst h
      exact .inr (ahead_irr _)
    · right
      have := List.pairwise_iff_getElem.1 (chF_sorted n 0 12) i i' hi hi' h
      rw [← getB hi, ← getB hi'] at this
      exact ahead_asymm (hm.1.trans hql.symm) this
/-- One set more. -/
def lvStep (n : Nat) (ks : List Int) (r : List Int × Int) : List Int × Int :=
  if ks.length = n then (if (decide (r.2 < 0) || decide (tipN ks < r.2) || (decide (tipN ks = r.2) && ahead ks r.1)) = true then (ks, tipN ks) else r) else r
/-- The best of the first sets. -/
def lvS (n : Nat) : Nat → List Int × Int
  | 0 => ([], -1)
  | k + 1 => lvStep n (inSet (fun i => 11 - i) k 12) (lvS n k)
theorem lvS_cases (n : Nat) : ∀ k, (lvS n k = ([], -1) ∧ ∀ s, s < k → (inSet (fun i => 11 - i) s 12).length ≠ n) ∨ ((lvS n k).2 = tipN (lvS n k).1 ∧ (lvS n k).1.length = n ∧ Asc 0 12 (lvS n k).1 ∧ ∀ s, s < k → (inSet (fun i => 11 - i) s 12).length = n → lessT (inSet (fun i => 11 - i) s 12) (lvS n k).1 = false)
  | 0 => .inl ⟨rfl, fun s hs => absurd hs (Nat.not_lt_zero _)⟩
  | k + 1 => by
    have ih := lvS_cases n k
    rw [lvS, lvStep]
    have hasc := inSet_asc (fun i => 11 - i) k 12
    generalize hks : inSet (fun i => 11 - i) k 12 = ks at hasc
    generalize lvS n k = r at ih ⊢
    have hcase : ∀ s, s < k + 1 → s < k ∨ s = k := fun s hs => by omega
    by_cases hl : ks.length = n
    · rw [if_pos hl]
      right
      rcases ih with ⟨rfl, ih⟩ | ⟨i1, i2, i3, i4⟩
      · rw [if_pos (by simp)]
        refine ⟨rfl, hl, hasc, fun s hs hsl => ?_⟩
        rcases hcase s hs with q | rfl
        · exact absurd hsl (ih s q)
        · rw [hks]; exact lessT_irr ks
      · have e1 : decide (r.2 < 0) = false := by rw [decide_eq_false_iff_not, i1]; have := tipN_pos r.1; omega
        have e2 : (decide (r.2 < 0) || decide (tipN ks < r.2) || (decide (tipN ks = r.2) && ahead ks r.1)) = lessT ks r.1 := by rw [e1, i1, lessT, Bool.false_or]
        rw [e2]
        cases hlt : lessT ks r.1 with
        | true =>
          rw [if_pos rfl]
          refine ⟨rfl, hl, hasc, fun s hs hsl => ?_⟩
          rcases hcase s hs with q | rfl
          · rw [← Bool.not_eq_true]
            intro h
            have := lessT_trans (hsl.trans hl.symm) (hl.trans i2.symm) h hlt
            rw [i4 s q hsl] at this
            cases this
          · rw [hks]; exact lessT_irr ks
        | false =>
          rw [if_neg (by simp)]
          refine ⟨i1, i2, i3, fun s hs hsl => ?_⟩
          rcases hcase s hs with q | rfl
          · exact i4 s q hsl
          · rw [hks]; exact hlt
    · rw [if_neg hl]
      rcases ih with ⟨rfl, ih⟩ | ⟨i1, i2, i3, i4⟩
      · refine .inl ⟨rfl, fun s hs => ?_⟩
        rcases hcase s hs with q | rfl
        · exact ih s q
        · rw [hks]; exact hl
      · refine .inr ⟨i1, i2, i3, fun s hs hsl => ?_⟩
        rcases hcase s hs with q | rfl
        · exact i4 s q hsl
        · rw [hks] at hsl; exact absurd hsl hl
theorem lvS_least {n : Nat} (hn : n ≤ 12) : LeastT n (lvS n 4096).1 := by
  have hall := @inSet_all 12 (fun i => 11 - i) (fun i hi => ⟨by show 11 - i < 12; omega, by show 11 - (11 - i) = i; omega⟩)
  rcases lvS_cases n 4096 with ⟨_, h⟩ | ⟨i1, i2, i3, i4⟩
  · obtain ⟨s, hs, e⟩ := hall (ks := everyL n) ⟨everyL_asc n, fun x hx => by have := everyL_in hx; omega⟩
    exact absurd (by rw [e]; exact everyL_length n) (h s hs)
  · refine ⟨i2, i3, fun q hq hql => ?_⟩
    obtain ⟨s, hs, rfl⟩ := hall hq
    exact i4 s hs hql
/-- The places for n bottles. -/
def level (n : Nat) : List Int := (lvS n 4096).1
theorem level_eq {n : Nat} (hn : n ≤ 12) : (lvI (chF n 0 12) (chF n 0 12).length).1 = level n := (lvI_least hn).uniq (lvS_least hn)
theorem level_len {n : Nat} (hn : n ≤ 12) : (level n).length = n := (lvS_least hn).len
theorem level_places {n : Nat} (hn : n ≤ 12) : Places (level n) := ⟨by rw [level_len hn]; exact hn, fun x hx => by have := (lvS_least hn).asc.2 x hx; omega⟩
/-- Bottles put into some places. -/
def spread (ks : List Int) (bs : List Bt) : Nat → Cr
  | 0 => zC
  | i + 1 => setC (spread ks bs i) (ks.getD i 0).toNat (rB bs i)
def levelR (c : Cr) : Cr × Int := if c.ok = true then (spread (level (allB c).length) (allB c) (allB c).length, 0) else (zC, 1)
end Go.Proofs.Ytnhpgahapjjjbaa
