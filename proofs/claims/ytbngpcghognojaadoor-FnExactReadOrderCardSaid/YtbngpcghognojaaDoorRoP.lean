/- What the readings of orders compute: word by word. -/
import Derived.Test.YtbngpcghognojaaDoorCrTP
import Derived.Test.YtbngpcghognojaaDoorCutP
import Derived.Test.YtbngpcghognojaaDoorSplB
import Derived.Test.YtbngpcghognojaaDoorOrder
import Derived.Lib.SplitLaws
namespace Go.Proofs.YtbngpcghognojaaDoor
open Go Go.Lib
set_option linter.unusedVariables false
set_option linter.unusedSimpArgs false
set_option maxRecDepth 100000
/-! ### The library's split -/
theorem splitK_spl (s : UInt8) : ∀ (n : Nat) (l : List UInt8), l.length ≤ n → splitK [s] 0 (count l [s]) l = spl s l := by
  intro n
  induction n with
  | zero =>
    intro l hl
    obtain rfl : l = [] := List.length_eq_zero_iff.1 (Nat.le_zero.1 hl)
    rw [count_miss (by simp [index])]
    rfl
  | succ n ih =>
    intro l hl
    by_cases h : s ∈ l
    · obtain ⟨a, b, rfl, ha⟩ := List.eq_append_cons_of_mem h
      have hi := index_app b ha
      have hd : (a ++ s :: b).drop (a.length + [s].length) = b := by
        rw [List.drop_append, List.drop_eq_nil_of_le (by simp)]
        simp
      have hlb : b.length ≤ n := by
        rw [List.length_append, List.length_cons] at hl
        omega
      rw [count_hit (by simp) hi, hd, Nat.add_comm, splitK, hi, if_neg (by simp), Int.toNat_natCast, hd, ih b hlb, spl_app b ha]
      simp
    · rw [count_miss (index_not h), spl_one h]
      rfl
/-! ### A word -/
theorem want_n {b : List UInt8} (h : rdR 1 144 b = true) : -32768 ≤ (valD b : Int) ∧ (valD b : Int) ≤ 32767 := by
  simp only [rdR, Bool.and_eq_true, decide_eq_true_iff] at h
  omega
/-- A want's text, read. -/
def rdW (w : List UInt8) : Option Wt := match spl 120 w with
  | [a, b] => match rdB a with
    | some t => if h : rdR 1 144 b = true then some ⟨t, (valD b : Int), want_n h⟩ else none
    | none => none
  | _ => none
theorem rdW_not2 {w : List UInt8} (h : (spl 120 w).length ≠ 2) : rdW w = none := by
  unfold rdW
  split
  · rename_i a b hs
    rw [hs] at h
    exact absurd rfl h
  · rfl
theorem rdW_two {w a b : List UInt8} (h : spl 120 w = [a, b]) : rdW w = match rdB a with
    | some t => if h : rdR 1 144 b = true then some ⟨t, (valD b : Int), want_n h⟩ else none
    | none => none := by
  unfold rdW
  rw [h]
theorem rdW_none1 {w a b : List UInt8} (h : spl 120 w = [a, b]) (ha : rdB a = none) : rdW w = none := by
  rw [rdW_two h, ha]
theorem rdW_none2 {w a b : List UInt8} (h : spl 120 w = [a, b]) (hb : rdR 1 144 b = false) : rdW w = none := by
  rw [rdW_two h]
  cases rdB a with
  | none => rfl
  | some t => simp [hb]
theorem rdW_yes {w a b : List UInt8} {t : Bt} (h : spl 120 w = [a, b]) (ha : rdB a = some t) (hb : rdR 1 144 b = true) {x : Wt} (hx : x.b = t) (hn : x.n = (valD b : Int)) : rdW w = some x := by
  rw [rdW_two h, ha]
  simp only [hb, dif_pos]
  congr 1
  cases x
  simp only at hx hn
  subst hx hn
  rfl
/-- What the cut says of a word. -/
theorem rdW_cut {w : List UInt8} : (∃ x, rdW w = some x ∧ (cut w [120]).2.2 = true ∧ rdB (cut w [120]).1 = some x.b ∧ rdR 1 144 (cut w [120]).2.1 = true ∧ x.n = (valD (cut w [120]).2.1 : Int)) ∨
    (rdW w = none ∧ ((cut w [120]).2.2 && ((rdB (cut w [120]).1).isSome && rdR 1 144 (cut w [120]).2.1)) = false) := by
  by_cases h : (120 : UInt8) ∈ w
  · obtain ⟨a, b, rfl, ha⟩ := List.eq_append_cons_of_mem h
    rw [cut_app ha]
    cases hr : rdR 1 144 b with
    | false =>
      right
      refine ⟨?_, by simp [hr]⟩
      by_cases hb : (120 : UInt8) ∈ b
      · refine rdW_not2 ?_
        obtain ⟨b1, b2, rfl, hb1⟩ := List.eq_append_cons_of_mem hb
        rw [spl_app _ ha, spl_app _ hb1]
        cases hs : spl 120 b2 with
        | nil => exact absurd hs (spl_ne _ _)
        | cons p ps => simp
      · exact rdW_none2 (spl_two ha hb) hr
    | true =>
      have hb : (120 : UInt8) ∉ b := rdR_not hr (by decide)
      cases hB : rdB a with
      | none =>
        right
        exact ⟨rdW_none1 (spl_two ha hb) hB, by simp [hB]⟩
      | some t =>
        left
        exact ⟨⟨t, (valD b : Int), want_n hr⟩, rdW_yes (spl_two ha hb) hB hr rfl rfl, rfl, rfl, rfl, rfl⟩
  · right
    have hs : spl 120 w = [w] := spl_one h
    exact ⟨rdW_not2 (by rw [hs]; simp), by rw [cut_not h]; rfl⟩
/-! ### All words -/
/-- The wants of the words, as far as they read. -/
def wantsOf (ws : List (List UInt8)) : List Wt := ws.map fun w => (rdW w).getD zW
def allW (ws : List (List UInt8)) : Bool := ws.all fun w => (rdW w).isSome
/-- What an order's text reads as. -/
def roR (l : List UInt8) : List Wt × Int := if l = [] then ([], 0) else if (allW (spl 32 l) && ordOk (wantsOf (spl 32 l))) = true then (wantsOf (spl 32 l), 0) else ([], 5)
theorem roR_le (l : List UInt8) : (roR l).1.length ≤ 8 := by
  unfold roR
  split
  · simp
  · split
    · rename_i h
      rw [Bool.and_eq_true] at h
      have := h.2
      simp only [ordOk, Bool.and_eq_true, decide_eq_true_iff] at this
      exact this.2
    · simp
section
variable {l : List UInt8} (hl : l ≠ [])
include hl
theorem roR_bad {w : List UInt8} (hw : w ∈ spl 32 l) (h : rdW w = none) : roR l = ([], 5) := by
  unfold roR
  rw [if_neg hl, if_neg]
  rw [Bool.and_eq_true]
  rintro ⟨h1, _⟩
  have := List.all_eq_true.1 h1 w hw
  rw [h] at this
  cases this
theorem roR_inv (h : ordOk (wantsOf (spl 32 l)) = false) : roR l = ([], 5) := by
  unfold roR
  rw [if_neg hl, if_neg]
  rw [h, Bool.and_false]
  simp
theorem roR_ok (h1 : ∀ w ∈ spl 32 l, (rdW w).isSome = true) (h : ordOk (wantsOf (spl 32 l)) = true) : roR l = (wantsOf (spl 32 l), 0) := by
  unfold roR
  rw [if_neg hl, if_pos]
  rw [Bool.and_eq_true]
  exact ⟨List.all_eq_true.2 h1, h⟩
end
/-! ### The reference takes a number 0 first, and refuses the order then -/
theorem want_n0 {b : List UInt8} (h : ((numR b).2 && decide ((numR b).1 ≤ 144)) = true) : -32768 ≤ (numR b).1 ∧ (numR b).1 ≤ 32767 := by
  rw [Bool.and_eq_true, decide_eq_true_iff] at h
  have := numR_pos b
  omega
def rdW0 (w : List UInt8) : Option Wt := match spl 120 w with
  | [a, b] => match rdB a with
    | some t => if h : ((numR b).2 && decide ((numR b).1 ≤ 144)) = true then some ⟨t, (numR b).1, want_n0 h⟩ else none
    | none => none
  | _ => none
theorem rdW0_rel (w : List UInt8) : (∃ x, rdW0 w = some x ∧ rdW w = some x) ∨ (∃ x, rdW0 w = some x ∧ rdW w = none ∧ x.n = 0) ∨ (rdW0 w = none ∧ rdW w = none) := by
  unfold rdW0 rdW
  split
  · rename_i a b hs
    cases hB : rdB a with
    | none => exact .inr (.inr ⟨rfl, rfl⟩)
    | some t =>
      have hr := rdR_num (lo := 1) (hi := 144) (by omega) b
      have hp := numR_pos b
      simp only
      by_cases h0 : ((numR b).2 && decide ((numR b).1 ≤ 144)) = true
      · have h1 := h0
        rw [Bool.and_eq_true, decide_eq_true_iff] at h1
        by_cases h2 : (numR b).1 = 0
        · refine .inr (.inl ⟨⟨t, (numR b).1, want_n0 h0⟩, by rw [dif_pos h0], ?_, h2⟩)
          rw [dif_neg]
          rw [hr, h2]
          simp
        · have h3 : rdR 1 144 b = true := by
            rw [hr, h1.1, Bool.true_and, Bool.and_eq_true, decide_eq_true_iff, decide_eq_true_iff]
            omega
          have h4 : (valD b : Int) = (numR b).1 := by
            have hn : numR b = ((numR b).1, true) := Prod.ext rfl h1.1
            exact (numR_true hn).2.symm
          refine .inl ⟨⟨t, (numR b).1, want_n0 h0⟩, by rw [dif_pos h0], ?_⟩
          rw [dif_pos h3]
          congr 1
          simp only [h4]
      · have h3 : rdR 1 144 b = false := by
          rw [← Bool.not_eq_true]
          intro h3
          rw [hr, Bool.and_eq_true, Bool.and_eq_true, decide_eq_true_iff, decide_eq_true_iff] at h3
          apply h0
          rw [Bool.and_eq_true, decide_eq_true_iff]
          exact ⟨h3.1, h3.2.2⟩
        exact .inr (.inr ⟨by rw [dif_neg h0], by rw [dif_neg (by rw [h3]; simp)]⟩)
  · exact .inr (.inr ⟨rfl, rfl⟩)
theorem rdW0_not2 {w : List UInt8} (h : (spl 120 w).length ≠ 2) : rdW0 w = none := by
  unfold rdW0
  split
  · rename_i a b hs
    rw [hs] at h
    exact absurd rfl h
  · rfl
theorem rdW0_two {w a b : List UInt8} (h : spl 120 w = [a, b]) : rdW0 w = match rdB a with
    | some t => if h : ((numR b).2 && decide ((numR b).1 ≤ 144)) = true then some ⟨t, (numR b).1, want_n0 h⟩ else none
    | none => none := by
  unfold rdW0
  rw [h]
theorem rdW0_none1 {w a b : List UInt8} (h : spl 120 w = [a, b]) (ha : rdB a = none) : rdW0 w = none := by
  rw [rdW0_two h, ha]
theorem rdW0_none2 {w a b : List UInt8} (h : spl 120 w = [a, b]) (hb : ((numR b).2 && decide ((numR b).1 ≤ 144)) = false) : rdW0 w = none := by
  rw [rdW0_two h]
  cases rdB a with
  | none => rfl
  | some t => simp [hb]
theorem rdW0_yes {w a b : List UInt8} {t : Bt} (h : spl 120 w = [a, b]) (ha : rdB a = some t) (hb : ((numR b).2 && decide ((numR b).1 ≤ 144)) = true) {x : Wt} (hx : x.b = t) (hn : x.n = (numR b).1) : rdW0 w = some x := by
  rw [rdW0_two h, ha]
  simp only [hb, dif_pos]
  congr 1
  cases x
  simp only at hx hn
  subst hx hn
  rfl
def wantsOf0 (ws : List (List UInt8)) : List Wt := ws.map fun w => (rdW0 w).getD zW
theorem ordOk_n {l : List Wt} (h : ordOk l = true) {x : Wt} (hx : x ∈ l) : 1 ≤ x.n := by
  obtain ⟨i, hi, rfl⟩ := List.getElem_of_mem hx
  simp only [ordOk, Bool.and_eq_true, decide_eq_true_iff] at h
  have := (h.1 i hi).1
  rw [getB hi] at this
  simp only [Wt.ok, Bool.and_eq_true, decide_eq_true_iff] at this
  exact this.2.1
theorem wants0_same {ws : List (List UInt8)} (h : ordOk (wantsOf0 ws) = true) (hs : ∀ w ∈ ws, (rdW0 w).isSome = true) : wantsOf0 ws = wantsOf ws ∧ ∀ w ∈ ws, (rdW w).isSome = true := by
  have key : ∀ w ∈ ws, rdW0 w = rdW w := fun w hw => by
    rcases rdW0_rel w with ⟨x, h1, h2⟩ | ⟨x, h1, h2, h3⟩ | ⟨h1, h2⟩
    · rw [h1, h2]
    · exfalso
      have := ordOk_n h (List.mem_map.2 ⟨w, hw, by rw [h1]; rfl⟩ : x ∈ wantsOf0 ws)
      omega
    · rw [h1, h2]
  exact ⟨List.map_congr_left fun w hw => by rw [key w hw], fun w hw => by rw [← key w hw]; exact hs w hw⟩
section
variable {l : List UInt8} (hl : l ≠ [])
include hl
theorem roR_bad0 {w : List UInt8} (hw : w ∈ spl 32 l) (h : rdW0 w = none) : roR l = ([], 5) := by
  rcases rdW0_rel w with ⟨x, h1, _⟩ | ⟨x, h1, _⟩ | ⟨_, h2⟩
  · rw [h] at h1; cases h1
  · rw [h] at h1; cases h1
  · exact roR_bad hl hw h2
theorem roR_inv0 (hs : ∀ w ∈ spl 32 l, (rdW0 w).isSome = true) (h : ordOk (wantsOf0 (spl 32 l)) = false) : roR l = ([], 5) := by
  by_cases ha : ∀ w ∈ spl 32 l, (rdW w).isSome = true
  · refine roR_inv hl ?_
    have e : wantsOf (spl 32 l) = wantsOf0 (spl 32 l) := List.map_congr_left fun w hw => by
      rcases rdW0_rel w with ⟨x, h1, h2⟩ | ⟨x, h1, h2, _⟩ | ⟨h1, h2⟩
      · rw [h1, h2]
      · have := ha w hw
        rw [h2] at this
        cases this
      · rw [h1, h2]
    rw [e]
    exact h
  · obtain ⟨w, hw⟩ := Classical.not_forall.1 ha
    obtain ⟨hm, hw⟩ := Classical.not_imp.1 hw
    refine roR_bad hl hm ?_
    cases hr : rdW w with
    | none => rfl
    | some x => rw [hr] at hw; exact absurd rfl hw
theorem roR_ok0 (hs : ∀ w ∈ spl 32 l, (rdW0 w).isSome = true) (h : ordOk (wantsOf0 (spl 32 l)) = true) : roR l = (wantsOf0 (spl 32 l), 0) := by
  obtain ⟨h1, h2⟩ := wants0_same h hs
  rw [h1]
  exact roR_ok hl h2 (by rw [← h1]; exact h)
end
end Go.Proofs.YtbngpcghognojaaDoor
