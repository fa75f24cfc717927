/- The least of all ascending lists: found in their order, or over all sets. -/
import Derived.Test.YtnhpgahapjjjbaaChoice
import Derived.Test.YtnhpgahapjjjbaaFilled
namespace Go.Proofs.Ytnhpgahapjjjbaa
open Go Go.RowKit
set_option linter.unusedVariables false
set_option linter.unusedSimpArgs false
set_option maxRecDepth 100000
/-- Ascending numbers between two bounds. -/
def Asc (f : Int) (m : Nat) (ks : List Int) : Prop := ks.Pairwise (· < ·) ∧ ∀ x ∈ ks, f ≤ x ∧ x < f + m
theorem chF_mem : ∀ (n : Nat) (f : Int) (m : Nat) (ks : List Int), ks ∈ chF n f m ↔ ks.length = n ∧ Asc f m ks
  | 0, f, m, ks => by
    constructor
    · intro h
      obtain rfl : ks = [] := by simpa [chF] using h
      exact ⟨rfl, List.Pairwise.nil, fun x hx => absurd hx List.not_mem_nil⟩
    · rintro ⟨h, _⟩
      obtain rfl := List.length_eq_zero_iff.1 h
      simp [chF]
  | n + 1, f, m, ks => by
    simp only [chF, List.mem_flatMap, List.mem_map, List.mem_range]
    constructor
    · rintro ⟨i, hi, l, hl, rfl⟩
      obtain ⟨h1, h2, h3⟩ := (chF_mem n _ _ l).1 hl
      refine ⟨by rw [List.length_cons, h1], List.pairwise_cons.2 ⟨fun y hy => by have := (h3 y hy).1; omega, h2⟩, fun y hy => ?_⟩
      rcases List.mem_cons.1 hy with rfl | hy
      · omega
      · have := h3 y hy; omega
    · rintro ⟨h1, h2, h3⟩
      match ks, h1, h2, h3 with
      | x :: l, h1, h2, h3 =>
        have hx := h3 x (List.mem_cons_self ..)
        rw [List.pairwise_cons] at h2
        refine ⟨(x - f).toNat, by omega, l, (chF_mem n _ _ l).2 ⟨by simpa using h1, h2.2, fun y hy => ?_⟩, by rw [show f + ((x - f).toNat : Int) = x by omega]⟩
        have q1 := h2.1 y hy
        have q2 := h3 y (List.mem_cons_of_mem _ hy)
        omega
theorem asc_ext : ∀ (a b : List Int), a.Pairwise (· < ·) → b.Pairwise (· < ·) → (∀ x, x ∈ a ↔ x ∈ b) → a = b
  | [], [], _, _, _ => rfl
  | [], y :: b, _, _, h => absurd ((h y).2 (List.mem_cons_self ..)) List.not_mem_nil
  | x :: a, [], _, _, h => absurd ((h x).1 (List.mem_cons_self ..)) List.not_mem_nil
  | x :: a, y :: b, ha, hb, h => by
    rw [List.pairwise_cons] at ha hb
    have e : x = y := by
      rcases List.mem_cons.1 ((h x).1 (List.mem_cons_self ..)) with q | q
      · exact q
      · rcases List.mem_cons.1 ((h y).2 (List.mem_cons_self ..)) with q2 | q2
        · exact q2.symm
        · have := hb.1 x q; have := ha.1 y q2; omega
    subst e
    rw [asc_ext a b ha.2 hb.2 fun z => ⟨fun hz => ?_, fun hz => ?_⟩]
    · rcases List.mem_cons.1 ((h z).1 (List.mem_cons_of_mem _ hz)) with q | q
      · have := ha.1 z hz; omega
      · exact q
    · rcases List.mem_cons.1 ((h z).2 (List.mem_cons_of_mem _ hz)) with q | q
      · have := hb.1 z hz; omega
      · exact q
/-- a stands before b (both as long). -/
def ahead : List Int → List Int → Bool
  | x :: a, y :: b => if x = y then ahead a b else decide (x < y)
  | _, _ => false
theorem ahead_irr : ∀ a : List Int, ahead a a = false
  | [] => rfl
  | x :: a => by rw [ahead, if_pos rfl, ahead_irr a]
theorem ahead_tot : ∀ a b : List Int, a.length = b.length → ahead a b = false → ahead b a = false → a = b
  | [], [], _, _, _ => rfl
  | [], y :: b, h, _, _ => by simp at h
  | x :: a, [], h, _, _ => by simp at h
  | x :: a, y :: b, h, h1, h2 => by
    rw [ahead] at h1 h2
    by_cases e : x = y
    · subst e
      rw [if_pos rfl] at h1 h2
      rw [ahead_tot a b (by simpa using h) h1 h2]
    · rw [if_neg e, decide_eq_false_iff_not] at h1
      rw [if_neg (Ne.symm e), decide_eq_false_iff_not] at h2
      omega
theorem ahead_trans : ∀ a b c : List Int, a.length = b.length → b.length = c.length → ahead a b = true → ahead b c = true → ahead a c = true
  | [], b, c, _, _, h, _ => by simp [ahead] at h
  | x :: a, [], c, _, _, h, _ => by simp [ahead] at h
  | x :: a, y :: b, [], _, _, _, h => by simp [ahead] at h
  | x :: a, y :: b, z :: c, hl, hl2, h1, h2 => by
    rw [ahead] at h1 h2 ⊢
    by_cases e1 : x = y
    · subst e1
      rw [if_pos rfl] at h1
      by_cases e2 : x = z
      · subst e2
        rw [if_pos rfl] at h2 ⊢
        exact ahead_trans a b c (by simpa using hl) (by simpa using hl2) h1 h2
      · rw [if_neg e2] at h2 ⊢
        exact h2
    · rw [if_neg e1, decide_eq_true_iff] at h1
      by_cases e2 : y = z
      · subst e2
        rw [if_neg e1, decide_eq_true_iff]
        exact h1
      · rw [if_neg e2, decide_eq_true_iff] at h2
        rw [if_neg (by omega), decide_eq_true_iff]
        omega
theorem ahead_asymm {a b : List Int} (hl : a.length = b.length) (h : ahead a b = true) : ahead b a = false := by
  rw [← Bool.not_eq_true]
  intro h2
  have := ahead_trans a b a hl hl.symm h h2
  rw [ahead_irr] at this
  cases this
theorem chF_sorted : ∀ (n : Nat) (f : Int) (m : Nat), (chF n f m).Pairwise fun a b => ahead a b = true
  | 0, f, m => List.pairwise_singleton _ _
  | n + 1, f, m => by
    rw [chF, List.pairwise_flatMap]
    refine ⟨fun i _ => ?_, ?_⟩
    · rw [List.pairwise_map]
      exact (chF_sorted n _ _).imp fun h => by rw [ahead, if_pos rfl]; exact h
    · refine List.pairwise_lt_range.imp fun {i j} hij x hx y hy => ?_
      obtain ⟨a, _, rfl⟩ := List.mem_map.1 hx
      obtain ⟨b, _, rfl⟩ := List.mem_map.1 hy
      rw [ahead, if_neg (by omega), decide_eq_true_iff]
      omega
/-- Bit number i of a set. -/
def bitOn (s i : Nat) : Bool := decide (s / 2 ^ i % 2 = 1)
theorem bits_exist : ∀ (n : Nat) (p : Nat → Bool), ∃ s, s < 2 ^ n ∧ ∀ i, i < n → bitOn s i = p i
  | 0, p => ⟨0, by decide, fun i hi => absurd hi (Nat.not_lt_zero _)⟩
  | n + 1, p => by
    obtain ⟨s, hs, h⟩ := bits_exist n p
    have hp : 2 ^ (n + 1) = 2 ^ n + 2 ^ n := by rw [Nat.pow_succ]; omega
    have hbit : ∀ s i, bitOn s i = Nat.testBit s i := fun s i => Nat.testBit_eq_decide_div_mod_eq.symm
    cases e : p n with
    | false =>
      refine ⟨s, by omega, fun i hi => ?_⟩
      rcases Nat.lt_or_ge i n with q | q
      · exact h i q
      · obtain rfl : i = n := by omega
        rw [hbit, e, Nat.testBit_lt_two_pow hs]
    | true =>
      refine ⟨2 ^ n + s, by omega, fun i hi => ?_⟩
      rcases Nat.lt_or_ge i n with q | q
      · rw [hbit, Nat.testBit_two_pow_add_gt q, ← hbit]
        exact h i q
      · obtain rfl : i = n := by omega
        rw [hbit, e, Nat.testBit_two_pow_add_eq, Nat.testBit_lt_two_pow hs]
        rfl
/-- The numbers in a set, ascending: bit 'pos i' says whether number i is in it. -/
def inSet (pos : Nat → Nat) (s k : Nat) : List Int := (everyL k).filter fun x => bitOn s (pos x.toNat)
theorem everyL_asc (n : Nat) : (everyL n).Pairwise (· < ·) := List.pairwise_map.2 (List.pairwise_lt_range.imp fun h => Int.ofNat_lt.2 h)
theorem inSet_asc (pos : Nat → Nat) (s k : Nat) : Asc 0 k (inSet pos s k) := ⟨(everyL_asc k).filter _, fun x hx => by
  have := everyL_in (List.mem_filter.1 hx).1
  omega⟩
theorem inSet_succ (pos : Nat → Nat) (s k : Nat) : inSet pos s (k + 1) = inSet pos s k ++ (if bitOn s (pos k) = true then [(k : Int)] else []) := by
  unfold inSet
  rw [everyL_succ, List.filter_append]
  congr 1
  rw [List.filter_cons, Int.toNat_natCast]
  split <;> rfl
theorem inSet_le (pos : Nat → Nat) (s k : Nat) : (inSet pos s k).length ≤ k := by
  have := List.length_filter_le (fun x : Int => bitOn s (pos x.toNat)) (everyL k)
  rwa [everyL_length] at this
/-- Each ascending list is some set's. -/
theorem inSet_all {n : Nat} {pos : Nat → Nat} (hp : ∀ i, i < n → pos i < n ∧ pos (pos i) = i) {ks : List Int} (h : Asc 0 n ks) : ∃ s, s < 2 ^ n ∧ inSet pos s n = ks := by
  obtain ⟨s, hs, hb⟩ := bits_exist n fun i => decide ((pos i : Int) ∈ ks)
  refine ⟨s, hs, asc_ext _ _ (inSet_asc pos s n).1 h.1 fun x => ?_⟩
  unfold inSet
  rw [List.mem_filter]
  constructor
  · rintro ⟨hx, hbx⟩
    have hx2 := everyL_in hx
    have hq := hp x.toNat (by omega)
    rw [hb _ hq.1, hq.2, decide_eq_true_iff, show ((x.toNat : Nat) : Int) = x by omega] at hbx
    exact hbx
  · intro hx
    have hx2 := h.2 x hx
    have hq := hp x.toNat (by omega)
    refine ⟨everyL_mem hx2.1 (by omega), ?_⟩
    rw [hb _ hq.1, hq.2, decide_eq_true_iff, show ((x.toNat : Nat) : Int) = x by omega]
    exact hx
/-- Fewer numbers, or as many that stand before. -/
def lessL (a b : List Int) : Bool := decide (a.length < b.length) || (decide (a.length = b.length) && ahead a b)
theorem lessL_trans {a b c : List Int} (h1 : lessL a b = true) (h2 : lessL b c = true) : lessL a c = true := by
  simp only [lessL, Bool.or_eq_true, Bool.and_eq_true, decide_eq_true_iff] at *
  rcases h1 with h1 | ⟨h1, k1⟩ <;> rcases h2 with h2 | ⟨h2, k2⟩
  · exact .inl (by omega)
  · exact .inl (by omega)
  · exact .inl (by omega)
  · exact .inr ⟨by omega, ahead_trans a b c h1 h2 k1 k2⟩
theorem lessL_tot {a b : List Int} (h1 : lessL a b = false) (h2 : lessL b a = false) : a = b := by
  simp only [lessL, Bool.or_eq_false_iff, Bool.and_eq_false_iff, decide_eq_false_iff_not] at h1 h2
  have hl : a.length = b.length := by omega
  rcases h1.2 with q | q
  · exact absurd hl q
  · rcases h2.2 with q2 | q2
    · exact absurd hl.symm q2
    · exact ahead_tot a b hl q q2
/-- The least of the lists that are good. -/
def Least (n : Nat) (p : List Int → Bool) (r : List Int) : Prop := p r = true ∧ Asc 0 n r ∧ ∀ q, Asc 0 n q → p q = true → lessL q r = false
theorem Least.uniq {n : Nat} {p : List Int → Bool} {r r' : List Int} (h : Least n p r) (h' : Least n p r') : r = r' := lessL_tot (h'.2.2 r h.2.1 h.1) (h.2.2 r' h'.2.1 h'.1)
/-- Found in their order. -/
theorem least_found {n c j : Nat} {p : List Int → Bool} (hs : ∀ c', c' < c → ∀ q ∈ chF c' 0 n, p q = false) (hj : j < (chF c 0 n).length) (hn : ∀ i, i < j → p (chF c 0 n)[i]! = false) (hp : p (chF c 0 n)[j]! = true) : Least n p (chF c 0 n)[j]! := by
  have hm : (chF c 0 n)[j]! ∈ chF c 0 n := by rw [getB hj]; exact List.getElem_mem hj
  obtain ⟨hl, ha⟩ := (chF_mem c 0 n _).1 hm
  refine ⟨hp, ha, fun q hq hpq => ?_⟩
  have hqm := (chF_mem q.length 0 n q).2 ⟨rfl, hq⟩
  simp only [lessL, Bool.or_eq_false_iff, Bool.and_eq_false_iff, decide_eq_false_iff_not, hl]
  have hge : ¬ q.length < c := fun hlt => by
    have := hs _ hlt q hqm
    rw [hpq] at this
    cases this
  refine ⟨hge, ?_⟩
  rcases Nat.lt_or_ge c q.length with hgt | hle
  · exact .inl (by omega)
  · right
    have hqc : q.length = c := by omega
    rw [hqc] at hqm
    obtain ⟨i, hi, rfl⟩ := List.getElem_of_mem hqm
    rcases Nat.lt_trichotomy i j with h | h | h
    · have := hn i h
      rw [getB hi, hpq] at this
      cases this
    · subst h
      rw [getB hi]
      exact ahead_irr _
    · have := List.pairwise_iff_getElem.1 (chF_sorted c 0 n) j i hj hi h
      rw [getB hj]
      rw [getB hj] at hl
      exact ahead_asymm (by rw [hl, hqc]) this
/-- One set more. -/
def setStep (p : List Int → Bool) (ks : List Int) (r : List Int × Bool) : List Int × Bool :=
  if (r.2 && (decide (r.1.length < ks.length) || (decide (ks.length = r.1.length) && !ahead ks r.1))) = true then r else if p ks = true then (ks, true) else r
/-- The best of the first sets. -/
def setsK (n : Nat) (p : List Int → Bool) : Nat → List Int × Bool
  | 0 => ([], false)
  | k + 1 => setStep p (inSet (fun i => i) k n) (setsK n p k)
theorem skip_less (ks b : List Int) : (decide (b.length < ks.length) || (decide (ks.length = b.length) && !ahead ks b)) = !lessL ks b := by
  unfold lessL
  rcases Nat.lt_trichotomy ks.length b.length with h | h | h
  · have e1 : ¬ b.length < ks.length := by omega
    have e2 : ¬ ks.length = b.length := by omega
    simp [e1, e2, h]
  · simp [h]
  · have e1 : ¬ ks.length < b.length := by omega
    have e2 : ¬ ks.length = b.length := by omega
    simp [e1, e2, h]
theorem setStep_eq (p : List Int → Bool) (ks : List Int) (r : List Int × Bool) : setStep p ks r = if (r.2 && !lessL ks r.1) = true then r else if p ks = true then (ks, true) else r := by
  unfold setStep
  rw [skip_less]
theorem setsK_some {n : Nat} {p : List Int → Bool} : ∀ k, ((setsK n p k).2 = true → p (setsK n p k).1 = true ∧ Asc 0 n (setsK n p k).1 ∧ ∀ s, s < k → p (inSet (fun i => i) s n) = true → lessL (inSet (fun i => i) s n) (setsK n p k).1 = false) ∧ ((setsK n p k).2 = false → (setsK n p k).1 = [] ∧ ∀ s, s < k → p (inSet (fun i => i) s n) = false)
  | 0 => ⟨fun h => by simp [setsK] at h, fun _ => ⟨rfl, fun s hs => absurd hs (Nat.not_lt_zero _)⟩⟩
  | k + 1 => by
    obtain ⟨ih1, ih2⟩ := setsK_some (n := n) (p := p) k
    rw [setsK, setStep_eq]
    generalize hks : inSet (fun i => i) k n = ks
    generalize setsK n p k = r at ih1 ih2 ⊢
    have hcase : ∀ s, s < k + 1 → s < k ∨ s = k := fun s hs => by omega
    by_cases hskip : (r.2 && !lessL ks r.1) = true
    · rw [if_pos hskip]
      simp only [Bool.and_eq_true, Bool.not_eq_true'] at hskip
      obtain ⟨i1, i2, i3⟩ := ih1 hskip.1
      refine ⟨fun _ => ⟨i1, i2, fun s hs hps => ?_⟩, fun h => by rw [hskip.1] at h; cases h⟩
      rcases hcase s hs with q | rfl
      · exact i3 s q hps
      · rw [hks]; exact hskip.2
    · rw [if_neg hskip]
      by_cases hp : p ks = true
      · rw [if_pos hp]
        refine ⟨fun _ => ⟨hp, by show Asc 0 n ks; rw [← hks]; exact inSet_asc _ k n, fun s hs hps => ?_⟩, fun h => by cases h⟩
        rcases hcase s hs with q | rfl
        · cases hf : r.2 with
          | false => rw [(ih2 hf).2 s q] at hps; cases hps
          | true =>
            have hless : lessL ks r.1 = true := by simpa [hf] using hskip
            rw [← Bool.not_eq_true]
            intro hl
            have := lessL_trans hl hless
            rw [(ih1 hf).2.2 s q hps] at this
            cases this
        · rw [hks]; simp [lessL, ahead_irr]
      · rw [if_neg hp]
        refine ⟨fun h => ⟨(ih1 h).1, (ih1 h).2.1, fun s hs hps => ?_⟩, fun h => ⟨(ih2 h).1, fun s hs => ?_⟩⟩
        · rcases hcase s hs with q | rfl
          · exact (ih1 h).2.2 s q hps
          · rw [hks] at hps; exact absurd hps hp
        · rcases hcase s hs with q | rfl
          · exact (ih2 h).2 s q
          · rw [hks, ← Bool.not_eq_true]; exact hp
theorem sets_least {n : Nat} {p : List Int → Bool} (h : (setsK n p (2 ^ n)).2 = true) : Least n p (setsK n p (2 ^ n)).1 := by
  have := setsK_some (n := n) (p := p) (2 ^ n)
  replace this := this.1 h
  refine ⟨this.1, this.2.1, fun q hq hp => ?_⟩
  obtain ⟨s, hs, rfl⟩ := inSet_all (pos := fun i => i) (fun i hi => ⟨hi, rfl⟩) hq
  exact this.2.2 s hs hp
theorem sets_found {n : Nat} {p : List Int → Bool} {q : List Int} (hq : Asc 0 n q) (hp : p q = true) : (setsK n p (2 ^ n)).2 = true := by
  cases h : (setsK n p (2 ^ n)).2 with
  | true => rfl
  | false =>
    have := setsK_some (n := n) (p := p) (2 ^ n)
    replace this := this.2 h
    obtain ⟨s, hs, rfl⟩ := inSet_all (pos := fun i => i) (fun i hi => ⟨hi, rfl⟩) hq
    rw [this.2 s hs] at hp
    cases hp
end Go.Proofs.Ytnhpgahapjjjbaa
