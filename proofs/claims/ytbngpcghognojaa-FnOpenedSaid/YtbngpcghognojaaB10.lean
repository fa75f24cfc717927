/- Texts of the claim, joined (10 of 18): Few, Tip, LevelP, Greedy. -/
import Derived.Test.YtbngpcghognojaaB1
import Derived.Test.YtbngpcghognojaaB3
import Derived.Test.YtbngpcghognojaaB9
namespace Go.Proofs.Ytbngpcghognojaa
open Go Go.RowKit
set_option linter.unusedVariables false
set_option linter.unusedSimpArgs false
set_option maxRecDepth 100000
/-- Ascending numbers between two bounds. -/
def Asc (f : Int) (m : Nat) (ks : List Int) : Prop := ks.Pairwise (· < ·) ∧ ∀ x ∈ ks, f ≤ x ∧ x < f + m
theorem chF_mem : ∀ (n : Nat) (f : Int) (m : Nat) (ks : List Int), ks ∈ chF n f m ↔ ks.length = n ∧ Asc f m ks
  | 0, f, m, ks => by
    constructor
    · intro h
      obtain rfl : ks = [] := by simpa [chF] using h
      exact ⟨rfl, List.Pairwise.nil, fun x hx => absurd hx List.not_mem_nil⟩
    · rintro ⟨h, _⟩
      obtain rfl := List.length_eq_zero_iff.1 h
      simp [chF]
  | n + 1, f, m, ks => by
    simp only [chF, List.mem_flatMap, List.mem_map, List.mem_range]
    constructor
    · rintro ⟨i, hi, l, hl, rfl⟩
      obtain ⟨h1, h2, h3⟩ := (chF_mem n _ _ l).1 hl
      refine ⟨by rw [List.length_cons, h1], List.pairwise_cons.2 ⟨fun y hy => by have := (h3 y hy).1; omega, h2⟩, fun y hy => ?_⟩
      rcases List.mem_cons.1 hy with rfl | hy
      · omega
      · have := h3 y hy; omega
    · rintro ⟨h1, h2, h3⟩
      match ks, h1, h2, h3 with
      | x :: l, h1, h2, h3 =>
        have hx := h3 x (List.mem_cons_self ..)
        rw [List.pairwise_cons] at h2
        refine ⟨(x - f).toNat, by omega, l, (chF_mem n _ _ l).2 ⟨by simpa using h1, h2.2, fun y hy => ?_⟩, by rw [show f + ((x - f).toNat : Int) = x by omega]⟩
        have q1 := h2.1 y hy
        have q2 := h3 y (List.mem_cons_of_mem _ hy)
        omega
theorem asc_ext : ∀ (a b : List Int), a.Pairwise (· < ·) → b.Pairwise (· < ·) → (∀ x, x ∈ a ↔ x ∈ b) → a = b
  | [], [], _, _, _ => rfl
  | [], y :: b, _, _, h => absurd ((h y).2 (List.mem_cons_self ..)) List.not_mem_nil
  | x :: a, [], _, _, h => absurd ((h x).1 (List.mem_cons_self ..)) List.not_mem_nil
  | x :: a, y :: b, ha, hb, h => by
    rw [List.pairwise_cons] at ha hb
    have e : x = y := by
      rcases List.mem_cons.1 ((h x).1 (List.mem_cons_self ..)) with q | q
      · exact q
      · rcases List.mem_cons.1 ((h y).2 (List.mem_cons_self ..)) with q2 | q2
        · exact q2.symm
        · have := hb.1 x q; have := ha.1 y q2; omega
    subst e
    rw [asc_ext a b ha.2 hb.2 fun z => ⟨fun hz => ?_, fun hz => ?_⟩]
    · rcases List.mem_cons.1 ((h z).1 (List.mem_cons_of_mem _ hz)) with q | q
      · have := ha.1 z hz; omega
      · exact q
    · rcases List.mem_cons.1 ((h z).2 (List.mem_cons_of_mem _ hz)) with q | q
      · have := hb.1 z hz; omega
      · exact q
/-- a stands before b (both as long). -/
def ahead : List Int → List Int → Bool
  | x :: a, y :: b => if x = y then ahead a b else decide (x < y)
  | _, _ => false
theorem ahead_irr : ∀ a : List Int, ahead a a = false
  | [] => rfl
  | x :: a => by rw [ahead, if_pos rfl, ahead_irr a]
theorem ahead_tot : ∀ a b : List Int, a.length = b.length → ahead a b = false → ahead b a = false → a = b
  | [], [], _, _, _ => rfl
  | [], y :: b, h, _, _ => by simp at h
  | x :: a, [], h, _, _ => by simp at h
  | x :: a, y :: b, h, h1, h2 => by
    rw [ahead] at h1 h2
    by_cases e : x = y
    · subst e
      rw [if_pos rfl] at h1 h2
      rw [ahead_tot a b (by simpa using h) h1 h2]
    · rw [if_neg e, decide_eq_false_iff_not] at h1
      rw [if_neg (Ne.symm e), decide_eq_false_iff_not] at h2
      omega
theorem ahead_trans : ∀ a b c : List Int, a.length = b.length → b.length = c.length → ahead a b = true → ahead b c = true → ahead a c = true
  | [], b, c, _, _, h, _ => by simp [ahead] at h
  | x :: a, [], c, _, _, h, _ => by simp [ahead] at h
  | x :: a, y :: b, [], _, _, _, h => by simp [ahead] at h
  | x :: a, y :: b, z :: c, hl, hl2, h1, h2 => by
    rw [ahead] at h1 h2 ⊢
    by_cases e1 : x = y
    · subst e1
      rw [if_pos rfl] at h1
      by_cases e2 : x = z
      · subst e2
        rw [if_pos rfl] at h2 ⊢
        exact ahead_trans a b c (by simpa using hl) (by simpa using hl2) h1 h2
      · rw [if_neg e2] at h2 ⊢
        exact h2
    · rw [if_neg e1, decide_eq_true_iff] at h1
      by_cases e2 : y = z
      · subst e2
        rw [if_neg e1, decide_eq_true_iff]
        exact h1
      · rw [if_neg e2, decide_eq_true_iff] at h2
        rw [if_neg (by omega), decide_eq_true_iff]
        omega
theorem ahead_asymm {a b : List Int} (hl : a.length = b.length) (h : ahead a b = true) : ahead b a = false := by
  rw [← Bool.not_eq_true]
  intro h2
  have := ahead_trans a b a hl hl.symm h h2
  rw [ahead_irr] at this
  cases this
theorem chF_sorted : ∀ (n : Nat) (f : Int) (m : Nat), (chF n f m).Pairwise fun a b => ahead a b = true
  | 0, f, m => List.pairwise_singleton _ _
  | n + 1, f, m => by
    rw [chF, List.pairwise_flatMap]
    refine ⟨fun i _ => ?_, ?_⟩
    · rw [List.pairwise_map]
      exact (chF_sorted n _ _).imp fun h => by rw [ahead, if_pos rfl]; exact h
    · refine List.pairwise_lt_range.imp fun {i j} hij x hx y hy => ?_
      obtain ⟨a, _, rfl⟩ := List.mem_map.1 hx
      obtain ⟨b, _, rfl⟩ := List.mem_map.1 hy
      rw [ahead, if_neg (by omega), decide_eq_true_iff]
      omega
/-- Bit number i of a set. -/
def bitOn (s i : Nat) : Bool := decide (s / 2 ^ i % 2 = 1)
theorem bits_exist : ∀ (n : Nat) (p : Nat → Bool), ∃ s, s < 2 ^ n ∧ ∀ i, i < n → bitOn s i = p i
  | 0, p => ⟨0, by decide, fun i hi => absurd hi (Nat.not_lt_zero _)⟩
  | n + 1, p => by
    obtain ⟨s, hs, h⟩ := bits_exist n p
    have hp : 2 ^ (n + 1) = 2 ^ n + 2 ^ n := by rw [Nat.pow_succ]; omega
    have hbit : ∀ s i, bitOn s i = Nat.testBit s i := fun s i => Nat.testBit_eq_decide_div_mod_eq.symm
    cases e : p n with
    | false =>
      refine ⟨s, by omega, fun i hi => ?_⟩
      rcases Nat.lt_or_ge i n with q | q
      · exact h i q
      · obtain rfl : i = n := by omega
        rw [hbit, e, Nat.testBit_lt_two_pow hs]
    | true =>
      refine ⟨2 ^ n + s, by omega, fun i hi => ?_⟩
      rcases Nat.lt_or_ge i n with q | q
      · rw [hbit, Nat.testBit_two_pow_add_gt q, ← hbit]
        exact h i q
      · obtain rfl : i = n := by omega
        rw [hbit, e, Nat.testBit_two_pow_add_eq, Nat.testBit_lt_two_pow hs]
        rfl
/-- The numbers in a set, ascending: bit 'pos i' says whether number i is in it. -/
def inSet (pos : Nat → Nat) (s k : Nat) : List Int := (everyL k).filter fun x => bitOn s (pos x.toNat)
theorem everyL_asc (n : Nat) : (everyL n).Pairwise (· < ·) := List.pairwise_map.2 (List.pairwise_lt_range.imp fun h => Int.ofNat_lt.2 h)
theorem inSet_asc (pos : Nat → Nat) (s k : Nat) : Asc 0 k (inSet pos s k) := ⟨(everyL_asc k).filter _, fun x hx => by
  have := everyL_in (List.mem_filter.1 hx).1
  omega⟩
theorem inSet_succ (pos : Nat → Nat) (s k : Nat) : inSet pos s (k + 1) = inSet pos s k ++ (if bitOn s (pos k) = true then [(k : Int)] else []) := by
  unfold inSet
  rw [everyL_succ, List.filter_append]
  congr 1
  rw [List.filter_cons, Int.toNat_natCast]
  split <;> rfl
theorem inSet_le (pos : Nat → Nat) (s k : Nat) : (inSet pos s k).length ≤ k := by
  have := List.length_filter_le (fun x : Int => bitOn s (pos x.toNat)) (everyL k)
  rwa [everyL_length] at this
/-- Each ascending list is some set's. -/
theorem inSet_all {n : Nat} {pos : Nat → Nat} (hp : ∀ i, i < n → pos i < n ∧ pos (pos i) = i) {ks : List Int} (h : Asc 0 n ks) : ∃ s, s < 2 ^ n ∧ inSet pos s n = ks := by
  obtain ⟨s, hs, hb⟩ := bits_exist n fun i => decide ((pos i : Int) ∈ ks)
  refine ⟨s, hs, asc_ext _ _ (inSet_asc pos s n).1 h.1 fun x => ?_⟩
  unfold inSet
  rw [List.mem_filter]
  constructor
  · rintro ⟨hx, hbx⟩
    have hx2 := everyL_in hx
    have hq := hp x.toNat (by omega)
    rw [hb _ hq.1, hq.2, decide_eq_true_iff, show ((x.toNat : Nat) : Int) = x by omega] at hbx
    exact hbx
  · intro hx
    have hx2 := h.2 x hx
    have hq := hp x.toNat (by omega)
    refine ⟨everyL_mem hx2.1 (by omega), ?_⟩
    rw [hb _ hq.1, hq.2, decide_eq_true_iff, show ((x.toNat : Nat) : Int) = x by omega]
    exact hx
/-- Fewer numbers, or as many that stand before. -/
def lessL (a b : List Int) : Bool := decide (a.length < b.length) || (decide (a.length = b.length) && ahead a b)
theorem lessL_trans {a b c : List Int} (h1 : lessL a b = true) (h2 : lessL b c = true) : lessL a c = true := by
  simp only [lessL, Bool.or_eq_true, Bool.and_eq_true, decide_eq_true_iff] at *
  rcases h1 with h1 | ⟨h1, k1⟩ <;> rcases h2 with h2 | ⟨h2, k2⟩
  · exact .inl (by omega)
  · exact .inl (by omega)
  · exact .inl (by omega)
  · exact .inr ⟨by omega, ahead_trans a b c h1 h2 k1 k2⟩
theorem lessL_tot {a b : List Int} (h1 : lessL a b = false) (h2 : lessL b a = false) : a = b := by
  simp only [lessL, Bool.or_eq_false_iff, Bool.and_eq_false_iff, decide_eq_false_iff_not] at h1 h2
  have hl : a.length = b.length := by omega
  rcases h1.2 with q | q
  · exact absurd hl q
  · rcases h2.2 with q2 | q2
    · exact absurd hl.symm q2
    · exact ahead_tot a b hl q q2
/-- The least of the lists that are good. -/
def Least (n : Nat) (p : List Int → Bool) (r : List Int) : Prop := p r = true ∧ Asc 0 n r ∧ ∀ q, Asc 0 n q → p q = true → lessL q r = false
theorem Least.uniq {n : Nat} {p : List Int → Bool} {r r' : List Int} (h : Least n p r) (h' : Least n p r') : r = r' := lessL_tot (h'.2.2 r h.2.1 h.1) (h.2.2 r' h'.2.1 h'.1)
/-- Found in their order. -/
theorem least_found {n c j : Nat} {p : List Int → Bool} (hs : ∀ c', c' < c → ∀ q ∈ chF c' 0 n, p q = false) (hj : j < (chF c 0 n).length) (hn : ∀ i, i < j → p (chF c 0 n)[i]! = false) (hp : p (chF c 0 n)[j]! = true) : Least n p (chF c 0 n)[j]! := by
  have hm : (chF c 0 n)[j]! ∈ chF c 0 n := by rw [getB hj]; exact List.getElem_mem hj
  obtain ⟨hl, ha⟩ := (chF_mem c 0 n _).1 hm
  refine ⟨hp, ha, fun q hq hpq => ?_⟩
  have hqm := (chF_mem q.length 0 n q).2 ⟨rfl, hq⟩
  simp only [lessL, Bool.or_eq_false_iff, Bool.and_eq_false_iff, decide_eq_false_iff_not, hl]
  have hge : ¬ q.length < c := fun hlt => by
    have := hs _ hlt q hqm
    rw [hpq] at this
    cases this
  refine ⟨hge, ?_⟩
  rcases Nat.lt_or_ge c q.length with hgt | hle
  · exact .inl (by omega)
  · right
    have hqc : q.length = c := by omega
    rw [hqc] at hqm
    obtain ⟨i, hi, rfl⟩ := List.getElem_of_mem hqm
    rcases Nat.lt_trichotomy i j with h | h | h
    · have := hn i h
      rw [getB hi, hpq] at this
      cases this
    · subst h
      rw [getB hi]
      exact ahead_irr _
    · have := List.pairwise_iff_getElem.1 (chF_sorted c 0 n) j i hj hi h
      rw [getB hj]
      rw [getB hj] at hl
      exact ahead_asymm (by rw [hl, hqc]) this
/-- One set more. -/
def setStep (p : List Int → Bool) (ks : List Int) (r : List Int × Bool) : List Int × Bool :=
  if (r.2 && (decide (r.1.length < ks.length) || (decide (ks.length = r.1.length) && !ahead ks r.1))) = true then r else if p ks = true then (ks, true) else r
/-- The best of the first sets. -/
def setsK (n : Nat) (p : List Int → Bool) : Nat → List Int × Bool
  | 0 => ([], false)
  | k + 1 => setStep p (inSet (fun i => i) k n) (setsK n p k)
theorem skip_less (ks b : List Int) : (decide (b.length < ks.length) || (decide (ks.length = b.length) && !ahead ks b)) = !lessL ks b := by
  unfold lessL
  rcases Nat.lt_trichotomy ks.length b.length with h | h | h
  · have e1 : ¬ b.length < ks.length := by omega
    have e2 : ¬ ks.length = b.length := by omega
    simp [e1, e2, h]
  · simp [h]
  · have e1 : ¬ ks.length < b.length := by omega
    have e2 : ¬ ks.length = b.length := by omega
    simp [e1, e2, h]
theorem setStep_eq (p : List Int → Bool) (ks : List Int) (r : List Int × Bool) : setStep p ks r = if (r.2 && !lessL ks r.1) = true then r else if p ks = true then (ks, true) else r := by
  unfold setStep
  rw [skip_less]
theorem setsK_some {n : Nat} {p : List Int → Bool} : ∀ k, ((setsK n p k).2 = true → p (setsK n p k).1 = true ∧ Asc 0 n (setsK n p k).1 ∧ ∀ s, s < k → p (inSet (fun i => i) s n) = true → lessL (inSet (fun i => i) s n) (setsK n p k).1 = false) ∧ ((setsK n p k).2 = false → (setsK n p k).1 = [] ∧ ∀ s, s < k → p (inSet (fun i => i) s n) = false)
  | 0 => ⟨fun h => by simp [setsK] at h, fun _ => ⟨rfl, fun s hs => absurd hs (Nat.not_lt_zero _)⟩⟩
  | k + 1 => by
    obtain ⟨ih1, ih2⟩ := setsK_some (n := n) (p := p) k
    rw [setsK, setStep_eq]
    generalize hks : inSet (fun i => i) k n = ks
    generalize setsK n p k = r at ih1 ih2 ⊢
    have hcase : ∀ s, s < k + 1 → s < k ∨ s = k := fun s hs => by omega
    by_cases hskip : (r.2 && !lessL ks r.1) = true
    · rw [if_pos hskip]
      simp only [Bool.and_eq_true, Bool.not_eq_true'] at hskip
      obtain ⟨i1, i2, i3⟩ := ih1 hskip.1
      refine ⟨fun _ => ⟨i1, i2, fun s hs hps => ?_⟩, fun h => by rw [hskip.1] at h; cases h⟩
      rcases hcase s hs with q | rfl
      · exact i3 s q hps
      · rw [hks]; exact hskip.2
    · rw [if_neg hskip]
      by_cases hp : p ks = true
      · rw [if_pos hp]
        refine ⟨fun _ => ⟨hp, by show Asc 0 n ks; rw [← hks]; exact inSet_asc _ k n, fun s hs hps => ?_⟩, fun h => by cases h⟩
        rcases hcase s hs with q | rfl
        · cases hf : r.2 with
          | false => rw [(ih2 hf).2 s q] at hps; cases hps
          | true =>
            have hless : lessL ks r.1 = true := by simpa [hf] using hskip
            rw [← Bool.not_eq_true]
            intro hl
            have := lessL_trans hl hless
            rw [(ih1 hf).2.2 s q hps] at this
            cases this
        · rw [hks]; simp [lessL, ahead_irr]
      · rw [if_neg hp]
        refine ⟨fun h => ⟨(ih1 h).1, (ih1 h).2.1, fun s hs hps => ?_⟩, fun h => ⟨(ih2 h).1, fun s hs => ?_⟩⟩
        · rcases hcase s hs with q | rfl
          · exact (ih1 h).2.2 s q hps
          · rw [hks] at hps; exact absurd hps hp
        · rcases hcase s hs with q | rfl
          · exact (ih2 h).2 s q
          · rw [hks, ← Bool.not_eq_true]; exact hp
theorem sets_least {n : Nat} {p : List Int → Bool} (h : (setsK n p (2 ^ n)).2 = true) : Least n p (setsK n p (2 ^ n)).1 := by
  have := setsK_some (n := n) (p := p) (2 ^ n)
  replace this := this.1 h
  refine ⟨this.1, this.2.1, fun q hq hp => ?_⟩
  obtain ⟨s, hs, rfl⟩ := inSet_all (pos := fun i => i) (fun i hi => ⟨hi, rfl⟩) hq
  exact this.2.2 s hs hp
theorem sets_found {n : Nat} {p : List Int → Bool} {q : List Int} (hq : Asc 0 n q) (hp : p q = true) : (setsK n p (2 ^ n)).2 = true := by
  cases h : (setsK n p (2 ^ n)).2 with
  | true => rfl
  | false =>
    have := setsK_some (n := n) (p := p) (2 ^ n)
    replace this := this.2 h
    obtain ⟨s, hs, rfl⟩ := inSet_all (pos := fun i => i) (fun i hi => ⟨hi, rfl⟩) hq
    rw [this.2 s hs] at hp
    cases hp
end Go.Proofs.Ytbngpcghognojaa
namespace Go.Proofs.Ytbngpcghognojaa
open Go.RowKit
set_option linter.unusedVariables false
set_option linter.unusedSimpArgs false
set_option maxRecDepth 100000
set_option maxHeartbeats 1000000
def eastI (l : List Int) : Int := (l.map fun i => 2 * (i % 4) - 3).sum
def southI (l : List Int) : Int := (l.map fun i => i / 4 - 1).sum
theorem eastI_succ {l : List Int} {k : Nat} (h : k < l.length) : eastI (l.take (k + 1)) = eastI (l.take k) + (2 * (l.getD k 0 % 4) - 3) := by
  rw [List.take_succ_eq_append_getElem h]
  rw [eastI, List.map_append, List.sum_append, List.getD_eq_getElem?_getD, List.getElem?_eq_getElem h]
  simp [eastI]
theorem southI_succ {l : List Int} {k : Nat} (h : k < l.length) : southI (l.take (k + 1)) = southI (l.take k) + (l.getD k 0 / 4 - 1) := by
  rw [List.take_succ_eq_append_getElem h]
  rw [southI, List.map_append, List.sum_append, List.getD_eq_getElem?_getD, List.getElem?_eq_getElem h]
  simp [southI]
/-- Numbers of places. -/
def Places (l : List Int) : Prop := l.length ≤ 12 ∧ ∀ x ∈ l, 0 ≤ x ∧ x ≤ 11
theorem tip_bound {l : List Int} (h : ∀ x ∈ l, 0 ≤ x ∧ x ≤ 11) : -3 * (l.length : Int) ≤ eastI l ∧ eastI l ≤ 3 * (l.length : Int) ∧ -3 * (l.length : Int) ≤ southI l ∧ southI l ≤ 3 * (l.length : Int) := by
  induction l with
  | nil => decide
  | cons x l ih =>
    have h0 := h x (by simp)
    have h1 := ih fun y hy => h y (by simp [hy])
    simp only [eastI, southI, List.map_cons, List.sum_cons, List.length_cons] at h1 ⊢
    omega
theorem Places.take {l : List Int} (h : Places l) (k : Nat) : Places (l.take k) :=
  ⟨by rw [List.length_take]; have := h.1; omega, fun x hx => h.2 x (List.mem_of_mem_take hx)⟩
theorem Places.bound {l : List Int} (h : Places l) : -36 ≤ eastI l ∧ eastI l ≤ 36 ∧ -36 ≤ southI l ∧ southI l ≤ 36 := by
  have := tip_bound h.2
  have := h.1
  omega
theorem Places.at {l : List Int} (h : Places l) {k : Nat} (hk : k < l.length) : 0 ≤ l.getD k 0 ∧ l.getD k 0 ≤ 11 := by
  rw [List.getD_eq_getElem?_getD, List.getElem?_eq_getElem hk]
  exact h.2 _ (List.getElem_mem hk)
theorem pl_places (p : Bt → Bool) (l : List Bt) : Places (pl p l 12) := by
  refine ⟨pl_le p l 12, fun x hx => ?_⟩
  simp only [pl, List.mem_map, List.mem_filter, List.mem_range] at hx
  obtain ⟨k, ⟨hk, _⟩, rfl⟩ := hx
  simp only [Int.ofNat_eq_natCast]
  omega
def tipR (c : Cr) : Int × Int × Int := if c.ok = true then (eastI (usedI c), southI (usedI c), 0) else (0, 0, 1)
end Go.Proofs.Ytbngpcghognojaa
namespace Go.Proofs.Ytbngpcghognojaa
open Go Go.RowKit
set_option linter.unusedVariables false
set_option linter.unusedSimpArgs false
set_option maxRecDepth 100000
/-- How much places tip. -/
def tipN (ks : List Int) : Int := max (eastI ks) (-eastI ks) + max (southI ks) (-southI ks)
theorem tipN_pos (ks : List Int) : 0 ≤ tipN ks := by unfold tipN; omega
/-- a tips less, or as much and stands before. -/
def lessT (a b : List Int) : Bool := decide (tipN a < tipN b) || (decide (tipN a = tipN b) && ahead a b)
theorem lessT_tot {a b : List Int} (hl : a.length = b.length) (h1 : lessT a b = false) (h2 : lessT b a = false) : a = b := by
  simp only [lessT, Bool.or_eq_false_iff, Bool.and_eq_false_iff, decide_eq_false_iff_not] at h1 h2
  have he : tipN a = tipN b := by omega
  rcases h1.2 with q | q
  · exact absurd he q
  · rcases h2.2 with q2 | q2
    · exact absurd he.symm q2
    · exact ahead_tot a b hl q q2
theorem lessT_trans {a b c : List Int} (hl : a.length = b.length) (hl2 : b.length = c.length) (h1 : lessT a b = true) (h2 : lessT b c = true) : lessT a c = true := by
  simp only [lessT, Bool.or_eq_true, Bool.and_eq_true, decide_eq_true_iff] at *
  rcases h1 with h1 | ⟨h1, k1⟩ <;> rcases h2 with h2 | ⟨h2, k2⟩
  · exact .inl (by omega)
  · exact .inl (by omega)
  · exact .inl (by omega)
  · exact .inr ⟨by omega, ahead_trans a b c hl hl2 k1 k2⟩
theorem lessT_irr (a : List Int) : lessT a a = false := by
  simp [lessT, ahead_irr]
/-- The least of the lists of n places. -/
structure LeastT (n : Nat) (r : List Int) : Prop where
  len : r.length = n
  asc : Asc 0 12 r
  min : ∀ q, Asc 0 12 q → q.length = n → lessT q r = false
theorem LeastT.uniq {n : Nat} {r r' : List Int} (h : LeastT n r) (h' : LeastT n r') : r = r' := lessT_tot (h.len.trans h'.len.symm) (h'.min r h.asc h.len) (h.min r' h'.asc h'.len)
/-- The best of the first lists, in their order. -/
def lvI (rs : List (List Int)) : Nat → List Int × Int
  | 0 => ([], -1)
  | j + 1 => if (decide ((lvI rs j).2 < 0) || decide (tipN rs[j]! < (lvI rs j).2)) = true then (rs[j]!, tipN rs[j]!) else lvI rs j
theorem lvI_cases (rs : List (List Int)) : ∀ j, j = 0 ∨ ∃ i, i < j ∧ lvI rs j = (rs[i]!, tipN rs[i]!) ∧ (∀ i', i' < j → tipN rs[i]! ≤ tipN rs[i']!) ∧ ∀ i', i' < i → tipN rs[i]! < tipN rs[i']!
  | 0 => .inl rfl
  | j + 1 => by
    right
    rw [lvI]
    rcases lvI_cases rs j with rfl | ⟨i, hi, e, h1, h2⟩
    · refine ⟨0, Nat.zero_lt_one, ?_, fun i' hi' => ?_, fun i' hi' => absurd hi' (Nat.not_lt_zero _)⟩
      · rw [if_pos (by simp [lvI])]
      · obtain rfl : i' = 0 := by omega
        exact Int.le_refl _
    · rw [e]
      have hp := tipN_pos rs[i]!
      have e1 : decide ((rs[i]!, tipN rs[i]!).2 < 0) = false := by rw [decide_eq_false_iff_not]; show ¬ tipN rs[i]! < 0; omega
      by_cases hlt : tipN rs[j]! < tipN rs[i]!
      · refine ⟨j, Nat.lt_succ_self _, ?_, fun i' hi' => ?_, fun i' hi' => ?_⟩
        · rw [if_pos (by rw [e1]; simpa using hlt)]
        · rcases Nat.lt_or_ge i' j with q | q
          · have := h1 i' q; omega
          · obtain rfl : i' = j := by omega
            exact Int.le_refl _
        · have := h1 i' hi'; omega
      · refine ⟨i, by omega, ?_, fun i' hi' => ?_, h2⟩
        · rw [if_neg (by rw [e1]; simpa using hlt)]
        · rcases Nat.lt_or_ge i' j with q | q
          · exact h1 i' q
          · obtain rfl : i' = j := by omega
            omega
theorem lvI_asc {n j : Nat} (hj : j ≤ (chF n 0 12).length) : (lvI (chF n 0 12) j) = ([], -1) ∨ ((lvI (chF n 0 12) j).1.length = n ∧ Asc 0 12 (lvI (chF n 0 12) j).1 ∧ (lvI (chF n 0 12) j).2 = tipN (lvI (chF n 0 12) j).1) := by
  rcases lvI_cases (chF n 0 12) j with rfl | ⟨i, hi, e, h1, h2⟩
  · exact .inl rfl
  · right
    rw [e]
    have hm := (chF_mem n 0 12 _).1 (show (chF n 0 12)[i]! ∈ chF n 0 12 by rw [getB (by omega)]; exact List.getElem_mem _)
    exact ⟨hm.1, hm.2, rfl⟩
theorem lvI_least {n : Nat} (hn : n ≤ 12) : LeastT n (lvI (chF n 0 12) (chF n 0 12).length).1 := by
  have hne : everyL n ∈ chF n 0 12 := (chF_mem n 0 12 _).2 ⟨everyL_length n, everyL_asc n, fun x hx => by have := everyL_in hx; omega⟩
  rcases lvI_cases (chF n 0 12) (chF n 0 12).length with h | ⟨i, hi, e, h1, h2⟩
  · rw [List.length_eq_zero_iff.1 h] at hne
    cases hne
  · rw [e]
    have hm := (chF_mem n 0 12 _).1 (show (chF n 0 12)[i]! ∈ chF n 0 12 by rw [getB hi]; exact List.getElem_mem hi)
    refine ⟨hm.1, hm.2, fun q hq hql => ?_⟩
    obtain ⟨i', hi', rfl⟩ := List.getElem_of_mem ((chF_mem n 0 12 q).2 ⟨hql, hq⟩)
    rw [← getB hi'] at hql ⊢
    simp only [lessT, Bool.or_eq_false_iff, Bool.and_eq_false_iff, decide_eq_false_iff_not]
    have k1 := h1 i' hi'
    refine ⟨by omega, ?_⟩
    rcases Nat.lt_trichotomy i' i with h | h | h
    · have := h2 i' h
      exact .inl (by omega)
    · subst h
      exact .inr (ahead_irr _)
    · right
      have := List.pairwise_iff_getElem.1 (chF_sorted n 0 12) i i' hi hi' h
      rw [← getB hi, ← getB hi'] at this
      exact ahead_asymm (hm.1.trans hql.symm) this
/-- One set more. -/
def lvStep (n : Nat) (ks : List Int) (r : List Int × Int) : List Int × Int :=
  if ks.length = n then (if (decide (r.2 < 0) || decide (tipN ks < r.2) || (decide (tipN ks = r.2) && ahead ks r.1)) = true then (ks, tipN ks) else r) else r
/-- The best of the first sets. -/
def lvS (n : Nat) : Nat → List Int × Int
  | 0 => ([], -1)
  | k + 1 => lvStep n (inSet (fun i => 11 - i) k 12) (lvS n k)
theorem lvS_cases (n : Nat) : ∀ k, (lvS n k = ([], -1) ∧ ∀ s, s < k → (inSet (fun i => 11 - i) s 12).length ≠ n) ∨ ((lvS n k).2 = tipN (lvS n k).1 ∧ (lvS n k).1.length = n ∧ Asc 0 12 (lvS n k).1 ∧ ∀ s, s < k → (inSet (fun i => 11 - i) s 12).length = n → lessT (inSet (fun i => 11 - i) s 12) (lvS n k).1 = false)
  | 0 => .inl ⟨rfl, fun s hs => absurd hs (Nat.not_lt_zero _)⟩
  | k + 1 => by
    have ih := lvS_cases n k
    rw [lvS, lvStep]
    have hasc := inSet_asc (fun i => 11 - i) k 12
    generalize hks : inSet (fun i => 11 - i) k 12 = ks at hasc
    generalize lvS n k = r at ih ⊢
    have hcase : ∀ s, s < k + 1 → s < k ∨ s = k := fun s hs => by omega
    by_cases hl : ks.length = n
    · rw [if_pos hl]
      right
      rcases ih with ⟨rfl, ih⟩ | ⟨i1, i2, i3, i4⟩
      · rw [if_pos (by simp)]
        refine ⟨rfl, hl, hasc, fun s hs hsl => ?_⟩
        rcases hcase s hs with q | rfl
        · exact absurd hsl (ih s q)
        · rw [hks]; exact lessT_irr ks
      · have e1 : decide (r.2 < 0) = false := by rw [decide_eq_false_iff_not, i1]; have := tipN_pos r.1; omega
        have e2 : (decide (r.2 < 0) || decide (tipN ks < r.2) || (decide (tipN ks = r.2) && ahead ks r.1)) = lessT ks r.1 := by rw [e1, i1, lessT, Bool.false_or]
        rw [e2]
        cases hlt : lessT ks r.1 with
        | true =>
          rw [if_pos rfl]
          refine ⟨rfl, hl, hasc, fun s hs hsl => ?_⟩
          rcases hcase s hs with q | rfl
          · rw [← Bool.not_eq_true]
            intro h
            have := lessT_trans (hsl.trans hl.symm) (hl.trans i2.symm) h hlt
            rw [i4 s q hsl] at this
            cases this
          · rw [hks]; exact lessT_irr ks
        | false =>
          rw [if_neg (by simp)]
          refine ⟨i1, i2, i3, fun s hs hsl => ?_⟩
          rcases hcase s hs with q | rfl
          · exact i4 s q hsl
          · rw [hks]; exact hlt
    · rw [if_neg hl]
      rcases ih with ⟨rfl, ih⟩ | ⟨i1, i2, i3, i4⟩
      · refine .inl ⟨rfl, fun s hs => ?_⟩
        rcases hcase s hs with q | rfl
        · exact ih s q
        · rw [hks]; exact hl
      · refine .inr ⟨i1, i2, i3, fun s hs hsl => ?_⟩
        rcases hcase s hs with q | rfl
        · exact i4 s q hsl
        · rw [hks] at hsl; exact absurd hsl hl
theorem lvS_least {n : Nat} (hn : n ≤ 12) : LeastT n (lvS n 4096).1 := by
  have hall := @inSet_all 12 (fun i => 11 - i) (fun i hi => ⟨by show 11 - i < 12; omega, by show 11 - (11 - i) = i; omega⟩)
  rcases lvS_cases n 4096 with ⟨_, h⟩ | ⟨i1, i2, i3, i4⟩
  · obtain ⟨s, hs, e⟩ := hall (ks := everyL n) ⟨everyL_asc n, fun x hx => by have := everyL_in hx; omega⟩
    exact absurd (by rw [e]; exact everyL_length n) (h s hs)
  · refine ⟨i2, i3, fun q hq hql => ?_⟩
    obtain ⟨s, hs, rfl⟩ := hall hq
    exact i4 s hs hql
/-- The places for n bottles. -/
def level (n : Nat) : List Int := (lvS n 4096).1
theorem level_eq {n : Nat} (hn : n ≤ 12) : (lvI (chF n 0 12) (chF n 0 12).length).1 = level n := (lvI_least hn).uniq (lvS_least hn)
theorem level_len {n : Nat} (hn : n ≤ 12) : (level n).length = n := (lvS_least hn).len
theorem level_places {n : Nat} (hn : n ≤ 12) : Places (level n) := ⟨by rw [level_len hn]; exact hn, fun x hx => by have := (lvS_least hn).asc.2 x hx; omega⟩
/-- Bottles put into some places. -/
def spread (ks : List Int) (bs : List Bt) : Nat → Cr
  | 0 => zC
  | i + 1 => setC (spread ks bs i) (ks.getD i 0).toNat (rB bs i)
def levelR (c : Cr) : Cr × Int := if c.ok = true then (spread (level (allB c).length) (allB c) (allB c).length, 0) else (zC, 1)
end Go.Proofs.Ytbngpcghognojaa
namespace Go.Proofs.Ytbngpcghognojaa
open Go.RowKit
set_option linter.unusedVariables false
set_option linter.unusedSimpArgs false
set_option maxRecDepth 100000
set_option maxHeartbeats 1000000
attribute [local go_sem] Oper.qB
/-- The best of the first crates, and its use. -/
def bestK (lc : List Cr) (left : List Wt) (out : List Int) : Nat → Int × Int
  | 0 => (-1, 0)
  | k + 1 => if (!out.contains (k : Int) && (decide ((bestK lc left out k).1 < 0) || decide ((bestK lc left out k).2 < useW lc[k]! left))) = true then ((k : Int), useW lc[k]! left) else bestK lc left out k
def leftL (lc : List Cr) (l : List Wt) (out : List Int) : List Wt := lackL (cntL (opL lc out)) l
def greedy (lc : List Cr) (l : List Wt) : Nat → List Int → List Int
  | 0, out => out
  | n + 1, out => if leftL lc l out = [] then out else greedy lc l n (out ++ [(bestK lc (leftL lc l out) out lc.length).1])
def finG (lc : List Cr) (l : List Wt) (out : List Int) : List Int := greedy lc l (lc.length + 1 - out.length) out
def greedyR (lc : List Cr) (l : List Wt) : List Int × Int := if fillI lc l = 0 then (finG lc l [], 0) else ([], fillI lc l)
theorem bestK_cases (lc : List Cr) (left : List Wt) (out : List Int) : ∀ k, ((bestK lc left out k).1 = -1 ∧ ∀ i, i < k → (i : Int) ∈ out) ∨ (0 ≤ (bestK lc left out k).1 ∧ (bestK lc left out k).1 < k ∧ (bestK lc left out k).1 ∉ out)
  | 0 => .inl ⟨rfl, fun i hi => absurd hi (Nat.not_lt_zero _)⟩
  | k + 1 => by
    have ih := bestK_cases lc left out k
    rw [bestK]
    split
    · rename_i h
      simp only [Bool.and_eq_true, Bool.not_eq_true', ← Bool.not_eq_true, List.contains_eq_mem, decide_eq_true_iff] at h
      exact .inr ⟨Int.natCast_nonneg k, by show (k : Int) < ((k + 1 : Nat) : Int); omega, h.1⟩
    · rename_i h
      rcases ih with ⟨i1, i2⟩ | ⟨i1, i2, i3⟩
      · refine .inl ⟨i1, fun i hi => ?_⟩
        rcases Nat.lt_or_ge i k with q | q
        · exact i2 i q
        · obtain rfl : i = k := by omega
          apply Classical.byContradiction
          intro hm
          apply h
          have e : decide ((bestK lc left out i).1 < 0) = true := by rw [i1]; rfl
          simp [e, hm]
      · exact .inr ⟨i1, by omega, i3⟩
theorem Good.snoc {n : Nat} {ks : List Int} {x : Int} (h : Good n ks) (h0 : 0 ≤ x) (h1 : x < n) (h2 : x ∉ ks) : Good n (ks ++ [x]) :=
  ⟨List.nodup_append.2 ⟨h.nd, List.pairwise_singleton _ _, fun a ha b hb => by rintro rfl; rw [List.mem_singleton] at hb; exact h2 (hb ▸ ha)⟩, fun y hy => by
    rcases List.mem_append.1 hy with q | q
    · exact h.inn y q
    · obtain rfl := List.mem_singleton.1 q
      exact ⟨h0, h1⟩⟩
/-- There is a crate that is not yet opened. -/
theorem best_good {lc : List Cr} {l : List Wt} {out : List Int} (h : Good lc.length out) (hf : lackL (cntL lc) l = []) (hl : leftL lc l out ≠ []) : Good lc.length (out ++ [(bestK lc (leftL lc l out) out lc.length).1]) := by
  rcases bestK_cases lc (leftL lc l out) out lc.length with ⟨_, q⟩ | ⟨q1, q2, q3⟩
  · exact absurd (by rw [leftL, show cntL (opL lc out) = cntL lc from funext fun b => h.all q b, hf]) hl
  · exact h.snoc q1 q2 q3
theorem finG_stop {lc : List Cr} {l : List Wt} {out : List Int} (h : Good lc.length out) (hl : leftL lc l out = []) : finG lc l out = out := by
  have := h.le
  rw [finG, show lc.length + 1 - out.length = (lc.length - out.length) + 1 by omega, greedy, if_pos hl]
theorem finG_step {lc : List Cr} {l : List Wt} {out : List Int} (h : Good lc.length out) (hl : leftL lc l out ≠ []) : finG lc l out = finG lc l (out ++ [(bestK lc (leftL lc l out) out lc.length).1]) := by
  have := h.le
  rw [finG, show lc.length + 1 - out.length = (lc.length - out.length) + 1 by omega, greedy, if_neg hl, finG, List.length_append, List.length_singleton, show lc.length + 1 - (out.length + 1) = lc.length - out.length by omega]
theorem Good.nil (n : Nat) : Good n [] := ⟨List.nodup_nil, fun x hx => absurd hx (List.not_mem_nil)⟩
theorem finG_le {lc : List Cr} {l : List Wt} (hf : lackL (cntL lc) l = []) : ∀ (m : Nat) (out : List Int), Good lc.length out → lc.length - out.length = m → (finG lc l out).length ≤ lc.length
  | m, out, h, hm => by
    have hle := h.le
    by_cases hl : leftL lc l out = []
    · rw [finG_stop h hl]; exact hle
    · have h2 := best_good h hf hl
      have h3 := h2.le
      rw [List.length_append, List.length_singleton] at h3
      rw [finG_step h hl]
      match m with
      | 0 => omega
      | m + 1 => exact finG_le hf m _ h2 (by rw [List.length_append, List.length_singleton]; omega)
theorem greedyR_le (lc : List Cr) (l : List Wt) : (greedyR lc l).1.length ≤ 12 := by
  unfold greedyR
  split
  · rename_i h
    rcases fillI_cases lc l with ⟨_, h1, h2⟩ | e | e
    · have := finG_le h2 _ [] (Good.nil _) rfl
      have := (ask_le h1).1
      show (finG lc l []).length ≤ 12
      omega
    · rw [e] at h; cases h
    · rw [e] at h; cases h
  · simp
def lenOf : Value → Nat
  | .slice _ n _ => n
  | _ => 0
theorem GreedyOpen_any (g0 c0 : Nat) (lc : List Cr) (g1 c1 : Nat) (l : List Wt) (w : World) (K0 : Lies cc w g0 lc) (K1 : Lies wc w g1 l) (hn : lc.length ≤ 1048576) (hl : l.length ≤ 1048576) :
    Calls Try.prog 9 #[.slice (some ⟨g0, 0, none⟩) lc.length c0, .slice (some ⟨g1, 0, none⟩) l.length c1] w fun e w' => ∃ v, e = .returned (.tuple #[v, .int .i64 (greedyR lc l).2]) ∧ OwnN iv w' w.heap.size 2 1 v (greedyR lc l).1 ∧ Below w.heap.size w w' := by
  have H := Below.refl w.heap.size w
  replace K0 := Lib.hid K0
  replace K1 := Lib.hid K1
  rcases fillI_cases lc l with ⟨e, ha, hf⟩ | e | e
  rotate_left
  all_goals try (
    have HF := Lib.hid (show greedyR lc l = ([], fillI lc l) by rw [greedyR, if_neg (by rw [e]; decide)])
    have HI := Lib.hid e
    rw [HI.out] at HF
    clear e
    go_enter Try.func9, Try.ntmps9
    go_wp2_with (go_at_call 36; with_reducible refine (fillCode_any g0 c0 lc g1 c1 l _ (K0.out.below H) (K1.out.below H) hn hl).mono ?_; rintro e w' ⟨rfl, hb⟩; rw [HI.out]; replace H := bstep H hb; clear hb)
    rw [HF.out]
    exact bodyPost_ret (results_tt rfl) rfl ⟨_, rfl, OwnN.nil, H⟩)
  have HF := Lib.hid (show greedyR lc l = (finG lc l [], 0) by rw [greedyR, if_pos e])
  have HI := Lib.hid e
  have HZ := Lib.hid hf
  have h8 := ask_le ha
  clear e ha hf
  go_enter Try.func9, Try.ntmps9
  go_wp2_with (go_at_call 36; with_reducible refine (fillCode_any g0 c0 lc g1 c1 l _ (K0.out.below H) (K1.out.below H) hn hl).mono ?_; rintro e w' ⟨rfl, hb⟩; rw [HI.out]; replace H := bstep H hb; clear hb)
  go_loopw [7] (fun v wr => ∃ out : List Int, Hid (Good lc.length out ∧ finG lc l out = finG lc l []) ∧ Hid (OwnS iv wr w.heap.size 2 1 v out) ∧ Below w.heap.size w wr) (fun v _ => lc.length - lenOf v)
  case atStart => exact ⟨[], ⟨Good.nil _, rfl⟩, OwnS.lit H.size, H.alloc H.size _⟩
  case round =>
    clear H
    obtain ⟨out, HG, HO, hb⟩ := hrel
    obtain ⟨wo, hwo⟩ : ∃ wo, wo = wr := ⟨_, rfl⟩
    subst hwo
    obtain ⟨g, cap, rfl, L, _, hg, hc⟩ := HO.out.lies
    replace L := Lib.hid L
    have K0' := Lib.hid (K0.out.below hb)
    have K1' := Lib.hid (K1.out.below hb)
    have HOP := Lib.hid (opened_any (some ⟨g0, 0, none⟩) c0 lc (some ⟨g, 0, none⟩) cap out wo K0'.out.rd (by rw [← fl_iv]; exact L.out.rd) HG.out.1.inn hc hn (by have := HG.out.1.le; omega))
    have HOL : (opL lc out).length ≤ 1048576 := Nat.le_trans (opK_le lc out out.length) (by have := HG.out.1.le; omega)
    have H := Below.refl wo.heap.size wo
    have HLE := lackL_le (cntL (opL lc out)) l
    have HS := Lib.hid (finG_stop (l := l) HG.out.1)
    have HP := Lib.hid (finG_step (l := l) HG.out.1)
    have HB := Lib.hid (best_good (l := l) HG.out.1 HZ.out)
    have HX : Hid (leftL lc l out = lackL (cntL (opL lc out)) l) := rfl
    have hgl := HG.out.1.le
    have HLK := fun A c W h b hb1 => lack_any A c (opL lc out) g1 0 c1 l W h b hb1 HOL (by omega)
    generalize lackL (cntL (opL lc out)) l = ll at HLE HX HLK
    replace HLK := Lib.hid HLK
    rw [HX.out] at HS HP HB
    rcases Nat.eq_zero_or_pos ll.length with h0 | h0
    · have HS2 := Lib.hid (HS.out (List.length_eq_zero_iff.1 h0))
      go_wp2_with (first | (go_at_call 41; with_reducible refine HOP.out.mono ?_; rintro e w2 ⟨v2, rfl, O2, hb2⟩; obtain ⟨g3, p3, rfl, KO, -⟩ := O2.lies; replace KO := Lib.hid KO; replace H := bstep H hb2; clear hb2 O2) | (go_at_call 40; with_reducible refine (HLK.out _ p3 _ KO.out.rd (K1'.out.below H).c (K1'.out.below H).lt).mono ?_; rintro e w3 ⟨v3, rfl, O3, hb3⟩; obtain ⟨g4, p4, rfl, KL, -⟩ := O3.lies; replace H := bstep H hb3; clear hb3 O3))
      rw [HF.out]
      exact bodyPost_ret (results_tt rfl) rfl ⟨_, rfl, by rw [← HG.out.2, HS2.out]; exact (HO.out.kept H).n, bstep hb H⟩
    · have hne : ll ≠ [] := fun q => by simp [q] at h0
      have HP2 := Lib.hid (HP.out hne)
      have HB2 := Lib.hid (HB.out hne)
      have hz : ((ll.length : Int) == 0) = false := by rw [beq_eq_false_iff_ne]; omega
      clear HP HB hne
      go_wp2_with (first | (go_at_call 41; with_reducible refine HOP.out.mono ?_; rintro e w2 ⟨v2, rfl, O2, hb2⟩; obtain ⟨g3, p3, rfl, KO, -⟩ := O2.lies; replace KO := Lib.hid KO; replace H := bstep H hb2; clear hb2 O2) | (go_at_call 40; with_reducible refine (HLK.out _ p3 _ KO.out.rd (K1'.out.below H).c (K1'.out.below H).lt).mono ?_; rintro e w3 ⟨v3, rfl, O3, hb3⟩; obtain ⟨g4, p4, rfl, KL, -⟩ := O3.lies; replace H := bstep H hb3; clear hb3 O3))
      replace KL := Lib.hid KL
      have K0i := Lib.hid (K0'.out.below H)
      have Lo := Lib.hid (L.out.below H)
      have HH := Lib.hid H
      clear H
      go_loopw [9, 10, 32] (fun b m i wr => ∃ k : Nat, k ≤ lc.length ∧ i = .int .i64 k ∧ b = .int .i64 (bestK lc ll out k).1 ∧ m = .int .i64 (bestK lc ll out k).2 ∧ Hid (Below w3.heap.size w3 wr)) (fun _ _ i _ => lc.length - (intOf i).toNat)
      case atStart => exact ⟨0, Nat.zero_le _, rfl, rfl, rfl, Below.refl _ _⟩
      case round =>
        obtain ⟨k, hk, rfl, rfl, rfl, HQ⟩ := hrel
        by_cases hlt : k < lc.length
        · have HXc := (K0i.out.below HQ.out).c.el cc_length hlt
          rw [Nat.zero_add] at HXc
          replace HXc := Lib.hid HXc
          have HKL := Lib.hid (KL.out.below HQ.out)
          have HLo := Lib.hid (Lo.out.below HQ.out)
          have HBK : Hid (bestK lc ll out (k + 1) = if (!out.contains (k : Int) && (decide ((bestK lc ll out k).1 < 0) || decide ((bestK lc ll out k).2 < useW lc[k]! ll))) = true then ((k : Int), useW lc[k]! ll) else bestK lc ll out k) := rfl
          have hlt2 : (k : Int) < (lc.length : Int) := by omega
          generalize lc[k]! = c at HXc HBK
          generalize bestK lc ll out k = p at HBK ⊢
          obtain ⟨bk, mk⟩ := p
          go_upto_region 12 with (first | (with_reducible refine wp_load_CAt rfl _ _ rfl _ _ rfl (cc c) HXc.out _ Try.underlying44 rfl (infoCl c) ?_) | ((with_reducible refine wp_store_rowOf rfl rfl _ _ _ rfl _ rfl (cc c).toArray rfl (cc zC).toArray ?hr (cc_size2 _ _) (infoC _) (cc_one _) ?_); (case hr => rw [rowOf_alloc, if_pos rfl]; rfl)))
          generalize hW1 : World.setRow _ _ _ = W1
          obtain ⟨HBx, r1, b1⟩ := laid_row (Below.refl wr.heap.size wr) hW1
          clear hW1
          have HQ1 := Lib.hid (bstep HQ.out HBx)
          have HKL1 := Lib.hid (HKL.out.below HBx)
          have HLo1 := Lib.hid (HLo.out.below HBx)
          generalize wr.heap.size = g9 at r1 b1 ⊢
          clear HXc HBx HKL HLo HQ
          have H := Below.refl W1.heap.size W1
          have hus := fun W h b => useful_any g4 0 p4 c ll W h b (by omega)
          have hcn := fun W h => Contains_int g 0 out.length cap out (k : Int) W h (Nat.le_refl _) (by omega)
          rw [List.take_length] at hcn
          generalize useW c ll = u at hus HBK
          generalize out.contains (k : Int) = r at hcn HBK
          cases r with
          | true =>
            have HBK2 := Lib.hid (show bestK lc ll out (k + 1) = (bk, mk) by rw [HBK.out]; rfl)
            clear HBK
            go_wp2_with (first | ((with_reducible refine wp_load_rowBg H ?_ _ _ rfl _ rfl _ r1 _ Try.underlying44 rfl (infoC c) ?_); rfl) | (go_at_call 42; with_reducible refine (hus _ (HKL1.out.below H).c (HKL1.out.below H).lt).mono ?_; rintro e w2 ⟨rfl, hb2⟩; replace H := bstep H hb2; clear hb2) | (go_at_call 43; with_reducible refine (hcn _ (by rw [← fl_iv]; exact (HLo1.out.below H).c)).mono ?_; rintro e w2 ⟨rfl, rfl⟩))
            go_roundw
            case rel => exact ⟨k + 1, by omega, by go_num, by rw [HBK2.out], by rw [HBK2.out], bstep HQ1.out H⟩
            case measure => simp [intOf]; omega
          | false =>
            by_cases hneg : bk < 0
            · have HBK2 := Lib.hid (show bestK lc ll out (k + 1) = ((k : Int), u) by rw [HBK.out]; simp [hneg])
              clear HBK
              go_wp2_with (first | ((with_reducible refine wp_load_rowBg H ?_ _ _ rfl _ rfl _ r1 _ Try.underlying44 rfl (infoC c) ?_); rfl) | (go_at_call 42; with_reducible refine (hus _ (HKL1.out.below H).c (HKL1.out.below H).lt).mono ?_; rintro e w2 ⟨rfl, hb2⟩; replace H := bstep H hb2; clear hb2) | (go_at_call 43; with_reducible refine (hcn _ (by rw [← fl_iv]; exact (HLo1.out.below H).c)).mono ?_; rintro e w2 ⟨rfl, rfl⟩))
              go_roundw
              case rel => exact ⟨k + 1, by omega, by go_num, by rw [HBK2.out], by rw [HBK2.out], bstep HQ1.out H⟩
              case measure => simp [intOf]; omega
            · by_cases hgt : mk < u
              · have HBK2 := Lib.hid (show bestK lc ll out (k + 1) = ((k : Int), u) by rw [HBK.out]; simp [hgt])
                clear HBK
                go_wp2_with (first | ((with_reducible refine wp_load_rowBg H ?_ _ _ rfl _ rfl _ r1 _ Try.underlying44 rfl (infoC c) ?_); rfl) | (go_at_call 42; with_reducible refine (hus _ (HKL1.out.below H).c (HKL1.out.below H).lt).mono ?_; rintro e w2 ⟨rfl, hb2⟩; replace H := bstep H hb2; clear hb2) | (go_at_call 43; with_reducible refine (hcn _ (by rw [← fl_iv]; exact (HLo1.out.below H).c)).mono ?_; rintro e w2 ⟨rfl, rfl⟩))
                go_roundw
                case rel => exact ⟨k + 1, by omega, by go_num, by rw [HBK2.out], by rw [HBK2.out], bstep HQ1.out H⟩
                case measure => simp [intOf]; omega
              · have HBK2 := Lib.hid (show bestK lc ll out (k + 1) = (bk, mk) by rw [HBK.out]; simp [hgt, hneg])
                clear HBK
                go_wp2_with (first | ((with_reducible refine wp_load_rowBg H ?_ _ _ rfl _ rfl _ r1 _ Try.underlying44 rfl (infoC c) ?_); rfl) | (go_at_call 42; with_reducible refine (hus _ (HKL1.out.below H).c (HKL1.out.below H).lt).mono ?_; rintro e w2 ⟨rfl, hb2⟩; replace H := bstep H hb2; clear hb2) | (go_at_call 43; with_reducible refine (hcn _ (by rw [← fl_iv]; exact (HLo1.out.below H).c)).mono ?_; rintro e w2 ⟨rfl, rfl⟩))
                go_roundw
                case rel => exact ⟨k + 1, by omega, by go_num, by rw [HBK2.out], by rw [HBK2.out], bstep HQ1.out H⟩
                case measure => simp [intOf]; omega
        · obtain rfl : k = lc.length := by omega
          have HO2 := Lib.hid (HO.out.kept (bstep HH.out HQ.out))
          have hb2 := Lib.hid (bstep hb (bstep HH.out HQ.out))
          have hB2 := HB2.out.le
          rw [List.length_append, List.length_singleton] at hB2
          have hG2 := HG.out.2
          replace HP2 := Lib.hid (HP2.out.symm.trans hG2)
          clear hG2
          generalize (bestK lc ll out lc.length).1 = bk at HP2 HB2 ⊢
          generalize (bestK lc ll out lc.length).2 = mk
          go_wp2_with (at_builtin; refine wp_app_num w.heap.size rfl _ _ rfl _ out bk rfl _ rfl ?hg ?HO ?hB ?hn ?_; (case hg => simp); (case HO => exact HO2.out); (case hB => exact hb2.out.size); (case hn => omega); intro v1 w1 hown hb3)
          obtain ⟨g8, cap8, rfl, -⟩ := hown.lies
          go_roundw
          case rel => exact ⟨out ++ [bk], ⟨HB2.out, HP2.out⟩, hown, hb2.out.trans hb3⟩
          case measure => show lc.length - (out ++ [bk]).length < lc.length - out.length; rw [List.length_append, List.length_singleton]; omega
theorem sGreedyOpen_any (g0 c0 : Nat) (lc : List Cr) (g1 c1 : Nat) (l : List Wt) (w : World) (K0 : Lies cc w g0 lc) (K1 : Lies wc w g1 l) (hn : lc.length ≤ 1048576) (hl : l.length ≤ 1048576) :
    Calls Try.prog 10 #[.slice (some ⟨g0, 0, none⟩) lc.length c0, .slice (some ⟨g1, 0, none⟩) l.length c1] w fun e w' => ∃ v, e = .returned (.tuple #[v, .int .i64 (greedyR lc l).2]) ∧ OwnN iv w' w.heap.size 2 1 v (greedyR lc l).1 ∧ Below w.heap.size w w' := by
  have H := Below.refl w.heap.size w
  replace K0 := Lib.hid K0
  replace K1 := Lib.hid K1
  rcases fillI_cases lc l with ⟨e, ha, hf⟩ | e | e
  rotate_left
  all_goals try (
    have HF := Lib.hid (show greedyR lc l = ([], fillI lc l) by rw [greedyR, if_neg (by rw [e]; decide)])
    have HI := Lib.hid e
    rw [HI.out] at HF
    clear e
    go_enter Try.func10, Try.ntmps10
    go_wp2_with (go_at_call 38; with_reducible refine (l02Filled_any g0 c0 lc g1 c1 l _ (K0.out.below H) (K1.out.below H) hn hl).mono ?_; rintro e w' ⟨rfl, hb⟩; rw [HI.out]; replace H := bstep H hb; clear hb)
    rw [HF.out]
    exact bodyPost_ret (results_tt rfl) rfl ⟨_, rfl, (OwnS.lit (f := iv) H.size).n, H.alloc H.size _⟩)
  have HF := Lib.hid (show greedyR lc l = (finG lc l [], 0) by rw [greedyR, if_pos e])
  have HI := Lib.hid e
  have HZ := Lib.hid hf
  have h8 := ask_le ha
  clear e ha hf
  go_enter Try.func10, Try.ntmps10
  go_wp2_with (go_at_call 38; with_reducible refine (l02Filled_any g0 c0 lc g1 c1 l _ (K0.out.below H) (K1.out.below H) hn hl).mono ?_; rintro e w' ⟨rfl, hb⟩; rw [HI.out]; replace H := bstep H hb; clear hb)
  go_loopw [7] (fun v wr => ∃ out : List Int, Hid (Good lc.length out ∧ finG lc l out = finG lc l []) ∧ Hid (OwnS iv wr w.heap.size 2 1 v out) ∧ Below w.heap.size w wr) (fun v _ => lc.length - lenOf v)
  case atStart => exact ⟨[], ⟨Good.nil _, rfl⟩, OwnS.lit H.size, H.alloc H.size _⟩
  case round =>
    clear H
    obtain ⟨out, HG, HO, hb⟩ := hrel
    obtain ⟨wo, hwo⟩ : ∃ wo, wo = wr := ⟨_, rfl⟩
    subst hwo
    obtain ⟨g, cap, rfl, L, _, hg, hc⟩ := HO.out.lies
    replace L := Lib.hid L
    have K0' := Lib.hid (K0.out.below hb)
    have K1' := Lib.hid (K1.out.below hb)
    have HOL : (opL lc out).length ≤ 1048576 := Nat.le_trans (opK_le lc out out.length) (by have := HG.out.1.le; omega)
    have H := Below.refl wo.heap.size wo
    have HLE := lackL_le (cntL (opL lc out)) l
    have HS := Lib.hid (finG_stop (l := l) HG.out.1)
    have HP := Lib.hid (finG_step (l := l) HG.out.1)
    have HB := Lib.hid (best_good (l := l) HG.out.1 HZ.out)
    have HX : Hid (leftL lc l out = lackL (cntL (opL lc out)) l) := rfl
    have hgl := HG.out.1.le
    have HLK := l02Lack_any (some ⟨g0, 0, none⟩) c0 lc g1 0 c1 l (some ⟨g, 0, none⟩) cap out wo K0'.out.rd K1'.out.c K1'.out.lt (by rw [← fl_iv]; exact L.out.rd) HG.out.1.inn hc hn (by omega) (by have := HG.out.1.le; omega)
    generalize lackL (cntL (opL lc out)) l = ll at HLE HX HLK
    replace HLK := Lib.hid HLK
    rw [HX.out] at HS HP HB
    rcases Nat.eq_zero_or_pos ll.length with h0 | h0
    · have HS2 := Lib.hid (HS.out (List.length_eq_zero_iff.1 h0))
      go_wp2_with (go_at_call 34; with_reducible refine HLK.out.mono ?_; rintro e w3 ⟨v3, rfl, O3, hb3⟩; obtain ⟨g4, p4, rfl, KL, -⟩ := O3.lies; replace H := bstep H hb3; clear hb3 O3)
      rw [HF.out]
      exact bodyPost_ret (results_tt rfl) rfl ⟨_, rfl, by rw [← HG.out.2, HS2.out]; exact (HO.out.kept H).n, bstep hb H⟩
    · have hne : ll ≠ [] := fun q => by simp [q] at h0
      have HP2 := Lib.hid (HP.out hne)
      have HB2 := Lib.hid (HB.out hne)
      have hz : ((ll.length : Int) == 0) = false := by rw [beq_eq_false_iff_ne]; omega
      clear HP HB hne
      go_wp2_with (go_at_call 34; with_reducible refine HLK.out.mono ?_; rintro e w3 ⟨v3, rfl, O3, hb3⟩; obtain ⟨g4, p4, rfl, KL, -⟩ := O3.lies; replace H := bstep H hb3; clear hb3 O3)
      replace KL := Lib.hid KL
      have K0i := Lib.hid (K0'.out.below H)
      have Lo := Lib.hid (L.out.below H)
      have HH := Lib.hid H
      clear H
      go_loopw [9, 10, 11] (fun b m i wr => ∃ k : Nat, k ≤ lc.length ∧ i = .int .i64 k ∧ b = .int .i64 (bestK lc ll out k).1 ∧ m = .int .i64 (bestK lc ll out k).2 ∧ Hid (Below w3.heap.size w3 wr)) (fun _ _ i _ => lc.length - (intOf i).toNat)
      case atStart => exact ⟨0, Nat.zero_le _, rfl, rfl, rfl, Below.refl _ _⟩
      case round =>
        obtain ⟨k, hk, rfl, rfl, rfl, HQ⟩ := hrel
        by_cases hlt : k < lc.length
        · have HXc := (K0i.out.below HQ.out).c.el cc_length hlt
          rw [Nat.zero_add] at HXc
          replace HXc := Lib.hid (⟨HXc, (K0i.out.below HQ.out).lt⟩ : _ ∧ _)
          have HKL := Lib.hid (KL.out.below HQ.out)
          have HLo := Lib.hid (Lo.out.below HQ.out)
          have HBK : Hid (bestK lc ll out (k + 1) = if (!out.contains (k : Int) && (decide ((bestK lc ll out k).1 < 0) || decide ((bestK lc ll out k).2 < useW lc[k]! ll))) = true then ((k : Int), useW lc[k]! ll) else bestK lc ll out k) := rfl
          have hlt2 : (k : Int) < (lc.length : Int) := by omega
          generalize lc[k]! = c at HXc HBK
          generalize bestK lc ll out k = p at HBK ⊢
          obtain ⟨bk, mk⟩ := p
          have H := Below.refl wr.heap.size wr
          have hus := fun W h h1 b b1 => l02Useful_any g0 (k * 24) g4 0 p4 c ll W h h1 b b1 (by omega)
          have hcn := fun W h => l00Has_rd (some ⟨g, 0, none⟩) cap out.length out (k : Int) W h rfl (by omega)
          generalize useW c ll = u at hus HBK
          generalize out.contains (k : Int) = r at hcn HBK
          cases r with
          | true =>
            have HBK2 := Lib.hid (show bestK lc ll out (k + 1) = (bk, mk) by rw [HBK.out]; rfl)
            clear HBK
            go_wp2_with (first | (go_at_call 45; with_reducible refine (hus _ (HXc.out.1.below H HXc.out.2) (Nat.lt_of_lt_of_le HXc.out.2 H.size) (HKL.out.below H).c (HKL.out.below H).lt).mono ?_; rintro e w2 ⟨rfl, hb2⟩; replace H := bstep H hb2; clear hb2) | (go_at_call 44; with_reducible refine (hcn _ (by rw [← fl_iv]; exact (HLo.out.below H).rd)).mono ?_; rintro e w2 ⟨rfl, rfl⟩))
            go_roundw
            case rel => exact ⟨k + 1, by omega, by go_num, by rw [HBK2.out], by rw [HBK2.out], bstep HQ.out H⟩
            case measure => simp [intOf]; omega
          | false =>
            by_cases hneg : bk < 0
            · have HBK2 := Lib.hid (show bestK lc ll out (k + 1) = ((k : Int), u) by rw [HBK.out]; simp [hneg])
              clear HBK
              go_wp2_with (first | (go_at_call 45; with_reducible refine (hus _ (HXc.out.1.below H HXc.out.2) (Nat.lt_of_lt_of_le HXc.out.2 H.size) (HKL.out.below H).c (HKL.out.below H).lt).mono ?_; rintro e w2 ⟨rfl, hb2⟩; replace H := bstep H hb2; clear hb2) | (go_at_call 44; with_reducible refine (hcn _ (by rw [← fl_iv]; exact (HLo.out.below H).rd)).mono ?_; rintro e w2 ⟨rfl, rfl⟩))
              go_roundw
              case rel => exact ⟨k + 1, by omega, by go_num, by rw [HBK2.out], by rw [HBK2.out], bstep HQ.out H⟩
              case measure => simp [intOf]; omega
            · by_cases hgt : mk < u
              · have HBK2 := Lib.hid (show bestK lc ll out (k + 1) = ((k : Int), u) by rw [HBK.out]; simp [hgt])
                clear HBK
                go_wp2_with (first | (go_at_call 45; with_reducible refine (hus _ (HXc.out.1.below H HXc.out.2) (Nat.lt_of_lt_of_le HXc.out.2 H.size) (HKL.out.below H).c (HKL.out.below H).lt).mono ?_; rintro e w2 ⟨rfl, hb2⟩; replace H := bstep H hb2; clear hb2) | (go_at_call 44; with_reducible refine (hcn _ (by rw [← fl_iv]; exact (HLo.out.below H).rd)).mono ?_; rintro e w2 ⟨rfl, rfl⟩))
                go_roundw
                case rel => exact ⟨k + 1, by omega, by go_num, by rw [HBK2.out], by rw [HBK2.out], bstep HQ.out H⟩
                case measure => simp [intOf]; omega
              · have HBK2 := Lib.hid (show bestK lc ll out (k + 1) = (bk, mk) by rw [HBK.out]; simp [hgt, hneg])
                clear HBK
                go_wp2_with (first | (go_at_call 45; with_reducible refine (hus _ (HXc.out.1.below H HXc.out.2) (Nat.lt_of_lt_of_le HXc.out.2 H.size) (HKL.out.below H).c (HKL.out.below H).lt).mono ?_; rintro e w2 ⟨rfl, hb2⟩; replace H := bstep H hb2; clear hb2) | (go_at_call 44; with_reducible refine (hcn _ (by rw [← fl_iv]; exact (HLo.out.below H).rd)).mono ?_; rintro e w2 ⟨rfl, rfl⟩))
                go_roundw
                case rel => exact ⟨k + 1, by omega, by go_num, by rw [HBK2.out], by rw [HBK2.out], bstep HQ.out H⟩
                case measure => simp [intOf]; omega
        · obtain rfl : k = lc.length := by omega
          have HO2 := Lib.hid (HO.out.kept (bstep HH.out HQ.out))
          have hb2 := Lib.hid (bstep hb (bstep HH.out HQ.out))
          have hB2 := HB2.out.le
          rw [List.length_append, List.length_singleton] at hB2
          have hG2 := HG.out.2
          replace HP2 := Lib.hid (HP2.out.symm.trans hG2)
          clear hG2
          generalize (bestK lc ll out lc.length).1 = bk at HP2 HB2 ⊢
          generalize (bestK lc ll out lc.length).2 = mk
          go_wp2_with (at_builtin; refine wp_app_num w.heap.size rfl _ _ rfl _ out bk rfl _ rfl ?hg ?HO ?hB ?hn ?_; (case hg => simp); (case HO => exact HO2.out); (case hB => exact hb2.out.size); (case hn => omega); intro v1 w1 hown hb3)
          obtain ⟨g8, cap8, rfl, -⟩ := hown.lies
          go_roundw
          case rel => exact ⟨out ++ [bk], ⟨HB2.out, HP2.out⟩, hown, hb2.out.trans hb3⟩
          case measure => show lc.length - (out ++ [bk]).length < lc.length - out.length; rw [List.length_append, List.length_singleton]; omega
end Go.Proofs.Ytbngpcghognojaa
