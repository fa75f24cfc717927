/- Texts of the claim, joined (12 of 22): Few, Greedy, Fewest, Out, OutL, SevP, Bound, Wanted. -/
import Derived.Test.YtbngpcghognojaaGreatDoorBO5
import Derived.Test.YtbngpcghognojaaGreatDoorBO8
import Derived.Test.YtbngpcghognojaaGreatDoorBO9
import Derived.Test.YtbngpcghognojaaGreatDoorBO11
namespace Go.Proofs.YtbngpcghognojaaGreatDoor
open Go Go.RowKit
set_option linter.unusedVariables false
set_option linter.unusedSimpArgs false
set_option maxRecDepth 100000
/-- Ascending numbers between two bounds. -/
def Asc (f : Int) (m : Nat) (ks : List Int) : Prop := ks.Pairwise (· < ·) ∧ ∀ x ∈ ks, f ≤ x ∧ x < f + m
theorem chF_mem : ∀ (n : Nat) (f : Int) (m : Nat) (ks : List Int), ks ∈ chF n f m ↔ ks.length = n ∧ Asc f m ks
  | 0, f, m, ks => by
    constructor
    · intro h
      obtain rfl : ks = [] := by simpa [chF] using h
      exact ⟨rfl, List.Pairwise.nil, fun x hx => absurd hx List.not_mem_nil⟩
    · rintro ⟨h, _⟩
      obtain rfl := List.length_eq_zero_iff.1 h
      simp [chF]
  | n + 1, f, m, ks => by
    simp only [chF, List.mem_flatMap, List.mem_map, List.mem_range]
    constructor
    · rintro ⟨i, hi, l, hl, rfl⟩
      obtain ⟨h1, h2, h3⟩ := (chF_mem n _ _ l).1 hl
      refine ⟨by rw [List.length_cons, h1], List.pairwise_cons.2 ⟨fun y hy => by have := (h3 y hy).1; omega, h2⟩, fun y hy => ?_⟩
      rcases List.mem_cons.1 hy with rfl | hy
      · omega
      · have := h3 y hy; omega
    · rintro ⟨h1, h2, h3⟩
      match ks, h1, h2, h3 with
      | x :: l, h1, h2, h3 =>
        have hx := h3 x (List.mem_cons_self ..)
        rw [List.pairwise_cons] at h2
        refine ⟨(x - f).toNat, by omega, l, (chF_mem n _ _ l).2 ⟨by simpa using h1, h2.2, fun y hy => ?_⟩, by rw [show f + ((x - f).toNat : Int) = x by omega]⟩
        have q1 := h2.1 y hy
        have q2 := h3 y (List.mem_cons_of_mem _ hy)
        omega
theorem asc_ext : ∀ (a b : List Int), a.Pairwise (· < ·) → b.Pairwise (· < ·) → (∀ x, x ∈ a ↔ x ∈ b) → a = b
  | [], [], _, _, _ => rfl
  | [], y :: b, _, _, h => absurd ((h y).2 (List.mem_cons_self ..)) List.not_mem_nil
  | x :: a, [], _, _, h => absurd ((h x).1 (List.mem_cons_self ..)) List.not_mem_nil
  | x :: a, y :: b, ha, hb, h => by
    rw [List.pairwise_cons] at ha hb
    have e : x = y := by
      rcases List.mem_cons.1 ((h x).1 (List.mem_cons_self ..)) with q | q
      · exact q
      · rcases List.mem_cons.1 ((h y).2 (List.mem_cons_self ..)) with q2 | q2
        · exact q2.symm
        · have := hb.1 x q; have := ha.1 y q2; omega
    subst e
    rw [asc_ext a b ha.2 hb.2 fun z => ⟨fun hz => ?_, fun hz => ?_⟩]
    · rcases List.mem_cons.1 ((h z).1 (List.mem_cons_of_mem _ hz)) with q | q
      · have := ha.1 z hz; omega
      · exact q
    · rcases List.mem_cons.1 ((h z).2 (List.mem_cons_of_mem _ hz)) with q | q
      · have := hb.1 z hz; omega
      · exact q
/-- a stands before b (both as long). -/
def ahead : List Int → List Int → Bool
  | x :: a, y :: b => if x = y then ahead a b else decide (x < y)
  | _, _ => false
theorem ahead_irr : ∀ a : List Int, ahead a a = false
  | [] => rfl
  | x :: a => by rw [ahead, if_pos rfl, ahead_irr a]
theorem ahead_tot : ∀ a b : List Int, a.length = b.length → ahead a b = false → ahead b a = false → a = b
  | [], [], _, _, _ => rfl
  | [], y :: b, h, _, _ => by simp at h
  | x :: a, [], h, _, _ => by simp at h
  | x :: a, y :: b, h, h1, h2 => by
    rw [ahead] at h1 h2
    by_cases e : x = y
    · subst e
      rw [if_pos rfl] at h1 h2
      rw [ahead_tot a b (by simpa using h) h1 h2]
    · rw [if_neg e, decide_eq_false_iff_not] at h1
      rw [if_neg (Ne.symm e), decide_eq_false_iff_not] at h2
      omega
theorem ahead_trans : ∀ a b c : List Int, a.length = b.length → b.length = c.length → ahead a b = true → ahead b c = true → ahead a c = true
  | [], b, c, _, _, h, _ => by simp [ahead] at h
  | x :: a, [], c, _, _, h, _ => by simp [ahead] at h
  | x :: a, y :: b, [], _, _, _, h => by simp [ahead] at h
  | x :: a, y :: b, z :: c, hl, hl2, h1, h2 => by
    rw [ahead] at h1 h2 ⊢
    by_cases e1 : x = y
    · subst e1
      rw [if_pos rfl] at h1
      by_cases e2 : x = z
      · subst e2
        rw [if_pos rfl] at h2 ⊢
        exact ahead_trans a b c (by simpa using hl) (by simpa using hl2) h1 h2
      · rw [if_neg e2] at h2 ⊢
        exact h2
    · rw [if_neg e1, decide_eq_true_iff] at h1
      by_cases e2 : y = z
      · subst e2
        rw [if_neg e1, decide_eq_true_iff]
        exact h1
      · rw [if_neg e2, decide_eq_true_iff] at h2
        rw [if_neg (by omega), decide_eq_true_iff]
        omega
theorem ahead_asymm {a b : List Int} (hl : a.length = b.length) (h : ahead a b = true) : ahead b a = false := by
  rw [← Bool.not_eq_true]
  intro h2
  have := ahead_trans a b a hl hl.symm h h2
  rw [ahead_irr] at this
  cases this
theorem chF_sorted : ∀ (n : Nat) (f : Int) (m : Nat), (chF n f m).Pairwise fun a b => ahead a b = true
  | 0, f, m => List.pairwise_singleton _ _
  | n + 1, f, m => by
    rw [chF, List.pairwise_flatMap]
    refine ⟨fun i _ => ?_, ?_⟩
    · rw [List.pairwise_map]
      exact (chF_sorted n _ _).imp fun h => by rw [ahead, if_pos rfl]; exact h
    · refine List.pairwise_lt_range.imp fun {i j} hij x hx y hy => ?_
      obtain ⟨a, _, rfl⟩ := List.mem_map.1 hx
      obtain ⟨b, _, rfl⟩ := List.mem_map.1 hy
      rw [ahead, if_neg (by omega), decide_eq_true_iff]
      omega
/-- Bit number i of a set. -/
def bitOn (s i : Nat) : Bool := decide (s / 2 ^ i % 2 = 1)
theorem bits_exist : ∀ (n : Nat) (p : Nat → Bool), ∃ s, s < 2 ^ n ∧ ∀ i, i < n → bitOn s i = p i
  | 0, p => ⟨0, by decide, fun i hi => absurd hi (Nat.not_lt_zero _)⟩
  | n + 1, p => by
    obtain ⟨s, hs, h⟩ := bits_exist n p
    have hp : 2 ^ (n + 1) = 2 ^ n + 2 ^ n := by rw [Nat.pow_succ]; omega
    have hbit : ∀ s i, bitOn s i = Nat.testBit s i := fun s i => Nat.testBit_eq_decide_div_mod_eq.symm
    cases e : p n with
    | false =>
      refine ⟨s, by omega, fun i hi => ?_⟩
      rcases Nat.lt_or_ge i n with q | q
      · exact h i q
      · obtain rfl : i = n := by omega
        rw [hbit, e, Nat.testBit_lt_two_pow hs]
    | true =>
      refine ⟨2 ^ n + s, by omega, fun i hi => ?_⟩
      rcases Nat.lt_or_ge i n with q | q
      · rw [hbit, Nat.testBit_two_pow_add_gt q, ← hbit]
        exact h i q
      · obtain rfl : i = n := by omega
        rw [hbit, e, Nat.testBit_two_pow_add_eq, Nat.testBit_lt_two_pow hs]
        rfl
/-- The numbers in a set, ascending: bit 'pos i' says whether number i is in it. -/
def inSet (pos : Nat → Nat) (s k : Nat) : List Int := (everyL k).filter fun x => bitOn s (pos x.toNat)
theorem everyL_asc (n : Nat) : (everyL n).Pairwise (· < ·) := List.pairwise_map.2 (List.pairwise_lt_range.imp fun h => Int.ofNat_lt.2 h)
theorem inSet_asc (pos : Nat → Nat) (s k : Nat) : Asc 0 k (inSet pos s k) := ⟨(everyL_asc k).filter _, fun x hx => by
  have := everyL_in (List.mem_filter.1 hx).1
  omega⟩
theorem inSet_succ (pos : Nat → Nat) (s k : Nat) : inSet pos s (k + 1) = inSet pos s k ++ (if bitOn s (pos k) = true then [(k : Int)] else []) := by
  unfold inSet
  rw [everyL_succ, List.filter_append]
  congr 1
  rw [List.filter_cons, Int.toNat_natCast]
  split <;> rfl
theorem inSet_le (pos : Nat → Nat) (s k : Nat) : (inSet pos s k).length ≤ k := by
  have := List.length_filter_le (fun x : Int => bitOn s (pos x.toNat)) (everyL k)
  rwa [everyL_length] at this
/-- Each ascending list is some set's. -/
theorem inSet_all {n : Nat} {pos : Nat → Nat} (hp : ∀ i, i < n → pos i < n ∧ pos (pos i) = i) {ks : List Int} (h : Asc 0 n ks) : ∃ s, s < 2 ^ n ∧ inSet pos s n = ks := by
  obtain ⟨s, hs, hb⟩ := bits_exist n fun i => decide ((pos i : Int) ∈ ks)
  refine ⟨s, hs, asc_ext _ _ (inSet_asc pos s n).1 h.1 fun x => ?_⟩
  unfold inSet
  rw [List.mem_filter]
  constructor
  · rintro ⟨hx, hbx⟩
    have hx2 := everyL_in hx
    have hq := hp x.toNat (by omega)
    rw [hb _ hq.1, hq.2, decide_eq_true_iff, show ((x.toNat : Nat) : Int) = x by omega] at hbx
    exact hbx
  · intro hx
    have hx2 := h.2 x hx
    have hq := hp x.toNat (by omega)
    refine ⟨everyL_mem hx2.1 (by omega), ?_⟩
    rw [hb _ hq.1, hq.2, decide_eq_true_iff, show ((x.toNat : Nat) : Int) = x by omega]
    exact hx
/-- Fewer numbers, or as many that stand before. -/
def lessL (a b : List Int) : Bool := decide (a.length < b.length) || (decide (a.length = b.length) && ahead a b)
theorem lessL_trans {a b c : List Int} (h1 : lessL a b = true) (h2 : lessL b c = true) : lessL a c = true := by
  simp only [lessL, Bool.or_eq_true, Bool.and_eq_true, decide_eq_true_iff] at *
  rcases h1 with h1 | ⟨h1, k1⟩ <;> rcases h2 with h2 | ⟨h2, k2⟩
  · exact .inl (by omega)
  · exact .inl (by omega)
  · exact .inl (by omega)
  · exact .inr ⟨by omega, ahead_trans a b c h1 h2 k1 k2⟩
theorem lessL_tot {a b : List Int} (h1 : lessL a b = false) (h2 : lessL b a = false) : a = b := by
  simp only [lessL, Bool.or_eq_false_iff, Bool.and_eq_false_iff, decide_eq_false_iff_not] at h1 h2
  have hl : a.length = b.length := by omega
  rcases h1.2 with q | q
  · exact absurd hl q
  · rcases h2.2 with q2 | q2
    · exact absurd hl.symm q2
    · exact ahead_tot a b hl q q2
/-- The least of the lists that are good. -/
def Least (n : Nat) (p : List Int → Bool) (r : List Int) : Prop := p r = true ∧ Asc 0 n r ∧ ∀ q, Asc 0 n q → p q = true → lessL q r = false
theorem Least.uniq {n : Nat} {p : List Int → Bool} {r r' : List Int} (h : Least n p r) (h' : Least n p r') : r = r' := lessL_tot (h'.2.2 r h.2.1 h.1) (h.2.2 r' h'.2.1 h'.1)
/-- Found in their order. -/
theorem least_found {n c j : Nat} {p : List Int → Bool} (hs : ∀ c', c' < c → ∀ q ∈ chF c' 0 n, p q = false) (hj : j < (chF c 0 n).length) (hn : ∀ i, i < j → p (chF c 0 n)[i]! = false) (hp : p (chF c 0 n)[j]! = true) : Least n p (chF c 0 n)[j]! := by
  have hm : (chF c 0 n)[j]! ∈ chF c 0 n := by rw [getB hj]; exact List.getElem_mem hj
  obtain ⟨hl, ha⟩ := (chF_mem c 0 n _).1 hm
  refine ⟨hp, ha, fun q hq hpq => ?_⟩
  have hqm := (chF_mem q.length 0 n q).2 ⟨rfl, hq⟩
  simp only [lessL, Bool.or_eq_false_iff, Bool.and_eq_false_iff, decide_eq_false_iff_not, hl]
  have hge : ¬ q.length < c := fun hlt => by
    have := hs _ hlt q hqm
    rw [hpq] at this
    cases this
  refine ⟨hge, ?_⟩
  rcases Nat.lt_or_ge c q.length with hgt | hle
  · exact .inl (by omega)
  · right
    have hqc : q.length = c := by omega
    rw [hqc] at hqm
    obtain ⟨i, hi, rfl⟩ := List.getElem_of_mem hqm
    rcases Nat.lt_trichotomy i j with h | h | h
    · have := hn i h
      rw [getB hi, hpq] at this
      cases this
    · subst h
      rw [getB hi]
      exact ahead_irr _
    · have := List.pairwise_iff_getElem.1 (chF_sorted c 0 n) j i hj hi h
      rw [getB hj]
      rw [getB hj] at hl
      exact ahead_asymm (by rw [hl, hqc]) this
/-- One set more. -/
def setStep (p : List Int → Bool) (ks : List Int) (r : List Int × Bool) : List Int × Bool :=
  if (r.2 && (decide (r.1.length < ks.length) || (decide (ks.length = r.1.length) && !ahead ks r.1))) = true then r else if p ks = true then (ks, true) else r
/-- The best of the first sets. -/
def setsK (n : Nat) (p : List Int → Bool) : Nat → List Int × Bool
  | 0 => ([], false)
  | k + 1 => setStep p (inSet (fun i => i) k n) (setsK n p k)
theorem skip_less (ks b : List Int) : (decide (b.length < ks.length) || (decide (ks.length = b.length) && !ahead ks b)) = !lessL ks b := by
  unfold lessL
  rcases Nat.lt_trichotomy ks.length b.length with h | h | h
  · have e1 : ¬ b.length < ks.length := by omega
    have e2 : ¬ ks.length = b.length := by omega
    simp [e1, e2, h]
  · simp [h]
  · have e1 : ¬ ks.length < b.length := by omega
    have e2 : ¬ ks.length = b.length := by omega
    simp [e1, e2, h]
theorem setStep_eq (p : List Int → Bool) (ks : List Int) (r : List Int × Bool) : setStep p ks r = if (r.2 && !lessL ks r.1) = true then r else if p ks = true then (ks, true) else r := by
  unfold setStep
  rw [skip_less]
theorem setsK_some {n : Nat} {p : List Int → Bool} : ∀ k, ((setsK n p k).2 = true → p (setsK n p k).1 = true ∧ Asc 0 n (setsK n p k).1 ∧ ∀ s, s < k → p (inSet (fun i => i) s n) = true → lessL (inSet (fun i => i) s n) (setsK n p k).1 = false) ∧ ((setsK n p k).2 = false → (setsK n p k).1 = [] ∧ ∀ s, s < k → p (inSet (fun i => i) s n) = false)
  | 0 => ⟨fun h => by simp [setsK] at h, fun _ => ⟨rfl, fun s hs => absurd hs (Nat.not_lt_zero _)⟩⟩
  | k + 1 => by
    obtain ⟨ih1, ih2⟩ := setsK_some (n := n) (p := p) k
    rw [setsK, setStep_eq]
    generalize hks : inSet (fun i => i) k n = ks
    generalize setsK n p k = r at ih1 ih2 ⊢
    have hcase : ∀ s, s < k + 1 → s < k ∨ s = k := fun s hs => by omega
    by_cases hskip : (r.2 && !lessL ks r.1) = true
    · rw [if_pos hskip]
      simp only [Bool.and_eq_true, Bool.not_eq_true'] at hskip
      obtain ⟨i1, i2, i3⟩ := ih1 hskip.1
      refine ⟨fun _ => ⟨i1, i2, fun s hs hps => ?_⟩, fun h => by rw [hskip.1] at h; cases h⟩
      rcases hcase s hs with q | rfl
      · exact i3 s q hps
      · rw [hks]; exact hskip.2
    · rw [if_neg hskip]
      by_cases hp : p ks = true
      · rw [if_pos hp]
        refine ⟨fun _ => ⟨hp, by show Asc 0 n ks; rw [← hks]; exact inSet_asc _ k n, fun s hs hps => ?_⟩, fun h => by cases h⟩
        rcases hcase s hs with q | rfl
        · cases hf : r.2 with
          | false => rw [(ih2 hf).2 s q] at hps; cases hps
          | true =>
            have hless : lessL ks r.1 = true := by simpa [hf] using hskip
            rw [← Bool.not_eq_true]
            intro hl
            have := lessL_trans hl hless
            rw [(ih1 hf).2.2 s q hps] at this
            cases this
        · rw [hks]; simp [lessL, ahead_irr]
      · rw [if_neg hp]
        refine ⟨fun h => ⟨(ih1 h).1, (ih1 h).2.1, fun s hs hps => ?_⟩, fun h => ⟨(ih2 h).1, fun s hs => ?_⟩⟩
        · rcases hcase s hs with q | rfl
          · exact (ih1 h).2.2 s q hps
          · rw [hks] at hps; exact absurd hps hp
        · rcases hcase s hs with q | rfl
          · exact (ih2 h).2 s q
          · rw [hks, ← Bool.not_eq_true]; exact hp
theorem sets_least {n : Nat} {p : List Int → Bool} (h : (setsK n p (2 ^ n)).2 = true) : Least n p (setsK n p (2 ^ n)).1 := by
  have := setsK_some (n := n) (p := p) (2 ^ n)
  replace this := this.1 h
  refine ⟨this.1, this.2.1, fun q hq hp => ?_⟩
  obtain ⟨s, hs, rfl⟩ := inSet_all (pos := fun i => i) (fun i hi => ⟨hi, rfl⟩) hq
  exact this.2.2 s hs hp
theorem sets_found {n : Nat} {p : List Int → Bool} {q : List Int} (hq : Asc 0 n q) (hp : p q = true) : (setsK n p (2 ^ n)).2 = true := by
  cases h : (setsK n p (2 ^ n)).2 with
  | true => rfl
  | false =>
    have := setsK_some (n := n) (p := p) (2 ^ n)
    replace this := this.2 h
    obtain ⟨s, hs, rfl⟩ := inSet_all (pos := fun i => i) (fun i hi => ⟨hi, rfl⟩) hq
    rw [this.2 s hs] at hp
    cases hp
end Go.Proofs.YtbngpcghognojaaGreatDoor
namespace Go.Proofs.YtbngpcghognojaaGreatDoor
open Go.RowKit
set_option linter.unusedVariables false
set_option linter.unusedSimpArgs false
set_option maxRecDepth 100000
set_option maxHeartbeats 1000000
attribute [local go_sem] Oper.qB
/-- The best of the first crates, and its use. -/
def bestK (lc : List Cr) (left : List Wt) (out : List Int) : Nat → Int × Int
  | 0 => (-1, 0)
  | k + 1 => if (!out.contains (k : Int) && (decide ((bestK lc left out k).1 < 0) || decide ((bestK lc left out k).2 < useW lc[k]! left))) = true then ((k : Int), useW lc[k]! left) else bestK lc left out k
def leftL (lc : List Cr) (l : List Wt) (out : List Int) : List Wt := lackL (cntL (opL lc out)) l
def greedy (lc : List Cr) (l : List Wt) : Nat → List Int → List Int
  | 0, out => out
  | n + 1, out => if leftL lc l out = [] then out else greedy lc l n (out ++ [(bestK lc (leftL lc l out) out lc.length).1])
def finG (lc : List Cr) (l : List Wt) (out : List Int) : List Int := greedy lc l (lc.length + 1 - out.length) out
def greedyR (lc : List Cr) (l : List Wt) : List Int × Int := if fillI lc l = 0 then (finG lc l [], 0) else ([], fillI lc l)
theorem bestK_cases (lc : List Cr) (left : List Wt) (out : List Int) : ∀ k, ((bestK lc left out k).1 = -1 ∧ ∀ i, i < k → (i : Int) ∈ out) ∨ (0 ≤ (bestK lc left out k).1 ∧ (bestK lc left out k).1 < k ∧ (bestK lc left out k).1 ∉ out)
  | 0 => .inl ⟨rfl, fun i hi => absurd hi (Nat.not_lt_zero _)⟩
  | k + 1 => by
    have ih := bestK_cases lc left out k
    rw [bestK]
    split
    · rename_i h
      simp only [Bool.and_eq_true, Bool.not_eq_true', ← Bool.not_eq_true, List.contains_eq_mem, decide_eq_true_iff] at h
      exact .inr ⟨Int.natCast_nonneg k, by show (k : Int) < ((k + 1 : Nat) : Int); omega, h.1⟩
    · rename_i h
      rcases ih with ⟨i1, i2⟩ | ⟨i1, i2, i3⟩
      · refine .inl ⟨i1, fun i hi => ?_⟩
        rcases Nat.lt_or_ge i k with q | q
        · exact i2 i q
        · obtain rfl : i = k := by omega
          apply Classical.byContradiction
          intro hm
          apply h
          have e : decide ((bestK lc left out i).1 < 0) = true := by rw [i1]; rfl
          simp [e, hm]
      · exact .inr ⟨i1, by omega, i3⟩
theorem Good.snoc {n : Nat} {ks : List Int} {x : Int} (h : Good n ks) (h0 : 0 ≤ x) (h1 : x < n) (h2 : x ∉ ks) : Good n (ks ++ [x]) :=
  ⟨List.nodup_append.2 ⟨h.nd, List.pairwise_singleton _ _, fun a ha b hb => by rintro rfl; rw [List.mem_singleton] at hb; exact h2 (hb ▸ ha)⟩, fun y hy => by
    rcases List.mem_append.1 hy with q | q
    · exact h.inn y q
    · obtain rfl := List.mem_singleton.1 q
      exact ⟨h0, h1⟩⟩
/-- There is a crate that is not yet opened. -/
theorem best_good {lc : List Cr} {l : List Wt} {out : List Int} (h : Good lc.length out) (hf : lackL (cntL lc) l = []) (hl : leftL lc l out ≠ []) : Good lc.length (out ++ [(bestK lc (leftL lc l out) out lc.length).1]) := by
  rcases bestK_cases lc (leftL lc l out) out lc.length with ⟨_, q⟩ | ⟨q1, q2, q3⟩
  · exact absurd (by rw [leftL, show cntL (opL lc out) = cntL lc from funext fun b => h.all q b, hf]) hl
  · exact h.snoc q1 q2 q3
theorem finG_stop {lc : List Cr} {l : List Wt} {out : List Int} (h : Good lc.length out) (hl : leftL lc l out = []) : finG lc l out = out := by
  have := h.le
  rw [finG, show lc.length + 1 - out.length = (lc.length - out.length) + 1 by omega, greedy, if_pos hl]
theorem finG_step {lc : List Cr} {l : List Wt} {out : List Int} (h : Good lc.length out) (hl : leftL lc l out ≠ []) : finG lc l out = finG lc l (out ++ [(bestK lc (leftL lc l out) out lc.length).1]) := by
  have := h.le
  rw [finG, show lc.length + 1 - out.length = (lc.length - out.length) + 1 by omega, greedy, if_neg hl, finG, List.length_append, List.length_singleton, show lc.length + 1 - (out.length + 1) = lc.length - out.length by omega]
theorem Good.nil (n : Nat) : Good n [] := ⟨List.nodup_nil, fun x hx => absurd hx (List.not_mem_nil)⟩
theorem finG_le {lc : List Cr} {l : List Wt} (hf : lackL (cntL lc) l = []) : ∀ (m : Nat) (out : List Int), Good lc.length out → lc.length - out.length = m → (finG lc l out).length ≤ lc.length
  | m, out, h, hm => by
    have hle := h.le
    by_cases hl : leftL lc l out = []
    · rw [finG_stop h hl]; exact hle
    · have h2 := best_good h hf hl
      have h3 := h2.le
      rw [List.length_append, List.length_singleton] at h3
      rw [finG_step h hl]
      match m with
      | 0 => omega
      | m + 1 => exact finG_le hf m _ h2 (by rw [List.length_append, List.length_singleton]; omega)
theorem greedyR_le (lc : List Cr) (l : List Wt) : (greedyR lc l).1.length ≤ 12 := by
  unfold greedyR
  split
  · rename_i h
    rcases fillI_cases lc l with ⟨_, h1, h2⟩ | e | e
    · have := finG_le h2 _ [] (Good.nil _) rfl
      have := (ask_le h1).1
      show (finG lc l []).length ≤ 12
      omega
    · rw [e] at h; cases h
    · rw [e] at h; cases h
  · simp
def lenOf : Value → Nat
  | .slice _ n _ => n
  | _ => 0
end Go.Proofs.YtbngpcghognojaaGreatDoor
namespace Go.Proofs.YtbngpcghognojaaGreatDoor
open Go.RowKit
set_option linter.unusedVariables false
set_option linter.unusedSimpArgs false
set_option maxRecDepth 100000
set_option maxHeartbeats 1000000
attribute [local go_sem] Oper.qB
/-- An order is filled out of some crates. -/
def okF (lc : List Cr) (l : List Wt) (ks : List Int) : Bool := decide (leftL lc l ks = [])
/-- The fewest crates, and whether there are some. -/
def fewS (lc : List Cr) (l : List Wt) : List Int × Bool := setsK lc.length (okF lc l) (2 ^ lc.length)
theorem okF_every {lc : List Cr} {l : List Wt} (h : lackL (cntL lc) l = []) : okF lc l (everyL lc.length) = true := by
  rw [okF, leftL, opL_every, h]
  rfl
theorem everyL_Asc (n : Nat) : Asc 0 n (everyL n) := ⟨everyL_asc n, fun x hx => by have := everyL_in hx; omega⟩
theorem Asc.good {n : Nat} {ks : List Int} (h : Asc 0 n ks) : Good n ks := ⟨h.1.imp fun q => Int.ne_of_lt q, fun x hx => by have := h.2 x hx; omega⟩
theorem fewS_found {lc : List Cr} {l : List Wt} (h : lackL (cntL lc) l = []) : (fewS lc l).2 = true := sets_found (everyL_Asc _) (okF_every h)
theorem fewS_good {lc : List Cr} {l : List Wt} : Good lc.length (fewS lc l).1 := by
  have := setsK_some (n := lc.length) (p := okF lc l) (2 ^ lc.length)
  cases h : (fewS lc l).2 with
  | true => exact (this.1 h).2.1.good
  | false => unfold fewS; rw [(this.2 h).1]; exact Good.nil _
theorem fewS_ok {lc : List Cr} {l : List Wt} (h : (fewS lc l).2 = true) : leftL lc l (fewS lc l).1 = [] := by
  have := ((setsK_some (n := lc.length) (p := okF lc l) (2 ^ lc.length)).1 h).1
  exact of_decide_eq_true this
theorem drop_cons2 {l : List Int} {k : Nat} (h : k < l.length) : l.drop k = l.getD k 0 :: l.drop (k + 1) := by
  rw [List.drop_eq_getElem_cons h, List.getD_eq_getElem?_getD, List.getElem?_eq_getElem h]
  rfl
theorem ahead_at {a b : List Int} {k : Nat} (hl : a.length = b.length) (h : k < a.length) : ahead (a.drop k) (b.drop k) = if a.getD k 0 = b.getD k 0 then ahead (a.drop (k + 1)) (b.drop (k + 1)) else decide (a.getD k 0 < b.getD k 0) := by
  have h1 := drop_cons2 h
  have h2 := drop_cons2 (l := b) (k := k) (by omega)
  rw [h1, h2, ahead]
theorem l01Ahead_any (A0 : Option Addr) (c0 : Nat) (a : List Int) (A1 : Option Addr) (c1 : Nat) (b : List Int) (w : World) (h0 : RdA w A0 (vi a)) (h1 : RdA w A1 (vi b)) (hl : a.length = b.length) (hn : a.length ≤ 1000000) :
    Calls Tryz.prog 125 #[.slice A0 a.length c0, .slice A1 b.length c1] w fun e w' => e = .returned (.bool (ahead a b)) ∧ Below w.heap.size w w' := by
  have H0 := Lib.hid h0
  have H1 := Lib.hid h1
  clear h0 h1
  go_enter Tryz.func125, Tryz.ntmps125
  go_wp2
  go_loopw [5] (fun i wr => ∃ k : Nat, k ≤ a.length ∧ i = .int .i64 k ∧ Hid (ahead a b = ahead (a.drop k) (b.drop k)) ∧ Below w.heap.size w wr) (fun i _ => a.length - (intOf i).toNat)
  case atStart => exact ⟨0, Nat.zero_le _, rfl, by rw [List.drop_zero, List.drop_zero]; rfl, Below.refl _ _⟩
  case round =>
    obtain ⟨k, hk, rfl, HA, hb⟩ := hrel
    by_cases hlt : k < a.length
    · obtain ⟨g0, o0, rfl, hg0, hC0⟩ := (H0.out.below hb).some (by rw [vi_length]; omega)
      obtain ⟨g1, o1, rfl, hg1, hC1⟩ := (H1.out.below hb).some (by rw [vi_length]; omega)
      have X0 := hC0 k _ (vi_at a k hlt)
      have X1 := hC1 k _ (vi_at b k (by omega))
      have HS := Lib.hid (HA.out.trans (ahead_at hl hlt))
      have hlt2 : (k : Int) < (a.length : Int) := by omega
      have hlt3 : (k : Int) < (b.length : Int) := by omega
      clear hC0 hC1 HA
      generalize a.getD k 0 = x at X0 HS
      generalize b.getD k 0 = y at X1 HS
      have y0 := cell_regrown X0
      have y1 := cell_regrown X1
      go_upto_region 4 with fail
      have H := Below.refl wr.heap.size wr
      refine wp_region_qB (by kernel_rfl) (by kernel_rfl) ?_
      (repeat (first | fail | (apply qB_step; intro K hK; go_simp; first | (refine hK _ ?_; clear hK K) | (apply Exists.intro; refine ⟨fun _ => ?_, hK _ ?_⟩; (first | fail); clear hK K))))
      refine qB_nil ?_
      intro w1 hw1
      replace H := bstep H hw1
      clear hw1
      clear y0 y1
      by_cases he : x = y
      · have HS2 := Lib.hid (HS.out.trans (if_pos he))
        subst he
        go_wp2
        go_roundw
        case rel => exact ⟨k + 1, by omega, by go_num, HS2.out, bstep hb H⟩
        case measure => simp [intOf]; omega
      · have HS2 := Lib.hid (HS.out.trans (if_neg he))
        have y0 := cell_regrown ((H.cell hg0).trans X0)
        have y1 := cell_regrown ((H.cell hg1).trans X1)
        go_upto_region 5 with fail
        have HH := Lib.hid H
        clear H
        have H := Below.refl w1.heap.size w1
        refine wp_region_qB (by kernel_rfl) (by kernel_rfl) ?_
        (repeat (first | fail | (apply qB_step; intro K hK; go_simp; first | (refine hK _ ?_; clear hK K) | (apply Exists.intro; refine ⟨fun _ => ?_, hK _ ?_⟩; (first | fail); clear hK K))))
        refine qB_nil ?_
        intro w1 hw1
        replace H := bstep H hw1
        clear hw1
        go_wp2
        go_ret
        exact ⟨ret_bool HS2.out.symm, bstep (bstep hb HH.out) H⟩
    · obtain rfl : k = a.length := by omega
      have HS : Hid (ahead a b = false) := by rw [Hid, HA.out, List.drop_length]; rfl
      go_wp2
      go_ret
      exact ⟨ret_bool HS.out.symm, hb⟩
end Go.Proofs.YtbngpcghognojaaGreatDoor
namespace Go.Proofs.YtbngpcghognojaaGreatDoor
open Go.RowKit
set_option linter.unusedVariables false
set_option linter.unusedSimpArgs false
set_option maxRecDepth 100000
set_option maxHeartbeats 1000000
attribute [local go_sem] Oper.qB
/-- One place of one crate. -/
def tkStep (b : Bt) (k p : Nat) (s : List Cr × List Bt × Int) : List Cr × List Bt × Int := if (decide (0 < s.2.2) && (rB (s.1[k]!).toList p).like b) = true then (putL s.1 k p zB, s.2.1 ++ [b], s.2.2 - 1) else s
def tkP (b : Bt) (k : Nat) : Nat → List Cr × List Bt × Int → List Cr × List Bt × Int
  | 0, s => s
  | p + 1, s => tkStep b k p (tkP b k p s)
def tkK (b : Bt) (ks : List Int) : Nat → List Cr × List Bt × Int → List Cr × List Bt × Int
  | 0, s => s
  | j + 1, s => tkP b (ks.getD j 0).toNat 12 (tkK b ks j s)
def tkW (lc : List Cr) (l : List Wt) (ks : List Int) : Nat → List Cr × List Bt
  | 0 => (lc, [])
  | i + 1 => ((tkK l[i]!.b ks ks.length ((tkW lc l ks i).1, (tkW lc l ks i).2, l[i]!.n)).1, (tkK l[i]!.b ks ks.length ((tkW lc l ks i).1, (tkW lc l ks i).2, l[i]!.n)).2.1)
def outL (lc : List Cr) (l : List Wt) (ks : List Int) : List Cr × List Bt := tkW lc l ks l.length
/-- What stays as it is. -/
structure Stay (s s' : List Cr × List Bt × Int) : Prop where
  len : s'.1.length = s.1.length
  sum : (s'.2.1.length : Int) + s'.2.2 = s.2.1.length + s.2.2
  pos : 0 ≤ s.2.2 → 0 ≤ s'.2.2
  le : s'.2.2 ≤ s.2.2
theorem Stay.refl (s : List Cr × List Bt × Int) : Stay s s := ⟨rfl, rfl, id, Int.le_refl _⟩
theorem Stay.trans {a b c : List Cr × List Bt × Int} (h : Stay a b) (k : Stay b c) : Stay a c := ⟨k.len.trans h.len, k.sum.trans h.sum, fun q => k.pos (h.pos q), Int.le_trans k.le h.le⟩
theorem tkStep_stay (b : Bt) (k p : Nat) (s : List Cr × List Bt × Int) : Stay s (tkStep b k p s) := by
  unfold tkStep
  split
  · rename_i h
    simp only [Bool.and_eq_true, decide_eq_true_iff] at h
    refine ⟨putL_length _ _ _ _, ?_, fun _ => ?_, ?_⟩
    · show ((s.2.1 ++ [b]).length : Int) + (s.2.2 - 1) = _
      rw [List.length_append, List.length_singleton]
      omega
    · show 0 ≤ s.2.2 - 1
      omega
    · show s.2.2 - 1 ≤ s.2.2
      omega
  · exact Stay.refl s
theorem tkP_stay (b : Bt) (k : Nat) : ∀ (p : Nat) (s : List Cr × List Bt × Int), Stay s (tkP b k p s)
  | 0, s => Stay.refl s
  | p + 1, s => (tkP_stay b k p s).trans (tkStep_stay b k p _)
theorem tkK_stay (b : Bt) (ks : List Int) : ∀ (j : Nat) (s : List Cr × List Bt × Int), Stay s (tkK b ks j s)
  | 0, s => Stay.refl s
  | j + 1, s => (tkK_stay b ks j s).trans (tkP_stay b _ 12 _)
theorem tkW_len (lc : List Cr) (l : List Wt) (ks : List Int) : ∀ i, (tkW lc l ks i).1.length = lc.length
  | 0 => rfl
  | i + 1 => by
    rw [tkW]
    exact (tkK_stay l[i]!.b ks ks.length _).len.trans (tkW_len lc l ks i)
theorem tkW_le (lc : List Cr) (l : List Wt) (ks : List Int) (hp : ∀ x ∈ l, 0 ≤ x.n) : ∀ i, i ≤ l.length → (tkW lc l ks i).2.length ≤ 32767 * i
  | 0, _ => by simp [tkW]
  | i + 1, hi => by
    have h := tkK_stay l[i]!.b ks ks.length ((tkW lc l ks i).1, (tkW lc l ks i).2, l[i]!.n)
    have ih := tkW_le lc l ks hp i (by omega)
    have hn := l[i]!.hn
    have hp0 := h.pos (hp l[i]! (by rw [getB (by omega)]; exact List.getElem_mem (by omega)))
    have hs := h.sum
    rw [tkW]
    show (tkK l[i]!.b ks ks.length ((tkW lc l ks i).1, (tkW lc l ks i).2, l[i]!.n)).2.1.length ≤ 32767 * (i + 1)
    simp only at hs
    omega
theorem rB_set_ne {l : List Bt} {i j : Nat} (b : Bt) (h : i ≠ j) : rB (l.set i b) j = rB l j := by
  unfold rB
  rw [List.getD_eq_getElem?_getD, List.getD_eq_getElem?_getD, List.getElem?_set_ne h]
/-- A copy of the crate tells the places to come. -/
theorem tkP_copy (b : Bt) (k : Nat) (s : List Cr × List Bt × Int) (hk : k < s.1.length) : ∀ (p q : Nat), p ≤ q → rB ((tkP b k p s).1[k]!).toList q = rB (s.1[k]!).toList q
  | 0, q, _ => rfl
  | p + 1, q, h => by
    rw [← tkP_copy b k s hk p q (by omega)]
    rw [tkP, tkStep]
    split
    · have hl := (tkP_stay b k p s).len
      show rB ((putL (tkP b k p s).1 k p zB)[k]!).toList q = _
      rw [putL, getB (by rw [List.length_set]; omega), List.getElem_set_self, setC_toList, rB_set_ne _ (by omega)]
    · rfl
theorem row_put_ne {w : World} {g g' o : Nat} {vs : Array Value} (h : g' ≠ g) : rowOf (putEl w g o vs) g' = rowOf w g' := by
  unfold putEl
  split
  · exact rowOf_setRow_ne h
  · rfl
theorem putEl_but {w : World} {g o n cap : Nat} {vs : Array Value} : ButV (.slice (some ⟨g, 0, none⟩) n cap) w (putEl w g o vs) := by
  refine ⟨putEl_below (Nat.zero_le _) _ _, fun b _ hv => ?_⟩
  unfold putEl
  split
  · exact setRow_other w g b _ (fun e => hv (by subst e; rfl))
  · rfl
theorem Bt.like_self (b : Bt) : b.like b = true := Bt.like_iff.2 rfl
theorem wp_app_bt {ops : Array Oper} {rest : List Oper} {o : Oper} {a : Act} {Q : Exit → Act → World → Prop} {W : World} (B : Nat) (hgd : o.guard = none) (s x : Operand) (ho : o.op = .call { callee := .builtin .append, args := #[s, x], argTypes := #[38, 38] })
    (v : Value) (l : List Bt) (y : Bt) (hs : a.eval s = v) (g : Nat) (hx : a.eval x = .slice (some ⟨g, 0, none⟩) 1 1) (hg : g = W.heap.size)
    (HO : OwnS bc W B 26 2 v l) (hB : B ≤ W.heap.size) (hn : l.length ≤ 100000000)
    (h : ∀ v1 w1, OwnS bc w1 B 26 2 v1 (l ++ [y]) → (Below B W w1 ∧ ButV v W w1 ∧ Away v v1 W) → wpList Tryz.prog ops Q rest (a.put o.dst v1) w1) : wpList Tryz.prog ops Q (o :: rest) a (W.alloc (.cells #[.int .u8 y.k, .int .i16 y.y] 26)) :=
  wp_app3 (P := Tryz.prog) B hgd s x 38 26 ho (.agg #[.int .u8 0, .int .i16 0]) 2 4 Tryz.underlying38 infoBt rfl (by decide) v l.length (fl bc l) (bc y) hs g hx hg rfl (bc_one y) HO.1 hB (by omega) (by decide)
    (fun v1 w1 h1 h2 => h v1 w1 (OwnS.grown (by rw [List.length_append, fl_append, fl_one]; exact h1)) h2)
end Go.Proofs.YtbngpcghognojaaGreatDoor
namespace Go.Proofs.YtbngpcghognojaaGreatDoor
open Go.RowKit
set_option linter.unusedVariables false
set_option linter.unusedSimpArgs false
set_option maxRecDepth 100000
theorem tkP_take (b : Bt) (k : Nat) (s : List Cr × List Bt × Int) (hk : k < s.1.length) (hn : 0 ≤ s.2.2) : ∀ p, p ≤ 12 → (tkP b k p s).2.1 = s.2.1 ++ List.replicate (min s.2.2.toNat (cntK s.1[k]! b p)) b ∧ (tkP b k p s).2.2 = s.2.2 - (min s.2.2.toNat (cntK s.1[k]! b p) : Nat)
  | 0, _ => by simp [tkP, cntK]
  | p + 1, hp => by
    obtain ⟨ih1, ih2⟩ := tkP_take b k s hk hn p (by omega)
    have hc := tkP_copy b k s hk p p (Nat.le_refl _)
    rw [tkP, tkStep]
    generalize tkP b k p s = s' at ih1 ih2 hc ⊢
    obtain ⟨L', T', n'⟩ := s'
    simp only at ih1 ih2 hc ⊢
    rw [hc]
    cases e : (rB (s.1[k]!).toList p).like b with
    | false =>
      rw [if_neg (by simp), cntK_no (by omega) e]
      exact ⟨ih1, ih2⟩
    | true =>
      rw [cntK_yes (by omega) e]
      by_cases hpos : 0 < n'
      · rw [if_pos (by simp [hpos])]
        have e1 : min s.2.2.toNat (cntK s.1[k]! b p + 1) = min s.2.2.toNat (cntK s.1[k]! b p) + 1 := by omega
        rw [e1]
        refine ⟨?_, ?_⟩
        · show T' ++ [b] = _
          rw [ih1, List.append_assoc, List.replicate_succ']
        · show n' - 1 = _
          omega
      · rw [if_neg (by simp [hpos])]
        have e1 : min s.2.2.toNat (cntK s.1[k]! b p + 1) = min s.2.2.toNat (cntK s.1[k]! b p) := by omega
        rw [e1]
        exact ⟨ih1, ih2⟩
theorem tkP_other (b : Bt) (k j : Nat) (s : List Cr × List Bt × Int) (hj : j < s.1.length) (h : j ≠ k) : ∀ p, (tkP b k p s).1[j]! = s.1[j]!
  | 0 => rfl
  | p + 1 => by
    have hl := (tkP_stay b k p s).len
    rw [← tkP_other b k j s hj h p, tkP, tkStep]
    split
    · show (putL (tkP b k p s).1 k p zB)[j]! = _
      rw [putL, getB (by rw [List.length_set]; omega), getB (show j < (tkP b k p s).1.length by omega), List.getElem_set_ne (Ne.symm h)]
    · rfl
theorem cntC_all (c : Cr) (b : Bt) : cntC c b = c.toList.countP fun x => x.like b := by
  unfold cntC cntK
  rw [List.take_of_length_le (by rw [Vector.length_toList]; omega)]
theorem cntC_put {c : Cr} {p : Nat} {b b' : Bt} (hp : p < 12) (hb : rB c.toList p = b) (h1 : b ≠ b') (h2 : zB ≠ b') : cntC (setC c p zB) b' = cntC c b' := by
  have hl : p < c.toList.length := by rw [Vector.length_toList]; exact hp
  rw [cntC_all, cntC_all, setC_toList, List.countP_set hl]
  have e1 : (c.toList[p]).like b' = false := by
    rw [← rB_lt hl, hb, ← Bool.not_eq_true, Bt.like_iff]
    exact h1
  have e2 : zB.like b' = false := by
    rw [← Bool.not_eq_true, Bt.like_iff]
    exact h2
  simp only [e1, e2, Bool.false_eq_true, if_false, Nat.sub_zero, Nat.add_zero]
theorem tkP_cnt (b b' : Bt) (k j : Nat) (s : List Cr × List Bt × Int) (hj : j < s.1.length) (h1 : b ≠ b') (h2 : zB ≠ b') : ∀ p, p ≤ 12 → cntC ((tkP b k p s).1[j]!) b' = cntC s.1[j]! b'
  | 0, _ => rfl
  | p + 1, hp => by
    have hl := (tkP_stay b k p s).len
    rw [← tkP_cnt b b' k j s hj h1 h2 p (by omega), tkP, tkStep]
    split
    · rename_i h
      simp only [Bool.and_eq_true] at h
      have hb := Bt.like_iff.1 h.2
      show cntC ((putL (tkP b k p s).1 k p zB)[j]!) b' = _
      by_cases hjk : j = k
      · subst hjk
        rw [putL, getB (by rw [List.length_set]; omega), List.getElem_set_self, cntC_put (by omega) hb h1 h2]
      · rw [putL, getB (by rw [List.length_set]; omega), List.getElem_set_ne (Ne.symm hjk), getB (show j < (tkP b k p s).1.length by omega)]
    · rfl
theorem tkK_cnt (b b' : Bt) (ks : List Int) (j : Nat) (s : List Cr × List Bt × Int) (hj : j < s.1.length) (h1 : b ≠ b') (h2 : zB ≠ b') : ∀ q, cntC ((tkK b ks q s).1[j]!) b' = cntC s.1[j]! b'
  | 0 => rfl
  | q + 1 => by
    rw [tkK, tkP_cnt b b' _ j _ (by rw [(tkK_stay b ks q s).len]; exact hj) h1 h2 12 (Nat.le_refl _), tkK_cnt b b' ks j s hj h1 h2 q]
/-- The bottles b in some crates. -/
def sumC (L : List Cr) (b : Bt) (ks : List Int) : Nat := (ks.map fun y => cntC L[y.toNat]! b).sum
theorem getD_mem {ks : List Int} {j : Nat} (h : j < ks.length) : ks.getD j 0 ∈ ks := by
  rw [List.getD_eq_getElem?_getD, List.getElem?_eq_getElem h]
  exact List.getElem_mem h
theorem getD_inj {ks : List Int} (hd : ks.Nodup) {i j : Nat} (hi : i < ks.length) (hj : j < ks.length) (h : ks.getD i 0 = ks.getD j 0) : i = j := by
  rw [List.getD_eq_getElem?_getD, List.getElem?_eq_getElem hi, List.getD_eq_getElem?_getD, List.getElem?_eq_getElem hj] at h
  exact (List.getElem_inj hd).1 h
theorem tkK_take (b : Bt) (ks : List Int) (s : List Cr × List Bt × Int) (hg : Good s.1.length ks) (hn : 0 ≤ s.2.2) : ∀ q, q ≤ ks.length → (tkK b ks q s).2.1 = s.2.1 ++ List.replicate (min s.2.2.toNat (sumC s.1 b (ks.take q))) b ∧ (tkK b ks q s).2.2 = s.2.2 - (min s.2.2.toNat (sumC s.1 b (ks.take q)) : Nat) ∧ ∀ i, q ≤ i → i < ks.length → (tkK b ks q s).1[(ks.getD i 0).toNat]! = s.1[(ks.getD i 0).toNat]!
  | 0, _ => ⟨by simp [tkK, sumC], by simp [tkK, sumC], fun i _ _ => rfl⟩
  | q + 1, hq => by
    obtain ⟨ih1, ih2, ih3⟩ := tkK_take b ks s hg hn q (by omega)
    have hst := tkK_stay b ks q s
    have hin := hg.inn _ (getD_mem (show q < ks.length by omega))
    have hkq : (ks.getD q 0).toNat < (tkK b ks q s).1.length := by rw [hst.len]; omega
    obtain ⟨t1, t2⟩ := tkP_take b (ks.getD q 0).toNat (tkK b ks q s) hkq (hst.pos hn) 12 (Nat.le_refl _)
    rw [ih3 q (Nat.le_refl _) (by omega)] at t1 t2
    have hsum : sumC s.1 b (ks.take (q + 1)) = sumC s.1 b (ks.take q) + cntK s.1[(ks.getD q 0).toNat]! b 12 := by
      have e : ks[q] = ks.getD q 0 := by rw [List.getD_eq_getElem?_getD, List.getElem?_eq_getElem (by omega)]; rfl
      unfold sumC
      rw [List.take_succ_eq_append_getElem (by omega), List.map_append, List.sum_append, e]
      simp [cntC]
    rw [tkK, hsum]
    generalize cntK s.1[(ks.getD q 0).toNat]! b 12 = m at t1 t2 ⊢
    generalize sumC s.1 b (ks.take q) = m0 at ih1 ih2 ⊢
    have hmin : min s.2.2.toNat (m0 + m) = min s.2.2.toNat m0 + min (tkK b ks q s).2.2.toNat m := by rw [ih2]; omega
    refine ⟨?_, ?_, fun i hi hil => ?_⟩
    · rw [t1, ih1, List.append_assoc, List.replicate_append_replicate, hmin]
    · rw [t2, hmin, ih2]
      omega
    · have hini := hg.inn _ (getD_mem hil)
      rw [tkP_other b _ _ _ (by rw [hst.len]; omega) (fun e => ?_) 12, ih3 i (by omega) hil]
      have := getD_inj hg.nd hil (show q < ks.length by omega) (by omega)
      omega
theorem cmp_keys {a b : Bt} (h : a.cmp b < 0) : a.k < b.k ∨ (a.k = b.k ∧ a.y < b.y) := by
  unfold Bt.cmp at h
  split at h
  · exact .inl ‹_›
  · split at h
    · omega
    · split at h
      · exact .inr ⟨by omega, ‹_›⟩
      · split at h <;> omega
theorem okK_asc {l : List Wt} (h : okK l l.length) : ∀ i, i < l.length → ∀ j, j < i → (l[j]!.b.k < l[i]!.b.k ∨ (l[j]!.b.k = l[i]!.b.k ∧ l[j]!.b.y < l[i]!.b.y))
  | 0, _, j, hj => absurd hj (Nat.not_lt_zero _)
  | i + 1, hi, j, hj => by
    have h1 := cmp_keys ((h (i + 1) hi).2 (Nat.succ_pos _))
    rw [Nat.add_sub_cancel] at h1
    rcases Nat.lt_or_ge j i with q | q
    · have := okK_asc h i (by omega) j q
      omega
    · obtain rfl : j = i := by omega
      exact h1
theorem okK_ne {l : List Wt} (h : okK l l.length) {i j : Nat} (hi : i < l.length) (hj : j < i) : l[j]!.b ≠ l[i]!.b := fun e => by
  have := okK_asc h i hi j hj
  rw [e] at this
  omega
theorem okK_z {l : List Wt} (h : okK l l.length) {i : Nat} (hi : i < l.length) : zB ≠ l[i]!.b := fun e => by
  have := (h i hi).1
  rw [Wt.ok, ← e] at this
  simp [Bt.ok, zB] at this
/-- What is taken out of crates that fill an order. -/
theorem tkW_bots {lc : List Cr} {l : List Wt} {ks : List Int} (hok : okK l l.length) (hg : Good lc.length ks) (hf : ∀ i, i < l.length → l[i]!.n ≤ (sumC lc l[i]!.b ks : Int)) : ∀ i, i ≤ l.length → (tkW lc l ks i).2 = botsL (l.take i) ∧ ∀ i', i ≤ i' → i' < l.length → ∀ k, k < lc.length → cntC ((tkW lc l ks i).1[k]!) l[i']!.b = cntC lc[k]! l[i']!.b
  | 0, _ => ⟨by simp [tkW, botsL], fun _ _ _ _ _ => rfl⟩
  | i + 1, hi => by
    obtain ⟨ih1, ih2⟩ := tkW_bots hok hg hf i (by omega)
    have hlen := tkW_len lc l ks i
    have hn : 0 ≤ l[i]!.n := by
      have := (hok i (by omega)).1
      simp only [Wt.ok, Bool.and_eq_true, decide_eq_true_iff] at this
      omega
    have hT := tkK_take l[i]!.b ks ((tkW lc l ks i).1, (tkW lc l ks i).2, l[i]!.n) (by rw [hlen]; exact hg) hn ks.length (Nat.le_refl _)
    have hs : sumC (tkW lc l ks i).1 l[i]!.b ks = sumC lc l[i]!.b ks := by
      unfold sumC
      congr 1
      refine List.map_congr_left fun y hy => ?_
      have := hg.inn y hy
      exact ih2 i (Nat.le_refl _) (by omega) y.toNat (by omega)
    rw [List.take_length] at hT
    simp only at hT
    rw [hs] at hT
    have hfi := hf i (by omega)
    rw [tkW]
    refine ⟨?_, fun i' hi' hil' k hk => ?_⟩
    · show (tkK l[i]!.b ks ks.length ((tkW lc l ks i).1, (tkW lc l ks i).2, l[i]!.n)).2.1 = _
      rw [hT.1, ih1, botsL_step (by omega), show min l[i]!.n.toNat (sumC lc l[i]!.b ks) = l[i]!.n.toNat by omega]
    · show cntC ((tkK l[i]!.b ks ks.length ((tkW lc l ks i).1, (tkW lc l ks i).2, l[i]!.n)).1[k]!) l[i']!.b = _
      rw [tkK_cnt _ _ ks k _ (by rw [hlen]; exact hk) (okK_ne hok hil' (by omega)) (okK_z hok hil')]
      exact ih2 i' (by omega) hil' k hk
theorem outL_bots {lc : List Cr} {l : List Wt} {ks : List Int} (hok : ordOk l = true) (hg : Good lc.length ks) (hf : leftL lc l ks = []) : (outL lc l ks).2 = botsL l := by
  have hk : okK l l.length := by simp [ordOk] at hok; exact hok.1
  have := (tkW_bots hk hg (fun i hi => ?_) l.length (Nat.le_refl _)).1
  · rw [List.take_length] at this
    exact this
  · unfold leftL lackL at hf
    rw [List.flatMap_eq_nil_iff] at hf
    have h1 := hf l[i]! (by rw [getB hi]; exact List.getElem_mem hi)
    have e : cntL (opL lc ks) l[i]!.b = sumC lc l[i]!.b ks := by
      rw [opL_nodup lc hg.nd]
      unfold cntL sumC
      rw [List.map_map]
      rfl
    rw [e] at h1
    apply Classical.byContradiction
    intro hlt
    rw [lack1_yes (by omega)] at h1
    cases h1
end Go.Proofs.YtbngpcghognojaaGreatDoor
namespace Go.Proofs.YtbngpcghognojaaGreatDoor
open Go.RowKit
set_option linter.unusedVariables false
set_option linter.unusedSimpArgs false
set_option maxRecDepth 100000
theorem Bt.fine_z : Bt.fine zB = true := by decide
theorem ok_put {L : List Cr} {j p : Nat} (hj : j < L.length) (h : ∀ c ∈ L, Cr.ok c = true) : ∀ c ∈ putL L j p zB, Cr.ok c = true := by
  intro c hc
  rcases List.mem_or_eq_of_mem_set hc with q | rfl
  · exact h c q
  · have h1 := h L[j]! (by rw [getB hj]; exact List.getElem_mem hj)
    unfold Cr.ok at h1 ⊢
    rw [setC_toList, List.all_eq_true]
    intro b hb
    rcases List.mem_or_eq_of_mem_set hb with q | rfl
    · exact List.all_eq_true.1 h1 b q
    · exact Bt.fine_z
theorem tkP_ok (b : Bt) (k : Nat) (s : List Cr × List Bt × Int) (hk : k < s.1.length) (h : ∀ c ∈ s.1, Cr.ok c = true) : ∀ p, ∀ c ∈ (tkP b k p s).1, Cr.ok c = true
  | 0 => h
  | p + 1 => by
    have ih := tkP_ok b k s hk h p
    have hl := (tkP_stay b k p s).len
    rw [tkP, tkStep]
    split
    · exact ok_put (by rw [hl]; exact hk) ih
    · exact ih
theorem tkK_ok (b : Bt) (ks : List Int) (s : List Cr × List Bt × Int) (hk : ∀ x ∈ ks, 0 ≤ x ∧ x < s.1.length) (h : ∀ c ∈ s.1, Cr.ok c = true) : ∀ j, j ≤ ks.length → ∀ c ∈ (tkK b ks j s).1, Cr.ok c = true
  | 0, _ => h
  | j + 1, hj => by
    rw [tkK]
    refine tkP_ok b _ _ ?_ (tkK_ok b ks s hk h j (by omega)) 12
    rw [(tkK_stay b ks j s).len]
    have := hk _ (getD_mem (show j < ks.length by omega))
    omega
theorem tkW_ok (lc : List Cr) (l : List Wt) (ks : List Int) (hk : ∀ x ∈ ks, 0 ≤ x ∧ x < lc.length) (h : ∀ c ∈ lc, Cr.ok c = true) : ∀ i, ∀ c ∈ (tkW lc l ks i).1, Cr.ok c = true
  | 0 => h
  | i + 1 => by
    rw [tkW]
    exact tkK_ok _ ks _ (by rw [show ((tkW lc l ks i).1, (tkW lc l ks i).2, l[i]!.n).1.length = lc.length from tkW_len lc l ks i]; exact hk) (tkW_ok lc l ks hk h i) ks.length (Nat.le_refl _)
theorem outL_stack {lc : List Cr} {l : List Wt} {ks : List Int} (hk : ∀ x ∈ ks, 0 ≤ x ∧ x < lc.length) (h : stackOk lc = true) : stackOk (outL lc l ks).1 = true := by
  simp only [stackOk, Bool.and_eq_true, decide_eq_true_iff, List.all_eq_true] at h ⊢
  refine ⟨?_, tkW_ok lc l ks hk h.2 l.length⟩
  show (tkW lc l ks l.length).1.length ≤ 12
  rw [tkW_len]
  exact h.1
theorem sum_sub {α : Type} [DecidableEq α] (g : α → Nat) : ∀ (ks L : List α), ks.Nodup → (∀ x ∈ ks, x ∈ L) → (ks.map g).sum ≤ (L.map g).sum
  | [], L, _, _ => by simp
  | x :: ks, L, hn, hs => by
    have hx := hs x (List.mem_cons_self ..)
    have hp := List.perm_cons_erase hx
    rw [List.nodup_cons] at hn
    have ih := sum_sub g ks (L.erase x) hn.2 fun y hy => (List.mem_erase_of_ne (show y ≠ x from fun e => hn.1 (by rw [← e]; exact hy))).2 (hs y (List.mem_cons_of_mem _ hy))
    have e := (hp.map g).sum_nat
    rw [e, List.map_cons, List.map_cons, List.sum_cons, List.sum_cons]
    omega
theorem cntL_sub {lc : List Cr} {ks : List Int} (hg : Good lc.length ks) (b : Bt) : cntL (opL lc ks) b ≤ cntL lc b := by
  have e := opL_every lc
  rw [opL_nodup lc (everyL_nodup _)] at e
  rw [opL_nodup lc hg.nd]
  conv => rhs; rw [← e]
  unfold cntL
  rw [List.map_map, List.map_map]
  exact sum_sub _ ks (everyL lc.length) hg.nd fun x hx => everyL_mem (hg.inn x hx).1 (hg.inn x hx).2
/-- What is filled out of some crates is filled out of all. -/
theorem fewS_none {lc : List Cr} {l : List Wt} (h : (fewS lc l).2 = true) : lackL (cntL lc) l = [] := by
  have h1 := fewS_ok h
  have hg := fewS_good (lc := lc) (l := l)
  unfold leftL lackL at h1
  unfold lackL
  rw [List.flatMap_eq_nil_iff] at h1 ⊢
  intro x hx
  have h2 := h1 x hx
  have h3 := cntL_sub hg x.b
  apply Classical.byContradiction
  intro hne
  have h4 : 0 < x.n - (cntL lc x.b : Int) := by
    apply Classical.byContradiction
    intro q
    exact hne (lack1_no q)
  rw [lack1_yes (by omega)] at h2
  cases h2
theorem fewS_iff (lc : List Cr) (l : List Wt) : (fewS lc l).2 = decide (lackL (cntL lc) l = []) := by
  by_cases h : lackL (cntL lc) l = []
  · rw [fewS_found h, decide_eq_true h]
  · rw [decide_eq_false h, ← Bool.not_eq_true]
    exact fun q => h (fewS_none q)
/-- The first orders, filled. -/
def sevK (lc : List Cr) (os : List (List Wt)) : Nat → List Cr × List Int
  | 0 => (lc, [])
  | i + 1 => if (fewS (sevK lc os i).1 os[i]!).2 = true then ((outL (sevK lc os i).1 os[i]! (fewS (sevK lc os i).1 os[i]!).1).1, (sevK lc os i).2 ++ [(i : Int)]) else sevK lc os i
theorem sevK_len (lc : List Cr) (os : List (List Wt)) : ∀ i, (sevK lc os i).1.length = lc.length
  | 0 => rfl
  | i + 1 => by
    rw [sevK]
    split
    · show (outL _ _ _).1.length = _
      rw [outL, tkW_len, sevK_len lc os i]
    · exact sevK_len lc os i
theorem sevK_le (lc : List Cr) (os : List (List Wt)) : ∀ i, (sevK lc os i).2.length ≤ i
  | 0 => Nat.le_refl _
  | i + 1 => by
    have ih := sevK_le lc os i
    rw [sevK]
    split
    · show ((sevK lc os i).2 ++ [(i : Int)]).length ≤ i + 1
      rw [List.length_append, List.length_singleton]
      omega
    · omega
theorem sevK_ok {lc : List Cr} (os : List (List Wt)) (h : stackOk lc = true) : ∀ i, stackOk (sevK lc os i).1 = true
  | 0 => h
  | i + 1 => by
    have ih := sevK_ok os h i
    rw [sevK]
    split
    · exact outL_stack (fewS_good).inn ih
    · exact ih
def sevI (lc : List Cr) (os : List (List Wt)) : Int := if (stackOk lc && os.all ordOk) = true then (if 20 < os.length then 3 else 0) else 1
def sevR (lc : List Cr) (os : List (List Wt)) : List Cr × List Int × Int := if sevI lc os = 0 then ((sevK lc os os.length).1, (sevK lc os os.length).2, 0) else ([], [], sevI lc os)
theorem sevI_zero {lc : List Cr} {os : List (List Wt)} (h : sevI lc os = 0) : stackOk lc = true ∧ (∀ l ∈ os, ordOk l = true) ∧ os.length ≤ 20 := by
  unfold sevI at h
  split at h
  · rename_i h1
    rw [Bool.and_eq_true, List.all_eq_true] at h1
    split at h
    · cases h
    · exact ⟨h1.1, h1.2, by omega⟩
  · cases h
theorem sevR_le (lc : List Cr) (os : List (List Wt)) : (sevR lc os).1.length ≤ 30000 := by
  unfold sevR
  split
  · rename_i h
    have h1 := (sevI_zero h).1
    show (sevK lc os os.length).1.length ≤ 30000
    rw [sevK_len]
    simp only [stackOk, Bool.and_eq_true, decide_eq_true_iff] at h1
    omega
  · simp
theorem sevR_le2 (lc : List Cr) (os : List (List Wt)) : (sevR lc os).2.1.length ≤ 30000 := by
  unfold sevR
  split
  · rename_i h
    have h1 := (sevI_zero h).2.2
    have h2 := sevK_le lc os os.length
    show (sevK lc os os.length).2.length ≤ 30000
    omega
  · simp
end Go.Proofs.YtbngpcghognojaaGreatDoor
namespace Go.Proofs.YtbngpcghognojaaGreatDoor
open Go.RowKit
set_option linter.unusedVariables false
set_option linter.unusedSimpArgs false
set_option maxRecDepth 100000
set_option maxHeartbeats 1000000
attribute [local go_sem] Oper.qB
def fewR (lc : List Cr) (l : List Wt) : List Int × Int := if fillI lc l = 0 then ((fewS lc l).1, 0) else ([], fillI lc l)
def bndK (lc : List Cr) (l : List Wt) : Nat → Int
  | 0 => 0
  | k + 1 => max (bndK lc l k) ((fewS lc [l[k]!]).1.length : Int)
def boundR (lc : List Cr) (l : List Wt) : Int × Int := if fillI lc l = 0 then (bndK lc l l.length, 0) else (0, fillI lc l)
theorem fewS_le (lc : List Cr) (l : List Wt) : (fewS lc l).1.length ≤ lc.length := fewS_good.le
theorem fewR_le (lc : List Cr) (l : List Wt) : (fewR lc l).1.length ≤ 12 := by
  unfold fewR
  split
  · rename_i h
    rcases fillI_cases lc l with ⟨_, h1, h2⟩ | e | e
    · have := fewS_le lc l
      have := (ask_le h1).1
      show (fewS lc l).1.length ≤ 12
      omega
    · rw [e] at h; cases h
    · rw [e] at h; cases h
  · simp
theorem lack_one {f : Bt → Nat} {l : List Wt} (h : lackL f l = []) {x : Wt} (hx : x ∈ l) : lackL f [x] = [] := by
  unfold lackL at *
  rw [List.flatMap_eq_nil_iff] at h
  simp [h x hx]
theorem bndK_le (lc : List Cr) (l : List Wt) : ∀ k, 0 ≤ bndK lc l k ∧ bndK lc l k ≤ lc.length
  | 0 => by simp [bndK]
  | k + 1 => by
    have := bndK_le lc l k
    have := fewS_le lc [l[k]!]
    rw [bndK]
    omega
theorem l00Max_any (a b : Int) (w : World) : Calls Tryz.prog 148 #[.int .i64 a, .int .i64 b] w fun e w' => e = .returned (.int .i64 (max a b)) ∧ w = w' := by
  rcases (by omega : b < a ∨ a ≤ b) with h | h
  · have HF := Lib.hid (show max a b = a by omega)
    go_enter Tryz.func148, Tryz.ntmps148
    go_wp2
    go_ret
    exact ⟨by rw [HF.out]; rfl, rfl⟩
  · have HF := Lib.hid (show max a b = b by omega)
    have h2 : ¬ b < a := by omega
    go_enter Tryz.func148, Tryz.ntmps148
    go_wp2
    go_ret
    exact ⟨by rw [HF.out]; rfl, rfl⟩
end Go.Proofs.YtbngpcghognojaaGreatDoor
namespace Go.Proofs.YtbngpcghognojaaGreatDoor
open Go.RowKit
set_option linter.unusedVariables false
set_option linter.unusedSimpArgs false
set_option maxRecDepth 100000
set_option maxHeartbeats 400000
def sumW (l : List Wt) : Int := (l.map Wt.n).sum
theorem sumW_step {l : List Wt} {k : Nat} (hk : k < l.length) : sumW (l.take (k + 1)) = sumW (l.take k) + l[k]!.n := by
  unfold sumW
  rw [List.take_succ_eq_append_getElem hk, getB hk, List.map_append, List.sum_append]
  simp
theorem sumW_le : ∀ l : List Wt, -(32768 * (l.length : Int)) ≤ sumW l ∧ sumW l ≤ 32768 * (l.length : Int)
  | [] => by simp [sumW]
  | x :: l => by
    have h := sumW_le l
    have hx := x.hn
    have e : sumW (x :: l) = x.n + sumW l := by simp [sumW]
    rw [e, List.length_cons]
    omega
def wantedR (l : List Wt) : Int × Int := if ordOk l = true then (sumW l, 0) else (0, 1)
theorem WantedIn_any (b off c : Nat) (l : List Wt) (w : World) (hC : CAt w b off (fl wc l)) (hb : b < w.heap.size) (hn : l.length ≤ 1048576) :
    Calls Tryz.prog 42 #[.slice (some ⟨b, off, none⟩) l.length c] w fun e w' => e = .returned (.tuple #[.int .i64 (wantedR l).1, .int .i64 (wantedR l).2]) ∧ Below w.heap.size w w' := by
  have HC := Lib.hid (⟨hC, hb⟩ : _ ∧ _)
  clear hC hb
  have H := Below.refl w.heap.size w
  go_enter Tryz.func42, Tryz.ntmps42
  cases e1 : ordOk l with
  | false =>
    have HF := Lib.hid (show wantedR l = (0, 1) by simp [wantedR, e1])
    go_wp2_with (go_at_call 50; with_reducible refine (ValidOrder_any b off c l _ (HC.out.1.below H HC.out.2) (Nat.lt_of_lt_of_le HC.out.2 H.size) (by omega)).mono ?_; rintro e w' ⟨rfl, hb⟩; replace H := bstep H hb; clear hb; have hc := bcell H)
    rw [HF.out]
    exact bodyPost_ret (results_tt rfl) rfl ⟨rfl, H⟩
  | true =>
    have HF := Lib.hid (show wantedR l = (sumW l, 0) by simp [wantedR, e1])
    have h8 : l.length ≤ 8 := by simp [ordOk] at e1; exact e1.2
    go_upto_region 4 with (go_at_call 50; with_reducible refine (ValidOrder_any b off c l _ (HC.out.1.below H HC.out.2) (Nat.lt_of_lt_of_le HC.out.2 H.size) (by omega)).mono ?_; rintro e w' ⟨rfl, hb⟩; replace H := bstep H hb; clear hb; have hc := bcell H)
    clear hc e1
    go_wp2
    go_loopw [4, 12] (fun s i wr => ∃ k : Nat, k ≤ l.length ∧ i = .int .i64 k ∧ s = .int .i64 (sumW (l.take k)) ∧ Below w.heap.size w wr) (fun _ i _ => l.length - (intOf i).toNat)
    case atStart => exact ⟨0, Nat.zero_le _, rfl, by simp [sumW], H⟩
    case round =>
      clear H
      obtain ⟨k, hk, rfl, rfl, hb⟩ := hrel
      by_cases hlt : k < l.length
      · have HX := (HC.out.1.below hb HC.out.2).el wc_length hlt
        have HL := Lib.hid (@sumW_step l k hlt)
        have hs := sumW_le (l.take k)
        have hcl : (l.take k).length ≤ k := by simp; omega
        have hlt2 : (k : Int) < (l.length : Int) := by omega
        generalize l[k]! = x at HX HL
        generalize sumW (l.take k) = s at HL hs ⊢
        have hs1 : -32768000000 ≤ s := by omega
        have hs2 : s ≤ 32768000000 := by omega
        obtain ⟨hn1, hn2⟩ := x.hn
        have x0 : wr.cell? ⟨b, off + k * 3, none⟩ = some (.int .u8 x.b.k) := HX 0 _ rfl
        have x1 : wr.cell? ⟨b, off + k * 3 + 1, none⟩ = some (.int .i16 x.b.y) := HX 1 _ rfl
        have x2 : wr.cell? ⟨b, off + k * 3 + 2, none⟩ = some (.int .i16 x.n) := HX 2 _ rfl
        clear HX hs
        go_wp2
        go_roundw
        case rel => exact ⟨k + 1, by omega, by go_num, by rw [HL.out], bstep hb (by go_grown)⟩
        case measure => simp [intOf]; omega
      · obtain rfl : k = l.length := by omega
        rw [List.take_length]
        go_wp2
        rw [HF.out]
        exact bodyPost_ret (results_tt rfl) rfl ⟨rfl, hb⟩
end Go.Proofs.YtbngpcghognojaaGreatDoor
