/- Numbers and bottles in texts: numerals, pieces between bytes. -/
import Derived.Test.YtbngpcghognojaaDoorBase
import Derived.Lib.ItoaNum
import Derived.Lib.ParseIntB
import Derived.Lib.IndexMore
namespace Go.Proofs.YtbngpcghognojaaDoor
open Go Go.Lib
set_option linter.unusedVariables false
set_option linter.unusedSimpArgs false
set_option maxRecDepth 100000
/-! ### Numerals -/
def isD (c : UInt8) : Bool := decide (48 ≤ c.toNat) && decide (c.toNat ≤ 57)
theorem isD_iff {c : UInt8} : isD c = true ↔ 48 ≤ c.toNat ∧ c.toNat ≤ 57 := by simp [isD]
def valF (a : Nat) (l : List UInt8) : Nat := l.foldl (fun a c => a * 10 + (c.toNat - 48)) a
def valD (l : List UInt8) : Nat := valF 0 l
theorem valF_snoc (a : Nat) (l : List UInt8) (c : UInt8) : valF a (l ++ [c]) = valF a l * 10 + (c.toNat - 48) := by simp [valF]
theorem valF_cons (a : Nat) (l : List UInt8) (c : UInt8) : valF a (c :: l) = valF (a * 10 + (c.toNat - 48)) l := by unfold valF; rw [List.foldl_cons]
theorem valF_le : ∀ (l : List UInt8) (a : Nat), a ≤ valF a l
  | [], a => Nat.le_refl _
  | c :: l, a => by
    have := valF_le l (a * 10 + (c.toNat - 48))
    rw [valF_cons]
    omega
/-- A numeral without needless zeros. -/
def canon (l : List UInt8) : Bool := decide (l ≠ []) && (l.all isD && (decide (l.length = 1) || decide (l.head? ≠ some 48)))
theorem canon_iff {l : List UInt8} : canon l = true ↔ l ≠ [] ∧ (∀ c ∈ l, isD c = true) ∧ (l.length = 1 ∨ l.head? ≠ some 48) := by
  simp [canon]
theorem u8_ofNat {n : Nat} (h : n < 256) : (UInt8.ofNat n).toNat = n := by simp [Nat.mod_eq_of_lt h]
theorem u8_back {c : UInt8} (h : 48 ≤ c.toNat) : UInt8.ofNat (48 + (c.toNat - 48)) = c := by
  rw [show 48 + (c.toNat - 48) = c.toNat by omega]
  simp
theorem canon_pos {c : UInt8} {l : List UInt8} (hd : isD c = true) (h : c ≠ 48) : 1 ≤ valD (c :: l) := by
  have := valF_le l (0 * 10 + (c.toNat - 48))
  rw [isD_iff] at hd
  have hne : c.toNat ≠ 48 := fun e => h (UInt8.toNat_inj.1 (by rw [e]; rfl))
  unfold valD
  rw [valF_cons]
  omega
theorem dec_all (n : Nat) : (decDigits n ≠ [] ∧ ∀ c ∈ decDigits n, isD c = true) ∧ valD (decDigits n) = n ∧ ((decDigits n).length = 1 ∨ (decDigits n).head? ≠ some 48) := by
  induction n using Nat.strongRecOn with
  | _ n ih =>
    by_cases h : n < 10
    · have e : decDigits n = [UInt8.ofNat (48 + n)] := by rw [decDigits, dif_pos h]
      have hc : (UInt8.ofNat (48 + n)).toNat = 48 + n := u8_ofNat (by omega)
      rw [e]
      refine ⟨⟨by simp, fun c hc' => ?_⟩, ?_, .inl rfl⟩
      · obtain rfl := List.mem_singleton.1 hc'
        rw [isD_iff, hc]
        omega
      · show 0 * 10 + ((UInt8.ofNat (48 + n)).toNat - 48) = n
        rw [hc]
        omega
    · have e : decDigits n = decDigits (n / 10) ++ [UInt8.ofNat (48 + n % 10)] := by rw [decDigits, dif_neg h]
      have hc : (UInt8.ofNat (48 + n % 10)).toNat = 48 + n % 10 := u8_ofNat (by omega)
      obtain ⟨⟨i1, i2⟩, i3, i4⟩ := ih (n / 10) (by omega)
      rw [e]
      refine ⟨⟨by simp, fun c hc' => ?_⟩, ?_, .inr ?_⟩
      · rcases List.mem_append.1 hc' with q | q
        · exact i2 c q
        · obtain rfl := List.mem_singleton.1 q
          rw [isD_iff, hc]
          omega
      · unfold valD at i3 ⊢
        rw [valF_snoc, i3, hc]
        omega
      · cases hl : decDigits (n / 10) with
        | nil => exact absurd hl i1
        | cons c r =>
          rw [hl] at i3 i4
          rcases i4 with q | q
          · obtain rfl : r = [] := by simpa using q
            intro hh
            obtain rfl : c = 48 := by simpa using hh
            have : (0 : Nat) = n / 10 := i3
            omega
          · simpa using q
theorem dec_canon (n : Nat) : canon (decDigits n) = true := canon_iff.2 ⟨(dec_all n).1.1, (dec_all n).1.2, (dec_all n).2.2⟩
theorem dec_val (n : Nat) : valD (decDigits n) = n := (dec_all n).2.1
theorem canon_dec : ∀ (k : Nat) (l : List UInt8), l.length = k → canon l = true → decDigits (valD l) = l
  | 0, l, hl, h => by
    obtain rfl := List.length_eq_zero_iff.1 hl
    simp [canon] at h
  | k + 1, l, hl, h => by
    obtain ⟨h1, h2, h3⟩ := canon_iff.1 h
    obtain ⟨l', c, rfl⟩ : ∃ l' c, l = l' ++ [c] := ⟨l.dropLast, l.getLast h1, (List.dropLast_concat_getLast h1).symm⟩
    have hc := isD_iff.1 (h2 c (by simp))
    cases hl' : l' with
    | nil =>
      subst hl'
      have e : valD [c] = c.toNat - 48 := by show 0 * 10 + (c.toNat - 48) = _; omega
      rw [List.nil_append, e, decDigits, dif_pos (by omega), u8_back hc.1]
    | cons x r =>
      have hx : x ≠ 48 := by
        subst hl'
        rcases h3 with q | q
        · simp at q
        · intro e
          subst e
          simp at q
      have hcan : canon (x :: r) = true := by
        subst hl'
        exact canon_iff.2 ⟨by simp, fun d hd => h2 d (List.mem_append_left _ hd), .inr (by simpa using hx)⟩
      have ih := canon_dec k (x :: r) (by rw [← hl']; simp at hl; exact hl) hcan
      have hp := canon_pos (l := r) (h2 x (by subst hl'; simp)) hx
      have hv : valD (x :: r ++ [c]) = valD (x :: r) * 10 + (c.toNat - 48) := valF_snoc _ _ _
      rw [hv, decDigits, dif_neg (by omega), show (valD (x :: r) * 10 + (c.toNat - 48)) / 10 = valD (x :: r) by omega, show (valD (x :: r) * 10 + (c.toNat - 48)) % 10 = c.toNat - 48 by omega, ih, u8_back hc.1]
theorem canon_back {l : List UInt8} (h : canon l = true) : decDigits (valD l) = l := canon_dec _ l rfl h
theorem canon_len {l : List UInt8} (h : canon l = true) (hv : valD l < 1000000000) : l.length ≤ 9 := by
  rw [← canon_back h, decDigits_length]
  apply Classical.byContradiction
  intro hn
  have h1 : ∀ k n, k < nDigits n → 10 ^ k ≤ n ∨ k = 0 := by
    intro k
    induction k with
    | zero => intro n _; exact .inr rfl
    | succ k ih =>
      intro n hk
      left
      by_cases hs : n < 10
      · rw [nDigits_small hs] at hk; omega
      · rw [nDigits_big hs] at hk
        rcases ih (n / 10) (by omega) with q | q
        · rw [Nat.pow_succ]; omega
        · subst q; rw [Nat.zero_add, Nat.pow_one]; omega
  rcases h1 9 (valD l) (by omega) with q | q
  · omega
  · cases q
/-- A number of at most nine digits. -/
def numR (l : List UInt8) : Int × Bool := if (canon l && decide (l.length ≤ 9)) = true then ((valD l : Int), true) else (0, false)
theorem parseM_ok : ∀ (l : List UInt8) (a : Nat), (∀ c ∈ l, isD c = true) → valF a l < 9223372036854775808 → parseUintM (2 ^ 64 - 1) a l = .ok (valF a l)
  | [], a, _, _ => rfl
  | c :: l, a, hd, hv => by
    have hc := isD_iff.1 (hd c (List.mem_cons_self ..))
    rw [valF_cons] at hv ⊢
    have := valF_le l (a * 10 + (c.toNat - 48))
    rw [parseUintM, if_pos hc, if_neg (by omega), if_neg (by omega)]
    exact parseM_ok l _ (fun d h => hd d (List.mem_cons_of_mem _ h)) hv
theorem parse_ok {l : List UInt8} (h : canon l = true) (hv : valD l < 9223372036854775808) : parseIntB 64 l = .ok (valD l : Int) := by
  obtain ⟨h1, h2, _⟩ := canon_iff.1 h
  match l, h1, h2, hv with
  | c :: r, _, h2, hv =>
    have hc := isD_iff.1 (h2 c (List.mem_cons_self ..))
    have h43 : ¬ (c.toNat = 43 ∨ c.toNat = 45) := by omega
    have h45 : ¬ c.toNat = 45 := by omega
    have hp := parseM_ok (c :: r) 0 h2 hv
    unfold parseIntB
    simp only [if_neg h43, h45, parseUintB, reduceCtorEq, if_false, hp]
    have hv' : valF 0 (c :: r) < 9223372036854775808 := hv
    have e : ¬ (2 ^ (64 - 1) ≤ valF 0 (c :: r)) := by
      show ¬ 9223372036854775808 ≤ _
      omega
    have h43a : ¬ c.toNat = 43 := by omega
    have hp2 : parseUintM 18446744073709551615 0 (c :: r) = .ok (valF 0 (c :: r)) := hp
    have e2 : ¬ 9223372036854775808 ≤ valF 0 (c :: r) := by omega
    simp [h43a, hp2, e2]
    rfl
/-- A number of a range, told in decimal. -/
def rdR (lo hi : Nat) (l : List UInt8) : Bool := canon l && (decide (lo ≤ valD l) && decide (valD l ≤ hi))
theorem rdR_iff {lo hi : Nat} {l : List UInt8} (hh : hi < 9223372036854775808) : rdR lo hi l = true ↔ ∃ v : Int, parseIntB 64 l = .ok v ∧ itoa v = l ∧ (lo : Int) ≤ v ∧ v ≤ (hi : Int) := by
  constructor
  · intro h
    simp only [rdR, Bool.and_eq_true, decide_eq_true_iff] at h
    refine ⟨(valD l : Int), parse_ok h.1 (by omega), ?_, by omega, by omega⟩
    unfold itoa
    rw [if_neg (by omega), Int.toNat_natCast]
    exact canon_back h.1
  · rintro ⟨v, h1, h2, h3, h4⟩
    have e : itoa v = decDigits v.toNat := by unfold itoa; rw [if_neg (by omega)]
    rw [e] at h2
    have hv := dec_val v.toNat
    have hc := dec_canon v.toNat
    rw [h2] at hv hc
    simp only [rdR, Bool.and_eq_true, decide_eq_true_iff]
    exact ⟨hc, by omega, by omega⟩
/-! ### Pieces -/
def preS (a : List UInt8) : List (List UInt8) → List (List UInt8)
  | [] => [a]
  | p :: ps => (a ++ p) :: ps
/-- A text split at a byte. -/
def spl (s : UInt8) : List UInt8 → List (List UInt8)
  | [] => [[]]
  | c :: l => if c = s then [] :: spl s l else preS [c] (spl s l)
theorem spl_ne (s : UInt8) : ∀ l, spl s l ≠ []
  | [] => by simp [spl]
  | c :: l => by
    rw [spl]
    split
    · simp
    · cases spl s l <;> simp [preS]
theorem preS_nil {ps : List (List UInt8)} (h : ps ≠ []) : preS [] ps = ps := by
  cases ps with
  | nil => exact absurd rfl h
  | cons p ps => rfl
theorem preS_app (a b : List UInt8) {ps : List (List UInt8)} (h : ps ≠ []) : preS a (preS b ps) = preS (a ++ b) ps := by
  cases ps with
  | nil => exact absurd rfl h
  | cons p ps => simp [preS]
/-- Texts with a byte between them. -/
def intc (s : UInt8) : List (List UInt8) → List UInt8
  | [] => []
  | [p] => p
  | p :: q :: ps => p ++ s :: intc s (q :: ps)
theorem intc_pre (s : UInt8) (a : List UInt8) : ∀ {ps : List (List UInt8)}, ps ≠ [] → intc s (preS a ps) = a ++ intc s ps
  | [], h => absurd rfl h
  | [p], _ => rfl
  | p :: q :: ps, _ => by simp [preS, intc]
theorem intc_spl (s : UInt8) : ∀ l, intc s (spl s l) = l
  | [] => rfl
  | c :: l => by
    have ih := intc_spl s l
    have hne := spl_ne s l
    rw [spl]
    split
    · rename_i h
      subst h
      cases hs : spl c l with
      | nil => exact absurd hs hne
      | cons p ps =>
        rw [hs] at ih
        show [] ++ c :: intc c (p :: ps) = _
        rw [ih]
        rfl
    · rw [intc_pre s [c] hne, ih]
      rfl
theorem spl_mem (s : UInt8) : ∀ (l : List UInt8), ∀ p ∈ spl s l, s ∉ p
  | [], p, hp => by
    obtain rfl : p = [] := by simpa [spl] using hp
    simp
  | c :: l, p, hp => by
    rw [spl] at hp
    split at hp
    · rcases List.mem_cons.1 hp with rfl | hp
      · simp
      · exact spl_mem s l p hp
    · rename_i h
      cases hs : spl s l with
      | nil => exact absurd hs (spl_ne s l)
      | cons q ps =>
        rw [hs] at hp
        rcases List.mem_cons.1 hp with rfl | hp
        · have := spl_mem s l q (by rw [hs]; exact List.mem_cons_self ..)
          intro hm
          rcases List.mem_cons.1 hm with e | e
          · exact h e.symm
          · exact this e
        · exact spl_mem s l p (by rw [hs]; exact List.mem_cons_of_mem _ hp)
theorem spl_app {s : UInt8} : ∀ {a : List UInt8} (b : List UInt8), s ∉ a → spl s (a ++ s :: b) = a :: spl s b
  | [], b, _ => by rw [List.nil_append, spl, if_pos rfl]
  | c :: a, b, h => by
    have h1 : c ≠ s := fun e => h (by rw [e]; exact List.mem_cons_self ..)
    rw [List.cons_append, spl, if_neg h1, spl_app b (fun q => h (List.mem_cons_of_mem _ q))]
    rfl
theorem spl_one {s : UInt8} : ∀ {a : List UInt8}, s ∉ a → spl s a = [a]
  | [], _ => rfl
  | c :: a, h => by
    have h1 : c ≠ s := fun e => h (by rw [e]; exact List.mem_cons_self ..)
    rw [spl, if_neg h1, spl_one (fun q => h (List.mem_cons_of_mem _ q))]
    rfl
theorem spl_of {s : UInt8} : ∀ {ps : List (List UInt8)}, ps ≠ [] → (∀ p ∈ ps, s ∉ p) → spl s (intc s ps) = ps
  | [], h, _ => absurd rfl h
  | [p], _, h => spl_one (h p (List.mem_cons_self ..))
  | p :: q :: ps, _, h => by
    show spl s (p ++ s :: intc s (q :: ps)) = _
    rw [spl_app _ (h p (List.mem_cons_self ..)), spl_of (by simp) fun r hr => h r (List.mem_cons_of_mem _ hr)]
/-! ### Bottles -/
/-- The text of a bottle. -/
def botT (b : Bt) : List UInt8 := decDigits b.k.toNat ++ 58 :: decDigits b.y.toNat
theorem notD {c : UInt8} {l : List UInt8} (h : ∀ d ∈ l, isD d = true) (hc : isD c = false) : c ∉ l := fun hm => by
  rw [h c hm] at hc
  cases hc
theorem dec_not (n : Nat) {c : UInt8} (hc : isD c = false) : c ∉ decDigits n := notD (dec_all n).1.2 hc
/-- A bottle's text, read. -/
def rdB (l : List UInt8) : Option Bt :=
  match spl 58 l with
  | [a, b] => if h : (rdR 1 20 a && rdR 1900 2099 b) = true then some ⟨(valD a : Int), (valD b : Int), by simp [rdR] at h; omega, by simp [rdR] at h; omega⟩ else none
  | _ => none
theorem rdB_some {l : List UInt8} {b : Bt} : rdB l = some b ↔ b.ok = true ∧ l = botT b := by
  constructor
  · intro h
    unfold rdB at h
    split at h
    · rename_i a c hs
      split at h
      · rename_i hr
        obtain rfl := (Option.some.inj h).symm
        simp only [rdR, Bool.and_eq_true, decide_eq_true_iff] at hr
        refine ⟨by simp only [Bt.ok, decide_eq_true_iff]; omega, ?_⟩
        have := intc_spl 58 l
        rw [hs] at this
        show l = decDigits ((valD a : Int)).toNat ++ 58 :: decDigits ((valD c : Int)).toNat
        rw [Int.toNat_natCast, Int.toNat_natCast, canon_back hr.1.1, canon_back hr.2.1, ← this]
        rfl
      · cases h
    · cases h
  · rintro ⟨hb, rfl⟩
    simp only [Bt.ok, decide_eq_true_iff] at hb
    have hs : spl 58 (botT b) = [decDigits b.k.toNat, decDigits b.y.toNat] := by
      unfold botT
      rw [spl_app _ (dec_not _ (by decide)), spl_one (dec_not _ (by decide))]
    unfold rdB
    rw [hs]
    have h1 : rdR 1 20 (decDigits b.k.toNat) = true := by
      simp only [rdR, Bool.and_eq_true, decide_eq_true_iff, dec_val]
      exact ⟨dec_canon _, by omega, by omega⟩
    have h2 : rdR 1900 2099 (decDigits b.y.toNat) = true := by
      simp only [rdR, Bool.and_eq_true, decide_eq_true_iff, dec_val]
      exact ⟨dec_canon _, by omega, by omega⟩
    simp only [h1, h2, Bool.and_self, dif_pos]
    congr 1
    apply Bt.ext2
    · show ((valD (decDigits b.k.toNat) : Nat) : Int) = b.k
      rw [dec_val]
      omega
    · show ((valD (decDigits b.y.toNat) : Nat) : Int) = b.y
      rw [dec_val]
      omega
theorem botT_inj {a b : Bt} (ha : a.ok = true) (hb : b.ok = true) (h : botT a = botT b) : a = b := by
  have h1 := rdB_some.2 ⟨ha, rfl⟩
  have h2 := rdB_some.2 ⟨hb, h⟩
  rw [h1] at h2
  exact Option.some.inj h2
end Go.Proofs.YtbngpcghognojaaDoor
