/- Crates and orders in texts: what is written, and what is read. -/
import Derived.Test.YtbngpcghognojaaDoorTextP
import Derived.Test.YtbngpcghognojaaDoorPut
import Derived.Test.YtbngpcghognojaaDoorKinds
namespace Go.Proofs.YtbngpcghognojaaDoor
open Go Go.Lib
set_option linter.unusedVariables false
set_option linter.unusedSimpArgs false
set_option maxRecDepth 100000
/-! ### What is written -/
def wordT (b : Bt) : List UInt8 := if b.em = true then [45] else botT b
def endT (i : Nat) : UInt8 := if i % 4 = 3 then 10 else 32
/-- The first places of a crate. -/
def crK (c : Cr) (k : Nat) : List UInt8 := (List.range k).flatMap fun i => wordT (rB c.toList i) ++ [endT i]
def crT (c : Cr) : List UInt8 := crK c 12
theorem crK_succ (c : Cr) (k : Nat) : crK c (k + 1) = crK c k ++ (wordT (rB c.toList k) ++ [endT k]) := by
  unfold crK
  rw [List.range_succ, List.flatMap_append]
  simp
def isW (c : UInt8) : Bool := isD c || (c == 58 || c == 45)
theorem botT_w (b : Bt) : ∀ c ∈ botT b, isW c = true := by
  intro c hc
  unfold botT at hc
  rcases List.mem_append.1 hc with q | q
  · simp [isW, (dec_all _).1.2 c q]
  · rcases List.mem_cons.1 q with rfl | q
    · rfl
    · simp [isW, (dec_all _).1.2 c q]
theorem wordT_w (b : Bt) : ∀ c ∈ wordT b, isW c = true := by
  intro c hc
  unfold wordT at hc
  split at hc
  · obtain rfl := List.mem_singleton.1 hc
    rfl
  · exact botT_w b c hc
theorem botT_ne (b : Bt) : botT b ≠ [] := by simp [botT]
theorem wordT_ne (b : Bt) : wordT b ≠ [] := by
  unfold wordT
  split
  · simp
  · exact botT_ne b
theorem botT_dash (b : Bt) : botT b ≠ [45] := fun h => by
  have : (58 : UInt8) ∈ botT b := by simp [botT]
  rw [h] at this
  simp at this
theorem isW_not {c : UInt8} (l : List UInt8) (h : ∀ d ∈ l, isW d = true) (hc : isW c = false) : c ∉ l := fun hm => by
  rw [h c hm] at hc
  cases hc
/-! ### A word, read -/
def rdWord (w : List UInt8) : Option Bt := if w = [45] then some zB else rdB w
theorem rdWord_some {w : List UInt8} {b : Bt} : rdWord w = some b ↔ b.fine = true ∧ w = wordT b := by
  unfold rdWord wordT
  constructor
  · intro h
    split at h
    · rename_i hw
      obtain rfl := (Option.some.inj h).symm
      exact ⟨by decide, by rw [if_pos (by decide)]; exact hw⟩
    · obtain ⟨h1, h2⟩ := rdB_some.1 h
      have hem : ¬ b.em = true := fun e => by
        rw [Bt.em_iff] at e
        subst e
        simp [Bt.ok, zB] at h1
      exact ⟨by simp [Bt.fine, h1], by rw [if_neg hem]; exact h2⟩
  · rintro ⟨h1, h2⟩
    by_cases he : b.em = true
    · rw [if_pos he] at h2
      rw [if_pos h2]
      rw [Bt.em_iff] at he
      rw [he]
    · rw [if_neg he] at h2
      rw [if_neg (by rw [h2]; exact botT_dash b), rdB_some]
      refine ⟨?_, h2⟩
      unfold Bt.fine at h1
      rw [Bool.or_eq_true] at h1
      exact h1.resolve_left he
/-! ### A crate, read line by line -/
def crOf (f : Nat → Bt) : Cr := ⟨((List.range 12).map f).toArray, by simp⟩
theorem crOf_at (f : Nat → Bt) {i : Nat} (h : i < 12) : rB (crOf f).toList i = f i := by
  have hl : i < (crOf f).toList.length := by rw [Vector.length_toList]; exact h
  rw [rB_lt hl]
  simp [crOf]
theorem cr_ext {a b : Cr} (h : ∀ i, i < 12 → rB a.toList i = rB b.toList i) : a = b := by
  apply Vector.toArray_inj.1
  apply Array.toList_inj.1
  apply List.ext_getElem (by simp)
  intro i hi hi'
  have := h i (by simpa using hi)
  rw [rB_lt (by simpa using hi), rB_lt (by simpa using hi')] at this
  exact this
theorem ok_at {c : Cr} : c.ok = true ↔ ∀ i, i < 12 → (rB c.toList i).fine = true := by
  unfold Cr.ok
  rw [List.all_eq_true]
  constructor
  · intro h i hi
    have hl : i < c.toList.length := by rw [Vector.length_toList]; exact hi
    rw [rB_lt hl]
    exact h _ (List.getElem_mem hl)
  · intro h b hb
    obtain ⟨i, hi, rfl⟩ := List.getElem_of_mem hb
    have := h i (by rw [Vector.length_toList] at hi; exact hi)
    rwa [rB_lt hi] at this
/-- Word number i of the lines. -/
def wdAt (l : List UInt8) (i : Nat) : List UInt8 := (spl 32 ((spl 10 l).getD (i / 4) [])).getD (i % 4) []
def lnOk (l : List UInt8) (y : Nat) : Bool := decide ((spl 32 ((spl 10 l).getD y [])).length = 4)
def wdOk (l : List UInt8) (i : Nat) : Bool := (rdWord (wdAt l i)).isSome
def wdB (l : List UInt8) (i : Nat) : Bt := (rdWord (wdAt l i)).getD zB
/-- All that has to be as it should. -/
def crGood (l : List UInt8) : Bool := decide ((spl 10 l).length = 4) && (decide ((spl 10 l).getD 3 [] = []) && ((List.range 3).all (lnOk l) && (List.range 12).all (wdOk l)))
def rdC (l : List UInt8) : Option Cr := if crGood l = true then some (crOf (wdB l)) else none
/-- The lines of a crate. -/
def lnT (c : Cr) (y : Nat) : List (List UInt8) := (List.range 4).map fun x => wordT (rB c.toList (4 * y + x))
theorem crT_lines (c : Cr) : crT c = intc 10 [intc 32 (lnT c 0), intc 32 (lnT c 1), intc 32 (lnT c 2), []] := by
  simp [crT, crK, lnT, List.range, List.range.loop, intc, endT]
theorem lnT_ne (c : Cr) (y : Nat) : lnT c y ≠ [] := by simp [lnT]
theorem lnT_w (c : Cr) (y : Nat) : ∀ p ∈ lnT c y, ∀ d ∈ p, isW d = true := by
  intro p hp
  unfold lnT at hp
  obtain ⟨x, _, rfl⟩ := List.mem_map.1 hp
  exact wordT_w _
theorem intc_mem {s : UInt8} : ∀ {ps : List (List UInt8)} {c : UInt8}, c ∈ intc s ps → c = s ∨ ∃ p ∈ ps, c ∈ p
  | [], c, h => by simp [intc] at h
  | [p], c, h => .inr ⟨p, by simp, h⟩
  | p :: q :: ps, c, h => by
    have h' : c ∈ p ++ s :: intc s (q :: ps) := h
    rcases List.mem_append.1 h' with h | h
    · exact .inr ⟨p, by simp, h⟩
    · rcases List.mem_cons.1 h with h | h
      · exact .inl h
      · rcases intc_mem h with h | ⟨r, hr, h⟩
        · exact .inl h
        · exact .inr ⟨r, List.mem_cons_of_mem _ hr, h⟩
theorem spl_crT (c : Cr) : spl 10 (crT c) = [intc 32 (lnT c 0), intc 32 (lnT c 1), intc 32 (lnT c 2), []] := by
  rw [crT_lines]
  refine spl_of (by simp) fun p hp => ?_
  have key : ∀ y, (10 : UInt8) ∉ intc 32 (lnT c y) := fun y hm => by
    rcases intc_mem hm with h | ⟨q, hq, h⟩
    · cases h
    · exact isW_not q (lnT_w c y q hq) (by decide) h
  simp only [List.mem_cons, List.not_mem_nil, or_false] at hp
  rcases hp with rfl | rfl | rfl | rfl
  · exact key 0
  · exact key 1
  · exact key 2
  · simp
theorem spl_lnT (c : Cr) (y : Nat) : spl 32 (intc 32 (lnT c y)) = lnT c y := spl_of (lnT_ne c y) fun p hp => isW_not p (lnT_w c y p hp) (by decide)
theorem lines_at (c : Cr) {y : Nat} (h : y < 3) : (spl 10 (crT c)).getD y [] = intc 32 (lnT c y) := by
  rw [spl_crT]
  match y, h with
  | 0, _ => rfl
  | 1, _ => rfl
  | 2, _ => rfl
theorem wdAt_crT (c : Cr) {i : Nat} (h : i < 12) : wdAt (crT c) i = wordT (rB c.toList i) := by
  unfold wdAt
  rw [lines_at c (show i / 4 < 3 by omega), spl_lnT]
  unfold lnT
  rw [List.getD_eq_getElem?_getD, List.getElem?_map, List.getElem?_range (by omega)]
  show wordT (rB c.toList (4 * (i / 4) + i % 4)) = _
  rw [show 4 * (i / 4) + i % 4 = i by omega]
theorem rdC_some {l : List UInt8} {c : Cr} : rdC l = some c ↔ c.ok = true ∧ l = crT c := by
  unfold rdC
  constructor
  · intro h
    split at h
    · rename_i hg
      obtain rfl := (Option.some.inj h).symm
      simp only [crGood, Bool.and_eq_true, decide_eq_true_iff, List.all_eq_true, List.mem_range] at hg
      obtain ⟨h1, h2, h3, h4⟩ := hg
      have hw : ∀ i, i < 12 → (wdB l i).fine = true ∧ wdAt l i = wordT (wdB l i) := fun i hi => by
        obtain ⟨b, hb⟩ := Option.isSome_iff_exists.1 (h4 i hi)
        have : wdB l i = b := by unfold wdB; rw [hb]; rfl
        rw [this]
        exact rdWord_some.1 hb
      refine ⟨ok_at.2 fun i hi => by rw [crOf_at _ hi]; exact (hw i hi).1, ?_⟩
      have hln : ∀ y, y < 3 → (spl 10 l).getD y [] = intc 32 (lnT (crOf (wdB l)) y) := fun y hy => by
        have e1 := intc_spl 32 ((spl 10 l).getD y [])
        rw [← e1]
        congr 1
        have hl := h3 y hy
        unfold lnOk at hl
        rw [decide_eq_true_iff] at hl
        apply List.ext_getElem
        · rw [hl]; simp [lnT]
        · intro x hx hx'
          have hx4 : x < 4 := by rw [hl] at hx; exact hx
          have := (hw (4 * y + x) (by omega)).2
          unfold wdAt at this
          rw [show (4 * y + x) / 4 = y by omega, show (4 * y + x) % 4 = x by omega, List.getD_eq_getElem?_getD, List.getElem?_eq_getElem hx] at this
          simp only [Option.getD_some] at this
          rw [this]
          simp only [lnT, List.getElem_map, List.getElem_range]
          rw [crOf_at _ (by omega)]
      have e0 := intc_spl 10 l
      have hL : spl 10 l = [intc 32 (lnT (crOf (wdB l)) 0), intc 32 (lnT (crOf (wdB l)) 1), intc 32 (lnT (crOf (wdB l)) 2), []] := by
        have q0 := hln 0 (by decide)
        have q1 := hln 1 (by decide)
        have q2 := hln 2 (by decide)
        match hs : spl 10 l, h1 with
        | [a, b, c, d], _ =>
          rw [hs] at q0 q1 q2 h2
          simp only [List.getD_cons_zero, List.getD_cons_succ] at q0 q1 q2 h2
          rw [q0, q1, q2, h2]
      rw [crT_lines, ← hL, e0]
    · cases h
  · rintro ⟨h, rfl⟩
    have hw : ∀ i, i < 12 → rdWord (wdAt (crT c) i) = some (rB c.toList i) := fun i hi => rdWord_some.2 ⟨ok_at.1 h i hi, wdAt_crT c hi⟩
    have hg : crGood (crT c) = true := by
      simp only [crGood, Bool.and_eq_true, decide_eq_true_iff, List.all_eq_true, List.mem_range]
      refine ⟨by rw [spl_crT]; rfl, by rw [spl_crT]; rfl, fun y hy => ?_, fun i hi => ?_⟩
      · unfold lnOk
        rw [decide_eq_true_iff, lines_at c hy, spl_lnT]
        simp [lnT]
      · unfold wdOk
        rw [hw i hi]
        rfl
    rw [if_pos hg]
    congr 1
    refine cr_ext fun i hi => ?_
    rw [crOf_at _ hi]
    unfold wdB
    rw [hw i hi]
    rfl
/-! ### An order, written -/
def wantT (x : Wt) : List UInt8 := botT x.b ++ 120 :: decDigits x.n.toNat
def ordT (l : List Wt) : List UInt8 := intc 32 (l.map wantT)
end Go.Proofs.YtbngpcghognojaaDoor
