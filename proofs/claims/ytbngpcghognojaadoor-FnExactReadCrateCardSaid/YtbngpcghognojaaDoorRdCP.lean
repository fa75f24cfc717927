/- What the program's reading of a crate computes: told by the fields of the text. -/
import Derived.Test.YtbngpcghognojaaDoorCrTP
import Derived.Test.YtbngpcghognojaaDoorFldP
namespace Go.Proofs.YtbngpcghognojaaDoor
open Go Go.Lib
set_option linter.unusedVariables false
set_option linter.unusedSimpArgs false
set_option maxRecDepth 100000
/-- What a crate's text reads as. -/
def rcR (l : List UInt8) : Cr × Int := match rdC l with
  | some c => (c, 0)
  | none => (zC, 5)
theorem w_sp {c : UInt8} (h : isW c = true) : c.toNat < 128 ∧ isSp c = false ∧ isSL c.toNat = false := by
  simp only [isW, Bool.or_eq_true, isD_iff, beq_iff_eq] at h
  have e : ∀ n : Nat, n < 256 → c = UInt8.ofNat n → c.toNat = n := fun n hn e => by rw [e]; exact u8_ofNat hn
  have h' : 33 ≤ c.toNat ∧ c.toNat < 128 := by
    rcases h with h | h | h
    · omega
    · subst h; decide
    · subst h; decide
  refine ⟨h'.2, ?_, ?_⟩
  · cases hs : isSp c with
    | false => rfl
    | true =>
      simp only [isSp, Bool.or_eq_true, beq_iff_eq] at hs
      rcases hs with ((((hs | hs) | hs) | hs) | hs) | hs <;> (subst hs; exact absurd h'.1 (by decide))
  · simp [isSL]
    omega
theorem endT_sp (i : Nat) : isSp (endT i) = true ∧ (endT i).toNat < 128 ∧ isSL (endT i).toNat = true := by
  unfold endT
  split <;> decide
theorem crT_fields (c : Cr) : (goFieldsP isSL ⟨(crT c).toArray⟩).map (·.data.toList) = (List.range 12).map fun i => wordT (rB c.toList i) := by
  rw [goFields_sl]
  · unfold fields crT crK
    exact fields_words (fun i => wordT (rB c.toList i)) endT _ fun i _ => ⟨wordT_ne _, fun d hd => (w_sp (wordT_w _ d hd)).2.1, (endT_sp i).1⟩
  · intro d hd
    unfold crT crK at hd
    obtain ⟨i, _, hd⟩ := List.mem_flatMap.1 hd
    rcases List.mem_append.1 hd with q | q
    · have := w_sp (wordT_w _ d q)
      exact ⟨this.1, by rw [this.2.1, this.2.2]⟩
    · obtain rfl := List.mem_singleton.1 q
      have := endT_sp i
      exact ⟨this.2.1, by rw [this.1, this.2.2]⟩
/-- A word's bottle. -/
def wsB (ws : List (List UInt8)) (i : Nat) : Bt := (rdWord (ws.getD i [])).getD zB
section
variable {l : List UInt8} {ws : List (List UInt8)} (h : (goFieldsP isSL ⟨l.toArray⟩).map (·.data.toList) = ws)
include h
theorem rc_back {c : Cr} (hc : rdC l = some c) : ws.length = 12 ∧ ∀ i, i < 12 → rdWord (ws.getD i []) = some (rB c.toList i) := by
  obtain ⟨h1, h2⟩ := rdC_some.1 hc
  rw [h2, crT_fields] at h
  subst h
  refine ⟨by simp, fun i hi => ?_⟩
  rw [List.getD_eq_getElem?_getD, List.getElem?_map, List.getElem?_range hi]
  exact rdWord_some.2 ⟨ok_at.1 h1 i hi, rfl⟩
theorem rc_len (hl : ws.length ≠ 12) : rcR l = (zC, 5) := by
  unfold rcR
  cases hc : rdC l with
  | none => rfl
  | some c => exact absurd (rc_back h hc).1 hl
theorem rc_bad {i : Nat} (hi : i < 12) (hb : rdWord (ws.getD i []) = none) : rcR l = (zC, 5) := by
  unfold rcR
  cases hc : rdC l with
  | none => rfl
  | some c =>
    have := (rc_back h hc).2 i hi
    rw [hb] at this
    cases this
omit h in
theorem rc_fine (ha : ∀ i, i < 12 → (rdWord (ws.getD i [])).isSome = true) : (crOf (wsB ws)).ok = true := by
  refine ok_at.2 fun i hi => ?_
  rw [crOf_at _ hi]
  obtain ⟨b, hb⟩ := Option.isSome_iff_exists.1 (ha i hi)
  unfold wsB
  rw [hb]
  exact (rdWord_some.1 hb).1
omit h in
theorem rc_same (ha : ∀ i, i < 12 → (rdWord (ws.getD i [])).isSome = true) (he : crT (crOf (wsB ws)) = l) : rcR l = (crOf (wsB ws), 0) := by
  unfold rcR
  rw [rdC_some.2 ⟨rc_fine ha, he.symm⟩]
theorem rc_other (hne : crT (crOf (wsB ws)) ≠ l) : rcR l = (zC, 5) := by
  unfold rcR
  cases hc : rdC l with
  | none => rfl
  | some c =>
    refine absurd ?_ hne
    have h2 := rc_back h hc
    have : crOf (wsB ws) = c := cr_ext fun i hi => by
      rw [crOf_at _ hi]
      unfold wsB
      rw [h2.2 i hi]
      rfl
    rw [this]
    exact (rdC_some.1 hc).2.symm
end
/-- The crate that has been read up to word k. -/
def rcK (ws : List (List UInt8)) (k : Nat) : Cr := crOf fun i => if i < k then wsB ws i else zB
theorem rB_zC : ∀ i, i < 12 → rB zC.toList i = zB := by decide
theorem rcK_zero (ws : List (List UInt8)) : rcK ws 0 = zC := cr_ext fun i hi => by
  unfold rcK
  rw [crOf_at _ hi, if_neg (by omega), rB_zC i hi]
theorem rcK_full (ws : List (List UInt8)) : rcK ws 12 = crOf (wsB ws) := cr_ext fun i hi => by
  unfold rcK
  rw [crOf_at _ hi, crOf_at _ hi, if_pos hi]
theorem crOf_list (f : Nat → Bt) : (crOf f).toList = (List.range 12).map f := by simp [crOf]
theorem rcK_set (ws : List (List UInt8)) {k : Nat} (hk : k < 12) : (rcK ws k).toList.set k (wsB ws k) = (rcK ws (k + 1)).toList := by
  unfold rcK
  rw [crOf_list, crOf_list]
  apply List.ext_getElem (by simp)
  intro i hi hi'
  rw [List.getElem_set]
  simp only [List.getElem_map, List.getElem_range]
  by_cases e : k = i
  · subst e
    rw [if_pos rfl, if_pos (by omega)]
  · rw [if_neg e]
    by_cases h2 : i < k
    · rw [if_pos h2, if_pos (by omega)]
    · rw [if_neg h2, if_neg (by omega)]
theorem rcK_keep (ws : List (List UInt8)) {k : Nat} (hk : k < 12) (hz : wsB ws k = zB) : rcK ws k = rcK ws (k + 1) := cr_ext fun i hi => by
  unfold rcK
  rw [crOf_at _ hi, crOf_at _ hi]
  by_cases h2 : i < k
  · rw [if_pos h2, if_pos (by omega)]
  · rw [if_neg h2]
    by_cases e : i = k
    · subst e
      rw [if_pos (by omega), hz]
    · rw [if_neg (by omega)]
theorem field_size {p : Nat → Bool} {s x : ByteArray} (h : x ∈ goFieldsP p s) : x.size ≤ s.size := by
  unfold goFieldsP at h
  obtain ⟨q, _, rfl⟩ := List.mem_map.1 h
  rw [ByteArray.size_extract]
  omega
end Go.Proofs.YtbngpcghognojaaDoor
