/- What is taken out of crates that fill an order: its bottles. -/
import Derived.Test.YtnhpgahapjjjbaaOut
namespace Go.Proofs.Ytnhpgahapjjjbaa
open Go.RowKit
set_option linter.unusedVariables false
set_option linter.unusedSimpArgs false
set_option maxRecDepth 100000
theorem tkP_take (b : Bt) (k : Nat) (s : List Cr × List Bt × Int) (hk : k < s.1.length) (hn : 0 ≤ s.2.2) : ∀ p, p ≤ 12 → (tkP b k p s).2.1 = s.2.1 ++ List.replicate (min s.2.2.toNat (cntK s.1[k]! b p)) b ∧ (tkP b k p s).2.2 = s.2.2 - (min s.2.2.toNat (cntK s.1[k]! b p) : Nat)
  | 0, _ => by simp [tkP, cntK]
  | p + 1, hp => by
    obtain ⟨ih1, ih2⟩ := tkP_take b k s hk hn p (by omega)
    have hc := tkP_copy b k s hk p p (Nat.le_refl _)
    rw [tkP, tkStep]
    generalize tkP b k p s = s' at ih1 ih2 hc ⊢
    obtain ⟨L', T', n'⟩ := s'
    simp only at ih1 ih2 hc ⊢
    rw [hc]
    cases e : (rB (s.1[k]!).toList p).like b with
    | false =>
      rw [if_neg (by simp), cntK_no (by omega) e]
      exact ⟨ih1, ih2⟩
    | true =>
      rw [cntK_yes (by omega) e]
      by_cases hpos : 0 < n'
      · rw [if_pos (by simp [hpos])]
        have e1 : min s.2.2.toNat (cntK s.1[k]! b p + 1) = min s.2.2.toNat (cntK s.1[k]! b p) + 1 := by omega
        rw [e1]
        refine ⟨?_, ?_⟩
        · show T' ++ [b] = _
          rw [ih1, List.append_assoc, List.replicate_succ']
        · show n' - 1 = _
          omega
      · rw [if_neg (by simp [hpos])]
        have e1 : min s.2.2.toNat (cntK s.1[k]! b p + 1) = min s.2.2.toNat (cntK s.1[k]! b p) := by omega
        rw [e1]
        exact ⟨ih1, ih2⟩
theorem tkP_other (b : Bt) (k j : Nat) (s : List Cr × List Bt × Int) (hj : j < s.1.length) (h : j ≠ k) : ∀ p, (tkP b k p s).1[j]! = s.1[j]!
  | 0 => rfl
  | p + 1 => by
    have hl := (tkP_stay b k p s).len
    rw [← tkP_other b k j s hj h p, tkP, tkStep]
    split
    · show (putL (tkP b k p s).1 k p zB)[j]! = _
      rw [putL, getB (by rw [List.length_set]; omega), getB (show j < (tkP b k p s).1.length by omega), List.getElem_set_ne (Ne.symm h)]
    · rfl
theorem cntC_all (c : Cr) (b : Bt) : cntC c b = c.toList.countP fun x => x.like b := by
  unfold cntC cntK
  rw [List.take_of_length_le (by rw [Vector.length_toList]; omega)]
theorem cntC_put {c : Cr} {p : Nat} {b b' : Bt} (hp : p < 12) (hb : rB c.toList p = b) (h1 : b ≠ b') (h2 : zB ≠ b') : cntC (setC c p zB) b' = cntC c b' := by
  have hl : p < c.toList.length := by rw [Vector.length_toList]; exact hp
  rw [cntC_all, cntC_all, setC_toList, List.countP_set hl]
  have e1 : (c.toList[p]).like b' = false := by
    rw [← rB_lt hl, hb, ← Bool.not_eq_true, Bt.like_iff]
    exact h1
  have e2 : zB.like b' = false := by
    rw [← Bool.not_eq_true, Bt.like_iff]
    exact h2
  simp only [e1, e2, Bool.false_eq_true, if_false, Nat.sub_zero, Nat.add_zero]
theorem tkP_cnt (b b' : Bt) (k j : Nat) (s : List Cr × List Bt × Int) (hj : j < s.1.length) (h1 : b ≠ b') (h2 : zB ≠ b') : ∀ p, p ≤ 12 → cntC ((tkP b k p s).1[j]!) b' = cntC s.1[j]! b'
  | 0, _ => rfl
  | p + 1, hp => by
    have hl := (tkP_stay b k p s).len
    rw [← tkP_cnt b b' k j s hj h1 h2 p (by omega), tkP, tkStep]
    split
    · rename_i h
      simp only [Bool.and_eq_true] at h
      have hb := Bt.like_iff.1 h.2
      show cntC ((putL (tkP b k p s).1 k p zB)[j]!) b' = _
      by_cases hjk : j = k
      · subst hjk
        rw [putL, getB (by rw [List.length_set]; omega), List.getElem_set_self, cntC_put (by omega) hb h1 h2]
      · rw [putL, getB (by rw [List.length_set]; omega), List.getElem_set_ne (Ne.symm hjk), getB (show j < (tkP b k p s).1.length by omega)]
    · rfl
theorem tkK_cnt (b b' : Bt) (ks : List Int) (j : Nat) (s : List Cr × List Bt × Int) (hj : j < s.1.length) (h1 : b ≠ b') (h2 : zB ≠ b') : ∀ q, cntC ((tkK b ks q s).1[j]!) b' = cntC s.1[j]! b'
  | 0 => rfl
  | q + 1 => by
    rw [tkK, tkP_cnt b b' _ j _ (by rw [(tkK_stay b ks q s).len]; exact hj) h1 h2 12 (Nat.le_refl _), tkK_cnt b b' ks j s hj h1 h2 q]
/-- The bottles b in some crates. -/
def sumC (L : List Cr) (b : Bt) (ks : List Int) : Nat := (ks.map fun y => cntC L[y.toNat]! b).sum
theorem getD_mem {ks : List Int} {j : Nat} (h : j < ks.length) : ks.getD j 0 ∈ ks := by
  rw [List.getD_eq_getElem?_getD, List.getElem?_eq_getElem h]
  exact List.getElem_mem h
theorem getD_inj {ks : List Int} (hd : ks.Nodup) {i j : Nat} (hi : i < ks.length) (hj : j < ks.length) (h : ks.getD i 0 = ks.getD j 0) : i = j := by
  rw [List.getD_eq_getElem?_getD, List.getElem?_eq_getElem hi, List.getD_eq_getElem?_getD, List.getElem?_eq_getElem hj] at h
  exact (List.getElem_inj hd).1 h
theorem tkK_take (b : Bt) (ks : List Int) (s : List Cr × List Bt × Int) (hg : Good s.1.length ks) (hn : 0 ≤ s.2.2) : ∀ q, q ≤ ks.length → (tkK b ks q s).2.1 = s.2.1 ++ List.replicate (min s.2.2.toNat (sumC s.1 b (ks.take q))) b ∧ (tkK b ks q s).2.2 = s.2.2 - (min s.2.2.toNat (sumC s.1 b (ks.take q)) : Nat) ∧ ∀ i, q ≤ i → i < ks.length → (tkK b ks q s).1[(ks.getD i 0).toNat]! = s.1[(ks.getD i 0).toNat]!
  | 0, _ => ⟨by simp [tkK, sumC], by simp [tkK, sumC], fun i _ _ => rfl⟩
  | q + 1, hq => by
    obtain ⟨ih1, ih2, ih3⟩ := tkK_take b ks s hg hn q (by omega)
    have hst := tkK_stay b ks q s
    have hin := hg.inn _ (getD_mem (show q < ks.length by omega))
    have hkq : (ks.getD q 0).toNat < (tkK b ks q s).1.length := by rw [hst.len]; omega
    obtain ⟨t1, t2⟩ := tkP_take b (ks.getD q 0).toNat (tkK b ks q s) hkq (hst.pos hn) 12 (Nat.le_refl _)
    rw [ih3 q (Nat.le_refl _) (by omega)] at t1 t2
    have hsum : sumC s.1 b (ks.take (q + 1)) = sumC s.1 b (ks.take q) + cntK s.1[(ks.getD q 0).toNat]! b 12 := by
      have e : ks[q] = ks.getD q 0 := by rw [List.getD_eq_getElem?_getD, List.getElem?_eq_getElem (by omega)]; rfl
      unfold sumC
      rw [List.take_succ_eq_append_getElem (by omega), List.map_append, List.sum_append, e]
      simp [cntC]
    rw [tkK, hsum]
    generalize cntK s.1[(ks.getD q 0).toNat]! b 12 = m at t1 t2 ⊢
    generalize sumC s.1 b (ks.take q) = m0 at ih1 ih2 ⊢
    have hmin : min s.2.2.toNat (m0 + m) = min s.2.2.toNat m0 + min (tkK b ks q s).2.2.toNat m := by rw [ih2]; omega
    refine ⟨?_, ?_, fun i hi hil => ?_⟩
    · rw [t1, ih1, List.append_assoc, List.replicate_append_replicate, hmin]
    · rw [t2, hmin, ih2]
      omega
    · have hini := hg.inn _ (getD_mem hil)
      rw [tkP_other b _ _ _ (by rw [hst.len]; omega) (fun e => ?_) 12, ih3 i (by omega) hil]
      have := getD_inj hg.nd hil (show q < ks.length by omega) (by omega)
      omega
theorem cmp_keys {a b : Bt} (h : a.cmp b < 0) : a.k < b.k ∨ (a.k = b.k ∧ a.y < b.y) := by
  unfold Bt.cmp at h
  split at h
  · exact .inl ‹_›
  · split at h
    · omega
    · split at h
      · exact .inr ⟨by omega, ‹_›⟩
      · split at h <;> omega
theorem okK_asc {l : List Wt} (h : okK l l.length) : ∀ i, i < l.length → ∀ j, j < i → (l[j]!.b.k < l[i]!.b.k ∨ (l[j]!.b.k = l[i]!.b.k ∧ l[j]!.b.y < l[i]!.b.y))
  | 0, _, j, hj => absurd hj (Nat.not_lt_zero _)
  | i + 1, hi, j, hj => by
    have h1 := cmp_keys ((h (i + 1) hi).2 (Nat.succ_pos _))
    rw [Nat.add_sub_cancel] at h1
    rcases Nat.lt_or_ge j i with q | q
    · have := okK_asc h i (by omega) j q
      omega
    · obtain rfl : j = i := by omega
      exact h1
theorem okK_ne {l : List Wt} (h : okK l l.length) {i j : Nat} (hi : i < l.length) (hj : j < i) : l[j]!.b ≠ l[i]!.b := fun e => by
  have := okK_asc h i hi j hj
  rw [e] at this
  omega
theorem okK_z {l : List Wt} (h : okK l l.length) {i : Nat} (hi : i < l.length) : zB ≠ l[i]!.b := fun e => by
  have := (h i hi).1
  rw [Wt.ok, ← e] at this
  simp [Bt.ok, zB] at this
/-- What is taken out of crates that fill an order. -/
theorem tkW_bots {lc : List Cr} {l : List Wt} {ks : List Int} (hok : okK l l.length) (hg : Good lc.length ks) (hf : ∀ i, i < l.length → l[i]!.n ≤ (sumC lc l[i]!.b ks : Int)) : ∀ i, i ≤ l.length → (tkW lc l ks i).2 = botsL (l.take i) ∧ ∀ i', i ≤ i' → i' < l.length → ∀ k, k < lc.length → cntC ((tkW lc l ks i).1[k]!) l[i']!.b = cntC lc[k]! l[i']!.b
  | 0, _ => ⟨by simp [tkW, botsL], fun _ _ _ _ _ => rfl⟩
  | i + 1, hi => by
    obtain ⟨ih1, ih2⟩ := tkW_bots hok hg hf i (by omega)
    have hlen := tkW_len lc l ks i
    have hn : 0 ≤ l[i]!.n := by
      have := (hok i (by omega)).1
      simp only [Wt.ok, Bool.and_eq_true, decide_eq_true_iff] at this
      omega
    have hT := tkK_take l[i]!.b ks ((tkW lc l ks i).1, (tkW lc l ks i).2, l[i]!.n) (by rw [hlen]; exact hg) hn ks.length (Nat.le_refl _)
    have hs : sumC (tkW lc l ks i).1 l[i]!.b ks = sumC lc l[i]!.b ks := by
      unfold sumC
      congr 1
      refine List.map_congr_left fun y hy => ?_
      have := hg.inn y hy
      exact ih2 i (Nat.le_refl _) (by omega) y.toNat (by omega)
    rw [List.take_length] at hT
    simp only at hT
    rw [hs] at hT
    have hfi := hf i (by omega)
    rw [tkW]
    refine ⟨?_, fun i' hi' hil' k hk => ?_⟩
    · show (tkK l[i]!.b ks ks.length ((tkW lc l ks i).1, (tkW lc l ks i).2, l[i]!.n)).2.1 = _
      rw [hT.1, ih1, botsL_step (by omega), show min l[i]!.n.toNat (sumC lc l[i]!.b ks) = l[i]!.n.toNat by omega]
    · show cntC ((tkK l[i]!.b ks ks.length ((tkW lc l ks i).1, (tkW lc l ks i).2, l[i]!.n)).1[k]!) l[i']!.b = _
      rw [tkK_cnt _ _ ks k _ (by rw [hlen]; exact hk) (okK_ne hok hil' (by omega)) (okK_z hok hil')]
      exact ih2 i' (by omega) hil' k hk
theorem outL_bots {lc : List Cr} {l : List Wt} {ks : List Int} (hok : ordOk l = true) (hg : Good lc.length ks) (hf : leftL lc l ks = []) : (outL lc l ks).2 = botsL l := by
  have hk : okK l l.length := by simp [ordOk] at hok; exact hok.1
  have := (tkW_bots hk hg (fun i hi => ?_) l.length (Nat.le_refl _)).1
  · rw [List.take_length] at this
    exact this
  · unfold leftL lackL at hf
    rw [List.flatMap_eq_nil_iff] at hf
    have h1 := hf l[i]! (by rw [getB hi]; exact List.getElem_mem hi)
    have e : cntL (opL lc ks) l[i]!.b = sumC lc l[i]!.b ks := by
      rw [opL_nodup lc hg.nd]
      unfold cntL sumC
      rw [List.map_map]
      rfl
    rw [e] at h1
    apply Classical.byContradiction
    intro hlt
    rw [lack1_yes (by omega)] at h1
    cases h1
end Go.Proofs.Ytnhpgahapjjjbaa
