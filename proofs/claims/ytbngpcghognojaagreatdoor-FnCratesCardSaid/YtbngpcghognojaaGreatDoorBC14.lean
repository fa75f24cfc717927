/- Texts of the claim, joined (14 of 19): Out, OutL, Compact, CP, Text, TextB. -/
import Derived.Shelf.Strconv.Itoa4
import Derived.Laws.IdiomStrings
import Derived.Test.YtbngpcghognojaaGreatDoorBC1
import Derived.Test.YtbngpcghognojaaGreatDoorBC3
import Derived.Test.YtbngpcghognojaaGreatDoorBC4
import Derived.Test.YtbngpcghognojaaGreatDoorBC6
import Derived.Test.YtbngpcghognojaaGreatDoorBC7
import Derived.Test.YtbngpcghognojaaGreatDoorBC9
import Derived.Test.YtbngpcghognojaaGreatDoorBC10
import Derived.Test.YtbngpcghognojaaGreatDoorBC12
import Derived.Test.YtbngpcghognojaaGreatDoorBC13
namespace Go.Proofs.YtbngpcghognojaaGreatDoor
open Go.RowKit
set_option linter.unusedVariables false
set_option linter.unusedSimpArgs false
set_option maxRecDepth 100000
set_option maxHeartbeats 1000000
attribute [local go_sem] Oper.qB
/-- One place of one crate. -/
def tkStep (b : Bt) (k p : Nat) (s : List Cr × List Bt × Int) : List Cr × List Bt × Int := if (decide (0 < s.2.2) && (rB (s.1[k]!).toList p).like b) = true then (putL s.1 k p zB, s.2.1 ++ [b], s.2.2 - 1) else s
def tkP (b : Bt) (k : Nat) : Nat → List Cr × List Bt × Int → List Cr × List Bt × Int
  | 0, s => s
  | p + 1, s => tkStep b k p (tkP b k p s)
def tkK (b : Bt) (ks : List Int) : Nat → List Cr × List Bt × Int → List Cr × List Bt × Int
  | 0, s => s
  | j + 1, s => tkP b (ks.getD j 0).toNat 12 (tkK b ks j s)
def tkW (lc : List Cr) (l : List Wt) (ks : List Int) : Nat → List Cr × List Bt
  | 0 => (lc, [])
  | i + 1 => ((tkK l[i]!.b ks ks.length ((tkW lc l ks i).1, (tkW lc l ks i).2, l[i]!.n)).1, (tkK l[i]!.b ks ks.length ((tkW lc l ks i).1, (tkW lc l ks i).2, l[i]!.n)).2.1)
def outL (lc : List Cr) (l : List Wt) (ks : List Int) : List Cr × List Bt := tkW lc l ks l.length
/-- What stays as it is. -/
structure Stay (s s' : List Cr × List Bt × Int) : Prop where
  len : s'.1.length = s.1.length
  sum : (s'.2.1.length : Int) + s'.2.2 = s.2.1.length + s.2.2
  pos : 0 ≤ s.2.2 → 0 ≤ s'.2.2
  le : s'.2.2 ≤ s.2.2
theorem Stay.refl (s : List Cr × List Bt × Int) : Stay s s := ⟨rfl, rfl, id, Int.le_refl _⟩
theorem Stay.trans {a b c : List Cr × List Bt × Int} (h : Stay a b) (k : Stay b c) : Stay a c := ⟨k.len.trans h.len, k.sum.trans h.sum, fun q => k.pos (h.pos q), Int.le_trans k.le h.le⟩
theorem tkStep_stay (b : Bt) (k p : Nat) (s : List Cr × List Bt × Int) : Stay s (tkStep b k p s) := by
  unfold tkStep
  split
  · rename_i h
    simp only [Bool.and_eq_true, decide_eq_true_iff] at h
    refine ⟨putL_length _ _ _ _, ?_, fun _ => ?_, ?_⟩
    · show ((s.2.1 ++ [b]).length : Int) + (s.2.2 - 1) = _
      rw [List.length_append, List.length_singleton]
      omega
    · show 0 ≤ s.2.2 - 1
      omega
    · show s.2.2 - 1 ≤ s.2.2
      omega
  · exact Stay.refl s
theorem tkP_stay (b : Bt) (k : Nat) : ∀ (p : Nat) (s : List Cr × List Bt × Int), Stay s (tkP b k p s)
  | 0, s => Stay.refl s
  | p + 1, s => (tkP_stay b k p s).trans (tkStep_stay b k p _)
theorem tkK_stay (b : Bt) (ks : List Int) : ∀ (j : Nat) (s : List Cr × List Bt × Int), Stay s (tkK b ks j s)
  | 0, s => Stay.refl s
  | j + 1, s => (tkK_stay b ks j s).trans (tkP_stay b _ 12 _)
theorem tkW_len (lc : List Cr) (l : List Wt) (ks : List Int) : ∀ i, (tkW lc l ks i).1.length = lc.length
  | 0 => rfl
  | i + 1 => by
    rw [tkW]
    exact (tkK_stay l[i]!.b ks ks.length _).len.trans (tkW_len lc l ks i)
theorem tkW_le (lc : List Cr) (l : List Wt) (ks : List Int) (hp : ∀ x ∈ l, 0 ≤ x.n) : ∀ i, i ≤ l.length → (tkW lc l ks i).2.length ≤ 32767 * i
  | 0, _ => by simp [tkW]
  | i + 1, hi => by
    have h := tkK_stay l[i]!.b ks ks.length ((tkW lc l ks i).1, (tkW lc l ks i).2, l[i]!.n)
    have ih := tkW_le lc l ks hp i (by omega)
    have hn := l[i]!.hn
    have hp0 := h.pos (hp l[i]! (by rw [getB (by omega)]; exact List.getElem_mem (by omega)))
    have hs := h.sum
    rw [tkW]
    show (tkK l[i]!.b ks ks.length ((tkW lc l ks i).1, (tkW lc l ks i).2, l[i]!.n)).2.1.length ≤ 32767 * (i + 1)
    simp only at hs
    omega
theorem rB_set_ne {l : List Bt} {i j : Nat} (b : Bt) (h : i ≠ j) : rB (l.set i b) j = rB l j := by
  unfold rB
  rw [List.getD_eq_getElem?_getD, List.getD_eq_getElem?_getD, List.getElem?_set_ne h]
/-- A copy of the crate tells the places to come. -/
theorem tkP_copy (b : Bt) (k : Nat) (s : List Cr × List Bt × Int) (hk : k < s.1.length) : ∀ (p q : Nat), p ≤ q → rB ((tkP b k p s).1[k]!).toList q = rB (s.1[k]!).toList q
  | 0, q, _ => rfl
  | p + 1, q, h => by
    rw [← tkP_copy b k s hk p q (by omega)]
    rw [tkP, tkStep]
    split
    · have hl := (tkP_stay b k p s).len
      show rB ((putL (tkP b k p s).1 k p zB)[k]!).toList q = _
      rw [putL, getB (by rw [List.length_set]; omega), List.getElem_set_self, setC_toList, rB_set_ne _ (by omega)]
    · rfl
theorem row_put_ne {w : World} {g g' o : Nat} {vs : Array Value} (h : g' ≠ g) : rowOf (putEl w g o vs) g' = rowOf w g' := by
  unfold putEl
  split
  · exact rowOf_setRow_ne h
  · rfl
theorem putEl_but {w : World} {g o n cap : Nat} {vs : Array Value} : ButV (.slice (some ⟨g, 0, none⟩) n cap) w (putEl w g o vs) := by
  refine ⟨putEl_below (Nat.zero_le _) _ _, fun b _ hv => ?_⟩
  unfold putEl
  split
  · exact setRow_other w g b _ (fun e => hv (by subst e; rfl))
  · rfl
theorem Bt.like_self (b : Bt) : b.like b = true := Bt.like_iff.2 rfl
theorem wp_app_bt {ops : Array Oper} {rest : List Oper} {o : Oper} {a : Act} {Q : Exit → Act → World → Prop} {W : World} (B : Nat) (hgd : o.guard = none) (s x : Operand) (ho : o.op = .call { callee := .builtin .append, args := #[s, x], argTypes := #[38, 38] })
    (v : Value) (l : List Bt) (y : Bt) (hs : a.eval s = v) (g : Nat) (hx : a.eval x = .slice (some ⟨g, 0, none⟩) 1 1) (hg : g = W.heap.size)
    (HO : OwnS bc W B 26 2 v l) (hB : B ≤ W.heap.size) (hn : l.length ≤ 100000000)
    (h : ∀ v1 w1, OwnS bc w1 B 26 2 v1 (l ++ [y]) → (Below B W w1 ∧ ButV v W w1 ∧ Away v v1 W) → wpList Tryz.prog ops Q rest (a.put o.dst v1) w1) : wpList Tryz.prog ops Q (o :: rest) a (W.alloc (.cells #[.int .u8 y.k, .int .i16 y.y] 26)) :=
  wp_app3 (P := Tryz.prog) B hgd s x 38 26 ho (.agg #[.int .u8 0, .int .i16 0]) 2 4 Tryz.underlying38 infoBt rfl (by decide) v l.length (fl bc l) (bc y) hs g hx hg rfl (bc_one y) HO.1 hB (by omega) (by decide)
    (fun v1 w1 h1 h2 => h v1 w1 (OwnS.grown (by rw [List.length_append, fl_append, fl_one]; exact h1)) h2)
end Go.Proofs.YtbngpcghognojaaGreatDoor
namespace Go.Proofs.YtbngpcghognojaaGreatDoor
open Go.RowKit
set_option linter.unusedVariables false
set_option linter.unusedSimpArgs false
set_option maxRecDepth 100000
theorem tkP_take (b : Bt) (k : Nat) (s : List Cr × List Bt × Int) (hk : k < s.1.length) (hn : 0 ≤ s.2.2) : ∀ p, p ≤ 12 → (tkP b k p s).2.1 = s.2.1 ++ List.replicate (min s.2.2.toNat (cntK s.1[k]! b p)) b ∧ (tkP b k p s).2.2 = s.2.2 - (min s.2.2.toNat (cntK s.1[k]! b p) : Nat)
  | 0, _ => by simp [tkP, cntK]
  | p + 1, hp => by
    obtain ⟨ih1, ih2⟩ := tkP_take b k s hk hn p (by omega)
    have hc := tkP_copy b k s hk p p (Nat.le_refl _)
    rw [tkP, tkStep]
    generalize tkP b k p s = s' at ih1 ih2 hc ⊢
    obtain ⟨L', T', n'⟩ := s'
    simp only at ih1 ih2 hc ⊢
    rw [hc]
    cases e : (rB (s.1[k]!).toList p).like b with
    | false =>
      rw [if_neg (by simp), cntK_no (by omega) e]
      exact ⟨ih1, ih2⟩
    | true =>
      rw [cntK_yes (by omega) e]
      by_cases hpos : 0 < n'
      · rw [if_pos (by simp [hpos])]
        have e1 : min s.2.2.toNat (cntK s.1[k]! b p + 1) = min s.2.2.toNat (cntK s.1[k]! b p) + 1 := by omega
        rw [e1]
        refine ⟨?_, ?_⟩
        · show T' ++ [b] = _
          rw [ih1, List.append_assoc, List.replicate_succ']
        · show n' - 1 = _
          omega
      · rw [if_neg (by simp [hpos])]
        have e1 : min s.2.2.toNat (cntK s.1[k]! b p + 1) = min s.2.2.toNat (cntK s.1[k]! b p) := by omega
        rw [e1]
        exact ⟨ih1, ih2⟩
theorem tkP_other (b : Bt) (k j : Nat) (s : List Cr × List Bt × Int) (hj : j < s.1.length) (h : j ≠ k) : ∀ p, (tkP b k p s).1[j]! = s.1[j]!
  | 0 => rfl
  | p + 1 => by
    have hl := (tkP_stay b k p s).len
    rw [← tkP_other b k j s hj h p, tkP, tkStep]
    split
    · show (putL (tkP b k p s).1 k p zB)[j]! = _
      rw [putL, getB (by rw [List.length_set]; omega), getB (show j < (tkP b k p s).1.length by omega), List.getElem_set_ne (Ne.symm h)]
    · rfl
theorem cntC_all (c : Cr) (b : Bt) : cntC c b = c.toList.countP fun x => x.like b := by
  unfold cntC cntK
  rw [List.take_of_length_le (by rw [Vector.length_toList]; omega)]
theorem cntC_put {c : Cr} {p : Nat} {b b' : Bt} (hp : p < 12) (hb : rB c.toList p = b) (h1 : b ≠ b') (h2 : zB ≠ b') : cntC (setC c p zB) b' = cntC c b' := by
  have hl : p < c.toList.length := by rw [Vector.length_toList]; exact hp
  rw [cntC_all, cntC_all, setC_toList, List.countP_set hl]
  have e1 : (c.toList[p]).like b' = false := by
    rw [← rB_lt hl, hb, ← Bool.not_eq_true, Bt.like_iff]
    exact h1
  have e2 : zB.like b' = false := by
    rw [← Bool.not_eq_true, Bt.like_iff]
    exact h2
  simp only [e1, e2, Bool.false_eq_true, if_false, Nat.sub_zero, Nat.add_zero]
theorem tkP_cnt (b b' : Bt) (k j : Nat) (s : List Cr × List Bt × Int) (hj : j < s.1.length) (h1 : b ≠ b') (h2 : zB ≠ b') : ∀ p, p ≤ 12 → cntC ((tkP b k p s).1[j]!) b' = cntC s.1[j]! b'
  | 0, _ => rfl
  | p + 1, hp => by
    have hl := (tkP_stay b k p s).len
    rw [← tkP_cnt b b' k j s hj h1 h2 p (by omega), tkP, tkStep]
    split
    · rename_i h
      simp only [Bool.and_eq_true] at h
      have hb := Bt.like_iff.1 h.2
      show cntC ((putL (tkP b k p s).1 k p zB)[j]!) b' = _
      by_cases hjk : j = k
      · subst hjk
        rw [putL, getB (by rw [List.length_set]; omega), List.getElem_set_self, cntC_put (by omega) hb h1 h2]
      · rw [putL, getB (by rw [List.length_set]; omega), List.getElem_set_ne (Ne.symm hjk), getB (show j < (tkP b k p s).1.length by omega)]
    · rfl
theorem tkK_cnt (b b' : Bt) (ks : List Int) (j : Nat) (s : List Cr × List Bt × Int) (hj : j < s.1.length) (h1 : b ≠ b') (h2 : zB ≠ b') : ∀ q, cntC ((tkK b ks q s).1[j]!) b' = cntC s.1[j]! b'
  | 0 => rfl
  | q + 1 => by
    rw [tkK, tkP_cnt b b' _ j _ (by rw [(tkK_stay b ks q s).len]; exact hj) h1 h2 12 (Nat.le_refl _), tkK_cnt b b' ks j s hj h1 h2 q]
/-- The bottles b in some crates. -/
def sumC (L : List Cr) (b : Bt) (ks : List Int) : Nat := (ks.map fun y => cntC L[y.toNat]! b).sum
theorem getD_mem {ks : List Int} {j : Nat} (h : j < ks.length) : ks.getD j 0 ∈ ks := by
  rw [List.getD_eq_getElem?_getD, List.getElem?_eq_getElem h]
  exact List.getElem_mem h
theorem getD_inj {ks : List Int} (hd : ks.Nodup) {i j : Nat} (hi : i < ks.length) (hj : j < ks.length) (h : ks.getD i 0 = ks.getD j 0) : i = j := by
  rw [List.getD_eq_getElem?_getD, List.getElem?_eq_getElem hi, List.getD_eq_getElem?_getD, List.getElem?_eq_getElem hj] at h
  exact (List.getElem_inj hd).1 h
theorem tkK_take (b : Bt) (ks : List Int) (s : List Cr × List Bt × Int) (hg : Good s.1.length ks) (hn : 0 ≤ s.2.2) : ∀ q, q ≤ ks.length → (tkK b ks q s).2.1 = s.2.1 ++ List.replicate (min s.2.2.toNat (sumC s.1 b (ks.take q))) b ∧ (tkK b ks q s).2.2 = s.2.2 - (min s.2.2.toNat (sumC s.1 b (ks.take q)) : Nat) ∧ ∀ i, q ≤ i → i < ks.length → (tkK b ks q s).1[(ks.getD i 0).toNat]! = s.1[(ks.getD i 0).toNat]!
  | 0, _ => ⟨by simp [tkK, sumC], by simp [tkK, sumC], fun i _ _ => rfl⟩
  | q + 1, hq => by
    obtain ⟨ih1, ih2, ih3⟩ := tkK_take b ks s hg hn q (by omega)
    have hst := tkK_stay b ks q s
    have hin := hg.inn _ (getD_mem (show q < ks.length by omega))
    have hkq : (ks.getD q 0).toNat < (tkK b ks q s).1.length := by rw [hst.len]; omega
    obtain ⟨t1, t2⟩ := tkP_take b (ks.getD q 0).toNat (tkK b ks q s) hkq (hst.pos hn) 12 (Nat.le_refl _)
    rw [ih3 q (Nat.le_refl _) (by omega)] at t1 t2
    have hsum : sumC s.1 b (ks.take (q + 1)) = sumC s.1 b (ks.take q) + cntK s.1[(ks.getD q 0).toNat]! b 12 := by
      have e : ks[q] = ks.getD q 0 := by rw [List.getD_eq_getElem?_getD, List.getElem?_eq_getElem (by omega)]; rfl
      unfold sumC
      rw [List.take_succ_eq_append_getElem (by omega), List.map_append, List.sum_append, e]
      simp [cntC]
    rw [tkK, hsum]
    generalize cntK s.1[(ks.getD q 0).toNat]! b 12 = m at t1 t2 ⊢
    generalize sumC s.1 b (ks.take q) = m0 at ih1 ih2 ⊢
    have hmin : min s.2.2.toNat (m0 + m) = min s.2.2.toNat m0 + min (tkK b ks q s).2.2.toNat m := by rw [ih2]; omega
    refine ⟨?_, ?_, fun i hi hil => ?_⟩
    · rw [t1, ih1, List.append_assoc, List.replicate_append_replicate, hmin]
    · rw [t2, hmin, ih2]
      omega
    · have hini := hg.inn _ (getD_mem hil)
      rw [tkP_other b _ _ _ (by rw [hst.len]; omega) (fun e => ?_) 12, ih3 i (by omega) hil]
      have := getD_inj hg.nd hil (show q < ks.length by omega) (by omega)
      omega
theorem cmp_keys {a b : Bt} (h : a.cmp b < 0) : a.k < b.k ∨ (a.k = b.k ∧ a.y < b.y) := by
  unfold Bt.cmp at h
  split at h
  · exact .inl ‹_›
  · split at h
    · omega
    · split at h
      · exact .inr ⟨by omega, ‹_›⟩
      · split at h <;> omega
theorem okK_asc {l : List Wt} (h : okK l l.length) : ∀ i, i < l.length → ∀ j, j < i → (l[j]!.b.k < l[i]!.b.k ∨ (l[j]!.b.k = l[i]!.b.k ∧ l[j]!.b.y < l[i]!.b.y))
  | 0, _, j, hj => absurd hj (Nat.not_lt_zero _)
  | i + 1, hi, j, hj => by
    have h1 := cmp_keys ((h (i + 1) hi).2 (Nat.succ_pos _))
    rw [Nat.add_sub_cancel] at h1
    rcases Nat.lt_or_ge j i with q | q
    · have := okK_asc h i (by omega) j q
      omega
    · obtain rfl : j = i := by omega
      exact h1
theorem okK_ne {l : List Wt} (h : okK l l.length) {i j : Nat} (hi : i < l.length) (hj : j < i) : l[j]!.b ≠ l[i]!.b := fun e => by
  have := okK_asc h i hi j hj
  rw [e] at this
  omega
theorem okK_z {l : List Wt} (h : okK l l.length) {i : Nat} (hi : i < l.length) : zB ≠ l[i]!.b := fun e => by
  have := (h i hi).1
  rw [Wt.ok, ← e] at this
  simp [Bt.ok, zB] at this
/-- What is taken out of crates that fill an order. -/
theorem tkW_bots {lc : List Cr} {l : List Wt} {ks : List Int} (hok : okK l l.length) (hg : Good lc.length ks) (hf : ∀ i, i < l.length → l[i]!.n ≤ (sumC lc l[i]!.b ks : Int)) : ∀ i, i ≤ l.length → (tkW lc l ks i).2 = botsL (l.take i) ∧ ∀ i', i ≤ i' → i' < l.length → ∀ k, k < lc.length → cntC ((tkW lc l ks i).1[k]!) l[i']!.b = cntC lc[k]! l[i']!.b
  | 0, _ => ⟨by simp [tkW, botsL], fun _ _ _ _ _ => rfl⟩
  | i + 1, hi => by
    obtain ⟨ih1, ih2⟩ := tkW_bots hok hg hf i (by omega)
    have hlen := tkW_len lc l ks i
    have hn : 0 ≤ l[i]!.n := by
      have := (hok i (by omega)).1
      simp only [Wt.ok, Bool.and_eq_true, decide_eq_true_iff] at this
      omega
    have hT := tkK_take l[i]!.b ks ((tkW lc l ks i).1, (tkW lc l ks i).2, l[i]!.n) (by rw [hlen]; exact hg) hn ks.length (Nat.le_refl _)
    have hs : sumC (tkW lc l ks i).1 l[i]!.b ks = sumC lc l[i]!.b ks := by
      unfold sumC
      congr 1
      refine List.map_congr_left fun y hy => ?_
      have := hg.inn y hy
      exact ih2 i (Nat.le_refl _) (by omega) y.toNat (by omega)
    rw [List.take_length] at hT
    simp only at hT
    rw [hs] at hT
    have hfi := hf i (by omega)
    rw [tkW]
    refine ⟨?_, fun i' hi' hil' k hk => ?_⟩
    · show (tkK l[i]!.b ks ks.length ((tkW lc l ks i).1, (tkW lc l ks i).2, l[i]!.n)).2.1 = _
      rw [hT.1, ih1, botsL_step (by omega), show min l[i]!.n.toNat (sumC lc l[i]!.b ks) = l[i]!.n.toNat by omega]
    · show cntC ((tkK l[i]!.b ks ks.length ((tkW lc l ks i).1, (tkW lc l ks i).2, l[i]!.n)).1[k]!) l[i']!.b = _
      rw [tkK_cnt _ _ ks k _ (by rw [hlen]; exact hk) (okK_ne hok hil' (by omega)) (okK_z hok hil')]
      exact ih2 i' (by omega) hil' k hk
theorem outL_bots {lc : List Cr} {l : List Wt} {ks : List Int} (hok : ordOk l = true) (hg : Good lc.length ks) (hf : leftL lc l ks = []) : (outL lc l ks).2 = botsL l := by
  have hk : okK l l.length := by simp [ordOk] at hok; exact hok.1
  have := (tkW_bots hk hg (fun i hi => ?_) l.length (Nat.le_refl _)).1
  · rw [List.take_length] at this
    exact this
  · unfold leftL lackL at hf
    rw [List.flatMap_eq_nil_iff] at hf
    have h1 := hf l[i]! (by rw [getB hi]; exact List.getElem_mem hi)
    have e : cntL (opL lc ks) l[i]!.b = sumC lc l[i]!.b ks := by
      rw [opL_nodup lc hg.nd]
      unfold cntL sumC
      rw [List.map_map]
      rfl
    rw [e] at h1
    apply Classical.byContradiction
    intro hlt
    rw [lack1_yes (by omega)] at h1
    cases h1
end Go.Proofs.YtbngpcghognojaaGreatDoor
namespace Go.Proofs.YtbngpcghognojaaGreatDoor
open Go Go.RowKit
set_option linter.unusedVariables false
set_option linter.unusedSimpArgs false
set_option maxRecDepth 100000
set_option maxHeartbeats 1000000
attribute [local go_sem] Oper.qB
/-- Neighbours are alike. -/
def adjK (l : List Bt) (n : Nat) : Prop := ∀ j, j + 1 < n → l[j]! = l[j + 1]!
theorem adjK_two {l : List Bt} : adjK l 2 ↔ l[0]! = l[1]! := by
  constructor
  · exact fun h => h 0 (by omega)
  · intro h j hj
    obtain rfl : j = 0 := by omega
    exact h
theorem adjK_succ {l : List Bt} {n : Nat} (hn : 1 ≤ n) : adjK l (n + 1) ↔ adjK l n ∧ l[n - 1]! = l[n]! := by
  constructor
  · intro h
    refine ⟨fun j hj => h j (by omega), ?_⟩
    have := h (n - 1) (by omega)
    rwa [Nat.sub_add_cancel hn] at this
  · rintro ⟨h, h'⟩ j hj
    rcases Nat.lt_or_ge (j + 1) n with q | q
    · exact h j q
    · obtain rfl : j = n - 1 := by omega
      rw [Nat.sub_add_cancel hn]
      exact h'
theorem adjK_all {l : List Bt} (h : adjK l l.length) : ∀ j, j < l.length → l[j]! = l[0]!
  | 0, _ => rfl
  | j + 1, hj => by rw [← h j hj, adjK_all h j (by omega)]
/-- All bottles are alike. -/
def alike (l : List Bt) : Bool := l.all fun x => x.like l[0]!
theorem alike_iff {l : List Bt} : alike l = true ↔ ∀ x ∈ l, x = l[0]! := by
  rw [alike, List.all_eq_true]
  exact ⟨fun h x hx => Bt.like_iff.1 (h x hx), fun h x hx => Bt.like_iff.2 (h x hx)⟩
theorem adjK_alike {l : List Bt} : adjK l l.length ↔ alike l = true := by
  rw [alike_iff]
  constructor
  · intro h x hx
    obtain ⟨j, hj, rfl⟩ := List.getElem_of_mem hx
    rw [← getB hj]
    exact adjK_all h j hj
  · intro h j hj
    have h1 := h l[j]! (by rw [getB (by omega)]; exact List.getElem_mem _)
    have h2 := h l[j + 1]! (by rw [getB hj]; exact List.getElem_mem _)
    rw [h1, h2]
theorem alike_perm {l m : List Bt} (h : l.Perm m) : alike l = alike m := by
  have key : ∀ {l m : List Bt}, l.Perm m → alike l = true → alike m = true := by
    intro l m h hl
    rw [alike_iff] at *
    cases m with
    | nil => intro x hx; cases hx
    | cons y m =>
      have hy := hl y (h.mem_iff.2 List.mem_cons_self)
      intro x hx
      have hx' := hl x (h.mem_iff.2 hx)
      rw [hx', ← hy]
      rfl
  rw [Bool.eq_iff_iff]
  exact ⟨key h, key h.symm⟩
def pureR (c : Cr) : Bool × Int := if c.ok = true then (alike (allB c), 0) else (false, 1)
attribute [local go_sem high] eqB
theorem Compact_bot (B : Nat) (v : Value) (l : List Bt) (w : World) (h : OwnN bc w B 26 2 v l) (hn : l.length ≤ 1000000) :
    Calls Tryz.prog 132 #[v] w fun e w' => (∃ A m cap, e = .returned (.slice A m cap) ∧ (m ≤ 1 ↔ alike l = true) ∧ m ≤ 1000000) ∧ Below B w w' := by
  have hu := Tryz.underlying26
  by_cases h2 : l.length < 2
  · obtain ⟨A, cap, rfl, hc, hr⟩ := h.rd
    have HF : Hid (l.length ≤ 1 ↔ alike l = true) := by
      refine ⟨fun _ => adjK_alike.1 fun j hj => by omega, fun _ => by omega⟩
    clear h hr
    have hl2 : (l.length : Int) < 2 := by omega
    go_enter Tryz.func132, Tryz.ntmps132
    go_wp2
    go_ret
    exact ⟨⟨_, _, _, rfl, HF.out, hn⟩, Below.refl _ _⟩
  · rcases h.cases (by decide) bc_length with ⟨rfl, rfl⟩ | ⟨g, cap, rfl⟩
    · exact absurd (by simp) h2
    have hcap : l.length ≤ cap := by obtain ⟨_, _, _, _, h, _⟩ := own_row h; exact h
    have hBg := own_base h g rfl
    have HO := Lib.hid h
    clear h
    have hl2 : ¬ (l.length : Int) < 2 := by omega
    go_enter Tryz.func132, Tryz.ntmps132
    go_upto_region 4 with fail
    go_loopw [3] (fun i wr => ∃ k : Nat, 1 ≤ k ∧ k ≤ l.length ∧ i = .int .i64 k ∧ Hid (∀ j, j + 1 < k → l[j]! ≠ l[j + 1]!) ∧ Hid (OwnN bc wr B 26 2 (.slice (some ⟨g, 0, none⟩) l.length cap) l) ∧ Below B w wr) (fun i _ => l.length - (intOf i).toNat)
    case atStart => exact ⟨1, Nat.le_refl _, by omega, rfl, (fun j hj => by omega), HO.out, Below.refl _ _⟩
    case round =>
      clear HO
      obtain ⟨k, hk1, hk2, rfl, HN, HO, hb⟩ := hrel
      obtain ⟨k, rfl⟩ : ∃ k', k = k' + 1 := ⟨k - 1, by omega⟩
      by_cases hlt : k + 1 < l.length
      · have hCX := HO.out.lies.c.el bc_length hlt
        have hCY := HO.out.lies.c.el bc_length (i := k) (by omega)
        rw [Nat.zero_add] at hCX hCY
        have HN2 : Hid (l[k]! ≠ l[k + 1]! → ∀ j, j + 1 < k + 1 + 1 → l[j]! ≠ l[j + 1]!) := fun h j hj => by
          rcases Nat.lt_or_ge (j + 1) (k + 1) with q | q
          · exact HN.out j q
          · obtain rfl : j = k := by omega
            exact h
        have HA : Hid (l[k]! = l[k + 1]! → (k + 1 = 1 ↔ adjK l (k + 1 + 1))) := fun h => by
          rcases Nat.eq_zero_or_pos k with rfl | hp
          · exact ⟨fun _ => adjK_two.2 h, fun _ => rfl⟩
          · exact ⟨fun q => by omega, fun q => absurd (q 0 (by omega)) (HN.out 0 (by omega))⟩
        generalize hx : l[k + 1]! = x at hCX HN2 HA
        generalize hy : l[k]! = y at hCY HN2 HA
        replace hx := Lib.hid hx
        replace hy := Lib.hid hy
        have x0 := cell_regrown (hCX 0 _ rfl)
        have x1 := cell_regrown (hCX 1 _ rfl)
        have y0 := cell_regrown (hCY 0 _ rfl)
        have y1 := cell_regrown (hCY 1 _ rfl)
        rw [Nat.add_zero] at x0 y0
        have hlt2 : (k : Int) + 1 < (l.length : Int) := by omega
        have hlt3 : (k : Int) < (l.length : Int) := by omega
        have hk3 : (k : Int) ≤ 1000000 := by omega
        have hwk : IntKind.i64.wrap (k : Int) = (k : Int) := by rw [IntKind.wrap_i64]; omega
        have hk4 : (0 : Int) ≤ (k : Int) + 1 := by omega
        have hk5 : ((k : Int) + 1).toNat = k + 1 := by omega
        have H := Below.refl wr.heap.size wr
        have hBw := Lib.hid (Nat.le_trans hBg (Nat.le_of_lt HO.out.lies.lt))
        clear hCX hCY
        go_upto_region 6 with fail
        cases e1 : x.like y with
        | false =>
          have e2 : (x.k == y.k && x.y == y.y) = false := e1
          have hne := Lib.hid (HN2.out (fun h => by rw [Bt.like_iff.2 h.symm] at e1; cases e1))
          clear e1 HN2 HA
          refine wp_region_qB (by kernel_rfl) (by kernel_rfl) ?_
          (repeat (first | fail | (apply qB_step; intro K hK; go_simp; first | (refine hK _ ?_; clear hK K) | (apply Exists.intro; refine ⟨fun _ => ?_, hK _ ?_⟩; (first | fail); clear hK K))))
          refine qB_nil ?_
          intro w1 hw1
          replace H := bstep H hw1
          clear hw1
          go_wp2
          go_roundw
          case rel => exact ⟨k + 1 + 1, by omega, by omega, by go_num, hne, HO.out.below H, hb.trans (H.mono hBw.out)⟩
          case measure => simp [intOf]; omega
        | true =>
          have e2 : (x.k == y.k && x.y == y.y) = true := e1
          have HA2 := Lib.hid (HA.out (Bt.like_iff.1 e1).symm)
          clear e1 HN2 HA HN
          refine wp_region_qB (by kernel_rfl) (by kernel_rfl) ?_
          (repeat (first | fail | (apply qB_step; intro K hK; go_simp; first | (refine hK _ ?_; clear hK K) | (apply Exists.intro; refine ⟨fun _ => ?_, hK _ ?_⟩; (first | fail); clear hK K))))
          refine qB_nil ?_
          intro w1 hw1
          replace H := bstep H hw1
          clear hw1
          have hb1 := hb.trans (H.mono hBw.out)
          have HO1 := Lib.hid (HO.out.below H)
          clear x0 x1 y0 y1 hx hy e2 H hb HO hwk
          have hkc : ¬ cap = k + 1 := by omega
          go_upto_region 9 with fail
          go_loopw [3, 5] (fun kv jv wr => ∃ K j : Nat, 1 ≤ K ∧ K ≤ k + j ∧ 1 ≤ j ∧ j ≤ l.length - (k + 1) ∧ kv = .int .i64 K ∧ jv = .int .i64 j ∧ Hid (∃ s : List Bt, s.length = l.length ∧ s.drop (k + j) = l.drop (k + j) ∧ OwnN bc wr B 26 2 (.slice (some ⟨g, 0, none⟩) l.length cap) s) ∧ Hid (K = 1 ↔ adjK l (k + 1 + j)) ∧ Below B w wr) (fun _ j _ => l.length - (intOf j).toNat)
          case atStart => exact ⟨k + 1, 1, by omega, Nat.le_refl _, Nat.le_refl _, by omega, by go_num, rfl, ⟨l, rfl, rfl, HO1.out⟩, HA2.out, hb1⟩
          case round =>
            clear HO1 hb1 HA2
            obtain ⟨K, j, hK1, hK2, hj1, hj2, rfl, rfl, HS, HA, hb⟩ := hrel
            obtain ⟨s, hsl, hsd, HO⟩ := HS.out
            have hgw := Lib.hid (own_lt HO g rfl)
            have HO2 := Lib.hid (show OwnN bc wr B 26 2 (.slice (some ⟨g, 0, none⟩) s.length cap) s by rw [hsl]; exact HO)
            clear HS HO
            have hKl : K < l.length := by omega
            have hK3 : (K : Int) < (l.length : Int) := by omega
            have hK4 : (K : Int) ≤ 1000000 := by omega
            by_cases hlj : j < l.length - (k + 1)
            · obtain ⟨j, rfl⟩ : ∃ j', j = j' + 1 := ⟨j - 1, by omega⟩
              have hat : ∀ i, k + (j + 1) ≤ i → i < l.length → s[i]! = l[i]! := fun i h1 h2 => by
                have e := congrArg (fun q => q[i - (k + (j + 1))]?) hsd
                simp only [List.getElem?_drop] at e
                rw [Nat.add_sub_cancel' h1, List.getElem?_eq_getElem (by omega), List.getElem?_eq_getElem h2] at e
                rw [getB (by omega), getB h2]
                exact Option.some.inj e
              have hCX := HO2.out.lies.c.el bc_length (i := k + 1 + (j + 1)) (by omega)
              have hCY := HO2.out.lies.c.el bc_length (i := k + 1 + j) (by omega)
              rw [hat _ (by omega) (by omega), Nat.zero_add, show (k + 1 + (j + 1)) * 2 = (k + 1) * 2 + (j + 1) * 2 by omega] at hCX
              rw [hat _ (by omega) (by omega), Nat.zero_add, show (k + 1 + j) * 2 = (k + 1) * 2 + j * 2 by omega] at hCY
              have HD : Hid (∀ x, (s.set K x).drop (k + (j + 1 + 1)) = l.drop (k + (j + 1 + 1))) := fun x => by
                rw [List.drop_set_of_lt (by omega)]
                have := congrArg (List.drop 1) hsd
                rwa [List.drop_drop, List.drop_drop, Nat.add_assoc, Nat.add_assoc] at this
              have HD0 : Hid (s.drop (k + (j + 1 + 1)) = l.drop (k + (j + 1 + 1))) := by
                have := congrArg (List.drop 1) hsd
                rwa [List.drop_drop, List.drop_drop, Nat.add_assoc, Nat.add_assoc] at this
              have HQ := Lib.hid (@adjK_succ l (k + 1 + (j + 1)) (by omega))
              rw [show k + 1 + (j + 1) - 1 = k + 1 + j by omega] at HQ
              generalize l[k + 1 + (j + 1)]! = x at hCX HQ
              generalize l[k + 1 + j]! = y at hCY HQ
              have X0 := Lib.hid hCX
              have x0 := cell_regrown (hCX 0 _ rfl)
              have x1 := cell_regrown (hCX 1 _ rfl)
              have y0 := cell_regrown (hCY 0 _ rfl)
              have y1 := cell_regrown (hCY 1 _ rfl)
              rw [Nat.add_zero] at x0 y0
              have hj3 : (j : Int) + 1 < ((l.length - (k + 1) : Nat) : Int) := by omega
              have hj4 : (j : Int) < ((l.length - (k + 1) : Nat) : Int) := by omega
              have hj5 : (0 : Int) ≤ (j : Int) + 1 := by omega
              have hj6 : ((j : Int) + 1).toNat = j + 1 := by omega
              have hj7 : (j : Int) ≤ 1000000 := by omega
              have hwj : IntKind.i64.wrap (j : Int) = (j : Int) := by rw [IntKind.wrap_i64]; omega
              have H := Below.refl wr.heap.size wr
              replace hsl := Lib.hid hsl
              replace hsd := Lib.hid hsd
              clear hCX hCY hat
              go_upto_region 11 with fail
              cases e1 : x.like y with
              | true =>
                have e2 : (x.k == y.k && x.y == y.y) = true := e1
                have HA2 : Hid (K = 1 ↔ adjK l (k + 1 + (j + 1 + 1))) := by
                  rw [Hid, ← Nat.add_assoc (k + 1) (j + 1) 1, HQ.out, ← HA.out, Bt.like_iff.1 e1]
                  simp
                clear e1 HQ
                refine wp_region_qB (by kernel_rfl) (by kernel_rfl) ?_
                (repeat (first | fail | (apply qB_step; intro K hK; go_simp; first | (refine hK _ ?_; clear hK K) | (apply Exists.intro; refine ⟨fun _ => ?_, hK _ ?_⟩; (first | fail); clear hK K))))
                refine qB_nil ?_
                intro w1 hw1
                replace H := bstep H hw1
                clear hw1
                have HO3 := Lib.hid (HO2.out.below H)
                clear x0 x1 y0 y1 e2 X0
                go_wp2
                go_roundw
                case rel => exact ⟨K, j + 1 + 1, by omega, by omega, by omega, by omega, rfl, by go_num, ⟨s, hsl.out, HD0.out, by rw [← hsl.out]; exact HO3.out⟩, HA2.out, hb.trans (H.mono (Nat.le_trans hBg (Nat.le_of_lt hgw.out)))⟩
                case measure => simp [intOf]; omega
              | false =>
                have e2 : (x.k == y.k && x.y == y.y) = false := e1
                have HA2 : Hid (K + 1 = 1 ↔ adjK l (k + 1 + (j + 1 + 1))) := by
                  rw [Hid, ← Nat.add_assoc (k + 1) (j + 1) 1, HQ.out]
                  refine ⟨fun h => by omega, fun h => ?_⟩
                  rw [Bt.like_iff.2 h.2.symm] at e1
                  cases e1
                clear e1 HQ
                refine wp_region_qB (by kernel_rfl) (by kernel_rfl) ?_
                (repeat (first | fail | (apply qB_step; intro K hK; go_simp; first | (refine hK _ ?_; clear hK K) | (apply Exists.intro; refine ⟨fun _ => ?_, hK _ ?_⟩; (first | fail); clear hK K))))
                refine qB_nil ?_
                intro w1 hw1
                replace H := bstep H hw1
                clear hw1
                have HO3 := Lib.hid (HO2.out.below H)
                have hX := X0.out.below H hgw.out
                clear x0 x1 y0 y1 e2 X0
                have x0 : w1.cell? ⟨g, (k + 1) * 2 + (j + 1) * 2, none⟩ = some (.int .u8 x.k) := hX 0 _ rfl
                have x1 : w1.cell? ⟨g, (k + 1) * 2 + (j + 1) * 2 + 1, none⟩ = some (.int .i16 x.y) := hX 1 _ rfl
                have hKs := Lib.hid (show K < s.length by rw [hsl.out]; exact hKl)
                clear hX
                go_wp2_with (refine wp_store_el rfl rfl _ _ _ rfl _ _ rfl #[.int .u8 x.k, .int .i16 x.y] rfl (own_room HO3.out hKs.out rfl) (infoB _ _) (bv_one _ _) ?_)
                go_roundw
                case rel => exact ⟨K + 1, j + 1 + 1, by omega, by omega, by omega, by omega, by go_num, by go_num, ⟨s.set K x, by rw [List.length_set]; exact hsl.out, HD.out x, by
                  have := putEl_own HO3.out hKs.out (vs := #[.int .u8 x.k, .int .i16 x.y]) rfl
                  show World.ownsRow _ _ _ _ _ _ _
                  rw [List.length_set, fl_set bc_length s K x hKs.out, ← hsl.out]
                  exact this⟩, HA2.out, (hb.trans (H.mono (Nat.le_trans hBg (Nat.le_of_lt hgw.out)))).trans (putEl_below hBg _ _)⟩
                case measure => simp [intOf]; omega
            · obtain rfl : j = l.length - (k + 1) := by omega
              have HF : Hid (K ≤ 1 ↔ alike l = true) := by
                have := HA.out
                rw [show k + 1 + (l.length - (k + 1)) = l.length by omega, adjK_alike] at this
                rw [Hid, ← this]
                omega
              have hKc : ¬ cap = K := by omega
              have hKc2 : K ≤ cap := by omega
              have hKc3 : (K : Int) ≤ (cap : Int) := by omega
              have hKm := Lib.hid (show K + (l.length - K) = l.length by omega)
              have hsl2 := Lib.hid hsl
              clear HA hsd hsl
              go_wp2_with ((with_reducible refine wp_clear_own rfl rfl _ _ rfl 26 Tryz.underlying38 (.agg #[.int .u8 0, .int .i16 0]) Tryz.zeroValue26 2 rfl zero_one B g l.length K (l.length - K) cap _ (fl bc s) ?hO hKm.out rfl ?_); (case hO => have h := HO2.out; unfold OwnN at h; rwa [hsl2.out] at h); intro w2 hO2 hb2)
              go_ret
              exact ⟨⟨_, _, _, rfl, HF.out, by omega⟩, hb.trans hb2⟩
      · obtain hk : k + 1 = l.length := by omega
        have HF : Hid (l.length ≤ 1 ↔ alike l = true) := by
          refine ⟨fun h => by omega, fun h => ?_⟩
          exact absurd ((adjK_alike.2 h) 0 (by omega)) (HN.out 0 (by omega))
        rw [hk]
        replace hk := Lib.hid hk
        go_wp2
        go_ret
        exact ⟨⟨_, _, _, rfl, HF.out, hn⟩, hb⟩
theorem pure_any (c : Cr) (w : World) : Calls Tryz.prog 90 #[cv c] w fun e w' => e = .returned (.bool (alike (allB c))) ∧ Below w.heap.size w w' := by
  have hall := allB_le c
  have hp := alike_perm (sortB_perm (allB c))
  have hS := fun W => sorted_any c W
  have hC := fun B v W h => Compact_bot B v (sortB (allB c)) W h (by rw [sortB_length]; omega)
  rw [hp] at hC
  generalize alike (allB c) = r at hC ⊢
  clear hp hall
  go_enter Tryz.func90, Tryz.ntmps90
  go_upto_region 1 with fail
  generalize hW : World.alloc _ _ = W
  have H0 : Below w.heap.size w W := by rw [← hW]; go_grown
  have r0 : rowOf W (w.heap.size) = some ((cc c).toArray) := (by (try rw [← hW]); simp only [rowOf_alloc, World.size_alloc, ↓reduceIte]; all_goals ((repeat' split) <;> first | omega | (exfalso; omega) | rfl))
  clear hW
  have l0 : w.heap.size ≤ w.heap.size := Nat.le_refl _
  generalize h0 : w.heap.size = g0 at r0 ⊢
  replace l0 : w.heap.size ≤ g0 := Nat.le_of_eq h0
  clear h0
  have b0 := rowOf_lt r0
  have H := Below.refl W.heap.size W
  cases r with
  | true =>
    go_wp2_with (first | ((with_reducible refine wp_load_rowBg H ?_ _ _ rfl _ rfl _ r0 _ Tryz.underlying28 rfl (infoC c) ?_); rfl) | (go_at_call 87; refine (hS _).mono ?_; rintro e w2 ⟨v, rfl, O2, hb⟩; replace O2 := O2.down (bstep H0 H).size; replace H0 := bstep (bstep H0 H) hb; clear H hb) | (go_at_call 132; refine (hC _ _ _ O2).mono ?_; rintro e w3 ⟨⟨A, m, cap, rfl, hm, hml⟩, hb⟩; replace H0 := H0.trans hb; have hm1 : (m : Int) ≤ 1 := (by have : m ≤ 1 := (by simpa using hm); omega)))
    go_ret
    exact ⟨by simp [hm1], H0⟩
  | false =>
    go_wp2_with (first | ((with_reducible refine wp_load_rowBg H ?_ _ _ rfl _ rfl _ r0 _ Tryz.underlying28 rfl (infoC c) ?_); rfl) | (go_at_call 87; refine (hS _).mono ?_; rintro e w2 ⟨v, rfl, O2, hb⟩; replace O2 := O2.down (bstep H0 H).size; replace H0 := bstep (bstep H0 H) hb; clear H hb) | (go_at_call 132; refine (hC _ _ _ O2).mono ?_; rintro e w3 ⟨⟨A, m, cap, rfl, hm, hml⟩, hb⟩; replace H0 := H0.trans hb; have hm1 : ¬ (m : Int) ≤ 1 := (by have : ¬ m ≤ 1 := (by simpa using hm); omega)))
    go_ret
    exact ⟨by simp [hm1], H0⟩
theorem IsPure_any (c : Cr) (w : World) : Calls Tryz.prog 33 #[cv c] w fun e w' => e = .returned (.tuple #[.bool (pureR c).1, .int .i64 (pureR c).2]) ∧ Below w.heap.size w w' := by
  go_enter Tryz.func33, Tryz.ntmps33
  go_upto_region 1 with fail
  generalize hW : World.alloc _ _ = W
  have H0 : Below w.heap.size w W := by rw [← hW]; go_grown
  have r0 : rowOf W (w.heap.size) = some ((cc c).toArray) := (by (try rw [← hW]); simp only [rowOf_alloc, World.size_alloc, ↓reduceIte]; all_goals ((repeat' split) <;> first | omega | (exfalso; omega) | rfl))
  clear hW
  have l0 : w.heap.size ≤ w.heap.size := Nat.le_refl _
  generalize h0 : w.heap.size = g0 at r0 ⊢
  replace l0 : w.heap.size ≤ g0 := Nat.le_of_eq h0
  clear h0
  have b0 := rowOf_lt r0
  have H := Below.refl W.heap.size W
  cases e1 : c.ok with
  | false =>
    have HF := Lib.hid (show pureR c = (false, 1) by simp [pureR, e1])
    go_wp2_with (first | ((with_reducible refine wp_load_rowBg H ?_ _ _ rfl _ rfl _ r0 _ Tryz.underlying28 rfl (infoC c) ?_); rfl) | (go_at_call 18; with_reducible refine (ValidCrate_any c _).mono ?_; rintro e w' ⟨rfl, hb⟩; replace H := bstep H hb; clear hb; have hc := bcell H))
    rw [HF.out]
    exact bodyPost_ret (results_tt rfl) rfl ⟨rfl, bstep H0 H⟩
  | true =>
    have HF := Lib.hid (show pureR c = (alike (allB c), 0) by simp [pureR, e1])
    have hP := fun W => pure_any c W
    generalize alike (allB c) = r at HF hP
    go_wp2_with (first | ((with_reducible refine wp_load_rowBg H ?_ _ _ rfl _ rfl _ r0 _ Tryz.underlying28 rfl (infoC c) ?_); rfl) | (go_at_call 18; with_reducible refine (ValidCrate_any c _).mono ?_; rintro e w' ⟨rfl, hb⟩; replace H := bstep H hb; clear hb; have hc := bcell H) | (go_at_call 90; with_reducible refine (hP _).mono ?_; rintro e w' ⟨rfl, hb⟩; replace H := bstep H hb; clear hb; have hc := bcell H))
    rw [HF.out]
    exact bodyPost_ret (results_tt rfl) rfl ⟨rfl, bstep H0 H⟩
end Go.Proofs.YtbngpcghognojaaGreatDoor
namespace Go.Proofs.YtbngpcghognojaaGreatDoor
open Go Go.RowKit
set_option linter.unusedVariables false
set_option linter.unusedSimpArgs false
set_option maxRecDepth 100000
set_option maxHeartbeats 1000000
set_option linter.unusedSectionVars false
theorem cr_len (c : Cr) : c.toList.length = 12 := Vector.length_toList
theorem revC_revC (c : Cr) : revC (revC c) = c := by
  apply Vector.toList_inj.1
  rw [revC_toList, revC_toList, List.reverse_reverse]
theorem revC_ok (c : Cr) : (revC c).ok = c.ok := by
  unfold Cr.ok
  rw [revC_toList, List.all_reverse]
theorem revC_at (c : Cr) {i : Nat} (h : i < 12) : rB (revC c).toList i = rB c.toList (11 - i) := by
  have hl := cr_len c
  rw [revC_toList, rB_lt (by rw [List.length_reverse, hl]; exact h), rB_lt (by omega), List.getElem_reverse]
  congr 1
  omega
theorem pl_mem {p : Bt → Bool} {l : List Bt} {n : Nat} {x : Int} : x ∈ pl p l n ↔ ∃ i : Nat, i < n ∧ p (rB l i) = true ∧ (i : Int) = x := by
  simp [pl, and_assoc]
theorem pl_asc (p : Bt → Bool) (l : List Bt) (n : Nat) : Asc 0 n (pl p l n) := by
  refine ⟨?_, fun x hx => ?_⟩
  · unfold pl
    rw [List.pairwise_map]
    exact (List.pairwise_lt_range.filter _).imp fun h => Int.ofNat_lt.2 h
  · obtain ⟨i, hi, _, rfl⟩ := pl_mem.1 hx
    omega
theorem pl_sum (g : Int → Int) (p : Bt → Bool) (l : List Bt) : ∀ k, ((pl p l k).map g).sum = ((List.range k).map fun (i : Nat) => if p (rB l i) = true then g (i : Int) else 0).sum
  | 0 => rfl
  | k + 1 => by
    have ih := pl_sum g p l k
    rw [List.range_succ, List.map_append, List.sum_append, ← ih]
    cases h : p (rB l k) with
    | true => rw [pl_yes h]; simp [h]
    | false => rw [pl_no h]; simp [h]
theorem allB_used (c : Cr) : allB c = (usedI c).map fun x => rB c.toList x.toNat := by
  have h5 : c.toList = (List.range 12).map (rB c.toList) := by
    apply List.ext_getElem (by simp)
    intro i hi hi'
    simp [rB_lt hi]
  unfold allB usedI pl
  conv => lhs; rw [h5]
  rw [List.filter_map, List.map_map]
  rfl
theorem used_len (c : Cr) : (usedI c).length = (allB c).length := by rw [allB_used, List.length_map]
theorem free_len (c : Cr) : (freeI c).length + (allB c).length = 12 := by
  rw [← used_len]
  unfold freeI usedI pl
  rw [List.length_map, List.length_map]
  have key : ∀ (p : Nat → Bool) (l : List Nat), (l.filter p).length + (l.filter fun i => !p i).length = l.length := by
    intro p l
    induction l with
    | nil => rfl
    | cons x l ih =>
      simp only [List.filter_cons, List.length_cons]
      cases p x <;> simp <;> omega
  have := key (fun i => Bt.em (rB c.toList i)) (List.range 12)
  simpa using this
theorem free_has (c : Cr) {p : Nat} (h : p < 12) : (freeI c).contains (p : Int) = (rB c.toList p).em := by
  rw [Bool.eq_iff_iff, List.contains_iff_mem]
  unfold freeI
  rw [pl_mem]
  constructor
  · rintro ⟨i, hi, he, hp⟩
    obtain rfl : i = p := by omega
    exact he
  · intro he
    exact ⟨p, h, he, rfl⟩
/-! ### Bottles put into ascending places -/
theorem spread_at {ks : List Int} {bs : List Bt} (ha : Asc 0 12 ks) : ∀ j, j ≤ ks.length → (∀ t, t < j → rB (spread ks bs j).toList (ks.getD t 0).toNat = rB bs t) ∧ ∀ i : Nat, i < 12 → (∀ t, t < j → ks.getD t 0 ≠ (i : Int)) → rB (spread ks bs j).toList i = zB
  | 0, _ => ⟨fun t h => absurd h (Nat.not_lt_zero _), fun i hi _ => by rw [spread]; exact rB_zC i hi⟩
  | j + 1, hj => by
    obtain ⟨h1, h2⟩ := spread_at (bs := bs) ha j (by omega)
    have hin : ∀ t, t < ks.length → 0 ≤ ks.getD t 0 ∧ ks.getD t 0 < 12 := fun t ht => by
      have := ha.2 _ (getD_mem ht)
      omega
    have hlt : ∀ t, t < j → ks.getD t 0 < ks.getD j 0 := fun t ht => by
      have := List.pairwise_iff_getElem.1 ha.1 t j (by omega) (by omega) ht
      rw [List.getD_eq_getElem?_getD, List.getD_eq_getElem?_getD, List.getElem?_eq_getElem (show t < ks.length by omega), List.getElem?_eq_getElem (show j < ks.length by omega)]
      exact this
    have hjj := hin j (by omega)
    have hset : ∀ i, i < 12 → rB (spread ks bs (j + 1)).toList i = if (ks.getD j 0).toNat = i then rB bs j else rB (spread ks bs j).toList i := fun i hi => by
      rw [spread, setC_toList]
      by_cases e : (ks.getD j 0).toNat = i
      · rw [if_pos e, e]
        rw [rB_lt (by rw [List.length_set, cr_len]; exact hi), List.getElem_set_self]
      · rw [if_neg e]
        exact rB_set_ne _ e
    refine ⟨fun t ht => ?_, fun i hi hn => ?_⟩
    · have ht2 := hin t (by omega)
      rw [hset _ (by omega)]
      rcases Nat.lt_or_ge t j with q | q
      · have := hlt t q
        rw [if_neg (by omega)]
        exact h1 t q
      · obtain rfl : t = j := by omega
        rw [if_pos rfl]
    · rw [hset i hi, if_neg (by have := hn j (Nat.lt_succ_self _); omega)]
      exact h2 i hi fun t ht => hn t (by omega)
theorem getD_ex {ks : List Int} {x : Int} (h : x ∈ ks) : ∃ t, t < ks.length ∧ ks.getD t 0 = x := by
  obtain ⟨t, ht, rfl⟩ := List.getElem_of_mem h
  exact ⟨t, ht, by rw [List.getD_eq_getElem?_getD, List.getElem?_eq_getElem ht]; rfl⟩
theorem spread_used {ks : List Int} {bs : List Bt} (ha : Asc 0 12 ks) (hl : ks.length = bs.length) (hb : ∀ b ∈ bs, b.em = false) : usedI (spread ks bs bs.length) = ks := by
  obtain ⟨h1, h2⟩ := spread_at (bs := bs) ha bs.length (by omega)
  have hne : ∀ t, t < bs.length → (rB bs t).em = false := fun t ht => hb _ (by rw [rB_lt ht]; exact List.getElem_mem ht)
  apply asc_ext _ _ (pl_asc _ _ _).1 ha.1
  intro x
  rw [pl_mem]
  constructor
  · rintro ⟨i, hi, he, rfl⟩
    rcases Classical.em ((i : Int) ∈ ks) with h | h
    · exact h
    · exfalso
      rw [h2 i hi fun t ht e => h (by rw [← e]; exact getD_mem (by omega))] at he
      exact absurd he (by decide)
  · intro hx
    obtain ⟨t, ht, rfl⟩ := getD_ex hx
    have := ha.2 _ hx
    refine ⟨(ks.getD t 0).toNat, by omega, ?_, by omega⟩
    rw [h1 t (by omega), hne t (by omega)]
    rfl
theorem spread_all {ks : List Int} {bs : List Bt} (ha : Asc 0 12 ks) (hl : ks.length = bs.length) (hb : ∀ b ∈ bs, b.em = false) : allB (spread ks bs bs.length) = bs := by
  rw [allB_used, spread_used ha hl hb]
  obtain ⟨h1, h2⟩ := spread_at (bs := bs) ha bs.length (by omega)
  apply List.ext_getElem (by rw [List.length_map, hl])
  intro i hi hi'
  rw [List.getElem_map]
  have e : ks[i]'(by simpa using hi) = ks.getD i 0 := by rw [List.getD_eq_getElem?_getD, List.getElem?_eq_getElem (by simpa using hi)]; rfl
  rw [e, h1 i hi', rB_lt hi']
theorem allB_em {c : Cr} : ∀ b ∈ allB c, b.em = false := fun b hb => by
  have := (List.mem_filter.1 hb).2
  simpa [Bt.is] using this
theorem fine_all {c : Cr} (h : c.ok = true) : ∀ b ∈ allB c, b.ok = true := fun b hb => by
  have h1 := allB_em b hb
  have h2 := List.all_eq_true.1 h b (List.mem_filter.1 hb).1
  unfold Bt.fine at h2
  rw [h1] at h2
  simpa using h2
/-- A crate is valid whose bottles are. -/
theorem ok_of {c : Cr} (h : ∀ b ∈ allB c, b.ok = true) : c.ok = true := by
  unfold Cr.ok
  rw [List.all_eq_true]
  intro b hb
  unfold Bt.fine
  cases he : b.em with
  | true => rfl
  | false =>
    rw [h b (List.mem_filter.2 ⟨hb, by simp [Bt.is, he]⟩)]
    rfl
section
variable {c : Cr} (hc : c.ok = true)
include hc
def levC (c : Cr) : Cr := spread (level (allB c).length) (allB c) (allB c).length
theorem levelR_ok : levelR c = (levC c, 0) := by rw [levelR, if_pos hc]; rfl
omit hc in
theorem levC_used : usedI (levC c) = level (allB c).length := spread_used (lvS_least (allB_le c)).asc (level_len (allB_le c)) allB_em
omit hc in
theorem levC_all : allB (levC c) = allB c := spread_all (lvS_least (allB_le c)).asc (level_len (allB_le c)) allB_em
theorem levC_ok : (levC c).ok = true := ok_of (by rw [levC_all]; exact fine_all hc)
omit hc in
theorem levC_tip : tipN (usedI (levC c)) ≤ tipN (usedI c) := by
  rw [levC_used]
  have := (lvS_least (allB_le c)).min (usedI c) (pl_asc _ _ _) (used_len c)
  simp only [lessT, Bool.or_eq_false_iff, decide_eq_false_iff_not] at this
  have := this.1
  unfold level
  omega
omit hc in
theorem rev_tip : eastI (usedI (revC c)) = - eastI (usedI c) ∧ southI (usedI (revC c)) = - southI (usedI c) := by
  have key : ∀ g : Int → Int, (∀ i : Nat, i < 12 → g ((11 - i : Nat) : Int) = - g (i : Int)) → ((usedI (revC c)).map g).sum = - ((usedI c).map g).sum := fun g hg => by
    unfold usedI
    rw [pl_sum, pl_sum]
    have e : ((List.range 12).map fun (i : Nat) => if (!(rB (revC c).toList i).em) = true then g (i : Int) else 0) = (List.range 12).map fun (i : Nat) => if (!(rB c.toList (11 - i)).em) = true then - g ((11 - i : Nat) : Int) else 0 := by
      apply List.map_congr_left
      intro i hi
      have hi := List.mem_range.1 hi
      rw [revC_at c hi]
      have := hg (11 - i) (by omega)
      rw [show 11 - (11 - i) = i by omega] at this
      rw [this]
    rw [e]
    simp only [show List.range 12 = [0, 1, 2, 3, 4, 5, 6, 7, 8, 9, 10, 11] from rfl, List.map_cons, List.map_nil, List.sum_cons, List.sum_nil]
    simp only [show 11 - 0 = 11 from rfl, show 11 - 1 = 10 from rfl, show 11 - 2 = 9 from rfl, show 11 - 3 = 8 from rfl, show 11 - 4 = 7 from rfl, show 11 - 5 = 6 from rfl, show 11 - 6 = 5 from rfl, show 11 - 7 = 4 from rfl, show 11 - 8 = 3 from rfl, show 11 - 9 = 2 from rfl, show 11 - 10 = 1 from rfl, show 11 - 11 = 0 from rfl]
    have neg : ∀ (b : Bool) (z : Int), (if b = true then -z else 0) = -(if b = true then z else 0) := fun b z => by cases b <;> simp
    simp only [neg]
    omega
  refine ⟨?_, ?_⟩
  · exact key _ fun i hi => by
      have h : i = 0 ∨ i = 1 ∨ i = 2 ∨ i = 3 ∨ i = 4 ∨ i = 5 ∨ i = 6 ∨ i = 7 ∨ i = 8 ∨ i = 9 ∨ i = 10 ∨ i = 11 := by omega
      rcases h with rfl | rfl | rfl | rfl | rfl | rfl | rfl | rfl | rfl | rfl | rfl | rfl <;> decide
  · exact key _ fun i hi => by
      have h : i = 0 ∨ i = 1 ∨ i = 2 ∨ i = 3 ∨ i = 4 ∨ i = 5 ∨ i = 6 ∨ i = 7 ∨ i = 8 ∨ i = 9 ∨ i = 10 ∨ i = 11 := by omega
      rcases h with rfl | rfl | rfl | rfl | rfl | rfl | rfl | rfl | rfl | rfl | rfl | rfl <;> decide
theorem turnR_ok : turnR c = (revC c, 0) := by rw [turnR, if_pos hc]
theorem tipR_ok : tipR c = (eastI (usedI c), southI (usedI c), 0) := by rw [tipR, if_pos hc]
theorem freeR_ok : freeR c = (freeI c, 0) := by rw [freeR, if_pos hc]
theorem sortedR_ok : sortedR c = (packC1 (sortB (allB c)), 0) := by rw [sortedR, if_pos hc]
theorem pureR_ok : pureR c = (alike (allB c), 0) := by rw [pureR, if_pos hc]
/-! ### Put, taken, added -/
variable {b : Bt} (hb : b.ok = true) {p : Nat} (hp : p < 12)
include hb hp
theorem putR_is : putR c (p : Int) b = if (rB c.toList p).em = true then (setC c p b, 0) else (zC, 4) := by
  rw [putR, hc, hb, if_neg (by decide)]
  have h1 : (decide (0 ≤ (p : Int)) && decide ((p : Int) ≤ 11)) = true := by simp; omega
  rw [h1, if_neg (by decide), Int.toNat_natCast]
  cases (rB c.toList p).em <;> rfl
theorem set_fine : (setC c p b).ok = true := by
  unfold Cr.ok
  rw [setC_toList, List.all_eq_true]
  intro x hx
  rcases List.mem_or_eq_of_mem_set hx with h | rfl
  · exact List.all_eq_true.1 hc x h
  · unfold Bt.fine
    rw [hb, Bool.or_true]
theorem set_at : rB (setC c p b).toList p = b := by
  rw [setC_toList, rB_lt (by rw [List.length_set, cr_len]; exact hp), List.getElem_set_self]
omit hc hp in
theorem ok_em : b.em = false := by
  cases he : b.em with
  | false => rfl
  | true =>
    rw [Bt.em_iff.1 he] at hb
    exact absurd hb (by decide)
theorem takeR_put (he : (rB c.toList p).em = true) : takeR (setC c p b) (p : Int) = (c, b, 0) := by
  rw [takeR, set_fine hc hb hp, if_neg (by decide)]
  have h1 : (decide (0 ≤ (p : Int)) && decide ((p : Int) ≤ 11)) = true := by simp; omega
  rw [h1, if_neg (by decide), Int.toNat_natCast, set_at hc hb hp, ok_em hb, if_neg (by decide)]
  congr 1
  apply cr_ext
  intro i hi
  rw [setC_toList, setC_toList, List.set_set]
  by_cases e : p = i
  · subst e
    rw [rB_lt (by rw [List.length_set, cr_len]; exact hp), List.getElem_set_self]
    exact (Bt.em_iff.1 he).symm
  · rw [rB_set_ne _ e]
omit hp in
theorem addR_is : (addR c b).2.2 = 0 ∧ (freeI c).length > 0 ∧ (addR c b).1.ok = true ∧ (∃ q : Nat, q < 12 ∧ (addR c b).2.1 = (q : Int) ∧ rB (addR c b).1.toList q = b) ∨ (addR c b).2.2 = 3 ∧ (freeI c).length = 0 := by
  rw [addR, hc, hb, if_neg (by decide)]
  rcases free_first c with ⟨h1, h2⟩ | ⟨k, r, hk, h1, h2⟩
  · rw [h1, h2, if_pos (by decide)]
    exact .inr ⟨rfl, rfl⟩
  · rw [h1, h2, if_neg (by omega), Int.toNat_natCast]
    exact .inl ⟨rfl, by simp, set_fine hc hb hk, k, hk, rfl, set_at hc hb hk⟩
end
theorem placeR_found {c : Cr} {b : Bt} (hc : c.ok = true) (hb : b.ok = true) {q : Nat} (hq : q < 12) (h : rB c.toList q = b) : (placeR c b).2 = 0 ∧ 0 ≤ (placeR c b).1 ∧ (placeR c b).1 ≤ (q : Int) := by
  rw [placeR, hc, hb, if_neg (by decide)]
  rcases firstI_full c b with ⟨h1, h2⟩ | ⟨k, hk, h1, h2, h3⟩
  · have := h2 q hq
    rw [h] at this
    rw [Bt.like_iff.2 rfl] at this
    cases this
  · rw [h1, if_neg (by omega)]
    refine ⟨rfl, by show 0 ≤ (k : Int); omega, ?_⟩
    show (k : Int) ≤ q
    rcases Nat.lt_or_ge q k with w | w
    · have := h3 q w
      rw [h, Bt.like_iff.2 rfl] at this
      cases this
    · omega
/-! ### In order -/
theorem cmp_anti (a b : Bt) : b.cmp a = - a.cmp b := by
  unfold Bt.cmp
  repeat' split
  all_goals omega
theorem cmp_zero (a b : Bt) : a.cmp b = 0 ↔ a = b := by
  rw [Bt.eq_iff]
  unfold Bt.cmp
  repeat' split
  all_goals omega
theorem pack_at {l : List Bt} (h : l.length ≤ 12) {i : Nat} (hi : i < l.length) : rB (packC1 l).toList i = rB l i := by
  rw [packC1_toList h, rB_lt (by rw [List.length_append]; omega), List.getElem_append_left hi, rB_lt hi]
theorem sort_step {l : List Bt} {i : Nat} (hi : i + 1 < l.length) : (rB (sortB l) i).cmp (rB (sortB l) (i + 1)) ≤ 0 := by
  have hl := sortB_length l
  have := List.pairwise_iff_getElem.1 (sortB_sorted l) i (i + 1) (by omega) (by omega) (Nat.lt_succ_self _)
  rw [leB_iff] at this
  rw [rB_lt (by omega), rB_lt (by omega)]
  have := cmp_anti (sortB l)[i + 1] (sortB l)[i]
  omega
theorem alike_short {l : List Bt} (h : l.length < 2) : alike l = true := by
  rw [alike_iff]
  intro x hx
  obtain ⟨i, hi, rfl⟩ := List.getElem_of_mem hx
  obtain rfl : i = 0 := by omega
  rw [getB hi]
theorem alike_ends {l : List Bt} (h : 2 ≤ l.length) : alike l = (rB (sortB l) 0).like (rB (sortB l) (l.length - 1)) := by
  rw [← alike_perm (sortB_perm l), Bool.eq_iff_iff, Bt.like_iff, alike_iff]
  have hl := sortB_length l
  have hs := sortB_sorted l
  generalize sortB l = s at hl hs
  rw [rB_lt (by omega), rB_lt (by omega)]
  have h0 : s[0]! = s[0]'(by omega) := by rw [getB (by omega)]
  rw [h0]
  constructor
  · intro q
    exact (q _ (List.getElem_mem _)).symm
  · intro q x hx
    obtain ⟨i, hi, rfl⟩ := List.getElem_of_mem hx
    have hp := List.pairwise_iff_getElem.1 hs
    rcases Nat.eq_zero_or_pos i with rfl | h1
    · rfl
    · rcases Nat.lt_or_ge i (l.length - 1) with h2 | h2
      · have a1 := hp 0 i (by omega) hi h1
        have a2 := hp i (l.length - 1) hi (by omega) h2
        rw [← q] at a2
        exact leB_anti a2 a1
      · obtain rfl : i = l.length - 1 := by omega
        exact q.symm
end Go.Proofs.YtbngpcghognojaaGreatDoor
namespace Go.Proofs.YtbngpcghognojaaGreatDoor
open Go Go.Sort Go.RowKit
set_option linter.unusedVariables false
set_option linter.unusedSimpArgs false
set_option maxRecDepth 100000
set_option maxHeartbeats 1000000
attribute [local go_sem] Oper.qB
theorem var_kept {P : Program} {w w' : World} {n : String} {cs : Array Value} (h : w.var? P n = some cs) (hb : Below w.heap.size w w') : w'.var? P n = some cs := by
  unfold World.var? at h ⊢
  obtain ⟨g, hg, h⟩ := Option.bind_eq_some_iff.1 h
  rw [hg]
  simp only [Option.bind_some]
  rcases Nat.lt_or_ge g w.heap.size with hlt | hge
  · rw [hb.block g hlt]
    exact h
  · rw [Array.getElem?_eq_none hge] at h
    cases h
/-- The table of powers of ten lies. -/
def Tab (w : World) : Prop := Lib.TabIs Tryz.prog w "internal/strconv.uint64pow10" .u64 Lib.pow10Tab
theorem Tab.below {w w' : World} (h : Tab w) (hb : Below w.heap.size w w') : Tab w' := var_kept h hb
theorem below_grown (w : World) (k : Nat) (os : Array Obj) : Below w.heap.size w (grow (w.drewN k) os) :=
  ⟨rfl, rfl, rfl, by show _ ≤ (_ ++ os).size; rw [Array.size_append]; exact Nat.le_add_right _ _, fun j hj => heap_grow_old _ os hj⟩
theorem itoa_nat {n : Int} (h : 0 ≤ n) : Lib.itoa n = Lib.decDigits n.toNat := by
  unfold Lib.itoa
  rw [if_neg (by omega)]
theorem dec_short (n : Nat) : (Lib.decDigits n).length ≤ n + 1 := by
  induction n using Nat.strongRecOn with
  | _ n ih =>
    by_cases h : n < 10
    · rw [Lib.decDigits, dif_pos h]
      simp
    · rw [Lib.decDigits, dif_neg h]
      have := ih (n / 10) (by omega)
      simp
      omega
theorem itoa_short {n : Int} (h : 0 ≤ n) (h' : n ≤ 100000) : (Lib.itoa n).length ≤ 100001 := by
  rw [itoa_nat h]
  have := dec_short n.toNat
  omega
/-- A text. -/
def tv (l : List UInt8) : Value := .string ⟨l.toArray⟩
theorem decimal_any (n : Int) (h0 : -9223372036854775808 ≤ n) (h1 : n ≤ 9223372036854775807) (w : World) (ht : Tab w) : Calls Tryz.prog 66 #[.int .i64 n] w fun e w' => e = .returned (.string ⟨(Lib.itoa n).toArray⟩) ∧ Below w.heap.size w w' := by
  have HF := Lib.hid (fun W hW => Any.strconv_FormatInt_10 Tryz.lx118 n h0 h1 W (ht.below hW))
  have H := Below.refl w.heap.size w
  go_enter Tryz.func66, Tryz.ntmps66
  go_wp2_with (go_at_call 118; go_loud (refine (HF.out _ H).mono ?_; rintro e w1 ⟨rfl, q, os, rfl⟩))
  go_ret
  exact ⟨rfl, below_grown _ _ _⟩
theorem BottleText_any (b : Bt) (w : World) (ht : Tab w) : Calls Tryz.prog 11 #[bv b] w fun e w' => e = .returned (.string ⟨(if b.ok = true then botT b else []).toArray⟩) ∧ Below w.heap.size w w' := by
  have HT := Lib.hid ht
  have hk := b.hk
  have hy := b.hy
  have HB := Lib.hid (fun W => ValidBottle_any b W)
  generalize hT : (if b.ok = true then botT b else []) = t
  go_enter Tryz.func11, Tryz.ntmps11
  go_upto_region 1 with fail
  generalize hW : World.alloc _ _ = W
  have H0 : Below w.heap.size w W := by rw [← hW]; go_grown
  have r0 : rowOf W (w.heap.size) = some (#[.int .u8 b.k, .int .i16 b.y]) := (by (try rw [← hW]); simp only [rowOf_alloc, World.size_alloc, ↓reduceIte]; all_goals ((repeat' split) <;> first | omega | (exfalso; omega) | rfl))
  clear hW
  have l0 : w.heap.size ≤ w.heap.size := Nat.le_refl _
  generalize h0 : w.heap.size = g0 at r0 ⊢
  replace l0 : w.heap.size ≤ g0 := Nat.le_of_eq h0
  clear h0
  have b0 := rowOf_lt r0
  have H := Below.refl W.heap.size W
  have HT1 := Lib.hid (HT.out.below H0)
  have x0 : W.cell? ⟨g0, 0, none⟩ = some (.int .u8 b.k) := rowOf_cell r0 0
  have x1 : W.cell? ⟨g0, 1, none⟩ = some (.int .i16 b.y) := rowOf_cell r0 1
  cases e1 : b.ok with
  | false =>
    have e2 := Lib.hid e1
    obtain rfl : t = [] := by rw [← hT, e1]; rfl
    clear hT e1
    go_wp2_with (go_at_call 19; refine (HB.out _).mono ?_; rintro e w' ⟨rfl, hb⟩; rw [e2.out]; replace H := bstep H hb; clear hb)
    go_ret
    exact ⟨rfl, bstep H0 H⟩
  | true =>
    have e2 := Lib.hid e1
    obtain rfl : t = botT b := by rw [← hT, e1]; rfl
    clear hT
    simp only [Bt.ok, decide_eq_true_iff] at e1
    go_upto_region 3 with (go_at_call 19; refine (HB.out _).mono ?_; rintro e w' ⟨rfl, hb⟩; rw [e2.out]; replace H := bstep H hb; clear hb)
    have z0 := cell_regrown ((H.cell b0).trans x0)
    have z1 := cell_regrown ((H.cell b0).trans x1)
    have HT2 := Lib.hid (HT1.out.below H)
    clear x0 x1
    have hs1 := itoa_short hk.1 (by omega)
    have hs2 := itoa_short (n := b.y) (by omega) (by omega)
    have HD1 := Lib.hid (fun W hW => decimal_any b.k (by omega) (by omega) W hW)
    have HD2 := Lib.hid (fun W hW => decimal_any b.y (by omega) (by omega) W hW)
    have HE : Hid (.string ⟨(botT b).toArray⟩ = Value.string (((⟨(Lib.itoa b.k).toArray⟩ : ByteArray) ++ ⟨#[58]⟩) ++ ⟨(Lib.itoa b.y).toArray⟩)) := by
      rw [Hid, itoa_nat hk.1, itoa_nat (by omega), botT]
      refine congrArg Value.string (ByteArray.ext ?_)
      simp [ByteArray.data_append]
    have hz1 : (⟨(Lib.itoa b.k).toArray⟩ : ByteArray).size ≤ 100001 := hs1
    have hz2 : (⟨(Lib.itoa b.y).toArray⟩ : ByteArray).size ≤ 100001 := hs2
    clear hs1 hs2
    generalize (⟨(Lib.itoa b.k).toArray⟩ : ByteArray) = SA at HD1 HE hz1
    generalize (⟨(Lib.itoa b.y).toArray⟩ : ByteArray) = SB at HD2 HE hz2
    have f1 : ¬ (9223372036854775807 < SA.size + 1) := by omega
    have f2 : ¬ (9223372036854775807 < SA.size + 1 + SB.size) := by omega
    have H3 := bstep H0 H
    clear H hz1 hz2
    have hwk : IntKind.i64.wrap b.k = b.k := by rw [IntKind.wrap_i64]; omega
    have hwy : IntKind.i64.wrap b.y = b.y := by rw [IntKind.wrap_i64]; omega
    have H := Below.refl w'.heap.size w'
    refine wp_region_qB (by kernel_rfl) (by kernel_rfl) ?_
    (repeat (first | fail | (apply qB_step; intro K hK; go_simp; first | (refine hK _ ?_; clear hK K) | (apply Exists.intro; refine ⟨fun _ => ?_, hK _ ?_⟩; (first | (go_at_call 66 <;> first | exact HD1.out _ (HT2.out.below (below_regrown _ _ _)) | exact HD2.out _ (HT2.out.below (below_regrown _ _ _)))); clear hK K))))
    refine qB_nil ?_
    intro w1 hw1
    replace H := bstep H hw1
    clear hw1
    go_wp2
    go_ret
    exact ⟨congrArg Ending.returned HE.out.symm, bstep H3 H⟩
end Go.Proofs.YtbngpcghognojaaGreatDoor
namespace Go.Proofs.YtbngpcghognojaaGreatDoor
open Go Go.Sort Go.RowKit
set_option linter.unusedVariables false
set_option linter.unusedSimpArgs false
set_option maxRecDepth 100000
set_option maxHeartbeats 400000
attribute [local go_sem] Oper.qB
end Go.Proofs.YtbngpcghognojaaGreatDoor
