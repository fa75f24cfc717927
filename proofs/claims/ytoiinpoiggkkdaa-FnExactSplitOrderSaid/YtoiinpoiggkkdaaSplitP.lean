/- Split orders: filled up from the last, or closed one by one. -/
import Derived.Test.YtoiinpoiggkkdaaOrder
namespace Go.Proofs.Ytoiinpoiggkkdaa
open Go Go.RowKit
set_option linter.unusedVariables false
set_option linter.unusedSimpArgs false
set_option maxRecDepth 100000
/-- So many of a bottle. -/
def wtN (b : Bt) (n : Int) : Wt := if h : -32768 ≤ n ∧ n ≤ 32767 then ⟨b, n, h⟩ else ⟨b, 0, by decide⟩
theorem wtN_n {b : Bt} {n : Int} (h : -32768 ≤ n ∧ n ≤ 32767) : wtN b n = ⟨b, n, h⟩ := dif_pos h
/-- The last list grown. -/
def appL (o : List (List Wt)) (x : Wt) : List (List Wt) := o.dropLast ++ [(o.getLast?.getD []) ++ [x]]
theorem appL_snoc (o : List (List Wt)) (l : List Wt) (x : Wt) : appL (o ++ [l]) x = o ++ [l ++ [x]] := by
  simp [appL]
/-- The program's round. -/
def spIs (most : Int) (s : List (List Wt) × Int) : List (List Wt) × Int := if s.2 = 0 then (s.1 ++ [[]], most) else s
def spI (most : Int) (b : Bt) : Nat → Int → List (List Wt) × Int → List (List Wt) × Int
  | 0, _, s => s
  | f + 1, n, s => if n ≤ 0 then s else spI most b f (n - min (spIs most s).2 n) (appL (spIs most s).1 (wtN b (min (spIs most s).2 n)), (spIs most s).2 - min (spIs most s).2 n)
/-- The reference's round. -/
def spSs (most : Int) (b : Bt) (n : Int) (s : List (List Wt) × List Wt × Int) : List (List Wt) × List Wt × Int :=
  if s.2.2 - min n s.2.2 = 0 then (s.1 ++ [s.2.1 ++ [wtN b (min n s.2.2)]], [], most) else (s.1, s.2.1 ++ [wtN b (min n s.2.2)], s.2.2 - min n s.2.2)
def spS (most : Int) (b : Bt) : Nat → Int → List (List Wt) × List Wt × Int → List (List Wt) × List Wt × Int
  | 0, _, s => s
  | f + 1, n, s => if n ≤ 0 then s else spS most b f (n - min n s.2.2) (spSs most b n s)
/-- How the two stand. -/
def SpR (most : Int) (s : List (List Wt) × Int) (t : List (List Wt) × List Wt × Int) : Prop :=
  (t.2.1 = [] ∧ s.2 = 0 ∧ t.2.2 = most ∧ s.1 = t.1) ∨ (t.2.1 ≠ [] ∧ 0 < s.2 ∧ s.2 = t.2.2 ∧ s.1 = t.1 ++ [t.2.1])
theorem spR_round {most : Int} {b : Bt} {n : Int} {s : List (List Wt) × Int} {t : List (List Wt) × List Wt × Int} (hm : 0 < most) (hn : 0 < n) (h : SpR most s t) :
    min (spIs most s).2 n = min n t.2.2 ∧ SpR most (appL (spIs most s).1 (wtN b (min (spIs most s).2 n)), (spIs most s).2 - min (spIs most s).2 n) (spSs most b n t) := by
  obtain ⟨o, l⟩ := s
  obtain ⟨o', now, room⟩ := t
  rcases h with ⟨h1, h2, h3, h4⟩ | ⟨h1, h2, h3, h4⟩
  · simp only at h1 h2 h3 h4
    subst h1 h2 h3 h4
    have e : spIs room (o, 0) = (o ++ [[]], room) := if_pos rfl
    rw [e]
    simp only
    have hmin : min room n = min n room := by omega
    refine ⟨hmin, ?_⟩
    rw [appL_snoc, hmin]
    unfold spSs
    simp only
    split
    · rename_i h0
      exact .inl ⟨rfl, h0, rfl, rfl⟩
    · rename_i h0
      exact .inr ⟨by simp, by show 0 < room - min n room; omega, rfl, rfl⟩
  · simp only at h1 h2 h3 h4
    subst h3 h4
    have e : spIs most (o' ++ [now], l) = (o' ++ [now], l) := if_neg (by show l ≠ 0; omega)
    rw [e]
    simp only
    have hmin : min l n = min n l := by omega
    refine ⟨hmin, ?_⟩
    rw [appL_snoc, hmin]
    unfold spSs
    simp only
    split
    · rename_i h0
      exact .inl ⟨rfl, h0, rfl, rfl⟩
    · rename_i h0
      exact .inr ⟨by simp, by show 0 < l - min n l; omega, rfl, rfl⟩
theorem spR_all {most : Int} {b : Bt} (hm : 0 < most) : ∀ (f : Nat) (n : Int) (s : List (List Wt) × Int) (t : List (List Wt) × List Wt × Int), SpR most s t → SpR most (spI most b f n s) (spS most b f n t)
  | 0, _, _, _, h => h
  | f + 1, n, s, t, h => by
    rw [spI, spS]
    by_cases hn : n ≤ 0
    · rw [if_pos hn, if_pos hn]
      exact h
    · rw [if_neg hn, if_neg hn]
      obtain ⟨h1, h2⟩ := spR_round (b := b) (n := n) hm (by omega) h
      rw [← h1]
      exact spR_all hm f _ _ _ h2
/-- Order by order. -/
def splI (l : List Wt) (most : Int) : Nat → List (List Wt) × Int
  | 0 => ([], 0)
  | i + 1 => spI most l[i]!.b l[i]!.n.toNat l[i]!.n (splI l most i)
def splS (l : List Wt) (most : Int) : Nat → List (List Wt) × List Wt × Int
  | 0 => ([], [], most)
  | i + 1 => spS most l[i]!.b l[i]!.n.toNat l[i]!.n (splS l most i)
theorem spl_rel {l : List Wt} {most : Int} (hm : 0 < most) : ∀ i, SpR most (splI l most i) (splS l most i)
  | 0 => .inl ⟨rfl, rfl, rfl, rfl⟩
  | i + 1 => spR_all hm _ _ _ _ (spl_rel hm i)
def closeS (t : List (List Wt) × List Wt × Int) : List (List Wt) := if t.2.1 = [] then t.1 else t.1 ++ [t.2.1]
theorem spl_eq {l : List Wt} {most : Int} (hm : 0 < most) (i : Nat) : closeS (splS l most i) = (splI l most i).1 := by
  unfold closeS
  rcases spl_rel (l := l) hm i with ⟨h1, h2, h3, h4⟩ | ⟨h1, h2, h3, h4⟩
  · rw [if_pos h1, h4]
  · rw [if_neg h1, h4]
def splCode (l : List Wt) (most : Int) : Int := if ordOk l = true then (if 1 ≤ most ∧ most ≤ 144 then 0 else 2) else 1
def splitR (l : List Wt) (most : Int) : List (List Wt) × Int := if splCode l most = 0 then ((splI l most l.length).1, 0) else ([], splCode l most)
/-- How many bottles are wanted from the i-th want on. -/
def restN (l : List Wt) (i : Nat) : Nat := ((l.drop i).map fun x => x.n.toNat).sum
theorem restN_step {l : List Wt} {i : Nat} (h : i < l.length) : restN l i = l[i]!.n.toNat + restN l (i + 1) := by
  unfold restN
  rw [List.drop_eq_getElem_cons h, List.map_cons, List.sum_cons, getB h]
theorem restN_le {l : List Wt} (h : ordOk l = true) : restN l 0 ≤ 1152 := by
  simp only [ordOk, Bool.and_eq_true, decide_eq_true_iff] at h
  have key : ∀ (m : List Wt), (∀ x ∈ m, x.n ≤ 144) → ((m.map fun x => x.n.toNat).sum) ≤ 144 * m.length := by
    intro m
    induction m with
    | nil => intro _; simp
    | cons x m ih =>
      intro hm
      have h1 := hm x (List.mem_cons_self ..)
      have h2 := ih fun y hy => hm y (List.mem_cons_of_mem _ hy)
      rw [List.map_cons, List.sum_cons, List.length_cons]
      omega
  have := key l fun x hx => by
    obtain ⟨i, hi, rfl⟩ := List.getElem_of_mem hx
    have := (h.1 i hi).1
    rw [getB hi] at this
    simp only [Wt.ok, Bool.and_eq_true, decide_eq_true_iff] at this
    omega
  unfold restN
  rw [List.drop_zero]
  have := h.2
  omega
/-- How much there is. -/
def totL (o : List (List Wt)) : Nat := (o.map List.length).sum
theorem totL_app (o p : List (List Wt)) : totL (o ++ p) = totL o + totL p := by simp [totL]
theorem totL_appL {o : List (List Wt)} (x : Wt) (h : o ≠ []) : totL (appL o x) = totL o + 1 ∧ (appL o x).length = o.length := by
  obtain ⟨p, l, rfl⟩ : ∃ p l, o = p ++ [l] := ⟨o.dropLast, o.getLast h, (List.dropLast_concat_getLast h).symm⟩
  rw [appL_snoc, totL_app, totL_app]
  simp [totL]
  omega
/-- Never more than there are bottles. -/
theorem spI_le {most : Int} {b : Bt} (hm : 0 < most) : ∀ (f : Nat) (n : Int) (s : List (List Wt) × Int) (D : Nat), 0 ≤ s.2 → (s.2 ≠ 0 → s.1 ≠ []) → s.1.length ≤ D → totL s.1 ≤ D → 0 ≤ (spI most b f n s).2 ∧ ((spI most b f n s).2 ≠ 0 → (spI most b f n s).1 ≠ []) ∧ (spI most b f n s).1.length ≤ D + n.toNat ∧ totL (spI most b f n s).1 ≤ D + n.toNat
  | 0, n, s, D, h0, h1, h2, h3 => ⟨h0, h1, by show s.1.length ≤ _; omega, by show totL s.1 ≤ _; omega⟩
  | f + 1, n, s, D, h0, h1, h2, h3 => by
    rw [spI]
    by_cases hn : n ≤ 0
    · rw [if_pos hn]
      exact ⟨h0, h1, by omega, by omega⟩
    · rw [if_neg hn]
      have hs : (spIs most s).1 ≠ [] ∧ 0 < (spIs most s).2 ∧ (spIs most s).1.length ≤ D + 1 ∧ totL (spIs most s).1 ≤ D := by
        unfold spIs
        split
        · refine ⟨by simp, hm, by simp; omega, ?_⟩
          rw [totL_app]
          simp [totL] at h3 ⊢
          exact h3
        · rename_i h
          exact ⟨h1 h, by omega, by omega, h3⟩
      obtain ⟨q1, q2, q3, q4⟩ := hs
      obtain ⟨t1, t2⟩ := totL_appL (wtN b (min (spIs most s).2 n)) q1
      have := spI_le (b := b) hm f (n - min (spIs most s).2 n) (appL (spIs most s).1 (wtN b (min (spIs most s).2 n)), (spIs most s).2 - min (spIs most s).2 n) (D + 1) (by show 0 ≤ _ - _; omega) (fun _ => by show appL _ _ ≠ []; intro e; rw [e] at t2; exact q1 (List.length_eq_zero_iff.1 t2.symm)) (by show (appL _ _).length ≤ _; omega) (by show totL (appL _ _) ≤ _; omega)
      exact ⟨this.1, this.2.1, by omega, by omega⟩
theorem spI_most {most : Int} {b : Bt} (hm : 0 < most) : ∀ (f : Nat) (n : Int) (s : List (List Wt) × Int), s.2 ≤ most → (spI most b f n s).2 ≤ most
  | 0, n, s, h => h
  | f + 1, n, s, h => by
    rw [spI]
    by_cases hn : n ≤ 0
    · rw [if_pos hn]
      exact h
    · rw [if_neg hn]
      refine spI_most hm f _ _ ?_
      have : (spIs most s).2 ≤ most := by
        unfold spIs
        split
        · exact Int.le_refl _
        · exact h
      have h0 : 0 ≤ (spIs most s).2 ∨ (spIs most s).2 < 0 := by omega
      show (spIs most s).2 - min (spIs most s).2 n ≤ most
      omega
theorem splI_most {l : List Wt} {most : Int} (hm : 0 < most) : ∀ i, (splI l most i).2 ≤ most
  | 0 => by show (0 : Int) ≤ most; omega
  | i + 1 => spI_most hm _ _ _ (splI_most hm i)
theorem splI_le {l : List Wt} {most : Int} (hm : 0 < most) : ∀ i, i ≤ l.length → ∃ D : Nat, D + restN l i = restN l 0 ∧ 0 ≤ (splI l most i).2 ∧ ((splI l most i).2 ≠ 0 → (splI l most i).1 ≠ []) ∧ (splI l most i).1.length ≤ D ∧ totL (splI l most i).1 ≤ D
  | 0, _ => ⟨0, by omega, Int.le_refl _, fun h => absurd rfl h, Nat.le_refl _, Nat.le_refl _⟩
  | i + 1, hi => by
    obtain ⟨D, h1, h2, h3, h4, h5⟩ := splI_le (l := l) hm i (by omega)
    have := restN_step (l := l) (i := i) (by omega)
    obtain ⟨q1, q2, q3, q4⟩ := spI_le (b := l[i]!.b) hm l[i]!.n.toNat l[i]!.n (splI l most i) D h2 h3 h4 h5
    exact ⟨D + l[i]!.n.toNat, by omega, q1, q2, q3, q4⟩
theorem splitR_le (l : List Wt) (most : Int) : (splitR l most).1.length ≤ 1152 ∧ totL (splitR l most).1 ≤ 1152 := by
  unfold splitR
  split
  · rename_i h
    unfold splCode at h
    split at h
    · rename_i hok
      split at h
      · rename_i hm
        obtain ⟨D, h1, h2, h3, h4, h5⟩ := splI_le (l := l) (most := most) (by omega) l.length (Nat.le_refl _)
        have := restN_le hok
        exact ⟨by show (splI l most l.length).1.length ≤ _; omega, by show totL (splI l most l.length).1 ≤ _; omega⟩
      · cases h
    · cases h
  · simp [totL]
end Go.Proofs.Ytoiinpoiggkkdaa
