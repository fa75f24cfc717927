/- Bottles in order: the reference's insertion. -/
import Derived.Test.YtoiinpoiggkkdaaSort
import Derived.Test.YtoiinpoiggkkdaaCases
namespace Go.Proofs.Ytoiinpoiggkkdaa
open Go Go.Sort Go.RowKit
set_option linter.unusedVariables false
set_option linter.unusedSimpArgs false
set_option maxRecDepth 100000
set_option maxHeartbeats 1000000
attribute [local go_sem] Oper.qB
theorem OwnS.cat {α : Type} {f : α → List Value} {k : Nat} {w : World} {B e g n cap : Nat} {l : List α} (h : OwnS f w B e k (.slice (some ⟨g, 0, none⟩) n cap) l) : n = l.length ∧ Lies f w g l := by
  obtain ⟨h1, g', cap', hv⟩ := h
  simp only [Value.slice.injEq] at hv
  obtain ⟨_, rfl, _⟩ := hv
  exact ⟨rfl, own_lies h1⟩
theorem OwnS.setEl {α : Type} {f : α → List Value} {k : Nat} (hf : ∀ x, (f x).length = k) {w : World} {B e g n cap i : Nat} {l : List α} (x : α) (h : OwnS f w B e k (.slice (some ⟨g, 0, none⟩) n cap) l) (hi : i < l.length) :
    OwnS f (putEl w g (i * k) (f x).toArray) B e k (.slice (some ⟨g, 0, none⟩) n cap) (l.set i x) := by
  obtain rfl := h.cat.1
  have := putEl_own h.1 hi (vs := (f x).toArray) (by simp [hf])
  refine ⟨?_, g, cap, by rw [List.length_set]⟩
  rw [List.length_set, fl_set hf l i x hi]
  exact this
theorem OwnS.room {α : Type} {f : α → List Value} {k : Nat} {w : World} {B e g n cap i : Nat} {l : List α} {vs : Array Value} (h : OwnS f w B e k (.slice (some ⟨g, 0, none⟩) n cap) l) (hi : i < l.length) (hs : vs.size = k) : ∃ cur, rowOf w g = some cur ∧ i * k + vs.size ≤ cur.size := by
  obtain rfl := h.cat.1
  exact own_room h.1 hi hs
theorem rowOf_putEl_ne {w : World} {g g' o : Nat} {vs : Array Value} (h : g' ≠ g) : rowOf (putEl w g o vs) g' = rowOf w g' := by
  unfold putEl
  split
  · exact rowOf_setRow_ne h
  · rfl
/-- Sorted elements with a hole at k, others behind. -/
def holeL (S R : List Bt) (k : Nat) (h : Bt) : List Bt := S.take k ++ h :: (S.drop k ++ R)
theorem holeL_length {S R : List Bt} {k : Nat} {h : Bt} : (holeL S R k h).length = S.length + 1 + R.length := by
  simp only [holeL, List.length_append, List.length_take, List.length_cons, List.length_drop]
  omega
theorem holeL_end {S R : List Bt} {h : Bt} : holeL S R S.length h = S ++ h :: R := by simp [holeL]
theorem holeL_at {S R : List Bt} {k : Nat} {h : Bt} (hk : k < S.length) : (holeL S R (k + 1) h)[k]! = S[k] := by
  have hl : k < (holeL S R (k + 1) h).length := by rw [holeL_length]; omega
  have e : (holeL S R (k + 1) h)[k]? = some S[k] := by
    unfold holeL
    rw [List.getElem?_append_left (by simp; omega), List.getElem?_take_of_lt (by omega), List.getElem?_eq_getElem hk]
  rw [getB hl]
  rw [List.getElem?_eq_getElem hl] at e
  exact Option.some.inj e
theorem holeL_set {S R : List Bt} {k : Nat} {h x : Bt} (hk : k ≤ S.length) : (holeL S R k h).set k x = holeL S R k x := by
  unfold holeL
  have : (S.take k).length = k := by simp; omega
  rw [List.set_append_right _ _ (by omega), this, Nat.sub_self]
  rfl
theorem holeL_down {S R : List Bt} {k : Nat} (hk : k < S.length) : holeL S R (k + 1) S[k] = holeL S R k S[k] := by
  unfold holeL
  rw [List.take_succ_eq_append_getElem hk, List.drop_eq_getElem_cons hk]
  simp only [List.append_assoc, List.cons_append, List.nil_append]
/-- S, into which x has been put at k. -/
def putS (S : List Bt) (k : Nat) (x : Bt) : List Bt := S.take k ++ x :: S.drop k
theorem holeL_put {S R : List Bt} {k : Nat} {x : Bt} : holeL S R k x = putS S k x ++ R := by simp [holeL, putS]
theorem putS_perm {S : List Bt} {k : Nat} {x : Bt} {T : List Bt} (h : S.Perm T) : (putS S k x).Perm (T ++ [x]) := by
  unfold putS
  refine List.perm_middle.trans ?_
  rw [List.take_append_drop]
  exact (List.Perm.cons x h).trans (List.perm_append_singleton x T).symm
theorem putS_sorted {S : List Bt} {k : Nat} {x : Bt} (hS : S.Pairwise fun a b => leB a b = true) (h1 : ∀ y ∈ S.drop k, leB x y = true) (h2 : ∀ y ∈ S.take k, leB y x = true) : (putS S k x).Pairwise fun a b => leB a b = true := by
  unfold putS
  rw [List.pairwise_append]
  refine ⟨hS.sublist (List.take_sublist _ _), ?_, ?_⟩
  · rw [List.pairwise_cons]
    exact ⟨h1, hS.sublist (List.drop_sublist _ _)⟩
  · intro a ha b hb
    rcases List.mem_cons.1 hb with rfl | hb
    · exact h2 a ha
    · have hS' := hS
      rw [← List.take_append_drop k S, List.pairwise_append] at hS'
      exact hS'.2.2 a ha b hb
theorem le_of_lt {a b : Bt} (h : a.cmp b < 0) : leB a b = true := by
  rw [leB_iff, cmp_neg]
  rw [cmp_neg] at h
  omega
theorem take_le {S : List Bt} {k : Nat} {x : Bt} (hS : S.Pairwise fun a b => leB a b = true) (hk : k < S.length) (h : ¬ x.cmp S[k] < 0) : ∀ y ∈ S.take (k + 1), leB y x = true := by
  intro y hy
  rw [List.take_succ_eq_append_getElem hk, List.mem_append] at hy
  rcases hy with hy | hy
  · have hS' := hS
    rw [← List.take_append_drop k S, List.pairwise_append] at hS'
    have h3 := hS'.2.2 y hy S[k] (by rw [List.drop_eq_getElem_cons hk]; exact List.mem_cons_self)
    exact leB_trans _ _ _ h3 (leB_iff.2 h)
  · obtain rfl : y = S[k] := by simpa using hy
    exact leB_iff.2 h
end Go.Proofs.Ytoiinpoiggkkdaa
