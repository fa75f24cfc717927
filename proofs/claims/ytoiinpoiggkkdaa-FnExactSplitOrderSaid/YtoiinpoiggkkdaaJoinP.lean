/- Joined orders: merged, or put in order behind the joining. -/
import Derived.Test.YtoiinpoiggkkdaaOrder
import Derived.Test.YtoiinpoiggkkdaaSort
namespace Go.Proofs.Ytoiinpoiggkkdaa
open Go Go.RowKit
set_option linter.unusedVariables false
set_option linter.unusedSimpArgs false
set_option maxRecDepth 100000
theorem wrap16_in (n : Int) : -32768 ≤ IntKind.i16.wrap n ∧ IntKind.i16.wrap n ≤ 32767 := by
  have e : IntKind.i16.wrap n = if n % 65536 ≥ 32768 then n % 65536 - 65536 else n % 65536 := by
    simp [IntKind.wrap, IntKind.bits, IntKind.signed]
  rw [e]
  split <;> omega
/-- Two wants of one bottle. -/
def addW (x y : Wt) : Wt := ⟨x.b, IntKind.i16.wrap (x.n + y.n), wrap16_in _⟩
theorem cmp_pos {a b : Bt} : 0 < a.cmp b ↔ b.cmp a < 0 := by
  rw [cmp_neg]
  unfold Bt.cmp
  repeat' split
  all_goals omega
theorem cmp_tri {a b : Bt} (h : ¬ a.cmp b < 0) (h' : ¬ 0 < a.cmp b) : a = b := by
  rw [cmp_pos] at h'
  rw [cmp_neg] at h h'
  exact Bt.ext2 (by omega) (by omega)
theorem cmp_trans {a b c : Bt} (h : a.cmp b < 0) (h' : b.cmp c < 0) : a.cmp c < 0 := by
  rw [cmp_neg] at *
  omega
theorem cmp_ne {a b : Bt} (h : a.cmp b < 0) : a ≠ b := fun e => by
  subst e
  rw [cmp_neg] at h
  omega
/-- Merged. -/
def joinW : List Wt → List Wt → List Wt
  | [], b => b
  | x :: a, [] => x :: a
  | x :: a, y :: b => if x.b.cmp y.b < 0 then x :: joinW a (y :: b) else if 0 < x.b.cmp y.b then y :: joinW (x :: a) b else addW x y :: joinW a b
termination_by a b => a.length + b.length
/-- The want of a bottle. -/
def hasW (b : List Wt) (t : Bt) : Option Wt := b.find? fun q => decide (q.b = t)
def addB (b : List Wt) (p : Wt) : Wt := match hasW b p.b with
  | some q => addW p q
  | none => p
theorem addB_b (b : List Wt) (p : Wt) : (addB b p).b = p.b := by
  unfold addB
  split <;> rfl
def notin (a : List Wt) (q : Wt) : Bool := a.all fun p => decide (p.b ≠ q.b)
/-- Joined in another order. -/
def impJ (a b : List Wt) : List Wt := a.map (addB b) ++ b.filter (notin a)
/-- Bottles rise. -/
def Str (l : List Wt) : Prop := l.Pairwise fun x y => x.b.cmp y.b < 0
theorem hasW_none {b : List Wt} {t : Bt} (h : ∀ q ∈ b, q.b ≠ t) : hasW b t = none := by
  unfold hasW
  rw [List.find?_eq_none]
  intro q hq
  simpa using h q hq
theorem hasW_skip {b : List Wt} {y : Wt} {t : Bt} (h : y.b ≠ t) : hasW (y :: b) t = hasW b t := by
  unfold hasW
  rw [List.find?_cons_of_neg (by simpa using h)]
theorem hasW_hit {b : List Wt} {y : Wt} : hasW (y :: b) y.b = some y := by
  unfold hasW
  rw [List.find?_cons_of_pos (by simp)]
theorem addB_none {b : List Wt} {p : Wt} (h : ∀ q ∈ b, q.b ≠ p.b) : addB b p = p := by
  unfold addB
  rw [hasW_none h]
theorem addB_skip {b : List Wt} {y p : Wt} (h : y.b ≠ p.b) : addB (y :: b) p = addB b p := by
  unfold addB
  rw [hasW_skip h]
theorem notin_skip {a : List Wt} {x q : Wt} (h : x.b ≠ q.b) : notin (x :: a) q = notin a q := by
  simp [notin, h]
theorem notin_yes {a : List Wt} {q : Wt} (h : ∀ p ∈ a, p.b ≠ q.b) : notin a q = true := by
  unfold notin
  rw [List.all_eq_true]
  intro p hp
  simpa using h p hp
theorem notin_no {a : List Wt} {p q : Wt} (hp : p ∈ a) (h : p.b = q.b) : notin a q = false := by
  rw [← Bool.not_eq_true]
  unfold notin
  rw [List.all_eq_true]
  intro hh
  have := hh p hp
  simp [h] at this
theorem join_perm : ∀ a b : List Wt, Str a → Str b → (joinW a b).Perm (impJ a b)
  | [], b, _, _ => by
    rw [joinW]
    have : b.filter (notin []) = b := List.filter_eq_self.2 fun q _ => rfl
    simp [impJ, this]
  | x :: a, [], _, _ => by
    rw [joinW]
    have : (x :: a).map (addB []) = x :: a := by
      conv => rhs; rw [← List.map_id (x :: a)]
      exact List.map_congr_left fun p _ => rfl
    unfold impJ
    rw [this]
    simp
  | x :: a, y :: b, ha, hb => by
    have ha' := List.pairwise_cons.1 ha
    have hb' := List.pairwise_cons.1 hb
    rw [joinW]
    split
    · rename_i h
      have hne : ∀ q ∈ y :: b, x.b ≠ q.b := fun q hq => by
        rcases List.mem_cons.1 hq with rfl | hq
        · exact cmp_ne h
        · exact cmp_ne (cmp_trans h (hb'.1 q hq))
      have e1 : addB (y :: b) x = x := addB_none fun q hq => (hne q hq).symm
      have e2 : (y :: b).filter (notin (x :: a)) = (y :: b).filter (notin a) := List.filter_congr fun q hq => notin_skip (hne q hq)
      unfold impJ
      rw [List.map_cons, e1, e2, List.cons_append]
      exact (join_perm a (y :: b) ha'.2 hb).cons x
    · split
      · rename_i _ h
        rw [cmp_pos] at h
        have hne : ∀ p ∈ x :: a, y.b ≠ p.b := fun p hp => by
          rcases List.mem_cons.1 hp with rfl | hp
          · exact cmp_ne h
          · exact cmp_ne (cmp_trans h (ha'.1 p hp))
        have e1 : (x :: a).map (addB (y :: b)) = (x :: a).map (addB b) := List.map_congr_left fun p hp => addB_skip (hne p hp)
        unfold impJ
        rw [e1, List.filter_cons_of_pos (notin_yes fun p hp => (hne p hp).symm)]
        exact ((join_perm (x :: a) b ha hb'.2).cons y).trans List.perm_middle.symm
      · rename_i h1 h2
        have hxy := cmp_tri h1 h2
        have hpa : ∀ p ∈ a, y.b ≠ p.b := fun p hp => by rw [← hxy]; exact cmp_ne (ha'.1 p hp)
        have hqb : ∀ q ∈ b, x.b ≠ q.b := fun q hq => by rw [hxy]; exact cmp_ne (hb'.1 q hq)
        have e1 : addB (y :: b) x = addW x y := by
          unfold addB
          rw [hxy, hasW_hit]
        have e2 : a.map (addB (y :: b)) = a.map (addB b) := List.map_congr_left fun p hp => addB_skip (hpa p hp)
        have e3 : (y :: b).filter (notin (x :: a)) = b.filter (notin a) := by
          rw [List.filter_cons_of_neg (by rw [notin_no (List.mem_cons_self ..) hxy]; decide)]
          exact List.filter_congr fun q hq => notin_skip (hqb q hq)
        unfold impJ
        rw [List.map_cons, e1, e2, e3, List.cons_append]
        exact (join_perm a b ha'.2 hb'.2).cons _
termination_by a b => a.length + b.length
theorem impJ_mem {a b : List Wt} {z : Wt} (h : z ∈ impJ a b) : (∃ p ∈ a, z.b = p.b) ∨ z ∈ b := by
  unfold impJ at h
  rcases List.mem_append.1 h with h | h
  · obtain ⟨p, hp, rfl⟩ := List.mem_map.1 h
    exact .inl ⟨p, hp, addB_b b p⟩
  · exact .inr (List.mem_filter.1 h).1
theorem join_mem {a b : List Wt} (ha : Str a) (hb : Str b) {z : Wt} (h : z ∈ joinW a b) : (∃ p ∈ a, z.b = p.b) ∨ z ∈ b := impJ_mem ((join_perm a b ha hb).mem_iff.1 h)
theorem join_str : ∀ a b : List Wt, Str a → Str b → Str (joinW a b)
  | [], b, _, hb => by rw [joinW]; exact hb
  | x :: a, [], ha, _ => by rw [joinW]; exact ha
  | x :: a, y :: b, ha, hb => by
    have ha' := List.pairwise_cons.1 ha
    have hb' := List.pairwise_cons.1 hb
    rw [joinW]
    split
    · rename_i h
      refine List.pairwise_cons.2 ⟨fun z hz => ?_, join_str a (y :: b) ha'.2 hb⟩
      rcases join_mem ha'.2 hb hz with ⟨p, hp, e⟩ | hq
      · rw [e]; exact ha'.1 p hp
      · rcases List.mem_cons.1 hq with rfl | hq
        · exact h
        · exact cmp_trans h (hb'.1 z hq)
    · split
      · rename_i _ h
        rw [cmp_pos] at h
        refine List.pairwise_cons.2 ⟨fun z hz => ?_, join_str (x :: a) b ha hb'.2⟩
        rcases join_mem ha hb'.2 hz with ⟨p, hp, e⟩ | hq
        · rw [e]
          rcases List.mem_cons.1 hp with rfl | hp
          · exact h
          · exact cmp_trans h (ha'.1 p hp)
        · exact hb'.1 z hq
      · rename_i h1 h2
        have hxy := cmp_tri h1 h2
        refine List.pairwise_cons.2 ⟨fun z hz => ?_, join_str a b ha'.2 hb'.2⟩
        show x.b.cmp z.b < 0
        rcases join_mem ha'.2 hb'.2 hz with ⟨p, hp, e⟩ | hq
        · rw [e]; exact ha'.1 p hp
        · rw [hxy]; exact hb'.1 z hq
termination_by a b => a.length + b.length
theorem str_inj {l : List Wt} (h : Str l) {x y : Wt} (hx : x ∈ l) (hy : y ∈ l) (e : x.b = y.b) : x = y := by
  induction l with
  | nil => cases hx
  | cons z l ih =>
    have h' := List.pairwise_cons.1 h
    rcases List.mem_cons.1 hx with e1 | hx
    · rcases List.mem_cons.1 hy with e2 | hy
      · rw [e1, e2]
      · rw [e1] at e
        exact absurd e (cmp_ne (h'.1 y hy))
    · rcases List.mem_cons.1 hy with e2 | hy
      · rw [e2] at e
        exact absurd e.symm (cmp_ne (h'.1 x hx))
      · exact ih h'.2 hx hy
/-- There is one way to put joined orders in order. -/
theorem join_sorted {a b s : List Wt} (ha : Str a) (hb : Str b) (hp : s.Perm (impJ a b)) (hs : s.Pairwise fun x y => ¬ y.b.cmp x.b < 0) : s = joinW a b := by
  have hpj := hp.trans (join_perm a b ha hb).symm
  have hstr := join_str a b ha hb
  refine List.Perm.eq_of_pairwise (le := fun x y : Wt => ¬ y.b.cmp x.b < 0) (fun x y hx hy h h' => ?_) hs (hstr.imp fun {x y} h => ?_) hpj
  · refine str_inj hstr (hpj.mem_iff.1 hx) hy ?_
    rw [cmp_neg] at h h'
    exact Bt.ext2 (by omega) (by omega)
  · rw [cmp_neg] at h ⊢
    omega
theorem okK_str {l : List Wt} (h : okK l l.length) : Str l := by
  have key : ∀ i, i < l.length → ∀ j, j < i → l[j]!.b.cmp l[i]!.b < 0 := by
    intro i
    induction i with
    | zero => intro _ j hj; exact absurd hj (Nat.not_lt_zero _)
    | succ i ih =>
      intro hi j hj
      have h1 := (h (i + 1) hi).2 (Nat.succ_pos _)
      rw [Nat.add_sub_cancel] at h1
      rcases Nat.lt_or_ge j i with q | q
      · exact cmp_trans (ih (by omega) j q) h1
      · obtain rfl : j = i := by omega
        exact h1
  refine List.pairwise_iff_getElem.2 fun i j hi hj hij => ?_
  have := key j hj i hij
  rwa [getB hi, getB hj] at this
theorem ordOk_str {l : List Wt} (h : ordOk l = true) : Str l := by
  simp only [ordOk, Bool.and_eq_true, decide_eq_true_iff] at h
  exact okK_str h.1
/-- The lists that the program makes, want by want of the second order. -/
theorem impJ_nil (a : List Wt) : impJ a [] = a := by
  have : a.map (addB []) = a := by
    conv => rhs; rw [← List.map_id a]
    exact List.map_congr_left fun p _ => rfl
  simp [impJ, this]
theorem hasW_snoc {b : List Wt} {w : Wt} {t : Bt} : hasW (b ++ [w]) t = (hasW b t).or (if w.b = t then some w else none) := by
  unfold hasW
  rw [List.find?_append]
  congr 1
  by_cases h : w.b = t <;> simp [h]
theorem impJ_new {a b : List Wt} {w : Wt} (hn : ∀ p ∈ a, p.b ≠ w.b) : impJ a (b ++ [w]) = impJ a b ++ [w] := by
  unfold impJ
  have e1 : a.map (addB (b ++ [w])) = a.map (addB b) := List.map_congr_left fun p hp => by
    unfold addB
    rw [hasW_snoc, if_neg (fun e => hn p hp e.symm), Option.or_none]
  rw [e1, List.filter_append, List.append_assoc, List.filter_cons_of_pos (notin_yes hn), List.filter_nil]
theorem impJ_old {a b : List Wt} {w : Wt} {i : Nat} (hi : i < a.length) (hw : a[i]!.b = w.b) (ha : Str a) (hb : ∀ q ∈ b, q.b ≠ w.b) : impJ a (b ++ [w]) = (impJ a b).set i (addW a[i]! w) ∧ (impJ a b)[i]! = a[i]! := by
  have hm : a[i]! ∈ a := by rw [getB hi]; exact List.getElem_mem hi
  have hlen : i < (a.map (addB b)).length := by rw [List.length_map]; exact hi
  have h0 : addB b a[i]! = a[i]! := addB_none fun q hq => by rw [hw]; exact hb q hq
  constructor
  · unfold impJ
    rw [List.filter_append, List.filter_cons_of_neg (by rw [notin_no hm hw]; decide), List.filter_nil, List.append_nil, List.set_append_left _ _ hlen]
    congr 1
    apply List.ext_getElem
    · simp
    · intro j h1 h2
      have hj : j < a.length := by simpa using h1
      rw [List.getElem_map, List.getElem_set]
      split
      · rename_i e
        subst e
        rw [← getB hj]
        unfold addB
        rw [hasW_snoc, hasW_none (by rw [hw]; exact hb), hw]
        simp
      · rename_i e
        rw [List.getElem_map]
        unfold addB
        have hne : w.b ≠ a[j].b := fun e2 => by
          have hij : a[i]! = a[j] := str_inj ha hm (List.getElem_mem hj) (hw.trans e2)
          rw [getB hi] at hij
          have hp := List.pairwise_iff_getElem.1 ha
          rcases Nat.lt_trichotomy i j with q | q | q
          · have := cmp_ne (hp i j hi hj q)
            rw [hij] at this
            exact this rfl
          · exact e q
          · have := cmp_ne (hp j i hj hi q)
            rw [hij] at this
            exact this rfl
        rw [hasW_snoc, if_neg hne, Option.or_none]
  · unfold impJ
    rw [getB (by rw [List.length_append]; omega), List.getElem_append_left hlen, List.getElem_map, ← getB hi, h0]
theorem impJ_le (a b : List Wt) : (impJ a b).length ≤ a.length + b.length := by
  unfold impJ
  rw [List.length_append, List.length_map]
  have := List.length_filter_le (notin a) b
  omega
/-- The first want of a bottle among those that the program has. -/
theorem impJ_b {a b : List Wt} {j : Nat} (hj : j < a.length) : (impJ a b)[j]!.b = a[j]!.b := by
  unfold impJ
  rw [getB (by rw [List.length_append, List.length_map]; omega), List.getElem_append_left (by rw [List.length_map]; exact hj), List.getElem_map, addB_b, getB hj]
/-- One want joined: a new one at the end, or the number of an old one. -/
theorem impJ_round {a b : List Wt} {k : Nat} (ha : Str a) (hb : Str b) (hk : k < b.length) :
    (Lib.idxBy (fun _ z : Wt => decide (z.b = b[k]!.b)) (impJ a (b.take k)) default = -1 ∧ impJ a (b.take (k + 1)) = impJ a (b.take k) ++ [b[k]!]) ∨
    ∃ i, i < (impJ a (b.take k)).length ∧ i < 8 + a.length ∧ Lib.idxBy (fun _ z : Wt => decide (z.b = b[k]!.b)) (impJ a (b.take k)) default = (i : Int) ∧ impJ a (b.take (k + 1)) = (impJ a (b.take k)).set i (addW (impJ a (b.take k))[i]! b[k]!) := by
  have hx : b[k]! = b[k] := getB hk
  have hT : b.take (k + 1) = b.take k ++ [b[k]!] := by rw [hx]; exact List.take_succ_eq_append_getElem hk
  have hne : ∀ q ∈ b.take k, q.b ≠ b[k]!.b := by
    intro q hq
    obtain ⟨j, hj, rfl⟩ := List.getElem_of_mem hq
    have hj' : j < k := by simp at hj; omega
    rw [List.getElem_take, hx]
    exact cmp_ne (List.pairwise_iff_getElem.1 hb j k (by omega) hk hj')
  rw [hT]
  generalize b[k]! = x at hne ⊢
  by_cases hn : ∀ p ∈ a, p.b ≠ x.b
  · refine .inl ⟨?_, impJ_new hn⟩
    have := Lib.idxBy_miss (fun _ z : Wt => decide (z.b = x.b)) (impJ a (b.take k)) (impJ a (b.take k)).length default (fun j hj => ?_)
    · rwa [List.take_length] at this
    · refine decide_eq_false ?_
      rw [getB hj]
      rcases impJ_mem (List.getElem_mem hj) with ⟨p, hp, e⟩ | hq
      · rw [e]; exact hn p hp
      · exact hne _ hq
  · obtain ⟨p, hp, he⟩ : ∃ p ∈ a, p.b = x.b := Classical.byContradiction fun q => hn fun p hp e => q ⟨p, hp, e⟩
    obtain ⟨i, hi, rfl⟩ := List.getElem_of_mem hp
    rw [← getB hi] at he
    have hlen : i < (impJ a (b.take k)).length := by
      unfold impJ
      rw [List.length_append, List.length_map]
      omega
    obtain ⟨q1, q2⟩ := impJ_old hi he ha hne
    refine .inr ⟨i, hlen, by omega, ?_, by rw [q1, q2]⟩
    have := Lib.idxBy_hit (fun _ z : Wt => decide (z.b = x.b)) (impJ a (b.take k)) (impJ a (b.take k)).length i default hlen (Nat.le_refl _) (decide_eq_true (by rw [impJ_b hi]; exact he)) (fun j hj => ?_)
    · rwa [List.take_length] at this
    · refine decide_eq_false ?_
      have hj' : j < a.length := by omega
      rw [impJ_b hj', ← he, getB hj', getB hi]
      exact cmp_ne (List.pairwise_iff_getElem.1 ha j i hj' hi hj)
theorem join_le {a b : List Wt} (ha : Str a) (hb : Str b) : (joinW a b).length ≤ a.length + b.length := by
  rw [(join_perm a b ha hb).length_eq]
  exact impJ_le a b
def joinR (a b : List Wt) : List Wt × Int := if (ordOk a && ordOk b) = true then (if ordOk (joinW a b) = true then (joinW a b, 0) else ([], 3)) else ([], 1)
theorem joinR_le (a b : List Wt) : (joinR a b).1.length ≤ 8 := by
  unfold joinR
  split
  · split
    · rename_i h
      simp only [ordOk, Bool.and_eq_true, decide_eq_true_iff] at h
      exact h.2
    · simp
  · simp
end Go.Proofs.Ytoiinpoiggkkdaa
