/- Texts of the claim, joined (15 of 18): JoinP, Wanted, OpenP, SrcP, BottleS, MarkBt. -/
import Derived.Test.YtbngpcghognojaaB4
import Derived.Test.YtbngpcghognojaaB5
import Derived.Test.YtbngpcghognojaaB6
import Derived.Test.YtbngpcghognojaaB11
import Derived.Test.YtbngpcghognojaaB13
import Derived.Test.YtbngpcghognojaaB14
namespace Go.Proofs.Ytbngpcghognojaa
open Go Go.RowKit
set_option linter.unusedVariables false
set_option linter.unusedSimpArgs false
set_option maxRecDepth 100000
theorem wrap16_in (n : Int) : -32768 ≤ IntKind.i16.wrap n ∧ IntKind.i16.wrap n ≤ 32767 := by
  have e : IntKind.i16.wrap n = if n % 65536 ≥ 32768 then n % 65536 - 65536 else n % 65536 := by
    simp [IntKind.wrap, IntKind.bits, IntKind.signed]
  rw [e]
  split <;> omega
/-- Two wants of one bottle. -/
def addW (x y : Wt) : Wt := ⟨x.b, IntKind.i16.wrap (x.n + y.n), wrap16_in _⟩
theorem cmp_pos {a b : Bt} : 0 < a.cmp b ↔ b.cmp a < 0 := by
  rw [cmp_neg]
  unfold Bt.cmp
  repeat' split
  all_goals omega
theorem cmp_tri {a b : Bt} (h : ¬ a.cmp b < 0) (h' : ¬ 0 < a.cmp b) : a = b := by
  rw [cmp_pos] at h'
  rw [cmp_neg] at h h'
  exact Bt.ext2 (by omega) (by omega)
theorem cmp_trans {a b c : Bt} (h : a.cmp b < 0) (h' : b.cmp c < 0) : a.cmp c < 0 := by
  rw [cmp_neg] at *
  omega
theorem cmp_ne {a b : Bt} (h : a.cmp b < 0) : a ≠ b := fun e => by
  subst e
  rw [cmp_neg] at h
  omega
/-- Merged. -/
def joinW : List Wt → List Wt → List Wt
  | [], b => b
  | x :: a, [] => x :: a
  | x :: a, y :: b => if x.b.cmp y.b < 0 then x :: joinW a (y :: b) else if 0 < x.b.cmp y.b then y :: joinW (x :: a) b else addW x y :: joinW a b
termination_by a b => a.length + b.length
/-- The want of a bottle. -/
def hasW (b : List Wt) (t : Bt) : Option Wt := b.find? fun q => decide (q.b = t)
def addB (b : List Wt) (p : Wt) : Wt := match hasW b p.b with
  | some q => addW p q
  | none => p
theorem addB_b (b : List Wt) (p : Wt) : (addB b p).b = p.b := by
  unfold addB
  split <;> rfl
def notin (a : List Wt) (q : Wt) : Bool := a.all fun p => decide (p.b ≠ q.b)
/-- Joined in another order. -/
def impJ (a b : List Wt) : List Wt := a.map (addB b) ++ b.filter (notin a)
/-- Bottles rise. -/
def Str (l : List Wt) : Prop := l.Pairwise fun x y => x.b.cmp y.b < 0
theorem hasW_none {b : List Wt} {t : Bt} (h : ∀ q ∈ b, q.b ≠ t) : hasW b t = none := by
  unfold hasW
  rw [List.find?_eq_none]
  intro q hq
  simpa using h q hq
theorem hasW_skip {b : List Wt} {y : Wt} {t : Bt} (h : y.b ≠ t) : hasW (y :: b) t = hasW b t := by
  unfold hasW
  rw [List.find?_cons_of_neg (by simpa using h)]
theorem hasW_hit {b : List Wt} {y : Wt} : hasW (y :: b) y.b = some y := by
  unfold hasW
  rw [List.find?_cons_of_pos (by simp)]
theorem addB_none {b : List Wt} {p : Wt} (h : ∀ q ∈ b, q.b ≠ p.b) : addB b p = p := by
  unfold addB
  rw [hasW_none h]
theorem addB_skip {b : List Wt} {y p : Wt} (h : y.b ≠ p.b) : addB (y :: b) p = addB b p := by
  unfold addB
  rw [hasW_skip h]
theorem notin_skip {a : List Wt} {x q : Wt} (h : x.b ≠ q.b) : notin (x :: a) q = notin a q := by
  simp [notin, h]
theorem notin_yes {a : List Wt} {q : Wt} (h : ∀ p ∈ a, p.b ≠ q.b) : notin a q = true := by
  unfold notin
  rw [List.all_eq_true]
  intro p hp
  simpa using h p hp
theorem notin_no {a : List Wt} {p q : Wt} (hp : p ∈ a) (h : p.b = q.b) : notin a q = false := by
  rw [← Bool.not_eq_true]
  unfold notin
  rw [List.all_eq_true]
  intro hh
  have := hh p hp
  simp [h] at this
theorem join_perm : ∀ a b : List Wt, Str a → Str b → (joinW a b).Perm (impJ a b)
  | [], b, _, _ => by
    rw [joinW]
    have : b.filter (notin []) = b := List.filter_eq_self.2 fun q _ => rfl
    simp [impJ, this]
  | x :: a, [], _, _ => by
    rw [joinW]
    have : (x :: a).map (addB []) = x :: a := by
      conv => rhs; rw [← List.map_id (x :: a)]
      exact List.map_congr_left fun p _ => rfl
    unfold impJ
    rw [this]
    simp
  | x :: a, y :: b, ha, hb => by
    have ha' := List.pairwise_cons.1 ha
    have hb' := List.pairwise_cons.1 hb
    rw [joinW]
    split
    · rename_i h
      have hne : ∀ q ∈ y :: b, x.b ≠ q.b := fun q hq => by
        rcases List.mem_cons.1 hq with rfl | hq
        · exact cmp_ne h
        · exact cmp_ne (cmp_trans h (hb'.1 q hq))
      have e1 : addB (y :: b) x = x := addB_none fun q hq => (hne q hq).symm
      have e2 : (y :: b).filter (notin (x :: a)) = (y :: b).filter (notin a) := List.filter_congr fun q hq => notin_skip (hne q hq)
      unfold impJ
      rw [List.map_cons, e1, e2, List.cons_append]
      exact (join_perm a (y :: b) ha'.2 hb).cons x
    · split
      · rename_i _ h
        rw [cmp_pos] at h
        have hne : ∀ p ∈ x :: a, y.b ≠ p.b := fun p hp => by
          rcases List.mem_cons.1 hp with rfl | hp
          · exact cmp_ne h
          · exact cmp_ne (cmp_trans h (ha'.1 p hp))
        have e1 : (x :: a).map (addB (y :: b)) = (x :: a).map (addB b) := List.map_congr_left fun p hp => addB_skip (hne p hp)
        unfold impJ
        rw [e1, List.filter_cons_of_pos (notin_yes fun p hp => (hne p hp).symm)]
        exact ((join_perm (x :: a) b ha hb'.2).cons y).trans List.perm_middle.symm
      · rename_i h1 h2
        have hxy := cmp_tri h1 h2
        have hpa : ∀ p ∈ a, y.b ≠ p.b := fun p hp => by rw [← hxy]; exact cmp_ne (ha'.1 p hp)
        have hqb : ∀ q ∈ b, x.b ≠ q.b := fun q hq => by rw [hxy]; exact cmp_ne (hb'.1 q hq)
        have e1 : addB (y :: b) x = addW x y := by
          unfold addB
          rw [hxy, hasW_hit]
        have e2 : a.map (addB (y :: b)) = a.map (addB b) := List.map_congr_left fun p hp => addB_skip (hpa p hp)
        have e3 : (y :: b).filter (notin (x :: a)) = b.filter (notin a) := by
          rw [List.filter_cons_of_neg (by rw [notin_no (List.mem_cons_self ..) hxy]; decide)]
          exact List.filter_congr fun q hq => notin_skip (hqb q hq)
        unfold impJ
        rw [List.map_cons, e1, e2, e3, List.cons_append]
        exact (join_perm a b ha'.2 hb'.2).cons _
termination_by a b => a.length + b.length
theorem impJ_mem {a b : List Wt} {z : Wt} (h : z ∈ impJ a b) : (∃ p ∈ a, z.b = p.b) ∨ z ∈ b := by
  unfold impJ at h
  rcases List.mem_append.1 h with h | h
  · obtain ⟨p, hp, rfl⟩ := List.mem_map.1 h
    exact .inl ⟨p, hp, addB_b b p⟩
  · exact .inr (List.mem_filter.1 h).1
theorem join_mem {a b : List Wt} (ha : Str a) (hb : Str b) {z : Wt} (h : z ∈ joinW a b) : (∃ p ∈ a, z.b = p.b) ∨ z ∈ b := impJ_mem ((join_perm a b ha hb).mem_iff.1 h)
theorem join_str : ∀ a b : List Wt, Str a → Str b → Str (joinW a b)
  | [], b, _, hb => by rw [joinW]; exact hb
  | x :: a, [], ha, _ => by rw [joinW]; exact ha
  | x :: a, y :: b, ha, hb => by
    have ha' := List.pairwise_cons.1 ha
    have hb' := List.pairwise_cons.1 hb
    rw [joinW]
    split
    · rename_i h
      refine List.pairwise_cons.2 ⟨fun z hz => ?_, join_str a (y :: b) ha'.2 hb⟩
      rcases join_mem ha'.2 hb hz with ⟨p, hp, e⟩ | hq
      · rw [e]; exact ha'.1 p hp
      · rcases List.mem_cons.1 hq with rfl | hq
        · exact h
        · exact cmp_trans h (hb'.1 z hq)
    · split
      · rename_i _ h
        rw [cmp_pos] at h
        refine List.pairwise_cons.2 ⟨fun z hz => ?_, join_str (x :: a) b ha hb'.2⟩
        rcases join_mem ha hb'.2 hz with ⟨p, hp, e⟩ | hq
        · rw [e]
          rcases List.mem_cons.1 hp with rfl | hp
          · exact h
          · exact cmp_trans h (ha'.1 p hp)
        · exact hb'.1 z hq
      · rename_i h1 h2
        have hxy := cmp_tri h1 h2
        refine List.pairwise_cons.2 ⟨fun z hz => ?_, join_str a b ha'.2 hb'.2⟩
        show x.b.cmp z.b < 0
        rcases join_mem ha'.2 hb'.2 hz with ⟨p, hp, e⟩ | hq
        · rw [e]; exact ha'.1 p hp
        · rw [hxy]; exact hb'.1 z hq
termination_by a b => a.length + b.length
theorem str_inj {l : List Wt} (h : Str l) {x y : Wt} (hx : x ∈ l) (hy : y ∈ l) (e : x.b = y.b) : x = y := by
  induction l with
  | nil => cases hx
  | cons z l ih =>
    have h' := List.pairwise_cons.1 h
    rcases List.mem_cons.1 hx with e1 | hx
    · rcases List.mem_cons.1 hy with e2 | hy
      · rw [e1, e2]
      · rw [e1] at e
        exact absurd e (cmp_ne (h'.1 y hy))
    · rcases List.mem_cons.1 hy with e2 | hy
      · rw [e2] at e
        exact absurd e.symm (cmp_ne (h'.1 x hx))
      · exact ih h'.2 hx hy
/-- There is one way to put joined orders in order. -/
theorem join_sorted {a b s : List Wt} (ha : Str a) (hb : Str b) (hp : s.Perm (impJ a b)) (hs : s.Pairwise fun x y => ¬ y.b.cmp x.b < 0) : s = joinW a b := by
  have hpj := hp.trans (join_perm a b ha hb).symm
  have hstr := join_str a b ha hb
  refine List.Perm.eq_of_pairwise (le := fun x y : Wt => ¬ y.b.cmp x.b < 0) (fun x y hx hy h h' => ?_) hs (hstr.imp fun {x y} h => ?_) hpj
  · refine str_inj hstr (hpj.mem_iff.1 hx) hy ?_
    rw [cmp_neg] at h h'
    exact Bt.ext2 (by omega) (by omega)
  · rw [cmp_neg] at h ⊢
    omega
theorem okK_str {l : List Wt} (h : okK l l.length) : Str l := by
  have key : ∀ i, i < l.length → ∀ j, j < i → l[j]!.b.cmp l[i]!.b < 0 := by
    intro i
    induction i with
    | zero => intro _ j hj; exact absurd hj (Nat.not_lt_zero _)
    | succ i ih =>
      intro hi j hj
      have h1 := (h (i + 1) hi).2 (Nat.succ_pos _)
      rw [Nat.add_sub_cancel] at h1
      rcases Nat.lt_or_ge j i with q | q
      · exact cmp_trans (ih (by omega) j q) h1
      · obtain rfl : j = i := by omega
        exact h1
  refine List.pairwise_iff_getElem.2 fun i j hi hj hij => ?_
  have := key j hj i hij
  rwa [getB hi, getB hj] at this
theorem ordOk_str {l : List Wt} (h : ordOk l = true) : Str l := by
  simp only [ordOk, Bool.and_eq_true, decide_eq_true_iff] at h
  exact okK_str h.1
/-- The lists that the program makes, want by want of the second order. -/
theorem impJ_nil (a : List Wt) : impJ a [] = a := by
  have : a.map (addB []) = a := by
    conv => rhs; rw [← List.map_id a]
    exact List.map_congr_left fun p _ => rfl
  simp [impJ, this]
theorem hasW_snoc {b : List Wt} {w : Wt} {t : Bt} : hasW (b ++ [w]) t = (hasW b t).or (if w.b = t then some w else none) := by
  unfold hasW
  rw [List.find?_append]
  congr 1
  by_cases h : w.b = t <;> simp [h]
theorem impJ_new {a b : List Wt} {w : Wt} (hn : ∀ p ∈ a, p.b ≠ w.b) : impJ a (b ++ [w]) = impJ a b ++ [w] := by
  unfold impJ
  have e1 : a.map (addB (b ++ [w])) = a.map (addB b) := List.map_congr_left fun p hp => by
    unfold addB
    rw [hasW_snoc, if_neg (fun e => hn p hp e.symm), Option.or_none]
  rw [e1, List.filter_append, List.append_assoc, List.filter_cons_of_pos (notin_yes hn), List.filter_nil]
theorem impJ_old {a b : List Wt} {w : Wt} {i : Nat} (hi : i < a.length) (hw : a[i]!.b = w.b) (ha : Str a) (hb : ∀ q ∈ b, q.b ≠ w.b) : impJ a (b ++ [w]) = (impJ a b).set i (addW a[i]! w) ∧ (impJ a b)[i]! = a[i]! := by
  have hm : a[i]! ∈ a := by rw [getB hi]; exact List.getElem_mem hi
  have hlen : i < (a.map (addB b)).length := by rw [List.length_map]; exact hi
  have h0 : addB b a[i]! = a[i]! := addB_none fun q hq => by rw [hw]; exact hb q hq
  constructor
  · unfold impJ
    rw [List.filter_append, List.filter_cons_of_neg (by rw [notin_no hm hw]; decide), List.filter_nil, List.append_nil, List.set_append_left _ _ hlen]
    congr 1
    apply List.ext_getElem
    · simp
    · intro j h1 h2
      have hj : j < a.length := by simpa using h1
      rw [List.getElem_map, List.getElem_set]
      split
      · rename_i e
        subst e
        rw [← getB hj]
        unfold addB
        rw [hasW_snoc, hasW_none (by rw [hw]; exact hb), hw]
        simp
      · rename_i e
        rw [List.getElem_map]
        unfold addB
        have hne : w.b ≠ a[j].b := fun e2 => by
          have hij : a[i]! = a[j] := str_inj ha hm (List.getElem_mem hj) (hw.trans e2)
          rw [getB hi] at hij
          have hp := List.pairwise_iff_getElem.1 ha
          rcases Nat.lt_trichotomy i j with q | q | q
          · have := cmp_ne (hp i j hi hj q)
            rw [hij] at this
            exact this rfl
          · exact e q
          · have := cmp_ne (hp j i hj hi q)
            rw [hij] at this
            exact this rfl
        rw [hasW_snoc, if_neg hne, Option.or_none]
  · unfold impJ
    rw [getB (by rw [List.length_append]; omega), List.getElem_append_left hlen, List.getElem_map, ← getB hi, h0]
theorem impJ_le (a b : List Wt) : (impJ a b).length ≤ a.length + b.length := by
  unfold impJ
  rw [List.length_append, List.length_map]
  have := List.length_filter_le (notin a) b
  omega
/-- The first want of a bottle among those that the program has. -/
theorem impJ_b {a b : List Wt} {j : Nat} (hj : j < a.length) : (impJ a b)[j]!.b = a[j]!.b := by
  unfold impJ
  rw [getB (by rw [List.length_append, List.length_map]; omega), List.getElem_append_left (by rw [List.length_map]; exact hj), List.getElem_map, addB_b, getB hj]
/-- One want joined: a new one at the end, or the number of an old one. -/
theorem impJ_round {a b : List Wt} {k : Nat} (ha : Str a) (hb : Str b) (hk : k < b.length) :
    (Lib.idxBy (fun _ z : Wt => decide (z.b = b[k]!.b)) (impJ a (b.take k)) default = -1 ∧ impJ a (b.take (k + 1)) = impJ a (b.take k) ++ [b[k]!]) ∨
    ∃ i, i < (impJ a (b.take k)).length ∧ i < 8 + a.length ∧ Lib.idxBy (fun _ z : Wt => decide (z.b = b[k]!.b)) (impJ a (b.take k)) default = (i : Int) ∧ impJ a (b.take (k + 1)) = (impJ a (b.take k)).set i (addW (impJ a (b.take k))[i]! b[k]!) := by
  have hx : b[k]! = b[k] := getB hk
  have hT : b.take (k + 1) = b.take k ++ [b[k]!] := by rw [hx]; exact List.take_succ_eq_append_getElem hk
  have hne : ∀ q ∈ b.take k, q.b ≠ b[k]!.b := by
    intro q hq
    obtain ⟨j, hj, rfl⟩ := List.getElem_of_mem hq
    have hj' : j < k := by simp at hj; omega
    rw [List.getElem_take, hx]
    exact cmp_ne (List.pairwise_iff_getElem.1 hb j k (by omega) hk hj')
  rw [hT]
  generalize b[k]! = x at hne ⊢
  by_cases hn : ∀ p ∈ a, p.b ≠ x.b
  · refine .inl ⟨?_, impJ_new hn⟩
    have := Lib.idxBy_miss (fun _ z : Wt => decide (z.b = x.b)) (impJ a (b.take k)) (impJ a (b.take k)).length default (fun j hj => ?_)
    · rwa [List.take_length] at this
    · refine decide_eq_false ?_
      rw [getB hj]
      rcases impJ_mem (List.getElem_mem hj) with ⟨p, hp, e⟩ | hq
      · rw [e]; exact hn p hp
      · exact hne _ hq
  · obtain ⟨p, hp, he⟩ : ∃ p ∈ a, p.b = x.b := Classical.byContradiction fun q => hn fun p hp e => q ⟨p, hp, e⟩
    obtain ⟨i, hi, rfl⟩ := List.getElem_of_mem hp
    rw [← getB hi] at he
    have hlen : i < (impJ a (b.take k)).length := by
      unfold impJ
      rw [List.length_append, List.length_map]
      omega
    obtain ⟨q1, q2⟩ := impJ_old hi he ha hne
    refine .inr ⟨i, hlen, by omega, ?_, by rw [q1, q2]⟩
    have := Lib.idxBy_hit (fun _ z : Wt => decide (z.b = x.b)) (impJ a (b.take k)) (impJ a (b.take k)).length i default hlen (Nat.le_refl _) (decide_eq_true (by rw [impJ_b hi]; exact he)) (fun j hj => ?_)
    · rwa [List.take_length] at this
    · refine decide_eq_false ?_
      have hj' : j < a.length := by omega
      rw [impJ_b hj', ← he, getB hj', getB hi]
      exact cmp_ne (List.pairwise_iff_getElem.1 ha j i hj' hi hj)
theorem join_le {a b : List Wt} (ha : Str a) (hb : Str b) : (joinW a b).length ≤ a.length + b.length := by
  rw [(join_perm a b ha hb).length_eq]
  exact impJ_le a b
def joinR (a b : List Wt) : List Wt × Int := if (ordOk a && ordOk b) = true then (if ordOk (joinW a b) = true then (joinW a b, 0) else ([], 3)) else ([], 1)
theorem joinR_le (a b : List Wt) : (joinR a b).1.length ≤ 8 := by
  unfold joinR
  split
  · split
    · rename_i h
      simp only [ordOk, Bool.and_eq_true, decide_eq_true_iff] at h
      exact h.2
    · simp
  · simp
end Go.Proofs.Ytbngpcghognojaa
namespace Go.Proofs.Ytbngpcghognojaa
open Go.RowKit
set_option linter.unusedVariables false
set_option linter.unusedSimpArgs false
set_option maxRecDepth 100000
set_option maxHeartbeats 400000
def sumW (l : List Wt) : Int := (l.map Wt.n).sum
theorem sumW_step {l : List Wt} {k : Nat} (hk : k < l.length) : sumW (l.take (k + 1)) = sumW (l.take k) + l[k]!.n := by
  unfold sumW
  rw [List.take_succ_eq_append_getElem hk, getB hk, List.map_append, List.sum_append]
  simp
theorem sumW_le : ∀ l : List Wt, -(32768 * (l.length : Int)) ≤ sumW l ∧ sumW l ≤ 32768 * (l.length : Int)
  | [] => by simp [sumW]
  | x :: l => by
    have h := sumW_le l
    have hx := x.hn
    have e : sumW (x :: l) = x.n + sumW l := by simp [sumW]
    rw [e, List.length_cons]
    omega
def wantedR (l : List Wt) : Int × Int := if ordOk l = true then (sumW l, 0) else (0, 1)
theorem WantedIn_any (b off c : Nat) (l : List Wt) (w : World) (hC : CAt w b off (fl wc l)) (hb : b < w.heap.size) (hn : l.length ≤ 1048576) :
    Calls Try.prog 14 #[.slice (some ⟨b, off, none⟩) l.length c] w fun e w' => e = .returned (.tuple #[.int .i64 (wantedR l).1, .int .i64 (wantedR l).2]) ∧ Below w.heap.size w w' := by
  have HC := Lib.hid (⟨hC, hb⟩ : _ ∧ _)
  clear hC hb
  have H := Below.refl w.heap.size w
  go_enter Try.func14, Try.ntmps14
  cases e1 : ordOk l with
  | false =>
    have HF := Lib.hid (show wantedR l = (0, 1) by simp [wantedR, e1])
    go_wp2_with (go_at_call 48; with_reducible refine (ValidOrder_any b off c l _ (HC.out.1.below H HC.out.2) (Nat.lt_of_lt_of_le HC.out.2 H.size) (by omega)).mono ?_; rintro e w' ⟨rfl, hb⟩; replace H := bstep H hb; clear hb; have hc := bcell H)
    rw [HF.out]
    exact bodyPost_ret (results_tt rfl) rfl ⟨rfl, H⟩
  | true =>
    have HF := Lib.hid (show wantedR l = (sumW l, 0) by simp [wantedR, e1])
    have h8 : l.length ≤ 8 := by simp [ordOk] at e1; exact e1.2
    go_upto_region 4 with (go_at_call 48; with_reducible refine (ValidOrder_any b off c l _ (HC.out.1.below H HC.out.2) (Nat.lt_of_lt_of_le HC.out.2 H.size) (by omega)).mono ?_; rintro e w' ⟨rfl, hb⟩; replace H := bstep H hb; clear hb; have hc := bcell H)
    clear hc e1
    go_wp2
    go_loopw [4, 12] (fun s i wr => ∃ k : Nat, k ≤ l.length ∧ i = .int .i64 k ∧ s = .int .i64 (sumW (l.take k)) ∧ Below w.heap.size w wr) (fun _ i _ => l.length - (intOf i).toNat)
    case atStart => exact ⟨0, Nat.zero_le _, rfl, by simp [sumW], H⟩
    case round =>
      clear H
      obtain ⟨k, hk, rfl, rfl, hb⟩ := hrel
      by_cases hlt : k < l.length
      · have HX := (HC.out.1.below hb HC.out.2).el wc_length hlt
        have HL := Lib.hid (@sumW_step l k hlt)
        have hs := sumW_le (l.take k)
        have hcl : (l.take k).length ≤ k := by simp; omega
        have hlt2 : (k : Int) < (l.length : Int) := by omega
        generalize l[k]! = x at HX HL
        generalize sumW (l.take k) = s at HL hs ⊢
        have hs1 : -32768000000 ≤ s := by omega
        have hs2 : s ≤ 32768000000 := by omega
        obtain ⟨hn1, hn2⟩ := x.hn
        have x0 : wr.cell? ⟨b, off + k * 3, none⟩ = some (.int .u8 x.b.k) := HX 0 _ rfl
        have x1 : wr.cell? ⟨b, off + k * 3 + 1, none⟩ = some (.int .i16 x.b.y) := HX 1 _ rfl
        have x2 : wr.cell? ⟨b, off + k * 3 + 2, none⟩ = some (.int .i16 x.n) := HX 2 _ rfl
        clear HX hs
        go_wp2
        go_roundw
        case rel => exact ⟨k + 1, by omega, by go_num, by rw [HL.out], bstep hb (by go_grown)⟩
        case measure => simp [intOf]; omega
      · obtain rfl : k = l.length := by omega
        rw [List.take_length]
        go_wp2
        rw [HF.out]
        exact bodyPost_ret (results_tt rfl) rfl ⟨rfl, hb⟩
end Go.Proofs.Ytbngpcghognojaa
namespace Go.Proofs.Ytbngpcghognojaa
open Go.RowKit
set_option linter.unusedVariables false
set_option linter.unusedSimpArgs false
set_option maxRecDepth 100000
/-! ### Orders -/
theorem ordOk_all {l : List Wt} (h : ordOk l = true) : ∀ x ∈ l, x.ok = true := by
  intro x hx
  simp only [ordOk, Bool.and_eq_true, decide_eq_true_iff] at h
  obtain ⟨i, hi, rfl⟩ := List.getElem_of_mem hx
  have := (h.1 i hi).1
  rwa [getB hi] at this
theorem ordOk_len {l : List Wt} (h : ordOk l = true) : l.length ≤ 8 := by
  simp only [ordOk, Bool.and_eq_true, decide_eq_true_iff] at h
  exact h.2
theorem Wt.ok_n {x : Wt} (h : x.ok = true) : 1 ≤ x.n ∧ x.n ≤ 144 ∧ x.b.ok = true := by
  simp only [Wt.ok, Bool.and_eq_true, decide_eq_true_iff] at h
  exact ⟨h.2.1, h.2.2, h.1⟩
theorem ordOk_of {l : List Wt} (hs : Str l) (ha : ∀ x ∈ l, x.ok = true) (hl : l.length ≤ 8) : ordOk l = true := by
  simp only [ordOk, Bool.and_eq_true, decide_eq_true_iff]
  refine ⟨fun j hj => ⟨by rw [getB hj]; exact ha _ (List.getElem_mem hj), fun h0 => ?_⟩, hl⟩
  rw [getB hj, getB (show j - 1 < l.length by omega)]
  exact List.pairwise_iff_getElem.1 hs (j - 1) j (by omega) hj (by omega)
theorem lackL_mem {f : Bt → Nat} {l : List Wt} {y : Wt} : y ∈ lackL f l ↔ ∃ x ∈ l, 0 < x.n - (f x.b : Int) ∧ y.b = x.b ∧ y.n = x.n - f x.b := by
  unfold lackL
  rw [List.mem_flatMap]
  constructor
  · rintro ⟨x, hx, hy⟩
    by_cases h : 0 < x.n - (f x.b : Int)
    · rw [lack1_yes h] at hy
      obtain rfl := List.mem_singleton.1 hy
      exact ⟨x, hx, h, rfl, rfl⟩
    · rw [lack1_no h] at hy
      cases hy
  · rintro ⟨x, hx, h, hb, hn⟩
    refine ⟨x, hx, ?_⟩
    rw [lack1_yes h, List.mem_singleton]
    cases y
    simp only at hb hn
    subst hb hn
    rfl
theorem lackL_nil {f : Bt → Nat} {l : List Wt} : lackL f l = [] ↔ ∀ x ∈ l, x.n ≤ (f x.b : Int) := by
  rw [List.eq_nil_iff_forall_not_mem]
  constructor
  · intro h x hx
    apply Classical.byContradiction
    intro hn
    exact h ⟨x.b, x.n - f x.b, by have := x.hn; omega⟩ (lackL_mem.2 ⟨x, hx, by omega, rfl, rfl⟩)
  · intro h y hy
    obtain ⟨x, hx, hp, _⟩ := lackL_mem.1 hy
    have := h x hx
    omega
theorem lackL_str {f : Bt → Nat} {l : List Wt} (h : Str l) : Str (lackL f l) := by
  unfold Str lackL
  rw [List.pairwise_flatMap]
  refine ⟨fun x _ => ?_, h.imp fun {x y} hxy a ha b hb => ?_⟩
  · by_cases hp : 0 < x.n - (f x.b : Int)
    · rw [lack1_yes hp]; exact List.pairwise_singleton _ _
    · rw [lack1_no hp]; exact List.Pairwise.nil
  · have key : ∀ (z c : Wt), c ∈ lack1 z (f z.b) → c.b = z.b := fun z c hc => by
      by_cases hp : 0 < z.n - (f z.b : Int)
      · rw [lack1_yes hp] at hc
        obtain rfl := List.mem_singleton.1 hc
        rfl
      · rw [lack1_no hp] at hc
        cases hc
    rw [key x a ha, key y b hb]
    exact hxy
theorem lackL_ok {f : Bt → Nat} {l : List Wt} (h : ordOk l = true) : ordOk (lackL f l) = true := by
  refine ordOk_of (lackL_str (ordOk_str h)) (fun y hy => ?_) (Nat.le_trans (lackL_le f l) (ordOk_len h))
  obtain ⟨x, hx, hp, hb, hn⟩ := lackL_mem.1 hy
  have := Wt.ok_n (ordOk_all h x hx)
  simp only [Wt.ok, Bool.and_eq_true, decide_eq_true_iff]
  exact ⟨by rw [hb]; exact this.2.2, by omega, by omega⟩
/-! ### The fewest crates -/
section
variable {lc : List Cr} {l : List Wt} {ks ks' : List Int}
theorem leftL_perm (h : ks.Nodup) (h' : ks'.Nodup) (hp : ks.Perm ks') : leftL lc l ks = leftL lc l ks' := by
  unfold leftL
  have : cntL (opL lc ks) = cntL (opL lc ks') := funext fun b => by
    rw [opL_nodup lc h, opL_nodup lc h']
    exact cntL_perm (hp.map _) b
  rw [this]
/-- Crates, each once, in order. -/
def ascOf (n : Nat) (ks : List Int) : List Int := (everyL n).filter fun x => decide (x ∈ ks)
theorem ascOf_asc (n : Nat) (ks : List Int) : Asc 0 n (ascOf n ks) := ⟨(everyL_asc n).filter _, fun x hx => by have := everyL_in (List.mem_filter.1 hx).1; omega⟩
theorem ascOf_perm {n : Nat} (h : Good n ks) : (ascOf n ks).Perm ks := by
  refine (List.perm_ext_iff_of_nodup ((everyL_nodup n).filter _) h.nd).2 fun x => ?_
  rw [List.mem_filter, decide_eq_true_iff]
  exact ⟨fun q => q.2, fun q => ⟨everyL_mem (h.inn x q).1 (h.inn x q).2, q⟩⟩
theorem few_len (h : Good lc.length ks) (hl : leftL lc l ks = []) : (fewS lc l).1.length ≤ ks.length := by
  have hp := ascOf_perm h
  have ha := ascOf_asc lc.length ks
  have ho : okF lc l (ascOf lc.length ks) = true := by unfold okF; rw [decide_eq_true_iff, leftL_perm ha.good.nd h.nd hp]; exact hl
  have hm := (sets_least (sets_found ha ho)).2.2 _ ha ho
  rw [← hp.length_eq]
  simp only [lessL, Bool.or_eq_false_iff, decide_eq_false_iff_not] at hm
  show (setsK lc.length (okF lc l) (2 ^ lc.length)).1.length ≤ _
  omega
theorem few_asc : Asc 0 lc.length (fewS lc l).1 := by
  cases h : (fewS lc l).2 with
  | true => exact (sets_least h).2.1
  | false =>
    have := (setsK_some (n := lc.length) (p := okF lc l) (2 ^ lc.length)).2 h
    rw [fewS, this.1]
    exact ⟨List.Pairwise.nil, fun x hx => by cases hx⟩
variable (hf : lackL (cntL lc) l = [])
include hf
theorem few_ok : leftL lc l (fewS lc l).1 = [] := fewS_ok (fewS_found hf)
theorem bnd_few : ∀ k, k ≤ l.length → bndK lc l k ≤ ((fewS lc l).1.length : Int)
  | 0, _ => by simp [bndK]
  | k + 1, hk => by
    have ih := bnd_few k (by omega)
    have h1 : leftL lc [l[k]!] (fewS lc l).1 = [] := lack_one (few_ok hf) (by rw [getB (show k < l.length by omega)]; exact List.getElem_mem _)
    have := few_len fewS_good h1
    rw [bndK]
    omega
omit hf in
/-- No crate of the fewest can be left out. -/
theorem few_less {k : Nat} (hk : k < (fewS lc l).1.length) : leftL lc l ((fewS lc l).1.take k ++ (fewS lc l).1.drop (k + 1)) ≠ [] := fun h => by
  have hs : ((fewS lc l).1.take k ++ (fewS lc l).1.drop (k + 1)).Sublist (fewS lc l).1 := by
    have h1 := List.Sublist.append (List.Sublist.refl ((fewS lc l).1.take k)) (List.drop_sublist 1 ((fewS lc l).1.drop k))
    rw [List.drop_drop, List.take_append_drop] at h1
    exact h1
  have hg : Good lc.length ((fewS lc l).1.take k ++ (fewS lc l).1.drop (k + 1)) := ⟨fewS_good.nd.sublist hs, fun x hx => fewS_good.inn x (hs.subset hx)⟩
  have := few_len hg h
  rw [List.length_append, List.length_take, List.length_drop] at this
  omega
theorem few_nil (hok : ordOk l = true) : (fewS lc l).1 = [] ↔ l = [] := by
  constructor
  · intro h
    have h1 := few_ok hf
    rw [h] at h1
    unfold leftL at h1
    rw [lackL_nil] at h1
    refine List.eq_nil_iff_forall_not_mem.2 fun x hx => ?_
    have h2 := h1 x hx
    have h3 := Wt.ok_n (ordOk_all hok x hx)
    have h4 : cntL (opL lc []) x.b = 0 := rfl
    omega
  · rintro rfl
    have := few_len (lc := lc) (l := []) (ks := []) (Good.nil _) rfl
    exact List.length_eq_zero_iff.1 (Nat.le_zero.1 this)
/-! ### The greedy crates -/
theorem finG_spec : ∀ (m : Nat) (out : List Int), Good lc.length out → lc.length - out.length = m →
    Good lc.length (finG lc l out) ∧ leftL lc l (finG lc l out) = [] ∧ (∃ r, finG lc l out = out ++ r) ∧
    ∀ k, out.length ≤ k → k < (finG lc l out).length → leftL lc l ((finG lc l out).take k) ≠ [] ∧ (finG lc l out).getD k 0 = (bestK lc (leftL lc l ((finG lc l out).take k)) ((finG lc l out).take k) lc.length).1 := by
  intro m
  induction m using Nat.strongRecOn with
  | _ m ih =>
    intro out h hm
    by_cases hl : leftL lc l out = []
    · rw [finG_stop h hl]
      exact ⟨h, hl, ⟨[], by simp⟩, fun k h1 h2 => absurd h2 (by omega)⟩
    · rw [finG_step h hl]
      have hg := best_good h hf hl
      have hle := hg.le
      rw [List.length_append, List.length_singleton] at hle
      obtain ⟨i1, i2, ⟨r, i3⟩, i4⟩ := ih (lc.length - (out ++ [(bestK lc (leftL lc l out) out lc.length).1]).length) (by rw [List.length_append, List.length_singleton]; omega) _ hg rfl
      refine ⟨i1, i2, ⟨_, by rw [i3, List.append_assoc]⟩, fun k h1 h2 => ?_⟩
      by_cases hk : k = out.length
      · subst hk
        have e : (finG lc l (out ++ [(bestK lc (leftL lc l out) out lc.length).1])).take out.length = out := by
          rw [i3, List.append_assoc, List.take_append_of_le_length (Nat.le_refl _), List.take_length]
        rw [e]
        refine ⟨hl, ?_⟩
        rw [i3, List.append_assoc, List.getD_eq_getElem?_getD, List.getElem?_append_right (Nat.le_refl _), Nat.sub_self]
        rfl
      · exact i4 k (by rw [List.length_append, List.length_singleton]; omega) h2
end
/-- What the best of the first crates is. -/
theorem bestK_best (lc : List Cr) (left : List Wt) (out : List Int) : ∀ k, ((bestK lc left out k).1 = -1 ∧ (bestK lc left out k).2 = 0 ∧ ∀ i, i < k → (i : Int) ∈ out) ∨
    (∃ j : Nat, j < k ∧ (bestK lc left out k).1 = (j : Int) ∧ (j : Int) ∉ out ∧ (bestK lc left out k).2 = useW lc[j]! left ∧ ∀ i, i < k → (i : Int) ∉ out → useW lc[i]! left ≤ useW lc[j]! left ∧ (useW lc[i]! left = useW lc[j]! left → j ≤ i))
  | 0 => .inl ⟨rfl, rfl, fun i hi => absurd hi (Nat.not_lt_zero _)⟩
  | k + 1 => by
    have ih := bestK_best lc left out k
    rw [bestK]
    by_cases hm : (k : Int) ∈ out
    · rw [if_neg (by simp [hm])]
      rcases ih with ⟨i1, i2, i3⟩ | ⟨j, hj, i1, i2, i3, i4⟩
      · refine .inl ⟨i1, i2, fun i hi => ?_⟩
        rcases Nat.lt_or_ge i k with q | q
        · exact i3 i q
        · obtain rfl : i = k := by omega
          exact hm
      · refine .inr ⟨j, by omega, i1, i2, i3, fun i hi hi2 => ?_⟩
        rcases Nat.lt_or_ge i k with q | q
        · exact i4 i q hi2
        · obtain rfl : i = k := by omega
          exact absurd hm hi2
    · rcases ih with ⟨i1, i2, i3⟩ | ⟨j, hj, i1, i2, i3, i4⟩
      · rw [if_pos (by simp [hm, i1])]
        refine .inr ⟨k, by omega, rfl, hm, rfl, fun i hi hi2 => ?_⟩
        rcases Nat.lt_or_ge i k with q | q
        · exact absurd (i3 i q) hi2
        · obtain rfl : i = k := by omega
          exact ⟨Int.le_refl _, fun _ => Nat.le_refl _⟩
      · by_cases hlt : useW lc[j]! left < useW lc[k]! left
        · rw [if_pos (by rw [i3, decide_eq_true hlt, Bool.or_true, Bool.and_true]; simp [hm])]
          refine .inr ⟨k, by omega, rfl, hm, rfl, fun i hi hi2 => ?_⟩
          rcases Nat.lt_or_ge i k with q | q
          · have := i4 i q hi2
            exact ⟨by omega, fun e => absurd e (by omega)⟩
          · obtain rfl : i = k := by omega
            exact ⟨Int.le_refl _, fun _ => Nat.le_refl _⟩
        · rw [if_neg (by rw [i1, i3, decide_eq_false hlt, decide_eq_false (show ¬ ((j : Nat) : Int) < 0 by omega)]; simp)]
          refine .inr ⟨j, by omega, i1, i2, i3, fun i hi hi2 => ?_⟩
          rcases Nat.lt_or_ge i k with q | q
          · exact i4 i q hi2
          · obtain rfl : i = k := by omega
            exact ⟨by omega, fun _ => by omega⟩
theorem cntL_at (lc : List Cr) (b : Bt) : cntL lc b = ((everyL lc.length).map fun y => cntC lc[y.toNat]! b).sum := by
  have e := opL_every lc
  rw [opL_nodup lc (everyL_nodup _)] at e
  conv => lhs; rw [← e]
  unfold cntL
  rw [List.map_map]
  rfl
theorem sum_zero {α : Type} (f : α → Nat) : ∀ (L : List α), (∀ y ∈ L, f y = 0) → (L.map f).sum = 0
  | [], _ => rfl
  | y :: L, h => by
    rw [List.map_cons, List.sum_cons, h y (List.mem_cons_self ..), sum_zero f L fun z hz => h z (List.mem_cons_of_mem _ hz)]
/-- Something that is lacking is in a crate that is not opened. -/
theorem some_crate {lc : List Cr} {l : List Wt} {out : List Int} (hg : Good lc.length out) (hf : lackL (cntL lc) l = []) {x : Wt} (hx : x ∈ l) (hn : (cntL (opL lc out) x.b : Int) < x.n) : ∃ i, i < lc.length ∧ (i : Int) ∉ out ∧ 1 ≤ cntC lc[i]! x.b := by
  apply Classical.byContradiction
  intro hno
  have h0 : ∀ y ∈ (everyL lc.length).filter (fun y => !decide (y ∈ out)), cntC lc[y.toNat]! x.b = 0 := fun y hy => by
    obtain ⟨h1, h2⟩ := List.mem_filter.1 hy
    have h3 := everyL_in h1
    apply Classical.byContradiction
    intro hc
    have e : ((y.toNat : Nat) : Int) = y := by omega
    exact hno ⟨y.toNat, by omega, by rw [e]; simpa using h2, by omega⟩
  have hp := List.filter_append_perm (fun y => decide (y ∈ out)) (everyL lc.length)
  have h1 := cntL_at lc x.b
  have h2 : ((everyL lc.length).map fun y => cntC lc[y.toNat]! x.b).sum = (((everyL lc.length).filter fun y => decide (y ∈ out)).map fun y => cntC lc[y.toNat]! x.b).sum + (((everyL lc.length).filter fun y => !decide (y ∈ out)).map fun y => cntC lc[y.toNat]! x.b).sum := by
    rw [← (hp.map _).sum_nat, List.map_append, List.sum_append]
  have h3 : (((everyL lc.length).filter fun y => !decide (y ∈ out)).map fun y => cntC lc[y.toNat]! x.b).sum = 0 := by
    exact sum_zero _ _ h0
  have h4 : cntL (opL lc out) x.b = (((everyL lc.length).filter fun y => decide (y ∈ out)).map fun y => cntC lc[y.toNat]! x.b).sum := by
    rw [opL_nodup lc hg.nd]
    unfold cntL
    rw [List.map_map]
    exact ((ascOf_perm hg).map _).sum_nat.symm
  have h5 := lackL_nil.1 hf x hx
  omega
theorem use1_pos {c : Cr} {x : Wt} (h : x.ok = true) : 0 ≤ use1 c x := by
  have := Wt.ok_n h
  unfold use1
  omega
theorem useW_pos {c : Cr} {l : List Wt} (h : ∀ x ∈ l, x.ok = true) : 0 ≤ useW c l ∧ ∀ x ∈ l, use1 c x ≤ useW c l := by
  induction l with
  | nil => exact ⟨by simp [useW], fun x hx => by cases hx⟩
  | cons y l ih =>
    have h1 := ih fun x hx => h x (List.mem_cons_of_mem _ hx)
    have h2 := use1_pos (c := c) (h y (List.mem_cons_self ..))
    have e : useW c (y :: l) = use1 c y + useW c l := by simp [useW]
    rw [e]
    refine ⟨by omega, fun x hx => ?_⟩
    rcases List.mem_cons.1 hx with rfl | hx
    · omega
    · have := h1.2 x hx
      omega
/-- What is said of the greedy crates. -/
theorem greedy_at {lc : List Cr} {l : List Wt} (hok : ordOk l = true) (hf : lackL (cntL lc) l = []) {k : Nat} (hk : k < (finG lc l []).length) :
    ∃ j : Nat, j < lc.length ∧ (finG lc l []).getD k 0 = (j : Int) ∧ 1 ≤ useW lc[j]! (leftL lc l ((finG lc l []).take k)) ∧ leftL lc l ((finG lc l []).take k) ≠ [] ∧
      ∀ i, i < lc.length → (i : Int) ∉ (finG lc l []).take k → useW lc[i]! (leftL lc l ((finG lc l []).take k)) ≤ useW lc[j]! (leftL lc l ((finG lc l []).take k)) ∧ (useW lc[i]! (leftL lc l ((finG lc l []).take k)) = useW lc[j]! (leftL lc l ((finG lc l []).take k)) → j ≤ i) := by
  obtain ⟨hg, _, _, h4⟩ := finG_spec hf _ [] (Good.nil _) rfl
  obtain ⟨h5, h6⟩ := h4 k (Nat.zero_le _) hk
  have hgk : Good lc.length ((finG lc l []).take k) := ⟨hg.nd.sublist (List.take_sublist _ _), fun x hx => hg.inn x (List.mem_of_mem_take hx)⟩
  generalize (finG lc l []).take k = out at *
  obtain ⟨y, hy⟩ : ∃ y, y ∈ leftL lc l out := List.exists_mem_of_ne_nil _ h5
  have hy' : y ∈ lackL (cntL (opL lc out)) l := hy
  obtain ⟨x, hx, hp, hb, hn⟩ := lackL_mem.1 hy'
  obtain ⟨i, hi, hi2, hi3⟩ := some_crate hgk hf hx (by omega)
  have hlo : ∀ z ∈ leftL lc l out, z.ok = true := ordOk_all (lackL_ok hok)
  have hu := (useW_pos (c := lc[i]!) hlo).2 y hy
  have hu1 : 1 ≤ use1 lc[i]! y := by
    unfold use1
    rw [hb, hn]
    omega
  rcases bestK_best lc (leftL lc l out) out lc.length with ⟨_, _, q⟩ | ⟨j, hj, q1, q2, q3, q4⟩
  · exact absurd (q i hi) hi2
  · rw [q1] at h6
    exact ⟨j, hj, h6, by have := (q4 i hi hi2).1; omega, h5, q4⟩
/-! ### What is taken out -/
theorem cntC_put_own {c : Cr} {p : Nat} {b : Bt} (hp : p < 12) (hb : rB c.toList p = b) (hz : zB ≠ b) : cntC (setC c p zB) b + 1 = cntC c b := by
  rw [cntC_all, cntC_all]
  have hl : p < c.toList.length := by rw [Vector.length_toList]; exact hp
  have e : (setC c p zB).toList = c.toList.set p zB := by simp [setC]
  rw [e, List.countP_set (h := hl)]
  have h1 : (zB.like b) = false := by rw [← Bool.not_eq_true, Bt.like_iff]; exact hz
  have h2 : (c.toList[p].like b) = true := by rw [Bt.like_iff, ← rB_lt hl]; exact hb
  have h3 : 0 < c.toList.countP fun x => x.like b := List.countP_pos_iff.2 ⟨_, List.getElem_mem hl, h2⟩
  rw [h1, h2]
  simp only [if_true, Bool.false_eq_true, if_false]
  omega
theorem cntL_putL {L : List Cr} {k : Nat} (hk : k < L.length) (c : Cr) (b : Bt) : cntL (L.set k c) b + cntC L[k]! b = cntL L b + cntC c b := by
  unfold cntL
  rw [getB hk]
  have h1 : L = L.take k ++ L[k] :: L.drop (k + 1) := by rw [List.getElem_cons_drop, List.take_append_drop]
  have h2 : L.set k c = L.take k ++ c :: L.drop (k + 1) := by rw [List.set_eq_take_append_cons_drop, if_pos hk]
  rw [h2]
  conv => rhs; rw [h1]
  simp only [List.map_append, List.map_cons, List.sum_append, List.sum_cons]
  omega
/-- What has been taken is missing. -/
theorem tkP_miss {b : Bt} (hz : zB ≠ b) (k : Nat) (s : List Cr × List Bt × Int) (hk : k < s.1.length) : ∀ p, p ≤ 12 → ((cntL (tkP b k p s).1 b : Nat) : Int) - (tkP b k p s).2.2 = (cntL s.1 b : Nat) - s.2.2
  | 0, _ => rfl
  | p + 1, hp => by
    have ih := tkP_miss hz k s hk p (by omega)
    have hl := (tkP_stay b k p s).len
    rw [tkP]
    generalize tkP b k p s = t at ih hl ⊢
    unfold tkStep
    split
    · rename_i h
      simp only [Bool.and_eq_true, decide_eq_true_iff, Bt.like_iff] at h
      have h1 := cntL_putL (L := t.1) (k := k) (by omega) (setC t.1[k]! p zB) b
      have h2 := cntC_put_own (show p < 12 by omega) h.2 hz
      show ((cntL (t.1.set k (setC t.1[k]! p zB)) b : Nat) : Int) - (t.2.2 - 1) = _
      omega
    · exact ih
theorem tkK_miss {b : Bt} (hz : zB ≠ b) (ks : List Int) (s : List Cr × List Bt × Int) (hk : ∀ x ∈ ks, 0 ≤ x ∧ x < s.1.length) : ∀ j, j ≤ ks.length → ((cntL (tkK b ks j s).1 b : Nat) : Int) - (tkK b ks j s).2.2 = (cntL s.1 b : Nat) - s.2.2
  | 0, _ => rfl
  | j + 1, hj => by
    have ih := tkK_miss hz ks s hk j (by omega)
    have hl := (tkK_stay b ks j s).len
    have := hk _ (getD_mem (show j < ks.length by omega))
    rw [tkK, tkP_miss hz _ _ (by omega) 12 (Nat.le_refl _), ih]
theorem tkK_else {b b' : Bt} (ks : List Int) (s : List Cr × List Bt × Int) (h1 : b ≠ b') (h2 : zB ≠ b') (q : Nat) : cntL (tkK b ks q s).1 b' = cntL s.1 b' := by
  have hl := (tkK_stay b ks q s).len
  rw [cntL_at, cntL_at, hl]
  congr 1
  refine List.map_congr_left fun y hy => ?_
  have := everyL_in hy
  exact tkK_cnt b b' ks y.toNat s (by omega) h1 h2 q
theorem sumC_eq {lc : List Cr} {ks : List Int} (hg : Good lc.length ks) (b : Bt) : sumC lc b ks = cntL (opL lc ks) b := by
  rw [opL_nodup lc hg.nd]
  unfold sumC cntL
  rw [List.map_map]
  rfl
section
variable {lc : List Cr} {l : List Wt} {ks : List Int} (hok : ordOk l = true) (hg : Good lc.length ks) (hf : leftL lc l ks = [])
include hok hg hf
theorem tkW_miss : ∀ i, i ≤ l.length → (∀ j, j < i → ((cntL (tkW lc l ks i).1 l[j]!.b : Nat) : Int) = (cntL lc l[j]!.b : Nat) - l[j]!.n) ∧ ∀ j, i ≤ j → j < l.length → cntL (tkW lc l ks i).1 l[j]!.b = cntL lc l[j]!.b
  | 0, _ => ⟨fun j hj => absurd hj (Nat.not_lt_zero _), fun j _ _ => rfl⟩
  | i + 1, hi => by
    obtain ⟨i1, i2⟩ := tkW_miss i (by omega)
    have hk : okK l l.length := by simp only [ordOk, Bool.and_eq_true, decide_eq_true_iff] at hok; exact hok.1
    have hx := Wt.ok_n (ordOk_all hok l[i]! (by rw [getB (show i < l.length by omega)]; exact List.getElem_mem _))
    have hle := tkW_len lc l ks i
    have hsum : ∀ x ∈ l, x.n ≤ (sumC lc x.b ks : Int) := fun x hx => by
      rw [sumC_eq hg]
      exact lackL_nil.1 hf x hx
    have hkeep := (tkW_bots hk hg (fun j hj => hsum _ (by rw [getB hj]; exact List.getElem_mem _)) i (by omega)).2 i (Nat.le_refl _) (by omega)
    have e : sumC (tkW lc l ks i).1 l[i]!.b ks = sumC lc l[i]!.b ks := by
      unfold sumC
      congr 1
      refine List.map_congr_left fun y hy => ?_
      have := hg.inn y hy
      exact hkeep y.toNat (by omega)
    have hg2 : Good (tkW lc l ks i).1.length ks := by rw [hle]; exact hg
    have ht := (tkK_take l[i]!.b ks ((tkW lc l ks i).1, (tkW lc l ks i).2, l[i]!.n) hg2 (by show 0 ≤ l[i]!.n; omega) ks.length (Nat.le_refl _)).2.1
    rw [List.take_length] at ht
    have hs := hsum l[i]! (by rw [getB (show i < l.length by omega)]; exact List.getElem_mem _)
    have hz := tkK_miss (okK_z hk (show i < l.length by omega)) ks ((tkW lc l ks i).1, (tkW lc l ks i).2, l[i]!.n) (fun x hx => hg2.inn x hx) ks.length (Nat.le_refl _)
    have h0 : (tkK l[i]!.b ks ks.length ((tkW lc l ks i).1, (tkW lc l ks i).2, l[i]!.n)).2.2 = 0 := by
      rw [ht]
      show l[i]!.n - ((min l[i]!.n.toNat (sumC (tkW lc l ks i).1 l[i]!.b ks) : Nat) : Int) = 0
      rw [e]
      omega
    rw [h0] at hz
    have hz' : ((cntL (tkK l[i]!.b ks ks.length ((tkW lc l ks i).1, (tkW lc l ks i).2, l[i]!.n)).1 l[i]!.b : Nat) : Int) - 0 = (cntL (tkW lc l ks i).1 l[i]!.b : Nat) - l[i]!.n := hz
    have e2 := i2 i (Nat.le_refl _) (by omega)
    refine ⟨fun j hj => ?_, fun j hj hj2 => ?_⟩
    · rw [tkW]
      show ((cntL (tkK l[i]!.b ks ks.length ((tkW lc l ks i).1, (tkW lc l ks i).2, l[i]!.n)).1 l[j]!.b : Nat) : Int) = _
      rcases Nat.lt_or_ge j i with q | q
      · rw [tkK_else ks _ (fun e => okK_ne hk (show i < l.length by omega) q e.symm) (okK_z hk (by omega))]
        exact i1 j q
      · obtain rfl : j = i := by omega
        omega
    · rw [tkW]
      show cntL (tkK l[i]!.b ks ks.length ((tkW lc l ks i).1, (tkW lc l ks i).2, l[i]!.n)).1 l[j]!.b = _
      rw [tkK_else ks _ (okK_ne hk hj2 (by omega)) (okK_z hk hj2)]
      exact i2 j (by omega) hj2
theorem out_miss {j : Nat} (hj : j < l.length) : ((cntL (outL lc l ks).1 l[j]!.b : Nat) : Int) = (cntL lc l[j]!.b : Nat) - l[j]!.n := (tkW_miss hok hg hf l.length (Nat.le_refl _)).1 j hj
end
theorem tkK_other (b : Bt) (ks : List Int) (s : List Cr × List Bt × Int) (i : Nat) (hi : i < s.1.length) (hk : ∀ x ∈ ks, 0 ≤ x ∧ x < s.1.length) (hn : (i : Int) ∉ ks) : ∀ j, j ≤ ks.length → (tkK b ks j s).1[i]! = s.1[i]!
  | 0, _ => rfl
  | j + 1, hj => by
    have hm := getD_mem (show j < ks.length by omega)
    have hl := (tkK_stay b ks j s).len
    have h0 := hk _ hm
    rw [tkK, tkP_other b _ i _ (by omega) (fun e => hn (by
      have : (i : Int) = ks.getD j 0 := by omega
      rw [this]
      exact hm)) 12]
    exact tkK_other b ks s i hi hk hn j (by omega)
theorem out_other {lc : List Cr} {l : List Wt} {ks : List Int} (hg : Good lc.length ks) {i : Nat} (hi : i < lc.length) (hn : (i : Int) ∉ ks) : ∀ j, (tkW lc l ks j).1[i]! = lc[i]!
  | 0 => rfl
  | j + 1 => by
    have hl := tkW_len lc l ks j
    rw [tkW]
    show (tkK l[j]!.b ks ks.length ((tkW lc l ks j).1, (tkW lc l ks j).2, l[j]!.n)).1[i]! = _
    rw [tkK_other _ ks _ i (by show i < (tkW lc l ks j).1.length; omega) (fun x hx => by have := hg.inn x hx; show _ ∧ _ < ((tkW lc l ks j).1.length : Int); omega) hn ks.length (Nat.le_refl _)]
    exact out_other hg hi hn j
theorem botsL_len {l : List Wt} (h : ∀ x ∈ l, 0 ≤ x.n) : ((botsL l).length : Int) = sumW l := by
  induction l with
  | nil => rfl
  | cons x l ih =>
    have h1 := ih fun y hy => h y (List.mem_cons_of_mem _ hy)
    have h2 := h x (List.mem_cons_self ..)
    have e : botsL (x :: l) = List.replicate x.n.toNat x.b ++ botsL l := by simp [botsL]
    have e2 : sumW (x :: l) = x.n + sumW l := by simp [sumW]
    rw [e, e2, List.length_append, List.length_replicate]
    omega
theorem botsL_at {l : List Wt} {i k : Nat} (hi : i < l.length) (hk : k < l[i]!.n.toNat) : (botsL l)[(botsL (l.take i)).length + k]? = some l[i]!.b := by
  have h1 : botsL l = botsL (l.take (i + 1)) ++ botsL (l.drop (i + 1)) := by
    unfold botsL
    rw [← List.flatMap_append, List.take_append_drop]
  rw [h1, botsL_step hi, List.append_assoc, List.getElem?_append_right (by omega), Nat.add_sub_cancel_left, List.getElem?_append_left (by simpa using hk), List.getElem?_replicate, if_pos hk]
/-! ### What is packed -/
theorem packC_cnt (bs : List Bt) (b : Bt) (hz : zB ≠ b) (i j : Nat) : cntC (packC bs i j) b = ((List.range 12).filter fun p => decide (12 * j + p < i) && (rB bs (12 * j + p)).like b).length := by
  have h1 : zB.like b = false := by rw [← Bool.not_eq_true, Bt.like_iff]; exact hz
  rw [cntC_all, packC_toList, List.countP_map, List.countP_eq_length_filter]
  congr 1
  refine List.filter_congr fun p _ => ?_
  simp only [Function.comp]
  by_cases h : 12 * j + p < i
  · simp [h]
  · simp [h, h1]
theorem range_cnt (q : Nat → Bool) : ∀ (m : Nat), (((List.range m).map fun j => ((List.range 12).filter fun p => q (12 * j + p)).length).sum) = ((List.range (12 * m)).filter q).length
  | 0 => rfl
  | m + 1 => by
    rw [List.range_succ (n := m), List.map_append, List.sum_append, range_cnt q m, show 12 * (m + 1) = 12 * m + 12 by omega, List.range_add, List.filter_append, List.length_append, List.filter_map, List.length_map]
    simp [Function.comp_def]
theorem packL_cnt (bs : List Bt) (b : Bt) (hz : zB ≠ b) : cntL (packL bs) b = bs.countP fun x => x.like b := by
  unfold packL packK cntL
  rw [List.map_map]
  have e : ((List.range ((bs.length + 11) / 12)).map ((fun c => cntC c b) ∘ packC bs bs.length)) = (List.range ((bs.length + 11) / 12)).map fun j => ((List.range 12).filter fun p => (fun i => decide (i < bs.length) && (rB bs i).like b) (12 * j + p)).length :=
    List.map_congr_left fun j _ => packC_cnt bs b hz bs.length j
  rw [e, range_cnt (fun i => decide (i < bs.length) && (rB bs i).like b)]
  have h2 : 12 * ((bs.length + 11) / 12) = bs.length + (12 * ((bs.length + 11) / 12) - bs.length) := by omega
  rw [h2, List.range_add, List.filter_append, List.length_append]
  have h3 : ((List.range (12 * ((bs.length + 11) / 12) - bs.length)).map (bs.length + ·)).filter (fun i => decide (i < bs.length) && (rB bs i).like b) = [] := by
    rw [List.filter_eq_nil_iff]
    intro i hi
    obtain ⟨j, _, rfl⟩ := List.mem_map.1 hi
    rw [decide_eq_false (show ¬ bs.length + j < bs.length by omega)]
    simp
  rw [h3, List.length_nil, Nat.add_zero]
  have h4 : (List.range bs.length).filter (fun i => decide (i < bs.length) && (rB bs i).like b) = (List.range bs.length).filter fun i => (rB bs i).like b := List.filter_congr fun i hi => by
    rw [decide_eq_true (List.mem_range.1 hi), Bool.true_and]
  rw [h4, ← List.countP_eq_length_filter]
  have h5 : bs = (List.range bs.length).map (rB bs) := by
    apply List.ext_getElem (by simp)
    intro i hi hi'
    simp [rB_lt hi]
  conv => rhs; rw [h5]
  rw [List.countP_map]
  rfl
theorem botsL_cnt {l : List Wt} (h : Str l) {x : Wt} (hx : x ∈ l) : (botsL l).countP (fun y => y.like x.b) = x.n.toNat := by
  induction l with
  | nil => cases hx
  | cons z l ih =>
    have e : botsL (z :: l) = List.replicate z.n.toNat z.b ++ botsL l := by simp [botsL]
    have hs : Str l := (List.pairwise_cons.1 h).2
    rw [e, List.countP_append, List.countP_replicate]
    have hnot : ∀ (t : Bt), (∀ y ∈ l, y.b ≠ t) → (botsL l).countP (fun y => y.like t) = 0 := fun t ht => by
      rw [List.countP_eq_zero]
      intro y hy
      unfold botsL at hy
      obtain ⟨u, hu, hy⟩ := List.mem_flatMap.1 hy
      rw [List.eq_of_mem_replicate hy, Bt.like_iff]
      exact ht u hu
    rcases List.mem_cons.1 hx with rfl | hx
    · rw [if_pos (Bt.like_iff.2 rfl), hnot x.b fun y hy => (cmp_ne ((List.pairwise_cons.1 h).1 y hy)).symm]
      omega
    · have hne : z.b ≠ x.b := cmp_ne ((List.pairwise_cons.1 h).1 x hx)
      rw [if_neg (by rw [Bt.like_iff]; exact hne), ih hs hx]
      omega
/-! ### Several orders -/
theorem sevK_first {lc : List Cr} {os : List (List Wt)} (h0 : 0 < os.length) (hf : lackL (cntL lc) os[0]! = []) : ∀ i, 0 < i → ∃ r, (sevK lc os i).2 = 0 :: r
  | 0, h => absurd h (Nat.lt_irrefl _)
  | i + 1, _ => by
    by_cases hi : i = 0
    · subst hi
      have : (fewS (sevK lc os 0).1 os[0]!).2 = true := fewS_found hf
      rw [sevK, if_pos this]
      exact ⟨[], rfl⟩
    · obtain ⟨r, hr⟩ := sevK_first h0 hf i (by omega)
      rw [sevK]
      split
      · exact ⟨_, by rw [hr]; rfl⟩
      · exact ⟨r, hr⟩
end Go.Proofs.Ytbngpcghognojaa
namespace Go.Proofs.Ytbngpcghognojaa
open Go Go.RowKit
set_option linter.unusedVariables false
set_option linter.unusedSimpArgs false
set_option maxRecDepth 100000
set_option maxHeartbeats 1000000
def StrC (l : List Ct) : Prop := l.Pairwise fun x y => x.b.cmp y.b < 0
theorem le_ne {a b : Bt} (h : leB a b = true) (hn : a ≠ b) : a.cmp b < 0 := by
  rw [leB_iff] at h
  by_cases h1 : a.cmp b < 0
  · exact h1
  · exact absurd (cmp_tri h1 (fun q => h (cmp_pos.1 q))) hn
theorem runs_str {l : List Bt} (hs : l.Pairwise fun a b => leB a b = true) : ∀ k, k ≤ l.length → StrC (runs (l.take k)) ∧ ∀ x ∈ runs (l.take k), x.b ∈ l.take k
  | 0, _ => by simp [runs, StrC]
  | k + 1, h => by
    obtain ⟨h1, h2⟩ := runs_str hs k (by omega)
    have hk : k < l.length := by omega
    rw [runs_step hk]
    have ht : l.take (k + 1) = l.take k ++ [l[k]!] := by rw [List.take_succ_eq_append_getElem hk, getB hk]
    have hle : ∀ y ∈ l.take k, leB y l[k]! = true := by
      rw [← List.take_length (l := l)] at hs
      have h3 := hs.sublist (List.take_sublist_take_left (l := l) (show k + 1 ≤ l.length from h))
      rw [ht, List.pairwise_append] at h3
      exact fun y hy => h3.2.2 y hy _ (by simp)
    rw [ht]
    generalize runs (l.take k) = out at h1 h2
    generalize l[k]! = b at *
    generalize l.take k = T at *
    rcases List.eq_nil_or_concat out with rfl | ⟨o, x, rfl⟩
    · rw [stepC_nil]
      exact ⟨by simp [StrC], fun x hx => by obtain rfl : x = _ := by simpa using hx
                                            simp⟩
    · rw [List.concat_eq_append] at *
      unfold StrC at h1 ⊢
      rw [List.pairwise_append] at h1
      have hxT := h2 x (by simp)
      by_cases he : x.b = b
      · rw [stepC_same o x he, List.pairwise_append]
        refine ⟨⟨h1.1, by simp, fun y hy z hz => ?_⟩, fun y hy => ?_⟩
        · obtain rfl : z = _ := by simpa using hz
          have := h1.2.2 y hy x (by simp)
          rw [he] at this
          exact this
        · rcases List.mem_append.1 hy with hy | hy
          · exact List.mem_append_left _ (h2 y (List.mem_append_left _ hy))
          · obtain rfl : y = _ := by simpa using hy
            simp
      · rw [stepC_new o x he, List.pairwise_append]
        have hlt := le_ne (hle _ hxT) he
        refine ⟨⟨List.pairwise_append.2 h1, by simp, fun y hy z hz => ?_⟩, fun y hy => ?_⟩
        · obtain rfl : z = _ := by simpa using hz
          rcases List.mem_append.1 hy with hy | hy
          · exact cmp_trans (h1.2.2 y hy x (by simp)) hlt
          · obtain rfl : y = _ := by simpa using hy
            exact hlt
        · rcases List.mem_append.1 hy with hy | hy
          · exact List.mem_append_left _ (h2 y hy)
          · obtain rfl : y = _ := by simpa using hy
            simp
theorem wantsI_b (l : List Int) (cs : List Ct) (s : Nat × Int) : ∀ i, i ≤ cs.length → (wantsI l cs s i).1.map (·.b) = (cs.take i).map (·.b)
  | 0, _ => rfl
  | i + 1, h => by
    rw [wantsI_succ, List.map_append, wantsI_b l cs s i (by omega), List.take_succ_eq_append_getElem (by omega), List.map_append, getB (by omega)]
    rfl
theorem ordF_ok (l : List Int) (s : Nat × Int) : ordOk (ordF l s) = true := by
  have h4 := ordF_len l s
  have hn := @ordF_n l s
  have hsort := sortB_sorted (botsF l s).1
  obtain ⟨h1, h2⟩ := runs_str hsort _ (Nat.le_refl _)
  rw [List.take_length] at h1 h2
  have hb := wantsI_b l (runs (sortB (botsF l s).1)) (botsF l s).2 _ (Nat.le_refl _)
  rw [List.take_length] at hb
  replace hb : (ordF l s).map (·.b) = (runs (sortB (botsF l s).1)).map (·.b) := hb
  refine ordOk_of ?_ (fun x hx => ?_) (by omega)
  · have : ((ordF l s).map (·.b)).Pairwise fun a b => a.cmp b < 0 := by
      rw [hb, List.pairwise_map]
      exact h1
    rw [List.pairwise_map] at this
    exact this
  · have hm : x.b ∈ (ordF l s).map (·.b) := List.mem_map.2 ⟨x, hx, rfl⟩
    rw [hb] at hm
    obtain ⟨y, hy, he⟩ := List.mem_map.1 hm
    have hk := botsI_ok l (stepF l s) (pickF l 5 s).toNat y.b ((sortB_perm _).mem_iff.1 (h2 y hy))
    have := hn x hx
    simp only [Wt.ok, Bool.and_eq_true, decide_eq_true_iff]
    exact ⟨by rw [← he]; exact hk, by omega, by omega⟩
theorem possW_mem {lc : List Cr} {x y : Wt} : y ∈ possW lc x ↔ 0 < possN lc x ∧ y.b = x.b ∧ y.n = possN lc x := by
  unfold possW
  split
  · rename_i h
    simp only [List.mem_singleton]
    constructor
    · rintro rfl; exact ⟨h, rfl, rfl⟩
    · rintro ⟨_, h1, h2⟩
      cases y
      simp only at h1 h2
      subst h1 h2
      rfl
  · rename_i h
    simp [h]
theorem possL_mem {lc : List Cr} {l : List Wt} {y : Wt} : y ∈ possL lc l ↔ ∃ x ∈ l, 0 < possN lc x ∧ y.b = x.b ∧ y.n = possN lc x := by
  unfold possL
  rw [List.mem_flatMap]
  exact ⟨fun ⟨x, hx, h⟩ => ⟨x, hx, possW_mem.1 h⟩, fun ⟨x, hx, h⟩ => ⟨x, hx, possW_mem.2 h⟩⟩
theorem possL_str {lc : List Cr} : ∀ {l : List Wt}, Str l → Str (possL lc l)
  | [], _ => by simp [possL, Str]
  | x :: l, h => by
    unfold Str at h
    rw [List.pairwise_cons] at h
    have ih := possL_str (lc := lc) h.2
    show List.Pairwise _ (possL lc (x :: l))
    rw [show possL lc (x :: l) = possW lc x ++ possL lc l by simp [possL], List.pairwise_append]
    refine ⟨?_, ih, fun y hy z hz => ?_⟩
    · unfold possW
      split <;> simp
    · obtain ⟨_, h1, _⟩ := possW_mem.1 hy
      obtain ⟨u, hu, _, h2, _⟩ := possL_mem.1 hz
      rw [h1, h2]
      exact h.1 u hu
theorem possN_le (lc : List Cr) (x : Wt) : possN lc x ≤ x.n ∧ possN lc x ≤ cntL lc x.b := by
  unfold possN
  split <;> omega
theorem possL_ok {lc : List Cr} {l : List Wt} (h : ordOk l = true) : ordOk (possL lc l) = true := by
  refine ordOk_of (possL_str (ordOk_str h)) (fun y hy => ?_) (Nat.le_trans (possL_le lc l) (ordOk_len h))
  obtain ⟨x, hx, hp, hb, hn⟩ := possL_mem.1 hy
  have h1 := Wt.ok_n (ordOk_all h x hx)
  have h2 := possN_le lc x
  simp only [Wt.ok, Bool.and_eq_true, decide_eq_true_iff]
  exact ⟨by rw [hb]; exact h1.2.2, by omega, by omega⟩
theorem possL_lack (lc : List Cr) (l : List Wt) : lackL (cntL lc) (possL lc l) = [] := by
  rw [lackL_nil]
  intro y hy
  obtain ⟨x, hx, hp, hb, hn⟩ := possL_mem.1 hy
  rw [hn, hb]
  exact (possN_le lc x).2
theorem stackF_stk (l : List Int) : stackOk (stackF l) = true := by
  have h1 := stackF_len l
  have h2 := stackF_ok l
  simp only [stackOk, Bool.and_eq_true, decide_eq_true_iff, List.all_eq_true]
  exact ⟨by omega, h2⟩
end Go.Proofs.Ytbngpcghognojaa
namespace Go.Proofs.Ytbngpcghognojaa
open Go.RowKit
set_option linter.unusedVariables false
set_option linter.unusedSimpArgs false
set_option maxRecDepth 100000
set_option maxHeartbeats 1000000
attribute [local go_sem] Oper.qB
theorem sziBottle (x : Bt) : (Try.prog.info? 42).map (·.size) = some (bc x).length := by rw [bc_length]; kernel_rfl
end Go.Proofs.Ytbngpcghognojaa
namespace Go.Proofs.Ytbngpcghognojaa
open Go.RowKit
set_option linter.unusedVariables false
set_option linter.unusedSimpArgs false
set_option maxRecDepth 100000
set_option maxHeartbeats 1000000
attribute [local go_sem] Oper.qB
/-- The marks of a bottle. -/
def mkb (k0 : Int) (i : Nat) : List Value := [.int .u8 ((k0 + 2 * (i : Int)) % 256), .int .i16 (IntKind.i16.wrap (k0 + 2 * (i : Int) + 1))]
theorem mkb_length (k0 : Int) (i : Nat) : (mkb k0 i).length = 2 := rfl
theorem mkb_step {k0 : Int} {l : List Bt} {k : Nat} (hk : k < l.length) :
    ((fl (mkb k0) (List.range k) ++ fl bc (l.drop k)).set (k * 2) (.int .u8 ((k0 + 2 * (k : Int)) % 256))).set (k * 2 + 1) (.int .i16 (IntKind.i16.wrap (k0 + 2 * (k : Int) + 1))) = fl (mkb k0) (List.range (k + 1)) ++ fl bc (l.drop (k + 1)) := by
  have hl : (fl (mkb k0) (List.range k)).length = k * 2 := by rw [fl_length (mkb_length k0), List.length_range]
  rw [List.set_append_right _ _ (by omega), hl, Nat.sub_self, List.set_append_right _ _ (by omega), hl, Nat.add_sub_cancel_left, List.range_succ, fl_append, fl_one, List.drop_eq_getElem_cons hk, fl_cons]
  simp [bc, mkb]
end Go.Proofs.Ytbngpcghognojaa
