/- Texts of the claim, joined (12 of 19): Tip, LevelP, Turn, Free, Add. -/
import Derived.Test.YtbngpcghognojaaGreatDoorBC1
import Derived.Test.YtbngpcghognojaaGreatDoorBC2
import Derived.Test.YtbngpcghognojaaGreatDoorBC3
import Derived.Test.YtbngpcghognojaaGreatDoorBC4
import Derived.Test.YtbngpcghognojaaGreatDoorBC6
import Derived.Test.YtbngpcghognojaaGreatDoorBC11
namespace Go.Proofs.YtbngpcghognojaaGreatDoor
open Go.RowKit
set_option linter.unusedVariables false
set_option linter.unusedSimpArgs false
set_option maxRecDepth 100000
set_option maxHeartbeats 1000000
def eastI (l : List Int) : Int := (l.map fun i => 2 * (i % 4) - 3).sum
def southI (l : List Int) : Int := (l.map fun i => i / 4 - 1).sum
theorem eastI_succ {l : List Int} {k : Nat} (h : k < l.length) : eastI (l.take (k + 1)) = eastI (l.take k) + (2 * (l.getD k 0 % 4) - 3) := by
  rw [List.take_succ_eq_append_getElem h]
  rw [eastI, List.map_append, List.sum_append, List.getD_eq_getElem?_getD, List.getElem?_eq_getElem h]
  simp [eastI]
theorem southI_succ {l : List Int} {k : Nat} (h : k < l.length) : southI (l.take (k + 1)) = southI (l.take k) + (l.getD k 0 / 4 - 1) := by
  rw [List.take_succ_eq_append_getElem h]
  rw [southI, List.map_append, List.sum_append, List.getD_eq_getElem?_getD, List.getElem?_eq_getElem h]
  simp [southI]
/-- Numbers of places. -/
def Places (l : List Int) : Prop := l.length ≤ 12 ∧ ∀ x ∈ l, 0 ≤ x ∧ x ≤ 11
theorem tip_bound {l : List Int} (h : ∀ x ∈ l, 0 ≤ x ∧ x ≤ 11) : -3 * (l.length : Int) ≤ eastI l ∧ eastI l ≤ 3 * (l.length : Int) ∧ -3 * (l.length : Int) ≤ southI l ∧ southI l ≤ 3 * (l.length : Int) := by
  induction l with
  | nil => decide
  | cons x l ih =>
    have h0 := h x (by simp)
    have h1 := ih fun y hy => h y (by simp [hy])
    simp only [eastI, southI, List.map_cons, List.sum_cons, List.length_cons] at h1 ⊢
    omega
theorem Places.take {l : List Int} (h : Places l) (k : Nat) : Places (l.take k) :=
  ⟨by rw [List.length_take]; have := h.1; omega, fun x hx => h.2 x (List.mem_of_mem_take hx)⟩
theorem Places.bound {l : List Int} (h : Places l) : -36 ≤ eastI l ∧ eastI l ≤ 36 ∧ -36 ≤ southI l ∧ southI l ≤ 36 := by
  have := tip_bound h.2
  have := h.1
  omega
theorem Places.at {l : List Int} (h : Places l) {k : Nat} (hk : k < l.length) : 0 ≤ l.getD k 0 ∧ l.getD k 0 ≤ 11 := by
  rw [List.getD_eq_getElem?_getD, List.getElem?_eq_getElem hk]
  exact h.2 _ (List.getElem_mem hk)
theorem pl_places (p : Bt → Bool) (l : List Bt) : Places (pl p l 12) := by
  refine ⟨pl_le p l 12, fun x hx => ?_⟩
  simp only [pl, List.mem_map, List.mem_filter, List.mem_range] at hx
  obtain ⟨k, ⟨hk, _⟩, rfl⟩ := hx
  simp only [Int.ofNat_eq_natCast]
  omega
theorem tip_any (A : Option Addr) (cp : Nat) (l : List Int) (w : World) (h : RdA w A (vi l)) (hp : Places l) :
    Calls Tryz.prog 71 #[.slice A l.length cp] w fun e w' => e = .returned (.tuple #[.int .i64 (eastI l), .int .i64 (southI l)]) ∧ w = w' := by
  have HR := Lib.hid h
  have HP := Lib.hid hp
  have hl := hp.1
  clear h hp
  go_enter Tryz.func71, Tryz.ntmps71
  go_wp2
  go_loopw [4, 5, 10] (fun e s i wr => ∃ k : Nat, k ≤ l.length ∧ i = .int .i64 k ∧ e = .int .i64 (eastI (l.take k)) ∧ s = .int .i64 (southI (l.take k)) ∧ wr = w) (fun _ _ i _ => l.length - (intOf i).toNat)
  case atStart => exact ⟨0, Nat.zero_le _, rfl, rfl, rfl, rfl⟩
  case round =>
    obtain ⟨k, hk, rfl, rfl, rfl, rfl⟩ := hrel
    by_cases hlt : k < l.length
    · obtain ⟨g, off, rfl, hg, hC⟩ := HR.out.some (by rw [vi_length]; omega)
      have x0 := hC k _ (vi_at l k hlt)
      have HE := Lib.hid (eastI_succ hlt)
      have HS := Lib.hid (southI_succ hlt)
      have hb := (HP.out.take k).bound
      have hx := HP.out.at hlt
      clear hC
      generalize l.getD k 0 = x at x0 HE HS hx
      generalize eastI (l.take k) = e at HE hb ⊢
      generalize southI (l.take k) = s at HS hb ⊢
      obtain ⟨hb1, hb2, hb3, hb4⟩ := hb
      obtain ⟨hx1, hx2⟩ := hx
      go_wp2
      go_roundw
      case rel => exact ⟨k + 1, by omega, by go_num, congrArg (Value.int .i64) (by have := HE.out; omega), congrArg (Value.int .i64) (by have := HS.out; omega), trivial⟩
      case measure => simp [intOf]; omega
    · obtain rfl : k = l.length := by omega
      go_wp2
      refine bodyPost_ret (results_tt rfl) rfl ⟨?_, rfl⟩
      rw [List.take_length]
      rfl
theorem l01Tip_any (A : Option Addr) (cp : Nat) (l : List Int) (w : World) (h : RdA w A (vi l)) (hp : Places l) :
    Calls Tryz.prog 123 #[.slice A l.length cp] w fun e w' => e = .returned (.tuple #[.int .i64 (eastI l), .int .i64 (southI l)]) ∧ w = w' := by
  have HR := Lib.hid h
  have HP := Lib.hid hp
  have hl := hp.1
  clear h hp
  go_enter Tryz.func123, Tryz.ntmps123
  go_wp2
  go_loopw [4, 5, 6] (fun e s i wr => ∃ k : Nat, k ≤ l.length ∧ i = .int .i64 k ∧ e = .int .i64 (eastI (l.take k)) ∧ s = .int .i64 (southI (l.take k)) ∧ wr = w) (fun _ _ i _ => l.length - (intOf i).toNat)
  case atStart => exact ⟨0, Nat.zero_le _, rfl, rfl, rfl, rfl⟩
  case round =>
    obtain ⟨k, hk, rfl, rfl, rfl, rfl⟩ := hrel
    by_cases hlt : k < l.length
    · obtain ⟨g, off, rfl, hg, hC⟩ := HR.out.some (by rw [vi_length]; omega)
      have x0 := hC k _ (vi_at l k hlt)
      have HE := Lib.hid (eastI_succ hlt)
      have HS := Lib.hid (southI_succ hlt)
      have hb := (HP.out.take k).bound
      have hx := HP.out.at hlt
      clear hC
      generalize l.getD k 0 = x at x0 HE HS hx
      generalize eastI (l.take k) = e at HE hb ⊢
      generalize southI (l.take k) = s at HS hb ⊢
      obtain ⟨hb1, hb2, hb3, hb4⟩ := hb
      obtain ⟨hx1, hx2⟩ := hx
      go_wp2
      go_roundw
      case rel => exact ⟨k + 1, by omega, by go_num, congrArg (Value.int .i64) (by have := HE.out; omega), congrArg (Value.int .i64) (by have := HS.out; omega), trivial⟩
      case measure => simp [intOf]; omega
    · obtain rfl : k = l.length := by omega
      go_wp2
      refine bodyPost_ret (results_tt rfl) rfl ⟨?_, rfl⟩
      rw [List.take_length]
      rfl
def tipR (c : Cr) : Int × Int × Int := if c.ok = true then (eastI (usedI c), southI (usedI c), 0) else (0, 0, 1)
theorem TipOf_any (c : Cr) (w : World) : Calls Tryz.prog 21 #[cv c] w fun e w' => e = .returned (.tuple #[.int .i64 (tipR c).1, .int .i64 (tipR c).2.1, .int .i64 (tipR c).2.2]) ∧ Below w.heap.size w w' := by
  go_enter Tryz.func21, Tryz.ntmps21
  go_upto_region 1 with fail
  generalize hW : World.alloc _ _ = W
  have H0 : Below w.heap.size w W := by rw [← hW]; go_grown
  have r0 : rowOf W (w.heap.size) = some ((cc c).toArray) := (by (try rw [← hW]); simp only [rowOf_alloc, World.size_alloc, ↓reduceIte]; all_goals ((repeat' split) <;> first | omega | (exfalso; omega) | rfl))
  clear hW
  have l0 : w.heap.size ≤ w.heap.size := Nat.le_refl _
  generalize h0 : w.heap.size = g0 at r0 ⊢
  replace l0 : w.heap.size ≤ g0 := Nat.le_of_eq h0
  clear h0
  have b0 := rowOf_lt r0
  have H := Below.refl W.heap.size W
  cases e1 : c.ok with
  | false =>
    have HF := Lib.hid (show tipR c = (0, 0, 1) by simp [tipR, e1])
    go_wp2_with (first | ((with_reducible refine wp_load_rowBg H ?_ _ _ rfl _ rfl _ r0 _ Tryz.underlying28 rfl (infoC c) ?_); rfl) | (go_at_call 18; with_reducible refine (ValidCrate_any c _).mono ?_; rintro e w' ⟨rfl, hb⟩; replace H := bstep H hb; clear hb; have hc := bcell H) | (go_at_call 78; refine (full_any c _).mono ?_; rintro e w' ⟨v, rfl, hown, hb⟩; obtain ⟨A, cp, rfl, hcp, hrd, hbl⟩ := own_rdA hown; replace H := bstep H hb) | (go_at_call 71; refine (tip_any A cp _ _ hrd (pl_places _ _)).mono ?_; rintro e w' ⟨rfl, rfl⟩))
    refine bodyPost_ret (results_ttt rfl) rfl ⟨?_, bstep H0 H⟩
    rw [HF.out]
    rfl
  | true =>
    have HF := Lib.hid (show tipR c = (eastI (usedI c), southI (usedI c), 0) by simp [tipR, e1])
    go_wp2_with (first | ((with_reducible refine wp_load_rowBg H ?_ _ _ rfl _ rfl _ r0 _ Tryz.underlying28 rfl (infoC c) ?_); rfl) | (go_at_call 18; with_reducible refine (ValidCrate_any c _).mono ?_; rintro e w' ⟨rfl, hb⟩; replace H := bstep H hb; clear hb; have hc := bcell H) | (go_at_call 78; refine (full_any c _).mono ?_; rintro e w' ⟨v, rfl, hown, hb⟩; obtain ⟨A, cp, rfl, hcp, hrd, hbl⟩ := own_rdA hown; replace H := bstep H hb) | (go_at_call 71; refine (tip_any A cp _ _ hrd (pl_places _ _)).mono ?_; rintro e w' ⟨rfl, rfl⟩))
    refine bodyPost_ret (results_ttt rfl) rfl ⟨?_, bstep H0 H⟩
    rw [HF.out]
    rfl
end Go.Proofs.YtbngpcghognojaaGreatDoor
namespace Go.Proofs.YtbngpcghognojaaGreatDoor
open Go Go.RowKit
set_option linter.unusedVariables false
set_option linter.unusedSimpArgs false
set_option maxRecDepth 100000
/-- How much places tip. -/
def tipN (ks : List Int) : Int := max (eastI ks) (-eastI ks) + max (southI ks) (-southI ks)
theorem tipN_pos (ks : List Int) : 0 ≤ tipN ks := by unfold tipN; omega
/-- a tips less, or as much and stands before. -/
def lessT (a b : List Int) : Bool := decide (tipN a < tipN b) || (decide (tipN a = tipN b) && ahead a b)
theorem lessT_tot {a b : List Int} (hl : a.length = b.length) (h1 : lessT a b = false) (h2 : lessT b a = false) : a = b := by
  simp only [lessT, Bool.or_eq_false_iff, Bool.and_eq_false_iff, decide_eq_false_iff_not] at h1 h2
  have he : tipN a = tipN b := by omega
  rcases h1.2 with q | q
  · exact absurd he q
  · rcases h2.2 with q2 | q2
    · exact absurd he.symm q2
    · exact ahead_tot a b hl q q2
theorem lessT_trans {a b c : List Int} (hl : a.length = b.length) (hl2 : b.length = c.length) (h1 : lessT a b = true) (h2 : lessT b c = true) : lessT a c = true := by
  simp only [lessT, Bool.or_eq_true, Bool.and_eq_true, decide_eq_true_iff] at *
  rcases h1 with h1 | ⟨h1, k1⟩ <;> rcases h2 with h2 | ⟨h2, k2⟩
  · exact .inl (by omega)
  · exact .inl (by omega)
  · exact .inl (by omega)
  · exact .inr ⟨by omega, ahead_trans a b c hl hl2 k1 k2⟩
theorem lessT_irr (a : List Int) : lessT a a = false := by
  simp [lessT, ahead_irr]
/-- The least of the lists of n places. -/
structure LeastT (n : Nat) (r : List Int) : Prop where
  len : r.length = n
  asc : Asc 0 12 r
  min : ∀ q, Asc 0 12 q → q.length = n → lessT q r = false
theorem LeastT.uniq {n : Nat} {r r' : List Int} (h : LeastT n r) (h' : LeastT n r') : r = r' := lessT_tot (h.len.trans h'.len.symm) (h'.min r h.asc h.len) (h.min r' h'.asc h'.len)
/-- The best of the first lists, in their order. -/
def lvI (rs : List (List Int)) : Nat → List Int × Int
  | 0 => ([], -1)
  | j + 1 => if (decide ((lvI rs j).2 < 0) || decide (tipN rs[j]! < (lvI rs j).2)) = true then (rs[j]!, tipN rs[j]!) else lvI rs j
theorem lvI_cases (rs : List (List Int)) : ∀ j, j = 0 ∨ ∃ i, i < j ∧ lvI rs j = (rs[i]!, tipN rs[i]!) ∧ (∀ i', i' < j → tipN rs[i]! ≤ tipN rs[i']!) ∧ ∀ i', i' < i → tipN rs[i]! < tipN rs[i']!
  | 0 => .inl rfl
  | j + 1 => by
    right
    rw [lvI]
    rcases lvI_cases rs j with rfl | ⟨i, hi, e, h1, h2⟩
    · refine ⟨0, Nat.zero_lt_one, ?_, fun i' hi' => ?_, fun i' hi' => absurd hi' (Nat.not_lt_zero _)⟩
      · rw [if_pos (by simp [lvI])]
      · obtain rfl : i' = 0 := by omega
        exact Int.le_refl _
    · rw [e]
      have hp := tipN_pos rs[i]!
      have e1 : decide ((rs[i]!, tipN rs[i]!).2 < 0) = false := by rw [decide_eq_false_iff_not]; show ¬ tipN rs[i]! < 0; omega
      by_cases hlt : tipN rs[j]! < tipN rs[i]!
      · refine ⟨j, Nat.lt_succ_self _, ?_, fun i' hi' => ?_, fun i' hi' => ?_⟩
        · rw [if_pos (by rw [e1]; simpa using hlt)]
        · rcases Nat.lt_or_ge i' j with q | q
          · have := h1 i' q; omega
          · obtain rfl : i' = j := by omega
            exact Int.le_refl _
        · have := h1 i' hi'; omega
      · refine ⟨i, by omega, ?_, fun i' hi' => ?_, h2⟩
        · rw [if_neg (by rw [e1]; simpa using hlt)]
        · rcases Nat.lt_or_ge i' j with q | q
          · exact h1 i' q
          · obtain rfl : i' = j := by omega
            omega
theorem lvI_asc {n j : Nat} (hj : j ≤ (chF n 0 12).length) : (lvI (chF n 0 12) j) = ([], -1) ∨ ((lvI (chF n 0 12) j).1.length = n ∧ Asc 0 12 (lvI (chF n 0 12) j).1 ∧ (lvI (chF n 0 12) j).2 = tipN (lvI (chF n 0 12) j).1) := by
  rcases lvI_cases (chF n 0 12) j with rfl | ⟨i, hi, e, h1, h2⟩
  · exact .inl rfl
  · right
    rw [e]
    have hm := (chF_mem n 0 12 _).1 (show (chF n 0 12)[i]! ∈ chF n 0 12 by rw [getB (by omega)]; exact List.getElem_mem _)
    exact ⟨hm.1, hm.2, rfl⟩
theorem lvI_least {n : Nat} (hn : n ≤ 12) : LeastT n (lvI (chF n 0 12) (chF n 0 12).length).1 := by
  have hne : everyL n ∈ chF n 0 12 := (chF_mem n 0 12 _).2 ⟨everyL_length n, everyL_asc n, fun x hx => by have := everyL_in hx; omega⟩
  rcases lvI_cases (chF n 0 12) (chF n 0 12).length with h | ⟨i, hi, e, h1, h2⟩
  · rw [List.length_eq_zero_iff.1 h] at hne
    cases hne
  · rw [e]
    have hm := (chF_mem n 0 12 _).1 (show (chF n 0 12)[i]! ∈ chF n 0 12 by rw [getB hi]; exact List.getElem_mem hi)
    refine ⟨hm.1, hm.2, fun q hq hql => ?_⟩
    obtain ⟨i', hi', rfl⟩ := List.getElem_of_mem ((chF_mem n 0 12 q).2 ⟨hql, hq⟩)
    rw [← getB hi'] at hql ⊢
    simp only [lessT, Bool.or_eq_false_iff, Bool.and_eq_false_iff, decide_eq_false_iff_not]
    have k1 := h1 i' hi'
    refine ⟨by omega, ?_⟩
    rcases Nat.lt_trichotomy i' i with h | h | h
    · have := h2 i' h
      exact .inl (by omega)
    · subst h
      exact .inr (ahead_irr _)
    · right
      have := List.pairwise_iff_getElem.1 (chF_sorted n 0 12) i i' hi hi' h
      rw [← getB hi, ← getB hi'] at this
      exact ahead_asymm (hm.1.trans hql.symm) this
/-- One set more. -/
def lvStep (n : Nat) (ks : List Int) (r : List Int × Int) : List Int × Int :=
  if ks.length = n then (if (decide (r.2 < 0) || decide (tipN ks < r.2) || (decide (tipN ks = r.2) && ahead ks r.1)) = true then (ks, tipN ks) else r) else r
/-- The best of the first sets. -/
def lvS (n : Nat) : Nat → List Int × Int
  | 0 => ([], -1)
  | k + 1 => lvStep n (inSet (fun i => 11 - i) k 12) (lvS n k)
theorem lvS_cases (n : Nat) : ∀ k, (lvS n k = ([], -1) ∧ ∀ s, s < k → (inSet (fun i => 11 - i) s 12).length ≠ n) ∨ ((lvS n k).2 = tipN (lvS n k).1 ∧ (lvS n k).1.length = n ∧ Asc 0 12 (lvS n k).1 ∧ ∀ s, s < k → (inSet (fun i => 11 - i) s 12).length = n → lessT (inSet (fun i => 11 - i) s 12) (lvS n k).1 = false)
  | 0 => .inl ⟨rfl, fun s hs => absurd hs (Nat.not_lt_zero _)⟩
  | k + 1 => by
    have ih := lvS_cases n k
    rw [lvS, lvStep]
    have hasc := inSet_asc (fun i => 11 - i) k 12
    generalize hks : inSet (fun i => 11 - i) k 12 = ks at hasc
    generalize lvS n k = r at ih ⊢
    have hcase : ∀ s, s < k + 1 → s < k ∨ s = k := fun s hs => by omega
    by_cases hl : ks.length = n
    · rw [if_pos hl]
      right
      rcases ih with ⟨rfl, ih⟩ | ⟨i1, i2, i3, i4⟩
      · rw [if_pos (by simp)]
        refine ⟨rfl, hl, hasc, fun s hs hsl => ?_⟩
        rcases hcase s hs with q | rfl
        · exact absurd hsl (ih s q)
        · rw [hks]; exact lessT_irr ks
      · have e1 : decide (r.2 < 0) = false := by rw [decide_eq_false_iff_not, i1]; have := tipN_pos r.1; omega
        have e2 : (decide (r.2 < 0) || decide (tipN ks < r.2) || (decide (tipN ks = r.2) && ahead ks r.1)) = lessT ks r.1 := by rw [e1, i1, lessT, Bool.false_or]
        rw [e2]
        cases hlt : lessT ks r.1 with
        | true =>
          rw [if_pos rfl]
          refine ⟨rfl, hl, hasc, fun s hs hsl => ?_⟩
          rcases hcase s hs with q | rfl
          · rw [← Bool.not_eq_true]
            intro h
            have := lessT_trans (hsl.trans hl.symm) (hl.trans i2.symm) h hlt
            rw [i4 s q hsl] at this
            cases this
          · rw [hks]; exact lessT_irr ks
        | false =>
          rw [if_neg (by simp)]
          refine ⟨i1, i2, i3, fun s hs hsl => ?_⟩
          rcases hcase s hs with q | rfl
          · exact i4 s q hsl
          · rw [hks]; exact hlt
    · rw [if_neg hl]
      rcases ih with ⟨rfl, ih⟩ | ⟨i1, i2, i3, i4⟩
      · refine .inl ⟨rfl, fun s hs => ?_⟩
        rcases hcase s hs with q | rfl
        · exact ih s q
        · rw [hks]; exact hl
      · refine .inr ⟨i1, i2, i3, fun s hs hsl => ?_⟩
        rcases hcase s hs with q | rfl
        · exact i4 s q hsl
        · rw [hks] at hsl; exact absurd hsl hl
theorem lvS_least {n : Nat} (hn : n ≤ 12) : LeastT n (lvS n 4096).1 := by
  have hall := @inSet_all 12 (fun i => 11 - i) (fun i hi => ⟨by show 11 - i < 12; omega, by show 11 - (11 - i) = i; omega⟩)
  rcases lvS_cases n 4096 with ⟨_, h⟩ | ⟨i1, i2, i3, i4⟩
  · obtain ⟨s, hs, e⟩ := hall (ks := everyL n) ⟨everyL_asc n, fun x hx => by have := everyL_in hx; omega⟩
    exact absurd (by rw [e]; exact everyL_length n) (h s hs)
  · refine ⟨i2, i3, fun q hq hql => ?_⟩
    obtain ⟨s, hs, rfl⟩ := hall hq
    exact i4 s hs hql
/-- The places for n bottles. -/
def level (n : Nat) : List Int := (lvS n 4096).1
theorem level_eq {n : Nat} (hn : n ≤ 12) : (lvI (chF n 0 12) (chF n 0 12).length).1 = level n := (lvI_least hn).uniq (lvS_least hn)
theorem level_len {n : Nat} (hn : n ≤ 12) : (level n).length = n := (lvS_least hn).len
theorem level_places {n : Nat} (hn : n ≤ 12) : Places (level n) := ⟨by rw [level_len hn]; exact hn, fun x hx => by have := (lvS_least hn).asc.2 x hx; omega⟩
/-- Bottles put into some places. -/
def spread (ks : List Int) (bs : List Bt) : Nat → Cr
  | 0 => zC
  | i + 1 => setC (spread ks bs i) (ks.getD i 0).toNat (rB bs i)
def levelR (c : Cr) : Cr × Int := if c.ok = true then (spread (level (allB c).length) (allB c) (allB c).length, 0) else (zC, 1)
end Go.Proofs.YtbngpcghognojaaGreatDoor
namespace Go.Proofs.YtbngpcghognojaaGreatDoor
open Go.RowKit
set_option linter.unusedVariables false
set_option linter.unusedSimpArgs false
set_option maxRecDepth 100000
set_option maxHeartbeats 1000000
/-- A crate backwards. -/
def revC (c : Cr) : Cr := ⟨c.toList.reverse.toArray, by simp⟩
theorem revC_toList (c : Cr) : (revC c).toList = c.toList.reverse := rfl
/-- The first k bottles, from the last place back. -/
def backs (l : List Bt) (k : Nat) : List Bt := List.replicate (12 - k) zB ++ (l.take k).reverse
theorem backs_zero (l : List Bt) : backs l 0 = zC.toList := by simp [backs, zC]
theorem backs_full {l : List Bt} (h : l.length = 12) : backs l 12 = l.reverse := by simp [backs, List.take_of_length_le (Nat.le_of_eq h)]
theorem backs_length {l : List Bt} {k : Nat} (h : k ≤ l.length) (h12 : k ≤ 12) : (backs l k).length = 12 := by simp [backs]; omega
theorem backs_set {l : List Bt} {k : Nat} (h : k < l.length) (h12 : k < 12) : (backs l k).set (11 - k) (rB l k) = backs l (k + 1) := by
  have e : 12 - k = (11 - k) + 1 := by omega
  unfold backs
  rw [e, List.replicate_succ', List.take_succ_eq_append_getElem h, ← rB_lt h, List.reverse_append, List.append_assoc]
  rw [List.set_append_right _ _ (by simp), List.length_replicate, Nat.sub_self, show 12 - (k + 1) = 11 - k by omega]
  simp
theorem rowOf_put {w : World} {g n : Nat} {cs F : Array Value} (h : rowOf w g = some cs) (hs : cs.size = F.size) :
    rowOf (Sort.putRow id (Sort.ahead w n) g 0 F) g = some F ∧ (∀ B, B ≤ g → Below B w (Sort.putRow id (Sort.ahead w n) g 0 F)) ∧ ∀ k, k ≠ g → rowOf (Sort.putRow id (Sort.ahead w n) g 0 F) k = rowOf w k := by
  obtain ⟨t, ht⟩ := rowOf_some h
  have e : Sort.putCells id 0 F cs = F := by
    apply Array.ext
    · simp [Sort.putCells, hs]
    · intro i h1 h2
      simp [Sort.putCells, h2]
  refine ⟨?_, ?_, ?_⟩
  · refine rowOf_of (t := t) ?_
    simp only [Sort.putRow, Sort.mapBlock, Sort.ahead, Array.getElem?_modify, if_true, ht, Option.map_some, Sort.onCells, e]
  · intro B hB
    refine ⟨rfl, rfl, rfl, by simp [Sort.putRow, Sort.mapBlock, Sort.ahead], fun k hk => ?_⟩
    simp only [Sort.putRow, Sort.mapBlock, Sort.ahead, Array.getElem?_modify]
    rw [if_neg (by omega)]
  · intro k hk
    unfold rowOf
    simp only [Sort.putRow, Sort.mapBlock, Sort.ahead, Array.getElem?_modify]
    rw [if_neg (Ne.symm hk)]
theorem flat_bcs (l : List Bt) : Sort.flatK bc 2 l.toArray = (bcs l).toArray := by
  apply Array.ext
  · simp [bcs_length]; omega
  · intro i h1 h2
    simp only [List.size_toArray, bcs_length] at h2
    have hi : i / 2 < l.length := by omega
    obtain ⟨a0, a1⟩ := bcs_at l (i / 2) hi
    have hg : l.toArray[i / 2]! = rB l (i / 2) := by rw [rB_lt hi]; simp [hi]
    have h0 := Sort.get_flatK bc 2 l.toArray i (by simp; omega)
    rw [getElem!_pos _ i h1, hg] at h0
    rw [h0]
    rcases Nat.mod_two_eq_zero_or_one i with h | h
    · rw [h]
      have : i = i / 2 * 2 := by omega
      have e : (bcs l)[i]? = some (.int .u8 (rB l (i / 2)).k) := by rw [← a0]; congr 1
      simp only [List.getElem_toArray]
      rw [List.getElem?_eq_getElem (by rw [bcs_length]; omega)] at e
      simp only [Option.some.injEq] at e
      rw [e]
      rfl
    · rw [h]
      have : i = i / 2 * 2 + 1 := by omega
      have e : (bcs l)[i]? = some (.int .i16 (rB l (i / 2)).y) := by rw [← a1]; congr 1
      simp only [List.getElem_toArray]
      rw [List.getElem?_eq_getElem (by rw [bcs_length]; omega)] at e
      simp only [Option.some.injEq] at e
      rw [e]
      rfl
def turnR (c : Cr) : Cr × Int := if c.ok = true then (revC c, 0) else (zC, 1)
theorem Reverse_row {w : World} {g cap : Nat} {c : Cr} (hr : rowOf w g = some (cc c).toArray) :
    Calls Tryz.prog 67 #[.slice (some ⟨g, 0, none⟩) 12 cap] w fun e w' => e = .returned (.tuple #[]) ∧ rowOf w' g = some (cc (revC c)).toArray ∧ (∀ B, B ≤ g → Below B w w') ∧ ∀ k, k ≠ g → rowOf w' k = rowOf w k := by
  have hl : c.toList.length = 12 := Vector.length_toList
  have hF : Sort.flatK bc 2 c.toList.toArray = (cc c).toArray := flat_bcs c.toList
  have hH : Sort.HoldsK bc 2 w g 0 c.toList.toArray := by
    unfold Sort.HoldsK
    rw [hF]
    intro j hj
    rw [Nat.zero_add, rowOf_cell hr, rowOf_frozen hr, getElem!_pos _ j hj, Array.getElem?_eq_getElem hj]
    exact ⟨rfl, rfl⟩
  have hz : c.toList.toArray.size = 12 := by simp [hl]
  have := AnyQ.slices_Reverse Tryz.lx67 2 Tryz.isAgg26 Tryz.sizeOf26 bc (fun _ => rfl) (fun x v hv => by simp [bc] at hv; rcases hv with rfl | rfl <;> rfl) g 0 cap c.toList.toArray w hH (by omega)
  rw [hz] at this
  refine this.mono ?_
  rintro e w' ⟨rfl, n, rfl⟩
  have hR : Sort.flatK bc 2 c.toList.toArray.reverse = (cc (revC c)).toArray := by
    rw [show c.toList.toArray.reverse = c.toList.reverse.toArray by simp]
    exact flat_bcs _
  unfold Sort.putRowK
  rw [hR]
  obtain ⟨h1, h2, h3⟩ := rowOf_put (n := n) (F := (cc (revC c)).toArray) hr (cc_size2 _ _)
  exact ⟨rfl, h1, h2, h3⟩
theorem TurnCrate_any (c : Cr) (w : World) : Calls Tryz.prog 12 #[cv c] w fun e w' => e = .returned (.tuple #[cv (turnR c).1, .int .i64 (turnR c).2]) ∧ Below w.heap.size w w' := by
  go_enter Tryz.func12, Tryz.ntmps12
  go_upto_region 1 with fail
  generalize hW : World.alloc _ _ = W
  have H0 : Below w.heap.size w W := by rw [← hW]; go_grown
  have r0 : rowOf W (w.heap.size) = some ((cc c).toArray) := (by (try rw [← hW]); simp only [rowOf_alloc, World.size_alloc, ↓reduceIte]; all_goals ((repeat' split) <;> first | omega | (exfalso; omega) | rfl))
  have r1 : rowOf W (w.heap.size + 1) = some ((cc zC).toArray) := (by (try rw [← hW]); simp only [rowOf_alloc, World.size_alloc, ↓reduceIte]; all_goals ((repeat' split) <;> first | omega | (exfalso; omega) | rfl))
  clear hW
  have q0 : w.heap.size < w.heap.size + 1 := by omega
  have l0 : w.heap.size ≤ w.heap.size := Nat.le_refl _
  generalize w.heap.size + 1 = g1 at r1 q0 ⊢
  generalize h0 : w.heap.size = g0 at r0 q0 ⊢
  replace l0 : w.heap.size ≤ g0 := Nat.le_of_eq h0
  clear h0
  have b0 := rowOf_lt r0
  have b1 := rowOf_lt r1
  have H := Below.refl W.heap.size W
  cases e1 : c.ok with
  | false =>
    have HF := Lib.hid (show turnR c = (zC, 1) by simp [turnR, e1])
    go_wp2_with (first | ((with_reducible refine wp_load_rowBg H ?_ _ _ rfl _ rfl _ r0 _ Tryz.underlying28 rfl (infoC c) ?_); rfl) | (go_at_call 18; with_reducible refine (ValidCrate_any c _).mono ?_; rintro e w' ⟨rfl, hb⟩; replace H := bstep H hb; clear hb; have hc := bcell H) | (with_reducible refine wp_store_zeroB H rfl rfl _ _ rfl _ rfl rfl _ r1 ?_) | (with_reducible refine wp_store_rowB H rfl rfl _ _ _ rfl _ rfl _ rfl _ r1 (cc_size2 _ _) (infoC _) (cc_one _) ?_))
    rw [HF.out]
    refine bodyPost_ret (results_ct rfl rfl (loadVar_rowOf (cc zC).toArray (by rw [rowOf_setRow, if_pos rfl, rowOf_below H (rowOf_lt r1), r1]; rfl) _ Tryz.underlying28 rfl (infoC _))) rfl ⟨rfl, bsetRow (bstep H0 H) (by omega) _⟩
  | true =>
    have HF := Lib.hid (show turnR c = (revC c, 0) by simp [turnR, e1])
    go_wp2_with (first | ((with_reducible refine wp_load_rowBg H ?_ _ _ rfl _ rfl _ r0 _ Tryz.underlying28 rfl (infoC c) ?_); rfl) | (go_at_call 18; with_reducible refine (ValidCrate_any c _).mono ?_; rintro e w' ⟨rfl, hb⟩; replace H := bstep H hb; clear hb; have hc := bcell H))
    refine (Reverse_row (row_kept r0 H)).mono ?_
    rintro e w2 ⟨rfl, s0, hB, hK⟩
    have s1 : rowOf w2 g1 = some (cc zC).toArray := (hK g1 (by omega)).trans (row_kept r1 H)
    replace H0 := (bstep H0 H).trans (hB _ l0)
    clear hc H hB hK r0 r1
    have H := Below.refl w2.heap.size w2
    go_wp2_with (first | ((with_reducible refine wp_load_rowBg H ?_ _ _ rfl _ rfl _ s0 _ Tryz.underlying28 rfl (infoC (revC c)) ?_); rfl) | (with_reducible refine wp_store_rowB H rfl rfl _ _ _ rfl _ rfl _ rfl _ s1 (cc_size2 _ _) (infoC _) (cc_one _) ?_))
    rw [HF.out]
    refine bodyPost_ret (results_ct rfl rfl (loadVar_rowOf (cc (revC c)).toArray (by rw [rowOf_setRow, if_pos rfl, rowOf_below H (rowOf_lt s1), s1]; rfl) _ Tryz.underlying28 rfl (infoC _))) rfl ⟨rfl, bsetRow (bstep H0 H) (by omega) _⟩
theorem sTurnCrate_any (c : Cr) (w : World) : Calls Tryz.prog 13 #[cv c] w fun e w' => e = .returned (.tuple #[cv (turnR c).1, .int .i64 (turnR c).2]) ∧ Below w.heap.size w w' := by
  have HL := Lib.hid (Vector.length_toList (xs := c))
  go_enter Tryz.func13, Tryz.ntmps13
  go_upto_region 1 with fail
  generalize hW : World.alloc _ _ = W
  have H0 : Below w.heap.size w W := by rw [← hW]; go_grown
  have r0 : rowOf W (w.heap.size) = some ((cc c).toArray) := (by (try rw [← hW]); simp only [rowOf_alloc, World.size_alloc, ↓reduceIte]; all_goals ((repeat' split) <;> first | omega | (exfalso; omega) | rfl))
  have r1 : rowOf W (w.heap.size + 1) = some ((cc zC).toArray) := (by (try rw [← hW]); simp only [rowOf_alloc, World.size_alloc, ↓reduceIte]; all_goals ((repeat' split) <;> first | omega | (exfalso; omega) | rfl))
  clear hW
  have q0 : w.heap.size < w.heap.size + 1 := by omega
  have l0 : w.heap.size ≤ w.heap.size := Nat.le_refl _
  generalize w.heap.size + 1 = g1 at r1 q0 ⊢
  generalize h0 : w.heap.size = g0 at r0 q0 ⊢
  replace l0 : w.heap.size ≤ g0 := Nat.le_of_eq h0
  clear h0
  have b0 := rowOf_lt r0
  have b1 := rowOf_lt r1
  have H := Below.refl W.heap.size W
  cases e1 : c.ok with
  | false =>
    have HF := Lib.hid (show turnR c = (zC, 1) by simp [turnR, e1])
    go_wp2_with (first | ((with_reducible refine wp_load_rowBg H ?_ _ _ rfl _ rfl _ r0 _ Tryz.underlying28 rfl (infoC c) ?_); rfl) | (go_at_call 68; with_reducible refine (l01Ok_row H r0).mono ?_; rintro e w' ⟨rfl, hb⟩; replace H := bstep H hb; clear hb; have hc := bcell H) | (with_reducible refine wp_store_zeroB H rfl rfl _ _ rfl _ rfl rfl _ r1 ?_) | (with_reducible refine wp_store_rowB H rfl rfl _ _ _ rfl _ rfl _ rfl _ r1 (cc_size2 _ _) (infoC _) (cc_one _) ?_))
    rw [HF.out]
    refine bodyPost_ret (results_ct rfl rfl (loadVar_rowOf (cc zC).toArray (by rw [rowOf_setRow, if_pos rfl, rowOf_below H (rowOf_lt r1), r1]; rfl) _ Tryz.underlying28 rfl (infoC _))) rfl ⟨rfl, bsetRow (bstep H0 H) (by omega) _⟩
  | true =>
    have HF := Lib.hid (show turnR c = (revC c, 0) by simp [turnR, e1])
    go_upto_region 4 with (first | (go_at_call 68; with_reducible refine (l01Ok_row H r0).mono ?_; rintro e w' ⟨rfl, hb⟩; replace H := bstep H hb; clear hb; have hc := bcell H) | ((with_reducible refine wp_store_rowOf rfl rfl _ _ _ rfl _ rfl (cc zC).toArray rfl (cc zC).toArray ?hr (cc_size2 _ _) (infoC _) (cc_one _) ?_); (case hr => rw [rowOf_alloc, if_pos rfl]; rfl)))
    clear hc
    generalize hW2 : World.setRow _ _ _ = W2
    obtain ⟨HB, r2, b2⟩ := laid_row H hW2
    clear hW2
    have qr02 := Nat.lt_of_lt_of_le (rowOf_lt r0) H.size
    replace r0 := row_kept r0 HB
    have qr12 := Nat.lt_of_lt_of_le (rowOf_lt r1) H.size
    replace r1 := row_kept r1 HB
    replace H0 := bstep H0 HB
    replace H := below_self HB
    generalize w'.heap.size = g2 at *
    have HI := Lib.hid (And.intro r0 (And.intro r1 r2))
    clear r0 r1 r2 H
    go_wp2
    go_loopw [5] (fun i wr => ∃ k : Nat, k ≤ 12 ∧ i = .int .i64 k ∧ Below w.heap.size w wr ∧ Hid (rowOf wr g0 = some (cc c).toArray ∧ rowOf wr g1 = some (cc zC).toArray ∧ rowOf wr g2 = some (bcs (backs c.toList k)).toArray)) (fun i _ => 12 - (intOf i).toNat)
    case atStart => exact ⟨0, by omega, rfl, H0, HI.out.1, HI.out.2.1, by rw [backs_zero]; exact HI.out.2.2⟩
    case round =>
      clear HI H0
      obtain ⟨k, hk, rfl, hb, HR⟩ := hrel
      by_cases hlt : k < 12
      · have hkl : k < c.toList.length := by rw [HL.out]; exact hlt
        obtain ⟨m, hm⟩ : ∃ m : Nat, m = 11 - k := ⟨_, rfl⟩
        have hm1 : (11 : Int) - (k : Int) = (m : Int) := by omega
        have hm2 : m < 12 := by omega
        have hml : m < (backs c.toList k).length := by rw [backs_length (by omega) hk]; exact hm2
        have x0 := row0 HR.out.1 hkl
        have x1 := row1 HR.out.1 hkl
        have y0 := row0 HR.out.2.2 hml
        have y1 := row1 HR.out.2.2 hml
        have f0 := rowOf_frozen HR.out.2.2 (m * 2)
        have f1 := rowOf_frozen HR.out.2.2 (m * 2 + 1)
        have HP := Lib.hid (backs_set hkl hlt)
        rw [← hm] at HP
        have HS := Lib.hid (fun b => row_put b HR.out.2.2 hml)
        clear hkl hml hm
        generalize rB c.toList k = b at x0 x1 HP
        generalize rB (backs c.toList k) m = b' at y0 y1
        go_wp2
        go_roundw
        case rel =>
          refine ⟨k + 1, by omega, by go_num, (hb.setCell (by show _ ≤ g2; omega) _).setCell (by show _ ≤ g2; omega) _, ?_, ?_, ?_⟩
          · rw [row_far (by omega), row_far (by omega), HR.out.1]
          · rw [row_far (by omega), row_far (by omega), HR.out.2.1]
          · rw [HS.out b, HP.out]
        case measure => simp [intOf]; omega
      · obtain rfl : k = 12 := by omega
        have r0 := HR.out.1
        have r1 := HR.out.2.1
        have r2 : rowOf wr g2 = some (cc (revC c)).toArray := by
          have := HR.out.2.2
          rwa [backs_full HL.out] at this
        have H0 := hb
        have H := Below.refl wr.heap.size wr
        clear HR hb
        go_wp2_with (first | ((with_reducible refine wp_load_rowBg H ?_ _ _ rfl _ rfl _ r2 _ Tryz.underlying28 rfl (infoC (revC c)) ?_); rfl) | (with_reducible refine wp_store_rowB H rfl rfl _ _ _ rfl _ rfl _ rfl _ r1 (cc_size2 _ _) (infoC _) (cc_one _) ?_))
        rw [HF.out]
        refine bodyPost_ret (results_ct rfl rfl (loadVar_rowOf (cc (revC c)).toArray (by rw [rowOf_setRow, if_pos rfl, rowOf_below H (rowOf_lt r1), r1]; rfl) _ Tryz.underlying28 rfl (infoC _))) rfl ⟨rfl, bsetRow (bstep H0 H) (by omega) _⟩
end Go.Proofs.YtbngpcghognojaaGreatDoor
namespace Go.Proofs.YtbngpcghognojaaGreatDoor
open Go.RowKit
set_option linter.unusedVariables false
set_option linter.unusedSimpArgs false
set_option maxRecDepth 100000
set_option maxHeartbeats 1000000
def freeR (c : Cr) : List Int × Int := if c.ok = true then (freeI c, 0) else ([], 1)
theorem FreePlaces_any (c : Cr) (w : World) : Calls Tryz.prog 23 #[cv c] w fun e w' => ∃ v, e = .returned (.tuple #[v, .int .i64 (freeR c).2]) ∧ w'.ownsRow w.heap.size 2 1 v (freeR c).1.length (vi (freeR c).1) ∧ Below w.heap.size w w' := by
  go_enter Tryz.func23, Tryz.ntmps23
  go_upto_region 1 with fail
  generalize hW : World.alloc _ _ = W
  have H0 : Below w.heap.size w W := by rw [← hW]; go_grown
  have r0 : rowOf W (w.heap.size) = some ((cc c).toArray) := (by (try rw [← hW]); simp only [rowOf_alloc, World.size_alloc, ↓reduceIte]; all_goals ((repeat' split) <;> first | omega | (exfalso; omega) | rfl))
  clear hW
  have l0 : w.heap.size ≤ w.heap.size := Nat.le_refl _
  generalize h0 : w.heap.size = g0 at r0 ⊢
  replace l0 : w.heap.size ≤ g0 := Nat.le_of_eq h0
  clear h0
  have b0 := rowOf_lt r0
  have H := Below.refl W.heap.size W
  cases e1 : c.ok with
  | false =>
    have HF := Lib.hid (show freeR c = ([], 1) by simp [freeR, e1])
    go_wp2_with (first | ((with_reducible refine wp_load_rowBg H ?_ _ _ rfl _ rfl _ r0 _ Tryz.underlying28 rfl (infoC c) ?_); rfl) | (go_at_call 18; with_reducible refine (ValidCrate_any c _).mono ?_; rintro e w' ⟨rfl, hb⟩; replace H := bstep H hb; clear hb; have hc := bcell H))
    rw [HF.out]
    exact bodyPost_ret (results_tt rfl) rfl ⟨_, rfl, own_nil, bstep H0 H⟩
  | true =>
    have HF := Lib.hid (show freeR c = (freeI c, 0) by simp [freeR, e1])
    go_wp2_with (first | ((with_reducible refine wp_load_rowBg H ?_ _ _ rfl _ rfl _ r0 _ Tryz.underlying28 rfl (infoC c) ?_); rfl) | (go_at_call 18; with_reducible refine (ValidCrate_any c _).mono ?_; rintro e w' ⟨rfl, hb⟩; replace H := bstep H hb; clear hb; have hc := bcell H) | (go_at_call 80; refine (free_any c _).mono ?_; rintro e w2 ⟨v, rfl, hown, hb⟩))
    rw [HF.out]
    exact bodyPost_ret (results_tt rfl) rfl ⟨v, rfl, own_down hown (bstep H0 H).size, (bstep H0 H).trans (hb.mono (bstep H0 H).size)⟩
end Go.Proofs.YtbngpcghognojaaGreatDoor
namespace Go.Proofs.YtbngpcghognojaaGreatDoor
open Go.RowKit
set_option linter.unusedVariables false
set_option linter.unusedSimpArgs false
set_option maxRecDepth 100000
set_option maxHeartbeats 1000000
theorem em_like (b : Bt) : b.em = b.like zB := by simp [Bt.em, Bt.like, zB]
theorem pl_none {p : Bt → Bool} {l : List Bt} {k : Nat} (h : ∀ j, j < k → p (rB l j) = false) : pl p l k = [] := by
  induction k with
  | zero => rfl
  | succ k ih => rw [pl_no (h k (by omega)), ih fun j hj => h j (by omega)]
theorem pl_first {p : Bt → Bool} {l : List Bt} {k : Nat} (h : ∀ j, j < k → p (rB l j) = false) (hk : p (rB l k) = true) (m : Nat) : ∃ r, pl p l (k + 1 + m) = (k : Int) :: r := by
  induction m with
  | zero => exact ⟨[], by rw [Nat.add_zero, pl_yes hk, pl_none h]; rfl⟩
  | succ m ih =>
    obtain ⟨r, hr⟩ := ih
    rw [← Nat.add_assoc]
    cases hp : p (rB l (k + 1 + m)) with
    | true => exact ⟨_, by rw [pl_yes hp, hr]; rfl⟩
    | false => exact ⟨r, by rw [pl_no hp, hr]⟩
theorem free_first (c : Cr) : (firstI c zB = -1 ∧ freeI c = []) ∨ ∃ (k : Nat) (r : List Int), k < 12 ∧ firstI c zB = k ∧ freeI c = (k : Int) :: r := by
  rcases firstI_full c zB with ⟨h, hn⟩ | ⟨k, hk, h1, h2, h3⟩
  · exact .inl ⟨h, pl_none fun j hj => by rw [em_like]; exact hn j hj⟩
  · obtain ⟨r, hr⟩ := pl_first (p := Bt.em) (l := c.toList) (k := k) (fun j hj => by rw [em_like]; exact h3 j hj) (by rw [em_like]; exact h2) (11 - k)
    rw [show k + 1 + (11 - k) = 12 by omega] at hr
    exact .inr ⟨k, r, hk, h1, hr⟩
/-- What AddBottle comes to. -/
def addR (c : Cr) (b : Bt) : Cr × Int × Int := if (c.ok && b.ok) = false then (zC, 0, 1) else if firstI c zB < 0 then (zC, 0, 3) else (setC c (firstI c zB).toNat b, firstI c zB, 0)
theorem sAddBottle_any (c : Cr) (b : Bt) (w : World) : Calls Tryz.prog 28 #[cv c, bv b] w fun e w' => e = .returned (.tuple #[cv (addR c b).1, .int .i64 (addR c b).2.1, .int .i64 (addR c b).2.2]) ∧ Below w.heap.size w w' := by
  go_enter Tryz.func28, Tryz.ntmps28
  go_upto_region 1 with fail
  generalize hW : World.alloc _ _ = W
  have H0 : Below w.heap.size w W := by rw [← hW]; go_grown
  have r0 : rowOf W (w.heap.size) = some ((cc c).toArray) := (by (try rw [← hW]); simp only [rowOf_alloc, World.size_alloc, ↓reduceIte]; all_goals ((repeat' split) <;> first | omega | (exfalso; omega) | rfl))
  have r1 : rowOf W (w.heap.size + 1) = some (#[.int .u8 b.k, .int .i16 b.y]) := (by (try rw [← hW]); simp only [rowOf_alloc, World.size_alloc, ↓reduceIte]; all_goals ((repeat' split) <;> first | omega | (exfalso; omega) | rfl))
  have r2 : rowOf W (w.heap.size + 1 + 1) = some ((cc zC).toArray) := (by (try rw [← hW]); simp only [rowOf_alloc, World.size_alloc, ↓reduceIte]; all_goals ((repeat' split) <;> first | omega | (exfalso; omega) | rfl))
  clear hW
  have q0 : w.heap.size < w.heap.size + 1 := by omega
  have q1 : w.heap.size + 1 < w.heap.size + 1 + 1 := by omega
  have l0 : w.heap.size ≤ w.heap.size := Nat.le_refl _
  generalize w.heap.size + 1 + 1 = g2 at r2 q1 ⊢
  generalize w.heap.size + 1 = g1 at r1 q0 q1 ⊢
  generalize h0 : w.heap.size = g0 at r0 q0 ⊢
  replace l0 : w.heap.size ≤ g0 := Nat.le_of_eq h0
  clear h0
  have b0 := rowOf_lt r0
  have b1 := rowOf_lt r1
  have b2 := rowOf_lt r2
  have H := Below.refl W.heap.size W
  cases e1 : c.ok with
  | false =>
    have HF := Lib.hid (show addR c b = (zC, 0, 1) by simp [addR, e1])
    go_wp2_with (first | ((with_reducible refine wp_load_rowBg H ?_ _ _ rfl _ rfl _ r0 _ Tryz.underlying28 rfl (infoC c) ?_); rfl) | ((with_reducible refine wp_load_rowBg H ?_ _ _ rfl _ rfl _ r1 _ Tryz.underlying26 rfl (infoB _ _) ?_); rfl) | (go_at_call 68; with_reducible refine (l01Ok_row H r0).mono ?_; rintro e w' ⟨rfl, hb⟩; replace H := bstep H hb; clear hb; have hc := bcell H) | (go_at_call 84; with_reducible refine (l01Bottle_any b _).mono ?_; rintro e w' ⟨rfl, hb⟩; replace H := bstep H hb; clear hb; have hc := bcell H) | (with_reducible refine wp_store_zeroB H rfl rfl _ _ rfl _ rfl rfl _ r2 ?_))
    rw [HF.out]
    refine bodyPost_ret (results_ctt rfl rfl (loadVar_rowOf (cc zC).toArray (by rw [rowOf_setRow, if_pos rfl, rowOf_below H (rowOf_lt r2), r2]; rfl) _ Tryz.underlying28 rfl (infoC _))) rfl ⟨rfl, bsetRow (bstep H0 H) (by omega) _⟩
  | true =>
    cases e2 : b.ok with
    | false =>
      have HF := Lib.hid (show addR c b = (zC, 0, 1) by simp [addR, e1, e2])
      go_wp2_with (first | ((with_reducible refine wp_load_rowBg H ?_ _ _ rfl _ rfl _ r0 _ Tryz.underlying28 rfl (infoC c) ?_); rfl) | ((with_reducible refine wp_load_rowBg H ?_ _ _ rfl _ rfl _ r1 _ Tryz.underlying26 rfl (infoB _ _) ?_); rfl) | (go_at_call 68; with_reducible refine (l01Ok_row H r0).mono ?_; rintro e w' ⟨rfl, hb⟩; replace H := bstep H hb; clear hb; have hc := bcell H) | (go_at_call 84; with_reducible refine (l01Bottle_any b _).mono ?_; rintro e w' ⟨rfl, hb⟩; replace H := bstep H hb; clear hb; have hc := bcell H) | (with_reducible refine wp_store_zeroB H rfl rfl _ _ rfl _ rfl rfl _ r2 ?_))
      rw [HF.out]
      refine bodyPost_ret (results_ctt rfl rfl (loadVar_rowOf (cc zC).toArray (by rw [rowOf_setRow, if_pos rfl, rowOf_below H (rowOf_lt r2), r2]; rfl) _ Tryz.underlying28 rfl (infoC _))) rfl ⟨rfl, bsetRow (bstep H0 H) (by omega) _⟩
    | true =>
      have HF := Lib.hid (show addR c b = if firstI c zB < 0 then (zC, 0, 3) else (setC c (firstI c zB).toNat b, firstI c zB, 0) by simp [addR, e1, e2])
      have hF : ∀ w g, rowOf w g = some (cc c).toArray → Calls Tryz.prog 85 #[.pointer (some ⟨g, 0, none⟩), .agg #[.int .u8 0, .int .i16 0]] w fun e w' => e = .returned (.int .i64 (firstI c zB)) ∧ Below w.heap.size w w' := fun w g h => l01First_row zB (Below.refl _ _) h
      rcases free_first c with ⟨hf, _⟩ | ⟨k, r, hk, hf, _⟩
      · rw [hf] at HF hF
        go_wp2_with (first | ((with_reducible refine wp_load_rowBg H ?_ _ _ rfl _ rfl _ r1 _ Tryz.underlying26 rfl (infoB _ _) ?_); rfl) | (go_at_call 68; with_reducible refine (l01Ok_row H r0).mono ?_; rintro e w' ⟨rfl, hb⟩; replace H := bstep H hb; clear hb; have hc := bcell H) | (go_at_call 84; with_reducible refine (l01Bottle_any b _).mono ?_; rintro e w' ⟨rfl, hb⟩; replace H := bstep H hb; clear hb; have hc := bcell H) | (go_at_call 85; with_reducible refine (hF _ _ (row_kept r0 H)).mono ?_; rintro e w' ⟨rfl, hb⟩; replace H := bstep H hb; clear hb; have hc := bcell H) | (with_reducible refine wp_store_zeroB H rfl rfl _ _ rfl _ rfl rfl _ r2 ?_))
        rw [HF.out]
        refine bodyPost_ret (results_ctt rfl rfl (loadVar_rowOf (cc zC).toArray (by rw [rowOf_setRow, if_pos rfl, rowOf_below H (rowOf_lt r2), r2]; rfl) _ Tryz.underlying28 rfl (infoC _))) rfl ⟨rfl, bsetRow (bstep H0 H) (by omega) _⟩
      · rw [hf] at HF hF
        have HF' := Lib.hid (HF.out.trans (if_neg (by omega)))
        clear HF
        have hkl : k < c.toList.length := by rw [Vector.length_toList]; exact hk
        have x0 := row0 r0 hkl
        have x1 := row1 r0 hkl
        have f0 := rowOf_frozen r0 (k * 2)
        have f1 := rowOf_frozen r0 (k * 2 + 1)
        have HKL := Lib.hid hkl
        clear hkl
        generalize rB c.toList k = b' at x0 x1
        go_upto_region 7 with (first | ((with_reducible refine wp_load_rowBg H ?_ _ _ rfl _ rfl _ r1 _ Tryz.underlying26 rfl (infoB _ _) ?_); rfl) | (go_at_call 68; with_reducible refine (l01Ok_row H r0).mono ?_; rintro e w' ⟨rfl, hb⟩; replace H := bstep H hb; clear hb; have hc := bcell H) | (go_at_call 84; with_reducible refine (l01Bottle_any b _).mono ?_; rintro e w' ⟨rfl, hb⟩; replace H := bstep H hb; clear hb; have hc := bcell H) | (go_at_call 85; with_reducible refine (hF _ _ (row_kept r0 H)).mono ?_; rintro e w' ⟨rfl, hb⟩; replace H := bstep H hb; clear hb; have hc := bcell H))
        have s0 := row_put b (row_kept r0 H) HKL.out
        have s2 : rowOf ((w'.setCell ⟨g0, k * 2, none⟩ (.int .u8 b.k)).setCell ⟨g0, k * 2 + 1, none⟩ (.int .i16 b.y)) g2 = some (cc zC).toArray := by rw [row_far (by omega), row_far (by omega), row_kept r2 H]
        have H1 : Below w.heap.size w ((w'.setCell ⟨g0, k * 2, none⟩ (.int .u8 b.k)).setCell ⟨g0, k * 2 + 1, none⟩ (.int .i16 b.y)) := ((bstep H0 H).setCell (by show _ ≤ g0; omega) _).setCell (by show _ ≤ g0; omega) _
        clear H hc x0 x1 f0 f1 e1 e2 r0 r1 r2 H0 b0 b1 b2 hF
        generalize (w'.setCell ⟨g0, k * 2, none⟩ (.int .u8 b.k)).setCell ⟨g0, k * 2 + 1, none⟩ (.int .i16 b.y) = W2 at *
        replace s0 : rowOf W2 g0 = some (cc (setC c k b)).toArray := s0
        have H := Below.refl W2.heap.size W2
        go_wp2_with (first | ((with_reducible refine wp_load_rowBg H ?_ _ _ rfl _ rfl _ s0 _ Tryz.underlying28 rfl (infoC (setC c k b)) ?_); rfl) | (with_reducible refine wp_store_rowB H rfl rfl _ _ _ rfl _ rfl _ rfl _ s2 (cc_size2 _ _) (infoC _) (cc_one _) ?_))
        rw [HF'.out]
        have H0 := H1
        refine bodyPost_ret (results_ctt rfl rfl (loadVar_rowOf (cc (setC c k b)).toArray (by rw [rowOf_setRow, if_pos rfl, rowOf_below H (rowOf_lt s2), s2]; rfl) _ Tryz.underlying28 rfl (infoC _))) rfl ⟨rfl, bsetRow (bstep H0 H) (by omega) _⟩
theorem AddBottle_any (c : Cr) (b : Bt) (w : World) : Calls Tryz.prog 27 #[cv c, bv b] w fun e w' => e = .returned (.tuple #[cv (addR c b).1, .int .i64 (addR c b).2.1, .int .i64 (addR c b).2.2]) ∧ Below w.heap.size w w' := by
  go_enter Tryz.func27, Tryz.ntmps27
  go_upto_region 1 with fail
  generalize hW : World.alloc _ _ = W
  have H0 : Below w.heap.size w W := by rw [← hW]; go_grown
  have r0 : rowOf W (w.heap.size) = some ((cc c).toArray) := (by (try rw [← hW]); simp only [rowOf_alloc, World.size_alloc, ↓reduceIte]; all_goals ((repeat' split) <;> first | omega | (exfalso; omega) | rfl))
  have r1 : rowOf W (w.heap.size + 1) = some (#[.int .u8 b.k, .int .i16 b.y]) := (by (try rw [← hW]); simp only [rowOf_alloc, World.size_alloc, ↓reduceIte]; all_goals ((repeat' split) <;> first | omega | (exfalso; omega) | rfl))
  have r2 : rowOf W (w.heap.size + 1 + 1) = some ((cc zC).toArray) := (by (try rw [← hW]); simp only [rowOf_alloc, World.size_alloc, ↓reduceIte]; all_goals ((repeat' split) <;> first | omega | (exfalso; omega) | rfl))
  clear hW
  have q0 : w.heap.size < w.heap.size + 1 := by omega
  have q1 : w.heap.size + 1 < w.heap.size + 1 + 1 := by omega
  have l0 : w.heap.size ≤ w.heap.size := Nat.le_refl _
  generalize w.heap.size + 1 + 1 = g2 at r2 q1 ⊢
  generalize w.heap.size + 1 = g1 at r1 q0 q1 ⊢
  generalize h0 : w.heap.size = g0 at r0 q0 ⊢
  replace l0 : w.heap.size ≤ g0 := Nat.le_of_eq h0
  clear h0
  have b0 := rowOf_lt r0
  have b1 := rowOf_lt r1
  have b2 := rowOf_lt r2
  have H := Below.refl W.heap.size W
  cases e1 : c.ok with
  | false =>
    have HF := Lib.hid (show addR c b = (zC, 0, 1) by simp [addR, e1])
    go_wp2_with (first | ((with_reducible refine wp_load_rowBg H ?_ _ _ rfl _ rfl _ r0 _ Tryz.underlying28 rfl (infoC c) ?_); rfl) | ((with_reducible refine wp_load_rowBg H ?_ _ _ rfl _ rfl _ r1 _ Tryz.underlying26 rfl (infoB _ _) ?_); rfl) | (go_at_call 18; with_reducible refine (ValidCrate_any c _).mono ?_; rintro e w' ⟨rfl, hb⟩; replace H := bstep H hb; clear hb; have hc := bcell H) | (go_at_call 19; with_reducible refine (ValidBottle_any b _).mono ?_; rintro e w' ⟨rfl, hb⟩; replace H := bstep H hb; clear hb; have hc := bcell H) | (with_reducible refine wp_store_zeroB H rfl rfl _ _ rfl _ rfl rfl _ r2 ?_))
    rw [HF.out]
    refine bodyPost_ret (results_ctt rfl rfl (loadVar_rowOf (cc zC).toArray (by rw [rowOf_setRow, if_pos rfl, rowOf_below H (rowOf_lt r2), r2]; rfl) _ Tryz.underlying28 rfl (infoC _))) rfl ⟨rfl, bsetRow (bstep H0 H) (by omega) _⟩
  | true =>
    cases e2 : b.ok with
    | false =>
      have HF := Lib.hid (show addR c b = (zC, 0, 1) by simp [addR, e1, e2])
      go_wp2_with (first | ((with_reducible refine wp_load_rowBg H ?_ _ _ rfl _ rfl _ r0 _ Tryz.underlying28 rfl (infoC c) ?_); rfl) | ((with_reducible refine wp_load_rowBg H ?_ _ _ rfl _ rfl _ r1 _ Tryz.underlying26 rfl (infoB _ _) ?_); rfl) | (go_at_call 18; with_reducible refine (ValidCrate_any c _).mono ?_; rintro e w' ⟨rfl, hb⟩; replace H := bstep H hb; clear hb; have hc := bcell H) | (go_at_call 19; with_reducible refine (ValidBottle_any b _).mono ?_; rintro e w' ⟨rfl, hb⟩; replace H := bstep H hb; clear hb; have hc := bcell H) | (with_reducible refine wp_store_zeroB H rfl rfl _ _ rfl _ rfl rfl _ r2 ?_))
      rw [HF.out]
      refine bodyPost_ret (results_ctt rfl rfl (loadVar_rowOf (cc zC).toArray (by rw [rowOf_setRow, if_pos rfl, rowOf_below H (rowOf_lt r2), r2]; rfl) _ Tryz.underlying28 rfl (infoC _))) rfl ⟨rfl, bsetRow (bstep H0 H) (by omega) _⟩
    | true =>
      have HF := Lib.hid (show addR c b = if firstI c zB < 0 then (zC, 0, 3) else (setC c (firstI c zB).toNat b, firstI c zB, 0) by simp [addR, e1, e2])
      have hF := free_any c
      rcases free_first c with ⟨hf, hl⟩ | ⟨k, r, hk, hf, hl⟩
      · rw [hf] at HF
        rw [hl] at hF
        go_wp2_with (first | (first | ((with_reducible refine wp_load_rowBg H ?_ _ _ rfl _ rfl _ r0 _ Tryz.underlying28 rfl (infoC c) ?_); rfl) | ((with_reducible refine wp_load_rowBg H ?_ _ _ rfl _ rfl _ r1 _ Tryz.underlying26 rfl (infoB _ _) ?_); rfl) | (go_at_call 18; with_reducible refine (ValidCrate_any c _).mono ?_; rintro e w' ⟨rfl, hb⟩; replace H := bstep H hb; clear hb; have hc := bcell H) | (go_at_call 19; with_reducible refine (ValidBottle_any b _).mono ?_; rintro e w' ⟨rfl, hb⟩; replace H := bstep H hb; clear hb; have hc := bcell H) | (with_reducible refine wp_store_zeroB H rfl rfl _ _ rfl _ rfl rfl _ r2 ?_)) | (go_at_call 80; refine (hF _).mono ?_; rintro e w3 ⟨v3, rfl, O3, hb⟩; obtain ⟨A3, p3, rfl, hp3, R3, L3⟩ := own_rdA O3; replace H := bstep H hb))
        rw [HF.out]
        refine bodyPost_ret (results_ctt rfl rfl (loadVar_rowOf (cc zC).toArray (by rw [rowOf_setRow, if_pos rfl, rowOf_below H (rowOf_lt r2), r2]; rfl) _ Tryz.underlying28 rfl (infoC _))) rfl ⟨rfl, bsetRow (bstep H0 H) (by omega) _⟩
      · rw [hf] at HF
        rw [hl] at hF
        have HF' := Lib.hid (HF.out.trans (if_neg (by omega)))
        clear HF
        go_upto_region 6 with (first | (first | ((with_reducible refine wp_load_rowBg H ?_ _ _ rfl _ rfl _ r0 _ Tryz.underlying28 rfl (infoC c) ?_); rfl) | ((with_reducible refine wp_load_rowBg H ?_ _ _ rfl _ rfl _ r1 _ Tryz.underlying26 rfl (infoB _ _) ?_); rfl) | (go_at_call 18; with_reducible refine (ValidCrate_any c _).mono ?_; rintro e w' ⟨rfl, hb⟩; replace H := bstep H hb; clear hb; have hc := bcell H) | (go_at_call 19; with_reducible refine (ValidBottle_any b _).mono ?_; rintro e w' ⟨rfl, hb⟩; replace H := bstep H hb; clear hb; have hc := bcell H) | (with_reducible refine wp_store_zeroB H rfl rfl _ _ rfl _ rfl rfl _ r2 ?_)) | (go_at_call 80; refine (hF _).mono ?_; rintro e w3 ⟨v3, rfl, O3, hb⟩; replace O3 := own_down O3 H.size; obtain ⟨gf, p3, rfl⟩ := own_form O3 (Nat.succ_pos _); replace H := bstep H hb))
        clear hc
        replace r0 := row_kept r0 H
        replace r1 := row_kept r1 H
        replace r2 := row_kept r2 H
        replace H0 := bstep H0 H
        replace H := below_self H
        have hgf : w3.heap.size > gf := own_lt O3 gf rfl
        have hgf0 : W.heap.size ≤ gf := own_base O3 gf rfl
        have z0 : w3.cell? ⟨gf, 0, none⟩ = some (.int .i64 k) := O3.cellAt 0 (Nat.succ_pos _)
        have hkl : k < c.toList.length := by rw [Vector.length_toList]; exact hk
        have hk1 : (k : Int) ≤ 11 := by omega
        have hk2 : (k : Int) < 12 := by omega
        have x0 := row0 r0 hkl
        have x1 := row1 r0 hkl
        have f0 := rowOf_frozen r0 (k * 2)
        have f1 := rowOf_frozen r0 (k * 2 + 1)
        have HKL := Lib.hid hkl
        clear hkl O3 hF
        generalize rB c.toList k = b' at x0 x1
        refine wp_region_still_tail 5 (by kernel_rfl) (by kernel_rfl) ?_
        replace H := H.drew
        simp only [List.take_succ_cons, List.take_zero, List.drop_succ_cons, List.drop_zero]
        repeat (first | (refine still_load_row H rfl _ _ rfl _ rfl _ r1 _ Tryz.underlying26 rfl (infoB _ _) ?_) | still_step)
        refine wpStill_nil ?_
        change wpList _ _ _ _ _ (World.drew _)
        generalize World.drew _ = w1 at H ⊢
        have hc := bcell H
        have b3 := rowOf_lt r0
        have b4 := rowOf_lt r2
        have hgk : gf ≠ g2 := by omega
        go_upto_region 7 with fail
        have s0 := row_put b (row_kept r0 H) HKL.out
        have s2 : rowOf ((w1.setCell ⟨g0, k * 2, none⟩ (.int .u8 b.k)).setCell ⟨g0, k * 2 + 1, none⟩ (.int .i16 b.y)) g2 = some (cc zC).toArray := by rw [row_far (by omega), row_far (by omega), row_kept r2 H]
        have H1 : Below w.heap.size w ((w1.setCell ⟨g0, k * 2, none⟩ (.int .u8 b.k)).setCell ⟨g0, k * 2 + 1, none⟩ (.int .i16 b.y)) := ((bstep H0 H).setCell (by show _ ≤ g0; omega) _).setCell (by show _ ≤ g0; omega) _
        have z1 : ((w1.setCell ⟨g0, k * 2, none⟩ (.int .u8 b.k)).setCell ⟨g0, k * 2 + 1, none⟩ (.int .i16 b.y)).cell? ⟨gf, 0, none⟩ = some (.int .i64 k) := by rw [cell_far (by omega), cell_far (by omega)]; exact (hc.1 gf 0 hgf).trans z0
        clear H hc x0 x1 f0 f1 e1 e2 r0 r1 r2 H0 b0 b1 b2 z0 hb
        generalize (w1.setCell ⟨g0, k * 2, none⟩ (.int .u8 b.k)).setCell ⟨g0, k * 2 + 1, none⟩ (.int .i16 b.y) = W2 at *
        replace s0 : rowOf W2 g0 = some (cc (setC c k b)).toArray := s0
        have t0 : ∀ w ∈ [W2.drew, W2.drew.setRow g2 (cc (setC c k b)).toArray], rowOf w g0 = some (cc (setC c k b)).toArray := two_worlds s0 ((rowOf_setRow_ne (by omega)).trans s0)
        have z2 : (W2.drew.setRow g2 (cc (setC c k b)).toArray).cell? ⟨gf, 0, none⟩ = some (.int .i64 k) := (cell_setRow_ne hgk).trans z1
        have z3 : W2.drew.cell? ⟨gf, 0, none⟩ = some (.int .i64 k) := z1
        apply wp_region_det1 4 2 g2 (cc (setC c k b)).toArray
        case hs => exact rfl
        case hB => kernel_rfl
        case hm => kernel_rfl
        case hlen => rfl
        case gs => rfl
        case ds => rfl
        case ho => rfl
        case hr => exact s2
        case hz => exact cc_size2 _ _
        case hi => exact infoC _
        case h1 => exact cc_one _
        simp only [List.take_succ_cons, List.take_zero, List.drop_succ_cons, List.drop_zero]
        repeat (first | (refine wpD_load_row rfl _ _ rfl g0 rfl (cc (setC c k b)).toArray t0 _ Tryz.underlying28 rfl (infoC (setC c k b)) ?_) | (refine wpD_step (fun K hK => ?_); go_simp; refine hK _ ?_; clear hK K))
        refine wpD_nil ⟨rfl, rfl, ?_⟩
        repeat (first | (refine wpD_load_row rfl _ _ rfl g0 rfl (cc (setC c k b)).toArray t0 _ Tryz.underlying28 rfl (infoC (setC c k b)) ?_) | (refine wpD_step (fun K hK => ?_); go_simp; refine hK _ ?_; clear hK K))
        refine wpD_nil ?_
        go_wp2
        rw [HF'.out]
        have H0 := H1
        have H : Below W2.heap.size W2 W2.drew := bdrewN (Below.refl _ _) 1
        refine bodyPost_ret (results_ctt rfl rfl (loadVar_rowOf (cc (setC c k b)).toArray (by rw [rowOf_setRow, if_pos rfl, rowOf_below H (rowOf_lt s2), s2]; rfl) _ Tryz.underlying28 rfl (infoC _))) rfl ⟨rfl, bsetRow (bstep H0 H) (by omega) _⟩
end Go.Proofs.YtbngpcghognojaaGreatDoor
