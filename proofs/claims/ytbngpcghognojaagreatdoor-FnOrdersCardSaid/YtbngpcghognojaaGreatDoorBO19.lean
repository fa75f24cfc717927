/- Texts of the claim, joined (19 of 22): LevelP, Swap, Free, Fill, Level. -/
import Derived.Test.YtbngpcghognojaaGreatDoorBO1
import Derived.Test.YtbngpcghognojaaGreatDoorBO2
import Derived.Test.YtbngpcghognojaaGreatDoorBO3
import Derived.Test.YtbngpcghognojaaGreatDoorBO4
import Derived.Test.YtbngpcghognojaaGreatDoorBO7
import Derived.Test.YtbngpcghognojaaGreatDoorBO10
import Derived.Test.YtbngpcghognojaaGreatDoorBO12
import Derived.Test.YtbngpcghognojaaGreatDoorBO18
namespace Go.Proofs.YtbngpcghognojaaGreatDoor
open Go Go.RowKit
set_option linter.unusedVariables false
set_option linter.unusedSimpArgs false
set_option maxRecDepth 100000
/-- How much places tip. -/
def tipN (ks : List Int) : Int := max (eastI ks) (-eastI ks) + max (southI ks) (-southI ks)
theorem tipN_pos (ks : List Int) : 0 ≤ tipN ks := by unfold tipN; omega
/-- a tips less, or as much and stands before. -/
def lessT (a b : List Int) : Bool := decide (tipN a < tipN b) || (decide (tipN a = tipN b) && ahead a b)
theorem lessT_tot {a b : List Int} (hl : a.length = b.length) (h1 : lessT a b = false) (h2 : lessT b a = false) : a = b := by
  simp only [lessT, Bool.or_eq_false_iff, Bool.and_eq_false_iff, decide_eq_false_iff_not] at h1 h2
  have he : tipN a = tipN b := by omega
  rcases h1.2 with q | q
  · exact absurd he q
  · rcases h2.2 with q2 | q2
    · exact absurd he.symm q2
    · exact ahead_tot a b hl q q2
theorem lessT_trans {a b c : List Int} (hl : a.length = b.length) (hl2 : b.length = c.length) (h1 : lessT a b = true) (h2 : lessT b c = true) : lessT a c = true := by
  simp only [lessT, Bool.or_eq_true, Bool.and_eq_true, decide_eq_true_iff] at *
  rcases h1 with h1 | ⟨h1, k1⟩ <;> rcases h2 with h2 | ⟨h2, k2⟩
  · exact .inl (by omega)
  · exact .inl (by omega)
  · exact .inl (by omega)
  · exact .inr ⟨by omega, ahead_trans a b c hl hl2 k1 k2⟩
theorem lessT_irr (a : List Int) : lessT a a = false := by
  simp [lessT, ahead_irr]
/-- The least of the lists of n places. -/
structure LeastT (n : Nat) (r : List Int) : Prop where
  len : r.length = n
  asc : Asc 0 12 r
  min : ∀ q, Asc 0 12 q → q.length = n → lessT q r = false
theorem LeastT.uniq {n : Nat} {r r' : List Int} (h : LeastT n r) (h' : LeastT n r') : r = r' := lessT_tot (h.len.trans h'.len.symm) (h'.min r h.asc h.len) (h.min r' h'.asc h'.len)
/-- The best of the first lists, in their order. -/
def lvI (rs : List (List Int)) : Nat → List Int × Int
  | 0 => ([], -1)
  | j + 1 => if (decide ((lvI rs j).2 < 0) || decide (tipN rs[j]! < (lvI rs j).2)) = true then (rs[j]!, tipN rs[j]!) else lvI rs j
theorem lvI_cases (rs : List (List Int)) : ∀ j, j = 0 ∨ ∃ i, i < j ∧ lvI rs j = (rs[i]!, tipN rs[i]!) ∧ (∀ i', i' < j → tipN rs[i]! ≤ tipN rs[i']!) ∧ ∀ i', i' < i → tipN rs[i]! < tipN rs[i']!
  | 0 => .inl rfl
  | j + 1 => by
    right
    rw [lvI]
    rcases lvI_cases rs j with rfl | ⟨i, hi, e, h1, h2⟩
    · refine ⟨0, Nat.zero_lt_one, ?_, fun i' hi' => ?_, fun i' hi' => absurd hi' (Nat.not_lt_zero _)⟩
      · rw [if_pos (by simp [lvI])]
      · obtain rfl : i' = 0 := by omega
        exact Int.le_refl _
    · rw [e]
      have hp := tipN_pos rs[i]!
      have e1 : decide ((rs[i]!, tipN rs[i]!).2 < 0) = false := by rw [decide_eq_false_iff_not]; show ¬ tipN rs[i]! < 0; omega
      by_cases hlt : tipN rs[j]! < tipN rs[i]!
      · refine ⟨j, Nat.lt_succ_self _, ?_, fun i' hi' => ?_, fun i' hi' => ?_⟩
        · rw [if_pos (by rw [e1]; simpa using hlt)]
        · rcases Nat.lt_or_ge i' j with q | q
          · have := h1 i' q; omega
          · obtain rfl : i' = j := by omega
            exact Int.le_refl _
        · have := h1 i' hi'; omega
      · refine ⟨i, by omega, ?_, fun i' hi' => ?_, h2⟩
        · rw [if_neg (by rw [e1]; simpa using hlt)]
        · rcases Nat.lt_or_ge i' j with q | q
          · exact h1 i' q
          · obtain rfl : i' = j := by omega
            omega
theorem lvI_asc {n j : Nat} (hj : j ≤ (chF n 0 12).length) : (lvI (chF n 0 12) j) = ([], -1) ∨ ((lvI (chF n 0 12) j).1.length = n ∧ Asc 0 12 (lvI (chF n 0 12) j).1 ∧ (lvI (chF n 0 12) j).2 = tipN (lvI (chF n 0 12) j).1) := by
  rcases lvI_cases (chF n 0 12) j with rfl | ⟨i, hi, e, h1, h2⟩
  · exact .inl rfl
  · right
    rw [e]
    have hm := (chF_mem n 0 12 _).1 (show (chF n 0 12)[i]! ∈ chF n 0 12 by rw [getB (by omega)]; exact List.getElem_mem _)
    exact ⟨hm.1, hm.2, rfl⟩
theorem lvI_least {n : Nat} (hn : n ≤ 12) : LeastT n (lvI (chF n 0 12) (chF n 0 12).length).1 := by
  have hne : everyL n ∈ chF n 0 12 := (chF_mem n 0 12 _).2 ⟨everyL_length n, everyL_asc n, fun x hx => by have := everyL_in hx; omega⟩
  rcases lvI_cases (chF n 0 12) (chF n 0 12).length with h | ⟨i, hi, e, h1, h2⟩
  · rw [List.length_eq_zero_iff.1 h] at hne
    cases hne
  · rw [e]
    have hm := (chF_mem n 0 12 _).1 (show (chF n 0 12)[i]! ∈ chF n 0 12 by rw [getB hi]; exact List.getElem_mem hi)
    refine ⟨hm.1, hm.2, fun q hq hql => ?_⟩
    obtain ⟨i', hi', rfl⟩ := List.getElem_of_mem ((chF_mem n 0 12 q).2 ⟨hql, hq⟩)
    rw [← getB hi'] at hql ⊢
    simp only [lessT, Bool.or_eq_false_iff, Bool.and_eq_false_iff, decide_eq_false_iff_not]
    have k1 := h1 i' hi'
    refine ⟨by omega, ?_⟩
    rcases Nat.lt_trichotomy i' i with h | h | h
    · have := h2 i' h
      exact .inl (by omega)
    · subst h
      exact .inr (ahead_irr _)
    · right
      have := List.pairwise_iff_getElem.1 (chF_sorted n 0 12) i i' hi hi' h
      rw [← getB hi, ← getB hi'] at this
      exact ahead_asymm (hm.1.trans hql.symm) this
/-- One set more. -/
def lvStep (n : Nat) (ks : List Int) (r : List Int × Int) : List Int × Int :=
  if ks.length = n then (if (decide (r.2 < 0) || decide (tipN ks < r.2) || (decide (tipN ks = r.2) && ahead ks r.1)) = true then (ks, tipN ks) else r) else r
/-- The best of the first sets. -/
def lvS (n : Nat) : Nat → List Int × Int
  | 0 => ([], -1)
  | k + 1 => lvStep n (inSet (fun i => 11 - i) k 12) (lvS n k)
theorem lvS_cases (n : Nat) : ∀ k, (lvS n k = ([], -1) ∧ ∀ s, s < k → (inSet (fun i => 11 - i) s 12).length ≠ n) ∨ ((lvS n k).2 = tipN (lvS n k).1 ∧ (lvS n k).1.length = n ∧ Asc 0 12 (lvS n k).1 ∧ ∀ s, s < k → (inSet (fun i => 11 - i) s 12).length = n → lessT (inSet (fun i => 11 - i) s 12) (lvS n k).1 = false)
  | 0 => .inl ⟨rfl, fun s hs => absurd hs (Nat.not_lt_zero _)⟩
  | k + 1 => by
    have ih := lvS_cases n k
    rw [lvS, lvStep]
    have hasc := inSet_asc (fun i => 11 - i) k 12
    generalize hks : inSet (fun i => 11 - i) k 12 = ks at hasc
    generalize lvS n k = r at ih ⊢
    have hcase : ∀ s, s < k + 1 → s < k ∨ s = k := fun s hs => by omega
    by_cases hl : ks.length = n
    · rw [if_pos hl]
      right
      rcases ih with ⟨rfl, ih⟩ | ⟨i1, i2, i3, i4⟩
      · rw [if_pos (by simp)]
        refine ⟨rfl, hl, hasc, fun s hs hsl => ?_⟩
        rcases hcase s hs with q | rfl
        · exact absurd hsl (ih s q)
        · rw [hks]; exact lessT_irr ks
      · have e1 : decide (r.2 < 0) = false := by rw [decide_eq_false_iff_not, i1]; have := tipN_pos r.1; omega
        have e2 : (decide (r.2 < 0) || decide (tipN ks < r.2) || (decide (tipN ks = r.2) && ahead ks r.1)) = lessT ks r.1 := by rw [e1, i1, lessT, Bool.false_or]
        rw [e2]
        cases hlt : lessT ks r.1 with
        | true =>
          rw [if_pos rfl]
          refine ⟨rfl, hl, hasc, fun s hs hsl => ?_⟩
          rcases hcase s hs with q | rfl
          · rw [← Bool.not_eq_true]
            intro h
            have := lessT_trans (hsl.trans hl.symm) (hl.trans i2.symm) h hlt
            rw [i4 s q hsl] at this
            cases this
          · rw [hks]; exact lessT_irr ks
        | false =>
          rw [if_neg (by simp)]
          refine ⟨i1, i2, i3, fun s hs hsl => ?_⟩
          rcases hcase s hs with q | rfl
          · exact i4 s q hsl
          · rw [hks]; exact hlt
    · rw [if_neg hl]
      rcases ih with ⟨rfl, ih⟩ | ⟨i1, i2, i3, i4⟩
      · refine .inl ⟨rfl, fun s hs => ?_⟩
        rcases hcase s hs with q | rfl
        · exact ih s q
        · rw [hks]; exact hl
      · refine .inr ⟨i1, i2, i3, fun s hs hsl => ?_⟩
        rcases hcase s hs with q | rfl
        · exact i4 s q hsl
        · rw [hks] at hsl; exact absurd hsl hl
theorem lvS_least {n : Nat} (hn : n ≤ 12) : LeastT n (lvS n 4096).1 := by
  have hall := @inSet_all 12 (fun i => 11 - i) (fun i hi => ⟨by show 11 - i < 12; omega, by show 11 - (11 - i) = i; omega⟩)
  rcases lvS_cases n 4096 with ⟨_, h⟩ | ⟨i1, i2, i3, i4⟩
  · obtain ⟨s, hs, e⟩ := hall (ks := everyL n) ⟨everyL_asc n, fun x hx => by have := everyL_in hx; omega⟩
    exact absurd (by rw [e]; exact everyL_length n) (h s hs)
  · refine ⟨i2, i3, fun q hq hql => ?_⟩
    obtain ⟨s, hs, rfl⟩ := hall hq
    exact i4 s hs hql
/-- The places for n bottles. -/
def level (n : Nat) : List Int := (lvS n 4096).1
theorem level_eq {n : Nat} (hn : n ≤ 12) : (lvI (chF n 0 12) (chF n 0 12).length).1 = level n := (lvI_least hn).uniq (lvS_least hn)
theorem level_len {n : Nat} (hn : n ≤ 12) : (level n).length = n := (lvS_least hn).len
theorem level_places {n : Nat} (hn : n ≤ 12) : Places (level n) := ⟨by rw [level_len hn]; exact hn, fun x hx => by have := (lvS_least hn).asc.2 x hx; omega⟩
/-- Bottles put into some places. -/
def spread (ks : List Int) (bs : List Bt) : Nat → Cr
  | 0 => zC
  | i + 1 => setC (spread ks bs i) (ks.getD i 0).toNat (rB bs i)
def levelR (c : Cr) : Cr × Int := if c.ok = true then (spread (level (allB c).length) (allB c) (allB c).length, 0) else (zC, 1)
end Go.Proofs.YtbngpcghognojaaGreatDoor
namespace Go.Proofs.YtbngpcghognojaaGreatDoor
open Go.RowKit
set_option linter.unusedVariables false
set_option linter.unusedSimpArgs false
set_option maxRecDepth 100000
set_option maxHeartbeats 1000000
attribute [local go_sem] Oper.qB
def isP (n : Int) : Bool := decide (0 ≤ n) && decide (n ≤ 11)
def Sw.ok (s : Sw) : Bool := isP s.f && isP s.t
/-- A crate with what is in two places exchanged. -/
def swapC (c : Cr) (i j : Nat) : Cr := setC (setC c i (rB c.toList j)) j (rB c.toList i)
def swC (c : Cr) (s : Sw) : Cr := swapC c s.f.toNat s.t.toNat
def swapR (c : Cr) (s : Sw) : Cr × Int := if c.ok = false then (zC, 1) else if s.ok = false then (zC, 2) else (swC c s, 0)
section
variable {P : Program} {ops : Array Oper} {rest : List Oper} {o : Oper} {a : Act} {w : World} {Q : Exit → Act → World → Prop}
theorem run_store_place (w : World) (g i : Nat) (ty : TypeId) (b : Bt) (l : List Bt) (hr : rowOf w g = some (bcs l).toArray) (hl : i < l.length) (hi : (P.info? ty).map (·.size) = some (#[Value.int .u8 b.k, Value.int .i16 b.y] : Array Value).size) :
    (storeVar ty ⟨g, i * 2, none⟩ (.agg #[.int .u8 b.k, .int .i16 b.y])).run P w = .ok () (w.setRow g (bcs (l.set i b)).toArray) := by
  have hz : i * 2 + (#[Value.int .u8 b.k, Value.int .i16 b.y] : Array Value).size ≤ (bcs l).toArray.size := by
    show i * 2 + 2 ≤ _
    rw [List.size_toArray, bcs_length]
    omega
  have hs := run_storeVar_row (P := P) w g (i * 2) ty _ hi _ hr hz (bv_one _ _)
  have e : ((bcs l).toArray.toList.take (i * 2) ++ (#[Value.int .u8 b.k, Value.int .i16 b.y] : Array Value).toList ++ (bcs l).toArray.toList.drop (i * 2 + (#[Value.int .u8 b.k, Value.int .i16 b.y] : Array Value).size)) = bcs (l.set i b) := by
    show (bcs l).take (i * 2) ++ [Value.int .u8 b.k, Value.int .i16 b.y] ++ (bcs l).drop (i * 2 + 2) = _
    rw [List.set_eq_take_append_cons_drop, if_pos hl, bcs_append, bcs_take, show i * 2 + 2 = (i + 1) * 2 by omega, ← bcs_drop]
    simp [bcs]
  rw [e] at hs
  exact hs
/-- A bottle stored into a place of a crate. -/
theorem wp_store_place (hgd : o.guard = none) (hdst : o.dst = none) (ty : TypeId) (x y : Operand) (ho : o.op = .store ty x y) (g i : Nat) (hx : a.eval x = .pointer (some ⟨g, i * 2, none⟩)) (b : Bt) (hy : a.eval y = .agg #[.int .u8 b.k, .int .i16 b.y])
    (l : List Bt) (hr : rowOf w g = some (bcs l).toArray) (hl : i < l.length) (hi : (P.info? ty).map (·.size) = some (#[Value.int .u8 b.k, Value.int .i16 b.y] : Array Value).size)
    (h : wpList P ops Q rest a (w.setRow g (bcs (l.set i b)).toArray)) : wpList P ops Q (o :: rest) a w :=
  wpList_plain hgd fun K hK => by
    have hs := run_store_place (P := P) w g i ty b l hr hl hi
    unfold Oper.wp execOp
    simp only [ho, hx, hy, Instr.storeAt, Instr.sureAddr, Sem.run_bind, Sem.run_pure, Result.andThen_ok, hs]
    show K (a.put o.dst undef) _
    rw [hdst]
    exact hK _ _ h
end
theorem wp_store_place0 {P : Program} {ops : Array Oper} {rest : List Oper} {o : Oper} {a : Act} {w : World} {Q : Exit → Act → World → Prop} (hgd : o.guard = none) (hdst : o.dst = none) (ty : TypeId) (x y : Operand) (ho : o.op = .store ty x y) (g i : Nat) (hx : a.eval x = .pointer (some ⟨g, i * 2, none⟩)) (hy : a.eval y = .agg #[.int .u8 0, .int .i16 0])
    (l : List Bt) (hr : rowOf w g = some (bcs l).toArray) (hl : i < l.length) (hi : (P.info? ty).map (·.size) = some (#[Value.int .u8 0, Value.int .i16 0] : Array Value).size)
    (h : wpList P ops Q rest a (w.setRow g (bcs (l.set i zB)).toArray)) : wpList P ops Q (o :: rest) a w :=
  wp_store_place hgd hdst ty x y ho g i hx zB hy l hr hl hi h
theorem Goes.place {P : Program} {o : Oper} {a : Act} {w : World} {k : Act → Prop} (hdst : o.dst = none) (ty : TypeId) (x y : Operand) (ho : o.op = .store ty x y) (g i : Nat) (hx : a.eval x = .pointer (some ⟨g, i * 2, none⟩)) (b : Bt) (hy : a.eval y = .agg #[.int .u8 b.k, .int .i16 b.y])
    (l : List Bt) (hr : rowOf w g = some (bcs l).toArray) (hl : i < l.length) (hi : (P.info? ty).map (·.size) = some (#[Value.int .u8 b.k, Value.int .i16 b.y] : Array Value).size) (h : k a) : Goes P o a w (w.setRow g (bcs (l.set i b)).toArray) k := by
  have hs := run_store_place (P := P) w g i ty b l hr hl hi
  unfold Goes execOp
  simp only [ho, hx, hy, Instr.storeAt, Instr.sureAddr, Sem.run_bind, Sem.run_pure, Result.andThen_ok, hs]
  rw [hdst]
  exact ⟨trivial, h⟩
theorem Goes.place0 {P : Program} {o : Oper} {a : Act} {w : World} {k : Act → Prop} (hdst : o.dst = none) (ty : TypeId) (x y : Operand) (ho : o.op = .store ty x y) (g i : Nat) (hx : a.eval x = .pointer (some ⟨g, i * 2, none⟩)) (hy : a.eval y = .agg #[.int .u8 0, .int .i16 0])
    (l : List Bt) (hr : rowOf w g = some (bcs l).toArray) (hl : i < l.length) (hi : (P.info? ty).map (·.size) = some (#[Value.int .u8 0, Value.int .i16 0] : Array Value).size) (h : k a) : Goes P o a w (w.setRow g (bcs (l.set i zB)).toArray) k :=
  Goes.place hdst ty x y ho g i hx zB hy l hr hl hi h
theorem row_swap {w : World} {g : Nat} {l : List Bt} {i j : Nat} {x y : Bt} (h : rowOf w g = some (bcs l).toArray) : rowOf ((w.setRow g (bcs (l.set i x)).toArray).setRow g (bcs ((l.set i x).set j y)).toArray) g = some (bcs ((l.set i x).set j y)).toArray := by
  rw [rowOf_setRow, if_pos rfl, rowOf_setRow, if_pos rfl, h]
  rfl
theorem ok_places {s : Sw} (h : s.ok = true) : ∃ i j : Nat, s.f = i ∧ s.t = j ∧ i < 12 ∧ j < 12 := by
  simp [Sw.ok, isP] at h
  exact ⟨s.f.toNat, s.t.toNat, by omega, by omega, by omega, by omega⟩
end Go.Proofs.YtbngpcghognojaaGreatDoor
namespace Go.Proofs.YtbngpcghognojaaGreatDoor
open Go.RowKit
set_option linter.unusedVariables false
set_option linter.unusedSimpArgs false
set_option maxRecDepth 100000
set_option maxHeartbeats 1000000
def freeR (c : Cr) : List Int × Int := if c.ok = true then (freeI c, 0) else ([], 1)
theorem FreePlaces_any (c : Cr) (w : World) : Calls Tryz.prog 23 #[cv c] w fun e w' => ∃ v, e = .returned (.tuple #[v, .int .i64 (freeR c).2]) ∧ w'.ownsRow w.heap.size 2 1 v (freeR c).1.length (vi (freeR c).1) ∧ Below w.heap.size w w' := by
  go_enter Tryz.func23, Tryz.ntmps23
  go_upto_region 1 with fail
  generalize hW : World.alloc _ _ = W
  have H0 : Below w.heap.size w W := by rw [← hW]; go_grown
  have r0 : rowOf W (w.heap.size) = some ((cc c).toArray) := (by (try rw [← hW]); simp only [rowOf_alloc, World.size_alloc, ↓reduceIte]; all_goals ((repeat' split) <;> first | omega | (exfalso; omega) | rfl))
  clear hW
  have l0 : w.heap.size ≤ w.heap.size := Nat.le_refl _
  generalize h0 : w.heap.size = g0 at r0 ⊢
  replace l0 : w.heap.size ≤ g0 := Nat.le_of_eq h0
  clear h0
  have b0 := rowOf_lt r0
  have H := Below.refl W.heap.size W
  cases e1 : c.ok with
  | false =>
    have HF := Lib.hid (show freeR c = ([], 1) by simp [freeR, e1])
    go_wp2_with (first | ((with_reducible refine wp_load_rowBg H ?_ _ _ rfl _ rfl _ r0 _ Tryz.underlying28 rfl (infoC c) ?_); rfl) | (go_at_call 18; with_reducible refine (ValidCrate_any c _).mono ?_; rintro e w' ⟨rfl, hb⟩; replace H := bstep H hb; clear hb; have hc := bcell H))
    rw [HF.out]
    exact bodyPost_ret (results_tt rfl) rfl ⟨_, rfl, own_nil, bstep H0 H⟩
  | true =>
    have HF := Lib.hid (show freeR c = (freeI c, 0) by simp [freeR, e1])
    go_wp2_with (first | ((with_reducible refine wp_load_rowBg H ?_ _ _ rfl _ rfl _ r0 _ Tryz.underlying28 rfl (infoC c) ?_); rfl) | (go_at_call 18; with_reducible refine (ValidCrate_any c _).mono ?_; rintro e w' ⟨rfl, hb⟩; replace H := bstep H hb; clear hb; have hc := bcell H) | (go_at_call 80; refine (free_any c _).mono ?_; rintro e w2 ⟨v, rfl, hown, hb⟩))
    rw [HF.out]
    exact bodyPost_ret (results_tt rfl) rfl ⟨v, rfl, own_down hown (bstep H0 H).size, (bstep H0 H).trans (hb.mono (bstep H0 H).size)⟩
end Go.Proofs.YtbngpcghognojaaGreatDoor
namespace Go.Proofs.YtbngpcghognojaaGreatDoor
open Go.RowKit
set_option linter.unusedVariables false
set_option linter.unusedSimpArgs false
set_option maxRecDepth 100000
set_option maxHeartbeats 1000000
attribute [local go_sem] Oper.qB
theorem pl_at {p : Bt → Bool} {l : List Bt} {n k : Nat} (h : k < (pl p l n).length) : ∃ i : Nat, i < n ∧ (pl p l n).getD k 0 = (i : Int) := by
  have hm : (pl p l n)[k] ∈ pl p l n := List.getElem_mem h
  rw [List.getD_eq_getElem?_getD, List.getElem?_eq_getElem h]
  generalize (pl p l n)[k] = x at hm
  simp only [pl, List.mem_map, List.mem_filter, List.mem_range] at hm
  obtain ⟨i, ⟨hi, _⟩, rfl⟩ := hm
  exact ⟨i, hi, rfl⟩
/-- The two crates behind k steps. -/
def fillS (fs us : List Int) (a b : Cr) : Nat → Cr × Cr
  | 0 => (a, b)
  | k + 1 =>
    let q := fillS fs us a b k
    (setC q.1 (fs.getD k 0).toNat (rB q.2.toList (us.getD k 0).toNat), setC q.2 (us.getD k 0).toNat zB)
def fillN (a b : Cr) : Nat := min (freeI a).length (usedI b).length
def fillR (a b : Cr) : Cr × Cr × Int :=
  if (a.ok && b.ok) = true then ((fillS (freeI a) (usedI b) a b (fillN a b)).1, (fillS (freeI a) (usedI b) a b (fillN a b)).2, 0) else (zC, zC, 1)
theorem own_setRow {w : World} {B e size n : Nat} {v : Value} {xs : List Value} (h : w.ownsRow B e size v n xs) {g : Nat} (hg : g < B) (c : Array Value) : (w.setRow g c).ownsRow B e size v n xs := by
  obtain ⟨hl, h | ⟨g', cap, cur, hv, hb, hh, r⟩⟩ := h
  · exact ⟨hl, .inl h⟩
  · exact ⟨hl, .inr ⟨g', cap, cur, hv, hb, by rw [setRow_other w g g' c (by omega)]; exact hh, r⟩⟩
theorem own_setCell {w : World} {B e size n : Nat} {v : Value} {xs : List Value} (h : w.ownsRow B e size v n xs) {g o : Nat} (hg : g < B) (u : Value) : (w.setCell ⟨g, o, none⟩ u).ownsRow B e size v n xs := by
  obtain ⟨hl, h | ⟨g', cap, cur, hv, hb, hh, r⟩⟩ := h
  · exact ⟨hl, .inl h⟩
  · exact ⟨hl, .inr ⟨g', cap, cur, hv, hb, by rw [Below.heap_setCell w _ u g' (by show g' ≠ g; omega)]; exact hh, r⟩⟩
theorem own_drew {w : World} {B e size n : Nat} {v : Value} {xs : List Value} (h : w.ownsRow B e size v n xs) : w.drew.ownsRow B e size v n xs := h
/-- Two crates stored into the result's cells, from two worlds on. -/
theorem two_crates {w W : World} {g1 g2 : Nat} {A0 B0 A B : Array Value} (H : Below w.heap.size w W) (h1 : rowOf W g1 = some A0) (h2 : rowOf W g2 = some B0) (l1 : w.heap.size ≤ g1) (hlt : g1 < g2) :
    rowOf ((W.setRow g1 A).setRow g2 B) g1 = some A ∧ rowOf ((W.setRow g1 A).setRow g2 B) g2 = some B ∧ Below w.heap.size w ((W.setRow g1 A).setRow g2 B) := by
  refine ⟨?_, ?_, bsetRow (bsetRow H l1 _) (by omega) _⟩
  · rw [rowOf_setRow, if_neg (by omega), rowOf_setRow, if_pos rfl, h1]
    rfl
  · rw [rowOf_setRow, if_pos rfl, rowOf_setRow, if_neg (by omega), h2]
    rfl
section
variable {ops : Array Oper} {rest : List Oper} {o : Oper} {a : Act} {w : World} {Q : Exit → Act → World → Prop}
/-- The empty crate stored. -/
theorem wp_store_zeroW (hgd : o.guard = none) (hdst : o.dst = none) (x y : Operand) (ho : o.op = .store 28 x y) (g : Nat) (hx : a.eval x = .pointer (some ⟨g, 0, none⟩))
    (hy : a.eval y = .agg #[.int .u8 0, .int .i16 0, .int .u8 0, .int .i16 0, .int .u8 0, .int .i16 0, .int .u8 0, .int .i16 0, .int .u8 0, .int .i16 0, .int .u8 0, .int .i16 0, .int .u8 0, .int .i16 0, .int .u8 0, .int .i16 0, .int .u8 0, .int .i16 0, .int .u8 0, .int .i16 0, .int .u8 0, .int .i16 0, .int .u8 0, .int .i16 0])
    (c : Cr) (hr : rowOf w g = some (cc c).toArray) (h : wpList Tryz.prog ops Q rest a (w.setRow g (cc zC).toArray)) : wpList Tryz.prog ops Q (o :: rest) a w :=
  wp_store_rowOf hgd hdst 28 x y ho g hx (cc zC).toArray hy (cc c).toArray hr (cc_size2 _ _) (infoC zC) zC_one h
end
end Go.Proofs.YtbngpcghognojaaGreatDoor
namespace Go.Proofs.YtbngpcghognojaaGreatDoor
open Go Go.RowKit
set_option linter.unusedVariables false
set_option linter.unusedSimpArgs false
set_option maxRecDepth 100000
set_option maxHeartbeats 4000000
attribute [local go_sem] Oper.qB
theorem cell_but {w w' : World} {g b i n c : Nat} {v : Value} (hb : ButV (.slice (some ⟨g, 0, none⟩) n c) w w') (h : w.cell? ⟨b, i, none⟩ = some v) (hne : b ≠ g) : w'.cell? ⟨b, i, none⟩ = some v := by
  have hl : b < w.heap.size := World.block_lt_of_cell? _ _ h
  have e := hb.2 b hl (fun q => hne (by have q1 : g = b := by simpa [Value.ownBlock] using q
                                        exact q1.symm))
  unfold World.cell? at h ⊢
  simp only at h ⊢
  rw [e]
  exact h
theorem ButV.of_below {v : Value} {w w' : World} (h : Below w.heap.size w w') : ButV v w w' := ⟨h.mono (Nat.zero_le _), fun b hb _ => h.block b hb⟩
theorem ButV.step {v : Value} {w w1 w' : World} (h : ButV v w w1) (h' : Below w1.heap.size w1 w') : ButV v w w' := h.trans (ButV.of_below h')
theorem spread_place {ks : List Int} {k : Nat} (h : Places ks) (hk : k < ks.length) : ∃ p : Nat, p < 12 ∧ ks.getD k 0 = (p : Int) := by
  have := h.at hk
  exact ⟨(ks.getD k 0).toNat, by omega, by omega⟩
theorem rd_at {l : List Int} {k : Nat} {w : World} {g off : Nat} (hC : CAt w g off (vi l)) (hk : k < l.length) : w.cell? ⟨g, off + k, none⟩ = some (.int .i64 (l.getD k 0)) := hC k _ (vi_at l k hk)
theorem tip_range {ks : List Int} (h : Places ks) : 0 ≤ tipN ks ∧ tipN ks ≤ 72 := by
  have := h.bound
  unfold tipN
  omega
theorem lvS_range (n : Nat) (hn : n ≤ 12) (k : Nat) : -1 ≤ (lvS n k).2 ∧ (lvS n k).2 ≤ 72 := by
  rcases lvS_cases n k with ⟨e, _⟩ | ⟨e, hl, ha, _⟩
  · rw [e]; exact ⟨Int.le_refl _, by decide⟩
  · have := tip_range (ks := (lvS n k).1) ⟨by omega, fun x hx => by have := ha.2 x hx; omega⟩
    omega
theorem and_one_i64 (n : Int) : bits .and .i64 n 1 = n % 2 := by
  have h1 : (BitVec.ofInt 64 1).toNat = 2 ^ 1 - 1 := by decide
  have key : (BitVec.ofInt 64 n &&& BitVec.ofInt 64 1).toNat = (n % ((2 ^ 64 : Nat) : Int)).toNat % 2 ^ 1 := by
    rw [BitVec.toNat_and, BitVec.toNat_ofInt, h1, Nat.and_two_pow_sub_one_eq_mod]
  show IntKind.i64.wrap ((BitVec.ofInt 64 n &&& BitVec.ofInt 64 1).toNat : Nat) = n % 2
  rw [key, IntKind.wrap_i64]
  omega
theorem shr_of (k j : Nat) (hj : j ≤ 11) : ((k : Int)).fdiv (2 ^ min ((j : Nat) : Int).toNat IntKind.i64.bits) = ((k / 2 ^ j : Nat) : Int) := by
  rw [Int.toNat_natCast, show min j IntKind.i64.bits = j from Nat.min_eq_left (by show j ≤ 64; omega)]
  have e : ((2 : Int) ^ j) = ((2 ^ j : Nat) : Int) := by simp
  rw [e, ← Int.ofNat_fdiv]
theorem l01Size_any (n : Int) (w : World) (h1 : -1000 ≤ n) (h2 : n ≤ 1000) : Calls Tryz.prog 124 #[.int .i64 n] w fun e w' => e = .returned (.int .i64 (max n (-n))) ∧ w = w' := by
  have hw : IntKind.i64.wrap (-n) = -n := by rw [IntKind.wrap_i64]; omega
  have hM := l00Max_any n (-n)
  go_enter Tryz.func124, Tryz.ntmps124
  go_wp2_with (go_at_call 148; with_reducible refine (hM _).mono ?_; rintro e w2 ⟨rfl, rfl⟩)
  go_ret
  exact ⟨rfl, rfl⟩
theorem size_any (n : Int) (w : World) (h1 : -1000 ≤ n) (h2 : n ≤ 1000) : Calls Tryz.prog 72 #[.int .i64 n] w fun e w' => e = .returned (.int .i64 (max n (-n))) ∧ w = w' := by
  have hw : IntKind.i64.wrap (-n) = -n := by rw [IntKind.wrap_i64]; omega
  go_enter Tryz.func72, Tryz.ntmps72
  go_wp2
  go_ret
  exact ⟨rfl, rfl⟩
theorem l01Level_any (n : Nat) (hn : n ≤ 12) (w : World) :
    Calls Tryz.prog 74 #[.int .i64 n] w fun e w' => ∃ v, e = .returned v ∧ OwnS iv w' w.heap.size 2 1 v (level n) ∧ Below w.heap.size w w' := by
  have HF : Hid (level n = (lvS n 4096).1) := rfl
  have HGE := Lib.hid (lvS_cases n)
  have HRG := Lib.hid (lvS_range n hn)
  go_enter Tryz.func74, Tryz.ntmps74
  go_wp2
  go_loopw [3, 4, 5] (fun v ls s wr => ∃ k : Nat, k ≤ 4096 ∧ s = .int .i64 k ∧ ls = .int .i64 (lvS n k).2 ∧ Hid (OwnS iv wr w.heap.size 2 1 v (lvS n k).1) ∧ Below w.heap.size w wr) (fun _ _ s _ => 4096 - (intOf s).toNat)
  case atStart => exact ⟨0, Nat.zero_le _, rfl, rfl, OwnS.lit (Nat.le_refl _), by go_grown⟩
  case round =>
    obtain ⟨k, hk, rfl, rfl, HB, hb⟩ := hrel
    obtain ⟨wo, hwo⟩ : ∃ wo, wo = wr := ⟨_, rfl⟩
    subst hwo
    by_cases hlt : k < 4096
    · have HST : Hid (lvS n (k + 1) = lvStep n (inSet (fun i => 11 - i) k 12) (lvS n k)) := rfl
      have hrg := HRG.out k
      have HLB : Hid (¬ (lvS n k).2 < 0 → (lvS n k).1.length = n) := fun h => by
        rcases HGE.out k with ⟨e, _⟩ | ⟨_, e, _⟩
        · rw [e] at h; exact absurd (by decide) h
        · exact e
      have hlt2 : (k : Int) < 4096 := by omega
      have hms : Hid (4096 - ((k : Int) + 1).toNat < 4096 - (k : Int).toNat) := by show _ < _; omega
      generalize lvS n k = r at HST HB hrg HLB ⊢
      obtain ⟨bs, ls⟩ := r
      replace HB : Hid (OwnS iv wo w.heap.size 2 1 u3 bs) := HB
      replace hrg : -1 ≤ ls ∧ ls ≤ 72 := hrg
      replace HLB : Hid (¬ ls < 0 → bs.length = n) := HLB
      go_wp2
      go_loopw [6, 7] (fun v i wr => ∃ j : Nat, j ≤ 12 ∧ i = .int .i64 j ∧ Hid (OwnS iv wr wo.heap.size 2 1 v (inSet (fun i => 11 - i) k j)) ∧ Hid (Below wo.heap.size wo wr)) (fun _ i _ => 12 - (intOf i).toNat)
      case atStart => exact ⟨0, Nat.zero_le _, rfl, OwnS.lit (Nat.le_refl _), by show Below wo.heap.size wo _; go_grown⟩
      case round =>
        obtain ⟨j, hj, rfl, HK, HQ⟩ := hrel
        by_cases hltj : j < 12
        · have HIS := Lib.hid (inSet_succ (fun i => 11 - i) k j)
          have hkl := inSet_le (fun i => 11 - i) k j
          have hj2 : (j : Int) < 12 := by omega
          have hbo : bitOn k (11 - j) = decide (k / 2 ^ (11 - j) % 2 = 1) := rfl
          have hwj : IntKind.i64.wrap (11 - (j : Int)) = ((11 - j : Nat) : Int) := by rw [IntKind.wrap_i64]; omega
          have hwu : IntKind.u64.wrap ((11 - j : Nat) : Int) = ((11 - j : Nat) : Int) := by simp [IntKind.wrap, IntKind.bits, IntKind.signed]; omega
          have hdv : ((k : Int) / 2 ^ (11 - j)) = ((k / 2 ^ (11 - j) : Nat) : Int) := by simp
          have hand := and_one_i64 ((k / 2 ^ (11 - j) : Nat) : Int)
          generalize inSet (fun i => 11 - i) k j = ks at HK HIS hkl
          generalize k / 2 ^ (11 - j) = q at hdv hand hbo
          rcases (by omega : q % 2 = 1 ∨ q % 2 = 0) with hq | hq
          · have HI2 : Hid (inSet (fun i => 11 - i) k (j + 1) = ks ++ [(j : Int)]) := by rw [Hid, HIS.out, if_pos (by rw [hbo, hq]; rfl)]
            rw [show ((q : Nat) : Int) % 2 = 1 by omega] at hand
            clear hbo hq
            go_wp2_with (at_builtin; refine wp_app_num wo.heap.size rfl _ _ rfl _ ks (j : Int) rfl _ rfl ?hg ?HO ?hB ?hn ?_; (case hg => simp); (case HO => exact HK.out); (case hB => exact HQ.out.size); (case hn => omega); intro v1 w1 hown hb3)
            go_roundw
            case rel => exact ⟨j + 1, by omega, by go_num, by rw [HI2.out]; exact hown, HQ.out.trans hb3⟩
            case measure => simp [intOf]; omega
          · have HI2 : Hid (inSet (fun i => 11 - i) k (j + 1) = ks) := by rw [Hid, HIS.out, if_neg (by rw [hbo, hq]; decide), List.append_nil]
            rw [show ((q : Nat) : Int) % 2 = 0 by omega] at hand
            clear hbo hq
            go_wp2
            go_roundw
            case rel => exact ⟨j + 1, by omega, by go_num, by rw [HI2.out]; exact HK.out, HQ.out⟩
            case measure => simp [intOf]; omega
        · obtain rfl : j = 12 := by omega
          have hkl := inSet_le (fun i => 11 - i) k 12
          have HAS := Lib.hid (inSet_asc (fun i => 11 - i) k 12)
          generalize inSet (fun i => 11 - i) k 12 = ks at HK HST HAS hkl
          have HB2 := Lib.hid (HB.out.kept HQ.out)
          have hPL : Places ks := ⟨hkl, fun x hx => by have := HAS.out.2 x hx; omega⟩
          have hbd := hPL.bound
          have htr := tip_range hPL
          obtain ⟨g9, p9, rfl, L9, hg9, hl9, hc9⟩ := HK.out.lies
          obtain ⟨g6, p6, rfl, L6, _, _, _⟩ := HB2.out.lies
          replace L9 := Lib.hid L9
          replace L6 := Lib.hid L6
          have H := Below.refl wr.heap.size wr
          have hTP := fun W (hW : Below wr.heap.size wr W) => l01Tip_any (some ⟨g9, 0, none⟩) p9 ks W (by rw [← fl_iv]; exact (L9.out.below hW).rd) hPL
          have hAH := fun W (hW : Below wr.heap.size wr W) => l01Ahead_any (some ⟨g9, 0, none⟩) p9 ks (some ⟨g6, 0, none⟩) p6 bs W (by rw [← fl_iv]; exact (L9.out.below hW).rd) (by rw [← fl_iv]; exact (L6.out.below hW).rd)
          have hTD : tipN ks = max (eastI ks) (-eastI ks) + max (southI ks) (-southI ks) := rfl
          clear hPL
          generalize eastI ks = ee at hTP hbd hTD
          generalize southI ks = ss at hTP hbd hTD
          have hS1 := fun W => l01Size_any ee W (by omega) (by omega)
          have hS2 := fun W => l01Size_any ss W (by omega) (by omega)
          generalize max ee (-ee) = ea at hTD hS1
          generalize max ss (-ss) = sa at hTD hS2
          have hwT : IntKind.i64.wrap (ea + sa) = tipN ks := by rw [IntKind.wrap_i64, ← hTD]; omega
          replace hTD := Lib.hid hTD
          by_cases hl : ks.length = n
          · have hlz : ((ks.length : Int) == (n : Int)) = true := by rw [beq_iff_eq]; omega
            have HSN : Hid (lvS n (k + 1) = if (decide (ls < 0) || decide (tipN ks < ls) || (decide (tipN ks = ls) && ahead ks bs)) = true then (ks, tipN ks) else (bs, ls)) := by rw [Hid, HST.out, lvStep, if_pos hl]
            replace hl := Lib.hid hl
            generalize tipN ks = T at HSN hwT htr
            by_cases hneg : ls < 0
            · clear hAH
              have HE := Lib.hid (show lvS n (k + 1) = (ks, T) by rw [HSN.out, if_pos (by simp [hneg])])
              clear HSN
              go_wp2_with (first | (go_at_call 123; with_reducible refine (hTP _ H).mono ?_; rintro e w2 ⟨rfl, rfl⟩) | (go_at_call 124; with_reducible refine (hS1 _).mono ?_; rintro e w2 ⟨rfl, rfl⟩) | (go_at_call 124; with_reducible refine (hS2 _).mono ?_; rintro e w2 ⟨rfl, rfl⟩))
              go_roundw
              case rel => exact ⟨k + 1, by omega, by go_num, by rw [HE.out], by rw [HE.out]; exact (HK.out.kept H).down hb.size, bstep hb (bstep HQ.out H)⟩
              case measure => exact hms.out
            · have hbl := Lib.hid (HLB.out (by omega))
              rcases Int.lt_trichotomy T ls with hc | hc | hc
              · clear hAH
                have HE := Lib.hid (show lvS n (k + 1) = (ks, T) by rw [HSN.out, if_pos (by simp [hc])])
                clear HSN
                go_wp2_with (first | (go_at_call 123; with_reducible refine (hTP _ H).mono ?_; rintro e w2 ⟨rfl, rfl⟩) | (go_at_call 124; with_reducible refine (hS1 _).mono ?_; rintro e w2 ⟨rfl, rfl⟩) | (go_at_call 124; with_reducible refine (hS2 _).mono ?_; rintro e w2 ⟨rfl, rfl⟩))
                go_roundw
                case rel => exact ⟨k + 1, by omega, by go_num, by rw [HE.out], by rw [HE.out]; exact (HK.out.kept H).down hb.size, bstep hb (bstep HQ.out H)⟩
                case measure => exact hms.out
              · have hAH2 := fun W hW => hAH W hW (by rw [hbl.out]; exact hl.out) (by omega)
                clear hAH
                have hcn : ¬ T < ls := by omega
                have hcz : (T == ls) = true := by rw [beq_iff_eq]; exact hc
                replace hc := Lib.hid hc
                generalize ahead ks bs = ah at hAH2 HSN
                cases ah with
                | true =>
                  have HE := Lib.hid (show lvS n (k + 1) = (ks, T) by rw [HSN.out, if_pos (by simp [hc.out])])
                  clear HSN
                  go_wp2_with (first | (go_at_call 123; with_reducible refine (hTP _ H).mono ?_; rintro e w2 ⟨rfl, rfl⟩) | (go_at_call 124; with_reducible refine (hS1 _).mono ?_; rintro e w2 ⟨rfl, rfl⟩) | (go_at_call 124; with_reducible refine (hS2 _).mono ?_; rintro e w2 ⟨rfl, rfl⟩) | (go_at_call 125; with_reducible refine (hAH2 _ H).mono ?_; rintro e w2 ⟨rfl, hb3⟩; replace H := bstep H hb3; clear hb3))
                  go_roundw
                  case rel => exact ⟨k + 1, by omega, by go_num, by rw [HE.out], by rw [HE.out]; exact (HK.out.kept H).down hb.size, bstep hb (bstep HQ.out H)⟩
                  case measure => exact hms.out
                | false =>
                  have HE := Lib.hid (show lvS n (k + 1) = (bs, ls) by rw [HSN.out, if_neg (by simp; omega)])
                  clear HSN
                  go_wp2_with (first | (go_at_call 123; with_reducible refine (hTP _ H).mono ?_; rintro e w2 ⟨rfl, rfl⟩) | (go_at_call 124; with_reducible refine (hS1 _).mono ?_; rintro e w2 ⟨rfl, rfl⟩) | (go_at_call 124; with_reducible refine (hS2 _).mono ?_; rintro e w2 ⟨rfl, rfl⟩) | (go_at_call 125; with_reducible refine (hAH2 _ H).mono ?_; rintro e w2 ⟨rfl, hb3⟩; replace H := bstep H hb3; clear hb3))
                  go_roundw
                  case rel => exact ⟨k + 1, by omega, by go_num, by rw [HE.out], by rw [HE.out]; exact HB2.out.kept H, bstep hb (bstep HQ.out H)⟩
                  case measure => exact hms.out
              · clear hAH
                have hcn : ¬ T < ls := by omega
                have hcz : (T == ls) = false := by rw [beq_eq_false_iff_ne]; omega
                have HE := Lib.hid (show lvS n (k + 1) = (bs, ls) by rw [HSN.out, if_neg (by simp; omega)])
                clear HSN
                go_wp2_with (first | (go_at_call 123; with_reducible refine (hTP _ H).mono ?_; rintro e w2 ⟨rfl, rfl⟩) | (go_at_call 124; with_reducible refine (hS1 _).mono ?_; rintro e w2 ⟨rfl, rfl⟩) | (go_at_call 124; with_reducible refine (hS2 _).mono ?_; rintro e w2 ⟨rfl, rfl⟩))
                go_roundw
                case rel => exact ⟨k + 1, by omega, by go_num, by rw [HE.out], by rw [HE.out]; exact HB2.out.kept H, bstep hb (bstep HQ.out H)⟩
                case measure => exact hms.out
          · have hlz : ((ks.length : Int) == (n : Int)) = false := by rw [beq_eq_false_iff_ne]; omega
            have HE := Lib.hid (show lvS n (k + 1) = (bs, ls) by rw [HST.out, lvStep, if_neg hl])
            clear hTP hAH
            go_wp2
            go_roundw
            case rel => exact ⟨k + 1, by omega, by go_num, by rw [HE.out], by rw [HE.out]; exact HB2.out, bstep hb HQ.out⟩
            case measure => exact hms.out
    · obtain rfl : k = 4096 := by omega
      rw [← HF.out] at HB
      go_wp2
      go_ret
      exact ⟨_, rfl, HB.out, hb⟩
theorem sLevelCrate_any (c : Cr) (w : World) : Calls Tryz.prog 15 #[cv c] w fun e w' => e = .returned (.tuple #[cv (levelR c).1, .int .i64 (levelR c).2]) ∧ Below w.heap.size w w' := by
  go_enter Tryz.func15, Tryz.ntmps15
  go_upto_region 1 with fail
  generalize hW : World.alloc _ _ = W
  have H0 : Below w.heap.size w W := by rw [← hW]; go_grown
  have r0 : rowOf W (w.heap.size) = some ((cc c).toArray) := (by (try rw [← hW]); simp only [rowOf_alloc, World.size_alloc, ↓reduceIte]; all_goals ((repeat' split) <;> first | omega | (exfalso; omega) | rfl))
  have r1 : rowOf W (w.heap.size + 1) = some ((cc zC).toArray) := (by (try rw [← hW]); simp only [rowOf_alloc, World.size_alloc, ↓reduceIte]; all_goals ((repeat' split) <;> first | omega | (exfalso; omega) | rfl))
  clear hW
  have q0 : w.heap.size < w.heap.size + 1 := by omega
  have l0 : w.heap.size ≤ w.heap.size := Nat.le_refl _
  generalize w.heap.size + 1 = g1 at r1 q0 ⊢
  generalize h0 : w.heap.size = g0 at r0 q0 ⊢
  replace l0 : w.heap.size ≤ g0 := Nat.le_of_eq h0
  clear h0
  have b0 := rowOf_lt r0
  have b1 := rowOf_lt r1
  have H := Below.refl W.heap.size W
  cases e1 : c.ok with
  | false =>
    have HF := Lib.hid (show levelR c = (zC, 1) by simp [levelR, e1])
    go_wp2_with (first | (go_at_call 68; with_reducible refine (l01Ok_row H r0).mono ?_; rintro e w' ⟨rfl, hb⟩; replace H := bstep H hb; clear hb; have hc := bcell H) | (with_reducible refine wp_store_zeroB H rfl rfl _ _ rfl _ rfl rfl _ r1 ?_))
    rw [HF.out]
    refine bodyPost_ret (results_ct rfl rfl (loadVar_rowOf (cc zC).toArray (by rw [rowOf_setRow, if_pos rfl, rowOf_below H (rowOf_lt r1), r1]; rfl) _ Tryz.underlying28 rfl (infoC _))) rfl ⟨rfl, bsetRow (bstep H0 H) (by omega) _⟩
  | true =>
    have hall := allB_le c
    have HF := Lib.hid (show levelR c = (spread (level (allB c).length) (allB c) (allB c).length, 0) by simp [levelR, e1])
    have HLL := level_len hall
    have HLP := level_places hall
    have HLV := fun W => l01Level_any (allB c).length hall W
    generalize level (allB c).length = ks at HF HLL HLP HLV
    replace HLP := Lib.hid HLP
    go_upto_region 5 with (first | (go_at_call 68; with_reducible refine (l01Ok_row H r0).mono ?_; rintro e w' ⟨rfl, hb⟩; replace H := bstep H hb; clear hb; have hc := bcell H) | (go_at_call 73; refine (l01AllS_any g0 0 c _ (CAt.of_row (row_kept r0 H)) (Nat.lt_of_lt_of_le b0 H.size)).mono ?_; rintro e w2 ⟨v2, rfl, O2, hb⟩; obtain ⟨g4, p4, rfl, K4, -⟩ := O2.lies; replace K4 := Lib.hid K4; replace H := bstep H hb; clear hb O2) | (go_at_call 74; refine (HLV _).mono ?_; rintro e w3 ⟨v3, rfl, O3, hb⟩; obtain ⟨g5, p5, rfl, K5, -⟩ := O3.lies; replace K5 := Lib.hid K5; replace K4 := Lib.hid (K4.out.below hb); replace H := bstep H hb; clear hb O3))
    clear hc e1 HLV
    replace r0 := row_kept r0 H
    replace r1 := row_kept r1 H
    replace H0 := bstep H0 H
    replace H := below_self H
    have b0' := rowOf_lt r0
    go_upto_region 6 with ((with_reducible refine wp_store_rowOf rfl rfl _ _ _ rfl _ rfl (cc zC).toArray rfl (cc zC).toArray ?hr (cc_size2 _ _) (infoC _) (cc_one _) ?_); (case hr => rw [rowOf_alloc, if_pos rfl]; rfl))
    have b4 := K4.out.lt
    have b5 := K5.out.lt
    generalize hW2 : World.setRow _ _ _ = W2
    obtain ⟨HB, r2, b2⟩ := laid_row H hW2
    clear hW2
    have qr02 := Nat.lt_of_lt_of_le (rowOf_lt r0) H.size
    replace r0 := row_kept r0 HB
    have qr12 := Nat.lt_of_lt_of_le (rowOf_lt r1) H.size
    replace r1 := row_kept r1 HB
    replace H0 := bstep H0 HB
    replace H := below_self HB
    generalize w3.heap.size = g2 at *
    have HC4 := Lib.hid (⟨K4.out.c.below HB b4, Nat.lt_trans b4 (rowOf_lt r2)⟩ : Lies bc W2 g4 (allB c))
    have HC5 := Lib.hid (⟨K5.out.c.below HB b5, Nat.lt_trans b5 (rowOf_lt r2)⟩ : Lies iv W2 g5 ks)
    clear K4 K5
    have HI := Lib.hid (And.intro r0 (And.intro r1 r2))
    clear r0 r1 r2 H
    generalize allB c = bs at *
    go_wp2
    go_loopw [7] (fun i wr => ∃ k : Nat, k ≤ bs.length ∧ i = .int .i64 k ∧ Below w.heap.size w wr ∧ Hid (Lies bc wr g4 bs) ∧ Hid (Lies iv wr g5 ks) ∧ Hid (rowOf wr g0 = some (cc c).toArray ∧ rowOf wr g1 = some (cc zC).toArray ∧ rowOf wr g2 = some (cc (spread ks bs k)).toArray)) (fun i _ => bs.length - (intOf i).toNat)
    case atStart => exact ⟨0, by omega, rfl, H0, HC4.out, HC5.out, HI.out⟩
    case round =>
      clear HI H0 HC4 HC5
      obtain ⟨k, hk, rfl, hb, HL4, HL5, HR⟩ := hrel
      by_cases hlt : k < bs.length
      · obtain ⟨p, hp12, hpe⟩ := spread_place HLP.out (show k < ks.length by omega)
        have hX := HL4.out.c.el bc_length hlt
        rw [getB hlt, ← rB_lt hlt, Nat.zero_add] at hX
        have z1 := rd_at (l := ks) (by rw [← fl_iv]; exact HL5.out.c) (show k < ks.length by omega)
        rw [hpe, Nat.zero_add] at z1
        have HSP : Hid (spread ks bs (k + 1) = setC (spread ks bs k) p (rB bs k)) := by
          show setC (spread ks bs k) (ks.getD k 0).toNat (rB bs k) = _
          rw [hpe]
          rfl
        obtain ⟨R0, R1, R2⟩ := HR.out
        clear HR hpe
        generalize spread ks bs k = PA at HSP R2
        generalize rB bs k = b at hX HSP
        have HI := Lib.hid (show p < PA.toList.length by rw [Vector.length_toList]; exact hp12)
        have x0 : wr.cell? ⟨g4, k * 2, none⟩ = some (.int .u8 b.k) := hX 0 _ rfl
        have x1 : wr.cell? ⟨g4, k * 2 + 1, none⟩ = some (.int .i16 b.y) := hX 1 _ rfl
        have hlt2 : (k : Int) < (bs.length : Int) := by omega
        have hlt3 : (k : Int) < (ks.length : Int) := by omega
        have hp2 : (p : Int) < 12 := by omega
        have hp3 : (p : Int) ≤ 11 := by omega
        have hn4 : g4 ≠ g2 := by omega
        have hn5 : g5 ≠ g2 := by omega
        clear hX
        go_upto_region 9 with fail
        have HB : Below w.heap.size w (World.drew wr) := bdrewN hb 1
        have HO := Lib.hid (⟨HL4.out, HL5.out⟩ : Lies bc (World.drew wr) g4 bs ∧ Lies iv (World.drew wr) g5 ks)
        have HR := Lib.hid (⟨R0, R1, R2⟩ : rowOf (World.drew wr) g0 = some (cc c).toArray ∧ rowOf (World.drew wr) g1 = some (cc zC).toArray ∧ rowOf (World.drew wr) g2 = some (cc PA).toArray)
        replace z1 : (World.drew wr).cell? ⟨g5, k, none⟩ = some (.int .i64 p) := z1
        replace x0 : (World.drew wr).cell? ⟨g4, k * 2, none⟩ = some (.int .u8 b.k) := x0
        replace x1 : (World.drew wr).cell? ⟨g4, k * 2 + 1, none⟩ = some (.int .i16 b.y) := x1
        clear R0 R1 R2 HL4 HL5
        generalize hW0 : World.drew wr = W0 at HB HO HR z1 x0 x1
        obtain ⟨W1, hW1⟩ : ∃ x', x' = W0.setRow g2 (bcs (PA.toList.set p b)).toArray := ⟨_, rfl⟩
        have u1 : W1.cell? ⟨g5, k, none⟩ = some (.int .i64 p) := by rw [hW1, cell_setRow_ne hn5]; exact z1
        have v0 : W1.cell? ⟨g4, k * 2, none⟩ = some (.int .u8 b.k) := by rw [hW1, cell_setRow_ne hn4]; exact x0
        have v1 : W1.cell? ⟨g4, k * 2 + 1, none⟩ = some (.int .i16 b.y) := by rw [hW1, cell_setRow_ne hn4]; exact x1
        have S0 : rowOf W0 g2 = some (bcs PA.toList).toArray := HR.out.2.2
        have HI2 := Lib.hid (⟨by rw [hW1, rowOf_setRow_ne (by omega)]; exact HR.out.1, by rw [hW1, rowOf_setRow_ne (by omega)]; exact HR.out.2.1, by rw [hW1, rowOf_setRow, if_pos rfl, HR.out.2.2]; rfl⟩ : rowOf W1 g0 = some (cc c).toArray ∧ rowOf W1 g1 = some (cc zC).toArray ∧ rowOf W1 g2 = some (cc (setC PA p b)).toArray)
        have HI3 := Lib.hid (⟨⟨fun q x hq => by rw [hW1, cell_setRow_ne hn4]; exact HO.out.1.c q x hq, by rw [hW1]; exact Nat.lt_of_lt_of_le HO.out.1.lt (bsetRow (Below.refl 0 W0) (Nat.zero_le _) _).size⟩, ⟨fun q x hq => by rw [hW1, cell_setRow_ne hn5]; exact HO.out.2.c q x hq, by rw [hW1]; exact Nat.lt_of_lt_of_le HO.out.2.lt (bsetRow (Below.refl 0 W0) (Nat.zero_le _) _).size⟩⟩ : Lies bc W1 g4 bs ∧ Lies iv W1 g5 ks)
        have HB2 : Below w.heap.size w W1 := by rw [hW1]; exact bsetRow HB (by omega) _
        replace hW0 := Lib.hid hW0
        replace hW1 := Lib.hid hW1
        refine d_start 10 [W0, W1] (by rw [hW0.out]; rfl) rfl (by kernel_rfl) ?_
        (refine d_quiet 0 (by kernel_rfl) rfl (fun K hK => ?_); go_simp; refine hK _ ?_; clear hK K)
        (refine d_quiet 1 (by kernel_rfl) rfl (fun K hK => ?_); go_simp; refine hK _ ?_; clear hK K)
        (refine d_quiet 2 (by kernel_rfl) rfl (fun K hK => ?_); go_simp; refine hK _ ?_; clear hK K)
        (refine d_quiet 3 (by kernel_rfl) rfl (fun K hK => ?_); go_simp; refine hK _ ?_; clear hK K)
        (refine d_quiet 4 (by kernel_rfl) rfl (fun K hK => ?_); go_simp; refine hK _ ?_; clear hK K)
        (refine d_quiet 5 (by kernel_rfl) rfl (fun K hK => ?_); go_simp; refine hK _ ?_; clear hK K)
        (refine d_quiet 6 (by kernel_rfl) rfl (fun K hK => ?_); go_simp; refine hK _ ?_; clear hK K)
        (refine d_quiet 7 (by kernel_rfl) rfl (fun K hK => ?_); go_simp; refine hK _ ?_; clear hK K)
        (refine d_quiet 8 (by kernel_rfl) rfl (fun K hK => ?_); go_simp; refine hK _ ?_; clear hK K)
        refine d_step 9 1 W0 W1 rfl rfl (by kernel_rfl) rfl rfl (fun K hK => Goes.to hW1.out (Goes.place rfl _ _ _ rfl _ _ rfl _ rfl _ S0 HI.out (infoB _ _) (hK _ ?_)))
        refine d_done (w := W1) rfl (by kernel_rfl) ?_
        clear z1 x0 x1 u1 v0 v1 S0
        go_wp2
        go_roundw
        case rel => exact ⟨k + 1, by omega, by go_num, HB2, HI3.out.1, HI3.out.2, by rw [HSP.out]; exact HI2.out⟩
        case measure => simp [intOf]; omega
      · obtain rfl : k = bs.length := by omega
        obtain ⟨r0, r1, r2⟩ := HR.out
        have H0 := hb
        have H := Below.refl wr.heap.size wr
        clear HR hb HL4 HL5
        generalize spread ks bs bs.length = X at HF r2
        go_wp2_with (first | ((with_reducible refine wp_load_rowBg H ?_ _ _ rfl _ rfl _ r2 _ Tryz.underlying28 rfl (infoC X) ?_); rfl) | (with_reducible refine wp_store_rowB H rfl rfl _ _ _ rfl _ rfl _ rfl _ r1 (cc_size2 _ _) (infoC _) (cc_one _) ?_))
        rw [HF.out]
        refine bodyPost_ret (results_ct rfl rfl (loadVar_rowOf (cc X).toArray (by rw [rowOf_setRow, if_pos rfl, rowOf_below H (rowOf_lt r1), r1]; rfl) _ Tryz.underlying28 rfl (infoC _))) rfl ⟨rfl, bsetRow (bstep H0 H) (by omega) _⟩
end Go.Proofs.YtbngpcghognojaaGreatDoor
