/- Texts of the claim, joined (13 of 22): OpenP, TextP, CrTP, CutP. -/
import Derived.Lib.ItoaNum
import Derived.Lib.ParseIntB
import Derived.Lib.IndexMore
import Derived.Test.YtbngpcghognojaaGreatDoorBO1
import Derived.Test.YtbngpcghognojaaGreatDoorBO6
import Derived.Test.YtbngpcghognojaaGreatDoorBO7
import Derived.Test.YtbngpcghognojaaGreatDoorBO12
namespace Go.Proofs.YtbngpcghognojaaGreatDoor
open Go.RowKit
set_option linter.unusedVariables false
set_option linter.unusedSimpArgs false
set_option maxRecDepth 100000
/-! ### Orders -/
theorem ordOk_all {l : List Wt} (h : ordOk l = true) : ∀ x ∈ l, x.ok = true := by
  intro x hx
  simp only [ordOk, Bool.and_eq_true, decide_eq_true_iff] at h
  obtain ⟨i, hi, rfl⟩ := List.getElem_of_mem hx
  have := (h.1 i hi).1
  rwa [getB hi] at this
theorem ordOk_len {l : List Wt} (h : ordOk l = true) : l.length ≤ 8 := by
  simp only [ordOk, Bool.and_eq_true, decide_eq_true_iff] at h
  exact h.2
theorem Wt.ok_n {x : Wt} (h : x.ok = true) : 1 ≤ x.n ∧ x.n ≤ 144 ∧ x.b.ok = true := by
  simp only [Wt.ok, Bool.and_eq_true, decide_eq_true_iff] at h
  exact ⟨h.2.1, h.2.2, h.1⟩
theorem ordOk_of {l : List Wt} (hs : Str l) (ha : ∀ x ∈ l, x.ok = true) (hl : l.length ≤ 8) : ordOk l = true := by
  simp only [ordOk, Bool.and_eq_true, decide_eq_true_iff]
  refine ⟨fun j hj => ⟨by rw [getB hj]; exact ha _ (List.getElem_mem hj), fun h0 => ?_⟩, hl⟩
  rw [getB hj, getB (show j - 1 < l.length by omega)]
  exact List.pairwise_iff_getElem.1 hs (j - 1) j (by omega) hj (by omega)
theorem lackL_mem {f : Bt → Nat} {l : List Wt} {y : Wt} : y ∈ lackL f l ↔ ∃ x ∈ l, 0 < x.n - (f x.b : Int) ∧ y.b = x.b ∧ y.n = x.n - f x.b := by
  unfold lackL
  rw [List.mem_flatMap]
  constructor
  · rintro ⟨x, hx, hy⟩
    by_cases h : 0 < x.n - (f x.b : Int)
    · rw [lack1_yes h] at hy
      obtain rfl := List.mem_singleton.1 hy
      exact ⟨x, hx, h, rfl, rfl⟩
    · rw [lack1_no h] at hy
      cases hy
  · rintro ⟨x, hx, h, hb, hn⟩
    refine ⟨x, hx, ?_⟩
    rw [lack1_yes h, List.mem_singleton]
    cases y
    simp only at hb hn
    subst hb hn
    rfl
theorem lackL_nil {f : Bt → Nat} {l : List Wt} : lackL f l = [] ↔ ∀ x ∈ l, x.n ≤ (f x.b : Int) := by
  rw [List.eq_nil_iff_forall_not_mem]
  constructor
  · intro h x hx
    apply Classical.byContradiction
    intro hn
    exact h ⟨x.b, x.n - f x.b, by have := x.hn; omega⟩ (lackL_mem.2 ⟨x, hx, by omega, rfl, rfl⟩)
  · intro h y hy
    obtain ⟨x, hx, hp, _⟩ := lackL_mem.1 hy
    have := h x hx
    omega
theorem lackL_str {f : Bt → Nat} {l : List Wt} (h : Str l) : Str (lackL f l) := by
  unfold Str lackL
  rw [List.pairwise_flatMap]
  refine ⟨fun x _ => ?_, h.imp fun {x y} hxy a ha b hb => ?_⟩
  · by_cases hp : 0 < x.n - (f x.b : Int)
    · rw [lack1_yes hp]; exact List.pairwise_singleton _ _
    · rw [lack1_no hp]; exact List.Pairwise.nil
  · have key : ∀ (z c : Wt), c ∈ lack1 z (f z.b) → c.b = z.b := fun z c hc => by
      by_cases hp : 0 < z.n - (f z.b : Int)
      · rw [lack1_yes hp] at hc
        obtain rfl := List.mem_singleton.1 hc
        rfl
      · rw [lack1_no hp] at hc
        cases hc
    rw [key x a ha, key y b hb]
    exact hxy
theorem lackL_ok {f : Bt → Nat} {l : List Wt} (h : ordOk l = true) : ordOk (lackL f l) = true := by
  refine ordOk_of (lackL_str (ordOk_str h)) (fun y hy => ?_) (Nat.le_trans (lackL_le f l) (ordOk_len h))
  obtain ⟨x, hx, hp, hb, hn⟩ := lackL_mem.1 hy
  have := Wt.ok_n (ordOk_all h x hx)
  simp only [Wt.ok, Bool.and_eq_true, decide_eq_true_iff]
  exact ⟨by rw [hb]; exact this.2.2, by omega, by omega⟩
/-! ### The fewest crates -/
section
variable {lc : List Cr} {l : List Wt} {ks ks' : List Int}
theorem leftL_perm (h : ks.Nodup) (h' : ks'.Nodup) (hp : ks.Perm ks') : leftL lc l ks = leftL lc l ks' := by
  unfold leftL
  have : cntL (opL lc ks) = cntL (opL lc ks') := funext fun b => by
    rw [opL_nodup lc h, opL_nodup lc h']
    exact cntL_perm (hp.map _) b
  rw [this]
/-- Crates, each once, in order. -/
def ascOf (n : Nat) (ks : List Int) : List Int := (everyL n).filter fun x => decide (x ∈ ks)
theorem ascOf_asc (n : Nat) (ks : List Int) : Asc 0 n (ascOf n ks) := ⟨(everyL_asc n).filter _, fun x hx => by have := everyL_in (List.mem_filter.1 hx).1; omega⟩
theorem ascOf_perm {n : Nat} (h : Good n ks) : (ascOf n ks).Perm ks := by
  refine (List.perm_ext_iff_of_nodup ((everyL_nodup n).filter _) h.nd).2 fun x => ?_
  rw [List.mem_filter, decide_eq_true_iff]
  exact ⟨fun q => q.2, fun q => ⟨everyL_mem (h.inn x q).1 (h.inn x q).2, q⟩⟩
theorem few_len (h : Good lc.length ks) (hl : leftL lc l ks = []) : (fewS lc l).1.length ≤ ks.length := by
  have hp := ascOf_perm h
  have ha := ascOf_asc lc.length ks
  have ho : okF lc l (ascOf lc.length ks) = true := by unfold okF; rw [decide_eq_true_iff, leftL_perm ha.good.nd h.nd hp]; exact hl
  have hm := (sets_least (sets_found ha ho)).2.2 _ ha ho
  rw [← hp.length_eq]
  simp only [lessL, Bool.or_eq_false_iff, decide_eq_false_iff_not] at hm
  show (setsK lc.length (okF lc l) (2 ^ lc.length)).1.length ≤ _
  omega
theorem few_asc : Asc 0 lc.length (fewS lc l).1 := by
  cases h : (fewS lc l).2 with
  | true => exact (sets_least h).2.1
  | false =>
    have := (setsK_some (n := lc.length) (p := okF lc l) (2 ^ lc.length)).2 h
    rw [fewS, this.1]
    exact ⟨List.Pairwise.nil, fun x hx => by cases hx⟩
variable (hf : lackL (cntL lc) l = [])
include hf
theorem few_ok : leftL lc l (fewS lc l).1 = [] := fewS_ok (fewS_found hf)
theorem bnd_few : ∀ k, k ≤ l.length → bndK lc l k ≤ ((fewS lc l).1.length : Int)
  | 0, _ => by simp [bndK]
  | k + 1, hk => by
    have ih := bnd_few k (by omega)
    have h1 : leftL lc [l[k]!] (fewS lc l).1 = [] := lack_one (few_ok hf) (by rw [getB (show k < l.length by omega)]; exact List.getElem_mem _)
    have := few_len fewS_good h1
    rw [bndK]
    omega
omit hf in
/-- No crate of the fewest can be left out. -/
theorem few_less {k : Nat} (hk : k < (fewS lc l).1.length) : leftL lc l ((fewS lc l).1.take k ++ (fewS lc l).1.drop (k + 1)) ≠ [] := fun h => by
  have hs : ((fewS lc l).1.take k ++ (fewS lc l).1.drop (k + 1)).Sublist (fewS lc l).1 := by
    have h1 := List.Sublist.append (List.Sublist.refl ((fewS lc l).1.take k)) (List.drop_sublist 1 ((fewS lc l).1.drop k))
    rw [List.drop_drop, List.take_append_drop] at h1
    exact h1
  have hg : Good lc.length ((fewS lc l).1.take k ++ (fewS lc l).1.drop (k + 1)) := ⟨fewS_good.nd.sublist hs, fun x hx => fewS_good.inn x (hs.subset hx)⟩
  have := few_len hg h
  rw [List.length_append, List.length_take, List.length_drop] at this
  omega
theorem few_nil (hok : ordOk l = true) : (fewS lc l).1 = [] ↔ l = [] := by
  constructor
  · intro h
    have h1 := few_ok hf
    rw [h] at h1
    unfold leftL at h1
    rw [lackL_nil] at h1
    refine List.eq_nil_iff_forall_not_mem.2 fun x hx => ?_
    have h2 := h1 x hx
    have h3 := Wt.ok_n (ordOk_all hok x hx)
    have h4 : cntL (opL lc []) x.b = 0 := rfl
    omega
  · rintro rfl
    have := few_len (lc := lc) (l := []) (ks := []) (Good.nil _) rfl
    exact List.length_eq_zero_iff.1 (Nat.le_zero.1 this)
/-! ### The greedy crates -/
theorem finG_spec : ∀ (m : Nat) (out : List Int), Good lc.length out → lc.length - out.length = m →
    Good lc.length (finG lc l out) ∧ leftL lc l (finG lc l out) = [] ∧ (∃ r, finG lc l out = out ++ r) ∧
    ∀ k, out.length ≤ k → k < (finG lc l out).length → leftL lc l ((finG lc l out).take k) ≠ [] ∧ (finG lc l out).getD k 0 = (bestK lc (leftL lc l ((finG lc l out).take k)) ((finG lc l out).take k) lc.length).1 := by
  intro m
  induction m using Nat.strongRecOn with
  | _ m ih =>
    intro out h hm
    by_cases hl : leftL lc l out = []
    · rw [finG_stop h hl]
      exact ⟨h, hl, ⟨[], by simp⟩, fun k h1 h2 => absurd h2 (by omega)⟩
    · rw [finG_step h hl]
      have hg := best_good h hf hl
      have hle := hg.le
      rw [List.length_append, List.length_singleton] at hle
      obtain ⟨i1, i2, ⟨r, i3⟩, i4⟩ := ih (lc.length - (out ++ [(bestK lc (leftL lc l out) out lc.length).1]).length) (by rw [List.length_append, List.length_singleton]; omega) _ hg rfl
      refine ⟨i1, i2, ⟨_, by rw [i3, List.append_assoc]⟩, fun k h1 h2 => ?_⟩
      by_cases hk : k = out.length
      · subst hk
        have e : (finG lc l (out ++ [(bestK lc (leftL lc l out) out lc.length).1])).take out.length = out := by
          rw [i3, List.append_assoc, List.take_append_of_le_length (Nat.le_refl _), List.take_length]
        rw [e]
        refine ⟨hl, ?_⟩
        rw [i3, List.append_assoc, List.getD_eq_getElem?_getD, List.getElem?_append_right (Nat.le_refl _), Nat.sub_self]
        rfl
      · exact i4 k (by rw [List.length_append, List.length_singleton]; omega) h2
end
/-- What the best of the first crates is. -/
theorem bestK_best (lc : List Cr) (left : List Wt) (out : List Int) : ∀ k, ((bestK lc left out k).1 = -1 ∧ (bestK lc left out k).2 = 0 ∧ ∀ i, i < k → (i : Int) ∈ out) ∨
    (∃ j : Nat, j < k ∧ (bestK lc left out k).1 = (j : Int) ∧ (j : Int) ∉ out ∧ (bestK lc left out k).2 = useW lc[j]! left ∧ ∀ i, i < k → (i : Int) ∉ out → useW lc[i]! left ≤ useW lc[j]! left ∧ (useW lc[i]! left = useW lc[j]! left → j ≤ i))
  | 0 => .inl ⟨rfl, rfl, fun i hi => absurd hi (Nat.not_lt_zero _)⟩
  | k + 1 => by
    have ih := bestK_best lc left out k
    rw [bestK]
    by_cases hm : (k : Int) ∈ out
    · rw [if_neg (by simp [hm])]
      rcases ih with ⟨i1, i2, i3⟩ | ⟨j, hj, i1, i2, i3, i4⟩
      · refine .inl ⟨i1, i2, fun i hi => ?_⟩
        rcases Nat.lt_or_ge i k with q | q
        · exact i3 i q
        · obtain rfl : i = k := by omega
          exact hm
      · refine .inr ⟨j, by omega, i1, i2, i3, fun i hi hi2 => ?_⟩
        rcases Nat.lt_or_ge i k with q | q
        · exact i4 i q hi2
        · obtain rfl : i = k := by omega
          exact absurd hm hi2
    · rcases ih with ⟨i1, i2, i3⟩ | ⟨j, hj, i1, i2, i3, i4⟩
      · rw [if_pos (by simp [hm, i1])]
        refine .inr ⟨k, by omega, rfl, hm, rfl, fun i hi hi2 => ?_⟩
        rcases Nat.lt_or_ge i k with q | q
        · exact absurd (i3 i q) hi2
        · obtain rfl : i = k := by omega
          exact ⟨Int.le_refl _, fun _ => Nat.le_refl _⟩
      · by_cases hlt : useW lc[j]! left < useW lc[k]! left
        · rw [if_pos (by rw [i3, decide_eq_true hlt, Bool.or_true, Bool.and_true]; simp [hm])]
          refine .inr ⟨k, by omega, rfl, hm, rfl, fun i hi hi2 => ?_⟩
          rcases Nat.lt_or_ge i k with q | q
          · have := i4 i q hi2
            exact ⟨by omega, fun e => absurd e (by omega)⟩
          · obtain rfl : i = k := by omega
            exact ⟨Int.le_refl _, fun _ => Nat.le_refl _⟩
        · rw [if_neg (by rw [i1, i3, decide_eq_false hlt, decide_eq_false (show ¬ ((j : Nat) : Int) < 0 by omega)]; simp)]
          refine .inr ⟨j, by omega, i1, i2, i3, fun i hi hi2 => ?_⟩
          rcases Nat.lt_or_ge i k with q | q
          · exact i4 i q hi2
          · obtain rfl : i = k := by omega
            exact ⟨by omega, fun _ => by omega⟩
theorem cntL_at (lc : List Cr) (b : Bt) : cntL lc b = ((everyL lc.length).map fun y => cntC lc[y.toNat]! b).sum := by
  have e := opL_every lc
  rw [opL_nodup lc (everyL_nodup _)] at e
  conv => lhs; rw [← e]
  unfold cntL
  rw [List.map_map]
  rfl
theorem sum_zero {α : Type} (f : α → Nat) : ∀ (L : List α), (∀ y ∈ L, f y = 0) → (L.map f).sum = 0
  | [], _ => rfl
  | y :: L, h => by
    rw [List.map_cons, List.sum_cons, h y (List.mem_cons_self ..), sum_zero f L fun z hz => h z (List.mem_cons_of_mem _ hz)]
/-- Something that is lacking is in a crate that is not opened. -/
theorem some_crate {lc : List Cr} {l : List Wt} {out : List Int} (hg : Good lc.length out) (hf : lackL (cntL lc) l = []) {x : Wt} (hx : x ∈ l) (hn : (cntL (opL lc out) x.b : Int) < x.n) : ∃ i, i < lc.length ∧ (i : Int) ∉ out ∧ 1 ≤ cntC lc[i]! x.b := by
  apply Classical.byContradiction
  intro hno
  have h0 : ∀ y ∈ (everyL lc.length).filter (fun y => !decide (y ∈ out)), cntC lc[y.toNat]! x.b = 0 := fun y hy => by
    obtain ⟨h1, h2⟩ := List.mem_filter.1 hy
    have h3 := everyL_in h1
    apply Classical.byContradiction
    intro hc
    have e : ((y.toNat : Nat) : Int) = y := by omega
    exact hno ⟨y.toNat, by omega, by rw [e]; simpa using h2, by omega⟩
  have hp := List.filter_append_perm (fun y => decide (y ∈ out)) (everyL lc.length)
  have h1 := cntL_at lc x.b
  have h2 : ((everyL lc.length).map fun y => cntC lc[y.toNat]! x.b).sum = (((everyL lc.length).filter fun y => decide (y ∈ out)).map fun y => cntC lc[y.toNat]! x.b).sum + (((everyL lc.length).filter fun y => !decide (y ∈ out)).map fun y => cntC lc[y.toNat]! x.b).sum := by
    rw [← (hp.map _).sum_nat, List.map_append, List.sum_append]
  have h3 : (((everyL lc.length).filter fun y => !decide (y ∈ out)).map fun y => cntC lc[y.toNat]! x.b).sum = 0 := by
    exact sum_zero _ _ h0
  have h4 : cntL (opL lc out) x.b = (((everyL lc.length).filter fun y => decide (y ∈ out)).map fun y => cntC lc[y.toNat]! x.b).sum := by
    rw [opL_nodup lc hg.nd]
    unfold cntL
    rw [List.map_map]
    exact ((ascOf_perm hg).map _).sum_nat.symm
  have h5 := lackL_nil.1 hf x hx
  omega
theorem use1_pos {c : Cr} {x : Wt} (h : x.ok = true) : 0 ≤ use1 c x := by
  have := Wt.ok_n h
  unfold use1
  omega
theorem useW_pos {c : Cr} {l : List Wt} (h : ∀ x ∈ l, x.ok = true) : 0 ≤ useW c l ∧ ∀ x ∈ l, use1 c x ≤ useW c l := by
  induction l with
  | nil => exact ⟨by simp [useW], fun x hx => by cases hx⟩
  | cons y l ih =>
    have h1 := ih fun x hx => h x (List.mem_cons_of_mem _ hx)
    have h2 := use1_pos (c := c) (h y (List.mem_cons_self ..))
    have e : useW c (y :: l) = use1 c y + useW c l := by simp [useW]
    rw [e]
    refine ⟨by omega, fun x hx => ?_⟩
    rcases List.mem_cons.1 hx with rfl | hx
    · omega
    · have := h1.2 x hx
      omega
/-- What is said of the greedy crates. -/
theorem greedy_at {lc : List Cr} {l : List Wt} (hok : ordOk l = true) (hf : lackL (cntL lc) l = []) {k : Nat} (hk : k < (finG lc l []).length) :
    ∃ j : Nat, j < lc.length ∧ (finG lc l []).getD k 0 = (j : Int) ∧ 1 ≤ useW lc[j]! (leftL lc l ((finG lc l []).take k)) ∧ leftL lc l ((finG lc l []).take k) ≠ [] ∧
      ∀ i, i < lc.length → (i : Int) ∉ (finG lc l []).take k → useW lc[i]! (leftL lc l ((finG lc l []).take k)) ≤ useW lc[j]! (leftL lc l ((finG lc l []).take k)) ∧ (useW lc[i]! (leftL lc l ((finG lc l []).take k)) = useW lc[j]! (leftL lc l ((finG lc l []).take k)) → j ≤ i) := by
  obtain ⟨hg, _, _, h4⟩ := finG_spec hf _ [] (Good.nil _) rfl
  obtain ⟨h5, h6⟩ := h4 k (Nat.zero_le _) hk
  have hgk : Good lc.length ((finG lc l []).take k) := ⟨hg.nd.sublist (List.take_sublist _ _), fun x hx => hg.inn x (List.mem_of_mem_take hx)⟩
  generalize (finG lc l []).take k = out at *
  obtain ⟨y, hy⟩ : ∃ y, y ∈ leftL lc l out := List.exists_mem_of_ne_nil _ h5
  have hy' : y ∈ lackL (cntL (opL lc out)) l := hy
  obtain ⟨x, hx, hp, hb, hn⟩ := lackL_mem.1 hy'
  obtain ⟨i, hi, hi2, hi3⟩ := some_crate hgk hf hx (by omega)
  have hlo : ∀ z ∈ leftL lc l out, z.ok = true := ordOk_all (lackL_ok hok)
  have hu := (useW_pos (c := lc[i]!) hlo).2 y hy
  have hu1 : 1 ≤ use1 lc[i]! y := by
    unfold use1
    rw [hb, hn]
    omega
  rcases bestK_best lc (leftL lc l out) out lc.length with ⟨_, _, q⟩ | ⟨j, hj, q1, q2, q3, q4⟩
  · exact absurd (q i hi) hi2
  · rw [q1] at h6
    exact ⟨j, hj, h6, by have := (q4 i hi hi2).1; omega, h5, q4⟩
/-! ### What is taken out -/
theorem cntC_put_own {c : Cr} {p : Nat} {b : Bt} (hp : p < 12) (hb : rB c.toList p = b) (hz : zB ≠ b) : cntC (setC c p zB) b + 1 = cntC c b := by
  rw [cntC_all, cntC_all]
  have hl : p < c.toList.length := by rw [Vector.length_toList]; exact hp
  have e : (setC c p zB).toList = c.toList.set p zB := by simp [setC]
  rw [e, List.countP_set (h := hl)]
  have h1 : (zB.like b) = false := by rw [← Bool.not_eq_true, Bt.like_iff]; exact hz
  have h2 : (c.toList[p].like b) = true := by rw [Bt.like_iff, ← rB_lt hl]; exact hb
  have h3 : 0 < c.toList.countP fun x => x.like b := List.countP_pos_iff.2 ⟨_, List.getElem_mem hl, h2⟩
  rw [h1, h2]
  simp only [if_true, Bool.false_eq_true, if_false]
  omega
theorem cntL_putL {L : List Cr} {k : Nat} (hk : k < L.length) (c : Cr) (b : Bt) : cntL (L.set k c) b + cntC L[k]! b = cntL L b + cntC c b := by
  unfold cntL
  rw [getB hk]
  have h1 : L = L.take k ++ L[k] :: L.drop (k + 1) := by rw [List.getElem_cons_drop, List.take_append_drop]
  have h2 : L.set k c = L.take k ++ c :: L.drop (k + 1) := by rw [List.set_eq_take_append_cons_drop, if_pos hk]
  rw [h2]
  conv => rhs; rw [h1]
  simp only [List.map_append, List.map_cons, List.sum_append, List.sum_cons]
  omega
/-- What has been taken is missing. -/
theorem tkP_miss {b : Bt} (hz : zB ≠ b) (k : Nat) (s : List Cr × List Bt × Int) (hk : k < s.1.length) : ∀ p, p ≤ 12 → ((cntL (tkP b k p s).1 b : Nat) : Int) - (tkP b k p s).2.2 = (cntL s.1 b : Nat) - s.2.2
  | 0, _ => rfl
  | p + 1, hp => by
    have ih := tkP_miss hz k s hk p (by omega)
    have hl := (tkP_stay b k p s).len
    rw [tkP]
    generalize tkP b k p s = t at ih hl ⊢
    unfold tkStep
    split
    · rename_i h
      simp only [Bool.and_eq_true, decide_eq_true_iff, Bt.like_iff] at h
      have h1 := cntL_putL (L := t.1) (k := k) (by omega) (setC t.1[k]! p zB) b
      have h2 := cntC_put_own (show p < 12 by omega) h.2 hz
      show ((cntL (t.1.set k (setC t.1[k]! p zB)) b : Nat) : Int) - (t.2.2 - 1) = _
      omega
    · exact ih
theorem tkK_miss {b : Bt} (hz : zB ≠ b) (ks : List Int) (s : List Cr × List Bt × Int) (hk : ∀ x ∈ ks, 0 ≤ x ∧ x < s.1.length) : ∀ j, j ≤ ks.length → ((cntL (tkK b ks j s).1 b : Nat) : Int) - (tkK b ks j s).2.2 = (cntL s.1 b : Nat) - s.2.2
  | 0, _ => rfl
  | j + 1, hj => by
    have ih := tkK_miss hz ks s hk j (by omega)
    have hl := (tkK_stay b ks j s).len
    have := hk _ (getD_mem (show j < ks.length by omega))
    rw [tkK, tkP_miss hz _ _ (by omega) 12 (Nat.le_refl _), ih]
theorem tkK_else {b b' : Bt} (ks : List Int) (s : List Cr × List Bt × Int) (h1 : b ≠ b') (h2 : zB ≠ b') (q : Nat) : cntL (tkK b ks q s).1 b' = cntL s.1 b' := by
  have hl := (tkK_stay b ks q s).len
  rw [cntL_at, cntL_at, hl]
  congr 1
  refine List.map_congr_left fun y hy => ?_
  have := everyL_in hy
  exact tkK_cnt b b' ks y.toNat s (by omega) h1 h2 q
theorem sumC_eq {lc : List Cr} {ks : List Int} (hg : Good lc.length ks) (b : Bt) : sumC lc b ks = cntL (opL lc ks) b := by
  rw [opL_nodup lc hg.nd]
  unfold sumC cntL
  rw [List.map_map]
  rfl
section
variable {lc : List Cr} {l : List Wt} {ks : List Int} (hok : ordOk l = true) (hg : Good lc.length ks) (hf : leftL lc l ks = [])
include hok hg hf
theorem tkW_miss : ∀ i, i ≤ l.length → (∀ j, j < i → ((cntL (tkW lc l ks i).1 l[j]!.b : Nat) : Int) = (cntL lc l[j]!.b : Nat) - l[j]!.n) ∧ ∀ j, i ≤ j → j < l.length → cntL (tkW lc l ks i).1 l[j]!.b = cntL lc l[j]!.b
  | 0, _ => ⟨fun j hj => absurd hj (Nat.not_lt_zero _), fun j _ _ => rfl⟩
  | i + 1, hi => by
    obtain ⟨i1, i2⟩ := tkW_miss i (by omega)
    have hk : okK l l.length := by simp only [ordOk, Bool.and_eq_true, decide_eq_true_iff] at hok; exact hok.1
    have hx := Wt.ok_n (ordOk_all hok l[i]! (by rw [getB (show i < l.length by omega)]; exact List.getElem_mem _))
    have hle := tkW_len lc l ks i
    have hsum : ∀ x ∈ l, x.n ≤ (sumC lc x.b ks : Int) := fun x hx => by
      rw [sumC_eq hg]
      exact lackL_nil.1 hf x hx
    have hkeep := (tkW_bots hk hg (fun j hj => hsum _ (by rw [getB hj]; exact List.getElem_mem _)) i (by omega)).2 i (Nat.le_refl _) (by omega)
    have e : sumC (tkW lc l ks i).1 l[i]!.b ks = sumC lc l[i]!.b ks := by
      unfold sumC
      congr 1
      refine List.map_congr_left fun y hy => ?_
      have := hg.inn y hy
      exact hkeep y.toNat (by omega)
    have hg2 : Good (tkW lc l ks i).1.length ks := by rw [hle]; exact hg
    have ht := (tkK_take l[i]!.b ks ((tkW lc l ks i).1, (tkW lc l ks i).2, l[i]!.n) hg2 (by show 0 ≤ l[i]!.n; omega) ks.length (Nat.le_refl _)).2.1
    rw [List.take_length] at ht
    have hs := hsum l[i]! (by rw [getB (show i < l.length by omega)]; exact List.getElem_mem _)
    have hz := tkK_miss (okK_z hk (show i < l.length by omega)) ks ((tkW lc l ks i).1, (tkW lc l ks i).2, l[i]!.n) (fun x hx => hg2.inn x hx) ks.length (Nat.le_refl _)
    have h0 : (tkK l[i]!.b ks ks.length ((tkW lc l ks i).1, (tkW lc l ks i).2, l[i]!.n)).2.2 = 0 := by
      rw [ht]
      show l[i]!.n - ((min l[i]!.n.toNat (sumC (tkW lc l ks i).1 l[i]!.b ks) : Nat) : Int) = 0
      rw [e]
      omega
    rw [h0] at hz
    have hz' : ((cntL (tkK l[i]!.b ks ks.length ((tkW lc l ks i).1, (tkW lc l ks i).2, l[i]!.n)).1 l[i]!.b : Nat) : Int) - 0 = (cntL (tkW lc l ks i).1 l[i]!.b : Nat) - l[i]!.n := hz
    have e2 := i2 i (Nat.le_refl _) (by omega)
    refine ⟨fun j hj => ?_, fun j hj hj2 => ?_⟩
    · rw [tkW]
      show ((cntL (tkK l[i]!.b ks ks.length ((tkW lc l ks i).1, (tkW lc l ks i).2, l[i]!.n)).1 l[j]!.b : Nat) : Int) = _
      rcases Nat.lt_or_ge j i with q | q
      · rw [tkK_else ks _ (fun e => okK_ne hk (show i < l.length by omega) q e.symm) (okK_z hk (by omega))]
        exact i1 j q
      · obtain rfl : j = i := by omega
        omega
    · rw [tkW]
      show cntL (tkK l[i]!.b ks ks.length ((tkW lc l ks i).1, (tkW lc l ks i).2, l[i]!.n)).1 l[j]!.b = _
      rw [tkK_else ks _ (okK_ne hk hj2 (by omega)) (okK_z hk hj2)]
      exact i2 j (by omega) hj2
theorem out_miss {j : Nat} (hj : j < l.length) : ((cntL (outL lc l ks).1 l[j]!.b : Nat) : Int) = (cntL lc l[j]!.b : Nat) - l[j]!.n := (tkW_miss hok hg hf l.length (Nat.le_refl _)).1 j hj
end
theorem tkK_other (b : Bt) (ks : List Int) (s : List Cr × List Bt × Int) (i : Nat) (hi : i < s.1.length) (hk : ∀ x ∈ ks, 0 ≤ x ∧ x < s.1.length) (hn : (i : Int) ∉ ks) : ∀ j, j ≤ ks.length → (tkK b ks j s).1[i]! = s.1[i]!
  | 0, _ => rfl
  | j + 1, hj => by
    have hm := getD_mem (show j < ks.length by omega)
    have hl := (tkK_stay b ks j s).len
    have h0 := hk _ hm
    rw [tkK, tkP_other b _ i _ (by omega) (fun e => hn (by
      have : (i : Int) = ks.getD j 0 := by omega
      rw [this]
      exact hm)) 12]
    exact tkK_other b ks s i hi hk hn j (by omega)
theorem out_other {lc : List Cr} {l : List Wt} {ks : List Int} (hg : Good lc.length ks) {i : Nat} (hi : i < lc.length) (hn : (i : Int) ∉ ks) : ∀ j, (tkW lc l ks j).1[i]! = lc[i]!
  | 0 => rfl
  | j + 1 => by
    have hl := tkW_len lc l ks j
    rw [tkW]
    show (tkK l[j]!.b ks ks.length ((tkW lc l ks j).1, (tkW lc l ks j).2, l[j]!.n)).1[i]! = _
    rw [tkK_other _ ks _ i (by show i < (tkW lc l ks j).1.length; omega) (fun x hx => by have := hg.inn x hx; show _ ∧ _ < ((tkW lc l ks j).1.length : Int); omega) hn ks.length (Nat.le_refl _)]
    exact out_other hg hi hn j
theorem botsL_len {l : List Wt} (h : ∀ x ∈ l, 0 ≤ x.n) : ((botsL l).length : Int) = sumW l := by
  induction l with
  | nil => rfl
  | cons x l ih =>
    have h1 := ih fun y hy => h y (List.mem_cons_of_mem _ hy)
    have h2 := h x (List.mem_cons_self ..)
    have e : botsL (x :: l) = List.replicate x.n.toNat x.b ++ botsL l := by simp [botsL]
    have e2 : sumW (x :: l) = x.n + sumW l := by simp [sumW]
    rw [e, e2, List.length_append, List.length_replicate]
    omega
theorem botsL_at {l : List Wt} {i k : Nat} (hi : i < l.length) (hk : k < l[i]!.n.toNat) : (botsL l)[(botsL (l.take i)).length + k]? = some l[i]!.b := by
  have h1 : botsL l = botsL (l.take (i + 1)) ++ botsL (l.drop (i + 1)) := by
    unfold botsL
    rw [← List.flatMap_append, List.take_append_drop]
  rw [h1, botsL_step hi, List.append_assoc, List.getElem?_append_right (by omega), Nat.add_sub_cancel_left, List.getElem?_append_left (by simpa using hk), List.getElem?_replicate, if_pos hk]
/-! ### What is packed -/
theorem packC_cnt (bs : List Bt) (b : Bt) (hz : zB ≠ b) (i j : Nat) : cntC (packC bs i j) b = ((List.range 12).filter fun p => decide (12 * j + p < i) && (rB bs (12 * j + p)).like b).length := by
  have h1 : zB.like b = false := by rw [← Bool.not_eq_true, Bt.like_iff]; exact hz
  rw [cntC_all, packC_toList, List.countP_map, List.countP_eq_length_filter]
  congr 1
  refine List.filter_congr fun p _ => ?_
  simp only [Function.comp]
  by_cases h : 12 * j + p < i
  · simp [h]
  · simp [h, h1]
theorem range_cnt (q : Nat → Bool) : ∀ (m : Nat), (((List.range m).map fun j => ((List.range 12).filter fun p => q (12 * j + p)).length).sum) = ((List.range (12 * m)).filter q).length
  | 0 => rfl
  | m + 1 => by
    rw [List.range_succ (n := m), List.map_append, List.sum_append, range_cnt q m, show 12 * (m + 1) = 12 * m + 12 by omega, List.range_add, List.filter_append, List.length_append, List.filter_map, List.length_map]
    simp [Function.comp_def]
theorem packL_cnt (bs : List Bt) (b : Bt) (hz : zB ≠ b) : cntL (packL bs) b = bs.countP fun x => x.like b := by
  unfold packL packK cntL
  rw [List.map_map]
  have e : ((List.range ((bs.length + 11) / 12)).map ((fun c => cntC c b) ∘ packC bs bs.length)) = (List.range ((bs.length + 11) / 12)).map fun j => ((List.range 12).filter fun p => (fun i => decide (i < bs.length) && (rB bs i).like b) (12 * j + p)).length :=
    List.map_congr_left fun j _ => packC_cnt bs b hz bs.length j
  rw [e, range_cnt (fun i => decide (i < bs.length) && (rB bs i).like b)]
  have h2 : 12 * ((bs.length + 11) / 12) = bs.length + (12 * ((bs.length + 11) / 12) - bs.length) := by omega
  rw [h2, List.range_add, List.filter_append, List.length_append]
  have h3 : ((List.range (12 * ((bs.length + 11) / 12) - bs.length)).map (bs.length + ·)).filter (fun i => decide (i < bs.length) && (rB bs i).like b) = [] := by
    rw [List.filter_eq_nil_iff]
    intro i hi
    obtain ⟨j, _, rfl⟩ := List.mem_map.1 hi
    rw [decide_eq_false (show ¬ bs.length + j < bs.length by omega)]
    simp
  rw [h3, List.length_nil, Nat.add_zero]
  have h4 : (List.range bs.length).filter (fun i => decide (i < bs.length) && (rB bs i).like b) = (List.range bs.length).filter fun i => (rB bs i).like b := List.filter_congr fun i hi => by
    rw [decide_eq_true (List.mem_range.1 hi), Bool.true_and]
  rw [h4, ← List.countP_eq_length_filter]
  have h5 : bs = (List.range bs.length).map (rB bs) := by
    apply List.ext_getElem (by simp)
    intro i hi hi'
    simp [rB_lt hi]
  conv => rhs; rw [h5]
  rw [List.countP_map]
  rfl
theorem botsL_cnt {l : List Wt} (h : Str l) {x : Wt} (hx : x ∈ l) : (botsL l).countP (fun y => y.like x.b) = x.n.toNat := by
  induction l with
  | nil => cases hx
  | cons z l ih =>
    have e : botsL (z :: l) = List.replicate z.n.toNat z.b ++ botsL l := by simp [botsL]
    have hs : Str l := (List.pairwise_cons.1 h).2
    rw [e, List.countP_append, List.countP_replicate]
    have hnot : ∀ (t : Bt), (∀ y ∈ l, y.b ≠ t) → (botsL l).countP (fun y => y.like t) = 0 := fun t ht => by
      rw [List.countP_eq_zero]
      intro y hy
      unfold botsL at hy
      obtain ⟨u, hu, hy⟩ := List.mem_flatMap.1 hy
      rw [List.eq_of_mem_replicate hy, Bt.like_iff]
      exact ht u hu
    rcases List.mem_cons.1 hx with rfl | hx
    · rw [if_pos (Bt.like_iff.2 rfl), hnot x.b fun y hy => (cmp_ne ((List.pairwise_cons.1 h).1 y hy)).symm]
      omega
    · have hne : z.b ≠ x.b := cmp_ne ((List.pairwise_cons.1 h).1 x hx)
      rw [if_neg (by rw [Bt.like_iff]; exact hne), ih hs hx]
      omega
/-! ### Several orders -/
theorem sevK_first {lc : List Cr} {os : List (List Wt)} (h0 : 0 < os.length) (hf : lackL (cntL lc) os[0]! = []) : ∀ i, 0 < i → ∃ r, (sevK lc os i).2 = 0 :: r
  | 0, h => absurd h (Nat.lt_irrefl _)
  | i + 1, _ => by
    by_cases hi : i = 0
    · subst hi
      have : (fewS (sevK lc os 0).1 os[0]!).2 = true := fewS_found hf
      rw [sevK, if_pos this]
      exact ⟨[], rfl⟩
    · obtain ⟨r, hr⟩ := sevK_first h0 hf i (by omega)
      rw [sevK]
      split
      · exact ⟨_, by rw [hr]; rfl⟩
      · exact ⟨r, hr⟩
end Go.Proofs.YtbngpcghognojaaGreatDoor
namespace Go.Proofs.YtbngpcghognojaaGreatDoor
open Go Go.Lib
set_option linter.unusedVariables false
set_option linter.unusedSimpArgs false
set_option maxRecDepth 100000
/-! ### Numerals -/
def isD (c : UInt8) : Bool := decide (48 ≤ c.toNat) && decide (c.toNat ≤ 57)
theorem isD_iff {c : UInt8} : isD c = true ↔ 48 ≤ c.toNat ∧ c.toNat ≤ 57 := by simp [isD]
def valF (a : Nat) (l : List UInt8) : Nat := l.foldl (fun a c => a * 10 + (c.toNat - 48)) a
def valD (l : List UInt8) : Nat := valF 0 l
theorem valF_snoc (a : Nat) (l : List UInt8) (c : UInt8) : valF a (l ++ [c]) = valF a l * 10 + (c.toNat - 48) := by simp [valF]
theorem valF_cons (a : Nat) (l : List UInt8) (c : UInt8) : valF a (c :: l) = valF (a * 10 + (c.toNat - 48)) l := by unfold valF; rw [List.foldl_cons]
theorem valF_le : ∀ (l : List UInt8) (a : Nat), a ≤ valF a l
  | [], a => Nat.le_refl _
  | c :: l, a => by
    have := valF_le l (a * 10 + (c.toNat - 48))
    rw [valF_cons]
    omega
/-- A numeral without needless zeros. -/
def canon (l : List UInt8) : Bool := decide (l ≠ []) && (l.all isD && (decide (l.length = 1) || decide (l.head? ≠ some 48)))
theorem canon_iff {l : List UInt8} : canon l = true ↔ l ≠ [] ∧ (∀ c ∈ l, isD c = true) ∧ (l.length = 1 ∨ l.head? ≠ some 48) := by
  simp [canon]
theorem u8_ofNat {n : Nat} (h : n < 256) : (UInt8.ofNat n).toNat = n := by simp [Nat.mod_eq_of_lt h]
theorem u8_back {c : UInt8} (h : 48 ≤ c.toNat) : UInt8.ofNat (48 + (c.toNat - 48)) = c := by
  rw [show 48 + (c.toNat - 48) = c.toNat by omega]
  simp
theorem canon_pos {c : UInt8} {l : List UInt8} (hd : isD c = true) (h : c ≠ 48) : 1 ≤ valD (c :: l) := by
  have := valF_le l (0 * 10 + (c.toNat - 48))
  rw [isD_iff] at hd
  have hne : c.toNat ≠ 48 := fun e => h (UInt8.toNat_inj.1 (by rw [e]; rfl))
  unfold valD
  rw [valF_cons]
  omega
theorem dec_all (n : Nat) : (decDigits n ≠ [] ∧ ∀ c ∈ decDigits n, isD c = true) ∧ valD (decDigits n) = n ∧ ((decDigits n).length = 1 ∨ (decDigits n).head? ≠ some 48) := by
  induction n using Nat.strongRecOn with
  | _ n ih =>
    by_cases h : n < 10
    · have e : decDigits n = [UInt8.ofNat (48 + n)] := by rw [decDigits, dif_pos h]
      have hc : (UInt8.ofNat (48 + n)).toNat = 48 + n := u8_ofNat (by omega)
      rw [e]
      refine ⟨⟨by simp, fun c hc' => ?_⟩, ?_, .inl rfl⟩
      · obtain rfl := List.mem_singleton.1 hc'
        rw [isD_iff, hc]
        omega
      · show 0 * 10 + ((UInt8.ofNat (48 + n)).toNat - 48) = n
        rw [hc]
        omega
    · have e : decDigits n = decDigits (n / 10) ++ [UInt8.ofNat (48 + n % 10)] := by rw [decDigits, dif_neg h]
      have hc : (UInt8.ofNat (48 + n % 10)).toNat = 48 + n % 10 := u8_ofNat (by omega)
      obtain ⟨⟨i1, i2⟩, i3, i4⟩ := ih (n / 10) (by omega)
      rw [e]
      refine ⟨⟨by simp, fun c hc' => ?_⟩, ?_, .inr ?_⟩
      · rcases List.mem_append.1 hc' with q | q
        · exact i2 c q
        · obtain rfl := List.mem_singleton.1 q
          rw [isD_iff, hc]
          omega
      · unfold valD at i3 ⊢
        rw [valF_snoc, i3, hc]
        omega
      · cases hl : decDigits (n / 10) with
        | nil => exact absurd hl i1
        | cons c r =>
          rw [hl] at i3 i4
          rcases i4 with q | q
          · obtain rfl : r = [] := by simpa using q
            intro hh
            obtain rfl : c = 48 := by simpa using hh
            have : (0 : Nat) = n / 10 := i3
            omega
          · simpa using q
theorem dec_canon (n : Nat) : canon (decDigits n) = true := canon_iff.2 ⟨(dec_all n).1.1, (dec_all n).1.2, (dec_all n).2.2⟩
theorem dec_val (n : Nat) : valD (decDigits n) = n := (dec_all n).2.1
theorem canon_dec : ∀ (k : Nat) (l : List UInt8), l.length = k → canon l = true → decDigits (valD l) = l
  | 0, l, hl, h => by
    obtain rfl := List.length_eq_zero_iff.1 hl
    simp [canon] at h
  | k + 1, l, hl, h => by
    obtain ⟨h1, h2, h3⟩ := canon_iff.1 h
    obtain ⟨l', c, rfl⟩ : ∃ l' c, l = l' ++ [c] := ⟨l.dropLast, l.getLast h1, (List.dropLast_concat_getLast h1).symm⟩
    have hc := isD_iff.1 (h2 c (by simp))
    cases hl' : l' with
    | nil =>
      subst hl'
      have e : valD [c] = c.toNat - 48 := by show 0 * 10 + (c.toNat - 48) = _; omega
      rw [List.nil_append, e, decDigits, dif_pos (by omega), u8_back hc.1]
    | cons x r =>
      have hx : x ≠ 48 := by
        subst hl'
        rcases h3 with q | q
        · simp at q
        · intro e
          subst e
          simp at q
      have hcan : canon (x :: r) = true := by
        subst hl'
        exact canon_iff.2 ⟨by simp, fun d hd => h2 d (List.mem_append_left _ hd), .inr (by simpa using hx)⟩
      have ih := canon_dec k (x :: r) (by rw [← hl']; simp at hl; exact hl) hcan
      have hp := canon_pos (l := r) (h2 x (by subst hl'; simp)) hx
      have hv : valD (x :: r ++ [c]) = valD (x :: r) * 10 + (c.toNat - 48) := valF_snoc _ _ _
      rw [hv, decDigits, dif_neg (by omega), show (valD (x :: r) * 10 + (c.toNat - 48)) / 10 = valD (x :: r) by omega, show (valD (x :: r) * 10 + (c.toNat - 48)) % 10 = c.toNat - 48 by omega, ih, u8_back hc.1]
theorem canon_back {l : List UInt8} (h : canon l = true) : decDigits (valD l) = l := canon_dec _ l rfl h
theorem canon_len {l : List UInt8} (h : canon l = true) (hv : valD l < 1000000000) : l.length ≤ 9 := by
  rw [← canon_back h, decDigits_length]
  apply Classical.byContradiction
  intro hn
  have h1 : ∀ k n, k < nDigits n → 10 ^ k ≤ n ∨ k = 0 := by
    intro k
    induction k with
    | zero => intro n _; exact .inr rfl
    | succ k ih =>
      intro n hk
      left
      by_cases hs : n < 10
      · rw [nDigits_small hs] at hk; omega
      · rw [nDigits_big hs] at hk
        rcases ih (n / 10) (by omega) with q | q
        · rw [Nat.pow_succ]; omega
        · subst q; rw [Nat.zero_add, Nat.pow_one]; omega
  rcases h1 9 (valD l) (by omega) with q | q
  · omega
  · cases q
/-- A number of at most nine digits. -/
def numR (l : List UInt8) : Int × Bool := if (canon l && decide (l.length ≤ 9)) = true then ((valD l : Int), true) else (0, false)
theorem parseM_ok : ∀ (l : List UInt8) (a : Nat), (∀ c ∈ l, isD c = true) → valF a l < 9223372036854775808 → parseUintM (2 ^ 64 - 1) a l = .ok (valF a l)
  | [], a, _, _ => rfl
  | c :: l, a, hd, hv => by
    have hc := isD_iff.1 (hd c (List.mem_cons_self ..))
    rw [valF_cons] at hv ⊢
    have := valF_le l (a * 10 + (c.toNat - 48))
    rw [parseUintM, if_pos hc, if_neg (by omega), if_neg (by omega)]
    exact parseM_ok l _ (fun d h => hd d (List.mem_cons_of_mem _ h)) hv
theorem parse_ok {l : List UInt8} (h : canon l = true) (hv : valD l < 9223372036854775808) : parseIntB 64 l = .ok (valD l : Int) := by
  obtain ⟨h1, h2, _⟩ := canon_iff.1 h
  match l, h1, h2, hv with
  | c :: r, _, h2, hv =>
    have hc := isD_iff.1 (h2 c (List.mem_cons_self ..))
    have h43 : ¬ (c.toNat = 43 ∨ c.toNat = 45) := by omega
    have h45 : ¬ c.toNat = 45 := by omega
    have hp := parseM_ok (c :: r) 0 h2 hv
    unfold parseIntB
    simp only [if_neg h43, h45, parseUintB, reduceCtorEq, if_false, hp]
    have hv' : valF 0 (c :: r) < 9223372036854775808 := hv
    have e : ¬ (2 ^ (64 - 1) ≤ valF 0 (c :: r)) := by
      show ¬ 9223372036854775808 ≤ _
      omega
    have h43a : ¬ c.toNat = 43 := by omega
    have hp2 : parseUintM 18446744073709551615 0 (c :: r) = .ok (valF 0 (c :: r)) := hp
    have e2 : ¬ 9223372036854775808 ≤ valF 0 (c :: r) := by omega
    simp [h43a, hp2, e2]
    rfl
/-- A number of a range, told in decimal. -/
def rdR (lo hi : Nat) (l : List UInt8) : Bool := canon l && (decide (lo ≤ valD l) && decide (valD l ≤ hi))
theorem rdR_iff {lo hi : Nat} {l : List UInt8} (hh : hi < 9223372036854775808) : rdR lo hi l = true ↔ ∃ v : Int, parseIntB 64 l = .ok v ∧ itoa v = l ∧ (lo : Int) ≤ v ∧ v ≤ (hi : Int) := by
  constructor
  · intro h
    simp only [rdR, Bool.and_eq_true, decide_eq_true_iff] at h
    refine ⟨(valD l : Int), parse_ok h.1 (by omega), ?_, by omega, by omega⟩
    unfold itoa
    rw [if_neg (by omega), Int.toNat_natCast]
    exact canon_back h.1
  · rintro ⟨v, h1, h2, h3, h4⟩
    have e : itoa v = decDigits v.toNat := by unfold itoa; rw [if_neg (by omega)]
    rw [e] at h2
    have hv := dec_val v.toNat
    have hc := dec_canon v.toNat
    rw [h2] at hv hc
    simp only [rdR, Bool.and_eq_true, decide_eq_true_iff]
    exact ⟨hc, by omega, by omega⟩
/-! ### Pieces -/
def preS (a : List UInt8) : List (List UInt8) → List (List UInt8)
  | [] => [a]
  | p :: ps => (a ++ p) :: ps
/-- A text split at a byte. -/
def spl (s : UInt8) : List UInt8 → List (List UInt8)
  | [] => [[]]
  | c :: l => if c = s then [] :: spl s l else preS [c] (spl s l)
theorem spl_ne (s : UInt8) : ∀ l, spl s l ≠ []
  | [] => by simp [spl]
  | c :: l => by
    rw [spl]
    split
    · simp
    · cases spl s l <;> simp [preS]
theorem preS_nil {ps : List (List UInt8)} (h : ps ≠ []) : preS [] ps = ps := by
  cases ps with
  | nil => exact absurd rfl h
  | cons p ps => rfl
theorem preS_app (a b : List UInt8) {ps : List (List UInt8)} (h : ps ≠ []) : preS a (preS b ps) = preS (a ++ b) ps := by
  cases ps with
  | nil => exact absurd rfl h
  | cons p ps => simp [preS]
/-- Texts with a byte between them. -/
def intc (s : UInt8) : List (List UInt8) → List UInt8
  | [] => []
  | [p] => p
  | p :: q :: ps => p ++ s :: intc s (q :: ps)
theorem intc_pre (s : UInt8) (a : List UInt8) : ∀ {ps : List (List UInt8)}, ps ≠ [] → intc s (preS a ps) = a ++ intc s ps
  | [], h => absurd rfl h
  | [p], _ => rfl
  | p :: q :: ps, _ => by simp [preS, intc]
theorem intc_spl (s : UInt8) : ∀ l, intc s (spl s l) = l
  | [] => rfl
  | c :: l => by
    have ih := intc_spl s l
    have hne := spl_ne s l
    rw [spl]
    split
    · rename_i h
      subst h
      cases hs : spl c l with
      | nil => exact absurd hs hne
      | cons p ps =>
        rw [hs] at ih
        show [] ++ c :: intc c (p :: ps) = _
        rw [ih]
        rfl
    · rw [intc_pre s [c] hne, ih]
      rfl
theorem spl_mem (s : UInt8) : ∀ (l : List UInt8), ∀ p ∈ spl s l, s ∉ p
  | [], p, hp => by
    obtain rfl : p = [] := by simpa [spl] using hp
    simp
  | c :: l, p, hp => by
    rw [spl] at hp
    split at hp
    · rcases List.mem_cons.1 hp with rfl | hp
      · simp
      · exact spl_mem s l p hp
    · rename_i h
      cases hs : spl s l with
      | nil => exact absurd hs (spl_ne s l)
      | cons q ps =>
        rw [hs] at hp
        rcases List.mem_cons.1 hp with rfl | hp
        · have := spl_mem s l q (by rw [hs]; exact List.mem_cons_self ..)
          intro hm
          rcases List.mem_cons.1 hm with e | e
          · exact h e.symm
          · exact this e
        · exact spl_mem s l p (by rw [hs]; exact List.mem_cons_of_mem _ hp)
theorem spl_app {s : UInt8} : ∀ {a : List UInt8} (b : List UInt8), s ∉ a → spl s (a ++ s :: b) = a :: spl s b
  | [], b, _ => by rw [List.nil_append, spl, if_pos rfl]
  | c :: a, b, h => by
    have h1 : c ≠ s := fun e => h (by rw [e]; exact List.mem_cons_self ..)
    rw [List.cons_append, spl, if_neg h1, spl_app b (fun q => h (List.mem_cons_of_mem _ q))]
    rfl
theorem spl_one {s : UInt8} : ∀ {a : List UInt8}, s ∉ a → spl s a = [a]
  | [], _ => rfl
  | c :: a, h => by
    have h1 : c ≠ s := fun e => h (by rw [e]; exact List.mem_cons_self ..)
    rw [spl, if_neg h1, spl_one (fun q => h (List.mem_cons_of_mem _ q))]
    rfl
theorem spl_of {s : UInt8} : ∀ {ps : List (List UInt8)}, ps ≠ [] → (∀ p ∈ ps, s ∉ p) → spl s (intc s ps) = ps
  | [], h, _ => absurd rfl h
  | [p], _, h => spl_one (h p (List.mem_cons_self ..))
  | p :: q :: ps, _, h => by
    show spl s (p ++ s :: intc s (q :: ps)) = _
    rw [spl_app _ (h p (List.mem_cons_self ..)), spl_of (by simp) fun r hr => h r (List.mem_cons_of_mem _ hr)]
/-! ### Bottles -/
/-- The text of a bottle. -/
def botT (b : Bt) : List UInt8 := decDigits b.k.toNat ++ 58 :: decDigits b.y.toNat
theorem notD {c : UInt8} {l : List UInt8} (h : ∀ d ∈ l, isD d = true) (hc : isD c = false) : c ∉ l := fun hm => by
  rw [h c hm] at hc
  cases hc
theorem dec_not (n : Nat) {c : UInt8} (hc : isD c = false) : c ∉ decDigits n := notD (dec_all n).1.2 hc
/-- A bottle's text, read. -/
def rdB (l : List UInt8) : Option Bt :=
  match spl 58 l with
  | [a, b] => if h : (rdR 1 20 a && rdR 1900 2099 b) = true then some ⟨(valD a : Int), (valD b : Int), by simp [rdR] at h; omega, by simp [rdR] at h; omega⟩ else none
  | _ => none
theorem rdB_some {l : List UInt8} {b : Bt} : rdB l = some b ↔ b.ok = true ∧ l = botT b := by
  constructor
  · intro h
    unfold rdB at h
    split at h
    · rename_i a c hs
      split at h
      · rename_i hr
        obtain rfl := (Option.some.inj h).symm
        simp only [rdR, Bool.and_eq_true, decide_eq_true_iff] at hr
        refine ⟨by simp only [Bt.ok, decide_eq_true_iff]; omega, ?_⟩
        have := intc_spl 58 l
        rw [hs] at this
        show l = decDigits ((valD a : Int)).toNat ++ 58 :: decDigits ((valD c : Int)).toNat
        rw [Int.toNat_natCast, Int.toNat_natCast, canon_back hr.1.1, canon_back hr.2.1, ← this]
        rfl
      · cases h
    · cases h
  · rintro ⟨hb, rfl⟩
    simp only [Bt.ok, decide_eq_true_iff] at hb
    have hs : spl 58 (botT b) = [decDigits b.k.toNat, decDigits b.y.toNat] := by
      unfold botT
      rw [spl_app _ (dec_not _ (by decide)), spl_one (dec_not _ (by decide))]
    unfold rdB
    rw [hs]
    have h1 : rdR 1 20 (decDigits b.k.toNat) = true := by
      simp only [rdR, Bool.and_eq_true, decide_eq_true_iff, dec_val]
      exact ⟨dec_canon _, by omega, by omega⟩
    have h2 : rdR 1900 2099 (decDigits b.y.toNat) = true := by
      simp only [rdR, Bool.and_eq_true, decide_eq_true_iff, dec_val]
      exact ⟨dec_canon _, by omega, by omega⟩
    simp only [h1, h2, Bool.and_self, dif_pos]
    congr 1
    apply Bt.ext2
    · show ((valD (decDigits b.k.toNat) : Nat) : Int) = b.k
      rw [dec_val]
      omega
    · show ((valD (decDigits b.y.toNat) : Nat) : Int) = b.y
      rw [dec_val]
      omega
theorem botT_inj {a b : Bt} (ha : a.ok = true) (hb : b.ok = true) (h : botT a = botT b) : a = b := by
  have h1 := rdB_some.2 ⟨ha, rfl⟩
  have h2 := rdB_some.2 ⟨hb, h⟩
  rw [h1] at h2
  exact Option.some.inj h2
end Go.Proofs.YtbngpcghognojaaGreatDoor
namespace Go.Proofs.YtbngpcghognojaaGreatDoor
open Go Go.Lib
set_option linter.unusedVariables false
set_option linter.unusedSimpArgs false
set_option maxRecDepth 100000
/-! ### What is written -/
def wordT (b : Bt) : List UInt8 := if b.em = true then [45] else botT b
def endT (i : Nat) : UInt8 := if i % 4 = 3 then 10 else 32
/-- The first places of a crate. -/
def crK (c : Cr) (k : Nat) : List UInt8 := (List.range k).flatMap fun i => wordT (rB c.toList i) ++ [endT i]
def crT (c : Cr) : List UInt8 := crK c 12
theorem crK_succ (c : Cr) (k : Nat) : crK c (k + 1) = crK c k ++ (wordT (rB c.toList k) ++ [endT k]) := by
  unfold crK
  rw [List.range_succ, List.flatMap_append]
  simp
def isW (c : UInt8) : Bool := isD c || (c == 58 || c == 45)
theorem botT_w (b : Bt) : ∀ c ∈ botT b, isW c = true := by
  intro c hc
  unfold botT at hc
  rcases List.mem_append.1 hc with q | q
  · simp [isW, (dec_all _).1.2 c q]
  · rcases List.mem_cons.1 q with rfl | q
    · rfl
    · simp [isW, (dec_all _).1.2 c q]
theorem wordT_w (b : Bt) : ∀ c ∈ wordT b, isW c = true := by
  intro c hc
  unfold wordT at hc
  split at hc
  · obtain rfl := List.mem_singleton.1 hc
    rfl
  · exact botT_w b c hc
theorem botT_ne (b : Bt) : botT b ≠ [] := by simp [botT]
theorem wordT_ne (b : Bt) : wordT b ≠ [] := by
  unfold wordT
  split
  · simp
  · exact botT_ne b
theorem botT_dash (b : Bt) : botT b ≠ [45] := fun h => by
  have : (58 : UInt8) ∈ botT b := by simp [botT]
  rw [h] at this
  simp at this
theorem isW_not {c : UInt8} (l : List UInt8) (h : ∀ d ∈ l, isW d = true) (hc : isW c = false) : c ∉ l := fun hm => by
  rw [h c hm] at hc
  cases hc
/-! ### A word, read -/
def rdWord (w : List UInt8) : Option Bt := if w = [45] then some zB else rdB w
theorem rdWord_some {w : List UInt8} {b : Bt} : rdWord w = some b ↔ b.fine = true ∧ w = wordT b := by
  unfold rdWord wordT
  constructor
  · intro h
    split at h
    · rename_i hw
      obtain rfl := (Option.some.inj h).symm
      exact ⟨by decide, by rw [if_pos (by decide)]; exact hw⟩
    · obtain ⟨h1, h2⟩ := rdB_some.1 h
      have hem : ¬ b.em = true := fun e => by
        rw [Bt.em_iff] at e
        subst e
        simp [Bt.ok, zB] at h1
      exact ⟨by simp [Bt.fine, h1], by rw [if_neg hem]; exact h2⟩
  · rintro ⟨h1, h2⟩
    by_cases he : b.em = true
    · rw [if_pos he] at h2
      rw [if_pos h2]
      rw [Bt.em_iff] at he
      rw [he]
    · rw [if_neg he] at h2
      rw [if_neg (by rw [h2]; exact botT_dash b), rdB_some]
      refine ⟨?_, h2⟩
      unfold Bt.fine at h1
      rw [Bool.or_eq_true] at h1
      exact h1.resolve_left he
/-! ### A crate, read line by line -/
def crOf (f : Nat → Bt) : Cr := ⟨((List.range 12).map f).toArray, by simp⟩
theorem crOf_at (f : Nat → Bt) {i : Nat} (h : i < 12) : rB (crOf f).toList i = f i := by
  have hl : i < (crOf f).toList.length := by rw [Vector.length_toList]; exact h
  rw [rB_lt hl]
  simp [crOf]
theorem cr_ext {a b : Cr} (h : ∀ i, i < 12 → rB a.toList i = rB b.toList i) : a = b := by
  apply Vector.toArray_inj.1
  apply Array.toList_inj.1
  apply List.ext_getElem (by simp)
  intro i hi hi'
  have := h i (by simpa using hi)
  rw [rB_lt (by simpa using hi), rB_lt (by simpa using hi')] at this
  exact this
theorem ok_at {c : Cr} : c.ok = true ↔ ∀ i, i < 12 → (rB c.toList i).fine = true := by
  unfold Cr.ok
  rw [List.all_eq_true]
  constructor
  · intro h i hi
    have hl : i < c.toList.length := by rw [Vector.length_toList]; exact hi
    rw [rB_lt hl]
    exact h _ (List.getElem_mem hl)
  · intro h b hb
    obtain ⟨i, hi, rfl⟩ := List.getElem_of_mem hb
    have := h i (by rw [Vector.length_toList] at hi; exact hi)
    rwa [rB_lt hi] at this
/-- Word number i of the lines. -/
def wdAt (l : List UInt8) (i : Nat) : List UInt8 := (spl 32 ((spl 10 l).getD (i / 4) [])).getD (i % 4) []
def lnOk (l : List UInt8) (y : Nat) : Bool := decide ((spl 32 ((spl 10 l).getD y [])).length = 4)
def wdOk (l : List UInt8) (i : Nat) : Bool := (rdWord (wdAt l i)).isSome
def wdB (l : List UInt8) (i : Nat) : Bt := (rdWord (wdAt l i)).getD zB
/-- All that has to be as it should. -/
def crGood (l : List UInt8) : Bool := decide ((spl 10 l).length = 4) && (decide ((spl 10 l).getD 3 [] = []) && ((List.range 3).all (lnOk l) && (List.range 12).all (wdOk l)))
def rdC (l : List UInt8) : Option Cr := if crGood l = true then some (crOf (wdB l)) else none
/-- The lines of a crate. -/
def lnT (c : Cr) (y : Nat) : List (List UInt8) := (List.range 4).map fun x => wordT (rB c.toList (4 * y + x))
theorem crT_lines (c : Cr) : crT c = intc 10 [intc 32 (lnT c 0), intc 32 (lnT c 1), intc 32 (lnT c 2), []] := by
  simp [crT, crK, lnT, List.range, List.range.loop, intc, endT]
theorem lnT_ne (c : Cr) (y : Nat) : lnT c y ≠ [] := by simp [lnT]
theorem lnT_w (c : Cr) (y : Nat) : ∀ p ∈ lnT c y, ∀ d ∈ p, isW d = true := by
  intro p hp
  unfold lnT at hp
  obtain ⟨x, _, rfl⟩ := List.mem_map.1 hp
  exact wordT_w _
theorem intc_mem {s : UInt8} : ∀ {ps : List (List UInt8)} {c : UInt8}, c ∈ intc s ps → c = s ∨ ∃ p ∈ ps, c ∈ p
  | [], c, h => by simp [intc] at h
  | [p], c, h => .inr ⟨p, by simp, h⟩
  | p :: q :: ps, c, h => by
    have h' : c ∈ p ++ s :: intc s (q :: ps) := h
    rcases List.mem_append.1 h' with h | h
    · exact .inr ⟨p, by simp, h⟩
    · rcases List.mem_cons.1 h with h | h
      · exact .inl h
      · rcases intc_mem h with h | ⟨r, hr, h⟩
        · exact .inl h
        · exact .inr ⟨r, List.mem_cons_of_mem _ hr, h⟩
theorem spl_crT (c : Cr) : spl 10 (crT c) = [intc 32 (lnT c 0), intc 32 (lnT c 1), intc 32 (lnT c 2), []] := by
  rw [crT_lines]
  refine spl_of (by simp) fun p hp => ?_
  have key : ∀ y, (10 : UInt8) ∉ intc 32 (lnT c y) := fun y hm => by
    rcases intc_mem hm with h | ⟨q, hq, h⟩
    · cases h
    · exact isW_not q (lnT_w c y q hq) (by decide) h
  simp only [List.mem_cons, List.not_mem_nil, or_false] at hp
  rcases hp with rfl | rfl | rfl | rfl
  · exact key 0
  · exact key 1
  · exact key 2
  · simp
theorem spl_lnT (c : Cr) (y : Nat) : spl 32 (intc 32 (lnT c y)) = lnT c y := spl_of (lnT_ne c y) fun p hp => isW_not p (lnT_w c y p hp) (by decide)
theorem lines_at (c : Cr) {y : Nat} (h : y < 3) : (spl 10 (crT c)).getD y [] = intc 32 (lnT c y) := by
  rw [spl_crT]
  match y, h with
  | 0, _ => rfl
  | 1, _ => rfl
  | 2, _ => rfl
theorem wdAt_crT (c : Cr) {i : Nat} (h : i < 12) : wdAt (crT c) i = wordT (rB c.toList i) := by
  unfold wdAt
  rw [lines_at c (show i / 4 < 3 by omega), spl_lnT]
  unfold lnT
  rw [List.getD_eq_getElem?_getD, List.getElem?_map, List.getElem?_range (by omega)]
  show wordT (rB c.toList (4 * (i / 4) + i % 4)) = _
  rw [show 4 * (i / 4) + i % 4 = i by omega]
theorem rdC_some {l : List UInt8} {c : Cr} : rdC l = some c ↔ c.ok = true ∧ l = crT c := by
  unfold rdC
  constructor
  · intro h
    split at h
    · rename_i hg
      obtain rfl := (Option.some.inj h).symm
      simp only [crGood, Bool.and_eq_true, decide_eq_true_iff, List.all_eq_true, List.mem_range] at hg
      obtain ⟨h1, h2, h3, h4⟩ := hg
      have hw : ∀ i, i < 12 → (wdB l i).fine = true ∧ wdAt l i = wordT (wdB l i) := fun i hi => by
        obtain ⟨b, hb⟩ := Option.isSome_iff_exists.1 (h4 i hi)
        have : wdB l i = b := by unfold wdB; rw [hb]; rfl
        rw [this]
        exact rdWord_some.1 hb
      refine ⟨ok_at.2 fun i hi => by rw [crOf_at _ hi]; exact (hw i hi).1, ?_⟩
      have hln : ∀ y, y < 3 → (spl 10 l).getD y [] = intc 32 (lnT (crOf (wdB l)) y) := fun y hy => by
        have e1 := intc_spl 32 ((spl 10 l).getD y [])
        rw [← e1]
        congr 1
        have hl := h3 y hy
        unfold lnOk at hl
        rw [decide_eq_true_iff] at hl
        apply List.ext_getElem
        · rw [hl]; simp [lnT]
        · intro x hx hx'
          have hx4 : x < 4 := by rw [hl] at hx; exact hx
          have := (hw (4 * y + x) (by omega)).2
          unfold wdAt at this
          rw [show (4 * y + x) / 4 = y by omega, show (4 * y + x) % 4 = x by omega, List.getD_eq_getElem?_getD, List.getElem?_eq_getElem hx] at this
          simp only [Option.getD_some] at this
          rw [this]
          simp only [lnT, List.getElem_map, List.getElem_range]
          rw [crOf_at _ (by omega)]
      have e0 := intc_spl 10 l
      have hL : spl 10 l = [intc 32 (lnT (crOf (wdB l)) 0), intc 32 (lnT (crOf (wdB l)) 1), intc 32 (lnT (crOf (wdB l)) 2), []] := by
        have q0 := hln 0 (by decide)
        have q1 := hln 1 (by decide)
        have q2 := hln 2 (by decide)
        match hs : spl 10 l, h1 with
        | [a, b, c, d], _ =>
          rw [hs] at q0 q1 q2 h2
          simp only [List.getD_cons_zero, List.getD_cons_succ] at q0 q1 q2 h2
          rw [q0, q1, q2, h2]
      rw [crT_lines, ← hL, e0]
    · cases h
  · rintro ⟨h, rfl⟩
    have hw : ∀ i, i < 12 → rdWord (wdAt (crT c) i) = some (rB c.toList i) := fun i hi => rdWord_some.2 ⟨ok_at.1 h i hi, wdAt_crT c hi⟩
    have hg : crGood (crT c) = true := by
      simp only [crGood, Bool.and_eq_true, decide_eq_true_iff, List.all_eq_true, List.mem_range]
      refine ⟨by rw [spl_crT]; rfl, by rw [spl_crT]; rfl, fun y hy => ?_, fun i hi => ?_⟩
      · unfold lnOk
        rw [decide_eq_true_iff, lines_at c hy, spl_lnT]
        simp [lnT]
      · unfold wdOk
        rw [hw i hi]
        rfl
    rw [if_pos hg]
    congr 1
    refine cr_ext fun i hi => ?_
    rw [crOf_at _ hi]
    unfold wdB
    rw [hw i hi]
    rfl
/-! ### An order, written -/
def wantT (x : Wt) : List UInt8 := botT x.b ++ 120 :: decDigits x.n.toNat
def ordT (l : List Wt) : List UInt8 := intc 32 (l.map wantT)
end Go.Proofs.YtbngpcghognojaaGreatDoor
namespace Go.Proofs.YtbngpcghognojaaGreatDoor
open Go Go.Lib
set_option linter.unusedVariables false
set_option linter.unusedSimpArgs false
theorem index_app {s : UInt8} : ∀ {a : List UInt8} (b : List UInt8), s ∉ a → index (a ++ s :: b) [s] = (a.length : Int)
  | [], b, _ => by simp [index]
  | c :: a, b, h => by
    have h1 : c ≠ s := fun e => h (by rw [e]; exact List.mem_cons_self ..)
    have ih := index_app (s := s) (a := a) b (fun q => h (List.mem_cons_of_mem _ q))
    have h2 : (s == c) = false := by simpa using Ne.symm h1
    have hp : [s].isPrefixOf (c :: (a ++ s :: b)) = false := by simp [List.isPrefixOf, h2]
    rw [List.cons_append, index, hp, ih]
    have h3 : ((a.length : Int) == -1) = false := by simp
    rw [h3]
    simp
theorem index_not {s : UInt8} : ∀ {a : List UInt8}, s ∉ a → index a [s] = -1
  | [], _ => rfl
  | c :: a, h => by
    have h1 : c ≠ s := fun e => h (by rw [e]; exact List.mem_cons_self ..)
    have ih := index_not (s := s) (a := a) (fun q => h (List.mem_cons_of_mem _ q))
    have h2 : (s == c) = false := by simpa using Ne.symm h1
    have hp : [s].isPrefixOf (c :: a) = false := by simp [List.isPrefixOf, h2]
    rw [index, hp, ih]
    rfl
theorem cut_app {s : UInt8} {a b : List UInt8} (h : s ∉ a) : cut (a ++ s :: b) [s] = (a, b, true) := by
  unfold cut
  rw [index_app b h, if_pos (by omega), Int.toNat_natCast]
  have e1 : (a ++ s :: b).take a.length = a := List.take_left
  have e2 : (a ++ s :: b).drop (a.length + [s].length) = b := by
    rw [List.drop_append, List.drop_eq_nil_of_le (by simp)]
    simp
  rw [e1, e2]
theorem cut_not {s : UInt8} {a : List UInt8} (h : s ∉ a) : cut a [s] = (a, [], false) := by
  unfold cut
  rw [index_not h, if_neg (by omega)]
theorem spl_two {s : UInt8} {a b : List UInt8} (h : s ∉ a) (h' : s ∉ b) : spl s (a ++ s :: b) = [a, b] := by rw [spl_app b h, spl_one h']
theorem rdR_not {lo hi : Nat} {l : List UInt8} {c : UInt8} (h : rdR lo hi l = true) (hc : isD c = false) : c ∉ l := by
  simp only [rdR, Bool.and_eq_true] at h
  exact notD (canon_iff.1 h.1).2.1 hc
/-- What the cut says of the bottle. -/
theorem rdB_cut {l : List UInt8} : (∃ b, rdB l = some b ∧ (cut l [58]).2.2 = true ∧ rdR 1 20 (cut l [58]).1 = true ∧ rdR 1900 2099 (cut l [58]).2.1 = true ∧ b.k = (valD (cut l [58]).1 : Int) ∧ b.y = (valD (cut l [58]).2.1 : Int)) ∨
    (rdB l = none ∧ ((cut l [58]).2.2 && (rdR 1 20 (cut l [58]).1 && rdR 1900 2099 (cut l [58]).2.1)) = false) := by
  by_cases h : (58 : UInt8) ∈ l
  · obtain ⟨a, b, rfl, ha⟩ := List.eq_append_cons_of_mem h
    rw [cut_app ha]
    cases hr : rdR 1 20 a && rdR 1900 2099 b with
    | true =>
      left
      have hr2 := hr
      rw [Bool.and_eq_true] at hr2
      have hb : (58 : UInt8) ∉ b := rdR_not hr2.2 (by decide)
      have hk : 0 ≤ (valD a : Int) ∧ (valD a : Int) ≤ 255 := by
        have := hr2.1
        simp only [rdR, Bool.and_eq_true, decide_eq_true_iff] at this
        omega
      have hy : -32768 ≤ (valD b : Int) ∧ (valD b : Int) ≤ 32767 := by
        have := hr2.2
        simp only [rdR, Bool.and_eq_true, decide_eq_true_iff] at this
        omega
      refine ⟨⟨(valD a : Int), (valD b : Int), hk, hy⟩, ?_, rfl, hr2.1, hr2.2, rfl, rfl⟩
      unfold rdB
      rw [spl_two ha hb]
      simp only [hr, dif_pos]
    | false =>
      right
      refine ⟨?_, rfl⟩
      by_cases hb : (58 : UInt8) ∈ b
      · obtain ⟨b1, b2, rfl, hb1⟩ := List.eq_append_cons_of_mem hb
        unfold rdB
        rw [spl_app _ ha, spl_app _ hb1]
        cases hs : spl 58 b2 with
        | nil => exact absurd hs (spl_ne _ _)
        | cons p ps => rfl
      · unfold rdB
        rw [spl_two ha hb]
        simp [hr]
  · right
    have hs : spl 58 l = [l] := spl_one h
    refine ⟨by unfold rdB; rw [hs], by rw [cut_not h]; rfl⟩
end Go.Proofs.YtbngpcghognojaaGreatDoor
