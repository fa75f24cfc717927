/- Texts of the claim, joined (15 of 22): OP, AppA, Ro, CrT. -/
import Derived.Maps.AppendAt
import Derived.Shelf.Strings.Split
import Derived.Shelf.Strings.Builder1
import Derived.Test.YtbngpcghognojaaGreatDoorBO3
import Derived.Test.YtbngpcghognojaaGreatDoorBO4
import Derived.Test.YtbngpcghognojaaGreatDoorBO5
import Derived.Test.YtbngpcghognojaaGreatDoorBO6
import Derived.Test.YtbngpcghognojaaGreatDoorBO13
import Derived.Test.YtbngpcghognojaaGreatDoorBO14
namespace Go.Proofs.YtbngpcghognojaaGreatDoor
open Go Go.RowKit
set_option linter.unusedVariables false
set_option linter.unusedSimpArgs false
set_option maxRecDepth 100000
set_option maxHeartbeats 1000000
set_option linter.unusedSectionVars false
/-! ### An order, written and read -/
theorem botT_not (b : Bt) {c : UInt8} (hc : isW c = false) : c ∉ botT b := isW_not _ (botT_w b) hc
theorem spl_wantT (x : Wt) : spl 120 (wantT x) = [botT x.b, Go.Lib.decDigits x.n.toNat] := spl_two (botT_not _ (by decide)) (dec_not _ (by decide))
theorem rdW_wantT {x : Wt} (h : x.ok = true) : rdW (wantT x) = some x := by
  obtain ⟨h1, h2, h3⟩ := Wt.ok_n h
  refine rdW_yes (spl_wantT x) (rdB_some.2 ⟨h3, rfl⟩) ?_ rfl ?_
  · simp only [rdR, Bool.and_eq_true, decide_eq_true_iff, dec_val]
    exact ⟨dec_canon _, by omega, by omega⟩
  · rw [dec_val]
    omega
theorem wantT_not (x : Wt) : (32 : UInt8) ∉ wantT x := by
  unfold wantT
  intro h
  rcases List.mem_append.1 h with q | q
  · exact botT_not _ (by decide) q
  · rcases List.mem_cons.1 q with q | q
    · exact absurd q (by decide)
    · exact dec_not _ (by decide) q
theorem spl_ordT {l : List Wt} (h : l ≠ []) : spl 32 (ordT l) = l.map wantT := spl_of (by simpa using h) fun p hp => by
  obtain ⟨x, _, rfl⟩ := List.mem_map.1 hp
  exact wantT_not x
theorem ordT_ne {l : List Wt} (h : l ≠ []) : ordT l ≠ [] := by
  match l, h with
  | x :: l, _ =>
    have hw : wantT x ≠ [] := by simp [wantT]
    cases l with
    | nil => exact hw
    | cons y l =>
      show wantT x ++ _ ≠ []
      simp
theorem roR_ordT {l : List Wt} (h : ordOk l = true) : roR (ordT l) = (l, 0) := by
  by_cases hl : l = []
  · subst hl
    rfl
  · have hw : ∀ x ∈ l, rdW (wantT x) = some x := fun x hx => rdW_wantT (ordOk_all h x hx)
    have e : wantsOf (spl 32 (ordT l)) = l := by
      rw [spl_ordT hl]
      unfold wantsOf
      rw [List.map_map]
      conv => rhs; rw [← List.map_id l]
      refine List.map_congr_left fun x hx => ?_
      simp [hw x hx]
    rw [roR_ok (ordT_ne hl) (fun w hm => ?_) (by rw [e]; exact h), e]
    rw [spl_ordT hl] at hm
    obtain ⟨x, hx, rfl⟩ := List.mem_map.1 hm
    rw [hw x hx]
    rfl
/-! ### How many of a bottle are wanted -/
def numW (l : List Wt) (t : Bt) : Int := (l.map fun x => if x.b = t then x.n else 0).sum
theorem numW_cons (x : Wt) (l : List Wt) (t : Bt) : numW (x :: l) t = (if x.b = t then x.n else 0) + numW l t := by simp [numW]
theorem numW_app (a b : List Wt) (t : Bt) : numW (a ++ b) t = numW a t + numW b t := by simp [numW]
theorem numW_none {l : List Wt} {t : Bt} (h : ∀ x ∈ l, x.b ≠ t) : numW l t = 0 := by
  induction l with
  | nil => rfl
  | cons x l ih =>
    rw [numW_cons, if_neg (h x (List.mem_cons_self ..)), ih fun y hy => h y (List.mem_cons_of_mem _ hy)]
    rfl
theorem numW_at {l : List Wt} (h : Str l) {x : Wt} (hx : x ∈ l) : numW l x.b = x.n := by
  induction l with
  | nil => cases hx
  | cons y l ih =>
    have hp := List.pairwise_cons.1 h
    rw [numW_cons]
    rcases List.mem_cons.1 hx with rfl | hx
    · rw [if_pos rfl, numW_none fun z hz => (cmp_ne (hp.1 z hz)).symm, Int.add_zero]
    · rw [if_neg (cmp_ne (hp.1 x hx)), ih hp.2 hx, Int.zero_add]
theorem numW_pos {l : List Wt} (h : ∀ x ∈ l, 1 ≤ x.n) (t : Bt) : 0 ≤ numW l t := by
  induction l with
  | nil => exact Int.le_refl _
  | cons y l ih =>
    have h1 := ih fun x hx => h x (List.mem_cons_of_mem _ hx)
    have h2 := h y (List.mem_cons_self ..)
    rw [numW_cons]
    split <;> omega
theorem numW_ge {l : List Wt} (h : ∀ x ∈ l, 1 ≤ x.n) {x : Wt} (hx : x ∈ l) : x.n ≤ numW l x.b := by
  induction l with
  | nil => cases hx
  | cons y l ih =>
    have h1 := numW_pos (fun x hx => h x (List.mem_cons_of_mem _ hx)) x.b
    have h2 := h y (List.mem_cons_self ..)
    rw [numW_cons]
    rcases List.mem_cons.1 hx with rfl | hx
    · rw [if_pos rfl]
      omega
    · have := ih (fun x hx => h x (List.mem_cons_of_mem _ hx)) hx
      split <;> omega
theorem num_ext : ∀ {a b : List Wt}, Str a → Str b → (∀ x ∈ a, 1 ≤ x.n) → (∀ x ∈ b, 1 ≤ x.n) → (∀ t, numW a t = numW b t) → a = b
  | [], [], _, _, _, _, _ => rfl
  | [], y :: b, _, hb, _, pb, h => by
    have h1 := numW_ge pb (List.mem_cons_self ..)
    have h2 := pb y (List.mem_cons_self ..)
    rw [← h] at h1
    exact absurd (show y.n ≤ 0 from h1) (by omega)
  | x :: a, [], ha, _, pa, _, h => by
    have h1 := numW_ge pa (List.mem_cons_self ..)
    have h2 := pa x (List.mem_cons_self ..)
    rw [h] at h1
    exact absurd (show x.n ≤ 0 from h1) (by omega)
  | x :: a, y :: b, ha, hb, pa, pb, h => by
    have qa := List.pairwise_cons.1 ha
    have qb := List.pairwise_cons.1 hb
    have h1 := numW_at ha (List.mem_cons_self ..)
    have h2 := numW_at hb (List.mem_cons_self ..)
    have n1 := pa x (List.mem_cons_self ..)
    have n2 := pb y (List.mem_cons_self ..)
    have e : x.b = y.b := by
      rcases Classical.em (x.b.cmp y.b < 0) with q | q
      · have : numW (y :: b) x.b = 0 := numW_none fun z hz => by
          rcases List.mem_cons.1 hz with rfl | hz
          · exact (cmp_ne q).symm
          · exact (cmp_ne (cmp_trans q (qb.1 z hz))).symm
        rw [h, this] at h1
        omega
      · rcases Classical.em (0 < x.b.cmp y.b) with q2 | q2
        · rw [cmp_pos] at q2
          have : numW (x :: a) y.b = 0 := numW_none fun z hz => by
            rcases List.mem_cons.1 hz with rfl | hz
            · exact (cmp_ne q2).symm
            · exact (cmp_ne (cmp_trans q2 (qa.1 z hz))).symm
          rw [← h, this] at h2
          omega
        · exact cmp_tri q q2
    have en : x.n = y.n := by rw [← h1, ← h2, h, e]
    have exy : x = y := Wt.eq_iff.2 ⟨e, en⟩
    subst exy
    rw [num_ext qa.2 qb.2 (fun z hz => pa z (List.mem_cons_of_mem _ hz)) (fun z hz => pb z (List.mem_cons_of_mem _ hz)) fun t => by
      have := h t
      rw [numW_cons, numW_cons] at this
      omega]
theorem wrap16_small {n : Int} (h : -32768 ≤ n ∧ n ≤ 32767) : IntKind.i16.wrap n = n := by
  simp [IntKind.wrap, IntKind.bits, IntKind.signed]
  omega
theorem join_num (t : Bt) : ∀ a b : List Wt, (∀ x ∈ a, 0 ≤ x.n ∧ x.n ≤ 16000) → (∀ x ∈ b, 0 ≤ x.n ∧ x.n ≤ 16000) → numW (joinW a b) t = numW a t + numW b t ∧ sumW (joinW a b) = sumW a + sumW b
  | [], b, _, _ => by rw [joinW]; simp [numW, sumW]
  | x :: a, [], _, _ => by rw [joinW]; simp [numW, sumW]
  | x :: a, y :: b, ha, hb => by
    have n1 := ha x (List.mem_cons_self ..)
    have n2 := hb y (List.mem_cons_self ..)
    have sc : ∀ (z : Wt) (l : List Wt), sumW (z :: l) = z.n + sumW l := fun z l => by simp [sumW]
    rw [joinW]
    split
    · obtain ⟨i1, i2⟩ := join_num t a (y :: b) (fun z hz => ha z (List.mem_cons_of_mem _ hz)) hb
      rw [numW_cons, numW_cons, i1, sc, sc, i2]
      omega
    · split
      · obtain ⟨i1, i2⟩ := join_num t (x :: a) b ha (fun z hz => hb z (List.mem_cons_of_mem _ hz))
        rw [numW_cons, i1, numW_cons y, sc, i2, sc y]
        omega
      · rename_i q1 q2
        obtain ⟨i1, i2⟩ := join_num t a b (fun z hz => ha z (List.mem_cons_of_mem _ hz)) (fun z hz => hb z (List.mem_cons_of_mem _ hz))
        have e := cmp_tri q1 q2
        have en : (addW x y).n = x.n + y.n := wrap16_small (by omega)
        have eb : (addW x y).b = x.b := rfl
        rw [numW_cons, numW_cons, numW_cons, i1, sc, sc, sc, i2, en, eb, ← e]
        refine ⟨?_, by omega⟩
        split <;> omega
termination_by a b => a.length + b.length
theorem ok_range {l : List Wt} (h : ordOk l = true) : ∀ x ∈ l, 0 ≤ x.n ∧ x.n ≤ 16000 := fun x hx => by
  have := Wt.ok_n (ordOk_all h x hx)
  omega
/-- What is joined. -/
theorem joinR_is {a b : List Wt} (ha : ordOk a = true) (hb : ordOk b = true) : (ordOk (joinW a b) = true ∧ joinR a b = (joinW a b, 0) ∧ sumW (joinW a b) = sumW a + sumW b) ∨ joinR a b = ([], 3) := by
  unfold joinR
  rw [ha, hb, Bool.and_self, if_pos rfl]
  cases h : ordOk (joinW a b) with
  | true => exact .inl ⟨rfl, rfl, (join_num zB a b (ok_range ha) (ok_range hb)).2⟩
  | false => exact .inr rfl
/-! ### Split -/
/-- The bottles of a part are wanted. -/
structure Pt (l p : List Wt) : Prop where
  str : Str p
  pos : ∀ x ∈ p, 1 ≤ x.n
  sub : ∀ x ∈ p, ∃ y ∈ l, y.b = x.b
theorem Pt.nil (l : List Wt) : Pt l [] := ⟨List.Pairwise.nil, (fun x hx => nomatch hx), (fun x hx => nomatch hx)⟩
theorem str_ok {l : List Wt} (h : Str l) (hk : ∀ x ∈ l, x.ok = true) (h8 : l.length ≤ 8) : ordOk l = true := by
  simp only [ordOk, Bool.and_eq_true, decide_eq_true_iff]
  refine ⟨fun j hj => ⟨by rw [getB hj]; exact hk _ (List.getElem_mem hj), fun h0 => ?_⟩, h8⟩
  rw [getB hj, getB (show j - 1 < l.length by omega)]
  exact List.pairwise_iff_getElem.1 h (j - 1) j (by omega) hj (by omega)
theorem Pt.ok {l p : List Wt} (hl : ordOk l = true) (h : Pt l p) (hn : ∀ t, numW p t ≤ numW l t) : ordOk p = true := by
  have hls := ordOk_str hl
  refine str_ok h.str (fun x hx => ?_) ?_
  · obtain ⟨y, hy, e⟩ := h.sub x hx
    have h1 := numW_ge h.pos hx
    have h2 := hn x.b
    have h3 := numW_at hls hy
    have h4 := Wt.ok_n (ordOk_all hl y hy)
    have h5 := h.pos x hx
    rw [e] at h3 h4
    simp only [Wt.ok, Bool.and_eq_true, decide_eq_true_iff]
    exact ⟨h4.2.2, by omega, by omega⟩
  · have h1 : (p.map Wt.b).Nodup := List.pairwise_map.2 (h.str.imp fun q => cmp_ne q)
    have h2 := sum_sub (fun _ : Bt => 1) (p.map Wt.b) (l.map Wt.b) h1 fun x hx => by
      obtain ⟨z, hz, rfl⟩ := List.mem_map.1 hx
      obtain ⟨y, hy, e⟩ := h.sub z hz
      exact List.mem_map.2 ⟨y, hy, e⟩
    have h3 := ordOk_len hl
    have h4 : ∀ q : List Bt, (q.map fun _ => 1).sum = q.length := fun q => by
      induction q with
      | nil => rfl
      | cons x q ih => rw [List.map_cons, List.sum_cons, ih, List.length_cons]; omega
    rw [h4, h4, List.length_map, List.length_map] at h2
    omega
/-- Where the splitting stands. -/
structure SpV (l : List Wt) (most : Int) (P : Bt → Int) (t : List (List Wt) × List Wt × Int) : Prop where
  out : ∀ p ∈ t.1, Pt l p ∧ sumW p = most
  now : Pt l t.2.1
  sum : sumW t.2.1 = most - t.2.2
  room : 0 < t.2.2 ∧ t.2.2 ≤ most
  num : ∀ b, (t.1.map fun p => numW p b).sum + numW t.2.1 b = P b
theorem sumW_snoc (l : List Wt) (x : Wt) : sumW (l ++ [x]) = sumW l + x.n := by simp [sumW]
theorem spV_round {l : List Wt} {most : Int} {P : Bt → Int} {t : List (List Wt) × List Wt × Int} {b : Bt} {n : Int} (h : SpV l most P t) (hb : ∀ x ∈ t.2.1, x.b.cmp b < 0) (hl : ∃ y ∈ l, y.b = b) (hn : 0 < n) (h144 : n ≤ 144) (hm : most ≤ 144) :
    SpV l most (fun c => P c + if b = c then min n t.2.2 else 0) (spSs most b n t) ∧ ((spSs most b n t).2.1 = [] ∨ (n - min n t.2.2 = 0 ∧ ∀ x ∈ (spSs most b n t).2.1, x.b.cmp b < 0 ∨ x.b = b)) := by
  obtain ⟨o, now, room⟩ := t
  obtain ⟨h1, h2, h3, h4, h5⟩ := h
  simp only at h1 h2 h3 h4 h5 hb ⊢
  have hx : (wtN b (min n room)).n = min n room ∧ (wtN b (min n room)).b = b := by rw [wtN_n (by omega)]; exact ⟨rfl, rfl⟩
  generalize hwx : wtN b (min n room) = x at hx
  have hp : Pt l (now ++ [x]) := by
    refine ⟨List.pairwise_append.2 ⟨h2.str, List.pairwise_singleton _ _, fun y hy z hz => ?_⟩, fun y hy => ?_, fun y hy => ?_⟩
    · rw [List.mem_singleton.1 hz, hx.2]
      exact hb y hy
    · rcases List.mem_append.1 hy with q | q
      · exact h2.pos y q
      · rw [List.mem_singleton.1 q, hx.1]
        omega
    · rcases List.mem_append.1 hy with q | q
      · exact h2.sub y q
      · rw [List.mem_singleton.1 q, hx.2]
        exact hl
  have hs : sumW (now ++ [x]) = most - (room - min n room) := by
    rw [sumW_snoc, hx.1]
    omega
  have hnum : ∀ c, numW (now ++ [x]) c = numW now c + if b = c then min n room else 0 := fun c => by
    rw [numW_app, numW_cons, hx.1, hx.2]
    simp [numW]
  unfold spSs
  simp only [hwx]
  split
  · rename_i h0
    refine ⟨⟨fun p hp2 => ?_, Pt.nil l, by simp [sumW], by show 0 < most ∧ most ≤ most; omega, fun c => ?_⟩, .inl rfl⟩
    · rcases List.mem_append.1 hp2 with q | q
      · exact h1 p q
      · rw [List.mem_singleton.1 q]
        exact ⟨hp, by rw [hs]; omega⟩
    · have := h5 c
      show ((o ++ [now ++ [x]]).map fun p => numW p c).sum + numW [] c = _
      rw [List.map_append, List.sum_append, List.map_cons, List.map_nil, List.sum_cons, List.sum_nil, hnum c, ← h5 c]
      simp only [numW, List.map_nil, List.sum_nil]
      omega
  · rename_i h0
    refine ⟨⟨h1, hp, by rw [hs], by show 0 < room - min n room ∧ room - min n room ≤ most; omega, fun c => ?_⟩, .inr ⟨by omega, fun y hy => ?_⟩⟩
    · show (o.map fun p => numW p c).sum + numW (now ++ [x]) c = _
      rw [hnum c, ← h5 c]
      omega
    · rcases List.mem_append.1 hy with q | q
      · exact .inl (hb y q)
      · rw [List.mem_singleton.1 q]
        exact .inr hx.2
theorem SpV.ext {l : List Wt} {most : Int} {P P' : Bt → Int} {t : List (List Wt) × List Wt × Int} (h : SpV l most P t) (e : ∀ c, P c = P' c) : SpV l most P' t := ⟨h.out, h.now, h.sum, h.room, fun c => (h.num c).trans (e c)⟩
theorem spV_all {l : List Wt} {most : Int} {b : Bt} (hl : ∃ y ∈ l, y.b = b) (hm : most ≤ 144) : ∀ (f : Nat) (n : Int) (P : Bt → Int) (t : List (List Wt) × List Wt × Int), n.toNat ≤ f → 0 ≤ n → n ≤ 144 → SpV l most P t → (∀ x ∈ t.2.1, x.b.cmp b < 0 ∨ (n = 0 ∧ x.b = b)) →
    SpV l most (fun c => P c + if b = c then n else 0) (spS most b f n t) ∧ ∀ x ∈ (spS most b f n t).2.1, x.b.cmp b < 0 ∨ x.b = b
  | 0, n, P, t, hf, h0, _, h, hb => by
    obtain rfl : n = 0 := by omega
    refine ⟨h.ext fun c => by split <;> omega, fun x hx => ?_⟩
    rcases hb x hx with q | q
    · exact .inl q
    · exact .inr q.2
  | f + 1, n, P, t, hf, h0, h144, h, hb => by
    rw [spS]
    by_cases hn : n ≤ 0
    · rw [if_pos hn]
      obtain rfl : n = 0 := by omega
      refine ⟨h.ext fun c => by split <;> omega, fun x hx => ?_⟩
      rcases hb x hx with q | q
      · exact .inl q
      · exact .inr q.2
    · rw [if_neg hn]
      have hr := h.room
      obtain ⟨k1, k2⟩ := spV_round h (fun x hx => (hb x hx).elim id fun q => absurd q.1 (by omega)) hl (show 0 < n by omega) h144 hm
      obtain ⟨k3, k4⟩ := spV_all hl hm f (n - min n t.2.2) _ _ (by omega) (by omega) (by omega) k1 (fun x hx => by
        rcases k2 with q | ⟨q1, q2⟩
        · rw [q] at hx
          cases hx
        · rcases q2 x hx with q | q
          · exact .inl q
          · exact .inr ⟨q1, q⟩)
      exact ⟨k3.ext fun c => by
        by_cases e : b = c
        · simp only [if_pos e]
          omega
        · simp only [if_neg e]
          omega, k4⟩
theorem numW_step {l : List Wt} {k : Nat} (hk : k < l.length) (t : Bt) : numW (l.take (k + 1)) t = numW (l.take k) t + if l[k]!.b = t then l[k]!.n else 0 := by
  rw [List.take_succ_eq_append_getElem hk, numW_app, getB hk, numW_cons]
  simp [numW]
theorem splV {l : List Wt} {most : Int} (hl : ordOk l = true) (h0 : 1 ≤ most) (hm : most ≤ 144) : ∀ i, i ≤ l.length → SpV l most (numW (l.take i)) (splS l most i) ∧ ∀ x ∈ (splS l most i).2.1, ∀ j, i ≤ j → j < l.length → x.b.cmp l[j]!.b < 0
  | 0, _ => ⟨⟨(fun p hp => nomatch hp), Pt.nil l, by show sumW [] = most - most; simp [sumW], by show 0 < most ∧ most ≤ most; omega, fun b => rfl⟩, (fun x hx => nomatch hx)⟩
  | i + 1, hi => by
    obtain ⟨h1, h2⟩ := splV hl h0 hm i (by omega)
    have hok := Wt.ok_n (ordOk_all hl l[i]! (by rw [getB (show i < l.length by omega)]; exact List.getElem_mem _))
    obtain ⟨k1, k2⟩ := spV_all ⟨l[i]!, by rw [getB (show i < l.length by omega)]; exact List.getElem_mem _, rfl⟩ hm l[i]!.n.toNat l[i]!.n _ _ (Nat.le_refl _) (by omega) (by omega) h1 fun x hx => .inl (h2 x hx i (Nat.le_refl _) (by omega))
    refine ⟨k1.ext fun c => (numW_step (by omega) c).symm, fun x hx j hj hjl => ?_⟩
    have hs := List.pairwise_iff_getElem.1 (ordOk_str hl) i j (by omega) hjl (by omega)
    rw [← getB (show i < l.length by omega), ← getB hjl] at hs
    rcases k2 x hx with q | q
    · exact cmp_trans q hs
    · rw [q]
      exact hs
/-- The parts of an order. -/
structure Parts (l : List Wt) (most : Int) (ps : List (List Wt)) : Prop where
  pt : ∀ p ∈ ps, Pt l p ∧ 1 ≤ sumW p ∧ sumW p ≤ most
  full : ∀ i, i + 1 < ps.length → sumW ps[i]! = most
  num : ∀ b, (ps.map fun p => numW p b).sum = numW l b
theorem sumW_ge {l : List Wt} (h : ∀ x ∈ l, 1 ≤ x.n) : (l.length : Int) ≤ sumW l := by
  induction l with
  | nil => simp [sumW]
  | cons x l ih =>
    have h1 := ih fun y hy => h y (List.mem_cons_of_mem _ hy)
    have h2 := h x (List.mem_cons_self ..)
    have e : sumW (x :: l) = x.n + sumW l := by simp [sumW]
    rw [e, List.length_cons]
    omega
theorem parts_of {l : List Wt} {most : Int} (hl : ordOk l = true) (h0 : 1 ≤ most) (hm : most ≤ 144) : Parts l most (splI l most l.length).1 := by
  rw [← spl_eq (by omega)]
  obtain ⟨⟨h1, h2, h3, h4, h5⟩, -⟩ := splV hl h0 hm l.length (Nat.le_refl _)
  rw [List.take_length] at h5
  unfold closeS
  generalize splS l most l.length = t at *
  by_cases hn : t.2.1 = []
  · rw [if_pos hn]
    refine ⟨fun p hp => ⟨(h1 p hp).1, by rw [(h1 p hp).2]; exact h0, by rw [(h1 p hp).2]; exact Int.le_refl _⟩, fun i hi => ?_, fun b => ?_⟩
    · rw [getB (by omega)]
      exact (h1 _ (List.getElem_mem _)).2
    · have := h5 b
      rw [hn] at this
      simpa [numW] using this
  · rw [if_neg hn]
    have hge := sumW_ge h2.pos
    have hl1 := List.length_pos_iff.2 hn
    refine ⟨fun p hp => ?_, fun i hi => ?_, fun b => ?_⟩
    · rcases List.mem_append.1 hp with q | q
      · exact ⟨(h1 p q).1, by rw [(h1 p q).2]; exact h0, by rw [(h1 p q).2]; exact Int.le_refl _⟩
      · rw [List.mem_singleton.1 q]
        exact ⟨h2, by omega, by omega⟩
    · rw [List.length_append] at hi
      simp at hi
      rw [getB (by rw [List.length_append]; omega), List.getElem_append_left (by omega)]
      exact (h1 _ (List.getElem_mem _)).2
    · rw [List.map_append, List.sum_append, List.map_cons, List.map_nil, List.sum_cons, List.sum_nil, Int.add_zero]
      exact h5 b
/-- The first parts, joined. -/
def foldJ (ps : List (List Wt)) : Nat → List Wt
  | 0 => []
  | i + 1 => joinW (foldJ ps i) ps[i]!
section
variable {l : List Wt} {most : Int} {ps : List (List Wt)} (hl : ordOk l = true) (h : Parts l most ps)
include hl h
theorem part_le {i : Nat} : ∀ {j}, j ≤ ps.length → ∀ t, 0 ≤ ((ps.take j).map fun p => numW p t).sum ∧ ((ps.take j).map fun p => numW p t).sum ≤ numW l t := by
  intro j hj t
  have key : ∀ (qs : List (List Wt)), (∀ p ∈ qs, ∀ x ∈ p, 1 ≤ x.n) → 0 ≤ (qs.map fun p => numW p t).sum := by
    intro qs
    induction qs with
    | nil => intro _; exact Int.le_refl _
    | cons q qs ih =>
      intro hq
      have h1 := ih fun p hp => hq p (List.mem_cons_of_mem _ hp)
      have h2 := numW_pos (hq q (List.mem_cons_self ..)) t
      rw [List.map_cons, List.sum_cons]
      omega
  have h1 := key (ps.take j) fun p hp => (h.pt p (List.mem_of_mem_take hp)).1.pos
  have h2 := key (ps.drop j) fun p hp => (h.pt p (List.mem_of_mem_drop hp)).1.pos
  have h3 := h.num t
  rw [← List.take_append_drop j ps, List.map_append, List.sum_append] at h3
  omega
theorem part_ok {i : Nat} (hi : i < ps.length) : ordOk ps[i]! = true := by
  have hp := (h.pt ps[i]! (by rw [getB hi]; exact List.getElem_mem _)).1
  refine hp.ok hl fun t => ?_
  have h1 := part_le hl h (i := 0) (Nat.le_of_lt hi) t
  have h2 := part_le hl h (i := 0) (Nat.succ_le_of_lt hi) t
  rw [List.take_succ_eq_append_getElem hi, List.map_append, List.sum_append, List.map_cons, List.map_nil, List.sum_cons, List.sum_nil, ← getB hi] at h2
  omega
theorem fold_ok : ∀ i, i ≤ ps.length → Pt l (foldJ ps i) ∧ (∀ t, numW (foldJ ps i) t = ((ps.take i).map fun p => numW p t).sum) ∧ ordOk (foldJ ps i) = true
  | 0, _ => ⟨Pt.nil l, fun t => rfl, by rw [foldJ]; exact str_ok List.Pairwise.nil (fun x hx => nomatch hx) (by simp)⟩
  | i + 1, hi => by
    obtain ⟨h1, h2, h3⟩ := fold_ok i (by omega)
    have hp := (h.pt ps[i]! (by rw [getB (show i < ps.length by omega)]; exact List.getElem_mem _)).1
    have hpo := part_ok hl h (show i < ps.length by omega)
    have hnum : ∀ t, numW (foldJ ps (i + 1)) t = ((ps.take (i + 1)).map fun p => numW p t).sum := fun t => by
      rw [foldJ, (join_num t _ _ (ok_range h3) (ok_range hpo)).1, h2 t, List.take_succ_eq_append_getElem (show i < ps.length by omega), List.map_append, List.sum_append, List.map_cons, List.map_nil, List.sum_cons, List.sum_nil, ← getB (show i < ps.length by omega), Int.add_zero]
    have hstr : Str (foldJ ps (i + 1)) := join_str _ _ h1.str hp.str
    have hsub : ∀ x ∈ foldJ ps (i + 1), (∃ y ∈ l, y.b = x.b) ∧ 1 ≤ x.n := fun x hx => by
      have hj := (join_num x.b _ _ (ok_range h3) (ok_range hpo)).1
      have ha := numW_at hstr hx
      have q1 := numW_pos h1.pos x.b
      have q2 := numW_pos hp.pos x.b
      have e : numW (foldJ ps (i + 1)) x.b = numW (foldJ ps i) x.b + numW ps[i]! x.b := hj
      rcases join_mem h1.str hp.str (show x ∈ joinW (foldJ ps i) ps[i]! from hx) with ⟨y, hy, ey⟩ | hy
      · have := numW_ge h1.pos hy
        have h5 := h1.pos y hy
        rw [← ey] at this
        obtain ⟨z, hz, ez⟩ := h1.sub y hy
        exact ⟨⟨z, hz, ez.trans ey.symm⟩, by omega⟩
      · exact ⟨hp.sub x hy, hp.pos x hy⟩
    have hpt : Pt l (foldJ ps (i + 1)) := ⟨hstr, fun x hx => (hsub x hx).2, fun x hx => (hsub x hx).1⟩
    exact ⟨hpt, hnum, hpt.ok hl fun t => by rw [hnum t]; exact (part_le hl h (i := 0) hi t).2⟩
theorem fold_join {i : Nat} (hi : i < ps.length) : joinR (foldJ ps i) ps[i]! = (foldJ ps (i + 1), 0) := by
  unfold joinR
  have h1 := (fold_ok hl h (i + 1) hi).2.2
  rw [foldJ] at h1
  rw [(fold_ok hl h i (by omega)).2.2, part_ok hl h hi, Bool.and_self, if_pos rfl, if_pos h1]
  rfl
theorem fold_all : foldJ ps ps.length = l := by
  obtain ⟨h1, h2, h3⟩ := fold_ok hl h ps.length (Nat.le_refl _)
  refine num_ext h1.str (ordOk_str hl) h1.pos (fun x hx => (Wt.ok_n (ordOk_all hl x hx)).1) fun t => ?_
  rw [h2 t, List.take_length]
  exact h.num t
end
theorem splitR_is {l : List Wt} {most : Int} (hl : ordOk l = true) (h0 : 1 ≤ most) (hm : most ≤ 144) : splitR l most = ((splI l most l.length).1, 0) := by
  have : splCode l most = 0 := by rw [splCode, if_pos hl, if_pos ⟨h0, hm⟩]
  rw [splitR, if_pos this]
/-! ### What is short -/
theorem lack_at {f : Bt → Nat} {l : List Wt} {i : Nat} (hi : i < l.length) (h : 0 < l[i]!.n - (f l[i]!.b : Int)) : ∃ x, (lackL f l)[(lackL f (l.take i)).length]? = some x ∧ x.b = l[i]!.b ∧ x.n = l[i]!.n - (f l[i]!.b : Int) := by
  have h1 : lackL f l = lackL f (l.take (i + 1)) ++ lackL f (l.drop (i + 1)) := by
    unfold lackL
    rw [← List.flatMap_append, List.take_append_drop]
  rw [h1, lackL_step hi, lack1_yes h, List.append_assoc, List.getElem?_append_right (Nat.le_refl _), Nat.sub_self]
  exact ⟨_, rfl, rfl, rfl⟩
theorem lack_len {f : Bt → Nat} {l : List Wt} {i : Nat} (hi : i < l.length) : (lackL f (l.take (i + 1))).length = (lackL f (l.take i)).length + if 0 < l[i]!.n - (f l[i]!.b : Int) then 1 else 0 := by
  rw [lackL_step hi, List.length_append]
  split
  · rename_i h
    rw [lack1_yes h]
    rfl
  · rename_i h
    rw [lack1_no h]
    rfl
theorem cases_len {l : List Wt} (h : ordOk l = true) : ((packL (botsL l)).length : Int) = (sumW l + 11) / 12 := by
  have h1 := botsL_len (ok_nonneg h)
  unfold packL
  rw [packK_length]
  omega
theorem cases_cnt {l : List Wt} (h : ordOk l = true) {i : Nat} (hi : i < l.length) : (cntL (packL (botsL l)) l[i]!.b : Int) = l[i]!.n := by
  have hm : l[i]! ∈ l := by rw [getB hi]; exact List.getElem_mem _
  have hk : okK l l.length := by simp only [ordOk, Bool.and_eq_true, decide_eq_true_iff] at h; exact h.1
  have h1 := (Wt.ok_n (ordOk_all h _ hm)).1
  rw [packL_cnt _ _ (okK_z hk hi), botsL_cnt (ordOk_str h) hm]
  omega
end Go.Proofs.YtbngpcghognojaaGreatDoor
namespace Go.Proofs.YtbngpcghognojaaGreatDoor
open Go.RowKit
set_option linter.unusedVariables false
set_option linter.unusedSimpArgs false
set_option maxRecDepth 100000
set_option maxHeartbeats 1000000
section
variable {P : Program} {ops : Array Oper} {rest : List Oper} {o : Oper} {a : Act} {Q : Exit → Act → World → Prop} {W : World}
/-- What block g holds stays as it is, and the new slice lies elsewhere, too. -/
def Spares (g : Nat) (W w : World) (v : Value) : Prop := w.heap[g]? = W.heap[g]? ∧ v.ownBlock ≠ some g
theorem wp_appA (gs : List Nat) (B : Nat) (hgd : o.guard = none) (s x : Operand) (t e : TypeId) (ho : o.op = .call { callee := .builtin .append, args := #[s, x], argTypes := #[t, t] })
    (z : Value) (size bytes : Nat) (ht : P.underlying t = some (.slice e)) (hinfo : (P.info? e).map (fun i => (i.zero, i.size, i.bytes)) = some (some z, size, bytes)) (hzs : z.cells.size = size) (hsz : 0 < size)
    (v : Value) (n : Nat) (xs news : List Value) (hs : a.eval s = v) (g : Nat) (hx : a.eval x = .slice (some ⟨g, 0, none⟩) 1 1) (hg : g = W.heap.size) (hl : news.length = size) (h1 : ∀ u ∈ news, u.oneCell' = true)
    (HO : W.ownsRow B e size v n xs) (hB : B ≤ W.heap.size) (hn : n + 1 ≤ 1000000000) (hby : bytes ≤ 1000) (hgs : ∀ k ∈ gs, k < W.heap.size ∧ v.ownBlock ≠ some k)
    (h : ∀ v1 w1, w1.ownsRow B e size v1 (n + 1) (xs ++ news) → Below B W w1 → (∀ k ∈ gs, Spares k W w1 v1) → wpList P ops Q rest (a.put o.dst v1) w1) : wpList P ops Q (o :: rest) a (W.alloc (.cells news.toArray e)) := by
  subst hg
  obtain ⟨i0, hi, hzz⟩ := Option.map_eq_some_iff.1 hinfo
  simp only [Prod.mk.injEq] at hzz
  obtain ⟨hz0, hz1, hz2⟩ := hzz
  obtain ⟨v1, w1, hrun, hown, hg, -, hblk⟩ := run_append_own_at (P := P) (W.alloc (.cells news.toArray e)) B t o.type e i0 z size bytes ht hi hz0 hz1 hz2 hzs hsz v n xs (HO.alloc _) ⟨W.heap.size, 0, none⟩ 1 1 news (by omega)
    (fun j u hj => by rw [addr_at]; simp only [World.cell?_alloc_new]; simpa using hj) h1 (by simp only [maxLen]; omega)
    (by calc (n + 1) * bytes ≤ 1000000000 * 1000 := Nat.mul_le_mul hn hby
      _ ≤ 140737488355328 := by decide) (by simp; omega)
  have hb := ((Below.refl B W).alloc hB _).grown hg (by simp; omega) (fun k hk => own_base HO k hk)
  refine wpList_plain hgd fun K hK => ?_
  unfold Oper.wp execOp
  simp only [ho, resolve, invoke, builtin, Sem.run_bind, Sem.run_pure, Result.andThen_ok, List.map_toArray, List.map_cons, List.map_nil, hs, hx, hrun]
  refine hK _ _ (h v1 w1 hown hb fun k hk => ⟨?_, fun he => ?_⟩)
  · rw [hg.block k (by have := (hgs k hk).1; simp; omega) (fun e => (hgs k hk).2 e.symm)]
    exact (Below.refl W.heap.size W).alloc (Nat.le_refl _) (.cells news.toArray e) |>.block k (hgs k hk).1
  · rcases hblk with h | h
    · rw [h] at he
      exact (hgs k hk).2 he
    · rw [h] at he
      have := (hgs k hk).1
      simp at he
      omega
end
theorem Spares.lies {α : Type} {f : α → List Value} {g : Nat} {W w : World} {v : Value} {l : List α} {B : Nat} (h : Spares g W w v) (hL : Lies f W g l) (hb : Below B W w) : Lies f w g l := by
  refine ⟨fun i u hi => ?_, Nat.lt_of_lt_of_le hL.2 hb.size⟩
  rw [← hL.1 i u hi]
  unfold World.cell?
  rw [h.1]
theorem Spares.row {g : Nat} {W w : World} {v : Value} {cs : Array Value} (h : Spares g W w v) (hr : rowOf W g = some cs) : rowOf w g = some cs := by
  unfold rowOf at hr ⊢
  rw [h.1]
  exact hr
section
variable {ops : Array Oper} {rest : List Oper} {o : Oper} {a : Act} {Q : Exit → Act → World → Prop} {W : World}
theorem wp_app_wantA (gs : List Nat) (B : Nat) (hgd : o.guard = none) (s x : Operand) (ho : o.op = .call { callee := .builtin .append, args := #[s, x], argTypes := #[64, 64] })
    (v : Value) (l : List Wt) (y : Wt) (hs : a.eval s = v) (g : Nat) (hx : a.eval x = .slice (some ⟨g, 0, none⟩) 1 1) (hg : g = W.heap.size)
    (HO : OwnS wc W B 81 3 v l) (hB : B ≤ W.heap.size) (hn : l.length ≤ 100000000) (hgs : ∀ k ∈ gs, k < W.heap.size ∧ v.ownBlock ≠ some k)
    (h : ∀ v1 w1, OwnS wc w1 B 81 3 v1 (l ++ [y]) → Below B W w1 → (∀ k ∈ gs, Spares k W w1 v1) → wpList Tryz.prog ops Q rest (a.put o.dst v1) w1) : wpList Tryz.prog ops Q (o :: rest) a (W.alloc (.cells #[.int .u8 y.b.k, .int .i16 y.b.y, .int .i16 y.n] 81)) :=
  wp_appA (P := Tryz.prog) gs B hgd s x 64 81 ho (.agg (wc zW).toArray) 3 6 Tryz.underlying64 infoWantS rfl (by decide) v l.length (fl wc l) (wc y) hs g hx hg rfl (fun u hu => wv_one y u (by simpa using hu)) HO.1 hB (by omega) (by decide) hgs
    (fun v1 w1 h1 h2 h3 => h v1 w1 (OwnS.grown (by rw [List.length_append, fl_append, fl_one]; exact h1)) h2 h3)
end
end Go.Proofs.YtbngpcghognojaaGreatDoor
namespace Go.Proofs.YtbngpcghognojaaGreatDoor
open Go Go.Sort Go.RowKit
set_option linter.unusedVariables false
set_option linter.unusedSimpArgs false
set_option maxRecDepth 100000
set_option maxHeartbeats 1000000
attribute [local go_sem] Oper.qB
theorem lies_tcs {w : World} {g i : Nat} {ls : List (List UInt8)} (h : Lies tcs w g ls) (hi : i < ls.length) : w.cell? ⟨g, i, none⟩ = some (.string ⟨(ls.getD i []).toArray⟩) := by
  have e : ∀ ls : List (List UInt8), fl tcs ls = ls.map fun x => .string ⟨x.toArray⟩ := fun ls => by
    induction ls with
    | nil => rfl
    | cons x ls ih => rw [fl_cons, ih]; rfl
  have := h.1 i (.string ⟨(ls.getD i []).toArray⟩) (by rw [e, List.getElem?_map, List.getElem?_eq_getElem hi, List.getD_eq_getElem?_getD, List.getElem?_eq_getElem hi]; rfl)
  rwa [Nat.zero_add] at this
theorem spl_le (s : UInt8) : ∀ (l : List UInt8), ∀ p ∈ spl s l, p.length ≤ l.length
  | [], p, hp => by
    obtain rfl : p = [] := by simpa [spl] using hp
    simp
  | c :: l, p, hp => by
    have ih := spl_le s l
    rw [spl] at hp
    split at hp
    · rcases List.mem_cons.1 hp with rfl | hp
      · simp
      · exact Nat.le_succ_of_le (ih p hp)
    · cases hs : spl s l with
      | nil =>
        rw [hs] at hp
        obtain rfl : p = [c] := by simpa [preS] using hp
        simp
      | cons q ps =>
        rw [hs] at hp ih
        rcases List.mem_cons.1 hp with rfl | hp
        · have := ih q (List.mem_cons_self ..)
          simp only [List.cons_append, List.nil_append, List.length_cons]
          omega
        · exact Nat.le_succ_of_le (ih p (List.mem_cons_of_mem _ hp))
theorem getD_in {ls : List (List UInt8)} {i : Nat} (h : i < ls.length) : ls.getD i [] ∈ ls := by
  rw [List.getD_eq_getElem?_getD, List.getElem?_eq_getElem h]
  exact List.getElem_mem h
theorem take_step {ls : List (List UInt8)} {k : Nat} (h : k < ls.length) : ls.take (k + 1) = ls.take k ++ [ls.getD k []] := by
  rw [List.take_succ_eq_append_getElem h, List.getD_eq_getElem?_getD, List.getElem?_eq_getElem h]
  rfl
theorem Split_any (l : List UInt8) (m : Int) (w : World) (hl : l.length ≤ 1048576) (hm : w.cell? ⟨Tryz.lx92_ren.g 1, 0, none⟩ = some (.int .i64 m)) :
    Calls Tryz.prog 92 #[.string ⟨l.toArray⟩, .string ⟨#[32]⟩] w fun e w' => e = .returned (.slice (some ⟨w.heap.size, 0, none⟩) (spl 32 l).length (spl 32 l).length) ∧ Lies tcs w' w.heap.size (spl 32 l) ∧ Below w.heap.size w w' := by
  have hsz := size_text l
  have h1 : (Lib.splitB ⟨#[32]⟩ 0 (Lib.countB ⟨l.toArray⟩ ⟨#[32]⟩) ⟨l.toArray⟩).map (·.data.toList) = spl 32 l := by
    rw [Lib.splitB_data]
    exact splitK_spl 32 l.length l (Nat.le_refl _)
  have h2 := Lib.splitB_all ⟨#[32]⟩ (by decide) 0 _ (⟨l.toArray⟩ : ByteArray) rfl
  have h3 : (spl 32 l).length = Lib.countB ⟨l.toArray⟩ ⟨#[32]⟩ + 1 := by rw [← h1, List.length_map, h2]
  have h4 : (Lib.splitB ⟨#[32]⟩ 0 (Lib.countB ⟨l.toArray⟩ ⟨#[32]⟩) ⟨l.toArray⟩).map Value.string = fl tcs (spl 32 l) := by
    have e : ∀ ls : List (List UInt8), fl tcs ls = ls.map fun x => .string ⟨x.toArray⟩ := fun ls => by
      induction ls with
      | nil => rfl
      | cons x ls ih => rw [fl_cons, ih]; rfl
    rw [e, ← h1, List.map_map]
    exact List.map_congr_left fun x _ => by simp [Lib.mk_data]
  refine (Any.strings_Split Tryz.lx92 (by kernel_rfl) ⟨l.toArray⟩ ⟨#[32]⟩ m w (by omega) hm (by decide)).mono ?_
  rintro e w' ⟨rfl, rfl⟩
  rw [h3, h4]
  refine ⟨rfl, ⟨fun i v hi => ?_, by simp⟩, (Below.refl _ w).alloc (Nat.le_refl _) _⟩
  rw [Nat.zero_add]
  simp only [World.cell?_alloc_new]
  simpa using hi
theorem ReadOrder_any (l : List UInt8) (hl : l.length ≤ 1048576) (m : Int) (w : World) (ht : Tab w) (h2 : ErrV w (Tryz.lx117_ren.g 15)) (h3 : ErrV w (Tryz.lx117_ren.g 16)) (hm : w.cell? ⟨Tryz.lx64_ren.g 1, 0, none⟩ = some (.int .i64 m)) :
    Calls Tryz.prog 38 #[.string ⟨l.toArray⟩] w fun e w' => ∃ v, e = .returned (.tuple #[v, .int .i64 (roR l).2]) ∧ OwnN wc w' w.heap.size 81 3 v (roR l).1 ∧ Below w.heap.size w w' := by
  have htl : (⟨l.toArray⟩ : ByteArray).toList = l := by simp
  have hm2 := fun W (hW : Below w.heap.size w W) => (hW.cell (World.block_lt_of_cell? _ _ hm)).trans hm
  have HSP := fun W (hW : Below w.heap.size w W) => Split_any l m W hl (hm2 W hW)
  have HCT := fun (x : List UInt8) (hx : x.length ≤ 1048576) W (hW : Below w.heap.size w W) => Any.strings_Cut Tryz.lx64 ⟨x.toArray⟩ ⟨#[120]⟩ m W (by rw [size_text]; omega) (hm2 W hW)
  have hd2 : (⟨#[120]⟩ : ByteArray).data.toList = [120] := rfl
  have hd1 : ∀ x : List UInt8, (⟨x.toArray⟩ : ByteArray).data.toList = x := fun x => by simp
  simp only [hd2, hd1] at HCT
  have HRB := Lib.hid (fun (x : List UInt8) (hx : x.length ≤ 1048576) W (hW : Below w.heap.size w W) => ReadBottle_any x hx m W (ht.below hW) (h2.below hW) (h3.below hW) (hm2 W hW))
  have HRD : Hid (∀ (x : List UInt8), x.length ≤ 1048576 → ∀ W, Below w.heap.size w W → Calls Tryz.prog 65 #[.string ⟨x.toArray⟩, .int .i64 1, .int .i64 144] W fun e w' => (∃ n : Int, e = .returned (.tuple #[.int .i64 n, .bool (rdR 1 144 x)]) ∧ (rdR 1 144 x = true → n = (valD x : Int))) ∧ Below W.heap.size W w') := fun x hx W hW => readDecimal_any x 1 144 (by omega) hx W (ht.below hW) (h2.below hW) (h3.below hW)
  clear ht h2 h3 hm hm2 hd1 hd2
  replace HCT := Lib.hid HCT
  have HLE := Lib.hid (fun p hp => Nat.le_trans (spl_le 32 l p hp) hl)
  have hpl := spl_len 32 l
  have HBD := Lib.hid (fun (h0 : l ≠ []) w hw h => roR_bad h0 (w := w) hw h)
  have HIV := Lib.hid (fun (h0 : l ≠ []) h => roR_inv h0 h)
  have HOK := Lib.hid (fun (h0 : l ≠ []) h1 h => roR_ok h0 h1 h)
  have hne := spl_ne 32 l
  generalize spl 32 l = ps at HSP HLE hpl HBD HIV HOK hne
  generalize (⟨l.toArray⟩ : ByteArray) = S at htl HSP ⊢
  replace HSP := Lib.hid HSP
  have H := Below.refl w.heap.size w
  by_cases h0 : l = []
  · have HF := Lib.hid (show roR l = ([], 0) by unfold roR; rw [if_pos h0])
    have h1 : (l == []) = true := by rw [h0]; rfl
    replace h0 := Lib.hid h0
    replace hne := Lib.hid hne
    go_enter Tryz.func38, Tryz.ntmps38
    go_wp2
    rw [HF.out]
    exact bodyPost_ret (results_tt rfl) rfl ⟨_, rfl, (OwnS.lit (f := wc) (Nat.le_refl _)).1, (Below.refl _ w).alloc (Nat.le_refl _) _⟩
  · have h1 : (l == []) = false := by
      rw [← Bool.not_eq_true, beq_iff_eq]
      exact h0
    replace HBD := Lib.hid (HBD.out h0)
    replace HIV := Lib.hid (HIV.out h0)
    replace HOK := Lib.hid (HOK.out h0)
    replace h0 := Lib.hid h0
    replace hne := Lib.hid hne
    go_enter Tryz.func38, Tryz.ntmps38
    go_wp2_with (go_at_call 92; go_loud (refine (HSP.out _ ((Below.refl _ w).alloc (Nat.le_refl _) _)).mono ?_; rintro e w1 ⟨rfl, HL, hb⟩; have H1 := ((Below.refl _ w).alloc (Nat.le_refl _) (.cells #[] 81)).trans (hb.mono (by simp)); have O1 := (OwnS.lit (f := wc) (e := 81) (size := 3) (Nat.le_refl w.heap.size)).kept hb; clear hb))
    have hsa : (w.alloc (.cells #[] 81)).heap.size = w.heap.size + 1 := by simp
    rw [hsa] at HL
    clear hsa
    generalize hgp : w.heap.size + 1 = gp at HL ⊢
    have hpl2 : ps.length ≤ 1048577 := by omega
    have hgp0 : (Value.slice (some ⟨w.heap.size, 0, none⟩) 0 0).ownBlock ≠ some gp := by
      intro e
      have : w.heap.size = gp := by simpa [Value.ownBlock] using e
      omega
    replace HL := Lib.hid HL
    replace O1 := Lib.hid O1
    replace hgp0 := Lib.hid hgp0
    replace hgp := Lib.hid hgp
    go_loopw [4, 21] (fun v i wr => ∃ k : Nat, k ≤ ps.length ∧ i = .int .i64 k ∧ Hid (OwnS wc wr w.heap.size 81 3 v (wantsOf (ps.take k))) ∧ Hid (∀ x ∈ ps.take k, (rdW x).isSome = true) ∧ Hid (Lies tcs wr gp ps) ∧ Hid (v.ownBlock ≠ some gp) ∧ Below w.heap.size w wr) (fun _ i _ => ps.length - (intOf i).toNat)
    case atStart => exact ⟨0, Nat.zero_le _, rfl, O1.out, fun x hx => by simp at hx, HL.out, hgp0.out, H1⟩
    case round =>
      clear O1 HL hgp0 H1
      obtain ⟨k, hk, rfl, HO, HA, HL, HN, H0⟩ := hrel
      by_cases hlt : k < ps.length
      · have x0 := lies_tcs HL.out hlt
        obtain ⟨wd, hwd⟩ : ∃ wd, wd = ps.getD k [] := ⟨_, rfl⟩
        have hmem : wd ∈ ps := by rw [hwd]; exact getD_in hlt
        have hwl := HLE.out wd hmem
        have HTS := take_step hlt
        rw [← hwd] at x0 HTS
        have hWK : Hid (∀ x, rdW wd = some x → wantsOf (ps.take (k + 1)) = wantsOf (ps.take k) ++ [x]) := fun x hx => by
          rw [HTS]
          unfold wantsOf
          rw [List.map_append, List.map_cons, List.map_nil, hx]
          rfl
        have hAK : Hid (∀ x, rdW wd = some x → ∀ y ∈ ps.take (k + 1), (rdW y).isSome = true) := fun x hx y hy => by
          rw [HTS] at hy
          rcases List.mem_append.1 hy with q | q
          · exact HA.out y q
          · obtain rfl := List.mem_singleton.1 q
            rw [hx]
            rfl
        have HC := HCT.out wd hwl
        have hcl := cut_len wd [120]
        have hcut := rdW_cut (w := wd)
        have hlt2 : (k : Int) < (ps.length : Int) := by omega
        have hlk : Hid ((wantsOf (ps.take k)).length ≤ 100000000) := by
          unfold wantsOf
          rw [Hid, List.length_map, List.length_take]
          omega
        generalize Lib.cut wd [120] = z at HC hcl hcut
        obtain ⟨a, b, f⟩ := z
        simp only at HC hcl hcut
        have HB := HRB.out a (by omega)
        have HD := HRD.out b (by omega)
        generalize (⟨wd.toArray⟩ : ByteArray) = T at x0 HC
        generalize (⟨a.toArray⟩ : ByteArray) = TA at HC HB
        generalize (⟨b.toArray⟩ : ByteArray) = TB at HC HD
        replace HC := Lib.hid HC
        replace HD := Lib.hid HD
        replace hwd := Lib.hid hwd
        replace HTS := Lib.hid HTS
        replace hmem := Lib.hid hmem
        obtain ⟨zb, hzb⟩ : ∃ zb, zb = rbR a := ⟨_, rfl⟩
        rw [← hzb] at HB
        obtain ⟨zb, zc⟩ := zb
        simp only at HB
        replace HB := Lib.hid HB
        have H := Below.refl wr.heap.size wr
        go_upto_region 9 with (first | (go_at_call 64; go_loud (refine (HC.out _ (bstep H0 H)).mono ?_; rintro e w2 ⟨rfl, q, rfl⟩; replace H := bdrewN H q)) | (go_at_call 10; go_loud (refine (HB.out _ (bstep H0 H)).mono ?_; rintro e w2 ⟨rfl, hb⟩; replace H := bstep H hb; clear hb)) | ((with_reducible refine wp_store_rowOf rfl rfl _ _ _ rfl _ rfl (#[.int .u8 zb.k, .int .i16 zb.y] : Array Value) rfl #[.int .u8 0, .int .i16 0] ?hr rfl (infoB _ _) (bv_one _ _) ?_); (case hr => rw [rowOf_alloc, if_pos rfl])))
        generalize hW1 : World.setRow _ _ _ = W1
        obtain ⟨HB, r1, b1⟩ := laid_row H hW1
        clear hW1
        replace H0 := bstep H0 HB
        replace H := below_self HB
        generalize w2.heap.size = g1 at *
        have HO2 := Lib.hid (HO.out.kept HB)
        have HL2 := Lib.hid (HL.out.below HB)
        clear HB HO HL x0
        go_upto_region 10 with (go_at_call 65; go_loud (refine (HD.out _ (bstep H0 H)).mono ?_; rintro e w3 ⟨⟨n1, rfl, hn1⟩, hb⟩; replace H := bstep H hb; clear hb))
        clear HC HD hcl hwl
        generalize hq : rdR 1 144 b = qd at hn1 hcut ⊢
        replace hq := Lib.hid hq
        rcases hcut with ⟨x, hx, rfl, hB, rfl, hxn⟩ | ⟨hx, hf⟩
        · have hzz : rbR a = (x.b, 0) := by unfold rbR; rw [hB]
          rw [hzz] at hzb
          obtain ⟨rfl, rfl⟩ := Prod.mk.inj hzb
          obtain rfl : n1 = x.n := (hn1 rfl).trans hxn.symm
          have hw16 : IntKind.i16.wrap x.n = x.n := wrap16_id x.hn
          have hWK2 := Lib.hid (hWK.out x hx)
          have hAK2 := Lib.hid (hAK.out x hx)
          clear hzz hzb hn1 hxn hB hx hWK hAK
          have HO3 := Lib.hid (HO2.out.kept H)
          have HL3 := Lib.hid (HL2.out.below H)
          have hBB := Lib.hid ((bstep H0 H).size)
          go_wp2_with (first | ((with_reducible refine wp_load_rowBg H ?_ _ _ rfl _ rfl _ r1 _ Tryz.underlying26 rfl (infoB _ _) ?_); rfl) | (at_builtin; go_loud (refine wp_app_wantA [gp] w.heap.size rfl _ _ rfl _ (wantsOf (ps.take k)) x rfl _ rfl ?hg ?HO ?hB ?hn ?hgs ?_; (case hg => simp); (case HO => exact HO3.out); (case hB => exact hBB.out); (case hn => exact hlk.out); (case hgs => exact fun q hq => by rw [List.mem_singleton.1 hq]; exact ⟨HL3.out.2, HN.out⟩); intro v1 w4 O4 hb4 hs4)))
          go_roundw
          case rel => exact ⟨k + 1, by omega, by go_num, by rw [hWK2.out]; exact O4, hAK2.out, (hs4 gp (List.mem_singleton.2 rfl)).lies HL3.out hb4, (hs4 gp (List.mem_singleton.2 rfl)).2, (bstep H0 H).trans hb4⟩
          case measure => simp [intOf]; omega
        · have HF := Lib.hid (HBD.out wd hmem.out hx)
          clear hn1 hx hWK hAK
          replace hf := Lib.hid hf
          cases f with
          | false =>
            clear hzb
            go_wp2
            rw [HF.out]
            exact bodyPost_ret (results_tt rfl) rfl ⟨_, rfl, own_nil, bstep H0 H⟩
          | true =>
            cases hB : rdB a with
            | none =>
              have hzz : rbR a = (zB, 5) := by unfold rbR; rw [hB]
              rw [hzz] at hzb
              obtain ⟨rfl, rfl⟩ := Prod.mk.inj hzb
              clear hzz hzb hB hf
              go_wp2
              rw [HF.out]
              exact bodyPost_ret (results_tt rfl) rfl ⟨_, rfl, own_nil, bstep H0 H⟩
            | some t =>
              have hzz : rbR a = (t, 0) := by unfold rbR; rw [hB]
              rw [hzz] at hzb
              obtain ⟨rfl, rfl⟩ := Prod.mk.inj hzb
              obtain rfl : qd = false := by
                have := hf.out
                rw [hB] at this
                cases qd with
                | false => rfl
                | true => cases this
              clear hzz hzb hB hf
              go_wp2
              rw [HF.out]
              exact bodyPost_ret (results_tt rfl) rfl ⟨_, rfl, own_nil, bstep H0 H⟩
      · obtain rfl : k = ps.length := by omega
        rw [List.take_length] at HO HA
        obtain ⟨gv, cap, rfl, KO, -, -, -⟩ := HO.out.lies
        have hwn : (wantsOf ps).length ≤ 1000000000 := by
          unfold wantsOf
          rw [List.length_map]
          omega
        have HV := ValidOrder_any gv 0 cap (wantsOf ps) wr KO.1 KO.2 hwn
        cases e1 : ordOk (wantsOf ps) with
        | true =>
          have HF := Lib.hid (HOK.out HA.out e1)
          rw [e1] at HV
          replace HV := Lib.hid HV
          clear e1 KO hwn
          go_wp2_with (go_at_call 50; go_loud (refine HV.out.mono ?_; rintro e w5 ⟨rfl, hb⟩))
          rw [HF.out]
          exact bodyPost_ret (results_tt rfl) rfl ⟨_, rfl, (HO.out.kept hb).1, bstep H0 hb⟩
        | false =>
          have HF := Lib.hid (HIV.out e1)
          rw [e1] at HV
          replace HV := Lib.hid HV
          clear e1 KO hwn
          go_wp2_with (go_at_call 50; go_loud (refine HV.out.mono ?_; rintro e w5 ⟨rfl, hb⟩))
          rw [HF.out]
          exact bodyPost_ret (results_tt rfl) rfl ⟨_, rfl, own_nil, bstep H0 hb⟩
end Go.Proofs.YtbngpcghognojaaGreatDoor
namespace Go.Proofs.YtbngpcghognojaaGreatDoor
open Go Go.Sort Go.RowKit
set_option linter.unusedVariables false
set_option linter.unusedSimpArgs false
set_option maxRecDepth 100000
set_option maxHeartbeats 1000000
attribute [local go_sem] Oper.qB
theorem botT_len {b : Bt} (h : b.ok = true) : (botT b).length ≤ 3000 := by
  simp only [Bt.ok, decide_eq_true_iff] at h
  have h1 := dec_short b.k.toNat
  have h2 := dec_short b.y.toNat
  unfold botT
  rw [List.length_append, List.length_cons]
  omega
theorem wordT_len {b : Bt} (h : b.fine = true) : (wordT b).length ≤ 3000 := by
  unfold wordT
  split
  · simp
  · rename_i he
    unfold Bt.fine at h
    rw [Bool.or_eq_true] at h
    exact botT_len (h.resolve_left he)
theorem crK_len {c : Cr} (h : c.ok = true) : ∀ k, k ≤ 12 → (crK c k).length ≤ 3001 * k
  | 0, _ => by simp [crK]
  | k + 1, hk => by
    have ih := crK_len h k (by omega)
    have := wordT_len (ok_at.1 h k (by omega))
    rw [crK_succ, List.length_append, List.length_append, List.length_singleton]
    omega
theorem em_nok {b : Bt} (h : b.em = true) : b.ok = false := by
  rw [Bt.em_iff] at h
  subst h
  decide
theorem bxWS : Builder.Extra Tryz.prog Tryz.lx61_ren := { sizeBuilder := by kernel_rfl, liesBuilder := by kernel_rfl, t5 := Tryz.underlying5, a5 := Tryz.isAgg5, z5 := Tryz.sizeOf5, v5 := Tryz.zeroValue5, infoByte := by kernel_rfl, cellsByte := by kernel_rfl, sizeByte := by kernel_rfl, neB5 := by decide }
theorem bxWB : Builder.Extra Tryz.prog Tryz.lx62_ren := { sizeBuilder := by kernel_rfl, liesBuilder := by kernel_rfl, t5 := Tryz.underlying5, a5 := Tryz.isAgg5, z5 := Tryz.sizeOf5, v5 := Tryz.zeroValue5, infoByte := by kernel_rfl, cellsByte := by kernel_rfl, sizeByte := by kernel_rfl, neB5 := by decide }
theorem bxSt : Builder.Extra Tryz.prog Tryz.lx63_ren := { sizeBuilder := by kernel_rfl, liesBuilder := by kernel_rfl, t5 := Tryz.underlying5, a5 := Tryz.isAgg5, z5 := Tryz.sizeOf5, v5 := Tryz.zeroValue5, infoByte := by kernel_rfl, cellsByte := by kernel_rfl, sizeByte := by kernel_rfl, neB5 := by decide }
/-- A builder in block b that holds these bytes. -/
def Bld (b : Nat) (l : List UInt8) (w : World) : Prop := Lib.IsBuilder 95 5 b b (Lib.byteCells l) w
theorem Bld.lt {b : Nat} {l : List UInt8} {w : World} (h : Bld b l w) : b < w.heap.size := by
  rcases h with h | h
  · exact h.lt
  · exact h.lt
theorem Bld.kept {b : Nat} {l : List UInt8} {w w' : World} (h : Bld b l w) (hb : Below w.heap.size w w') : Bld b l w' := by
  have key : ∀ p, Lib.BuilderAt 95 5 b b p (Lib.byteCells l) w → Lib.BuilderAt 95 5 b b p (Lib.byteCells l) w' := fun p h => by
    have hlt := h.lt
    obtain ⟨h1, v, h2, h3, h4⟩ := h
    exact ⟨h1, v, by rw [hb.block b hlt]; exact h2, own_kept h3 hb, h4⟩
  exact h.imp (key _) (key _)
theorem Bld.fresh (w : World) : Bld w.heap.size [] (w.alloc (.cells #[.pointer none, .slice none 0 0] 95)) := Lib.fresh_isBuilder _ _ _
theorem WriteString_any (b : Nat) (l s : List UInt8) (w : World) (h : Bld b l w) (hl : l.length ≤ 1000000) (hs : s.length ≤ 1000000) :
    Calls Tryz.prog 61 #[.pointer (some ⟨b, 0, none⟩), .string ⟨s.toArray⟩] w fun e w' => e = .returned (.tuple #[.int .i64 (s.length : Int), .nilIface]) ∧ Bld b (l ++ s) w' ∧ Below b w w' := by
  have hsz := size_text s
  refine (Any.Builder_WriteString Tryz.lx61 bxWS b b (Lib.byteCells l) ⟨s.toArray⟩ w h (by rw [Lib.byteCells_length, hsz]; omega) (Nat.le_of_lt h.lt)).mono ?_
  rintro e w' ⟨rfl, h1, h2⟩
  refine ⟨by rw [hsz], .inr ?_, h2⟩
  rw [Lib.byteCells_append]
  exact h1
theorem WriteByte_any (b : Nat) (l : List UInt8) (c : UInt8) (w : World) (h : Bld b l w) (hl : l.length ≤ 1000000) :
    Calls Tryz.prog 62 #[.pointer (some ⟨b, 0, none⟩), .int .u8 (c.toNat : Int)] w fun e w' => e = .returned .nilIface ∧ Bld b (l ++ [c]) w' ∧ Below b w w' := by
  refine (Any.Builder_WriteByte Tryz.lx62 bxWB b b (Lib.byteCells l) (c.toNat : Int) w h (by rw [Lib.byteCells_length]; omega) (Nat.le_of_lt h.lt)).mono ?_
  rintro e w' ⟨rfl, h1, h2⟩
  refine ⟨rfl, .inr ?_, h2⟩
  rw [Lib.byteCells_append]
  exact h1
theorem BString_any (b : Nat) (l : List UInt8) (w : World) (h : Bld b l w) :
    Calls Tryz.prog 63 #[.pointer (some ⟨b, 0, none⟩)] w fun e w' => e = .returned (.string ⟨l.toArray⟩) ∧ Below b w w' :=
  Any.Builder_String_any Tryz.lx63 bxSt b b l w h (Nat.le_of_lt h.lt)
theorem CrateText_any (c : Cr) (w : World) (ht : Tab w) : Calls Tryz.prog 9 #[cv c] w fun e w' => e = .returned (.string ⟨(if c.ok = true then crT c else []).toArray⟩) ∧ Below w.heap.size w w' := by
  have HT := Lib.hid ht
  have HV := Lib.hid (fun W => ValidCrate_any c W)
  generalize hT : (if c.ok = true then crT c else []) = t
  go_enter Tryz.func9, Tryz.ntmps9
  go_upto_region 1 with fail
  generalize hW : World.alloc _ _ = W
  have H0 : Below w.heap.size w W := by rw [← hW]; go_grown
  have r0 : rowOf W (w.heap.size) = some ((cc c).toArray) := (by (try rw [← hW]); simp only [rowOf_alloc, World.size_alloc, ↓reduceIte]; all_goals ((repeat' split) <;> first | omega | (exfalso; omega) | rfl))
  clear hW
  have l0 : w.heap.size ≤ w.heap.size := Nat.le_refl _
  generalize h0 : w.heap.size = g0 at r0 ⊢
  replace l0 : w.heap.size ≤ g0 := Nat.le_of_eq h0
  clear h0
  have b0 := rowOf_lt r0
  have H := Below.refl W.heap.size W
  cases e1 : c.ok with
  | false =>
    have e2 := Lib.hid e1
    obtain rfl : t = [] := by rw [← hT, e1]; rfl
    clear hT e1
    go_wp2_with (first | ((with_reducible refine wp_load_rowBg H ?_ _ _ rfl _ rfl _ r0 _ Tryz.underlying28 rfl (infoC c) ?_); rfl) | (go_at_call 18; refine (HV.out _).mono ?_; rintro e w' ⟨rfl, hb⟩; rw [e2.out]; replace H := bstep H hb; clear hb))
    go_ret
    exact ⟨rfl, bstep H0 H⟩
  | true =>
    have e2 := Lib.hid e1
    obtain rfl : t = crT c := by rw [← hT, e1]; rfl
    have HOK := Lib.hid (ok_at.1 e1)
    have HLN := Lib.hid (crK_len e1)
    clear hT e1
    go_upto_region 3 with (first | ((with_reducible refine wp_load_rowBg H ?_ _ _ rfl _ rfl _ r0 _ Tryz.underlying28 rfl (infoC c) ?_); rfl) | (go_at_call 18; refine (HV.out _).mono ?_; rintro e w' ⟨rfl, hb⟩; rw [e2.out]; replace H := bstep H hb; clear hb))
    have hI := Bld.fresh w'
    have hA : Below W.heap.size W (w'.alloc (.cells #[.pointer none, .slice none 0 0] 95)) := H.alloc H.size _
    have hgb : w.heap.size ≤ w'.heap.size := (bstep H0 H).size
    go_upto_region 4 with fail
    generalize w'.alloc (.cells #[.pointer none, .slice none 0 0] 95) = Wb at hI hA ⊢
    replace H := hA
    clear hA
    generalize w'.heap.size = gb at hI hgb ⊢
    replace hI := Lib.hid hI
    go_wp2_with ((with_reducible refine wp_load_rowBg H ?_ _ _ rfl _ rfl _ r0 _ Tryz.underlying28 rfl (infoC c) ?_); rfl)
    replace H0 := bstep H0 H
    clear H r0 b0 l0
    go_loopw [13] (fun i wr => ∃ k : Nat, k ≤ 12 ∧ i = .int .i64 k ∧ Hid (Bld gb (crK c k) wr) ∧ Below gb Wb wr) (fun i _ => 12 - (intOf i).toNat)
    case atStart => exact ⟨0, by omega, rfl, hI.out, Below.refl _ _⟩
    case round =>
      obtain ⟨k, hk, rfl, HB, hb⟩ := hrel
      have HTr := Lib.hid (HT.out.below (H0.trans (hb.mono hgb)))
      have hgl := HB.out.lt
      by_cases hlt : k < 12
      · have hE := run_indexC c k hlt
        have hK := crK_succ c k
        have hfine := HOK.out k hlt
        have hlen := HLN.out k hk
        have hwl := wordT_len hfine
        generalize rB c.toList k = b at hE hK hfine hwl
        replace hK := Lib.hid hK
        have htm : (k : Int).tmod 4 = (k : Int) % 4 := Int.tmod_eq_emod_of_nonneg (by omega)
        have hwm : IntKind.i64.wrap ((k : Int) % 4) = (k : Int) % 4 := by rw [IntKind.wrap_i64]; omega
        go_upto_region 7 with (((with_reducible refine wp_store_rowOf rfl rfl _ _ _ rfl _ rfl (#[.int .u8 b.k, .int .i16 b.y] : Array Value) rfl #[.int .u8 0, .int .i16 0] ?hr rfl (infoB _ _) (bv_one _ _) ?_); (case hr => rw [rowOf_alloc, if_pos rfl])))
        generalize hW1 : World.setRow _ _ _ = W1
        obtain ⟨HB1, r1, b1⟩ := laid_row (Below.refl wr.heap.size wr) hW1
        clear hW1
        have HBl1 := Lib.hid (HB.out.kept HB1)
        have HT1 := Lib.hid (HTr.out.below HB1)
        have hb1 := hb.trans (HB1.mono (Nat.le_of_lt hgl))
        have hgl1 : gb ≤ W1.heap.size := Nat.le_of_lt HBl1.out.lt
        clear HB1 hE
        generalize wr.heap.size = g1 at *
        have H := Below.refl W1.heap.size W1
        have htx := fun W hW => BottleText_any b W hW
        generalize hS : (if b.ok = true then botT b else []) = sT at htx
        cases e3 : b.em with
        | true =>
          obtain rfl : sT = [] := by rw [← hS, em_nok e3]; rfl
          have hWT : Hid (wordT b = [45]) := if_pos e3
          replace htx := Lib.hid htx
          clear hS e3 hwl hfine
          go_upto_region 10 with (first | ((with_reducible refine wp_load_rowBg H ?_ _ _ rfl _ rfl _ r1 _ Tryz.underlying26 rfl (infoB _ _) ?_); rfl) | (go_at_call 11; go_loud (refine (htx.out _ (HT1.out.below H)).mono ?_; rintro e w2 ⟨rfl, hb2⟩; replace H := bstep H hb2; clear hb2)))
          cases hm : decide (k % 4 = 3) with
          | true =>
            have hm1 := of_decide_eq_true hm
            have hm2 : (k : Int) % 4 = 3 := by omega
            have hE2 : Hid (endT k = 10) := if_pos hm1
            clear hm hm1
            go_wp2_with (first | (go_at_call 61; go_loud (refine (WriteString_any gb (crK c k) [45] _ (HBl1.out.kept H) (by omega) (by first | omega | (simp; try omega))).mono ?_; rintro e w4 ⟨rfl, h4, hb4⟩)) | (go_at_call 62; go_loud (refine (WriteByte_any gb (crK c k ++ [45]) 10 _ h4 (by simp; omega)).mono ?_; rintro e w5 ⟨rfl, h5, hb5⟩)))
            go_roundw
            case rel => exact ⟨k + 1, by omega, by go_num, by rw [hK.out, hWT.out, hE2.out, ← List.append_assoc]; exact h5, (((hb1.trans (H.mono hgl1)).trans hb4).trans hb5)⟩
            case measure => simp [intOf]; omega
          | false =>
            have hm1 := of_decide_eq_false hm
            have hm2 : ¬ (k : Int) % 4 = 3 := by omega
            have hE2 : Hid (endT k = 32) := if_neg hm1
            clear hm hm1
            go_wp2_with (first | (go_at_call 61; go_loud (refine (WriteString_any gb (crK c k) [45] _ (HBl1.out.kept H) (by omega) (by first | omega | (simp; try omega))).mono ?_; rintro e w4 ⟨rfl, h4, hb4⟩)) | (go_at_call 62; go_loud (refine (WriteByte_any gb (crK c k ++ [45]) 32 _ h4 (by simp; omega)).mono ?_; rintro e w5 ⟨rfl, h5, hb5⟩)))
            go_roundw
            case rel => exact ⟨k + 1, by omega, by go_num, by rw [hK.out, hWT.out, hE2.out, ← List.append_assoc]; exact h5, (((hb1.trans (H.mono hgl1)).trans hb4).trans hb5)⟩
            case measure => simp [intOf]; omega
        | false =>
          have hok : b.ok = true := by
            unfold Bt.fine at hfine
            rw [e3, Bool.false_or] at hfine
            exact hfine
          obtain rfl : sT = botT b := by rw [← hS, if_pos hok]
          have hWT : Hid (wordT b = botT b) := if_neg (by rw [e3]; simp)
          have hlb := botT_len hok
          have hne : (botT b == []) = false := by
            rw [← Bool.not_eq_true, beq_iff_eq]
            exact botT_ne b
          replace htx := Lib.hid htx
          clear hS e3 hwl hfine hok
          generalize botT b = sT at htx hWT hlb hne
          have htl : (⟨sT.toArray⟩ : ByteArray).toList = sT := by simp
          go_upto_region 10 with (first | ((with_reducible refine wp_load_rowBg H ?_ _ _ rfl _ rfl _ r1 _ Tryz.underlying26 rfl (infoB _ _) ?_); rfl) | (go_at_call 11; go_loud (refine (htx.out _ (HT1.out.below H)).mono ?_; rintro e w2 ⟨rfl, hb2⟩; replace H := bstep H hb2; clear hb2)))
          cases hm : decide (k % 4 = 3) with
          | true =>
            have hm1 := of_decide_eq_true hm
            have hm2 : (k : Int) % 4 = 3 := by omega
            have hE2 : Hid (endT k = 10) := if_pos hm1
            clear hm hm1
            go_wp2_with (first | (go_at_call 61; go_loud (refine (WriteString_any gb (crK c k) sT _ (HBl1.out.kept H) (by omega) (by first | omega | (simp; try omega))).mono ?_; rintro e w4 ⟨rfl, h4, hb4⟩)) | (go_at_call 62; go_loud (refine (WriteByte_any gb (crK c k ++ sT) 10 _ h4 (by simp; omega)).mono ?_; rintro e w5 ⟨rfl, h5, hb5⟩)))
            go_roundw
            case rel => exact ⟨k + 1, by omega, by go_num, by rw [hK.out, hWT.out, hE2.out, ← List.append_assoc]; exact h5, (((hb1.trans (H.mono hgl1)).trans hb4).trans hb5)⟩
            case measure => simp [intOf]; omega
          | false =>
            have hm1 := of_decide_eq_false hm
            have hm2 : ¬ (k : Int) % 4 = 3 := by omega
            have hE2 : Hid (endT k = 32) := if_neg hm1
            clear hm hm1
            go_wp2_with (first | (go_at_call 61; go_loud (refine (WriteString_any gb (crK c k) sT _ (HBl1.out.kept H) (by omega) (by first | omega | (simp; try omega))).mono ?_; rintro e w4 ⟨rfl, h4, hb4⟩)) | (go_at_call 62; go_loud (refine (WriteByte_any gb (crK c k ++ sT) 32 _ h4 (by simp; omega)).mono ?_; rintro e w5 ⟨rfl, h5, hb5⟩)))
            go_roundw
            case rel => exact ⟨k + 1, by omega, by go_num, by rw [hK.out, hWT.out, hE2.out, ← List.append_assoc]; exact h5, (((hb1.trans (H.mono hgl1)).trans hb4).trans hb5)⟩
            case measure => simp [intOf]; omega
      · obtain rfl : k = 12 := by omega
        go_wp2_with (go_at_call 63; refine (BString_any gb (crK c 12) _ HB.out).mono ?_; rintro e w2 ⟨rfl, hb2⟩)
        go_ret
        exact ⟨rfl, H0.trans ((hb.trans hb2).mono hgb)⟩
end Go.Proofs.YtbngpcghognojaaGreatDoor
