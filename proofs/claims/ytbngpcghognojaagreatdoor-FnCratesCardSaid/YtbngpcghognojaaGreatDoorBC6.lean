/- Texts of the claim, joined (6 of 19): All, Put. -/
import Derived.Test.YtbngpcghognojaaGreatDoorBC3
import Derived.Test.YtbngpcghognojaaGreatDoorBC4
namespace Go.Proofs.YtbngpcghognojaaGreatDoor
open Go.RowKit
set_option linter.unusedVariables false
set_option linter.unusedSimpArgs false
set_option maxRecDepth 100000
set_option maxHeartbeats 1000000
/-- A bottle. -/
def Bt.is (b : Bt) : Bool := !b.em
/-- All bottles of a crate. -/
def allB (c : Cr) : List Bt := c.toList.filter Bt.is
def allK (c : Cr) (k : Nat) : List Bt := (c.toList.take k).filter Bt.is
theorem allK_le (c : Cr) (k : Nat) : (allK c k).length ≤ 12 := by
  refine Nat.le_trans (List.length_filter_le _ _) ?_
  rw [List.length_take, Vector.length_toList]
  omega
theorem allK_yes {c : Cr} {k : Nat} (hk : k < 12) (h : (rB c.toList k).em = false) : allK c (k + 1) = allK c k ++ [rB c.toList k] := by
  have hl : k < c.toList.length := by rw [Vector.length_toList]; exact hk
  unfold allK
  rw [List.take_succ_eq_append_getElem hl, List.filter_append, ← rB_lt hl]
  simp [Bt.is, h]
theorem allK_no {c : Cr} {k : Nat} (hk : k < 12) (h : (rB c.toList k).em = true) : allK c (k + 1) = allK c k := by
  have hl : k < c.toList.length := by rw [Vector.length_toList]; exact hk
  unfold allK
  rw [List.take_succ_eq_append_getElem hl, List.filter_append, ← rB_lt hl]
  simp [Bt.is, h]
theorem allK_full (c : Cr) : allK c 12 = allB c := by
  unfold allK
  rw [List.take_of_length_le (by rw [Vector.length_toList]; exact Nat.le_refl _)]
  rfl
theorem allB_le (c : Cr) : (allB c).length ≤ 12 := by rw [← allK_full]; exact allK_le c 12
def allR (c : Cr) : List Bt × Int := if c.ok = true then (allB c, 0) else ([], 1)
theorem infoBt : (Tryz.prog.info? 26).map (fun i => (i.zero, i.size, i.bytes)) = some (some (.agg #[.int .u8 0, .int .i16 0]), 2, 4) := by kernel_rfl
section
variable {ops : Array Oper} {rest : List Oper} {o : Oper} {a : Act} {Q : Exit → Act → World → Prop} {W : World}
theorem wp_app_bot (B : Nat) (hgd : o.guard = none) (s x : Operand) (ho : o.op = .call { callee := .builtin .append, args := #[s, x], argTypes := #[38, 38] })
    (v : Value) (l : List Bt) (b : Bt) (hs : a.eval s = v) (g : Nat) (hx : a.eval x = .slice (some ⟨g, 0, none⟩) 1 1) (hg : g = W.heap.size)
    (HO : W.ownsRow B 26 2 v l.length (fl bc l)) (hB : B ≤ W.heap.size) (hn : l.length ≤ 100000000)
    (h : ∀ v1 w1, w1.ownsRow B 26 2 v1 (l ++ [b]).length (fl bc (l ++ [b])) → Below B W w1 → wpList Tryz.prog ops Q rest (a.put o.dst v1) w1) : wpList Tryz.prog ops Q (o :: rest) a (W.alloc (.cells #[.int .u8 b.k, .int .i16 b.y] 26)) :=
  wp_app (P := Tryz.prog) B hgd s x 38 26 ho (.agg #[.int .u8 0, .int .i16 0]) 2 4 Tryz.underlying38 infoBt rfl (by decide) v l.length (fl bc l) (bc b) hs g hx hg rfl (bc_one b) HO hB (by omega) (by decide)
    (fun v1 w1 h1 h2 => h v1 w1 (by rw [List.length_append, fl_append, fl_one]; exact h1) h2)
end
theorem l01All_row {W w : World} {g : Nat} {c : Cr} (H : Below W.heap.size W w) (hr : rowOf W g = some (cc c).toArray) :
    Calls Tryz.prog 73 #[.pointer (some ⟨g, 0, none⟩)] w fun e w' => ∃ v, e = .returned v ∧ w'.ownsRow w.heap.size 26 2 v (allB c).length (fl bc (allB c)) ∧ Below w.heap.size w w' := by
  have HR := Lib.hid (row_kept hr H)
  have HL := Lib.hid (Vector.length_toList (xs := c))
  clear hr H
  go_enter Tryz.func73, Tryz.ntmps73
  go_wp2
  go_loopw [3, 4] (fun v i wr => ∃ k : Nat, k ≤ 12 ∧ i = .int .i64 k ∧ Hid (wr.ownsRow w.heap.size 26 2 v (allK c k).length (fl bc (allK c k))) ∧ Below w.heap.size w wr) (fun _ i _ => 12 - (intOf i).toNat)
  case atStart =>
    refine ⟨0, by omega, rfl, ?_, by go_grown⟩
    exact World.ownsRow_lit (base := w.heap.size) (e := 26) (size := 2) w #[] 0 (by simp) (by simp [maxLen]) (by simp)
  case round =>
    obtain ⟨k, hk, rfl, HO, hb⟩ := hrel
    by_cases hlt : k < 12
    · have hkl : k < c.toList.length := by rw [HL.out]; exact hlt
      have HB := Lib.hid hb
      have HX := Lib.hid (row_kept HR.out hb)
      have HK := Lib.hid hkl
      have x0 := row0 HX.out hkl
      have x1 := row1 HX.out hkl
      have HY := Lib.hid (@allK_yes c k hlt)
      have HN := Lib.hid (@allK_no c k hlt)
      have HP := Lib.hid (allK_le c k)
      clear hkl hb
      generalize hbe : rB c.toList k = b at x0 x1 HY HN
      replace hbe := Lib.hid hbe
      cases e1 : b.em with
      | true =>
        have HN' := Lib.hid (HN.out e1)
        clear HN HY
        go_wp2_with (go_at_call 119; refine (l01Free_any b _).mono ?_; rintro e w' ⟨rfl, hb1⟩)
        go_roundw
        case rel => exact ⟨k + 1, by omega, by go_num, by rw [HN'.out]; exact own_kept HO.out hb1, bstep HB.out hb1⟩
        case measure => simp [intOf]; omega
      | false =>
        have HY' := Lib.hid (HY.out e1)
        clear HN HY
        go_wp2_with (first | (go_at_call 119; refine (l01Free_any b _).mono ?_; rintro e w' ⟨rfl, hb1⟩; replace x0 := row0 (row_kept HX.out hb1) HK.out; replace x1 := row1 (row_kept HX.out hb1) HK.out; rw [hbe.out] at x0 x1) | (at_builtin; go_loud (refine wp_app_bot w.heap.size rfl _ _ rfl _ (allK c k) b rfl _ rfl ?hg ?HO ?hB ?hn ?_); (case hg => simp); (case HO => exact own_kept HO.out hb1); (case hB => have := HB.out.size; have := hb1.size; omega); (case hn => have := HP.out; omega); intro v1 w1 hown hb2))
        go_roundw
        case rel => exact ⟨k + 1, by omega, by go_num, by rw [HY'.out]; exact hown, (bstep HB.out hb1).trans hb2⟩
        case measure => simp [intOf]; omega
    · obtain rfl : k = 12 := by omega
      rw [allK_full] at HO
      go_wp2
      go_ret
      exact ⟨_, rfl, HO.out, hb⟩
theorem sBottlesIn_any (c : Cr) (w : World) : Calls Tryz.prog 17 #[cv c] w fun e w' => ∃ v, e = .returned (.tuple #[v, .int .i64 (allR c).2]) ∧ w'.ownsRow w.heap.size 26 2 v (allR c).1.length (fl bc (allR c).1) ∧ Below w.heap.size w w' := by
  go_enter Tryz.func17, Tryz.ntmps17
  go_upto_region 1 with fail
  generalize hW : World.alloc _ _ = W
  have H0 : Below w.heap.size w W := by rw [← hW]; go_grown
  have r0 : rowOf W (w.heap.size) = some ((cc c).toArray) := (by (try rw [← hW]); simp only [rowOf_alloc, World.size_alloc, ↓reduceIte]; all_goals ((repeat' split) <;> first | omega | (exfalso; omega) | rfl))
  clear hW
  have l0 : w.heap.size ≤ w.heap.size := Nat.le_refl _
  generalize h0 : w.heap.size = g0 at r0 ⊢
  replace l0 : w.heap.size ≤ g0 := Nat.le_of_eq h0
  clear h0
  have b0 := rowOf_lt r0
  have H := Below.refl W.heap.size W
  cases e1 : c.ok with
  | false =>
    have HF := Lib.hid (show allR c = ([], 1) by simp [allR, e1])
    go_wp2_with (go_at_call 68; with_reducible refine (l01Ok_row H r0).mono ?_; rintro e w' ⟨rfl, hb⟩; replace H := bstep H hb; clear hb; have hc := bcell H)
    rw [HF.out]
    exact bodyPost_ret (results_tt rfl) rfl ⟨_, rfl, World.ownsRow_lit (base := w.heap.size) (e := 26) (size := 2) w' #[] 0 (bstep H0 H).size (by simp [maxLen]) rfl, (bstep H0 H).alloc (bstep H0 H).size _⟩
  | true =>
    have HF := Lib.hid (show allR c = (allB c, 0) by simp [allR, e1])
    go_wp2_with (first | (go_at_call 68; with_reducible refine (l01Ok_row H r0).mono ?_; rintro e w' ⟨rfl, hb⟩; replace H := bstep H hb; clear hb; have hc := bcell H) | (go_at_call 73; refine (l01All_row H r0).mono ?_; rintro e w2 ⟨v, rfl, hown, hb⟩))
    rw [HF.out]
    exact bodyPost_ret (results_tt rfl) rfl ⟨v, rfl, own_down hown (bstep H0 H).size, (bstep H0 H).trans (hb.mono (bstep H0 H).size)⟩
attribute [local go_sem high] eqB
theorem bottles1_any (b : Bt) (w : World) : Calls Tryz.prog 122 #[bv b] w fun e w' => e = .returned (.bool b.em) ∧ Below w.heap.size w w' := by
  have h := Tryz.underlying26
  obtain ⟨k, y, hk, hy⟩ := b
  go_enter Tryz.func122, Tryz.ntmps122
  go_wp2
  go_ret
  exact ⟨rfl, (Below.refl _ _).alloc (Nat.le_refl _) _⟩
theorem em_pays (w : World) : PredBelow Tryz.prog 122 #[] (fun x : Bt => .agg (bc x).toArray) Bt.em w :=
  fun W x hb => (bottles1_any x W).mono fun _ _ ⟨he, h⟩ => ⟨he, hb.trans (h.mono hb.size)⟩
theorem IndexFunc_bot (b off c : Nat) (l : List Bt) (w : World) (hm : l.length ≤ 1000000000) (hC : CAt w b off (fl bc l)) (hb : b < w.heap.size) :
    Calls Tryz.prog 126 #[.slice (some ⟨b, off, none⟩) l.length c, .func (.func 122) #[] #[]] w fun e w' => e = .returned (.int .i64 (Lib.idxBy (fun _ y => Bt.em y) l default)) ∧ Below w.heap.size w w' := by
  have := AnyQ.slices_IndexFunc Tryz.lx126 2 Tryz.isAgg26 Tryz.sizeOf26 bc bc_length Bt.em 122 #[] (enters_of Tryz.func122 (by kernel_rfl) rfl) b off l.length c l w (em_pays w) (Nat.le_refl _) (by omega) hb (fun j hj i v hv => by have := hC.el bc_length hj i v hv; rwa [Nat.add_assoc] at this ⊢)
  rwa [List.take_length] at this
theorem zero_one (n : Nat) : ∀ v ∈ (Builtin.zeroCells (Value.cells (.agg #[.int .u8 0, .int .i16 0])) n).toList, v.oneCell' = true := by
  intro v hv
  simp only [Builtin.zeroCells, Value.cells, Array.toList_map, List.mem_map] at hv
  obtain ⟨i, _, rfl⟩ := hv
  have : i % 2 = 0 ∨ i % 2 = 1 := by omega
  show ((#[.int .u8 0, .int .i16 0] : Array Value)[i % 2]!).oneCell' = true
  rcases this with h | h <;> rw [h] <;> rfl
theorem first_or {α : Type} [Inhabited α] (p : α → Bool) : ∀ l : List α, (∀ j, j < l.length → p l[j]! = false) ∨ ∃ k, k < l.length ∧ p l[k]! = true ∧ ∀ j, j < k → p l[j]! = false
  | [] => .inl fun j hj => absurd hj (Nat.not_lt_zero _)
  | x :: l => by
    cases hx : p x with
    | true => exact .inr ⟨0, by simp, by simpa using hx, fun j hj => absurd hj (Nat.not_lt_zero _)⟩
    | false =>
      rcases first_or p l with h | ⟨k, hk, h1, h2⟩
      · refine .inl fun j hj => ?_
        cases j with
        | zero => simpa using hx
        | succ j => simpa using h j (by simpa using hj)
      · refine .inr ⟨k + 1, by simpa using hk, by simpa using h1, fun j hj => ?_⟩
        cases j with
        | zero => simpa using hx
        | succ j => simpa using h2 j (by omega)
theorem filter_all {l : List Bt} (h : ∀ j, j < l.length → Bt.em l[j]! = false) : l.filter Bt.is = l := by
  rw [List.filter_eq_self]
  intro x hx
  obtain ⟨j, hj, rfl⟩ := List.getElem_of_mem hx
  have := h j hj
  rw [getB hj] at this
  simp [Bt.is, this]
/-- All of the first j that are bottles. -/
def keptK (l : List Bt) (j : Nat) : List Bt := (l.take j).filter Bt.is
theorem keptK_le (l : List Bt) (j : Nat) : (keptK l j).length ≤ j := by
  refine Nat.le_trans (List.length_filter_le _ _) ?_
  rw [List.length_take]
  omega
theorem keptK_yes {l : List Bt} {j : Nat} (hj : j < l.length) (h : l[j]!.em = false) : keptK l (j + 1) = keptK l j ++ [l[j]!] := by
  unfold keptK
  rw [List.take_succ_eq_append_getElem hj, List.filter_append, ← getB hj]
  simp only [List.filter_cons, Bt.is, h, Bool.not_false, ↓reduceIte, List.filter_nil]
theorem keptK_no {l : List Bt} {j : Nat} (hj : j < l.length) (h : l[j]!.em = true) : keptK l (j + 1) = keptK l j := by
  unfold keptK
  rw [List.take_succ_eq_append_getElem hj, List.filter_append, ← getB hj]
  simp only [List.filter_cons, Bt.is, h, Bool.not_true, Bool.false_eq_true, ↓reduceIte, List.filter_nil, List.append_nil]
section
variable {P : Program} {ops : Array Oper} {rest : List Oper} {o : Oper} {a : Act} {w : World} {Q : Exit → Act → World → Prop}
/-- clear(s[m:]) of an owned slice. -/
theorem wp_clear_own (hgd : o.guard = none) (hdst : o.dst = none) (x : Operand) (t : TypeId) (ho : o.op = .call { callee := .builtin .clear, args := #[x], argTypes := #[t] }) (e : TypeId) (ht : P.underlying t = some (.slice e)) (z : Value) (hz : ∀ w, (zeroValue e).run P w = .ok z w)
    (k : Nat) (hk : z.cells.size = k) (hone : ∀ n, ∀ v ∈ (Builtin.zeroCells z.cells n).toList, v.oneCell' = true) (B g n m q cap c : Nat) (xs : List Value) (HO : w.ownsRow B e k (.slice (some ⟨g, 0, none⟩) n cap) n xs) (hq : m + q = n) (hx : a.eval x = .slice (some ⟨g, m * k, none⟩) q c)
    (h : ∀ w1, w1.ownsRow B e k (.slice (some ⟨g, 0, none⟩) m cap) m (xs.take (m * k)) → Below B w w1 → wpList P ops Q rest a w1) : wpList P ops Q (o :: rest) a w := by
  obtain ⟨cur, hr, hh, hb, hn, hm, hc, hxs⟩ := own_row HO
  have hle : m * k + q * k = n * k := by rw [← hq, Nat.add_mul]
  have hle2 : n * k ≤ cap * k := Nat.mul_le_mul_right _ hn
  have hrun : ∃ cs : Array Value, cs.size = cur.size ∧ cs.toList.take (m * k) = cur.toList.take (m * k) ∧ (Builtin.clear_ #[t] o.type #[.slice (some ⟨g, m * k, none⟩) q c]).run P w = .ok (.tuple #[]) (w.setRow g cs) := by
    cases q with
    | zero =>
      refine ⟨cur, rfl, rfl, ?_⟩
      rw [setRow_self w g cur e (0, 0) hh]
      simp [Builtin.clear_, run_underlying ht]
    | succ q =>
      have hs := run_storeCells_at P g (m * k) e (Builtin.zeroCells z.cells (q + 1)).toList 0 cur w hh (by simp only [Array.length_toList, size_zeroCells, hk, Nat.add_zero]; omega) (hone _)
      rw [Nat.add_zero] at hs
      refine ⟨(cur.toList.take (m * k) ++ (Builtin.zeroCells z.cells (q + 1)).toList ++ cur.toList.drop (m * k + (Builtin.zeroCells z.cells (q + 1)).toList.length)).toArray, ?_, ?_, ?_⟩
      rotate_left
      rotate_left
      · simp only [Builtin.clear_, Sem.run_bind, run_underlying ht, hz, Result.andThen_ok, List.getElem?_toArray, List.getElem?_cons_zero]
        rw [hs]
        first | done | rfl | (simp; done) | (simp; rfl)
      · have hcl : cur.toList.length = cap * k := by simpa using hc
        simp only [List.size_toArray, List.length_append, List.length_take, List.length_drop, Array.length_toList, size_zeroCells, hk, Nat.add_zero, hc]
        omega
      · have hcl : cur.toList.length = cap * k := by simpa using hc
        rw [List.append_assoc, List.take_append_of_le_length (by rw [List.length_take]; omega), List.take_take, Nat.min_self]
  obtain ⟨cs, h1, h2, hrun⟩ := hrun
  refine wpList_plain hgd fun K hK => ?_
  have hstep : wpList P ops Q rest a (w.setRow g cs) := by
    refine h _ ⟨?_, .inr ⟨g, cap, cs, rfl, hb, setRow_heap w g _ _ _ _ hh, by omega, hm, by rw [h1, hc], ?_⟩⟩ (bsetRow (Below.refl _ _) hb _)
    · rw [List.length_take, HO.1]
      omega
    · rw [h2, ← hxs, List.take_take]
      congr 1
      omega
  have hdone := hK _ _ hstep
  unfold Oper.wp
  simp only [execOp, ho, resolve, invoke, builtin, hx, hrun, Result.andThen, Sem.run_bind, Sem.run_pure, List.map_toArray, List.map_cons, List.map_nil]
  first
    | exact hdone
    | (show K (a.put o.dst _) _; rw [hdst]; exact hdone)
    | (simp [hrun, Result.andThen]; show K (a.put o.dst _) _; rw [hdst]; exact hdone)
end
theorem set_kept {l s : List Bt} {i j : Nat} (hi : i = (keptK l j).length) (hij : i < j) (hs : s.length = l.length) (h1 : s.take i = keptK l j) (h2 : s.drop j = l.drop j) (hj : j < l.length) (h : l[j]!.em = false) :
    (s.set i l[j]!).take (i + 1) = keptK l (j + 1) ∧ (s.set i l[j]!).drop (j + 1) = l.drop (j + 1) ∧ (keptK l (j + 1)).length = i + 1 := by
  have hk := keptK_yes hj h
  refine ⟨?_, ?_, by rw [hk, List.length_append, ← hi]; rfl⟩
  · rw [hk, ← h1, List.take_succ_eq_append_getElem (by rw [List.length_set]; omega), List.getElem_set_self, List.take_set_of_le (Nat.le_refl _)]
  · rw [List.drop_set_of_lt (by omega)]
    have := congrArg (List.drop 1) h2
    simpa [List.drop_drop] using this
theorem at_kept {l s : List Bt} {j : Nat} (hs : s.length = l.length) (h2 : s.drop j = l.drop j) (hj : j < l.length) : s[j]! = l[j]! := by
  have h := congrArg (fun x => x[0]?) h2
  simp only [List.getElem?_drop, Nat.add_zero] at h
  rw [getB (by omega), getB hj]
  rw [List.getElem?_eq_getElem (by omega), List.getElem?_eq_getElem hj] at h
  exact Option.some.inj h
theorem DeleteFunc_bot (B g cap : Nat) (l : List Bt) (w : World) (HO : w.ownsRow B 26 2 (.slice (some ⟨g, 0, none⟩) l.length cap) l.length (fl bc l)) (hn : l.length ≤ 1000000) :
    Calls Tryz.prog 120 #[.slice (some ⟨g, 0, none⟩) l.length cap, .func (.func 122) #[] #[]] w fun e w' => ∃ v, e = .returned v ∧ w'.ownsRow B 26 2 v (l.filter Bt.is).length (fl bc (l.filter Bt.is)) ∧ Below B w w' := by
  have hI := fun W (hb : Below w.heap.size w W) => IndexFunc_bot g 0 cap l W (by omega) ((own_cells HO).below hb (own_lt HO g rfl)) (Nat.lt_of_lt_of_le (own_lt HO g rfl) hb.size)
  have hcap : l.length ≤ cap := by obtain ⟨_, _, _, _, h, _⟩ := own_row HO; exact h
  have hBw : B ≤ w.heap.size := Nat.le_trans (own_base HO g rfl) (Nat.le_of_lt (own_lt HO g rfl))
  have HO := Lib.hid HO
  rcases first_or Bt.em l with hno | ⟨k0, hk0, he, hne⟩
  · have e1 : Lib.idxBy (fun _ y => Bt.em y) l default = -1 := by
      have := Lib.idxBy_miss (fun _ y => Bt.em y) l l.length default (fun j hj => hno j hj)
      rwa [List.take_length] at this
    rw [e1] at hI
    rw [filter_all hno]
    clear e1 hno
    go_enter Tryz.func120, Tryz.ntmps120
    go_wp2_with (go_at_call 126; refine (hI _ (Below.refl _ _)).mono ?_; rintro e w1 ⟨rfl, hb⟩)
    go_ret
    exact ⟨_, rfl, own_kept HO.out hb, hb.mono hBw⟩
  · have e1 : Lib.idxBy (fun _ y => Bt.em y) l default = k0 := by
      have := Lib.idxBy_hit (fun _ y => Bt.em y) l l.length k0 default hk0 (Nat.le_refl _) he hne
      rwa [List.take_length] at this
    rw [e1] at hI
    have HK : Hid ((keptK l (k0 + 1)).length = k0 ∧ l.take k0 = keptK l (k0 + 1)) := by
      have h0 : keptK l k0 = l.take k0 := by
        unfold keptK
        refine filter_all fun j hj => ?_
        rw [List.length_take] at hj
        have := hne j (by omega)
        rw [getB (by omega)] at this
        rw [getB (by rw [List.length_take]; omega), List.getElem_take]
        exact this
      have h1 := keptK_no hk0 he
      rw [h1, h0]
      exact ⟨by rw [List.length_take]; omega, rfl⟩
    clear e1 he hne
    have hkm : ((k0 : Int) == -1) = false := by rw [beq_eq_false_iff_ne]; omega
    go_enter Tryz.func120, Tryz.ntmps120
    go_upto_region 4 with (go_at_call 126; refine (hI _ (Below.refl _ _)).mono ?_; rintro e w1 ⟨rfl, hb⟩)
    go_wp2
    go_loopw [5, 6] (fun iv jv wr => ∃ (i j : Nat) (s : List Bt), i < j ∧ j ≤ l.length ∧ iv = .int .i64 i ∧ jv = .int .i64 j ∧ Hid (i = (keptK l j).length ∧ s.length = l.length ∧ s.take i = keptK l j ∧ s.drop j = l.drop j ∧ wr.ownsRow B 26 2 (.slice (some ⟨g, 0, none⟩) l.length cap) l.length (fl bc s)) ∧ Below B w wr) (fun _ j _ => l.length - (intOf j).toNat)
    case atStart => exact ⟨k0, k0 + 1, l, by omega, by omega, rfl, by simp, ⟨HK.out.1.symm, rfl, HK.out.2, rfl, own_kept HO.out hb⟩, hb.mono hBw⟩
    case round =>
      clear hI HO HK hb hk0
      obtain ⟨i, j, s, hij, hj, rfl, rfl, HS, hb⟩ := hrel
      by_cases hlt : j < l.length
      · obtain ⟨h1, h2, h3, h4, HO⟩ := HS.out
        replace HO := Lib.hid HO
        have hjs : j < s.length := by rw [h2]; exact hlt
        have his : i < s.length := by omega
        have hx := at_kept h2 h4 hlt
        have CJ : CAt wr g 0 (bcs s) := by have := own_cells HO.out; rwa [fl_bc] at this
        have x0 := CJ.bot0 hjs
        have x1 := CJ.bot1 hjs
        have ex : rB s j = l[j]! := by rw [rB_lt hjs, ← getB hjs, hx]
        rw [Nat.zero_add, ex] at x0 x1
        have HY : Hid (l[j]!.em = false → (s.set i l[j]!).take (i + 1) = keptK l (j + 1) ∧ (s.set i l[j]!).drop (j + 1) = l.drop (j + 1) ∧ (keptK l (j + 1)).length = i + 1) := set_kept h1 hij h2 h3 h4 hlt
        have HN : Hid (l[j]!.em = true → keptK l (j + 1) = keptK l j) := keptK_no hlt
        have HD : Hid (s.drop (j + 1) = l.drop (j + 1)) := by
          have := congrArg (List.drop 1) h4
          simpa [Hid, List.drop_drop] using this
        have HH := Lib.hid (⟨h1, h2, h3⟩ : i = (keptK l j).length ∧ s.length = l.length ∧ s.take i = keptK l j)
        have HIS := Lib.hid his
        have HBG := Lib.hid (own_base HO.out g rfl)
        have hlt2 : (j : Int) < (l.length : Int) := by omega
        have hlt3 : (i : Int) < (l.length : Int) := by omega
        clear HS h1 h2 h3 h4 hx ex CJ hjs his
        generalize l[j]! = x at x0 x1 HY HN
        cases e1 : x.em with
        | true =>
          have HN' := Lib.hid (HN.out e1)
          clear HN HY
          go_wp2_with (go_at_call 122; generalize hW1 : World.alloc _ _ = W1; (have hg1 : Below wr.heap.size wr W1 := (by rw [← hW1]; go_grown)); (have z0 : W1.cell? ⟨wr.heap.size, 0, none⟩ = some (.int .u8 x.k) := (by rw [← hW1]; simp [go_sem])); have z1 : W1.cell? ⟨wr.heap.size, 1, none⟩ = some (.int .i16 x.y) := (by rw [← hW1]; simp [go_sem]); clear hW1; (refine (bottles1_any x _).mono ?_; rintro e w2 ⟨rfl, hb2⟩); (replace z0 := (hb2.cell (World.block_lt_of_cell? _ _ z0)).trans z0); replace z1 := (hb2.cell (World.block_lt_of_cell? _ _ z1)).trans z1; have HB2 := Lib.hid (bstep hg1 hb2); have HO2 := Lib.hid (own_kept HO.out HB2.out); clear hg1 hb2)
          go_roundw
          case rel => exact ⟨i, j + 1, s, by omega, by omega, rfl, by go_num, ⟨by rw [HN'.out]; exact HH.out.1, HH.out.2.1, by rw [HN'.out]; exact HH.out.2.2, HD.out, HO2.out⟩, hb.trans (HB2.out.mono (Nat.le_trans hBw hb.size))⟩
          case measure => simp [intOf]; omega
        | false =>
          have HY' := Lib.hid (HY.out e1)
          clear HN HY
          go_wp2_with (go_at_call 122; generalize hW1 : World.alloc _ _ = W1; (have hg1 : Below wr.heap.size wr W1 := (by rw [← hW1]; go_grown)); (have z0 : W1.cell? ⟨wr.heap.size, 0, none⟩ = some (.int .u8 x.k) := (by rw [← hW1]; simp [go_sem])); have z1 : W1.cell? ⟨wr.heap.size, 1, none⟩ = some (.int .i16 x.y) := (by rw [← hW1]; simp [go_sem]); clear hW1; (refine (bottles1_any x _).mono ?_; rintro e w2 ⟨rfl, hb2⟩); (replace z0 := (hb2.cell (World.block_lt_of_cell? _ _ z0)).trans z0); replace z1 := (hb2.cell (World.block_lt_of_cell? _ _ z1)).trans z1; have HB2 := Lib.hid (bstep hg1 hb2); have HO2 := Lib.hid (own_kept HO.out HB2.out); have CI : CAt w2 g 0 (bcs s) := (by have := own_cells HO2.out; rwa [fl_bc] at this); have y0 := CI.bot0 HIS.out; have y1 := CI.bot1 HIS.out; rw [Nat.zero_add] at y0 y1; have f0 := HO2.out.frozenAt (i * 2); have f1 := HO2.out.frozenAt (i * 2 + 1); clear CI; generalize rB s i = y at y0 y1; clear hg1 hb2)
          go_roundw
          case rel =>
            refine ⟨i + 1, j + 1, s.set i x, by omega, by omega, by go_num, by go_num, ⟨HY'.out.2.2.symm, by rw [List.length_set]; exact HH.out.2.1, HY'.out.1, HY'.out.2.1, ?_⟩, ?_⟩
            · have := ((HO2.out.stored (i * 2) (.int .u8 x.k)).1.stored (i * 2 + 1) (.int .i16 x.y)).1
              rw [fl_bc] at this ⊢
              rw [bcs_set _ _ _ HIS.out]
              exact this
            · exact ((hb.trans (HB2.out.mono (Nat.le_trans hBw hb.size))).setCell (by exact HBG.out) _).setCell (by exact HBG.out) _
          case measure => simp [intOf]; omega
      · obtain rfl : j = l.length := by omega
        obtain ⟨h1, h2, h3, -, HO⟩ := HS.out
        have hkk : keptK l l.length = l.filter Bt.is := by unfold keptK; rw [List.take_length]
        rw [hkk] at h1 h3
        have HF := Lib.hid (⟨h1, h3⟩ : i = (l.filter Bt.is).length ∧ s.take i = l.filter Bt.is)
        have hci : ¬ cap = i := by omega
        have hlt3 : (i : Int) < (l.length : Int) := by omega
        have hlt4 : (i : Int) ≤ (l.length : Int) := by omega
        have hlt5 : (i : Int) ≤ (cap : Int) := by omega
        clear HS h1 h2 h3 hkk
        go_wp2_with ((with_reducible refine wp_clear_own rfl rfl _ _ rfl 26 Tryz.underlying38 (.agg #[.int .u8 0, .int .i16 0]) Tryz.zeroValue26 2 rfl zero_one B g l.length i (l.length - i) cap _ _ HO (by omega) rfl ?_); intro w2 hO2 hb2)
        go_ret
        refine ⟨_, rfl, ?_, hb.trans hb2⟩
        have hO3 := hO2
        rw [fl_bc, ← bcs_take, ← fl_bc, HF.out.2] at hO3
        rw [← HF.out.1]
        exact hO3
theorem Clone_bot (b off c : Nat) (l : List Bt) (w : World) (hC : CAt w b off (fl bc l)) (hn : l.length ≤ 1000000) :
    Calls Tryz.prog 121 #[.slice (some ⟨b, off, none⟩) l.length c] w fun e w' => ∃ v, e = .returned v ∧ w'.ownsRow w.heap.size 26 2 v l.length (fl bc l) ∧ Below w.heap.size w w' := by
  obtain ⟨i0, hi, hzz⟩ := Option.map_eq_some_iff.1 infoBt
  simp only [Prod.mk.injEq] at hzz
  obtain ⟨hz0, hz1, hz2⟩ := hzz
  refine (AnyE.slices_Clone Tryz.lx121 i0 _ 2 4 hi hz0 hz1 hz2 rfl (by decide) Tryz.sizeOf26 b off l.length c (fl bc l) w (fl_length bc_length l) (by simp only [maxLen]; omega) (by omega) (fun j u hu => hC j u hu) (fun u hu => ?_)).mono ?_
  · simp only [fl, List.mem_flatMap] at hu
    obtain ⟨x, _, hx⟩ := hu
    exact bc_one x u hx
  · rintro e w' ⟨v, rfl, hown, -, hb⟩
    exact ⟨v, rfl, hown, hb⟩
theorem bottles_any (c : Cr) (w : World) : Calls Tryz.prog 69 #[cv c] w fun e w' => ∃ v, e = .returned v ∧ w'.ownsRow w.heap.size 26 2 v (allB c).length (fl bc (allB c)) ∧ Below w.heap.size w w' := by
  have hl : c.toList.length = 12 := Vector.length_toList
  go_enter Tryz.func69, Tryz.ntmps69
  go_upto_region 1 with fail
  generalize hW : World.alloc _ _ = W
  have H0 : Below w.heap.size w W := by rw [← hW]; go_grown
  have r0 : rowOf W (w.heap.size) = some ((cc c).toArray) := (by (try rw [← hW]); simp only [rowOf_alloc, World.size_alloc, ↓reduceIte]; all_goals ((repeat' split) <;> first | omega | (exfalso; omega) | rfl))
  clear hW
  have l0 : w.heap.size ≤ w.heap.size := Nat.le_refl _
  generalize h0 : w.heap.size = g0 at r0 ⊢
  replace l0 : w.heap.size ≤ g0 := Nat.le_of_eq h0
  clear h0
  have b0 := rowOf_lt r0
  have H := Below.refl W.heap.size W
  have HC : CAt W g0 0 (fl bc c.toList) := by rw [fl_bc]; exact CAt.of_row r0
  have hC := Clone_bot g0 0 12 c.toList W HC (by omega)
  rw [hl] at hC
  go_wp2_with (first | (go_at_call 121; refine hC.mono ?_; rintro e w1 ⟨v1, rfl, O1, hb⟩; obtain ⟨g1, cap, rfl⟩ := own_form O1 (by decide); replace H := bstep H hb; have hD := DeleteFunc_bot W.heap.size g1 cap c.toList w1 (by rw [hl]; exact O1) (by omega); rw [hl] at hD) | (go_at_call 120; refine hD.mono ?_; rintro e w2 ⟨v2, rfl, O2, hb2⟩))
  go_ret
  exact ⟨v2, rfl, own_down O2 H0.size, (bstep H0 H).trans (hb2.mono H0.size)⟩
theorem BottlesIn_any (c : Cr) (w : World) : Calls Tryz.prog 16 #[cv c] w fun e w' => ∃ v, e = .returned (.tuple #[v, .int .i64 (allR c).2]) ∧ w'.ownsRow w.heap.size 26 2 v (allR c).1.length (fl bc (allR c).1) ∧ Below w.heap.size w w' := by
  go_enter Tryz.func16, Tryz.ntmps16
  go_upto_region 1 with fail
  generalize hW : World.alloc _ _ = W
  have H0 : Below w.heap.size w W := by rw [← hW]; go_grown
  have r0 : rowOf W (w.heap.size) = some ((cc c).toArray) := (by (try rw [← hW]); simp only [rowOf_alloc, World.size_alloc, ↓reduceIte]; all_goals ((repeat' split) <;> first | omega | (exfalso; omega) | rfl))
  clear hW
  have l0 : w.heap.size ≤ w.heap.size := Nat.le_refl _
  generalize h0 : w.heap.size = g0 at r0 ⊢
  replace l0 : w.heap.size ≤ g0 := Nat.le_of_eq h0
  clear h0
  have b0 := rowOf_lt r0
  have H := Below.refl W.heap.size W
  cases e1 : c.ok with
  | false =>
    have HF := Lib.hid (show allR c = ([], 1) by simp [allR, e1])
    go_wp2_with (first | ((with_reducible refine wp_load_rowBg H ?_ _ _ rfl _ rfl _ r0 _ Tryz.underlying28 rfl (infoC c) ?_); rfl) | (go_at_call 18; with_reducible refine (ValidCrate_any c _).mono ?_; rintro e w' ⟨rfl, hb⟩; replace H := bstep H hb; clear hb; have hc := bcell H))
    rw [HF.out]
    exact bodyPost_ret (results_tt rfl) rfl ⟨_, rfl, own_nil, bstep H0 H⟩
  | true =>
    have HF := Lib.hid (show allR c = (allB c, 0) by simp [allR, e1])
    go_wp2_with (first | ((with_reducible refine wp_load_rowBg H ?_ _ _ rfl _ rfl _ r0 _ Tryz.underlying28 rfl (infoC c) ?_); rfl) | (go_at_call 18; with_reducible refine (ValidCrate_any c _).mono ?_; rintro e w' ⟨rfl, hb⟩; replace H := bstep H hb; clear hb; have hc := bcell H) | (go_at_call 69; refine (bottles_any c _).mono ?_; rintro e w2 ⟨v, rfl, hown, hb⟩))
    rw [HF.out]
    exact bodyPost_ret (results_tt rfl) rfl ⟨v, rfl, own_down hown (bstep H0 H).size, (bstep H0 H).trans (hb.mono (bstep H0 H).size)⟩
theorem allR_le (c : Cr) : (allR c).1.length ≤ 12 := by
  unfold allR
  split
  · exact allB_le c
  · simp
end Go.Proofs.YtbngpcghognojaaGreatDoor
namespace Go.Proofs.YtbngpcghognojaaGreatDoor
open Go.RowKit
set_option linter.unusedVariables false
set_option linter.unusedSimpArgs false
set_option maxRecDepth 100000
set_option maxHeartbeats 1000000
/-- A crate with a bottle in a place. -/
def setC (c : Cr) (i : Nat) (b : Bt) : Cr := ⟨(c.toList.set i b).toArray, by simp⟩
theorem setC_toList (c : Cr) (i : Nat) (b : Bt) : (setC c i b).toList = c.toList.set i b := rfl
/-- What PutBottle comes to. -/
def putR (c : Cr) (p : Int) (b : Bt) : Cr × Int :=
  if (c.ok && b.ok) = false then (zC, 1) else if (decide (0 ≤ p) && decide (p ≤ 11)) = false then (zC, 2) else if (rB c.toList p.toNat).em = false then (zC, 4) else (setC c p.toNat b, 0)
attribute [local go_sem high] eqB
theorem PutBottle_any (c : Cr) (p : Int) (b : Bt) (w : World) : Calls Tryz.prog 24 #[cv c, .int .i64 p, bv b] w fun e w' => e = .returned (.tuple #[cv (putR c p b).1, .int .i64 (putR c p b).2]) ∧ Below w.heap.size w w' := by
  go_enter Tryz.func24, Tryz.ntmps24
  go_upto_region 1 with fail
  generalize hW : World.alloc _ _ = W
  have H0 : Below w.heap.size w W := by rw [← hW]; go_grown
  have r0 : rowOf W (w.heap.size) = some ((cc c).toArray) := (by (try rw [← hW]); simp only [rowOf_alloc, World.size_alloc, ↓reduceIte]; all_goals ((repeat' split) <;> first | omega | (exfalso; omega) | rfl))
  have r1 : rowOf W (w.heap.size + 1) = some (#[.int .u8 b.k, .int .i16 b.y]) := (by (try rw [← hW]); simp only [rowOf_alloc, World.size_alloc, ↓reduceIte]; all_goals ((repeat' split) <;> first | omega | (exfalso; omega) | rfl))
  have r2 : rowOf W (w.heap.size + 1 + 1) = some ((cc zC).toArray) := (by (try rw [← hW]); simp only [rowOf_alloc, World.size_alloc, ↓reduceIte]; all_goals ((repeat' split) <;> first | omega | (exfalso; omega) | rfl))
  clear hW
  have q0 : w.heap.size < w.heap.size + 1 := by omega
  have q1 : w.heap.size + 1 < w.heap.size + 1 + 1 := by omega
  have l0 : w.heap.size ≤ w.heap.size := Nat.le_refl _
  generalize w.heap.size + 1 + 1 = g2 at r2 q1 ⊢
  generalize w.heap.size + 1 = g1 at r1 q0 q1 ⊢
  generalize h0 : w.heap.size = g0 at r0 q0 ⊢
  replace l0 : w.heap.size ≤ g0 := Nat.le_of_eq h0
  clear h0
  have b0 := rowOf_lt r0
  have b1 := rowOf_lt r1
  have b2 := rowOf_lt r2
  have H := Below.refl W.heap.size W
  have hu := Tryz.underlying26
  cases h1 : c.ok && b.ok with
  | false =>
    have HF := Lib.hid (show putR c p b = (zC, 1) by simp [putR, h1])
    cases e1 : c.ok with
    | false =>
      go_wp2_with (first | ((with_reducible refine wp_load_rowBg H ?_ _ _ rfl _ rfl _ r0 _ Tryz.underlying28 rfl (infoC c) ?_); rfl) | ((with_reducible refine wp_load_rowBg H ?_ _ _ rfl _ rfl _ r1 _ Tryz.underlying26 rfl (infoB _ _) ?_); rfl) | (go_at_call 18; with_reducible refine (ValidCrate_any c _).mono ?_; rintro e w' ⟨rfl, hb⟩; replace H := bstep H hb; clear hb; have hc := bcell H) | (go_at_call 19; with_reducible refine (ValidBottle_any b _).mono ?_; rintro e w' ⟨rfl, hb⟩; replace H := bstep H hb; clear hb; have hc := bcell H) | (go_at_call 82; with_reducible refine (isPlace_any _ _).mono ?_; rintro e w' ⟨rfl, rfl⟩) | (go_at_call 81; with_reducible refine (codeOf_any _ _ _).mono ?_; rintro e w' ⟨rfl, rfl⟩) | (with_reducible refine wp_store_zeroB H rfl rfl _ _ rfl _ rfl rfl _ r2 ?_) | (with_reducible refine wp_store_rowB H rfl rfl _ _ _ rfl _ rfl _ rfl _ r2 (cc_size2 _ _) (infoC _) (cc_one _) ?_))
      rw [HF.out]
      refine bodyPost_ret (results_ct rfl rfl (loadVar_rowOf (cc zC).toArray (by rw [rowOf_setRow, if_pos rfl, rowOf_below H (rowOf_lt r2), r2]; rfl) _ Tryz.underlying28 rfl (infoC _))) rfl ⟨rfl, bsetRow (bstep H0 H) (by omega) _⟩
    | true =>
      have e2 : b.ok = false := by rw [e1] at h1; exact h1
      go_wp2_with (first | ((with_reducible refine wp_load_rowBg H ?_ _ _ rfl _ rfl _ r0 _ Tryz.underlying28 rfl (infoC c) ?_); rfl) | ((with_reducible refine wp_load_rowBg H ?_ _ _ rfl _ rfl _ r1 _ Tryz.underlying26 rfl (infoB _ _) ?_); rfl) | (go_at_call 18; with_reducible refine (ValidCrate_any c _).mono ?_; rintro e w' ⟨rfl, hb⟩; replace H := bstep H hb; clear hb; have hc := bcell H) | (go_at_call 19; with_reducible refine (ValidBottle_any b _).mono ?_; rintro e w' ⟨rfl, hb⟩; replace H := bstep H hb; clear hb; have hc := bcell H) | (go_at_call 82; with_reducible refine (isPlace_any _ _).mono ?_; rintro e w' ⟨rfl, rfl⟩) | (go_at_call 81; with_reducible refine (codeOf_any _ _ _).mono ?_; rintro e w' ⟨rfl, rfl⟩) | (with_reducible refine wp_store_zeroB H rfl rfl _ _ rfl _ rfl rfl _ r2 ?_) | (with_reducible refine wp_store_rowB H rfl rfl _ _ _ rfl _ rfl _ rfl _ r2 (cc_size2 _ _) (infoC _) (cc_one _) ?_))
      rw [HF.out]
      refine bodyPost_ret (results_ct rfl rfl (loadVar_rowOf (cc zC).toArray (by rw [rowOf_setRow, if_pos rfl, rowOf_below H (rowOf_lt r2), r2]; rfl) _ Tryz.underlying28 rfl (infoC _))) rfl ⟨rfl, bsetRow (bstep H0 H) (by omega) _⟩
  | true =>
    have e1 : c.ok = true := by cases h : c.ok <;> simp_all
    have e2 : b.ok = true := by cases h : b.ok <;> simp_all
    cases h2 : decide (0 ≤ p) && decide (p ≤ 11) with
    | false =>
      have HF := Lib.hid (show putR c p b = (zC, 2) by simp only [putR, h1, h2]; rfl)
      clear h1
      go_wp2_with (first | ((with_reducible refine wp_load_rowBg H ?_ _ _ rfl _ rfl _ r0 _ Tryz.underlying28 rfl (infoC c) ?_); rfl) | ((with_reducible refine wp_load_rowBg H ?_ _ _ rfl _ rfl _ r1 _ Tryz.underlying26 rfl (infoB _ _) ?_); rfl) | (go_at_call 18; with_reducible refine (ValidCrate_any c _).mono ?_; rintro e w' ⟨rfl, hb⟩; replace H := bstep H hb; clear hb; have hc := bcell H) | (go_at_call 19; with_reducible refine (ValidBottle_any b _).mono ?_; rintro e w' ⟨rfl, hb⟩; replace H := bstep H hb; clear hb; have hc := bcell H) | (go_at_call 82; with_reducible refine (isPlace_any _ _).mono ?_; rintro e w' ⟨rfl, rfl⟩) | (go_at_call 81; with_reducible refine (codeOf_any _ _ _).mono ?_; rintro e w' ⟨rfl, rfl⟩) | (with_reducible refine wp_store_zeroB H rfl rfl _ _ rfl _ rfl rfl _ r2 ?_) | (with_reducible refine wp_store_rowB H rfl rfl _ _ _ rfl _ rfl _ rfl _ r2 (cc_size2 _ _) (infoC _) (cc_one _) ?_))
      rw [HF.out]
      refine bodyPost_ret (results_ct rfl rfl (loadVar_rowOf (cc zC).toArray (by rw [rowOf_setRow, if_pos rfl, rowOf_below H (rowOf_lt r2), r2]; rfl) _ Tryz.underlying28 rfl (infoC _))) rfl ⟨rfl, bsetRow (bstep H0 H) (by omega) _⟩
    | true =>
      obtain ⟨k, rfl⟩ := Int.eq_ofNat_of_zero_le (show 0 ≤ p by simp at h2; exact h2.1)
      have hk : k < 12 := by simp at h2; omega
      have hk1 : (k : Int) ≤ 11 := by omega
      have hkl : k < c.toList.length := by rw [Vector.length_toList]; exact hk
      have x0 := row0 r0 hkl
      have x1 := row1 r0 hkl
      have f0 := rowOf_frozen r0 (k * 2)
      have f1 := rowOf_frozen r0 (k * 2 + 1)
      have HF := Lib.hid (show putR c k b = if (rB c.toList k).em = false then (zC, 4) else (setC c k b, 0) by simp only [putR, h1, h2]; rfl)
      clear h1
      have HKL := Lib.hid hkl
      clear hkl
      generalize rB c.toList k = b' at x0 x1 HF
      cases e3 : b'.em with
      | false =>
        have e4 : (b'.k == 0 && b'.y == 0) = false := e3
        have HF' := Lib.hid (HF.out.trans (if_pos e3))
        clear e3 HF
        go_wp2_with (first | ((with_reducible refine wp_load_rowBg H ?_ _ _ rfl _ rfl _ r0 _ Tryz.underlying28 rfl (infoC c) ?_); rfl) | ((with_reducible refine wp_load_rowBg H ?_ _ _ rfl _ rfl _ r1 _ Tryz.underlying26 rfl (infoB _ _) ?_); rfl) | (go_at_call 18; with_reducible refine (ValidCrate_any c _).mono ?_; rintro e w' ⟨rfl, hb⟩; replace H := bstep H hb; clear hb; have hc := bcell H) | (go_at_call 19; with_reducible refine (ValidBottle_any b _).mono ?_; rintro e w' ⟨rfl, hb⟩; replace H := bstep H hb; clear hb; have hc := bcell H) | (go_at_call 82; with_reducible refine (isPlace_any _ _).mono ?_; rintro e w' ⟨rfl, rfl⟩) | (go_at_call 81; with_reducible refine (codeOf_any _ _ _).mono ?_; rintro e w' ⟨rfl, rfl⟩) | (with_reducible refine wp_store_zeroB H rfl rfl _ _ rfl _ rfl rfl _ r2 ?_) | (with_reducible refine wp_store_rowB H rfl rfl _ _ _ rfl _ rfl _ rfl _ r2 (cc_size2 _ _) (infoC _) (cc_one _) ?_))
        rw [HF'.out]
        refine bodyPost_ret (results_ct rfl rfl (loadVar_rowOf (cc zC).toArray (by rw [rowOf_setRow, if_pos rfl, rowOf_below H (rowOf_lt r2), r2]; rfl) _ Tryz.underlying28 rfl (infoC _))) rfl ⟨rfl, bsetRow (bstep H0 H) (by omega) _⟩
      | true =>
        have e4 : (b'.k == 0 && b'.y == 0) = true := e3
        have HF' := Lib.hid (HF.out.trans (if_neg (by rw [e3]; simp)))
        clear e3 HF
        go_upto_region 7 with (first | ((with_reducible refine wp_load_rowBg H ?_ _ _ rfl _ rfl _ r0 _ Tryz.underlying28 rfl (infoC c) ?_); rfl) | ((with_reducible refine wp_load_rowBg H ?_ _ _ rfl _ rfl _ r1 _ Tryz.underlying26 rfl (infoB _ _) ?_); rfl) | (go_at_call 18; with_reducible refine (ValidCrate_any c _).mono ?_; rintro e w' ⟨rfl, hb⟩; replace H := bstep H hb; clear hb; have hc := bcell H) | (go_at_call 19; with_reducible refine (ValidBottle_any b _).mono ?_; rintro e w' ⟨rfl, hb⟩; replace H := bstep H hb; clear hb; have hc := bcell H) | (go_at_call 82; with_reducible refine (isPlace_any _ _).mono ?_; rintro e w' ⟨rfl, rfl⟩) | (go_at_call 81; with_reducible refine (codeOf_any _ _ _).mono ?_; rintro e w' ⟨rfl, rfl⟩) | (with_reducible refine wp_store_zeroB H rfl rfl _ _ rfl _ rfl rfl _ r2 ?_) | (with_reducible refine wp_store_rowB H rfl rfl _ _ _ rfl _ rfl _ rfl _ r2 (cc_size2 _ _) (infoC _) (cc_one _) ?_))
        have s0 := row_put b (row_kept r0 H) HKL.out
        have s2 : rowOf ((w'.setCell ⟨g0, k * 2, none⟩ (.int .u8 b.k)).setCell ⟨g0, k * 2 + 1, none⟩ (.int .i16 b.y)) g2 = some (cc zC).toArray := by rw [row_far (by omega), row_far (by omega), row_kept r2 H]
        have H1 : Below w.heap.size w ((w'.setCell ⟨g0, k * 2, none⟩ (.int .u8 b.k)).setCell ⟨g0, k * 2 + 1, none⟩ (.int .i16 b.y)) := ((bstep H0 H).setCell (by show _ ≤ g0; omega) _).setCell (by show _ ≤ g0; omega) _
        clear H hc h2 x0 x1 f0 f1 e1 e2 r0 r1 r2 H0 b0 b1 b2
        generalize World.setCell (World.setCell w' _ _) _ _ = W2 at s0 s2 H1 ⊢
        replace s0 : rowOf W2 g0 = some (cc (setC c k b)).toArray := s0
        have H := Below.refl W2.heap.size W2
        go_wp2_with (first | ((with_reducible refine wp_load_rowBg H ?_ _ _ rfl _ rfl _ s0 _ Tryz.underlying28 rfl (infoC (setC c k b)) ?_); rfl) | (with_reducible refine wp_store_rowB H rfl rfl _ _ _ rfl _ rfl _ rfl _ s2 (cc_size2 _ _) (infoC _) (cc_one _) ?_))
        rw [HF'.out]
        have H0 := H1
        refine bodyPost_ret (results_ct rfl rfl (loadVar_rowOf (cc (setC c k b)).toArray (by rw [rowOf_setRow, if_pos rfl, rowOf_below H (rowOf_lt s2), s2]; rfl) _ Tryz.underlying28 rfl (infoC _))) rfl ⟨rfl, bsetRow (bstep H0 H) (by omega) _⟩
end Go.Proofs.YtbngpcghognojaaGreatDoor
