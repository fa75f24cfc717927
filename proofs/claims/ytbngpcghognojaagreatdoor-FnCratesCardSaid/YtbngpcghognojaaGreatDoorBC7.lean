/- Texts of the claim, joined (7 of 19): Pack. -/
import Derived.Laws.CopyRow
import Derived.Test.YtbngpcghognojaaGreatDoorBC3
import Derived.Test.YtbngpcghognojaaGreatDoorBC5
import Derived.Test.YtbngpcghognojaaGreatDoorBC6
namespace Go.Proofs.YtbngpcghognojaaGreatDoor
open Go.RowKit
set_option linter.unusedVariables false
set_option linter.unusedSimpArgs false
set_option maxRecDepth 100000
set_option maxHeartbeats 1000000
attribute [local go_sem] Oper.qB
section
variable {P : Program} {ops : Array Oper} {rest : List Oper} {o : Oper} {a : Act} {w : World} {Q : Exit → Act → World → Prop}
/-- Elements of k cells copied. -/
theorem run_copy_el (w : World) (dT sT ty elem : TypeId) (g o dLen dCap : Nat) (a : Addr) (sLen sCap : Nat) (cur : Array Value) (t : TypeId) (cs : List Value) (k n : Nat)
    (hu : P.underlying dT = some (.slice elem)) (hs : (P.info? elem).map (·.size) = some k)
    (hg : w.heap[g]? = some (.cells cur t (0, 0))) (hn : n = Nat.min sLen dLen) (hl : cs.length = n * k)
    (hsrc : ∀ j v, cs[j]? = some v → w.cell? (a.add j) = some v) (hfit : o + cs.length ≤ cur.size) (h1 : ∀ v ∈ cs, v.oneCell' = true) :
    (Builtin.copy_ #[dT, sT] ty #[.slice (some ⟨g, o, none⟩) dLen dCap, .slice (some a) sLen sCap]).run P w =
      .ok (goInt n) (w.setRow g (cur.toList.take o ++ cs ++ cur.toList.drop (o + cs.length)).toArray) := by
  have hld := run_loadCells_list (P := P) w a cs hsrc
  have hst := run_storeCells_at P g o t cs 0 cur w hg (by simpa using hfit) h1
  rw [hl] at hld
  cases hq : P.info? elem with
  | none => simp [hq] at hs
  | some i =>
    have hi : i.size = k := by simpa [hq] using hs
    simp [Builtin.copy_, run_underlying hu, Builtin.lenOf, Builtin.firstCells, sizeOf, typeInfo, hq, hi, ← hn, hld, hst]
theorem wp_copy_el (hgd : o.guard = none) (d s : Operand) (dT sT : TypeId)
    (ho : o.op = .call { callee := .builtin .copy, args := #[d, s], argTypes := #[dT, sT] }) (elem : TypeId) (k n : Nat) (hu : P.underlying dT = some (.slice elem)) (hsz : (P.info? elem).map (·.size) = some k)
    (g off dLen dCap : Nat) (ad : Addr) (sLen sCap : Nat) (hd : a.eval d = .slice (some ⟨g, off, none⟩) dLen dCap) (hs : a.eval s = .slice (some ad) sLen sCap)
    (cur : Array Value) (t : TypeId) (hg : w.heap[g]? = some (.cells cur t (0, 0))) (cs : List Value) (hn : n = Nat.min sLen dLen) (hl : cs.length = n * k)
    (hsrc : ∀ j v, cs[j]? = some v → w.cell? (ad.add j) = some v) (hfit : off + cs.length ≤ cur.size) (h1 : ∀ v ∈ cs, v.oneCell' = true)
    (h : wpList P ops Q rest (a.put o.dst (goInt n)) (putEl w g off cs.toArray)) : wpList P ops Q (o :: rest) a w := by
  refine wpList_plain hgd fun K hK => ?_
  have e : putEl w g off cs.toArray = w.setRow g (cur.toList.take off ++ cs ++ cur.toList.drop (off + cs.length)).toArray := by unfold putEl; rw [rowOf_of hg]; rfl
  rw [e] at h
  have hrun := run_copy_el (P := P) w dT sT o.type elem g off dLen dCap ad sLen sCap cur t cs k n hu hsz hg hn hl hsrc hfit h1
  unfold Oper.wp
  simp only [execOp, ho, resolve, invoke, builtin, hd, hs, hrun, Result.andThen, List.append_assoc] at h ⊢
  simp [hrun, hd, hs, Result.andThen]
  exact hK _ _ h
theorem Goes.copy {k : Act → Prop} (d s : Operand) (dT sT : TypeId)
    (ho : o.op = .call { callee := .builtin .copy, args := #[d, s], argTypes := #[dT, sT] }) (elem : TypeId) (q n : Nat) (hu : P.underlying dT = some (.slice elem)) (hsz : (P.info? elem).map (·.size) = some q)
    (g off dLen dCap : Nat) (ad : Addr) (sLen sCap : Nat) (hd : a.eval d = .slice (some ⟨g, off, none⟩) dLen dCap) (hs : a.eval s = .slice (some ad) sLen sCap)
    (cur : Array Value) (t : TypeId) (hg : w.heap[g]? = some (.cells cur t (0, 0))) (cs : List Value) (hn : n = Nat.min sLen dLen) (hl : cs.length = n * q)
    (hsrc : ∀ j v, cs[j]? = some v → w.cell? (ad.add j) = some v) (hfit : off + cs.length ≤ cur.size) (h1 : ∀ v ∈ cs, v.oneCell' = true)
    (h : k (a.put o.dst (goInt n))) : Goes P o a w (putEl w g off cs.toArray) k := by
  have hrun := run_copy_el (P := P) w dT sT o.type elem g off dLen dCap ad sLen sCap cur t cs q n hu hsz hg hn hl hsrc hfit h1
  have e : putEl w g off cs.toArray = w.setRow g (cur.toList.take off ++ cs ++ cur.toList.drop (off + cs.length)).toArray := by unfold putEl; rw [rowOf_of hg]; rfl
  rw [e]
  unfold Goes
  simp only [execOp, ho, resolve, invoke, builtin, hd, hs, hrun, Result.andThen, List.append_assoc] at h ⊢
  simp [hrun, hd, hs, Result.andThen]
  exact h
end
/-! ### A place of a crate of an owned stack -/
section
variable {w : World} {B e size n g cap : Nat} {xs : List Value}
theorem putEl_at (h : w.ownsRow B e size (.slice (some ⟨g, 0, none⟩) n cap) n xs) {off : Nat} {vs : Array Value} (hl : off + vs.size ≤ n * size) :
    (putEl w g off vs).ownsRow B e size (.slice (some ⟨g, 0, none⟩) n cap) n (xs.take off ++ vs.toList ++ xs.drop (off + vs.size)) := by
  obtain ⟨cur, hr, hh, hb, hn, hm, hc, ht⟩ := own_row h
  have hle2 : n * size ≤ cap * size := Nat.mul_le_mul_right _ hn
  have hcl : cur.toList.length = cap * size := by simpa using hc
  refine ⟨?_, .inr ⟨g, cap, (cur.toList.take off ++ vs.toList ++ cur.toList.drop (off + vs.size)).toArray, rfl, hb, ?_, hn, hm, ?_, ?_⟩⟩
  · simp only [List.length_append, List.length_take, List.length_drop, Array.length_toList, h.1]
    omega
  · unfold putEl
    rw [hr]
    exact setRow_heap w g _ _ _ _ hh
  · simp only [List.size_toArray, List.length_append, List.length_take, List.length_drop, Array.length_toList, hcl] at *
    omega
  · subst ht
    rw [List.append_assoc, List.append_assoc, List.take_append, List.take_append, List.take_take, List.length_take, hcl, Array.length_toList, Nat.min_eq_right (by omega), Nat.min_eq_left (by omega),
      List.take_take, Nat.min_eq_left (by omega), List.take_of_length_le (l := vs.toList) (by simp; omega), List.drop_take]
    rw [show n * size - off - vs.size = n * size - (off + vs.size) by omega]
theorem own_space {off : Nat} {vs : Array Value} (h : w.ownsRow B e size (.slice (some ⟨g, 0, none⟩) n cap) n xs) (hl : off + vs.size ≤ n * size) : ∃ cur, rowOf w g = some cur ∧ off + vs.size ≤ cur.size := by
  obtain ⟨cur, hr, hh, hb, hn, hm, hc, ht⟩ := own_row h
  refine ⟨cur, hr, ?_⟩
  rw [hc]
  exact Nat.le_trans hl (Nat.mul_le_mul_right _ hn)
end
theorem cut_mid {α : Type} {X Y Z V : List α} {k q r : Nat} (hX : X.length = k) (hY : q + r ≤ Y.length) : (X ++ Y ++ Z).take (k + q) ++ V ++ (X ++ Y ++ Z).drop (k + q + r) = X ++ (Y.take q ++ V ++ Y.drop (q + r)) ++ Z := by
  subst hX
  have h1 : (X ++ Y ++ Z).take (X.length + q) = X ++ Y.take q := by
    rw [List.append_assoc, List.take_length_add_append, List.take_append_of_le_length (by omega)]
  have h2 : (X ++ Y ++ Z).drop (X.length + q + r) = Y.drop (q + r) ++ Z := by
    rw [List.append_assoc, Nat.add_assoc, List.drop_length_add_append, List.drop_append_of_le_length hY]
  rw [h1, h2]
  simp only [List.append_assoc]
theorem fl_split {α : Type} [Inhabited α] {f : α → List Value} {k : Nat} (hf : ∀ x, (f x).length = k) {l : List α} {j : Nat} (hj : j < l.length) : fl f l = (fl f l).take (j * k) ++ f l[j]! ++ (fl f l).drop (j * k + k) := by
  have h := fl_set hf l j l[j]! hj
  rw [getB hj, List.set_getElem_self] at h
  rw [getB hj]
  exact h
theorem bcs_put (l : List Bt) (i : Nat) (b : Bt) (h : i < l.length) : bcs (l.set i b) = (bcs l).take (i * 2) ++ bc b ++ (bcs l).drop (i * 2 + 2) := by
  rw [← fl_bc, ← fl_bc]
  exact fl_set bc_length l i b h
/-- A bottle put into a place of crate j. -/
def putL (L : List Cr) (j p : Nat) (b : Bt) : List Cr := L.set j (setC L[j]! p b)
theorem fl_place {L : List Cr} {j p : Nat} (b : Bt) (hj : j < L.length) (hp : p < 12) : fl cc (putL L j p b) = (fl cc L).take (j * 24 + p * 2) ++ bc b ++ (fl cc L).drop (j * 24 + p * 2 + 2) := by
  have e : cc (setC L[j]! p b) = (cc L[j]!).take (p * 2) ++ bc b ++ (cc L[j]!).drop (p * 2 + 2) := by
    unfold cc
    rw [setC_toList]
    exact bcs_put _ _ _ (by rw [Vector.length_toList]; exact hp)
  have hl : ((fl cc L).take (j * 24)).length = j * 24 := by
    have h1 : j * 24 ≤ L.length * 24 := Nat.mul_le_mul_right _ (Nat.le_of_lt hj)
    rw [List.length_take, fl_length cc_length]
    omega
  have := cut_mid (X := (fl cc L).take (j * 24)) (Y := cc L[j]!) (Z := (fl cc L).drop (j * 24 + 24)) (V := bc b) (q := p * 2) (r := 2) hl (by rw [cc_length]; omega)
  rw [← fl_split cc_length hj] at this
  rw [this, putL, fl_set cc_length L j _ hj, e]
theorem putL_length (L : List Cr) (j p : Nat) (b : Bt) : (putL L j p b).length = L.length := by simp [putL]
/-- An owned stack behind a store into a place. -/
theorem OwnS.put {w : World} {B e g cap : Nat} {L : List Cr} {j p : Nat} (b : Bt) (h : OwnS cc w B e 24 (.slice (some ⟨g, 0, none⟩) L.length cap) L) (hj : j < L.length) (hp : p < 12) :
    OwnS cc (putEl w g (j * 24 + p * 2) #[.int .u8 b.k, .int .i16 b.y]) B e 24 (.slice (some ⟨g, 0, none⟩) L.length cap) (putL L j p b) := by
  have h1 : j * 24 + 24 ≤ L.length * 24 := by rw [← Nat.succ_mul]; exact Nat.mul_le_mul_right _ hj
  have := putEl_at h.1 (off := j * 24 + p * 2) (vs := #[.int .u8 b.k, .int .i16 b.y]) (by simp; omega)
  refine ⟨?_, g, cap, by rw [putL_length]⟩
  rw [putL_length, fl_place b hj hp]
  exact this
theorem OwnS.space {w : World} {B e g cap : Nat} {L : List Cr} {j p : Nat} {x y : Value} (h : OwnS cc w B e 24 (.slice (some ⟨g, 0, none⟩) L.length cap) L) (hj : j < L.length) (hp : p < 12) : ∃ cur, rowOf w g = some cur ∧ j * 24 + p * 2 + (#[x, y] : Array Value).size ≤ cur.size := by
  have h1 : j * 24 + 24 ≤ L.length * 24 := by rw [← Nat.succ_mul]; exact Nat.mul_le_mul_right _ hj
  exact own_space h.1 (by simp; omega)
/-! ### Packed -/
def packC (l : List Bt) (i j : Nat) : Cr := ⟨((List.range 12).map fun p => if 12 * j + p < i then rB l (12 * j + p) else zB).toArray, by simp⟩
theorem packC_toList (l : List Bt) (i j : Nat) : (packC l i j).toList = (List.range 12).map fun p => if 12 * j + p < i then rB l (12 * j + p) else zB := rfl
/-- The crates in which the first i bottles are. -/
def packK (l : List Bt) (i : Nat) : List Cr := (List.range ((i + 11) / 12)).map (packC l i)
def packL (l : List Bt) : List Cr := packK l l.length
theorem packK_length (l : List Bt) (i : Nat) : (packK l i).length = (i + 11) / 12 := by simp [packK]
theorem packC_zero (l : List Bt) (j : Nat) : packC l (12 * j) j = zC := by
  have : (packC l (12 * j) j).toList = zC.toList := by
    have e : ((List.range 12).map fun p => if 12 * j + p < 12 * j then rB l (12 * j + p) else zB) = (List.range 12).map fun _ => zB := List.map_congr_left fun p _ => if_neg (by omega)
    rw [packC_toList, e]
    rfl
  exact Vector.toList_inj.1 this
theorem packC_set (l : List Bt) (i : Nat) : setC (packC l i (i / 12)) (i % 12) (rB l i) = packC l (i + 1) (i / 12) := by
  apply Vector.toList_inj.1
  rw [setC_toList, packC_toList, packC_toList]
  apply List.ext_getElem
  · simp
  · intro p h1 h2
    simp only [List.length_map, List.length_range] at h2
    rw [List.getElem_set]
    simp only [List.getElem_map, List.getElem_range]
    by_cases hp : i % 12 = p
    · rw [if_pos hp, if_pos (by omega), show 12 * (i / 12) + p = i by omega]
    · rw [if_neg hp]
      by_cases hq : 12 * (i / 12) + p < i
      · rw [if_pos hq, if_pos (by omega)]
      · rw [if_neg hq, if_neg (by omega)]
theorem packC_same (l : List Bt) {i j : Nat} (h : j < i / 12) : packC l i j = packC l (i + 1) j := by
  apply Vector.toList_inj.1
  rw [packC_toList, packC_toList]
  apply List.map_congr_left
  intro p hp
  rw [List.mem_range] at hp
  rw [if_pos (by omega), if_pos (by omega)]
/-- Behind a new crate, where one is due. -/
def midK (l : List Bt) (i : Nat) : List Cr := if i % 12 = 0 then packK l i ++ [zC] else packK l i
theorem midK_length (l : List Bt) (i : Nat) : (midK l i).length = i / 12 + 1 := by
  unfold midK
  split
  · rw [List.length_append, packK_length]
    simp
    omega
  · rw [packK_length]
    omega
theorem midK_put (l : List Bt) (i : Nat) : putL (midK l i) (i / 12) (i % 12) (rB l i) = packK l (i + 1) := by
  have hl := midK_length l i
  have hm : midK l i = (List.range (i / 12 + 1)).map (packC l i) := by
    unfold midK
    split
    · rename_i h
      unfold packK
      rw [List.range_succ, List.map_append, show (i + 11) / 12 = i / 12 by omega]
      congr 1
      have := packC_zero l (i / 12)
      rw [show 12 * (i / 12) = i by omega] at this
      simp [this]
    · unfold packK
      rw [show (i + 11) / 12 = i / 12 + 1 by omega]
  have hq : (midK l i)[i / 12]! = packC l i (i / 12) := by
    rw [getB (by omega)]
    simp only [hm, List.getElem_map, List.getElem_range]
  unfold putL
  rw [hq, packC_set]
  apply List.ext_getElem
  · rw [List.length_set, hl, packK_length]
    omega
  · intro j h1 h2
    rw [List.length_set, hl] at h1
    rw [List.getElem_set]
    simp only [hm, packK, List.getElem_map, List.getElem_range]
    split
    · rename_i h
      rw [h]
    · exact packC_same l (by omega)
theorem midK_old {l : List Bt} {i : Nat} (h : i % 12 = 0) : midK l i = packK l i ++ [zC] := if_pos h
theorem midK_new {l : List Bt} {i : Nat} (h : ¬ i % 12 = 0) : midK l i = packK l i := if_neg h
section
variable {P : Program} {ops : Array Oper} {rest : List Oper} {o : Oper} {a : Act} {Q : Exit → Act → World → Prop} {W : World}
/-- append(v, x), with all that has not changed. -/
theorem wp_app2 (B : Nat) (hgd : o.guard = none) (s x : Operand) (t e : TypeId) (ho : o.op = .call { callee := .builtin .append, args := #[s, x], argTypes := #[t, t] })
    (z : Value) (size bytes : Nat) (ht : P.underlying t = some (.slice e)) (hinfo : (P.info? e).map (fun i => (i.zero, i.size, i.bytes)) = some (some z, size, bytes)) (hzs : z.cells.size = size) (hsz : 0 < size)
    (v : Value) (n : Nat) (xs news : List Value) (hs : a.eval s = v) (g : Nat) (hx : a.eval x = .slice (some ⟨g, 0, none⟩) 1 1) (hg : g = W.heap.size) (hl : news.length = size) (h1 : ∀ u ∈ news, u.oneCell' = true)
    (HO : W.ownsRow B e size v n xs) (hB : B ≤ W.heap.size) (hn : n + 1 ≤ 1000000000) (hby : bytes ≤ 1000)
    (h : ∀ v1 w1, w1.ownsRow B e size v1 (n + 1) (xs ++ news) → Below B W w1 ∧ ButV v W w1 → wpList P ops Q rest (a.put o.dst v1) w1) : wpList P ops Q (o :: rest) a (W.alloc (.cells news.toArray e)) := by
  subst hg
  obtain ⟨i0, hi, hzz⟩ := Option.map_eq_some_iff.1 hinfo
  simp only [Prod.mk.injEq] at hzz
  obtain ⟨hz0, hz1, hz2⟩ := hzz
  refine wpList_append_own (W.alloc (.cells news.toArray e)) hgd s x t ho B e i0 z size bytes ht hi hz0 hz1 hz2 hzs hsz v n xs hs (HO.alloc _) ⟨W.heap.size, 0, none⟩ 1 1 news hx (by omega) (fun j u hj => ?_) h1 (by simp only [maxLen]; omega) ?_ (by simp; omega) ?_
  · rw [addr_at]
    simp only [World.cell?_alloc_new]
    simpa using hj
  · calc (n + 1) * bytes ≤ 1000000000 * 1000 := Nat.mul_le_mul hn hby
      _ ≤ 140737488355328 := by decide
  intro v1 w1 hown hg _
  have hb := ((Below.refl B W).alloc hB _).grown hg (by simp; omega) (fun k hk => own_base HO k hk)
  refine h v1 w1 hown ⟨hb, ⟨hb.os, hb.tape, hb.output, hb.size, fun k hk => absurd hk (Nat.not_lt_zero _)⟩, fun b hb1 hv => ?_⟩
  rw [hg.block b (by simp; omega) (fun e => hv e.symm)]
  exact (Below.refl W.heap.size W).alloc (Nat.le_refl _) (.cells news.toArray e) |>.block b hb1
end
section
variable {ops : Array Oper} {rest : List Oper} {o : Oper} {a : Act} {Q : Exit → Act → World → Prop} {W : World}
theorem wp_app_crate2 (B : Nat) (hgd : o.guard = none) (s x : Operand) (ho : o.op = .call { callee := .builtin .append, args := #[s, x], argTypes := #[62, 62] })
    (v : Value) (l : List Cr) (y : Cr) (hs : a.eval s = v) (g : Nat) (hx : a.eval x = .slice (some ⟨g, 0, none⟩) 1 1) (hg : g = W.heap.size)
    (HO : OwnS cc W B 28 24 v l) (hB : B ≤ W.heap.size) (hn : l.length ≤ 100000000)
    (h : ∀ v1 w1, OwnS cc w1 B 28 24 v1 (l ++ [y]) → Below B W w1 ∧ ButV v W w1 → wpList Tryz.prog ops Q rest (a.put o.dst v1) w1) : wpList Tryz.prog ops Q (o :: rest) a (W.alloc (.cells (cc y).toArray 28)) :=
  wp_app2 (P := Tryz.prog) B hgd s x 62 28 ho (.agg (cc zC).toArray) 24 48 Tryz.underlying62 infoCrateS rfl (by decide) v l.length (fl cc l) (cc y) hs g hx hg (cc_length y) (fun u hu => cc_one y u (by simpa using hu)) HO.1 hB (by omega) (by decide)
    (fun v1 w1 h1 h2 => h v1 w1 (OwnS.grown (by rw [List.length_append, fl_append, fl_one]; exact h1)) h2)
end
theorem row_but {w w' : World} {g : Nat} {cs : Array Value} {v : Value} (h : rowOf w g = some cs) (hb : ButV v w w') (hv : v.ownBlock ≠ some g) : rowOf w' g = some cs := by
  unfold rowOf at *
  rw [hb.2 g (rowOf_lt h) hv]
  exact h
theorem infoBl (b : Bt) : (Tryz.prog.info? 26).map (·.size) = some (bc b).length := by rw [bc_length]; kernel_rfl
theorem cells_row {w w' : World} {g : Nat} {k y : Int} (h : rowOf w g = some (#[.int .u8 k, .int .i16 y] : Array Value)) (hb : Below w.heap.size w w') : w'.cell? ⟨g, 0, none⟩ = some (.int .u8 k) ∧ w'.cell? ⟨g, 1, none⟩ = some (.int .i16 y) :=
  ⟨rowOf_cell (row_kept h hb) 0, rowOf_cell (row_kept h hb) 1⟩
theorem packed_any (A : Option Addr) (c : Nat) (l : List Bt) (w : World) (hr : RdA w A (fl bc l)) (hn : l.length ≤ 1000000) :
    Calls Tryz.prog 142 #[.slice A l.length c] w fun e w' => ∃ v, e = .returned v ∧ OwnS cc w' w.heap.size 28 24 v (packL l) ∧ Below w.heap.size w w' := by
  have HR := Lib.hid hr
  clear hr
  go_enter Tryz.func142, Tryz.ntmps142
  go_wp2
  go_loopw [3, 9] (fun v i wr => ∃ k : Nat, k ≤ l.length ∧ i = .int .i64 k ∧ Hid (OwnS cc wr w.heap.size 28 24 v (packK l k)) ∧ Below w.heap.size w wr) (fun _ i _ => l.length - (intOf i).toNat)
  case atStart => exact ⟨0, Nat.zero_le _, rfl, OwnS.lit (Nat.le_refl _), by go_grown⟩
  case round =>
    obtain ⟨k, hk, rfl, HO, hb⟩ := hrel
    by_cases hlt : k < l.length
    · obtain ⟨g, off, rfl, hg, hC⟩ := (HR.out.below hb).some (by rw [fl_length bc_length]; omega)
      have HX := Lib.hid (hC.el bc_length hlt)
      have HB : Hid (l[k]! = rB l k) := by rw [Hid, rB_lt hlt, getB hlt]
      have HM := Lib.hid (midK_put l k)
      have hML := midK_length l k
      have hPL := packK_length l k
      clear hC hg
      rw [HB.out] at HX
      generalize rB l k = b at HX HM
      have hlt2 : (k : Int) < (l.length : Int) := by omega
      have hk1 : (k : Int) ≤ 1000000 := by omega
      have x0 : wr.cell? ⟨g, off + k * 2, none⟩ = some (.int .u8 b.k) := HX.out 0 _ rfl
      have x1 : wr.cell? ⟨g, off + k * 2 + 1, none⟩ = some (.int .i16 b.y) := HX.out 1 _ rfl
      go_upto_region 5 with fail
      generalize hW1 : World.alloc _ _ = W1
      have hgr : Below wr.heap.size wr W1 := by rw [← hW1]; go_grown
      have r5 : rowOf W1 wr.heap.size = some (#[.int .u8 b.k, .int .i16 b.y] : Array Value) := by rw [← hW1, rowOf_alloc, if_pos rfl]
      have hne : ∀ v' : Value, (∀ j, v'.ownBlock = some j → j < wr.heap.size) → v'.ownBlock ≠ some wr.heap.size := fun v' h e => by have := h _ e; omega
      replace hne := Lib.hid (hne _ (fun j hj => own_lt HO.out.1 j hj))
      have HO1 := Lib.hid (HO.out.kept hgr)
      have hb1 := bstep hb hgr
      have hb0 := hb.size
      clear hW1 x0 x1 hb hgr HO HX
      have hB5 : w.heap.size ≤ wr.heap.size := hb0
      generalize wr.heap.size = g5 at r5 hne hB5 ⊢
      obtain ⟨q, hq⟩ : ∃ q, q = k / 12 := ⟨_, rfl⟩
      obtain ⟨r, hr⟩ : ∃ r, r = k % 12 := ⟨_, rfl⟩
      have hr12 : r < 12 := by omega
      have eq1 : (k : Int) / 12 = (q : Int) := by omega
      have er1 : (k : Int) % 12 = (r : Int) := by omega
      have hr2 : (r : Int) < 12 := by omega
      have hqn : q + 1 ≤ 1000000 := by omega
      have hPn : (packK l k).length ≤ 100000000 := by rw [hPL]; omega
      rw [← hq, ← hr] at HM
      rw [← hq] at hML
      have hLn : (midK l k).length ≤ 100000000 := by omega
      have hqL : q < (midK l k).length := by omega
      have hqL2 : (q : Int) < ((midK l k).length : Int) := by omega
      clear hML
      have hwq : IntKind.i64.wrap (q : Int) = (q : Int) := by rw [IntKind.wrap_i64]; omega
      have htm : (k : Int).tmod 12 = (r : Int) := by rw [Int.tmod_eq_emod_of_nonneg (by omega)]; exact er1
      replace hPL := Lib.hid hPL
      replace hq := Lib.hid hq
      by_cases h12 : r = 0
      case pos =>
        have HMM := Lib.hid (midK_old (l := l) (i := k) (by omega))
        have e1 : ((r : Int) == 0) = true := by simp [h12]
        replace hr := Lib.hid hr
        replace h12 := Lib.hid h12
        go_upto_region 7 with (at_builtin; refine wp_app_crate2 w.heap.size rfl _ _ rfl _ (packK l k) zC rfl _ rfl ?hg ?HO ?hB ?hn ?_; (case hg => simp); (case HO => exact HO1.out); (case hB => exact hb1.size); (case hn => exact hPn); intro v2 w2 HO2 hb2)
        have r6 : rowOf w2 g5 = some (#[.int .u8 b.k, .int .i16 b.y] : Array Value) := row_but r5 hb2.2 hne.out
        rw [← HMM.out] at HO2
        have hb3 := hb1.trans hb2.1
        clear hb2 HO1 hb1 r5 e1 HMM
        obtain ⟨g2, cap, rfl, -, hB2, hg2, -⟩ := HO2.lies
        have x0 : w2.cell? ⟨g5, 0, none⟩ = some (.int .u8 b.k) := rowOf_cell r6 0
        have x1 : w2.cell? ⟨g5, 1, none⟩ = some (.int .i16 b.y) := rowOf_cell r6 1
        have H := Below.refl w2.heap.size w2
        replace HO2 := Lib.hid HO2
        refine wp_region_still_tail 8 (by kernel_rfl) (by kernel_rfl) ?_
        replace H := H.drew
        simp only [List.take_succ_cons, List.take_zero, List.drop_succ_cons, List.drop_zero]
        repeat (first | fail | still_step)
        refine wpStill_nil ?_
        change wpList _ _ _ _ _ (World.drew _)
        generalize World.drew _ = w1 at H ⊢
        have HO3 := Lib.hid (HO2.out.kept H)
        go_wp2_with (refine wp_store_el rfl rfl _ _ _ rfl _ _ rfl #[.int .u8 b.k, .int .i16 b.y] rfl (HO3.out.space hqL hr12) (infoB _ _) (bv_one _ _) ?_)
        go_roundw
        case rel => exact ⟨k + 1, by omega, by go_num, by rw [← HM.out]; exact HO3.out.put b hqL hr12, (hb3.trans (H.mono hb3.size)).trans (putEl_below hB2 _ _)⟩
        case measure => simp [intOf]; omega
      case neg =>
        have HMM := Lib.hid (midK_new (l := l) (i := k) (by omega))
        have e1 : ((r : Int) == 0) = false := by simp [h12]
        replace hr := Lib.hid hr
        replace h12 := Lib.hid h12
        go_upto_region 7 with fail
        rw [← HMM.out] at HO1
        obtain ⟨g2, cap, rfl, -, hB2, hg2, -⟩ := HO1.out.lies
        have x0 : W1.cell? ⟨g5, 0, none⟩ = some (.int .u8 b.k) := rowOf_cell r5 0
        have x1 : W1.cell? ⟨g5, 1, none⟩ = some (.int .i16 b.y) := rowOf_cell r5 1
        have H := Below.refl W1.heap.size W1
        refine wp_region_still_tail 8 (by kernel_rfl) (by kernel_rfl) ?_
        replace H := H.drew
        simp only [List.take_succ_cons, List.take_zero, List.drop_succ_cons, List.drop_zero]
        repeat (first | fail | still_step)
        refine wpStill_nil ?_
        change wpList _ _ _ _ _ (World.drew _)
        generalize World.drew _ = w1 at H ⊢
        have HO3 := Lib.hid (HO1.out.kept H)
        go_wp2_with (refine wp_store_el rfl rfl _ _ _ rfl _ _ rfl #[.int .u8 b.k, .int .i16 b.y] rfl (HO3.out.space hqL hr12) (infoB _ _) (bv_one _ _) ?_)
        go_roundw
        case rel => exact ⟨k + 1, by omega, by go_num, by rw [← HM.out]; exact HO3.out.put b hqL hr12, (hb1.trans (H.mono hb1.size)).trans (putEl_below hB2 _ _)⟩
        case measure => simp [intOf]; omega
    · obtain rfl : k = l.length := by omega
      go_wp2
      go_ret
      exact ⟨_, rfl, HO.out, hb⟩
theorem l01Packed_any (A : Option Addr) (c : Nat) (l : List Bt) (w : World) (hr : RdA w A (fl bc l)) (hn : l.length ≤ 1000000) :
    Calls Tryz.prog 113 #[.slice A l.length c] w fun e w' => ∃ v, e = .returned v ∧ OwnS cc w' w.heap.size 28 24 v (packL l) ∧ Below w.heap.size w w' := by
  have HR := Lib.hid hr
  clear hr
  go_enter Tryz.func113, Tryz.ntmps113
  go_wp2
  go_loopw [3, 4] (fun v i wr => ∃ k : Nat, k ≤ l.length ∧ i = .int .i64 k ∧ Hid (OwnS cc wr w.heap.size 28 24 v (packK l k)) ∧ Below w.heap.size w wr) (fun _ i _ => l.length - (intOf i).toNat)
  case atStart => exact ⟨0, Nat.zero_le _, rfl, OwnS.lit (Nat.le_refl _), by go_grown⟩
  case round =>
    obtain ⟨k, hk, rfl, HO, hb⟩ := hrel
    by_cases hlt : k < l.length
    · obtain ⟨g, off, rfl, hg, hC⟩ := HR.out.some (by rw [fl_length bc_length]; omega)
      have HX := Lib.hid (hC.el bc_length hlt)
      have HB : Hid (l[k]! = rB l k) := by rw [Hid, rB_lt hlt, getB hlt]
      have HM := Lib.hid (midK_put l k)
      have hML := midK_length l k
      have hPL := packK_length l k
      clear hC
      rw [HB.out] at HX
      generalize rB l k = b at HX HM
      have hlt2 : (k : Int) < (l.length : Int) := by omega
      have hk1 : (k : Int) ≤ 1000000 := by omega
      obtain ⟨q, hq⟩ : ∃ q, q = k / 12 := ⟨_, rfl⟩
      obtain ⟨r, hr⟩ : ∃ r, r = k % 12 := ⟨_, rfl⟩
      have hr12 : r < 12 := by omega
      have er1 : (k : Int) % 12 = (r : Int) := by omega
      have hr2 : (r : Int) < 12 := by omega
      have hqn : q + 1 ≤ 1000000 := by omega
      have hPn : (packK l k).length ≤ 100000000 := by rw [hPL]; omega
      rw [← hq, ← hr] at HM
      rw [← hq] at hML
      have hLn : (midK l k).length ≤ 100000000 := by omega
      have hqL : q < (midK l k).length := by omega
      have hqL2 : (q : Int) < ((midK l k).length : Int) := by omega
      have hlq : ((midK l k).length : Int) - 1 = (q : Int) := by omega
      clear hML
      have hwq : IntKind.i64.wrap (q : Int) = (q : Int) := by rw [IntKind.wrap_i64]; omega
      have htm : (k : Int).tmod 12 = (r : Int) := by rw [Int.tmod_eq_emod_of_nonneg (by omega)]; exact er1
      replace hPL := Lib.hid hPL
      replace hq := Lib.hid hq
      by_cases h12 : r = 0
      case pos =>
        have HMM := Lib.hid (midK_old (l := l) (i := k) (by omega))
        have e1 : ((r : Int) == 0) = true := by simp [h12]
        replace hr := Lib.hid hr
        replace h12 := Lib.hid h12
        replace hlq := Lib.hid hlq
        go_upto_region 7 with (at_builtin; refine wp_app_crate2 w.heap.size rfl _ _ rfl _ (packK l k) zC rfl _ rfl ?hg ?HO ?hB ?hn ?_; (case hg => simp); (case HO => exact HO.out); (case hB => exact hb.size); (case hn => exact hPn); intro v2 w2 HO2 hb2)
        rw [← HMM.out] at HO2
        have hb3 := hb.trans hb2.1
        clear hb2 HO hb e1 HMM
        obtain ⟨g2, cap, rfl, -, hB2, hg2, -⟩ := HO2.lies
        have HZ := HX.out.below hb3 hg
        have x0 : w2.cell? ⟨g, off + k * 2, none⟩ = some (.int .u8 b.k) := HZ 0 _ rfl
        have x1 : w2.cell? ⟨g, off + k * 2 + 1, none⟩ = some (.int .i16 b.y) := HZ 1 _ rfl
        have H := Below.refl w2.heap.size w2
        replace HO2 := Lib.hid HO2
        replace hlq := hlq.out
        refine wp_region_still_tail 12 (by kernel_rfl) (by kernel_rfl) ?_
        replace H := H.drew
        simp only [List.take_succ_cons, List.take_zero, List.drop_succ_cons, List.drop_zero]
        repeat (first | fail | still_step)
        refine wpStill_nil ?_
        change wpList _ _ _ _ _ (World.drew _)
        generalize World.drew _ = w1 at H ⊢
        replace hlq := Lib.hid hlq
        have HO3 := Lib.hid (HO2.out.kept H)
        go_wp2_with (refine wp_store_el rfl rfl _ _ _ rfl _ _ rfl #[.int .u8 b.k, .int .i16 b.y] rfl (HO3.out.space hqL hr12) (infoB _ _) (bv_one _ _) ?_)
        go_roundw
        case rel => exact ⟨k + 1, by omega, by go_num, by rw [← HM.out]; exact HO3.out.put b hqL hr12, (hb3.trans (H.mono hb3.size)).trans (putEl_below hB2 _ _)⟩
        case measure => simp [intOf]; omega
      case neg =>
        have HMM := Lib.hid (midK_new (l := l) (i := k) (by omega))
        have e1 : ((r : Int) == 0) = false := by simp [h12]
        replace hr := Lib.hid hr
        replace h12 := Lib.hid h12
        replace hlq := Lib.hid hlq
        go_upto_region 7 with fail
        rw [← HMM.out] at HO
        obtain ⟨g2, cap, rfl, -, hB2, hg2, -⟩ := HO.out.lies
        have HZ := HX.out.below hb hg
        have x0 : wr.cell? ⟨g, off + k * 2, none⟩ = some (.int .u8 b.k) := HZ 0 _ rfl
        have x1 : wr.cell? ⟨g, off + k * 2 + 1, none⟩ = some (.int .i16 b.y) := HZ 1 _ rfl
        have H := Below.refl wr.heap.size wr
        replace hlq := hlq.out
        refine wp_region_still_tail 12 (by kernel_rfl) (by kernel_rfl) ?_
        replace H := H.drew
        simp only [List.take_succ_cons, List.take_zero, List.drop_succ_cons, List.drop_zero]
        repeat (first | fail | still_step)
        refine wpStill_nil ?_
        change wpList _ _ _ _ _ (World.drew _)
        generalize World.drew _ = w1 at H ⊢
        replace hlq := Lib.hid hlq
        have HO3 := Lib.hid (HO.out.kept H)
        go_wp2_with (refine wp_store_el rfl rfl _ _ _ rfl _ _ rfl #[.int .u8 b.k, .int .i16 b.y] rfl (HO3.out.space hqL hr12) (infoB _ _) (bv_one _ _) ?_)
        go_roundw
        case rel => exact ⟨k + 1, by omega, by go_num, by rw [← HM.out]; exact HO3.out.put b hqL hr12, (hb.trans (H.mono hb.size)).trans (putEl_below hB2 _ _)⟩
        case measure => simp [intOf]; omega
    · obtain rfl : k = l.length := by omega
      go_wp2
      go_ret
      exact ⟨_, rfl, HO.out, hb⟩
/-- All bottles of an order. -/
def botsL (l : List Wt) : List Bt := l.flatMap fun x => List.replicate x.n.toNat x.b
theorem botsL_step {l : List Wt} {k : Nat} (hk : k < l.length) : botsL (l.take (k + 1)) = botsL (l.take k) ++ List.replicate l[k]!.n.toNat l[k]!.b := by
  unfold botsL
  rw [List.take_succ_eq_append_getElem hk, getB hk, List.flatMap_append]
  simp
theorem botsL_le : ∀ l : List Wt, (botsL l).length ≤ 32767 * l.length
  | [] => by simp [botsL]
  | x :: l => by
    have h := botsL_le l
    have hx := x.hn
    have e : botsL (x :: l) = List.replicate x.n.toNat x.b ++ botsL l := by simp [botsL]
    rw [e, List.length_append, List.length_replicate, List.length_cons]
    omega
theorem l02Bottles_any (b off c1 : Nat) (l : List Wt) (w : World) (hC : CAt w b off (fl wc l)) (hb1 : b < w.heap.size) (hl : l.length ≤ 8) :
    Calls Tryz.prog 114 #[.slice (some ⟨b, off, none⟩) l.length c1] w fun e w' => ∃ v, e = .returned v ∧ OwnS bc w' w.heap.size 26 2 v (botsL l) ∧ Below w.heap.size w w' := by
  have HC := Lib.hid (⟨hC, hb1⟩ : _ ∧ _)
  clear hC hb1
  go_enter Tryz.func114, Tryz.ntmps114
  go_wp2
  go_loopw [3, 4] (fun v i wr => ∃ k : Nat, k ≤ l.length ∧ i = .int .i64 k ∧ Hid (OwnS bc wr w.heap.size 26 2 v (botsL (l.take k))) ∧ Below w.heap.size w wr) (fun _ i _ => l.length - (intOf i).toNat)
  case atStart => exact ⟨0, Nat.zero_le _, rfl, OwnS.lit (Nat.le_refl _), by go_grown⟩
  case round =>
    obtain ⟨k, hk, rfl, HO, hb⟩ := hrel
    obtain ⟨wo, hwo⟩ : ∃ wo, wo = wr := ⟨_, rfl⟩
    subst hwo
    by_cases hlt : k < l.length
    · have HX := Lib.hid ((HC.out.1.el wc_length hlt))
      have HL := Lib.hid (@botsL_step l k hlt)
      have HP := botsL_le (l.take k)
      have hcl : (l.take k).length ≤ k := by simp; omega
      have hPn : (botsL (l.take k)).length ≤ 1000000 := by omega
      clear HP
      have hlt2 : (k : Int) < (l.length : Int) := by omega
      generalize l[k]! = x at HX HL
      generalize botsL (l.take k) = lk at HO HL hPn
      obtain ⟨hn1, hn2⟩ := x.hn
      go_wp2
      go_loopw [3, 5] (fun v i wr => ∃ j : Nat, (j : Int) ≤ max x.n 0 ∧ i = .int .i16 j ∧ Hid (OwnS bc wr w.heap.size 26 2 v (lk ++ List.replicate j x.b)) ∧ Below w.heap.size w wr) (fun _ i _ => x.n.toNat - (intOf i).toNat)
      case atStart => exact ⟨0, by omega, rfl, by simpa using HO, hb⟩
      case round =>
        obtain ⟨j, hj, rfl, HQ, hb2⟩ := hrel
        have HZ := HX.out.below hb2 HC.out.2
        have x0 : wr.cell? ⟨b, off + k * 3, none⟩ = some (.int .u8 x.b.k) := HZ 0 _ rfl
        have x1 : wr.cell? ⟨b, off + k * 3 + 1, none⟩ = some (.int .i16 x.b.y) := HZ 1 _ rfl
        have x2 : wr.cell? ⟨b, off + k * 3 + 2, none⟩ = some (.int .i16 x.n) := HZ 2 _ rfl
        clear HZ
        by_cases hlj : (j : Int) < x.n
        · have hR : Hid (List.replicate (j + 1) x.b = List.replicate j x.b ++ [x.b]) := List.replicate_succ'
          have hln : (lk ++ List.replicate j x.b).length ≤ 100000000 := by simp; omega
          have hwj : IntKind.i16.wrap ((j : Int) + 1) = (j : Int) + 1 := wrap_i16 (by omega)
          go_wp2_with (at_builtin; refine wp_app_bot w.heap.size rfl _ _ rfl _ (lk ++ List.replicate j x.b) x.b rfl _ rfl ?hg ?HO ?hB ?hn ?_; (case hg => simp); (case HO => exact HQ.out.1); (case hB => exact hb2.size); (case hn => omega); intro v1 w1 hown hb3)
          go_roundw
          case rel => exact ⟨j + 1, by omega, by go_num, by rw [hR.out, ← List.append_assoc]; exact OwnS.grown hown, hb2.trans hb3⟩
          case measure => simp [intOf]; omega
        · have hR : Hid (botsL (l.take (k + 1)) = lk ++ List.replicate j x.b) := by rw [Hid, HL.out, show x.n.toNat = j by omega]
          go_wp2
          go_roundw
          case rel => exact ⟨k + 1, by omega, by go_num, by rw [hR.out]; exact HQ.out, hb2⟩
          case measure => simp [intOf]; omega
    · obtain rfl : k = l.length := by omega
      rw [List.take_length] at HO
      go_wp2
      go_ret
      exact ⟨_, rfl, HO.out, hb⟩
theorem Mul_one (n : Nat) (w : World) (hn : n ≤ 1000000) : Calls Tryz.prog 167 #[.int .u64 1, .int .u64 (n : Int)] w fun e w' => e = .returned (.tuple #[.int .u64 0, .int .u64 (n : Int)]) ∧ w = w' := by
  have := Any.bits_Mul Tryz.lx167 1 n (by omega) (by omega) w
  rw [show 1 * n / 18446744073709551616 = 0 by omega, show 1 * n % 18446744073709551616 = n by omega] at this
  exact this.mono fun _ _ ⟨he, hw⟩ => ⟨he, hw.symm⟩
theorem rep_copy {n j m : Nat} (b : Bt) (hm : j + m ≤ n) :
    (fl bc (List.replicate j b ++ List.replicate (n - j) zB)).take (j * 2) ++ fl bc (List.replicate m b) ++ (fl bc (List.replicate j b ++ List.replicate (n - j) zB)).drop (j * 2 + m * 2) = fl bc (List.replicate (j + m) b ++ List.replicate (n - (j + m)) zB) := by
  have e : (fl bc (List.replicate j b)).length = j * 2 := by rw [fl_length bc_length]; simp
  have e1 : (fl bc (List.replicate m zB)).length = m * 2 := by rw [fl_length bc_length]; simp
  have e2 : List.replicate (n - j) zB = List.replicate m zB ++ List.replicate (n - (j + m)) zB := by rw [List.replicate_append_replicate]; congr 1; omega
  rw [e2, fl_append, fl_append, fl_append, ← List.replicate_append_replicate, fl_append, ← e, List.take_left, List.drop_append, List.drop_eq_nil_of_le (by omega), Nat.add_sub_cancel_left, ← e1, List.drop_left, List.nil_append]
theorem fl_ones {α : Type} {f : α → List Value} (hf : ∀ x, ∀ u ∈ f x, u.oneCell' = true) (l : List α) : ∀ u ∈ fl f l, u.oneCell' = true := fun u hu => by
  obtain ⟨x, _, hx⟩ := List.mem_flatMap.1 hu
  exact hf x u hx
theorem Repeat_bot (g : Nat) (b : Bt) (n : Nat) (w : World) (hC : CAt w g 0 (bc b)) (hg : g < w.heap.size) (hn : n ≤ 32767) :
    Calls Tryz.prog 141 #[.slice (some ⟨g, 0, none⟩) 1 1, .int .i64 (n : Int)] w fun e w' => ∃ g', e = .returned (.slice (some ⟨g', 0, none⟩) n n) ∧ OwnN bc w' w.heap.size 26 2 (.slice (some ⟨g', 0, none⟩) n n) (List.replicate n b) ∧ Below w.heap.size w w' := by
  have HC := Lib.hid (⟨hC, hg⟩ : _ ∧ _)
  clear hC hg
  have hmk := run_make_el (P := Tryz.prog) (a := #[.int .u8 0, .int .i16 0]) Tryz.underlying38 infoBt rfl n (by omega) (by omega)
  have hn1 : (n : Int) ≤ 32767 := by omega
  go_enter Tryz.func141, Tryz.ntmps141
  go_upto_region 7 with (go_at_call 167; with_reducible refine (Mul_one n _ (by omega)).mono ?_; rintro e w' ⟨rfl, rfl⟩)
  clear hmk
  have hO := World.ownsRow_full (base := w.heap.size) w (madeCells #[.int .u8 0, .int .i16 0] (n * 2)) 26 2 n (Nat.le_refl _) (by simp [maxLen]; omega) (size_madeCells _ _)
  rw [made_fl bc_length (by decide) zB #[.int .u8 0, .int .i16 0] rfl n] at hO
  have H := (Below.refl w.heap.size w).alloc (Nat.le_refl _) (.cells (madeCells #[.int .u8 0, .int .i16 0] (n * 2)) 26)
  have hgr := (bstep (Below.refl w.heap.size w) H)
  generalize hW : w.alloc (.cells (madeCells #[.int .u8 0, .int .i16 0] (n * 2)) 26) = W at *
  clear hW hgr
  obtain ⟨m, hm⟩ : ∃ m, m = Nat.min 1 n := ⟨_, rfl⟩
  have hmn : 0 + m ≤ n := by rw [hm]; exact Nat.le_trans (by rw [Nat.zero_add]; exact Nat.min_le_right _ _) (Nat.le_refl _)
  have hm1 : m ≤ 1 := by rw [hm]; exact Nat.min_le_left _ _
  have hmo : m = n ∨ 1 ≤ m := by have : m = min 1 n := hm; omega
  have hrep := rep_copy b hmn
  replace hm := Lib.hid hm
  obtain ⟨cur, hcr, hch, hcb, -, -, hcs, hct⟩ := own_row hO
  have hC1 := (HC.out.1.below H HC.out.2)
  have hsz : (fl bc (List.replicate m b)).length = m * 2 := by rw [fl_length bc_length]; simp
  have hone := fl_ones bc_one (List.replicate m b)
  have hsrc : ∀ i v, (fl bc (List.replicate m b))[i]? = some v → W.cell? ((⟨g, 0, none⟩ : Addr).add i) = some v := by
    intro i v hv
    rw [addr_at]
    rcases (by omega : m = 0 ∨ m = 1) with h | h
    · rw [h] at hv
      cases hv
    · rw [h, List.replicate_one, fl_one] at hv
      have := hC1 i v hv
      rwa [Nat.zero_add] at this
  have hfit : 0 + (fl bc (List.replicate m b)).length ≤ cur.size := by rw [hsz, hcs]; omega
  have hp := putEl_at hO (off := 0) (vs := (fl bc (List.replicate m b)).toArray) (by rw [List.size_toArray, hsz]; omega)
  have hpb : Below w.heap.size W (putEl W w.heap.size 0 (fl bc (List.replicate m b)).toArray) := putEl_below (Nat.le_refl _) _ _
  have e0 : fl bc (List.replicate n zB) = fl bc (List.replicate 0 b ++ List.replicate (n - 0) zB) := rfl
  have hs1 : (fl bc (List.replicate m b)).toArray.size = m * 2 := hsz
  rw [hs1, e0] at hp
  clear hs1
  rw [Nat.zero_mul] at hrep
  rw [show (fl bc (List.replicate m b)).toArray.toList = fl bc (List.replicate m b) from rfl, hrep] at hp
  have hsz2 := Lib.hid hsz
  clear hsz e0 hcr hct hO hrep hC1
  go_upto_region 8 with (refine wp_copy_el (o := ⟨some 33, _, _, _, _, _⟩) rfl _ _ _ _ rfl 26 2 m Tryz.underlying38 (by kernel_rfl) w.heap.size 0 n n ⟨g, 0, none⟩ 1 1 rfl rfl cur _ hch (fl bc (List.replicate m b)) hm.out hsz2.out hsrc hfit hone ?_)
  replace hp := Lib.hid hp
  replace H := H.trans hpb
  clear hpb hsrc hfit hone hch hcs hsz2
  generalize putEl W w.heap.size 0 (fl bc (List.replicate m b)).toArray = W2 at *
  rw [Nat.zero_add] at hp
  go_loopw [8] (fun i wr => ∃ j : Nat, j ≤ n ∧ (j = n ∨ 1 ≤ j) ∧ i = .int .i64 j ∧ Hid (wr.ownsRow w.heap.size 26 2 (.slice (some ⟨w.heap.size, 0, none⟩) n n) n (fl bc (List.replicate j b ++ List.replicate (n - j) zB))) ∧ Below w.heap.size w wr) (fun i _ => n - (intOf i).toNat)
  case atStart => exact ⟨m, by omega, hmo, rfl, hp, H⟩
  case round =>
    clear hp H
    obtain ⟨j, hj, hjo, rfl, HO, hb⟩ := hrel
    by_cases hlt : j < n
    · obtain ⟨m', hm'⟩ : ∃ m', m' = Nat.min j (n - j) := ⟨_, rfl⟩
      have hmj : m' ≤ j := by rw [hm']; exact Nat.min_le_left _ _
      have hmn' : m' ≤ n - j := by rw [hm']; exact Nat.min_le_right _ _
      have hmp : 1 ≤ m' := by have : m' = min j (n - j) := hm'; omega
      have hrep := Lib.hid (rep_copy (n := n) (j := j) (m := m') b (by omega))
      have hlt2 : (j : Int) < (n : Int) := by omega
      have hji : (j : Int) ≤ 32767 := by omega
      have hwm : IntKind.i64.wrap ((j : Int) + (m' : Int)) = (j : Int) + (m' : Int) := by rw [IntKind.wrap_i64]; omega
      have hsz : (fl bc (List.replicate m' b)).length = m' * 2 := by rw [fl_length bc_length]; simp
      have hone := fl_ones bc_one (List.replicate m' b)
      go_upto_region 9 with fail
      have hjn : ¬ n = j := by omega
      have HO2 : World.ownsRow wr.drew w.heap.size 26 2 (.slice (some ⟨w.heap.size, 0, none⟩) n n) n (fl bc (List.replicate j b ++ List.replicate (n - j) zB)) := HO.out
      have hbd : Below w.heap.size w wr.drew := bdrewN hb 1
      obtain ⟨cur, hcr, hch, hcb, -, -, hcs, hct⟩ := own_row HO2
      have hsrc : ∀ i v, (fl bc (List.replicate m' b))[i]? = some v → wr.drew.cell? ((⟨w.heap.size, 0, none⟩ : Addr).add i) = some v := by
        intro i v hv
        have hi := (List.getElem?_eq_some_iff.1 hv).1
        rw [hsz] at hi
        rw [addr_at, rowOf_cell hcr, ← Array.getElem?_toList]
        have e3 : (fl bc (List.replicate j b ++ List.replicate (n - j) zB))[i]? = some v := by
          rw [fl_append, List.getElem?_append_left (by rw [fl_length bc_length]; simp; omega), ← hv, show j = m' + (j - m') by omega, ← List.replicate_append_replicate, fl_append, List.getElem?_append_left (by rw [hsz]; omega)]
        rw [← hct, List.getElem?_take_of_lt (by omega)] at e3
        exact e3
      have hfit : j * 2 + (fl bc (List.replicate m' b)).length ≤ cur.size := by rw [hsz, hcs]; omega
      have hp := putEl_at HO2 (off := j * 2) (vs := (fl bc (List.replicate m' b)).toArray) (by rw [List.size_toArray, hsz]; omega)
      have hpb : Below w.heap.size wr.drew (putEl wr.drew w.heap.size (j * 2) (fl bc (List.replicate m' b)).toArray) := putEl_below (Nat.le_refl _) _ _
      have hs1 : (fl bc (List.replicate m' b)).toArray.size = m' * 2 := hsz
      rw [hs1, show (fl bc (List.replicate m' b)).toArray.toList = fl bc (List.replicate m' b) from rfl, hrep.out] at hp
      clear hs1
      replace hp := Lib.hid hp
      replace hpb := Lib.hid hpb
      replace hsz := Lib.hid hsz
      replace hct := Lib.hid hct
      replace hcs := Lib.hid hcs
      replace hsrc := Lib.hid hsrc
      replace hone := Lib.hid hone
      replace hm' := Lib.hid hm'
      replace hch := Lib.hid hch
      obtain ⟨W1, hW1⟩ : ∃ W1, W1 = putEl wr.drew w.heap.size (j * 2) (fl bc (List.replicate m' b)).toArray := ⟨_, rfl⟩
      refine d_start 10 [wr.drew, W1] rfl rfl (by kernel_rfl) ?_
      (refine d_quiet 0 (by kernel_rfl) rfl (fun K hK => ?_); go_simp; refine hK _ ?_; clear hK K)
      (refine d_quiet 1 (by kernel_rfl) rfl (fun K hK => ?_); go_simp; refine hK _ ?_; clear hK K)
      (refine d_quiet 2 (by kernel_rfl) rfl (fun K hK => ?_); go_simp; refine hK _ ?_; clear hK K)
      (refine d_quiet 3 (by kernel_rfl) rfl (fun K hK => ?_); go_simp; refine hK _ ?_; clear hK K)
      (refine d_quiet 4 (by kernel_rfl) rfl (fun K hK => ?_); go_simp; refine hK _ ?_; clear hK K)
      (refine d_quiet 5 (by kernel_rfl) rfl (fun K hK => ?_); go_simp; refine hK _ ?_; clear hK K)
      (refine d_quiet 6 (by kernel_rfl) rfl (fun K hK => ?_); go_simp; refine hK _ ?_; clear hK K)
      refine d_step 7 1 wr.drew W1 rfl rfl (by kernel_rfl) rfl rfl (fun K hK => Goes.to hW1 (Goes.copy _ _ _ _ rfl 26 2 m' Tryz.underlying38 (by kernel_rfl) w.heap.size (j * 2) (n - j) (n - j) ⟨w.heap.size, 0, none⟩ j n rfl rfl cur _ hch.out (fl bc (List.replicate m' b)) hm'.out hsz.out hsrc.out hfit hone.out (hK _ ?_)))
      (refine d_quiet 8 (by kernel_rfl) rfl (fun K hK => ?_); go_simp; refine hK _ ?_; clear hK K)
      (refine d_quiet 9 (by kernel_rfl) rfl (fun K hK => ?_); go_simp; refine hK _ ?_; clear hK K)
      refine d_done rfl (by kernel_rfl) ?_
      rw [← hW1] at hp hpb
      clear hW1
      go_wp2
      go_roundw
      case rel => exact ⟨j + m', by omega, .inr (by omega), by go_num, hp.out, hbd.trans hpb.out⟩
      case measure => simp [intOf]; omega
    · obtain rfl : j = n := by omega
      rw [Nat.sub_self, List.replicate_zero, List.append_nil] at HO
      have HO2 : Hid (OwnN bc wr w.heap.size 26 2 (.slice (some ⟨w.heap.size, 0, none⟩) j j) (List.replicate j b)) := by
        show World.ownsRow _ _ _ _ _ _ _
        rw [List.length_replicate]
        exact HO.out
      go_wp2
      go_ret
      exact ⟨_, rfl, HO2.out, hb⟩
end Go.Proofs.YtbngpcghognojaaGreatDoor
