/- Bottles packed into crates: copied, repeated, packed. -/
import Derived.Test.YtoiinpoiggkkdaaMarkW
import Derived.Test.YtoiinpoiggkkdaaAll
import Derived.Test.YtoiinpoiggkkdaaPut
import Derived.Test.YtoiinpoiggkkdaaDrawn
import Derived.Laws.CopyRow
namespace Go.Proofs.Ytoiinpoiggkkdaa
open Go.RowKit
set_option linter.unusedVariables false
set_option linter.unusedSimpArgs false
set_option maxRecDepth 100000
set_option maxHeartbeats 1000000
attribute [local go_sem] Oper.qB
section
variable {P : Program} {ops : Array Oper} {rest : List Oper} {o : Oper} {a : Act} {w : World} {Q : Exit → Act → World → Prop}
/-- Elements of k cells copied. -/
theorem run_copy_el (w : World) (dT sT ty elem : TypeId) (g o dLen dCap : Nat) (a : Addr) (sLen sCap : Nat) (cur : Array Value) (t : TypeId) (cs : List Value) (k n : Nat)
    (hu : P.underlying dT = some (.slice elem)) (hs : (P.info? elem).map (·.size) = some k)
    (hg : w.heap[g]? = some (.cells cur t (0, 0))) (hn : n = Nat.min sLen dLen) (hl : cs.length = n * k)
    (hsrc : ∀ j v, cs[j]? = some v → w.cell? (a.add j) = some v) (hfit : o + cs.length ≤ cur.size) (h1 : ∀ v ∈ cs, v.oneCell' = true) :
    (Builtin.copy_ #[dT, sT] ty #[.slice (some ⟨g, o, none⟩) dLen dCap, .slice (some a) sLen sCap]).run P w =
      .ok (goInt n) (w.setRow g (cur.toList.take o ++ cs ++ cur.toList.drop (o + cs.length)).toArray) := by
  have hld := run_loadCells_list (P := P) w a cs hsrc
  have hst := run_storeCells_at P g o t cs 0 cur w hg (by simpa using hfit) h1
  rw [hl] at hld
  cases hq : P.info? elem with
  | none => simp [hq] at hs
  | some i =>
    have hi : i.size = k := by simpa [hq] using hs
    simp [Builtin.copy_, run_underlying hu, Builtin.lenOf, Builtin.firstCells, sizeOf, typeInfo, hq, hi, ← hn, hld, hst]
theorem wp_copy_el (hgd : o.guard = none) (d s : Operand) (dT sT : TypeId)
    (ho : o.op = .call { callee := .builtin .copy, args := #[d, s], argTypes := #[dT, sT] }) (elem : TypeId) (k n : Nat) (hu : P.underlying dT = some (.slice elem)) (hsz : (P.info? elem).map (·.size) = some k)
    (g off dLen dCap : Nat) (ad : Addr) (sLen sCap : Nat) (hd : a.eval d = .slice (some ⟨g, off, none⟩) dLen dCap) (hs : a.eval s = .slice (some ad) sLen sCap)
    (cur : Array Value) (t : TypeId) (hg : w.heap[g]? = some (.cells cur t (0, 0))) (cs : List Value) (hn : n = Nat.min sLen dLen) (hl : cs.length = n * k)
    (hsrc : ∀ j v, cs[j]? = some v → w.cell? (ad.add j) = some v) (hfit : off + cs.length ≤ cur.size) (h1 : ∀ v ∈ cs, v.oneCell' = true)
    (h : wpList P ops Q rest (a.put o.dst (goInt n)) (putEl w g off cs.toArray)) : wpList P ops Q (o :: rest) a w := by
  refine wpList_plain hgd fun K hK => ?_
  have e : putEl w g off cs.toArray = w.setRow g (cur.toList.take off ++ cs ++ cur.toList.drop (off + cs.length)).toArray := by unfold putEl; rw [rowOf_of hg]; rfl
  rw [e] at h
  have hrun := run_copy_el (P := P) w dT sT o.type elem g off dLen dCap ad sLen sCap cur t cs k n hu hsz hg hn hl hsrc hfit h1
  unfold Oper.wp
  simp only [execOp, ho, resolve, invoke, builtin, hd, hs, hrun, Result.andThen, List.append_assoc] at h ⊢
  simp [hrun, hd, hs, Result.andThen]
  exact hK _ _ h
theorem Goes.copy {k : Act → Prop} (d s : Operand) (dT sT : TypeId)
    (ho : o.op = .call { callee := .builtin .copy, args := #[d, s], argTypes := #[dT, sT] }) (elem : TypeId) (q n : Nat) (hu : P.underlying dT = some (.slice elem)) (hsz : (P.info? elem).map (·.size) = some q)
    (g off dLen dCap : Nat) (ad : Addr) (sLen sCap : Nat) (hd : a.eval d = .slice (some ⟨g, off, none⟩) dLen dCap) (hs : a.eval s = .slice (some ad) sLen sCap)
    (cur : Array Value) (t : TypeId) (hg : w.heap[g]? = some (.cells cur t (0, 0))) (cs : List Value) (hn : n = Nat.min sLen dLen) (hl : cs.length = n * q)
    (hsrc : ∀ j v, cs[j]? = some v → w.cell? (ad.add j) = some v) (hfit : off + cs.length ≤ cur.size) (h1 : ∀ v ∈ cs, v.oneCell' = true)
    (h : k (a.put o.dst (goInt n))) : Goes P o a w (putEl w g off cs.toArray) k := by
  have hrun := run_copy_el (P := P) w dT sT o.type elem g off dLen dCap ad sLen sCap cur t cs q n hu hsz hg hn hl hsrc hfit h1
  have e : putEl w g off cs.toArray = w.setRow g (cur.toList.take off ++ cs ++ cur.toList.drop (off + cs.length)).toArray := by unfold putEl; rw [rowOf_of hg]; rfl
  rw [e]
  unfold Goes
  simp only [execOp, ho, resolve, invoke, builtin, hd, hs, hrun, Result.andThen, List.append_assoc] at h ⊢
  simp [hrun, hd, hs, Result.andThen]
  exact h
end
/-! ### A place of a crate of an owned stack -/
section
variable {w : World} {B e size n g cap : Nat} {xs : List Value}
theorem putEl_at (h : w.ownsRow B e size (.slice (some ⟨g, 0, none⟩) n cap) n xs) {off : Nat} {vs : Array Value} (hl : off + vs.size ≤ n * size) :
    (putEl w g off vs).ownsRow B e size (.slice (some ⟨g, 0, none⟩) n cap) n (xs.take off ++ vs.toList ++ xs.drop (off + vs.size)) := by
  obtain ⟨cur, hr, hh, hb, hn, hm, hc, ht⟩ := own_row h
  have hle2 : n * size ≤ cap * size := Nat.mul_le_mul_right _ hn
  have hcl : cur.toList.length = cap * size := by simpa using hc
  refine ⟨?_, .inr ⟨g, cap, (cur.toList.take off ++ vs.toList ++ cur.toList.drop (off + vs.size)).toArray, rfl, hb, ?_, hn, hm, ?_, ?_⟩⟩
  · simp only [List.length_append, List.length_take, List.length_drop, Array.length_toList, h.1]
    omega
  · unfold putEl
    rw [hr]
    exact setRow_heap w g _ _ _ _ hh
  · simp only [List.size_toArray, List.length_append, List.length_take, List.length_drop, Array.length_toList, hcl] at *
    omega
  · subst ht
    rw [List.append_assoc, List.append_assoc, List.take_append, List.take_append, List.take_take, List.length_take, hcl, Array.length_toList, Nat.min_eq_right (by omega), Nat.min_eq_left (by omega),
      List.take_take, Nat.min_eq_left (by omega), List.take_of_length_le (l := vs.toList) (by simp; omega), List.drop_take]
    rw [show n * size - off - vs.size = n * size - (off + vs.size) by omega]
theorem own_space {off : Nat} {vs : Array Value} (h : w.ownsRow B e size (.slice (some ⟨g, 0, none⟩) n cap) n xs) (hl : off + vs.size ≤ n * size) : ∃ cur, rowOf w g = some cur ∧ off + vs.size ≤ cur.size := by
  obtain ⟨cur, hr, hh, hb, hn, hm, hc, ht⟩ := own_row h
  refine ⟨cur, hr, ?_⟩
  rw [hc]
  exact Nat.le_trans hl (Nat.mul_le_mul_right _ hn)
end
theorem cut_mid {α : Type} {X Y Z V : List α} {k q r : Nat} (hX : X.length = k) (hY : q + r ≤ Y.length) : (X ++ Y ++ Z).take (k + q) ++ V ++ (X ++ Y ++ Z).drop (k + q + r) = X ++ (Y.take q ++ V ++ Y.drop (q + r)) ++ Z := by
  subst hX
  have h1 : (X ++ Y ++ Z).take (X.length + q) = X ++ Y.take q := by
    rw [List.append_assoc, List.take_length_add_append, List.take_append_of_le_length (by omega)]
  have h2 : (X ++ Y ++ Z).drop (X.length + q + r) = Y.drop (q + r) ++ Z := by
    rw [List.append_assoc, Nat.add_assoc, List.drop_length_add_append, List.drop_append_of_le_length hY]
  rw [h1, h2]
  simp only [List.append_assoc]
theorem fl_split {α : Type} [Inhabited α] {f : α → List Value} {k : Nat} (hf : ∀ x, (f x).length = k) {l : List α} {j : Nat} (hj : j < l.length) : fl f l = (fl f l).take (j * k) ++ f l[j]! ++ (fl f l).drop (j * k + k) := by
  have h := fl_set hf l j l[j]! hj
  rw [getB hj, List.set_getElem_self] at h
  rw [getB hj]
  exact h
theorem bcs_put (l : List Bt) (i : Nat) (b : Bt) (h : i < l.length) : bcs (l.set i b) = (bcs l).take (i * 2) ++ bc b ++ (bcs l).drop (i * 2 + 2) := by
  rw [← fl_bc, ← fl_bc]
  exact fl_set bc_length l i b h
/-- A bottle put into a place of crate j. -/
def putL (L : List Cr) (j p : Nat) (b : Bt) : List Cr := L.set j (setC L[j]! p b)
theorem fl_place {L : List Cr} {j p : Nat} (b : Bt) (hj : j < L.length) (hp : p < 12) : fl cc (putL L j p b) = (fl cc L).take (j * 24 + p * 2) ++ bc b ++ (fl cc L).drop (j * 24 + p * 2 + 2) := by
  have e : cc (setC L[j]! p b) = (cc L[j]!).take (p * 2) ++ bc b ++ (cc L[j]!).drop (p * 2 + 2) := by
    unfold cc
    rw [setC_toList]
    exact bcs_put _ _ _ (by rw [Vector.length_toList]; exact hp)
  have hl : ((fl cc L).take (j * 24)).length = j * 24 := by
    have h1 : j * 24 ≤ L.length * 24 := Nat.mul_le_mul_right _ (Nat.le_of_lt hj)
    rw [List.length_take, fl_length cc_length]
    omega
  have := cut_mid (X := (fl cc L).take (j * 24)) (Y := cc L[j]!) (Z := (fl cc L).drop (j * 24 + 24)) (V := bc b) (q := p * 2) (r := 2) hl (by rw [cc_length]; omega)
  rw [← fl_split cc_length hj] at this
  rw [this, putL, fl_set cc_length L j _ hj, e]
theorem putL_length (L : List Cr) (j p : Nat) (b : Bt) : (putL L j p b).length = L.length := by simp [putL]
/-- An owned stack behind a store into a place. -/
theorem OwnS.put {w : World} {B e g cap : Nat} {L : List Cr} {j p : Nat} (b : Bt) (h : OwnS cc w B e 24 (.slice (some ⟨g, 0, none⟩) L.length cap) L) (hj : j < L.length) (hp : p < 12) :
    OwnS cc (putEl w g (j * 24 + p * 2) #[.int .u8 b.k, .int .i16 b.y]) B e 24 (.slice (some ⟨g, 0, none⟩) L.length cap) (putL L j p b) := by
  have h1 : j * 24 + 24 ≤ L.length * 24 := by rw [← Nat.succ_mul]; exact Nat.mul_le_mul_right _ hj
  have := putEl_at h.1 (off := j * 24 + p * 2) (vs := #[.int .u8 b.k, .int .i16 b.y]) (by simp; omega)
  refine ⟨?_, g, cap, by rw [putL_length]⟩
  rw [putL_length, fl_place b hj hp]
  exact this
theorem OwnS.space {w : World} {B e g cap : Nat} {L : List Cr} {j p : Nat} {x y : Value} (h : OwnS cc w B e 24 (.slice (some ⟨g, 0, none⟩) L.length cap) L) (hj : j < L.length) (hp : p < 12) : ∃ cur, rowOf w g = some cur ∧ j * 24 + p * 2 + (#[x, y] : Array Value).size ≤ cur.size := by
  have h1 : j * 24 + 24 ≤ L.length * 24 := by rw [← Nat.succ_mul]; exact Nat.mul_le_mul_right _ hj
  exact own_space h.1 (by simp; omega)
/-! ### Packed -/
def packC (l : List Bt) (i j : Nat) : Cr := ⟨((List.range 12).map fun p => if 12 * j + p < i then rB l (12 * j + p) else zB).toArray, by simp⟩
theorem packC_toList (l : List Bt) (i j : Nat) : (packC l i j).toList = (List.range 12).map fun p => if 12 * j + p < i then rB l (12 * j + p) else zB := rfl
/-- The crates in which the first i bottles are. -/
def packK (l : List Bt) (i : Nat) : List Cr := (List.range ((i + 11) / 12)).map (packC l i)
def packL (l : List Bt) : List Cr := packK l l.length
theorem packK_length (l : List Bt) (i : Nat) : (packK l i).length = (i + 11) / 12 := by simp [packK]
theorem packC_zero (l : List Bt) (j : Nat) : packC l (12 * j) j = zC := by
  have : (packC l (12 * j) j).toList = zC.toList := by
    have e : ((List.range 12).map fun p => if 12 * j + p < 12 * j then rB l (12 * j + p) else zB) = (List.range 12).map fun _ => zB := List.map_congr_left fun p _ => if_neg (by omega)
    rw [packC_toList, e]
    rfl
  exact Vector.toList_inj.1 this
theorem packC_set (l : List Bt) (i : Nat) : setC (packC l i (i / 12)) (i % 12) (rB l i) = packC l (i + 1) (i / 12) := by
  apply Vector.toList_inj.1
  rw [setC_toList, packC_toList, packC_toList]
  apply List.ext_getElem
  · simp
  · intro p h1 h2
    simp only [List.length_map, List.length_range] at h2
    rw [List.getElem_set]
    simp only [List.getElem_map, List.getElem_range]
    by_cases hp : i % 12 = p
    · rw [if_pos hp, if_pos (by omega), show 12 * (i / 12) + p = i by omega]
    · rw [if_neg hp]
      by_cases hq : 12 * (i / 12) + p < i
      · rw [if_pos hq, if_pos (by omega)]
      · rw [if_neg hq, if_neg (by omega)]
theorem packC_same (l : List Bt) {i j : Nat} (h : j < i / 12) : packC l i j = packC l (i + 1) j := by
  apply Vector.toList_inj.1
  rw [packC_toList, packC_toList]
  apply List.map_congr_left
  intro p hp
  rw [List.mem_range] at hp
  rw [if_pos (by omega), if_pos (by omega)]
/-- Behind a new crate, where one is due. -/
def midK (l : List Bt) (i : Nat) : List Cr := if i % 12 = 0 then packK l i ++ [zC] else packK l i
theorem midK_length (l : List Bt) (i : Nat) : (midK l i).length = i / 12 + 1 := by
  unfold midK
  split
  · rw [List.length_append, packK_length]
    simp
    omega
  · rw [packK_length]
    omega
theorem midK_put (l : List Bt) (i : Nat) : putL (midK l i) (i / 12) (i % 12) (rB l i) = packK l (i + 1) := by
  have hl := midK_length l i
  have hm : midK l i = (List.range (i / 12 + 1)).map (packC l i) := by
    unfold midK
    split
    · rename_i h
      unfold packK
      rw [List.range_succ, List.map_append, show (i + 11) / 12 = i / 12 by omega]
      congr 1
      have := packC_zero l (i / 12)
      rw [show 12 * (i / 12) = i by omega] at this
      simp [this]
    · unfold packK
      rw [show (i + 11) / 12 = i / 12 + 1 by omega]
  have hq : (midK l i)[i / 12]! = packC l i (i / 12) := by
    rw [getB (by omega)]
    simp only [hm, List.getElem_map, List.getElem_range]
  unfold putL
  rw [hq, packC_set]
  apply List.ext_getElem
  · rw [List.length_set, hl, packK_length]
    omega
  · intro j h1 h2
    rw [List.length_set, hl] at h1
    rw [List.getElem_set]
    simp only [hm, packK, List.getElem_map, List.getElem_range]
    split
    · rename_i h
      rw [h]
    · exact packC_same l (by omega)
theorem midK_old {l : List Bt} {i : Nat} (h : i % 12 = 0) : midK l i = packK l i ++ [zC] := if_pos h
theorem midK_new {l : List Bt} {i : Nat} (h : ¬ i % 12 = 0) : midK l i = packK l i := if_neg h
section
variable {P : Program} {ops : Array Oper} {rest : List Oper} {o : Oper} {a : Act} {Q : Exit → Act → World → Prop} {W : World}
/-- append(v, x), with all that has not changed. -/
theorem wp_app2 (B : Nat) (hgd : o.guard = none) (s x : Operand) (t e : TypeId) (ho : o.op = .call { callee := .builtin .append, args := #[s, x], argTypes := #[t, t] })
    (z : Value) (size bytes : Nat) (ht : P.underlying t = some (.slice e)) (hinfo : (P.info? e).map (fun i => (i.zero, i.size, i.bytes)) = some (some z, size, bytes)) (hzs : z.cells.size = size) (hsz : 0 < size)
    (v : Value) (n : Nat) (xs news : List Value) (hs : a.eval s = v) (g : Nat) (hx : a.eval x = .slice (some ⟨g, 0, none⟩) 1 1) (hg : g = W.heap.size) (hl : news.length = size) (h1 : ∀ u ∈ news, u.oneCell' = true)
    (HO : W.ownsRow B e size v n xs) (hB : B ≤ W.heap.size) (hn : n + 1 ≤ 1000000000) (hby : bytes ≤ 1000)
    (h : ∀ v1 w1, w1.ownsRow B e size v1 (n + 1) (xs ++ news) → Below B W w1 ∧ ButV v W w1 → wpList P ops Q rest (a.put o.dst v1) w1) : wpList P ops Q (o :: rest) a (W.alloc (.cells news.toArray e)) := by
  subst hg
  obtain ⟨i0, hi, hzz⟩ := Option.map_eq_some_iff.1 hinfo
  simp only [Prod.mk.injEq] at hzz
  obtain ⟨hz0, hz1, hz2⟩ := hzz
  refine wpList_append_own (W.alloc (.cells news.toArray e)) hgd s x t ho B e i0 z size bytes ht hi hz0 hz1 hz2 hzs hsz v n xs hs (HO.alloc _) ⟨W.heap.size, 0, none⟩ 1 1 news hx (by omega) (fun j u hj => ?_) h1 (by simp only [maxLen]; omega) ?_ (by simp; omega) ?_
  · rw [addr_at]
    simp only [World.cell?_alloc_new]
    simpa using hj
  · calc (n + 1) * bytes ≤ 1000000000 * 1000 := Nat.mul_le_mul hn hby
      _ ≤ 140737488355328 := by decide
  intro v1 w1 hown hg _
  have hb := ((Below.refl B W).alloc hB _).grown hg (by simp; omega) (fun k hk => own_base HO k hk)
  refine h v1 w1 hown ⟨hb, ⟨hb.os, hb.tape, hb.output, hb.size, fun k hk => absurd hk (Nat.not_lt_zero _)⟩, fun b hb1 hv => ?_⟩
  rw [hg.block b (by simp; omega) (fun e => hv e.symm)]
  exact (Below.refl W.heap.size W).alloc (Nat.le_refl _) (.cells news.toArray e) |>.block b hb1
end
theorem infoBl (b : Bt) : (Try.prog.info? 41).map (·.size) = some (bc b).length := by rw [bc_length]; kernel_rfl
theorem cells_row {w w' : World} {g : Nat} {k y : Int} (h : rowOf w g = some (#[.int .u8 k, .int .i16 y] : Array Value)) (hb : Below w.heap.size w w') : w'.cell? ⟨g, 0, none⟩ = some (.int .u8 k) ∧ w'.cell? ⟨g, 1, none⟩ = some (.int .i16 y) :=
  ⟨rowOf_cell (row_kept h hb) 0, rowOf_cell (row_kept h hb) 1⟩
/-- All bottles of an order. -/
def botsL (l : List Wt) : List Bt := l.flatMap fun x => List.replicate x.n.toNat x.b
theorem botsL_step {l : List Wt} {k : Nat} (hk : k < l.length) : botsL (l.take (k + 1)) = botsL (l.take k) ++ List.replicate l[k]!.n.toNat l[k]!.b := by
  unfold botsL
  rw [List.take_succ_eq_append_getElem hk, getB hk, List.flatMap_append]
  simp
theorem botsL_le : ∀ l : List Wt, (botsL l).length ≤ 32767 * l.length
  | [] => by simp [botsL]
  | x :: l => by
    have h := botsL_le l
    have hx := x.hn
    have e : botsL (x :: l) = List.replicate x.n.toNat x.b ++ botsL l := by simp [botsL]
    rw [e, List.length_append, List.length_replicate, List.length_cons]
    omega
theorem rep_copy {n j m : Nat} (b : Bt) (hm : j + m ≤ n) :
    (fl bc (List.replicate j b ++ List.replicate (n - j) zB)).take (j * 2) ++ fl bc (List.replicate m b) ++ (fl bc (List.replicate j b ++ List.replicate (n - j) zB)).drop (j * 2 + m * 2) = fl bc (List.replicate (j + m) b ++ List.replicate (n - (j + m)) zB) := by
  have e : (fl bc (List.replicate j b)).length = j * 2 := by rw [fl_length bc_length]; simp
  have e1 : (fl bc (List.replicate m zB)).length = m * 2 := by rw [fl_length bc_length]; simp
  have e2 : List.replicate (n - j) zB = List.replicate m zB ++ List.replicate (n - (j + m)) zB := by rw [List.replicate_append_replicate]; congr 1; omega
  rw [e2, fl_append, fl_append, fl_append, ← List.replicate_append_replicate, fl_append, ← e, List.take_left, List.drop_append, List.drop_eq_nil_of_le (by omega), Nat.add_sub_cancel_left, ← e1, List.drop_left, List.nil_append]
theorem fl_ones {α : Type} {f : α → List Value} (hf : ∀ x, ∀ u ∈ f x, u.oneCell' = true) (l : List α) : ∀ u ∈ fl f l, u.oneCell' = true := fun u hu => by
  obtain ⟨x, _, hx⟩ := List.mem_flatMap.1 hu
  exact hf x u hx
end Go.Proofs.Ytoiinpoiggkkdaa
