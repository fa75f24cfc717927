/- Laws of the walk for whole rows: a struct or an array loaded, stored, handed back. -/
import Derived.Test.YtbngpcghognojaaDoorSmall
import Derived.Handy
import Derived.Deep.Cut
namespace Go.Proofs.YtbngpcghognojaaDoor
open Go.RowKit
set_option linter.unusedVariables false
set_option linter.unusedSimpArgs false
set_option maxRecDepth 100000
set_option maxHeartbeats 1000000
section
variable {P : Program} {ops : Array Oper} {rest : List Oper} {o : Oper} {a : Act} {w : World} {Q : Exit → Act → World → Prop}
/-- A whole row loaded from the head of its block. -/
theorem wp_load_rowOf (hgd : o.guard = none) (ty : TypeId) (x : Operand) (ho : o.op = .load ty x) (g : Nat) (hx : a.eval x = .pointer (some ⟨g, 0, none⟩)) (cs : Array Value) (hr : rowOf w g = some cs)
    (d : TypeDesc) (hu : P.underlying ty = some d) (hd : TypeDesc.isRow d = true) (hi : (P.info? ty).map (·.size) = some cs.size)
    (h : wpList P ops Q rest (a.put o.dst (.agg cs)) w) : wpList P ops Q (o :: rest) a w := by
  obtain ⟨t, ht⟩ := rowOf_some hr
  exact wpList_load_row hgd ty x ho g hx t cs (0, 0) d ht hu (by cases d <;> first | rfl | simp [TypeDesc.isRow] at hd) hi h
/-- A whole row loaded from wherever its cells lie. -/
theorem wp_load_cells (hgd : o.guard = none) (ty : TypeId) (x : Operand) (ho : o.op = .load ty x) (g off : Nat) (hx : a.eval x = .pointer (some ⟨g, off, none⟩)) (cs : List Value)
    (hc : ∀ i v, cs[i]? = some v → w.cell? ⟨g, off + i, none⟩ = some v)
    (d : TypeDesc) (hu : P.underlying ty = some d) (hd : TypeDesc.isRow d = true) (hi : (P.info? ty).map (·.size) = some cs.length)
    (h : wpList P ops Q rest (a.put o.dst (.agg cs.toArray)) w) : wpList P ops Q (o :: rest) a w :=
  wpList_plain hgd fun K hK => by
    have hl := run_loadVar_cells (P := P) w ⟨g, off, none⟩ ty cs d hu hd hi (fun j v hv => by
      have e : (⟨g, off, none⟩ : Addr).add j = ⟨g, off + j, none⟩ := by unfold Addr.add; split <;> simp_all
      rw [e]
      exact hc j v hv)
    unfold Oper.wp execOp
    simp only [ho, hx, Instr.loadAt, Instr.sureAddr, Sem.run_bind, Sem.run_pure, Result.andThen_ok, hl]
    exact hK _ _ h
/-- A whole row stored into a block of its size. -/
theorem wp_store_rowOf (hgd : o.guard = none) (hdst : o.dst = none) (ty : TypeId) (x y : Operand) (ho : o.op = .store ty x y) (g : Nat) (hx : a.eval x = .pointer (some ⟨g, 0, none⟩)) (vs : Array Value) (hy : a.eval y = .agg vs) (cs : Array Value) (hr : rowOf w g = some cs)
    (hn : cs.size = vs.size) (hi : (P.info? ty).map (·.size) = some vs.size) (h1 : ∀ v ∈ vs.toList, v.oneCell' = true)
    (h : wpList P ops Q rest a (w.setRow g vs)) : wpList P ops Q (o :: rest) a w :=
  wpList_plain hgd fun K hK => by
    have hl := run_storeAt_row (P := P) w g ty vs.size vs hi rfl (by rw [hr]; simp [hn]) h1
    unfold Oper.wp execOp
    simp only [ho, hx, hy, Sem.run_bind, Sem.run_pure, Result.andThen_ok, hl]
    show K (a.put o.dst undef) _
    rw [hdst]
    exact hK _ _ h
end
section
variable {P : Program} {fn : Func} {tmps : Array Value} {w : World} {p q u t : Tmp} {ty ty' : TypeId} {g g' : Nat} {v v' : Value}
theorem loadVar_rowOf (cs : Array Value) (hr : rowOf w g = some cs) (d : TypeDesc) (hu : P.underlying ty = some d) (hd : TypeDesc.isRow d = true) (hi : (P.info? ty).map (·.size) = some cs.size) :
    (loadVar ty ⟨g, 0, none⟩).run P w = .ok (.agg cs) w := by
  obtain ⟨t, ht⟩ := rowOf_some hr
  exact run_loadVar_row w g t ty cs (0, 0) d ht hu (by cases d <;> first | rfl | simp [TypeDesc.isRow] at hd) hi
theorem results_c (h : fn.results = #[.cell p ty]) (hp : tmps.getD p undef = .pointer (some ⟨g, 0, none⟩)) (hl : (loadVar ty ⟨g, 0, none⟩).run P w = .ok v w) :
    (results fn tmps).run P w = .ok v w := by
  simp only [results, h]
  simp [Sem.run_bind, Result.andThen, asAddr, hl] at hp ⊢
  simp [hp, hl]
theorem results_ct (h : fn.results = #[.cell p ty, .tmp t]) (hp : tmps.getD p undef = .pointer (some ⟨g, 0, none⟩)) (hl : (loadVar ty ⟨g, 0, none⟩).run P w = .ok v w) :
    (results fn tmps).run P w = .ok (.tuple #[v, tmps.getD t undef]) w := by
  simp only [results, h]
  simp [Sem.run_bind, Result.andThen, asAddr, hl] at hp ⊢
  simp [hp, hl]
theorem results_ctt (h : fn.results = #[.cell p ty, .tmp t, .tmp u]) (hp : tmps.getD p undef = .pointer (some ⟨g, 0, none⟩)) (hl : (loadVar ty ⟨g, 0, none⟩).run P w = .ok v w) :
    (results fn tmps).run P w = .ok (.tuple #[v, tmps.getD t undef, tmps.getD u undef]) w := by
  simp only [results, h]
  simp [Sem.run_bind, Result.andThen, asAddr, hl] at hp ⊢
  simp [hp, hl]
theorem results_cct (h : fn.results = #[.cell p ty, .cell q ty', .tmp t]) (hp : tmps.getD p undef = .pointer (some ⟨g, 0, none⟩)) (hq : tmps.getD q undef = .pointer (some ⟨g', 0, none⟩))
    (hl : (loadVar ty ⟨g, 0, none⟩).run P w = .ok v w) (hl' : (loadVar ty' ⟨g', 0, none⟩).run P w = .ok v' w) :
    (results fn tmps).run P w = .ok (.tuple #[v, v', tmps.getD t undef]) w := by
  simp only [results, h]
  simp [Sem.run_bind, Result.andThen, asAddr, hl] at hp hq ⊢
  simp [hp, hq, hl, hl']
end
theorem infoC (c : Cr) : (Tryd.prog.info? 32).map (·.size) = some (cc c).toArray.size := by rw [cc_size]; kernel_rfl
theorem infoLC (c : Cr) : (Tryd.prog.info? 29).map (·.size) = some (cc c).toArray.size := by rw [cc_size]; kernel_rfl
theorem cc_one (c : Cr) : ∀ v ∈ (cc c).toArray.toList, v.oneCell' = true := bcs_one c.toList

theorem cc_size2 (c d : Cr) : (cc c).toArray.size = (cc d).toArray.size := by rw [cc_size, cc_size]
theorem zC_one : ∀ v ∈ (cc zC).toArray.toList, v.oneCell' = true := cc_one zC
/-- A whole row laid into a new block. -/
theorem laid_row {W w1 W2 : World} {cs cs' : Array Value} {t : TypeId} (H : Below W.heap.size W w1) (h : (w1.alloc (.cells cs t)).setRow w1.heap.size cs' = W2) :
    Below W.heap.size W W2 ∧ rowOf W2 w1.heap.size = some cs' ∧ w1.heap.size < W2.heap.size := by
  subst h
  have r : rowOf ((w1.alloc (.cells cs t)).setRow w1.heap.size cs') w1.heap.size = some cs' := by
    rw [rowOf_setRow, if_pos rfl, rowOf_alloc, if_pos rfl]
    rfl
  exact ⟨bsetRow (H.alloc H.size _) H.size _, r, rowOf_lt r⟩
/-! ### The same with the rows told of an earlier world -/
section
variable {P : Program} {ops : Array Oper} {rest : List Oper} {o : Oper} {a : Act} {W w : World} {Q : Exit → Act → World → Prop}
theorem wp_load_rowB (H : Below W.heap.size W w) (hgd : o.guard = none) (ty : TypeId) (x : Operand) (ho : o.op = .load ty x) (g : Nat) (hx : a.eval x = .pointer (some ⟨g, 0, none⟩)) (cs : Array Value) (hr : rowOf W g = some cs)
    (d : TypeDesc) (hu : P.underlying ty = some d) (hd : TypeDesc.isRow d = true) (hi : (P.info? ty).map (·.size) = some cs.size)
    (h : wpList P ops Q rest (a.put o.dst (.agg cs)) w) : wpList P ops Q (o :: rest) a w :=
  wp_load_rowOf hgd ty x ho g hx cs ((rowOf_below H (rowOf_lt hr)).trans hr) d hu hd hi h
theorem wp_load_rowBg (H : Below W.heap.size W w) (hw : Region.wanted o (yielded ops a.tmps) = true) (ty : TypeId) (x : Operand) (ho : o.op = .load ty x) (g : Nat) (hx : a.eval x = .pointer (some ⟨g, 0, none⟩)) (cs : Array Value) (hr : rowOf W g = some cs)
    (d : TypeDesc) (hu : P.underlying ty = some d) (hd : TypeDesc.isRow d = true) (hi : (P.info? ty).map (·.size) = some cs.size)
    (h : wpList P ops Q rest (a.put o.dst (.agg cs)) w) : wpList P ops Q (o :: rest) a w :=
  wpList_step fun K hK => by
    rw [if_pos hw]
    have hl := loadVar_rowOf (P := P) cs ((rowOf_below H (rowOf_lt hr)).trans hr) d hu hd hi
    unfold Oper.wp execOp
    simp only [ho, hx, Instr.loadAt, Instr.sureAddr, Sem.run_bind, Sem.run_pure, Result.andThen_ok, hl]
    exact hK _ _ h
theorem wp_store_rowB (H : Below W.heap.size W w) (hgd : o.guard = none) (hdst : o.dst = none) (ty : TypeId) (x y : Operand) (ho : o.op = .store ty x y) (g : Nat) (hx : a.eval x = .pointer (some ⟨g, 0, none⟩)) (vs : Array Value) (hy : a.eval y = .agg vs) (cs : Array Value) (hr : rowOf W g = some cs)
    (hn : cs.size = vs.size) (hi : (P.info? ty).map (·.size) = some vs.size) (h1 : ∀ v ∈ vs.toList, v.oneCell' = true)
    (h : wpList P ops Q rest a (w.setRow g vs)) : wpList P ops Q (o :: rest) a w :=
  wp_store_rowOf hgd hdst ty x y ho g hx vs hy cs ((rowOf_below H (rowOf_lt hr)).trans hr) hn hi h1 h
end
theorem infoZ (k : Cr) : (Tryd.prog.info? 32).map (·.size) = some (cc zC).toArray.size := by rw [cc_size]; kernel_rfl
section
variable {ops : Array Oper} {rest : List Oper} {o : Oper} {a : Act} {W w : World} {Q : Exit → Act → World → Prop}
/-- The empty crate stored. -/
theorem wp_store_zeroB (H : Below W.heap.size W w) (hgd : o.guard = none) (hdst : o.dst = none) (x y : Operand) (ho : o.op = .store 32 x y) (g : Nat) (hx : a.eval x = .pointer (some ⟨g, 0, none⟩))
    (hy : a.eval y = .agg #[.int .u8 0, .int .i16 0, .int .u8 0, .int .i16 0, .int .u8 0, .int .i16 0, .int .u8 0, .int .i16 0, .int .u8 0, .int .i16 0, .int .u8 0, .int .i16 0, .int .u8 0, .int .i16 0, .int .u8 0, .int .i16 0, .int .u8 0, .int .i16 0, .int .u8 0, .int .i16 0, .int .u8 0, .int .i16 0, .int .u8 0, .int .i16 0])
    (c : Cr) (hr : rowOf W g = some (cc c).toArray) (h : wpList Tryd.prog ops Q rest a (w.setRow g (cc zC).toArray)) : wpList Tryd.prog ops Q (o :: rest) a w :=
  wp_store_rowB H hgd hdst 32 x y ho g hx (cc zC).toArray hy (cc c).toArray hr (cc_size2 _ _) (infoC zC) zC_one h
end
theorem infoLB (k y : Int) : (Tryd.prog.info? 24).map (·.size) = some (#[Value.int .u8 k, Value.int .i16 y] : Array Value).size := by kernel_rfl
theorem infoB (k y : Int) : (Tryd.prog.info? 26).map (·.size) = some (#[Value.int .u8 k, Value.int .i16 y] : Array Value).size := by kernel_rfl
/-- A new crate. -/
theorem alloc_run {d : Option Tmp} {ty : TypeId} {pos : String} {after : Array Edge} (ev : Operand → Value) (w : World) :
    (execOp ev ⟨d, .alloc 32, ty, pos, after, none⟩).run Tryd.prog w = .ok (.value (.pointer (some ⟨w.heap.size, 0, none⟩))) (w.alloc (.cells (cc zC).toArray 32)) := by
  rw [cc_zero]
  simp [go_sem]
  done
theorem laid_two {W w1 W2 : World} {cs cs2 A B : Array Value} {t t2 : TypeId} (H : Below W.heap.size W w1) (h : (((w1.alloc (.cells cs t)).alloc (.cells cs2 t2)).setRow w1.heap.size A).setRow (w1.heap.size + 1) B = W2) :
    Below W.heap.size W W2 ∧ rowOf W2 w1.heap.size = some A ∧ rowOf W2 (w1.heap.size + 1) = some B := by
  subst h
  have hz : (w1.alloc (.cells cs t)).heap.size = w1.heap.size + 1 := by simp
  refine ⟨bsetRow (bsetRow ((H.alloc H.size _).alloc (by rw [hz]; have := H.size; omega) _) H.size _) (by have := H.size; omega) _, ?_, ?_⟩
  · rw [rowOf_setRow, if_neg (by omega), rowOf_setRow, if_pos rfl, rowOf_alloc, if_neg (by omega), rowOf_alloc, if_pos rfl]
    rfl
  · rw [rowOf_setRow, if_pos rfl, rowOf_setRow, if_neg (by omega), rowOf_alloc, if_pos hz.symm]
    rfl
theorem bv_one (k y : Int) : ∀ v ∈ (#[.int .u8 k, .int .i16 y] : Array Value).toList, v.oneCell' = true := by
  intro v hv
  simp at hv
  rcases hv with rfl | rfl <;> rfl
/-- Two rows stored, one behind the other. -/
theorem two_rows {w W w1 : World} {g1 g2 : Nat} {A0 B0 A B : Array Value} (H0 : Below w.heap.size w W) (H : Below W.heap.size W w1) (h1 : rowOf W g1 = some A0) (h2 : rowOf W g2 = some B0) (l1 : w.heap.size ≤ g1) (hlt : g1 < g2) :
    rowOf ((w1.setRow g1 A).setRow g2 B) g1 = some A ∧ rowOf ((w1.setRow g1 A).setRow g2 B) g2 = some B ∧ Below w.heap.size w ((w1.setRow g1 A).setRow g2 B) := by
  have k1 : rowOf w1 g1 = some A0 := (rowOf_below H (rowOf_lt h1)).trans h1
  have k2 : rowOf w1 g2 = some B0 := (rowOf_below H (rowOf_lt h2)).trans h2
  refine ⟨?_, ?_, bsetRow (bsetRow (bstep H0 H) l1 _) (by omega) _⟩
  · rw [rowOf_setRow, if_neg (by omega), rowOf_setRow, if_pos rfl, k1]
    rfl
  · rw [rowOf_setRow, if_pos rfl, rowOf_setRow, if_neg (by omega), k2]
    rfl
/-! ### A crate that is being filled, from the first place on -/
def pad (l : List Bt) (k : Nat) : List Bt := l.take k ++ List.replicate (12 - k) zB
theorem pad_zero (l : List Bt) : pad l 0 = zC.toList := by simp [pad, zC]
theorem pad_full {l : List Bt} (h : l.length = 12) : pad l 12 = l := by simp [pad, List.take_of_length_le (Nat.le_of_eq h)]
theorem pad_length {l : List Bt} {k : Nat} (h : k ≤ l.length) (h12 : k ≤ 12) : (pad l k).length = 12 := by simp [pad]; omega
theorem pad_set {l : List Bt} {k : Nat} (h : k < l.length) (h12 : k < 12) : (pad l k).set k (rB l k) = pad l (k + 1) := by
  have e : 12 - k = (12 - (k + 1)) + 1 := by omega
  unfold pad
  rw [e, List.replicate_succ, List.take_succ_eq_append_getElem h, ← rB_lt h]
  have hl : (l.take k).length = k := by simp; omega
  rw [List.set_append_right _ _ (by omega), hl, Nat.sub_self]
  simp
/-- Cells lie at block b from o on. -/
def CAt (w : World) (b o : Nat) (vs : List Value) : Prop := ∀ i v, vs[i]? = some v → w.cell? ⟨b, o + i, none⟩ = some v
theorem CAt.below {w w' : World} {b o : Nat} {vs : List Value} {B : Nat} (h : CAt w b o vs) (hb : Below B w w') (hB : b < B) : CAt w' b o vs :=
  fun i v hv => (hb.cell hB).trans (h i v hv)
theorem CAt.of_row {w : World} {g : Nat} {vs : List Value} (h : rowOf w g = some vs.toArray) : CAt w g 0 vs :=
  fun i v hv => by rw [Nat.zero_add, rowOf_cell h]; simpa using hv
theorem CAt.sub {w : World} {b o : Nat} {vs : List Value} (h : CAt w b o vs) (k : Nat) : CAt w b (o + k) (vs.drop k) :=
  fun i v hv => by rw [Nat.add_assoc]; exact h (k + i) v (by simpa using hv)
theorem CAt.take {w : World} {b o : Nat} {vs : List Value} (h : CAt w b o vs) (k : Nat) : CAt w b o (vs.take k) :=
  fun i v hv => h i v (by rw [List.getElem?_take] at hv; split at hv <;> simp_all)
theorem CAt.bot0 {w : World} {b o : Nat} {l : List Bt} (h : CAt w b o (bcs l)) {i : Nat} (hi : i < l.length) : w.cell? ⟨b, o + i * 2, none⟩ = some (.int .u8 (rB l i).k) := h _ _ (bcs_at l i hi).1
theorem CAt.bot1 {w : World} {b o : Nat} {l : List Bt} (h : CAt w b o (bcs l)) {i : Nat} (hi : i < l.length) : w.cell? ⟨b, o + i * 2 + 1, none⟩ = some (.int .i16 (rB l i).y) := h _ _ (bcs_at l i hi).2
section
variable {w w' : World} {g : Nat} {l : List Bt} {i : Nat}
theorem row0 (h : rowOf w g = some (bcs l).toArray) (hi : i < l.length) : w.cell? ⟨g, i * 2, none⟩ = some (.int .u8 (rB l i).k) := by simpa using (CAt.of_row h).bot0 hi
theorem row1 (h : rowOf w g = some (bcs l).toArray) (hi : i < l.length) : w.cell? ⟨g, i * 2 + 1, none⟩ = some (.int .i16 (rB l i).y) := by simpa using (CAt.of_row h).bot1 hi
theorem row_put (b : Bt) (h : rowOf w g = some (bcs l).toArray) (hi : i < l.length) : rowOf ((w.setCell ⟨g, i * 2, none⟩ (.int .u8 b.k)).setCell ⟨g, i * 2 + 1, none⟩ (.int .i16 b.y)) g = some (bcs (l.set i b)).toArray := by
  rw [rowOf_setCell, if_pos rfl, rowOf_setCell, if_pos rfl, h, bcs_set _ _ _ hi]
  simp
theorem row_far {g' o : Nat} {v : Value} (hne : g ≠ g') : rowOf (w.setCell ⟨g', o, none⟩ v) g = rowOf w g := by rw [rowOf_setCell, if_neg hne]
theorem row_kept {cs : Array Value} (h : rowOf w g = some cs) (hb : Below w.heap.size w w') : rowOf w' g = some cs := (rowOf_below hb (rowOf_lt h)).trans h
end
end Go.Proofs.YtbngpcghognojaaDoor
