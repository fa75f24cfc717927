/- Slices of elements of several cells: how their cells lie, how they are read as data, an element loaded, an element stored. -/
import Derived.Test.YtbngpcghognojaaDoorInts
import Derived.Test.YtbngpcghognojaaDoorRead
import Derived.Test.YtbngpcghognojaaDoorDrawn
namespace Go.Proofs.YtbngpcghognojaaDoor
open Go.RowKit Go.ChangeShapes Go.WideShapes Go.ChangeAt
set_option linter.unusedVariables false
set_option linter.unusedSimpArgs false
set_option maxRecDepth 100000
set_option maxHeartbeats 1000000
/-- The cells of a list of elements. -/
def fl {α : Type} (f : α → List Value) (l : List α) : List Value := l.flatMap f
section
variable {α : Type} {f : α → List Value} {k : Nat}
theorem fl_nil : fl f [] = [] := rfl
theorem fl_cons (x : α) (l : List α) : fl f (x :: l) = f x ++ fl f l := rfl
theorem fl_append (l m : List α) : fl f (l ++ m) = fl f l ++ fl f m := by simp [fl]
theorem fl_one (x : α) : fl f [x] = f x := by simp [fl]
theorem fl_length (hf : ∀ x, (f x).length = k) : ∀ l : List α, (fl f l).length = l.length * k
  | [] => by simp [fl]
  | x :: l => by rw [fl_cons, List.length_append, hf, fl_length hf l, List.length_cons, Nat.add_mul]; omega
theorem fl_at [Inhabited α] (hf : ∀ x, (f x).length = k) : ∀ (l : List α) (i : Nat), i < l.length → ∀ j v, (f l[i]!)[j]? = some v → (fl f l)[i * k + j]? = some v
  | [], i, h, _, _, _ => by simp at h
  | x :: l, 0, _, j, v, hv => by
    have hv' : (f x)[j]? = some v := by simpa using hv
    have hj := (List.getElem?_eq_some_iff.1 hv').1
    rw [fl_cons, Nat.zero_mul, Nat.zero_add, List.getElem?_append_left hj]
    exact hv'
  | x :: l, i + 1, h, j, v, hv => by
    have := fl_at hf l i (by simpa using h) j v (by simpa using hv)
    rw [fl_cons, List.getElem?_append_right (by rw [hf, Nat.add_mul]; omega), hf, show (i + 1) * k + j - k = i * k + j by rw [Nat.add_mul]; omega]
    exact this
theorem fl_set (hf : ∀ x, (f x).length = k) : ∀ (l : List α) (i : Nat) (x : α), i < l.length → fl f (l.set i x) = (fl f l).take (i * k) ++ f x ++ (fl f l).drop (i * k + k)
  | [], i, _, h => by simp at h
  | y :: l, 0, x, _ => by
    rw [List.set_cons_zero, fl_cons, fl_cons, Nat.zero_mul, List.take_zero, List.nil_append, Nat.zero_add, List.drop_append_of_le_length (by rw [hf]; exact Nat.le_refl _), List.drop_eq_nil_of_le (by rw [hf]; exact Nat.le_refl _), List.nil_append]
  | y :: l, i + 1, x, h => by
    have := fl_set hf l i x (by simpa using h)
    have e : (i + 1) * k = k + i * k := by rw [Nat.add_mul]; omega
    have e2 : (i + 1) * k + k = k + (i * k + k) := by rw [e]; omega
    have d : ∀ j, List.drop (k + j) (f y ++ fl f l) = List.drop j (fl f l) := fun j => by rw [List.drop_append, hf, List.drop_eq_nil_of_le (by rw [hf]; omega), List.nil_append, Nat.add_sub_cancel_left]
    have t : ∀ j, List.take (k + j) (f y ++ fl f l) = f y ++ List.take j (fl f l) := fun j => by rw [List.take_append, hf, List.take_of_length_le (by rw [hf]; omega), Nat.add_sub_cancel_left]
    rw [List.set_cons_succ, fl_cons, fl_cons, this, e2, e, d, t]
    simp only [List.append_assoc]
theorem getB [Inhabited α] {l : List α} {i : Nat} (h : i < l.length) : l[i]! = l[i] := getElem!_pos l i h
/-- Element i of cells that lie somewhere. -/
theorem CAt.el [Inhabited α] (hf : ∀ x, (f x).length = k) {w : World} {g off : Nat} {l : List α} (h : CAt w g off (fl f l)) {i : Nat} (hi : i < l.length) : CAt w g (off + i * k) (f l[i]!) :=
  fun j v hv => by rw [Nat.add_assoc]; exact h _ _ (fl_at hf l i hi j v hv)
end
/-! ### Read as data -/
section
variable {H : Type} {enc : TypeId × Value → H} {P : Program} {w : World} {base : Nat} {spare : Nat → Bool} {held : Bool}
theorem read_slice {α : Type} [Inhabited α] {f : α → List Value} {k : Nat} {t e : TypeId} (ht : P.underlying t = some (.slice e)) (hk : P.cellsOf e = k) (hk0 : 0 < k) (hf : ∀ x, (f x).length = k)
    (hE : ∀ n cs x, DataW.trod enc P w base spare held n e cs = some x → ∃ b : α, cs = f b) {v : Value} {d : DataW H} {ps : List MemPlace} (hv : Value.okWide P w .any 0 t v) (h : DataW.Trod enc P w base spare held t v d ps) :
    ∃ (A : Option Addr) (c : Nat) (l : List α), v = .slice A l.length c ∧ l.length ≤ maxLen ∧ RdA w A (fl f l) := by
  obtain ⟨A, len, cap, rfl⟩ := okWide_slice ht hv
  obtain ⟨n, hn⟩ := h
  rcases Go.Deep.open_slice ht hn with ⟨hcs, _⟩ | ⟨a, len', cap', m, n', D, Pl, hcs, hb, hle, hm, hmm, hx, hel⟩
  · obtain ⟨rfl, rfl, rfl⟩ : A = none ∧ len = 0 ∧ cap = 0 := by simpa [Value.cells] using hcs
    exact ⟨none, 0, [], rfl, by simp, .inl rfl⟩
  · obtain ⟨rfl, rfl, rfl⟩ : A = some a ∧ len = len' ∧ cap = cap' := by simpa [Value.cells] using hcs
    have hlm : len ≤ m := by rw [hmm]; split <;> omega
    have hall : ∀ i, i < len → ∃ b : α, ∀ j v, (f b)[j]? = some v → w.cell? ((a.add (i * k)).add j) = some v := by
      intro i hi
      obtain ⟨cs', hc, hd⟩ := hel i (by omega)
      obtain ⟨b, rfl⟩ := hE _ _ _ hd
      rw [hk] at hc
      have := (World.cells?_some hc).2.2
      refine ⟨b, fun j v hv => ?_⟩
      have hj := (List.getElem?_eq_some_iff.1 hv).1
      rw [hf] at hj
      rw [this j hj, hv]
    obtain ⟨F, hF⟩ := Go.Deep.choose_lt hall
    have hgt : ∀ i, i < len → ((List.range len).map F)[i]! = F i := by
      intro i hi
      rw [getB (by simpa using hi)]
      simp
    refine ⟨some a, cap, (List.range len).map F, by simp, by simp; omega, ?_⟩
    by_cases h0 : len = 0
    · subst h0
      exact .inl rfl
    · right
      have hsp : a.spot = none := by
        have h1 : 0 < (f (F 0)).length := by rw [hf]; exact hk0
        have := hF 0 (by omega) 0 _ (List.getElem?_eq_getElem h1)
        rw [Nat.zero_mul, Go.Deep.add_add] at this
        simp only [Addr.add, World.cell?, Nat.add_zero, ↓reduceIte] at this
        split at this
        · split at this
          · cases this
          · rename_i h2
            cases hs : a.spot with
            | none => rfl
            | some _ => simp [hs] at h2
        · cases this
      obtain ⟨g, off, sp⟩ := a
      replace hsp : sp = none := hsp
      subst hsp
      have hcell : ∀ i, i < len → ∀ j v, (f (F i))[j]? = some v → w.cell? ⟨g, off + (i * k + j), none⟩ = some v := by
        intro i hi j v hv
        have := hF i hi j v hv
        rw [Go.Deep.add_add] at this
        have e : (⟨g, off, none⟩ : Addr).add (i * k + j) = ⟨g, off + (i * k + j), none⟩ := by unfold Addr.add; split <;> simp_all
        rwa [e] at this
      refine ⟨g, off, rfl, ?_, ?_⟩
      · have h1 : 0 < (f (F 0)).length := by rw [hf]; exact hk0
        exact World.block_lt_of_cell? _ _ (hcell 0 (by omega) 0 _ (List.getElem?_eq_getElem h1))
      · intro i v hi
        have hi' := (List.getElem?_eq_some_iff.1 hi).1
        rw [fl_length hf] at hi'
        simp only [List.length_map, List.length_range] at hi'
        have hq : i / k < len := by rw [Nat.div_lt_iff_lt_mul hk0]; exact hi'
        have hr : i % k < (f (F (i / k))).length := by rw [hf]; exact Nat.mod_lt _ hk0
        have e : i / k * k + i % k = i := Nat.div_add_mod' i k
        have h1 := hcell (i / k) hq (i % k) _ (List.getElem?_eq_getElem hr)
        have h2 := fl_at hf ((List.range len).map F) (i / k) (by simpa using hq) (i % k) _ (by rw [hgt _ hq]; exact List.getElem?_eq_getElem hr)
        rw [e] at h1 h2
        rw [h1, ← h2, hi]
end
/-! ### An owned slice: an element stored -/
section
variable {w : World} {B e size n g cap : Nat} {xs : List Value}
theorem own_cells (h : w.ownsRow B e size (.slice (some ⟨g, 0, none⟩) n cap) n xs) : CAt w g 0 xs := fun i v hv => by
  have hj := (List.getElem?_eq_some_iff.1 hv).1
  rw [Nat.zero_add, h.cellAt i (by rw [← h.1]; exact hj), hv]
/-- The world behind a store of a whole element. -/
def putEl (w : World) (g o : Nat) (vs : Array Value) : World :=
  match rowOf w g with
  | some cur => w.setRow g (cur.toList.take o ++ vs.toList ++ cur.toList.drop (o + vs.size)).toArray
  | none => w
theorem own_row (h : w.ownsRow B e size (.slice (some ⟨g, 0, none⟩) n cap) n xs) : ∃ cur, rowOf w g = some cur ∧ w.heap[g]? = some (.cells cur e (0, 0)) ∧ B ≤ g ∧ n ≤ cap ∧ cap ≤ maxLen ∧ cur.size = cap * size ∧ cur.toList.take (n * size) = xs := by
  rcases h.2 with ⟨h0, _⟩ | ⟨g', cap', cur, hv, hb, hh, hn, hm, hc, ht⟩
  · cases h0
  · simp only [Value.slice.injEq, Option.some.injEq, Addr.mk.injEq, and_true, true_and] at hv
    obtain ⟨rfl, rfl⟩ := hv
    exact ⟨cur, rowOf_of hh, hh, hb, hn, hm, hc, ht⟩
theorem putEl_below {b : Nat} (hb : b ≤ g) (o : Nat) (vs : Array Value) : Below b w (putEl w g o vs) := by
  unfold putEl
  split
  · exact bsetRow (Below.refl _ _) hb _
  · exact Below.refl _ _
theorem putEl_own (h : w.ownsRow B e size (.slice (some ⟨g, 0, none⟩) n cap) n xs) {i : Nat} (hi : i < n) {vs : Array Value} (hs : vs.size = size) :
    (putEl w g (i * size) vs).ownsRow B e size (.slice (some ⟨g, 0, none⟩) n cap) n (xs.take (i * size) ++ vs.toList ++ xs.drop (i * size + size)) := by
  obtain ⟨cur, hr, hh, hb, hn, hm, hc, ht⟩ := own_row h
  have hle : i * size + size ≤ n * size := by rw [← Nat.succ_mul]; exact Nat.mul_le_mul_right _ hi
  have hle2 : n * size ≤ cap * size := Nat.mul_le_mul_right _ hn
  have hcl : cur.toList.length = cap * size := by simpa using hc
  refine ⟨?_, .inr ⟨g, cap, (cur.toList.take (i * size) ++ vs.toList ++ cur.toList.drop (i * size + vs.size)).toArray, rfl, hb, ?_, hn, hm, ?_, ?_⟩⟩
  · simp only [List.length_append, List.length_take, List.length_drop, Array.length_toList, hs, h.1]
    omega
  · unfold putEl
    rw [hr]
    exact setRow_heap w g _ _ _ _ hh
  · simp only [List.size_toArray, List.length_append, List.length_take, List.length_drop, Array.length_toList, hs, hcl] at *
    omega
  · subst ht
    rw [hs, List.append_assoc, List.append_assoc, List.take_append, List.take_append, List.take_take, List.length_take, hcl, Array.length_toList, hs, Nat.min_eq_right (by omega), Nat.min_eq_left (by omega),
      List.take_take, Nat.min_eq_left (by omega), List.take_of_length_le (l := vs.toList) (by simp [hs]; omega), List.drop_take]
    rw [show n * size - i * size - size = n * size - (i * size + size) by omega]
end
section
variable {P : Program} {ops : Array Oper} {rest : List Oper} {o : Oper} {a : Act} {w : World} {Q : Exit → Act → World → Prop}
/-- A whole element stored into an owned slice. -/
theorem wp_store_el (hgd : o.guard = none) (hdst : o.dst = none) (ty : TypeId) (x y : Operand) (ho : o.op = .store ty x y) (g off : Nat) (hx : a.eval x = .pointer (some ⟨g, off, none⟩)) (vs : Array Value) (hy : a.eval y = .agg vs)
    (hr : ∃ cur, rowOf w g = some cur ∧ off + vs.size ≤ cur.size) (hi : (P.info? ty).map (·.size) = some vs.size) (h1 : ∀ v ∈ vs.toList, v.oneCell' = true)
    (h : wpList P ops Q rest a (putEl w g off vs)) : wpList P ops Q (o :: rest) a w :=
  wpList_plain hgd fun K hK => by
    obtain ⟨cur, hr, hl⟩ := hr
    have hl := run_storeVar_row (P := P) w g off ty vs hi cur hr hl h1
    have e : putEl w g off vs = w.setRow g (cur.toList.take off ++ vs.toList ++ cur.toList.drop (off + vs.size)).toArray := by unfold putEl; rw [hr]
    rw [← e] at hl
    unfold Oper.wp execOp
    simp only [ho, hx, hy, Instr.storeAt, Instr.sureAddr, Sem.run_bind, Sem.run_pure, Result.andThen_ok, hl]
    show K (a.put o.dst undef) _
    rw [hdst]
    exact hK _ _ h
theorem own_room {B e size n cap : Nat} {xs : List Value} {g i : Nat} {vs : Array Value} (h : w.ownsRow B e size (.slice (some ⟨g, 0, none⟩) n cap) n xs) (hi : i < n) (hs : vs.size = size) : ∃ cur, rowOf w g = some cur ∧ i * size + vs.size ≤ cur.size := by
  obtain ⟨cur, hr, hh, hb, hn, hm, hc, ht⟩ := own_row h
  refine ⟨cur, hr, ?_⟩
  rw [hs, hc, ← Nat.succ_mul]
  exact Nat.mul_le_mul_right _ (by omega)
end
/-! ### A slice that 'make' lays -/
section
variable {P : Program}
theorem run_make_el {t e : TypeId} {z : Value} {k bytes : Nat} (ht : P.underlying t = some (.slice e)) (hinfo : (P.info? e).map (fun i => (i.zero, i.size, i.bytes)) = some (some z, k, bytes)) {a : Array Value} (ha : z.cells = a) (n : Nat) (hb : bytes * n ≤ 281474976710656) (h63 : n ≤ 9223372036854775807) (w : World) :
    (Instr.makeSlice t (.int .i64 (n : Int)) (.int .i64 (n : Int))).run P w = .ok (.slice (some ⟨w.heap.size, 0, none⟩) n n) (w.alloc (.cells (madeCells a (n * k)) e)) := by
  obtain ⟨i, hi, hzz⟩ := Option.map_eq_some_iff.1 hinfo
  simp only [Prod.mk.injEq] at hzz
  obtain ⟨hz, rfl, rfl⟩ := hzz
  subst ha
  have hb' : (i.bytes : Int) * (n : Int) ≤ 281474976710656 := by
    have h : ((i.bytes * n : Nat) : Int) ≤ 281474976710656 := by omega
    rwa [Int.natCast_mul] at h
  have hr := run_make (P := P) w t e i z ht hi hz .i64 .i64 n n (by omega) (Int.le_refl _) hb' (by omega)
  simpa using hr
theorem World.ownsRow_full {base : Nat} (w : World) (cur : Array Value) (e size n : Nat) (hb : base ≤ w.heap.size) (hm : n ≤ maxLen) (hs : cur.size = n * size) :
    (w.alloc (.cells cur e)).ownsRow base e size (.slice (some ⟨w.heap.size, 0, none⟩) n n) n cur.toList := by
  refine ⟨by simpa using hs, .inr ⟨w.heap.size, n, cur, rfl, hb, heap_alloc_new w _, Nat.le_refl _, hm, hs, ?_⟩⟩
  rw [← hs]
  exact List.take_of_length_le (by simp)
end
/-! ### An element loaded from where its cells lie -/
section
variable {P : Program} {ops : Array Oper} {rest : List Oper} {o : Oper} {a : Act} {w W : World} {Q : Exit → Act → World → Prop}
theorem wp_load_CAt (hgd : o.guard = none) (ty : TypeId) (x : Operand) (ho : o.op = .load ty x) (g off : Nat) (hx : a.eval x = .pointer (some ⟨g, off, none⟩)) (cs : List Value) (hc : CAt w g off cs)
    (d : TypeDesc) (hu : P.underlying ty = some d) (hd : TypeDesc.isRow d = true) (hi : (P.info? ty).map (·.size) = some cs.length)
    (h : wpList P ops Q rest (a.put o.dst (.agg cs.toArray)) w) : wpList P ops Q (o :: rest) a w :=
  wp_load_cells hgd ty x ho g off hx cs hc d hu hd hi h
theorem run_load_CAt (g off : Nat) (ty : TypeId) (cs : List Value) (hc : CAt w g off cs) (d : TypeDesc) (hu : P.underlying ty = some d) (hd : TypeDesc.isRow d = true) (hi : (P.info? ty).map (·.size) = some cs.length) :
    (loadVar ty ⟨g, off, none⟩).run P w = .ok (.agg cs.toArray) w :=
  run_loadVar_cells (P := P) w ⟨g, off, none⟩ ty cs d hu hd hi (fun j v hv => by
    have e : (⟨g, off, none⟩ : Addr).add j = ⟨g, off + j, none⟩ := by unfold Addr.add; split <;> simp_all
    rw [e]
    exact hc j v hv)
/-- The same in a region that draws. -/
theorem qB_CAtK {K : Act → Prop} {o : Oper} {W0 : World} (H : Below W0.heap.size W0 W) (hw : Region.wanted o (yielded ops a.tmps) = true) (ty : TypeId) (x : Operand) (ho : o.op = .load ty x) (g off : Nat) (hx : a.eval x = .pointer (some ⟨g, off, none⟩)) (cs : List Value) (hc : CAt W0 g off cs) (hg : g < W0.heap.size)
    (d : TypeDesc) (hu : P.underlying ty = some d) (hd : TypeDesc.isRow d = true) (hi : (P.info? ty).map (·.size) = some cs.length) (h : K (a.put o.dst (.agg cs.toArray))) : if Region.wanted o (yielded ops a.tmps) then Oper.qB P o a W K else K (a.put o.dst undef) := by
  rw [if_pos hw]
  refine ⟨.agg cs.toArray, fun p => ?_, h⟩
  have hb := bstep H (below_regrown W p.d p.os)
  have hl := run_load_CAt (P := P) g off ty cs (hc.below hb hg) d hu hd hi
  unfold Oper.quietAt execOp
  simp only [ho, hx, Instr.loadAt, Instr.sureAddr, Sem.run_bind, Sem.run_pure, Result.andThen_ok, hl, Oper.quietUpon]
  exact ⟨trivial, trivial⟩
end
/-- Elements lie at the head of a block. -/
def Lies {α : Type} (f : α → List Value) (w : World) (g : Nat) (l : List α) : Prop := CAt w g 0 (fl f l) ∧ g < w.heap.size
theorem Lies.c {α : Type} {f : α → List Value} {w : World} {g : Nat} {l : List α} (h : Lies f w g l) : CAt w g 0 (fl f l) := h.1
theorem Lies.lt {α : Type} {f : α → List Value} {w : World} {g : Nat} {l : List α} (h : Lies f w g l) : g < w.heap.size := h.2
theorem Lies.below {α : Type} {f : α → List Value} {w w' : World} {g : Nat} {l : List α} (h : Lies f w g l) (hb : Below w.heap.size w w') : Lies f w' g l := ⟨h.1.below hb h.2, Nat.lt_of_lt_of_le h.2 hb.size⟩
theorem Lies.rd {α : Type} {f : α → List Value} {w : World} {g : Nat} {l : List α} (h : Lies f w g l) : RdA w (some ⟨g, 0, none⟩) (fl f l) := .inr ⟨g, 0, rfl, h.2, h.1⟩
theorem own_lies {α : Type} {f : α → List Value} {w : World} {B e size n g cap : Nat} {l : List α} (h : w.ownsRow B e size (.slice (some ⟨g, 0, none⟩) n cap) n (fl f l)) : Lies f w g l := ⟨own_cells h, own_lt h g rfl⟩
theorem bc_length (b : Bt) : (bc b).length = 2 := rfl
theorem bc_one (b : Bt) : ∀ u ∈ bc b, u.oneCell' = true := by
  intro u hu
  simp [bc] at hu
  rcases hu with rfl | rfl <;> rfl
theorem fl_bc : ∀ l : List Bt, fl bc l = bcs l
  | [] => rfl
  | b :: l => by rw [fl_cons, fl_bc l]; rfl
end Go.Proofs.YtbngpcghognojaaDoor
