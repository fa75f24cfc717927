/- Texts of the claim, joined (6 of 22): Own, MarkW, Sort, JoinP. -/
import Derived.Shelf.SlSortCmp.NoneTotal
import Derived.Test.YtbngpcghognojaaGreatDoorBO3
import Derived.Test.YtbngpcghognojaaGreatDoorBO4
import Derived.Test.YtbngpcghognojaaGreatDoorBO5
namespace Go.Proofs.YtbngpcghognojaaGreatDoor
open Go.RowKit
set_option linter.unusedVariables false
set_option linter.unusedSimpArgs false
set_option maxRecDepth 100000
set_option maxHeartbeats 1000000
theorem wrap_i16 {n : Int} (h : -32768 ≤ n ∧ n ≤ 32767) : IntKind.i16.wrap n = n := by
  simp [IntKind.wrap, IntKind.bits, IntKind.signed]
  split <;> omega
/-- An owned slice that is not nil. -/
def OwnS {α : Type} (f : α → List Value) (w : World) (B e size : Nat) (v : Value) (l : List α) : Prop := w.ownsRow B e size v l.length (fl f l) ∧ ∃ g cap, v = .slice (some ⟨g, 0, none⟩) l.length cap
section
variable {α : Type} {f : α → List Value} {w w' : World} {B e size : Nat} {v : Value} {l : List α}
theorem OwnS.own (h : OwnS f w B e size v l) : w.ownsRow B e size v l.length (fl f l) := h.1
theorem OwnS.kept (h : OwnS f w B e size v l) (hb : Below w.heap.size w w') : OwnS f w' B e size v l := ⟨own_kept h.1 hb, h.2⟩
theorem OwnS.down {b : Nat} (h : OwnS f w B e size v l) (hb : b ≤ B) : OwnS f w b e size v l := ⟨own_down h.1 hb, h.2⟩
theorem OwnS.lies (h : OwnS f w B e size v l) : ∃ g cap, v = .slice (some ⟨g, 0, none⟩) l.length cap ∧ Lies f w g l ∧ B ≤ g ∧ g < w.heap.size ∧ l.length ≤ cap := by
  obtain ⟨h, g, cap, rfl⟩ := h
  obtain ⟨cur, _, _, hb, hc, _⟩ := own_row h
  exact ⟨g, cap, rfl, own_lies h, hb, own_lt h g rfl, hc⟩
theorem OwnS.lit (hB : B ≤ w.heap.size) : OwnS f (w.alloc (.cells #[] e)) B e size (.slice (some ⟨w.heap.size, 0, none⟩) 0 0) [] :=
  ⟨World.ownsRow_lit (base := B) (e := e) (size := size) w #[] 0 hB (by simp [maxLen]) (by simp), _, _, rfl⟩
theorem OwnS.grown {x : α} (h : w.ownsRow B e size v (l ++ [x]).length (fl f (l ++ [x]))) : OwnS f w B e size v (l ++ [x]) := ⟨h, own_form h (by simp)⟩
end
theorem fold_zip : ∀ (l : List Value) (k : Nat) (z : Array Value), z.size = k + l.length → List.foldl (fun (cs : Array Value) (x : Value × Nat) => cs.setIfInBounds x.snd x.fst) z (l.zipIdx k) = (z.toList.take k ++ l).toArray
  | [], k, z, h => by
    rw [List.zipIdx_nil, List.foldl_nil, List.append_nil, List.take_of_length_le (by simp at h; simp; omega)]
  | x :: l, k, z, h => by
    rw [List.zipIdx_cons, List.foldl_cons, fold_zip l (k + 1) _ (by simp at h ⊢; omega)]
    have hk : k < z.toList.length := by simp at h ⊢; omega
    congr 1
    rw [Array.toList_setIfInBounds, List.take_succ_eq_append_getElem (by simpa using hk), List.getElem_set_self, List.take_set_of_le (Nat.le_refl _), List.append_assoc]
    rfl
theorem fold_cc (c : Cr) : List.foldl (fun (cs : Array Value) (x : Value × Nat) => cs.setIfInBounds x.snd x.fst) #[.int .u8 0, .int .i16 0, .int .u8 0, .int .i16 0, .int .u8 0, .int .i16 0, .int .u8 0, .int .i16 0, .int .u8 0, .int .i16 0, .int .u8 0, .int .i16 0, .int .u8 0, .int .i16 0, .int .u8 0, .int .i16 0, .int .u8 0, .int .i16 0, .int .u8 0, .int .i16 0, .int .u8 0, .int .i16 0, .int .u8 0, .int .i16 0] (cc c).zipIdx = (cc c).toArray := by
  rw [fold_zip (cc c) 0 _ (by rw [cc_length]; rfl)]
  rfl
theorem cc_len (c : Cr) : (cc c).length = 24 := cc_length c
section
variable {ops : Array Oper} {rest : List Oper} {o : Oper} {a : Act} {Q : Exit → Act → World → Prop} {W : World}
theorem wp_app_want (B : Nat) (hgd : o.guard = none) (s x : Operand) (ho : o.op = .call { callee := .builtin .append, args := #[s, x], argTypes := #[64, 64] })
    (v : Value) (l : List Wt) (y : Wt) (hs : a.eval s = v) (g : Nat) (hx : a.eval x = .slice (some ⟨g, 0, none⟩) 1 1) (hg : g = W.heap.size)
    (HO : OwnS wc W B 81 3 v l) (hB : B ≤ W.heap.size) (hn : l.length ≤ 100000000)
    (h : ∀ v1 w1, OwnS wc w1 B 81 3 v1 (l ++ [y]) → Below B W w1 → wpList Tryz.prog ops Q rest (a.put o.dst v1) w1) : wpList Tryz.prog ops Q (o :: rest) a (W.alloc (.cells #[.int .u8 y.b.k, .int .i16 y.b.y, .int .i16 y.n] 81)) :=
  wp_app (P := Tryz.prog) B hgd s x 64 81 ho (.agg (wc zW).toArray) 3 6 Tryz.underlying64 infoWantS rfl (by decide) v l.length (fl wc l) (wc y) hs g hx hg rfl (fun u hu => wv_one y u (by simpa using hu)) HO.1 hB (by omega) (by decide)
    (fun v1 w1 h1 h2 => h v1 w1 (OwnS.grown (by rw [List.length_append, fl_append, fl_one]; exact h1)) h2)
end
section
variable {ops : Array Oper} {rest : List Oper} {o : Oper} {a : Act} {Q : Exit → Act → World → Prop} {W : World}
theorem wp_app_crate (B : Nat) (hgd : o.guard = none) (s x : Operand) (ho : o.op = .call { callee := .builtin .append, args := #[s, x], argTypes := #[62, 62] })
    (v : Value) (l : List Cr) (y : Cr) (hs : a.eval s = v) (g : Nat) (hx : a.eval x = .slice (some ⟨g, 0, none⟩) 1 1) (hg : g = W.heap.size)
    (HO : OwnS cc W B 28 24 v l) (hB : B ≤ W.heap.size) (hn : l.length ≤ 100000000)
    (h : ∀ v1 w1, OwnS cc w1 B 28 24 v1 (l ++ [y]) → Below B W w1 → wpList Tryz.prog ops Q rest (a.put o.dst v1) w1) : wpList Tryz.prog ops Q (o :: rest) a (W.alloc (.cells (cc y).toArray 28)) :=
  wp_app (P := Tryz.prog) B hgd s x 62 28 ho (.agg (cc zC).toArray) 24 48 Tryz.underlying62 infoCrateS rfl (by decide) v l.length (fl cc l) (cc y) hs g hx hg (cc_length y) (fun u hu => cc_one y u (by simpa using hu)) HO.1 hB (by omega) (by decide)
    (fun v1 w1 h1 h2 => h v1 w1 (OwnS.grown (by rw [List.length_append, fl_append, fl_one]; exact h1)) h2)
end
section
variable {ops : Array Oper} {rest : List Oper} {o : Oper} {a : Act} {Q : Exit → Act → World → Prop} {W : World}
def iv (x : Int) : List Value := [.int .i64 x]
theorem fl_iv : ∀ l : List Int, fl iv l = vi l
  | [] => rfl
  | x :: l => by rw [fl_cons, fl_iv l]; rfl
theorem iv_length (x : Int) : (iv x).length = 1 := rfl
theorem wp_app_num (B : Nat) (hgd : o.guard = none) (s x : Operand) (ho : o.op = .call { callee := .builtin .append, args := #[s, x], argTypes := #[47, 47] })
    (v : Value) (l : List Int) (y : Int) (hs : a.eval s = v) (g : Nat) (hx : a.eval x = .slice (some ⟨g, 0, none⟩) 1 1) (hg : g = W.heap.size)
    (HO : OwnS iv W B 2 1 v l) (hB : B ≤ W.heap.size) (hn : l.length ≤ 100000000)
    (h : ∀ v1 w1, OwnS iv w1 B 2 1 v1 (l ++ [y]) → Below B W w1 → wpList Tryz.prog ops Q rest (a.put o.dst v1) w1) : wpList Tryz.prog ops Q (o :: rest) a (W.alloc (.cells #[.int .i64 y] 2)) :=
  wp_app (P := Tryz.prog) B hgd s x 47 2 ho (.int .i64 0) 1 8 Tryz.underlying47 info64 rfl (by decide) v l.length (fl iv l) [.int .i64 y] hs g hx hg rfl (by simp [Value.oneCell']) HO.1 hB (by omega) (by decide)
    (fun v1 w1 h1 h2 => h v1 w1 (OwnS.grown (by rw [List.length_append, fl_append, fl_one]; exact h1)) h2)
end
end Go.Proofs.YtbngpcghognojaaGreatDoor
namespace Go.Proofs.YtbngpcghognojaaGreatDoor
open Go.RowKit
set_option linter.unusedVariables false
set_option linter.unusedSimpArgs false
set_option maxRecDepth 100000
set_option maxHeartbeats 1000000
/-- An owned slice of elements, or nil. -/
def OwnN {α : Type} (f : α → List Value) (w : World) (B e size : Nat) (v : Value) (l : List α) : Prop := w.ownsRow B e size v l.length (fl f l)
/-- Two slices lie in different blocks. -/
def Apart (v v' : Value) : Prop := ∀ b, v.ownBlock = some b → v'.ownBlock ≠ some b
/-- Nothing but the block of a slice has changed. -/
def ButV (v : Value) (w w' : World) : Prop := Below 0 w w' ∧ ∀ b, b < w.heap.size → v.ownBlock ≠ some b → w'.heap[b]? = w.heap[b]?
section
variable {α β : Type} {f : α → List Value} {f' : β → List Value} {w w' w0 : World} {B e size B' e' size' : Nat} {v v' : Value} {l : List α} {l' : List β}
theorem Apart.symm (h : Apart v v') : Apart v' v := fun b hb hb' => h b hb' hb
theorem OwnN.below (h : OwnN f w B e size v l) (hb : Below w.heap.size w w') : OwnN f w' B e size v l := own_kept h hb
theorem OwnN.down {b : Nat} (h : OwnN f w B e size v l) (hb : b ≤ B) : OwnN f w b e size v l := own_down h hb
theorem OwnN.rd (h : OwnN f w B e size v l) : ∃ A c, v = .slice A l.length c ∧ l.length ≤ c ∧ RdA w A (fl f l) := by
  obtain ⟨A, c, hv, hc, hr, _⟩ := own_rdA h
  exact ⟨A, c, hv, hc, hr⟩
theorem OwnN.lies {g cap : Nat} (h : OwnN f w B e size (.slice (some ⟨g, 0, none⟩) l.length cap) l) : Lies f w g l := own_lies h
theorem OwnN.apart (h : OwnN f w B e size v l) (h' : OwnN f' w' B' e' size' v' l') (hw : w.heap.size ≤ B') : Apart v v' := fun b hb hb' => by
  have h1 := own_lt h b hb
  have h2 := own_base h' b hb'
  omega
theorem OwnN.but (h : OwnN f w B e size v l) (hb : ButV v' w w') (ha : Apart v' v) : OwnN f w' B e size v l :=
  ⟨h.1, h.2.imp (fun h => h) fun ⟨g, cap, cur, hv, hg, hh, hr⟩ => ⟨g, cap, cur, hv, hg, by
    rw [hb.2 g (Array.getElem?_eq_some_iff.1 hh).1 (fun e => ha g e (by rw [hv]; rfl))]
    exact hh, hr⟩⟩
theorem ButV.below (hb : ButV v w w') (h : OwnN f w B e size v l) {b : Nat} (hB : b ≤ B) (hw : b ≤ w.heap.size) : Below b w w' :=
  ⟨hb.1.os, hb.1.tape, hb.1.output, hb.1.size, fun k hk => hb.2 k (by omega) fun e => by have := own_base h k e; omega⟩
theorem ButV.refl : ButV v w w := ⟨Below.refl _ _, fun _ _ _ => rfl⟩
theorem ButV.trans {w1 : World} (h : ButV v w w1) (h' : ButV v w1 w') : ButV v w w' :=
  ⟨h.1.trans h'.1, fun b hb hv => (h'.2 b (Nat.lt_of_lt_of_le hb h.1.size) hv).trans (h.2 b hb hv)⟩
theorem ButV.set {g o : Nat} {n c : Nat} {u : Value} : ButV (.slice (some ⟨g, 0, none⟩) n c) w (w.setCell ⟨g, o, none⟩ u) :=
  ⟨(Below.refl 0 w).setCell (Nat.zero_le _) _, fun b hb hv => Below.heap_setCell w _ u b (fun e => hv (by rw [e]; rfl))⟩
end
/-- The marks of a want. -/
def mkw (k0 : Int) (i : Nat) : List Value := [.int .u8 ((k0 + 3 * (i : Int)) % 256), .int .i16 (IntKind.i16.wrap (k0 + 3 * (i : Int) + 1)), .int .i16 (IntKind.i16.wrap (k0 + 3 * (i : Int) + 1 + 1))]
theorem mkw_length (k0 : Int) (i : Nat) : (mkw k0 i).length = 3 := rfl
theorem mkw_step {k0 : Int} {l : List Wt} {k : Nat} (hk : k < l.length) :
    (((fl (mkw k0) (List.range k) ++ fl wc (l.drop k)).set (k * 3) (.int .u8 ((k0 + 3 * (k : Int)) % 256))).set (k * 3 + 1) (.int .i16 (IntKind.i16.wrap (k0 + 3 * (k : Int) + 1)))).set (k * 3 + 2) (.int .i16 (IntKind.i16.wrap (k0 + 3 * (k : Int) + 1 + 1))) = fl (mkw k0) (List.range (k + 1)) ++ fl wc (l.drop (k + 1)) := by
  have hl : (fl (mkw k0) (List.range k)).length = k * 3 := by rw [fl_length (mkw_length k0), List.length_range]
  rw [List.set_append_right _ _ (by omega), hl, Nat.sub_self, List.set_append_right _ _ (by omega), hl, Nat.add_sub_cancel_left, List.set_append_right _ _ (by omega), hl, Nat.add_sub_cancel_left, List.range_succ, fl_append, fl_one, List.drop_eq_getElem_cons hk, fl_cons]
  simp [wc, mkw]
end Go.Proofs.YtbngpcghognojaaGreatDoor
namespace Go.Proofs.YtbngpcghognojaaGreatDoor
open Go Go.Sort Go.RowKit
set_option linter.unusedVariables false
set_option linter.unusedSimpArgs false
set_option maxRecDepth 100000
set_option maxHeartbeats 1000000
/-! ### A sorted row, owned -/
section
variable {α : Type} [Inhabited α] {f : α → List Value} {k : Nat}
theorem flat_fl (hf : ∀ x, (f x).length = k) (hk : 0 < k) (l : List α) : Sort.flatK f k l.toArray = (fl f l).toArray := by
  apply Array.ext
  · simp [fl_length hf]
  · intro i h1 h2
    have h3 : i < l.length * k := by simpa using h1
    have hi : i / k < l.length := by rw [Nat.div_lt_iff_lt_mul hk]; exact h3
    have hg : l.toArray[i / k]! = l[i / k]! := by simp
    have h0 := Sort.get_flatK f k l.toArray i (by simpa using h3)
    rw [getElem!_pos _ i h1, hg] at h0
    rw [h0]
    have hm : i % k < (f l[i / k]!).length := by rw [hf]; exact Nat.mod_lt _ hk
    have h4 := fl_at hf l (i / k) hi (i % k) (f l[i / k]!)[i % k] (List.getElem?_eq_getElem hm)
    rw [Nat.div_add_mod'] at h4
    have h5 : (fl f l)[i]? = some ((fl f l).toArray[i]) := by rw [← List.getElem?_toArray]; exact Array.getElem?_eq_getElem h2
    rw [h4] at h5
    simp only [Option.some.injEq] at h5
    rw [← h5, getElem!_pos (f l[i / k]!) (i % k) hm]
theorem own_holds (hf : ∀ x, (f x).length = k) (hk : 0 < k) {w : World} {B e g cap : Nat} {l : List α} (h : OwnN f w B e k (.slice (some ⟨g, 0, none⟩) l.length cap) l) : Sort.HoldsK f k w g 0 l.toArray := by
  show Sort.Holds id w g 0 (Sort.flatK f k l.toArray)
  rw [flat_fl hf hk]
  obtain ⟨cur, hr, hh, hb, hn, hm, hc, ht⟩ := own_row h
  intro j hj
  have hj' : j < (fl f l).length := by simpa using hj
  refine ⟨?_, rowOf_frozen hr _⟩
  rw [Nat.zero_add, rowOf_cell hr, ← Array.getElem?_toList]
  have e : (fl f l)[j]? = some ((fl f l)[j]) := List.getElem?_eq_getElem hj'
  have hlt : j < l.length * k := by rw [← fl_length hf]; exact hj'
  conv at e => lhs; rw [← ht, List.getElem?_take_of_lt hlt]
  rw [e]
  simp [hj']
/-- What the sort leaves behind is owned as before. -/
theorem own_put (hf : ∀ x, (f x).length = k) (hk : 0 < k) {w : World} {B e g cap : Nat} {l l' : List α} (h : OwnN f w B e k (.slice (some ⟨g, 0, none⟩) l.length cap) l) (hl : l'.length = l.length) (m : Nat) (os : Array Obj) :
    OwnN f (sortWorldK f k w g 0 m l'.toArray os) B e k (.slice (some ⟨g, 0, none⟩) l.length cap) l' ∧ Below B w (sortWorldK f k w g 0 m l'.toArray os) := by
  obtain ⟨cur, hr, hh, hb, hn, hm, hc, ht⟩ := own_row h
  have hgs : g < w.heap.size := rowOf_lt hr
  have eW : sortWorldK f k w g 0 m l'.toArray os = grow (Sort.putRow id (Sort.ahead w m) g 0 (fl f l').toArray) os := by
    unfold sortWorldK Sort.putRowK
    rw [flat_fl hf hk]
  rw [eW]
  have hln : l.length * k ≤ cap * k := Nat.mul_le_mul_right _ hn
  have hF : (fl f l').length = l.length * k := by rw [fl_length hf, hl]
  have hsz : (Sort.putCells id 0 (fl f l').toArray cur).size = cap * k := by simp [Sort.putCells, hc]
  have htk : (Sort.putCells id 0 (fl f l').toArray cur).toList.take (l.length * k) = fl f l' := by
    apply List.ext_getElem
    · have hq : (Sort.putCells id 0 (fl f l').toArray cur).toList.length = cap * k := by rw [Array.length_toList]; exact hsz
      rw [List.length_take, hq, hF, Nat.min_eq_left hln]
    · intro i h1 h2
      rw [List.getElem_take, Array.getElem_toList]
      simp [Sort.putCells, h2]
  have hrow : (Sort.putRow id (Sort.ahead w m) g 0 (fl f l').toArray).heap[g]? = some (.cells (Sort.putCells id 0 (fl f l').toArray cur) e (0, 0)) := by
    simp only [Sort.putRow, Sort.mapBlock, Sort.ahead, Array.getElem?_modify, if_true, hh, Option.map_some, Sort.onCells]
  have hB : Below B w (Sort.putRow id (Sort.ahead w m) g 0 (fl f l').toArray) := by
    refine ⟨rfl, rfl, rfl, by simp [Sort.putRow, Sort.mapBlock, Sort.ahead], fun j hj => ?_⟩
    simp only [Sort.putRow, Sort.mapBlock, Sort.ahead, Array.getElem?_modify]
    rw [if_neg (by omega)]
  have hz : (Sort.putRow id (Sort.ahead w m) g 0 (fl f l').toArray).heap.size = w.heap.size := by simp [Sort.putRow, Sort.mapBlock, Sort.ahead]
  have hO : OwnN f (Sort.putRow id (Sort.ahead w m) g 0 (fl f l').toArray) B e k (.slice (some ⟨g, 0, none⟩) l.length cap) l' := by
    refine ⟨by rw [hF, hl], .inr ⟨g, cap, _, by rw [hl], hb, hrow, by omega, hm, hsz, by rw [hl]; exact htk⟩⟩
  have hgr : Below (Sort.putRow id (Sort.ahead w m) g 0 (fl f l').toArray).heap.size (Sort.putRow id (Sort.ahead w m) g 0 (fl f l').toArray) (grow (Sort.putRow id (Sort.ahead w m) g 0 (fl f l').toArray) os) :=
    ⟨rfl, rfl, rfl, by show _ ≤ (_ ++ os).size; rw [Array.size_append]; omega, fun j hj => heap_grow_old _ os hj⟩
  exact ⟨hO.below hgr, hB.trans (hgr.mono (by rw [hz]; exact Nat.le_trans hb (Nat.le_of_lt hgs)))⟩
end
/-! ### The order of bottles is total -/
theorem cmp_neg {a b : Bt} : a.cmp b < 0 ↔ a.k < b.k ∨ a.k = b.k ∧ a.y < b.y := by
  unfold Bt.cmp
  repeat' split
  all_goals omega
theorem cmp_swo : SWO (ltOf Bt.cmp) := by
  refine ⟨fun x => ?_, fun x y z h h' => ?_, fun x y z h h' => ?_⟩
  all_goals
    simp only [ltOf, decide_eq_true_eq, decide_eq_false_iff_not, cmp_neg] at *
    omega
theorem cmp_total (x y : Bt) (h : ltOf Bt.cmp x y = false) (h' : ltOf Bt.cmp y x = false) : x = y := by
  simp only [ltOf, decide_eq_false_iff_not, cmp_neg] at h h'
  exact Bt.ext2 (by omega) (by omega)
/-- Not behind. -/
def leB (x y : Bt) : Bool := !ltOf Bt.cmp y x
/-- Bottles in order. -/
def sortB (l : List Bt) : List Bt := l.mergeSort leB
theorem sortB_length (l : List Bt) : (sortB l).length = l.length := List.length_mergeSort l
theorem leB_iff {x y : Bt} : leB x y = true ↔ ¬ y.cmp x < 0 := by simp [leB, ltOf]
theorem leB_trans (a b c : Bt) (h : leB a b = true) (h' : leB b c = true) : leB a c = true := by
  rw [leB_iff, cmp_neg] at *
  omega
theorem leB_total (a b : Bt) : (leB a b || leB b a) = true := by
  rw [Bool.or_eq_true, leB_iff, leB_iff, cmp_neg, cmp_neg]
  omega
theorem leB_anti {a b : Bt} (h : leB a b = true) (h' : leB b a = true) : a = b := by
  rw [leB_iff, cmp_neg] at *
  exact Bt.ext2 (by omega) (by omega)
theorem sortB_perm (l : List Bt) : (sortB l).Perm l := List.mergeSort_perm l leB
theorem sortB_sorted (l : List Bt) : (sortB l).Pairwise fun a b => leB a b = true := List.pairwise_mergeSort leB_trans leB_total l
/-- There is one way to put bottles in order. -/
theorem sortB_of {l s : List Bt} (hp : s.Perm l) (hs : s.Pairwise fun a b => leB a b = true) : s = sortB l :=
  List.Perm.eq_of_pairwise (fun a b _ _ h h' => leB_anti h h') hs (sortB_sorted l) (hp.trans (sortB_perm l).symm)
theorem compare_grows (a b : Bt) (w : World) : Calls Tryz.prog 89 #[bv a, bv b] w fun e w' => e = .returned (.int .i64 (a.cmp b)) ∧ ∃ q os', w' = grow (w.drewN q) os' := by
  obtain ⟨k, y, hk, hy⟩ := a
  obtain ⟨k', y', hk', hy'⟩ := b
  go_enter Tryz.func89, Tryz.ntmps89
  go_wp2
  generalize hW : World.alloc _ _ = W
  have hs : W.heap.size = w.heap.size + 2 := by rw [← hW]; simp
  have x0 : W.cell? ⟨w.heap.size, 0, none⟩ = some (.int .u8 k) := by rw [← hW]; simp [go_sem]
  have x1 : W.cell? ⟨w.heap.size, 1, none⟩ = some (.int .i16 y) := by rw [← hW]; simp [go_sem]
  have y0 : W.cell? ⟨w.heap.size + 1, 0, none⟩ = some (.int .u8 k') := by rw [← hW]; simp [go_sem]
  have y1 : W.cell? ⟨w.heap.size + 1, 1, none⟩ = some (.int .i16 y') := by rw [← hW]; simp [go_sem]
  replace hW := Lib.hid hW
  generalize w.heap.size = g at x0 x1 y0 y1 hs
  go_still_tail 10, (by kernel_rfl)
  still_call (flip_same (Compare8_any _ _ _))
  repeat still_step
  still_call (flip_same (Compare16_any _ _ _))
  refine wpStill_nil ?_
  change wpList _ _ _ _ _ (World.drew _)
  clear hs x0 x1 y0 y1
  go_wp2_with fail
  refine (Or_any _ (cmpI k k') (cmpI y y') _ _ (by simp [go_sem]) (by simp [go_sem])).mono ?_
  rintro e w' ⟨rfl, rfl⟩
  go_wp2
  go_ret
  refine ⟨ret_int ?_, ?_⟩
  · exact cmp_or ⟨k, y, hk, hy⟩ ⟨k', y', hk', hy'⟩
  · rw [← hW.out]
    exact ⟨1, _, by rw [alloc_eq_grow, alloc_eq_grow, alloc_eq_grow, grow_grow, grow_grow]; rfl⟩
theorem bc_lays (blk off size : Nat) (w : World) : CmpLays Tryz.prog 89 #[] bc 2 Bt.cmp blk off size w :=
  fun _ _ _ _ x y => compare_grows x y _
theorem SortFunc_bot (B g cap : Nat) (l : List Bt) (w : World) (h : OwnN bc w B 26 2 (.slice (some ⟨g, 0, none⟩) l.length cap) l) (hn : l.length ≤ 1000000) :
    Calls Tryz.prog 128 #[.slice (some ⟨g, 0, none⟩) l.length cap, .func (.func 89) #[] #[]] w fun e w' => e = .returned (.tuple #[]) ∧ OwnN bc w' B 26 2 (.slice (some ⟨g, 0, none⟩) l.length cap) (sortB l) ∧ Below B w w' := by
  have hc := AnyQ.slices_SortFunc_total Tryz.lx128 2 Tryz.isAgg26 Tryz.sizeOf26 bc bc_length bc_one Bt.cmp cmp_swo 89 #[] g 0 cap l.toArray w
    (enters_of Tryz.func89 (by kernel_rfl) rfl) (bc_lays g 0 _ w) (own_holds bc_length (by decide) h) (own_lt h g rfl) (by simp; omega) cmp_total
  refine hc.mono ?_
  rintro e w' ⟨he, n, os, rfl⟩
  have := own_put bc_length (by decide) h (l' := sortB l) (sortB_length l) n os
  exact ⟨he, this.1, this.2⟩
end Go.Proofs.YtbngpcghognojaaGreatDoor
namespace Go.Proofs.YtbngpcghognojaaGreatDoor
open Go Go.RowKit
set_option linter.unusedVariables false
set_option linter.unusedSimpArgs false
set_option maxRecDepth 100000
theorem wrap16_in (n : Int) : -32768 ≤ IntKind.i16.wrap n ∧ IntKind.i16.wrap n ≤ 32767 := by
  have e : IntKind.i16.wrap n = if n % 65536 ≥ 32768 then n % 65536 - 65536 else n % 65536 := by
    simp [IntKind.wrap, IntKind.bits, IntKind.signed]
  rw [e]
  split <;> omega
/-- Two wants of one bottle. -/
def addW (x y : Wt) : Wt := ⟨x.b, IntKind.i16.wrap (x.n + y.n), wrap16_in _⟩
theorem cmp_pos {a b : Bt} : 0 < a.cmp b ↔ b.cmp a < 0 := by
  rw [cmp_neg]
  unfold Bt.cmp
  repeat' split
  all_goals omega
theorem cmp_tri {a b : Bt} (h : ¬ a.cmp b < 0) (h' : ¬ 0 < a.cmp b) : a = b := by
  rw [cmp_pos] at h'
  rw [cmp_neg] at h h'
  exact Bt.ext2 (by omega) (by omega)
theorem cmp_trans {a b c : Bt} (h : a.cmp b < 0) (h' : b.cmp c < 0) : a.cmp c < 0 := by
  rw [cmp_neg] at *
  omega
theorem cmp_ne {a b : Bt} (h : a.cmp b < 0) : a ≠ b := fun e => by
  subst e
  rw [cmp_neg] at h
  omega
/-- Merged. -/
def joinW : List Wt → List Wt → List Wt
  | [], b => b
  | x :: a, [] => x :: a
  | x :: a, y :: b => if x.b.cmp y.b < 0 then x :: joinW a (y :: b) else if 0 < x.b.cmp y.b then y :: joinW (x :: a) b else addW x y :: joinW a b
termination_by a b => a.length + b.length
/-- The want of a bottle. -/
def hasW (b : List Wt) (t : Bt) : Option Wt := b.find? fun q => decide (q.b = t)
def addB (b : List Wt) (p : Wt) : Wt := match hasW b p.b with
  | some q => addW p q
  | none => p
theorem addB_b (b : List Wt) (p : Wt) : (addB b p).b = p.b := by
  unfold addB
  split <;> rfl
def notin (a : List Wt) (q : Wt) : Bool := a.all fun p => decide (p.b ≠ q.b)
/-- Joined in another order. -/
def impJ (a b : List Wt) : List Wt := a.map (addB b) ++ b.filter (notin a)
/-- Bottles rise. -/
def Str (l : List Wt) : Prop := l.Pairwise fun x y => x.b.cmp y.b < 0
theorem hasW_none {b : List Wt} {t : Bt} (h : ∀ q ∈ b, q.b ≠ t) : hasW b t = none := by
  unfold hasW
  rw [List.find?_eq_none]
  intro q hq
  simpa using h q hq
theorem hasW_skip {b : List Wt} {y : Wt} {t : Bt} (h : y.b ≠ t) : hasW (y :: b) t = hasW b t := by
  unfold hasW
  rw [List.find?_cons_of_neg (by simpa using h)]
theorem hasW_hit {b : List Wt} {y : Wt} : hasW (y :: b) y.b = some y := by
  unfold hasW
  rw [List.find?_cons_of_pos (by simp)]
theorem addB_none {b : List Wt} {p : Wt} (h : ∀ q ∈ b, q.b ≠ p.b) : addB b p = p := by
  unfold addB
  rw [hasW_none h]
theorem addB_skip {b : List Wt} {y p : Wt} (h : y.b ≠ p.b) : addB (y :: b) p = addB b p := by
  unfold addB
  rw [hasW_skip h]
theorem notin_skip {a : List Wt} {x q : Wt} (h : x.b ≠ q.b) : notin (x :: a) q = notin a q := by
  simp [notin, h]
theorem notin_yes {a : List Wt} {q : Wt} (h : ∀ p ∈ a, p.b ≠ q.b) : notin a q = true := by
  unfold notin
  rw [List.all_eq_true]
  intro p hp
  simpa using h p hp
theorem notin_no {a : List Wt} {p q : Wt} (hp : p ∈ a) (h : p.b = q.b) : notin a q = false := by
  rw [← Bool.not_eq_true]
  unfold notin
  rw [List.all_eq_true]
  intro hh
  have := hh p hp
  simp [h] at this
theorem join_perm : ∀ a b : List Wt, Str a → Str b → (joinW a b).Perm (impJ a b)
  | [], b, _, _ => by
    rw [joinW]
    have : b.filter (notin []) = b := List.filter_eq_self.2 fun q _ => rfl
    simp [impJ, this]
  | x :: a, [], _, _ => by
    rw [joinW]
    have : (x :: a).map (addB []) = x :: a := by
      conv => rhs; rw [← List.map_id (x :: a)]
      exact List.map_congr_left fun p _ => rfl
    unfold impJ
    rw [this]
    simp
  | x :: a, y :: b, ha, hb => by
    have ha' := List.pairwise_cons.1 ha
    have hb' := List.pairwise_cons.1 hb
    rw [joinW]
    split
    · rename_i h
      have hne : ∀ q ∈ y :: b, x.b ≠ q.b := fun q hq => by
        rcases List.mem_cons.1 hq with rfl | hq
        · exact cmp_ne h
        · exact cmp_ne (cmp_trans h (hb'.1 q hq))
      have e1 : addB (y :: b) x = x := addB_none fun q hq => (hne q hq).symm
      have e2 : (y :: b).filter (notin (x :: a)) = (y :: b).filter (notin a) := List.filter_congr fun q hq => notin_skip (hne q hq)
      unfold impJ
      rw [List.map_cons, e1, e2, List.cons_append]
      exact (join_perm a (y :: b) ha'.2 hb).cons x
    · split
      · rename_i _ h
        rw [cmp_pos] at h
        have hne : ∀ p ∈ x :: a, y.b ≠ p.b := fun p hp => by
          rcases List.mem_cons.1 hp with rfl | hp
          · exact cmp_ne h
          · exact cmp_ne (cmp_trans h (ha'.1 p hp))
        have e1 : (x :: a).map (addB (y :: b)) = (x :: a).map (addB b) := List.map_congr_left fun p hp => addB_skip (hne p hp)
        unfold impJ
        rw [e1, List.filter_cons_of_pos (notin_yes fun p hp => (hne p hp).symm)]
        exact ((join_perm (x :: a) b ha hb'.2).cons y).trans List.perm_middle.symm
      · rename_i h1 h2
        have hxy := cmp_tri h1 h2
        have hpa : ∀ p ∈ a, y.b ≠ p.b := fun p hp => by rw [← hxy]; exact cmp_ne (ha'.1 p hp)
        have hqb : ∀ q ∈ b, x.b ≠ q.b := fun q hq => by rw [hxy]; exact cmp_ne (hb'.1 q hq)
        have e1 : addB (y :: b) x = addW x y := by
          unfold addB
          rw [hxy, hasW_hit]
        have e2 : a.map (addB (y :: b)) = a.map (addB b) := List.map_congr_left fun p hp => addB_skip (hpa p hp)
        have e3 : (y :: b).filter (notin (x :: a)) = b.filter (notin a) := by
          rw [List.filter_cons_of_neg (by rw [notin_no (List.mem_cons_self ..) hxy]; decide)]
          exact List.filter_congr fun q hq => notin_skip (hqb q hq)
        unfold impJ
        rw [List.map_cons, e1, e2, e3, List.cons_append]
        exact (join_perm a b ha'.2 hb'.2).cons _
termination_by a b => a.length + b.length
theorem impJ_mem {a b : List Wt} {z : Wt} (h : z ∈ impJ a b) : (∃ p ∈ a, z.b = p.b) ∨ z ∈ b := by
  unfold impJ at h
  rcases List.mem_append.1 h with h | h
  · obtain ⟨p, hp, rfl⟩ := List.mem_map.1 h
    exact .inl ⟨p, hp, addB_b b p⟩
  · exact .inr (List.mem_filter.1 h).1
theorem join_mem {a b : List Wt} (ha : Str a) (hb : Str b) {z : Wt} (h : z ∈ joinW a b) : (∃ p ∈ a, z.b = p.b) ∨ z ∈ b := impJ_mem ((join_perm a b ha hb).mem_iff.1 h)
theorem join_str : ∀ a b : List Wt, Str a → Str b → Str (joinW a b)
  | [], b, _, hb => by rw [joinW]; exact hb
  | x :: a, [], ha, _ => by rw [joinW]; exact ha
  | x :: a, y :: b, ha, hb => by
    have ha' := List.pairwise_cons.1 ha
    have hb' := List.pairwise_cons.1 hb
    rw [joinW]
    split
    · rename_i h
      refine List.pairwise_cons.2 ⟨fun z hz => ?_, join_str a (y :: b) ha'.2 hb⟩
      rcases join_mem ha'.2 hb hz with ⟨p, hp, e⟩ | hq
      · rw [e]; exact ha'.1 p hp
      · rcases List.mem_cons.1 hq with rfl | hq
        · exact h
        · exact cmp_trans h (hb'.1 z hq)
    · split
      · rename_i _ h
        rw [cmp_pos] at h
        refine List.pairwise_cons.2 ⟨fun z hz => ?_, join_str (x :: a) b ha hb'.2⟩
        rcases join_mem ha hb'.2 hz with ⟨p, hp, e⟩ | hq
        · rw [e]
          rcases List.mem_cons.1 hp with rfl | hp
          · exact h
          · exact cmp_trans h (ha'.1 p hp)
        · exact hb'.1 z hq
      · rename_i h1 h2
        have hxy := cmp_tri h1 h2
        refine List.pairwise_cons.2 ⟨fun z hz => ?_, join_str a b ha'.2 hb'.2⟩
        show x.b.cmp z.b < 0
        rcases join_mem ha'.2 hb'.2 hz with ⟨p, hp, e⟩ | hq
        · rw [e]; exact ha'.1 p hp
        · rw [hxy]; exact hb'.1 z hq
termination_by a b => a.length + b.length
theorem str_inj {l : List Wt} (h : Str l) {x y : Wt} (hx : x ∈ l) (hy : y ∈ l) (e : x.b = y.b) : x = y := by
  induction l with
  | nil => cases hx
  | cons z l ih =>
    have h' := List.pairwise_cons.1 h
    rcases List.mem_cons.1 hx with e1 | hx
    · rcases List.mem_cons.1 hy with e2 | hy
      · rw [e1, e2]
      · rw [e1] at e
        exact absurd e (cmp_ne (h'.1 y hy))
    · rcases List.mem_cons.1 hy with e2 | hy
      · rw [e2] at e
        exact absurd e.symm (cmp_ne (h'.1 x hx))
      · exact ih h'.2 hx hy
/-- There is one way to put joined orders in order. -/
theorem join_sorted {a b s : List Wt} (ha : Str a) (hb : Str b) (hp : s.Perm (impJ a b)) (hs : s.Pairwise fun x y => ¬ y.b.cmp x.b < 0) : s = joinW a b := by
  have hpj := hp.trans (join_perm a b ha hb).symm
  have hstr := join_str a b ha hb
  refine List.Perm.eq_of_pairwise (le := fun x y : Wt => ¬ y.b.cmp x.b < 0) (fun x y hx hy h h' => ?_) hs (hstr.imp fun {x y} h => ?_) hpj
  · refine str_inj hstr (hpj.mem_iff.1 hx) hy ?_
    rw [cmp_neg] at h h'
    exact Bt.ext2 (by omega) (by omega)
  · rw [cmp_neg] at h ⊢
    omega
theorem okK_str {l : List Wt} (h : okK l l.length) : Str l := by
  have key : ∀ i, i < l.length → ∀ j, j < i → l[j]!.b.cmp l[i]!.b < 0 := by
    intro i
    induction i with
    | zero => intro _ j hj; exact absurd hj (Nat.not_lt_zero _)
    | succ i ih =>
      intro hi j hj
      have h1 := (h (i + 1) hi).2 (Nat.succ_pos _)
      rw [Nat.add_sub_cancel] at h1
      rcases Nat.lt_or_ge j i with q | q
      · exact cmp_trans (ih (by omega) j q) h1
      · obtain rfl : j = i := by omega
        exact h1
  refine List.pairwise_iff_getElem.2 fun i j hi hj hij => ?_
  have := key j hj i hij
  rwa [getB hi, getB hj] at this
theorem ordOk_str {l : List Wt} (h : ordOk l = true) : Str l := by
  simp only [ordOk, Bool.and_eq_true, decide_eq_true_iff] at h
  exact okK_str h.1
/-- The lists that the program makes, want by want of the second order. -/
theorem impJ_nil (a : List Wt) : impJ a [] = a := by
  have : a.map (addB []) = a := by
    conv => rhs; rw [← List.map_id a]
    exact List.map_congr_left fun p _ => rfl
  simp [impJ, this]
theorem hasW_snoc {b : List Wt} {w : Wt} {t : Bt} : hasW (b ++ [w]) t = (hasW b t).or (if w.b = t then some w else none) := by
  unfold hasW
  rw [List.find?_append]
  congr 1
  by_cases h : w.b = t <;> simp [h]
theorem impJ_new {a b : List Wt} {w : Wt} (hn : ∀ p ∈ a, p.b ≠ w.b) : impJ a (b ++ [w]) = impJ a b ++ [w] := by
  unfold impJ
  have e1 : a.map (addB (b ++ [w])) = a.map (addB b) := List.map_congr_left fun p hp => by
    unfold addB
    rw [hasW_snoc, if_neg (fun e => hn p hp e.symm), Option.or_none]
  rw [e1, List.filter_append, List.append_assoc, List.filter_cons_of_pos (notin_yes hn), List.filter_nil]
theorem impJ_old {a b : List Wt} {w : Wt} {i : Nat} (hi : i < a.length) (hw : a[i]!.b = w.b) (ha : Str a) (hb : ∀ q ∈ b, q.b ≠ w.b) : impJ a (b ++ [w]) = (impJ a b).set i (addW a[i]! w) ∧ (impJ a b)[i]! = a[i]! := by
  have hm : a[i]! ∈ a := by rw [getB hi]; exact List.getElem_mem hi
  have hlen : i < (a.map (addB b)).length := by rw [List.length_map]; exact hi
  have h0 : addB b a[i]! = a[i]! := addB_none fun q hq => by rw [hw]; exact hb q hq
  constructor
  · unfold impJ
    rw [List.filter_append, List.filter_cons_of_neg (by rw [notin_no hm hw]; decide), List.filter_nil, List.append_nil, List.set_append_left _ _ hlen]
    congr 1
    apply List.ext_getElem
    · simp
    · intro j h1 h2
      have hj : j < a.length := by simpa using h1
      rw [List.getElem_map, List.getElem_set]
      split
      · rename_i e
        subst e
        rw [← getB hj]
        unfold addB
        rw [hasW_snoc, hasW_none (by rw [hw]; exact hb), hw]
        simp
      · rename_i e
        rw [List.getElem_map]
        unfold addB
        have hne : w.b ≠ a[j].b := fun e2 => by
          have hij : a[i]! = a[j] := str_inj ha hm (List.getElem_mem hj) (hw.trans e2)
          rw [getB hi] at hij
          have hp := List.pairwise_iff_getElem.1 ha
          rcases Nat.lt_trichotomy i j with q | q | q
          · have := cmp_ne (hp i j hi hj q)
            rw [hij] at this
            exact this rfl
          · exact e q
          · have := cmp_ne (hp j i hj hi q)
            rw [hij] at this
            exact this rfl
        rw [hasW_snoc, if_neg hne, Option.or_none]
  · unfold impJ
    rw [getB (by rw [List.length_append]; omega), List.getElem_append_left hlen, List.getElem_map, ← getB hi, h0]
theorem impJ_le (a b : List Wt) : (impJ a b).length ≤ a.length + b.length := by
  unfold impJ
  rw [List.length_append, List.length_map]
  have := List.length_filter_le (notin a) b
  omega
/-- The first want of a bottle among those that the program has. -/
theorem impJ_b {a b : List Wt} {j : Nat} (hj : j < a.length) : (impJ a b)[j]!.b = a[j]!.b := by
  unfold impJ
  rw [getB (by rw [List.length_append, List.length_map]; omega), List.getElem_append_left (by rw [List.length_map]; exact hj), List.getElem_map, addB_b, getB hj]
/-- One want joined: a new one at the end, or the number of an old one. -/
theorem impJ_round {a b : List Wt} {k : Nat} (ha : Str a) (hb : Str b) (hk : k < b.length) :
    (Lib.idxBy (fun _ z : Wt => decide (z.b = b[k]!.b)) (impJ a (b.take k)) default = -1 ∧ impJ a (b.take (k + 1)) = impJ a (b.take k) ++ [b[k]!]) ∨
    ∃ i, i < (impJ a (b.take k)).length ∧ i < 8 + a.length ∧ Lib.idxBy (fun _ z : Wt => decide (z.b = b[k]!.b)) (impJ a (b.take k)) default = (i : Int) ∧ impJ a (b.take (k + 1)) = (impJ a (b.take k)).set i (addW (impJ a (b.take k))[i]! b[k]!) := by
  have hx : b[k]! = b[k] := getB hk
  have hT : b.take (k + 1) = b.take k ++ [b[k]!] := by rw [hx]; exact List.take_succ_eq_append_getElem hk
  have hne : ∀ q ∈ b.take k, q.b ≠ b[k]!.b := by
    intro q hq
    obtain ⟨j, hj, rfl⟩ := List.getElem_of_mem hq
    have hj' : j < k := by simp at hj; omega
    rw [List.getElem_take, hx]
    exact cmp_ne (List.pairwise_iff_getElem.1 hb j k (by omega) hk hj')
  rw [hT]
  generalize b[k]! = x at hne ⊢
  by_cases hn : ∀ p ∈ a, p.b ≠ x.b
  · refine .inl ⟨?_, impJ_new hn⟩
    have := Lib.idxBy_miss (fun _ z : Wt => decide (z.b = x.b)) (impJ a (b.take k)) (impJ a (b.take k)).length default (fun j hj => ?_)
    · rwa [List.take_length] at this
    · refine decide_eq_false ?_
      rw [getB hj]
      rcases impJ_mem (List.getElem_mem hj) with ⟨p, hp, e⟩ | hq
      · rw [e]; exact hn p hp
      · exact hne _ hq
  · obtain ⟨p, hp, he⟩ : ∃ p ∈ a, p.b = x.b := Classical.byContradiction fun q => hn fun p hp e => q ⟨p, hp, e⟩
    obtain ⟨i, hi, rfl⟩ := List.getElem_of_mem hp
    rw [← getB hi] at he
    have hlen : i < (impJ a (b.take k)).length := by
      unfold impJ
      rw [List.length_append, List.length_map]
      omega
    obtain ⟨q1, q2⟩ := impJ_old hi he ha hne
    refine .inr ⟨i, hlen, by omega, ?_, by rw [q1, q2]⟩
    have := Lib.idxBy_hit (fun _ z : Wt => decide (z.b = x.b)) (impJ a (b.take k)) (impJ a (b.take k)).length i default hlen (Nat.le_refl _) (decide_eq_true (by rw [impJ_b hi]; exact he)) (fun j hj => ?_)
    · rwa [List.take_length] at this
    · refine decide_eq_false ?_
      have hj' : j < a.length := by omega
      rw [impJ_b hj', ← he, getB hj', getB hi]
      exact cmp_ne (List.pairwise_iff_getElem.1 ha j i hj' hi hj)
theorem join_le {a b : List Wt} (ha : Str a) (hb : Str b) : (joinW a b).length ≤ a.length + b.length := by
  rw [(join_perm a b ha hb).length_eq]
  exact impJ_le a b
def joinR (a b : List Wt) : List Wt × Int := if (ordOk a && ordOk b) = true then (if ordOk (joinW a b) = true then (joinW a b, 0) else ([], 3)) else ([], 1)
theorem joinR_le (a b : List Wt) : (joinR a b).1.length ≤ 8 := by
  unfold joinR
  split
  · split
    · rename_i h
      simp only [ordOk, Bool.and_eq_true, decide_eq_true_iff] at h
      exact h.2
    · simp
  · simp
end Go.Proofs.YtbngpcghognojaaGreatDoor
