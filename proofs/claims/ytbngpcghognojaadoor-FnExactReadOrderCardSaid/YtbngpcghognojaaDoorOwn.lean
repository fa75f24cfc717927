/- Owned slices of elements, grown by append: wants, crates, numbers. -/
import Derived.Test.YtbngpcghognojaaDoorSlc
import Derived.Test.YtbngpcghognojaaDoorCrateS
import Derived.Test.YtbngpcghognojaaDoorWantS
namespace Go.Proofs.YtbngpcghognojaaDoor
open Go.RowKit
set_option linter.unusedVariables false
set_option linter.unusedSimpArgs false
set_option maxRecDepth 100000
set_option maxHeartbeats 1000000
theorem wrap_i16 {n : Int} (h : -32768 ≤ n ∧ n ≤ 32767) : IntKind.i16.wrap n = n := by
  simp [IntKind.wrap, IntKind.bits, IntKind.signed]
  split <;> omega
/-- An owned slice that is not nil. -/
def OwnS {α : Type} (f : α → List Value) (w : World) (B e size : Nat) (v : Value) (l : List α) : Prop := w.ownsRow B e size v l.length (fl f l) ∧ ∃ g cap, v = .slice (some ⟨g, 0, none⟩) l.length cap
section
variable {α : Type} {f : α → List Value} {w w' : World} {B e size : Nat} {v : Value} {l : List α}
theorem OwnS.own (h : OwnS f w B e size v l) : w.ownsRow B e size v l.length (fl f l) := h.1
theorem OwnS.kept (h : OwnS f w B e size v l) (hb : Below w.heap.size w w') : OwnS f w' B e size v l := ⟨own_kept h.1 hb, h.2⟩
theorem OwnS.down {b : Nat} (h : OwnS f w B e size v l) (hb : b ≤ B) : OwnS f w b e size v l := ⟨own_down h.1 hb, h.2⟩
theorem OwnS.lies (h : OwnS f w B e size v l) : ∃ g cap, v = .slice (some ⟨g, 0, none⟩) l.length cap ∧ Lies f w g l ∧ B ≤ g ∧ g < w.heap.size ∧ l.length ≤ cap := by
  obtain ⟨h, g, cap, rfl⟩ := h
  obtain ⟨cur, _, _, hb, hc, _⟩ := own_row h
  exact ⟨g, cap, rfl, own_lies h, hb, own_lt h g rfl, hc⟩
theorem OwnS.lit (hB : B ≤ w.heap.size) : OwnS f (w.alloc (.cells #[] e)) B e size (.slice (some ⟨w.heap.size, 0, none⟩) 0 0) [] :=
  ⟨World.ownsRow_lit (base := B) (e := e) (size := size) w #[] 0 hB (by simp [maxLen]) (by simp), _, _, rfl⟩
theorem OwnS.grown {x : α} (h : w.ownsRow B e size v (l ++ [x]).length (fl f (l ++ [x]))) : OwnS f w B e size v (l ++ [x]) := ⟨h, own_form h (by simp)⟩
end
theorem fold_zip : ∀ (l : List Value) (k : Nat) (z : Array Value), z.size = k + l.length → List.foldl (fun (cs : Array Value) (x : Value × Nat) => cs.setIfInBounds x.snd x.fst) z (l.zipIdx k) = (z.toList.take k ++ l).toArray
  | [], k, z, h => by
    rw [List.zipIdx_nil, List.foldl_nil, List.append_nil, List.take_of_length_le (by simp at h; simp; omega)]
  | x :: l, k, z, h => by
    rw [List.zipIdx_cons, List.foldl_cons, fold_zip l (k + 1) _ (by simp at h ⊢; omega)]
    have hk : k < z.toList.length := by simp at h ⊢; omega
    congr 1
    rw [Array.toList_setIfInBounds, List.take_succ_eq_append_getElem (by simpa using hk), List.getElem_set_self, List.take_set_of_le (Nat.le_refl _), List.append_assoc]
    rfl
theorem fold_cc (c : Cr) : List.foldl (fun (cs : Array Value) (x : Value × Nat) => cs.setIfInBounds x.snd x.fst) #[.int .u8 0, .int .i16 0, .int .u8 0, .int .i16 0, .int .u8 0, .int .i16 0, .int .u8 0, .int .i16 0, .int .u8 0, .int .i16 0, .int .u8 0, .int .i16 0, .int .u8 0, .int .i16 0, .int .u8 0, .int .i16 0, .int .u8 0, .int .i16 0, .int .u8 0, .int .i16 0, .int .u8 0, .int .i16 0, .int .u8 0, .int .i16 0] (cc c).zipIdx = (cc c).toArray := by
  rw [fold_zip (cc c) 0 _ (by rw [cc_length]; rfl)]
  rfl
theorem cc_len (c : Cr) : (cc c).length = 24 := cc_length c
section
variable {ops : Array Oper} {rest : List Oper} {o : Oper} {a : Act} {Q : Exit → Act → World → Prop} {W : World}
theorem wp_app_want (B : Nat) (hgd : o.guard = none) (s x : Operand) (ho : o.op = .call { callee := .builtin .append, args := #[s, x], argTypes := #[38, 38] })
    (v : Value) (l : List Wt) (y : Wt) (hs : a.eval s = v) (g : Nat) (hx : a.eval x = .slice (some ⟨g, 0, none⟩) 1 1) (hg : g = W.heap.size)
    (HO : OwnS wc W B 70 3 v l) (hB : B ≤ W.heap.size) (hn : l.length ≤ 100000000)
    (h : ∀ v1 w1, OwnS wc w1 B 70 3 v1 (l ++ [y]) → Below B W w1 → wpList Tryd.prog ops Q rest (a.put o.dst v1) w1) : wpList Tryd.prog ops Q (o :: rest) a (W.alloc (.cells #[.int .u8 y.b.k, .int .i16 y.b.y, .int .i16 y.n] 70)) :=
  wp_app (P := Tryd.prog) B hgd s x 38 70 ho (.agg (wc zW).toArray) 3 6 Tryd.underlying38 infoWantS rfl (by decide) v l.length (fl wc l) (wc y) hs g hx hg rfl (fun u hu => wv_one y u (by simpa using hu)) HO.1 hB (by omega) (by decide)
    (fun v1 w1 h1 h2 => h v1 w1 (OwnS.grown (by rw [List.length_append, fl_append, fl_one]; exact h1)) h2)
end
end Go.Proofs.YtbngpcghognojaaDoor
