/- Owned slices, nil among them; contracts of the laws' helpers on slices of wants: marked, held. -/
import Derived.Test.YtbngpcghognojaaDoorOwn
namespace Go.Proofs.YtbngpcghognojaaDoor
open Go.RowKit
set_option linter.unusedVariables false
set_option linter.unusedSimpArgs false
set_option maxRecDepth 100000
set_option maxHeartbeats 1000000
/-- An owned slice of elements, or nil. -/
def OwnN {α : Type} (f : α → List Value) (w : World) (B e size : Nat) (v : Value) (l : List α) : Prop := w.ownsRow B e size v l.length (fl f l)
/-- Two slices lie in different blocks. -/
def Apart (v v' : Value) : Prop := ∀ b, v.ownBlock = some b → v'.ownBlock ≠ some b
/-- Nothing but the block of a slice has changed. -/
def ButV (v : Value) (w w' : World) : Prop := Below 0 w w' ∧ ∀ b, b < w.heap.size → v.ownBlock ≠ some b → w'.heap[b]? = w.heap[b]?
section
variable {α β : Type} {f : α → List Value} {f' : β → List Value} {w w' w0 : World} {B e size B' e' size' : Nat} {v v' : Value} {l : List α} {l' : List β}
theorem Apart.symm (h : Apart v v') : Apart v' v := fun b hb hb' => h b hb' hb
theorem OwnN.below (h : OwnN f w B e size v l) (hb : Below w.heap.size w w') : OwnN f w' B e size v l := own_kept h hb
theorem OwnN.down {b : Nat} (h : OwnN f w B e size v l) (hb : b ≤ B) : OwnN f w b e size v l := own_down h hb
theorem OwnN.rd (h : OwnN f w B e size v l) : ∃ A c, v = .slice A l.length c ∧ l.length ≤ c ∧ RdA w A (fl f l) := by
  obtain ⟨A, c, hv, hc, hr, _⟩ := own_rdA h
  exact ⟨A, c, hv, hc, hr⟩
theorem OwnN.lies {g cap : Nat} (h : OwnN f w B e size (.slice (some ⟨g, 0, none⟩) l.length cap) l) : Lies f w g l := own_lies h
theorem OwnN.apart (h : OwnN f w B e size v l) (h' : OwnN f' w' B' e' size' v' l') (hw : w.heap.size ≤ B') : Apart v v' := fun b hb hb' => by
  have h1 := own_lt h b hb
  have h2 := own_base h' b hb'
  omega
theorem OwnN.but (h : OwnN f w B e size v l) (hb : ButV v' w w') (ha : Apart v' v) : OwnN f w' B e size v l :=
  ⟨h.1, h.2.imp (fun h => h) fun ⟨g, cap, cur, hv, hg, hh, hr⟩ => ⟨g, cap, cur, hv, hg, by
    rw [hb.2 g (Array.getElem?_eq_some_iff.1 hh).1 (fun e => ha g e (by rw [hv]; rfl))]
    exact hh, hr⟩⟩
theorem ButV.below (hb : ButV v w w') (h : OwnN f w B e size v l) {b : Nat} (hB : b ≤ B) (hw : b ≤ w.heap.size) : Below b w w' :=
  ⟨hb.1.os, hb.1.tape, hb.1.output, hb.1.size, fun k hk => hb.2 k (by omega) fun e => by have := own_base h k e; omega⟩
theorem ButV.refl : ButV v w w := ⟨Below.refl _ _, fun _ _ _ => rfl⟩
theorem ButV.trans {w1 : World} (h : ButV v w w1) (h' : ButV v w1 w') : ButV v w w' :=
  ⟨h.1.trans h'.1, fun b hb hv => (h'.2 b (Nat.lt_of_lt_of_le hb h.1.size) hv).trans (h.2 b hb hv)⟩
theorem ButV.set {g o : Nat} {n c : Nat} {u : Value} : ButV (.slice (some ⟨g, 0, none⟩) n c) w (w.setCell ⟨g, o, none⟩ u) :=
  ⟨(Below.refl 0 w).setCell (Nat.zero_le _) _, fun b hb hv => Below.heap_setCell w _ u b (fun e => hv (by rw [e]; rfl))⟩
end
/-- The marks of a want. -/
def mkw (k0 : Int) (i : Nat) : List Value := [.int .u8 ((k0 + 3 * (i : Int)) % 256), .int .i16 (IntKind.i16.wrap (k0 + 3 * (i : Int) + 1)), .int .i16 (IntKind.i16.wrap (k0 + 3 * (i : Int) + 1 + 1))]
theorem mkw_length (k0 : Int) (i : Nat) : (mkw k0 i).length = 3 := rfl
theorem mkw_step {k0 : Int} {l : List Wt} {k : Nat} (hk : k < l.length) :
    (((fl (mkw k0) (List.range k) ++ fl wc (l.drop k)).set (k * 3) (.int .u8 ((k0 + 3 * (k : Int)) % 256))).set (k * 3 + 1) (.int .i16 (IntKind.i16.wrap (k0 + 3 * (k : Int) + 1)))).set (k * 3 + 2) (.int .i16 (IntKind.i16.wrap (k0 + 3 * (k : Int) + 1 + 1))) = fl (mkw k0) (List.range (k + 1)) ++ fl wc (l.drop (k + 1)) := by
  have hl : (fl (mkw k0) (List.range k)).length = k * 3 := by rw [fl_length (mkw_length k0), List.length_range]
  rw [List.set_append_right _ _ (by omega), hl, Nat.sub_self, List.set_append_right _ _ (by omega), hl, Nat.add_sub_cancel_left, List.set_append_right _ _ (by omega), hl, Nat.add_sub_cancel_left, List.range_succ, fl_append, fl_one, List.drop_eq_getElem_cons hk, fl_cons]
  simp [wc, mkw]
theorem markWantS_own (B : Nat) (v : Value) (l : List Wt) (k0 : Int) (w : World) (h : OwnN wc w B 70 3 v l) (h0 : 0 ≤ k0) (h1 : k0 ≤ 1000000000000) (hm : l.length ≤ 1000000000) :
    Calls Tryd.prog 28 #[v, .int .i64 k0] w fun e w' => e = .returned (.int .i64 (k0 + 3 * (l.length : Int))) ∧ OwnN (mkw k0) w' B 70 3 v (List.range l.length) ∧ ButV v w w' := by
  have HO := Lib.hid h
  obtain ⟨A, c, rfl, hc, _⟩ := own_rdA h
  clear h
  go_enter Tryd.func28, Tryd.ntmps28
  go_wp2
  go_loopw [1, 5] (fun kk i wr => ∃ k : Nat, k ≤ l.length ∧ i = .int .i64 k ∧ kk = .int .i64 (k0 + 3 * (k : Int)) ∧ Hid (wr.ownsRow B 70 3 (.slice A l.length c) l.length (fl (mkw k0) (List.range k) ++ fl wc (l.drop k))) ∧ Hid (ButV (.slice A l.length c) w wr)) (fun _ i _ => l.length - (intOf i).toNat)
  case atStart => exact ⟨0, Nat.zero_le _, rfl, by simp, Lib.hid (by simpa [fl, OwnN] using HO.out), ButV.refl⟩
  case round =>
    clear HO
    obtain ⟨k, hk, rfl, rfl, HO, hb⟩ := hrel
    by_cases hlt : k < l.length
    · obtain ⟨g, cap, hv⟩ := own_form HO.out (by omega)
      simp only [Value.slice.injEq] at hv
      obtain ⟨rfl, _, rfl⟩ := hv
      have hlen : (fl (mkw k0) (List.range k) ++ fl wc (l.drop k)).length = l.length * 3 := HO.out.1
      have x0 := HO.out.cellAt (k * 3) (by omega)
      have x1 := HO.out.cellAt (k * 3 + 1) (by omega)
      have x2 := HO.out.cellAt (k * 3 + 2) (by omega)
      rw [List.getElem?_eq_getElem (by omega)] at x0 x1 x2
      have f0 := HO.out.frozenAt (k * 3)
      have f1 := HO.out.frozenAt (k * 3 + 1)
      have f2 := HO.out.frozenAt (k * 3 + 2)
      have HS := Lib.hid ((((HO.out.stored (k * 3) (.int .u8 ((k0 + 3 * (k : Int)) % 256))).1.stored (k * 3 + 1) (.int .i16 (IntKind.i16.wrap (k0 + 3 * (k : Int) + 1)))).1.stored (k * 3 + 2) (.int .i16 (IntKind.i16.wrap (k0 + 3 * (k : Int) + 1 + 1)))).1)
      rw [mkw_step hlt] at HS
      have hlt2 : (k : Int) < (l.length : Int) := by omega
      have q0 : 0 ≤ k0 + 3 * (k : Int) := by omega
      generalize (fl (mkw k0) (List.range k) ++ fl wc (l.drop k))[k * 3] = y0 at x0
      generalize (fl (mkw k0) (List.range k) ++ fl wc (l.drop k))[k * 3 + 1] = y1 at x1
      generalize (fl (mkw k0) (List.range k) ++ fl wc (l.drop k))[k * 3 + 2] = y2 at x2
      clear hlen
      go_wp2
      go_roundw
      case rel => exact ⟨k + 1, by omega, by go_num, congrArg (Value.int .i64) (by omega), HS.out, ((hb.out.trans ButV.set).trans ButV.set).trans ButV.set⟩
      case measure => simp [intOf]; omega
    · obtain rfl : k = l.length := by omega
      go_wp2
      go_ret
      exact ⟨rfl, by simpa [fl, OwnN] using HO.out, hb.out⟩
theorem heldWantS_own (B : Nat) (v : Value) (n : Nat) (k0 : Int) (w : World) (h : OwnN (mkw k0) w B 70 3 v (List.range n)) (h0 : 0 ≤ k0) (h1 : k0 ≤ 1000000000000) (hm : n ≤ 1000000000) :
    Calls Tryd.prog 29 #[v, .int .i64 k0] w fun e w' => e = .returned (.int .i64 (k0 + 3 * (n : Int))) ∧ Below w.heap.size w w' := by
  obtain ⟨A, c, rfl, hc, hr⟩ := h.rd
  rw [List.length_range]
  have HR := Lib.hid hr
  clear h hr hc
  go_enter Tryd.func29, Tryd.ntmps29
  go_wp2
  go_loopw [1, 5] (fun kk i wr => ∃ k : Nat, k ≤ n ∧ i = .int .i64 k ∧ kk = .int .i64 (k0 + 3 * (k : Int)) ∧ Below w.heap.size w wr) (fun _ i _ => n - (intOf i).toNat)
  case atStart => exact ⟨0, Nat.zero_le _, rfl, by simp, Below.refl _ _⟩
  case round =>
    obtain ⟨k, hk, rfl, rfl, hb⟩ := hrel
    by_cases hlt : k < n
    · obtain ⟨g, off, rfl, hg, hC⟩ := HR.out.some (by rw [fl_length (mkw_length k0), List.length_range]; omega)
      have hX := (hC.below hb hg).el (mkw_length k0) (i := k) (by simpa using hlt)
      rw [show (List.range n)[k]! = k by rw [getB (by simpa using hlt)]; simp] at hX
      have x0 : wr.cell? ⟨g, off + k * 3, none⟩ = some (.int .u8 ((k0 + 3 * (k : Int)) % 256)) := hX 0 _ rfl
      have x1 : wr.cell? ⟨g, off + k * 3 + 1, none⟩ = some (.int .i16 (IntKind.i16.wrap (k0 + 3 * (k : Int) + 1))) := hX 1 _ rfl
      have x2 : wr.cell? ⟨g, off + k * 3 + 2, none⟩ = some (.int .i16 (IntKind.i16.wrap (k0 + 3 * (k : Int) + 1 + 1))) := hX 2 _ rfl
      have hlt2 : (k : Int) < (n : Int) := by omega
      have q0 : 0 ≤ k0 + 3 * (k : Int) := by omega
      clear hC hX
      go_wp2
      go_roundw
      case rel => exact ⟨k + 1, by omega, by go_num, congrArg (Value.int .i64) (by omega), hb⟩
      case measure => simp [intOf]; omega
    · obtain rfl : k = n := by omega
      go_wp2
      go_ret
      exact ⟨rfl, hb⟩
theorem eqWantS_own {B B' : Nat} {v v' : Value} (l : List Wt) (w : World) (h : OwnN wc w B 70 3 v l) (h' : OwnN wc w B' 70 3 v' l) (hm : l.length ≤ 1000000000) :
    Calls Tryd.prog 19 #[v, v'] w fun e w' => e = .returned (.bool true) ∧ Below w.heap.size w w' := by
  obtain ⟨A, c, rfl, _, hr⟩ := h.rd
  obtain ⟨A', c', rfl, _, hr'⟩ := h'.rd
  exact eqWantS_refl A A' c c' l w hr hr' hm
theorem toWantS_own (A : Option Addr) (c : Nat) (l : List Wt) (w : World) (h : RdA w A (fl wc l)) (hn : l.length ≤ 1048576) :
    Calls Tryd.prog 17 #[.slice A l.length c] w fun e w' => ∃ g, e = .returned (.slice (some ⟨g, 0, none⟩) l.length l.length) ∧ OwnN wc w' w.heap.size 70 3 (.slice (some ⟨g, 0, none⟩) l.length l.length) l ∧ Below w.heap.size w w' := toWantS_any A c l w h hn
end Go.Proofs.YtbngpcghognojaaDoor
