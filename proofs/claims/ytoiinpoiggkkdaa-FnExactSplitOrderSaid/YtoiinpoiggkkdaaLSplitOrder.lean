/- The law FnExactSplitOrder holds: the program's SplitOrder answers as the reference's, whatever the order and the size. -/
import Derived.Test.YtoiinpoiggkkdaaRows
import Derived.Test.YtoiinpoiggkkdaaSplit
import Derived.Test.YtoiinpoiggkkdaaSplitSp
import Derived.Test.YtoiinpoiggkkdaaMarkW
import Derived.Test.YtoiinpoiggkkdaaRead
import Derived.Test.YtoiinpoiggkkdaaTail
namespace Go.Proofs.Ytoiinpoiggkkdaa
open Go.RowKit
set_option linter.unusedVariables false
set_option linter.unusedSimpArgs false
set_option maxRecDepth 100000
set_option maxHeartbeats 1000000
attribute [local go_sem] Oper.qB
theorem ButR.below {B T b : Nat} {w w' : World} (hb : ButR B T w w') (hB : b ≤ B) (hw : b ≤ w.heap.size) : Below b w w' :=
  ⟨hb.1.os, hb.1.tape, hb.1.output, hb.1.size, fun k hk => hb.2 k (by omega) (by omega)⟩
section
variable {α : Type} {f : α → List Value} {w w' : World} {B k e E T : Nat} {v : Value} {ls : List (List α)}
theorem OwnA.butX {β : Type} {f' : β → List Value} {B' k' : Nat} {x : Value} {l' : List β} (h : OwnA f k e E w B T v ls) (hX : OwnN f' w B' e k' x l') (hE : E ≠ e) (hb : ButV x w w') (ha : ∀ b, x.ownBlock = some b → ¬ (B ≤ b ∧ b < T)) : OwnA f k e E w' B T v ls := by
  obtain ⟨vs, h1, h2, h3, h4⟩ := h
  exact ⟨vs, h1, h2.but hb (apart_types hX h2.n (Ne.symm hE)), fun i hi => ⟨(h3 i hi).1.but hb (fun b hx hv => ha b hx ⟨(h3 i hi).1.n.base b hv, (h3 i hi).2 b hv⟩), (h3 i hi).2⟩, h4⟩
theorem OwnA.butR {B' T' : Nat} (h : OwnA f k e E w B T v ls) (hb : ButR B' T' w w') (hT : T ≤ B') (hv : ∀ b, v.ownBlock = some b → b < B') : OwnA f k e E w' B T v ls := by
  obtain ⟨vs, h1, h2, h3, h4⟩ := h
  exact ⟨vs, h1, ⟨h2.n.butR hb (fun b q => by have := hv b q; omega), h2.2⟩, fun i hi => ⟨⟨(h3 i hi).1.n.butR hb (fun b q => by have := (h3 i hi).2 b q; omega), (h3 i hi).1.2⟩, (h3 i hi).2⟩, h4⟩
theorem OwnA.lt (h : OwnA f k e E w B T v ls) : ∀ b, v.ownBlock = some b → b < w.heap.size := by
  obtain ⟨vs, h1, h2, h3, h4⟩ := h
  exact h2.n.lt
end
/-- Nothing, or slices that are owned. -/
def OwnZ (w : World) (B T : Nat) (v : Value) (ls : List (List Wt)) : Prop := (ls = [] ∧ v = .slice none 0 0) ∨ OwnA wc 3 43 27 w B T v ls
theorem OwnZ.kept {w w' : World} {B T : Nat} {v : Value} {ls : List (List Wt)} (h : OwnZ w B T v ls) (hb : Below w.heap.size w w') : OwnZ w' B T v ls := h.imp (fun h => h) fun h => h.kept hb
theorem OwnZ.butX {w w' : World} {B T B' : Nat} {v x : Value} {ls : List (List Wt)} {l' : List Wt} (h : OwnZ w B T v ls) (hX : OwnN wc w B' 43 3 x l') (hb : ButV x w w') (ha : ∀ b, x.ownBlock = some b → ¬ (B ≤ b ∧ b < T)) : OwnZ w' B T v ls := h.imp (fun h => h) fun h => h.butX hX (by decide) hb ha
def OwnMZ (k0 : Int) (w : World) (B : Nat) (v : Value) (ls : List (List Wt)) : Prop := (ls = [] ∧ v = .slice none 0 0) ∨ OwnM k0 w B v ls
theorem OwnMZ.below {k0 : Int} {w w' : World} {B : Nat} {v : Value} {ls : List (List Wt)} (h : OwnMZ k0 w B v ls) (hb : Below w.heap.size w w') : OwnMZ k0 w' B v ls := h.imp (fun h => h) fun h => h.below hb
theorem eqWantSS_z {B T B' T' : Nat} {v v' : Value} (ls : List (List Wt)) (w : World) (h : OwnZ w B T v ls) (h' : OwnA wc 3 43 27 w B' T' v' ls) (hn : ls.length ≤ 1048576) (hl : tot ls ≤ 1048576) :
    Calls Try.prog 9 #[v, v'] w fun e w' => e = .returned (.bool true) ∧ Below w.heap.size w w' := by
  rcases h with ⟨rfl, rfl⟩ | h
  · obtain ⟨g', c', rfl⟩ := h'.form
    clear h'
    go_enter Try.func9, Try.ntmps9
    go_wp2
    go_loopw [5] (fun i wr => i = .int .i64 0 ∧ Below w.heap.size w wr) (fun _ _ => 0)
    case atStart => exact ⟨rfl, Below.refl _ _⟩
    case round =>
      obtain ⟨rfl, hb⟩ := hrel
      go_wp2
      go_ret
      exact ⟨rfl, hb⟩
  · exact eqWantSS_own ls w h h' hn hl
theorem markWantSS_z (B T : Nat) (v : Value) (ls : List (List Wt)) (k0 : Int) (w : World) (h : OwnZ w B T v ls) (h0 : 0 ≤ k0) (h1 : k0 ≤ 1000000) (hn : ls.length ≤ 1048576) (hl : tot ls ≤ 1048576) :
    Calls Try.prog 12 #[v, .int .i64 k0] w fun e w' => e = .returned (.int .i64 (k0 + 3 * (tot ls : Int))) ∧ OwnMZ k0 w' B v ls ∧ ButR B T w w' := by
  rcases h with ⟨rfl, rfl⟩ | h
  · go_enter Try.func12, Try.ntmps12
    go_wp2
    go_loopw [1, 5] (fun m i wr => m = .int .i64 k0 ∧ i = .int .i64 0 ∧ Hid (ButR B T w wr)) (fun _ _ _ => 0)
    case atStart => exact ⟨rfl, rfl, ButR.refl⟩
    case round =>
      obtain ⟨rfl, rfl, hb⟩ := hrel
      go_wp2
      go_ret
      exact ⟨ret_int (by simp [tot]), .inl ⟨rfl, rfl⟩, hb⟩
  · exact (markWantSS_own B T v ls k0 w h h0 h1 hn hl).mono fun e w' ⟨he, hm, hb⟩ => ⟨he, .inr hm, hb⟩
theorem heldWantSS_z (B : Nat) (v : Value) (ls : List (List Wt)) (k0 : Int) (w : World) (h : OwnMZ k0 w B v ls) (h0 : 0 ≤ k0) (h1 : k0 ≤ 1000000) (hn : ls.length ≤ 1048576) (hl : tot ls ≤ 1048576) :
    Calls Try.prog 13 #[v, .int .i64 k0] w fun e w' => e = .returned (.int .i64 (k0 + 3 * (tot ls : Int))) ∧ Below w.heap.size w w' := by
  rcases h with ⟨rfl, rfl⟩ | h
  · go_enter Try.func13, Try.ntmps13
    go_wp2
    go_loopw [1, 5] (fun m i wr => m = .int .i64 k0 ∧ i = .int .i64 0 ∧ Below w.heap.size w wr) (fun _ _ _ => 0)
    case atStart => exact ⟨rfl, rfl, Below.refl _ _⟩
    case round =>
      obtain ⟨rfl, rfl, hb⟩ := hrel
      go_wp2
      go_ret
      exact ⟨ret_int (by simp [tot]), hb⟩
  · exact heldWantSS_own B v ls k0 w h h0 h1 hn hl
theorem FnExactSplitOrder_any (w : World) (A0 : Option Addr) (c0 : Nat) (l0 : List Wt) (hm0 : l0.length ≤ maxLen) (hr0 : RdA w A0 (fl wc l0)) (n : Int) (hin : (Lit.int .i64 n).wf = true) : Calls Try.prog 3 #[.slice A0 l0.length c0, .int .i64 n] w fun e w' => e = .returned (.bool true) ∧ Below w.heap.size w w' := by
  have hq0 : l0.length ≤ 9223372036854775807 := by simpa [maxLen] using hm0
  clear hin
  have H := Below.refl w.heap.size w
  by_cases h0 : l0.length ≤ 1048576
  rotate_left
  · go_enter Try.func3, Try.ntmps3
    go_wp2_with (go_at_call 5; refine (szWantS_any _ _ _ _ _ (by omega) (by omega) hm0).mono ?_; rintro e w1 ⟨rfl, hb⟩; rw [if_pos (by omega)]; replace H := bstep H hb; clear hb)
    go_ret
    exact ⟨rfl, H⟩
  have hn0 : l0.length ≤ 1048576 := by omega
  have e1 := fun (g0 : Nat) (w : World) (K0 : Lies wc w g0 l0) => sSplitOrder_any g0 l0.length l0 n w K0 hn0
  have e2 := fun (g0 : Nat) (w : World) (K0 : Lies wc w g0 l0) => (SplitOrder_any g0 l0.length l0 n w K0 hn0).mono (R' := fun e w' => ∃ v, e = .returned (.tuple #[v, .int .i64 (splitR l0 n).2]) ∧ OwnZ w' w.heap.size w'.heap.size v (splitR l0 n).1 ∧ Below w.heap.size w w') fun _ _ h => h
  have hb0 := splitR_le l0 n
  generalize splitR l0 n = z at e1 e2 hb0
  obtain ⟨x0, x1⟩ := z
  replace hb0 : x0.length ≤ 1152 ∧ tot x0 ≤ 1152 := hb0
  obtain ⟨hx0, hx1⟩ := hb0
  replace e1 := Lib.hid e1
  replace e2 := Lib.hid e2
  go_enter Try.func3, Try.ntmps3
  go_upto_region 5 with (go_at_call 5; refine (szWantS_any _ _ _ _ _ (by omega) (by omega) hm0).mono ?_; rintro e w1 ⟨rfl, hb⟩; rw [if_neg (by omega)]; replace H := bstep H hb; clear hb)
  go_upto_region 6 with (first | (go_at_call 7; with_reducible refine (toWantS_own A0 c0 l0 _ (hr0.below H) hn0).mono ?_; rintro e w1 ⟨k0, rfl, T0, hb⟩; replace H := bstep H hb; clear hb) | (go_at_call 6; with_reducible refine (e1.out _ _ T0.lies).mono ?_; rintro e w1 ⟨vW0, rfl, OW0, hb⟩; have LW := OW0.lt; replace H := bstep H hb; clear hb))
  try clear T0
  go_upto_region 7 with (go_at_call 7; with_reducible refine (toWantS_own A0 c0 l0 _ (hr0.below H) hn0).mono ?_; rintro e w1 ⟨y0, rfl, OX0, hb⟩; have Q0 := H.size; have BX := OX0.base; have LX := OX0.lt; have LWX := hb.size; replace OW0 := OW0.kept hb; replace H := bstep H hb; clear hb)
  go_upto_region 8 with (go_at_call 8; with_reducible refine (e2.out _ _ OX0.lies).mono ?_; rintro e w1 ⟨vG0, rfl, OG0, hb⟩; have QG0 := H.size; replace OW0 := OW0.kept hb; replace OX0 := OX0.below hb; replace H := bstep H hb; clear hb)
  go_upto_region 10 with (go_at_call 9; refine (eqWantSS_z x0 _ OG0 OW0 (by omega) (by omega)).mono ?_; rintro e w1 ⟨rfl, hb⟩; replace OW0 := OW0.kept hb; replace OX0 := OX0.below hb; replace OG0 := OG0.kept hb; replace H := bstep H hb; clear hb)
  go_upto_region 12 with (first | (go_at_call 7; with_reducible refine (toWantS_own A0 c0 l0 _ (hr0.below H) hn0).mono ?_; rintro e w1 ⟨k, rfl, T, hb⟩; replace OW0 := OW0.kept hb; replace OX0 := OX0.below hb; replace OG0 := OG0.kept hb; replace H := bstep H hb; clear hb) | (go_at_call 10; refine (eqWantS_own l0 _ OX0 T (by omega)).mono ?_; rintro e w1 ⟨rfl, hb⟩; clear T; replace OW0 := OW0.kept hb; replace OX0 := OX0.below hb; replace OG0 := OG0.kept hb; replace H := bstep H hb; clear hb))
  go_upto_region 14 with (go_at_call 11; refine (markWantS_own _ _ l0 _ _ OX0 (by omega) (by omega) (by omega)).mono ?_; rintro e w1 ⟨rfl, -, hb⟩; replace OW0 := OW0.butX OX0 (by decide) hb (fun b hb h => by have := BX b hb; omega); replace OG0 := OG0.butX OX0 hb (fun b hb h => by have := LX b hb; omega); replace H := H.trans (hb.below OX0 Q0 H.size); clear hb OX0)
  go_upto_region 16 with (go_at_call 9; refine (eqWantSS_z x0 _ OG0 OW0 (by omega) (by omega)).mono ?_; rintro e w1 ⟨rfl, hb⟩; replace OW0 := OW0.kept hb; replace OG0 := OG0.kept hb; replace H := bstep H hb; clear hb)
  go_upto_region 18 with (go_at_call 12; refine (markWantSS_z _ _ _ x0 _ _ OG0 (by omega) (by omega) (by omega) (by omega)).mono ?_; rintro e w1 ⟨rfl, OM0, hb⟩; replace OW0 := OW0.butR hb LWX (fun b q => Nat.lt_of_lt_of_le (LW b q) LWX); replace H := H.trans (hb.below QG0 H.size); clear OG0 hb)
  go_upto_region 24 with (go_at_call 13; refine (heldWantSS_z _ _ x0 _ _ OM0 (by omega) (by omega) (by omega) (by omega)).mono ?_; rintro e w1 ⟨rfl, hb⟩; replace OW0 := OW0.kept hb; replace OM0 := OM0.below hb; replace H := bstep H hb; clear hb)
  go_upto_region 25 with (first | (go_at_call 7; with_reducible refine (toWantS_own A0 c0 l0 _ (hr0.below H) hn0).mono ?_; rintro e w1 ⟨k0, rfl, T0, hb⟩; replace OW0 := OW0.kept hb; replace OM0 := OM0.below hb; replace H := bstep H hb; clear hb) | (go_at_call 8; with_reducible refine (e2.out _ _ T0.lies).mono ?_; rintro e w1 ⟨vV0, rfl, OV0, hb⟩; replace OW0 := OW0.kept hb; replace OM0 := OM0.below hb; replace H := bstep H hb; clear hb))
  try clear T0
  go_upto_region 27 with (go_at_call 9; refine (eqWantSS_z x0 _ OV0 OW0 (by omega) (by omega)).mono ?_; rintro e w1 ⟨rfl, hb⟩; replace OW0 := OW0.kept hb; replace OM0 := OM0.below hb; replace H := bstep H hb; clear hb)
  go_wp2_with (go_at_call 13; refine (heldWantSS_z _ _ x0 _ _ OM0 (by omega) (by omega) (by omega) (by omega)).mono ?_; rintro e w1 ⟨rfl, hb⟩; replace OM0 := OM0.below hb; replace H := bstep H hb; clear hb)
  go_ret
  exact ⟨rfl, H⟩
end Go.Proofs.Ytoiinpoiggkkdaa
namespace Go.Proofs.Ytoiinpoiggkkdaa.fnExactSplitOrder
open Go.ChangeShapes Go.WideShapes Go.ChangeAt Go.RowKit
open Go.ChangeMaps (open_string shut_string)
set_option linter.unusedVariables false
set_option linter.unusedSimpArgs false
set_option maxRecDepth 100000 in
theorem lifted (os : Os) (started : os.Started) (H : Type) (enc : TypeId × Value → H) :
    ReturnsInHanded {} Try.checked os 3 .any (Rows.fnExactSplitOrderSpec.pre6 enc Try.prog Try.f3 Rows.fnExactSplitOrderRow.domain false) (Rows.fnExactSplitOrderSpec.post enc Try.prog Try.f3 false true false false) := by
  refine returnsInHanded_of_change_sized (C := Try.checked) own started (by kernel_rfl) Try.func3
    (ChangeSpec.witness6 (enc := enc) (C := Try.checked) false ⟨#[], #[.slice none 0 0, .int .i64 0], []⟩ 8 (by kernel_rfl) (by kernel_rfl) (by kernel_rfl) (by kernel_rfl)) ?_
  intro W base args ds gs before hval0 hW hcnd hsz0 _
  have hsz : (DataW.weightsEach Try.prog (Try.f3.params.toList ++ Rows.fnExactSplitOrderSpec.plain.varTypes Try.prog) (ds ++ gs)).all (· ≤ reachBytes) = true := hsz0
  have hval : ∀ (j : Nat) t v, Try.f3.params[j]? = some t → args[j]? = some v → Value.okWide Try.prog W .any base t v := hval0
  have hW' := hW
  obtain ⟨p, q, hA0, hV, rfl, hfz, hnd⟩ := hW
  have hA : DataW.TrodAll enc Try.prog W 0 (fun _ => true) true Try.f3.params.toList args.toList ds p := hA0
  rw [Try.params3] at hA hval hsz
  obtain ⟨v0, vs0, d0, ds0, p0, q0, hargs0, rfl, rfl, h0, r0⟩ := trodAll_cons hA
  obtain ⟨v1, vs1, d1, ds1, p1, q1, hargs1, rfl, rfl, h1, r1⟩ := trodAll_cons r0
  obtain ⟨rfl, rfl, rfl⟩ := trodAll_nil r1
  subst hargs1
  obtain rfl : args = #[v0, v1] := by cases args; simp_all
  obtain ⟨rfl, rfl⟩ := trodVars_none hV
  have hlt0 : ∀ x ∈ p0, x.block < W.heap.size := fun x hx => by simpa using hW'.lt x (by simp [hx])
  have hlt1 : ∀ x ∈ p1, x.block < W.heap.size := fun x hx => by simpa using hW'.lt x (by simp [hx])
  obtain ⟨A0, c0, l0, hv0, hm0, hr0⟩ := read_wants (hval 0 22 v0 rfl rfl) h0
  subst hv0
  obtain ⟨a1, hv1, _, _, w1⟩ := open_int Try.underlying2 (hval 1 2 v1 rfl rfl) h1
  subst hv1
  refine (FnExactSplitOrder_any (w := W) A0 c0 l0 hm0 hr0 a1 w1).mono fun e W' ⟨he, bel⟩ => ?_
  subst he
  exact ⟨_, rfl, _, _, _, [], _, [], hW', trodAll_mk1 (shut_bool Try.underlying4 _), (trodAll_cons_mk (Below.trod laidOut (by kernel_rfl) (of_decide_eq_true (by kernel_rfl)) h0 bel hlt0) (trodAll_cons_mk (Below.trod laidOut (by kernel_rfl) (of_decide_eq_true (by kernel_rfl)) h1 bel hlt1) trodAll_mk0)), rfl, bel.frame _, fun h => by cases h⟩
theorem over : Rows.fnExactSplitOrderRow.holds Try.pinned (OpenSpec.ofChange Rows.fnExactSplitOrderSpec) :=
  OpenClaim.holds_of_wide 3 Try.f3 rfl rfl rfl rfl rfl rfl rfl ⟨rfl, rfl, rfl, rfl, rfl⟩ rfl rfl rfl rfl rfl (by kernel_rfl) Try.func3 (by kernel_rfl)
    (of_decide_eq_true (by kernel_rfl)) (by unfold Func.isWrapper; first | (rw [if_pos (by decide +kernel)]; kernel_rfl) | (rw [if_neg (by decide +kernel)]; exact ⟨rfl, rfl⟩))
    (fun os started H enc _ => lifted os started H enc)
theorem proved : Rows.FnExactSplitOrderSaid := over
end Go.Proofs.Ytoiinpoiggkkdaa.fnExactSplitOrder
namespace Go.Proofs.Ytoiinpoiggkkdaa
/-- The row, under a short name, for the claim. -/
theorem fnExactSplitOrder_holds : Rows.FnExactSplitOrderSaid := fnExactSplitOrder.proved
end Go.Proofs.Ytoiinpoiggkkdaa
