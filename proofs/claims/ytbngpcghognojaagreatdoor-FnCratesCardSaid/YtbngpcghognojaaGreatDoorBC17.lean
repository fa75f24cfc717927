/- Texts of the claim, joined (17 of 19): Src, Ever. -/
import Derived.Test.YtbngpcghognojaaGreatDoorBC2
import Derived.Test.YtbngpcghognojaaGreatDoorBC7
import Derived.Test.YtbngpcghognojaaGreatDoorBC10
import Derived.Test.YtbngpcghognojaaGreatDoorBC16
namespace Go.Proofs.YtbngpcghognojaaGreatDoor
open Go Go.RowKit
set_option linter.unusedVariables false
set_option linter.unusedSimpArgs false
set_option maxRecDepth 100000
set_option maxHeartbeats 4000000
attribute [local go_sem] Oper.qB
/-- Bytes as cells. -/
def u8v (l : List Int) : List Value := l.map (fun x => Value.int .u8 x)
theorem u8v_length (l : List Int) : (u8v l).length = l.length := by simp [u8v]
theorem u8v_at (l : List Int) (k : Nat) (h : k < l.length) : (u8v l)[k]? = some (.int .u8 (l.getD k 0)) := by
  simp [u8v, List.getD_eq_getElem?_getD, h]
/-- The sequence goes on. -/
def seedF (l : List Int) (s : Nat × Int) : Int := (s.2 * 6364136223846793005 + l.getD s.1 0 + 1442695040888963407) % 18446744073709551616
def nextF (l : List Int) (s : Nat × Int) : Int := if s.1 < l.length then l.getD s.1 0 else seedF l s / 1099511627776 % 256
def stepF (l : List Int) (s : Nat × Int) : Nat × Int := (s.1 + 1, seedF l s)
def pickF (l : List Int) (n : Int) (s : Nat × Int) : Int := nextF l s % n
/-- The source in memory. -/
structure Src (w : World) (g : Nat) (A : Option Addr) (c : Nat) (l : List Int) (s : Nat × Int) : Prop where
  row : rowOf w g = some #[.slice A l.length c, .int .i64 (s.1 : Int), .int .u64 s.2]
  rd : RdA w A (u8v l)
  ne : ∀ a, A = some a → u8v l ≠ [] → a.block ≠ g
  byte : ∀ x ∈ l, 0 ≤ x ∧ x ≤ 255
  len : l.length ≤ 1000000
  seed : 0 ≤ s.2 ∧ s.2 < 18446744073709551616
/-- Only block g has changed. -/
abbrev But (g : Nat) (w w' : World) : Prop := ButV (.slice (some ⟨g, 0, none⟩) 0 0) w w'
theorem byte_at {l : List Int} (h : ∀ x ∈ l, 0 ≤ x ∧ x ≤ 255) (k : Nat) : 0 ≤ l.getD k 0 ∧ l.getD k 0 ≤ 255 := by
  rw [List.getD_eq_getElem?_getD]
  by_cases hk : k < l.length
  · rw [List.getElem?_eq_getElem hk]; exact h _ (List.getElem_mem hk)
  · rw [List.getElem?_eq_none (by omega)]; exact ⟨by decide, by decide⟩
theorem nextF_range {l : List Int} (h : ∀ x ∈ l, 0 ≤ x ∧ x ≤ 255) (s : Nat × Int) : 0 ≤ nextF l s ∧ nextF l s ≤ 255 := by
  have := byte_at h s.1
  unfold nextF
  split <;> omega
theorem seedF_range (l : List Int) (s : Nat × Int) : 0 ≤ seedF l s ∧ seedF l s < 18446744073709551616 := by
  unfold seedF; omega
theorem pickF_range (l : List Int) (n : Int) (s : Nat × Int) (hn : 0 < n) : 0 ≤ pickF l n s ∧ pickF l n s < n :=
  ⟨Int.emod_nonneg _ (by omega), Int.emod_lt_of_pos _ hn⟩
section
variable {w w' : World} {g c : Nat} {A : Option Addr} {l : List Int} {s : Nat × Int}
theorem Src.lt (h : Src w g A c l s) : g < w.heap.size := rowOf_lt h.row
theorem Src.blk (h : Src w g A c l s) (a : Addr) (ha : A = some a) (h0 : u8v l ≠ []) : a.block < w.heap.size := by
  rcases h.rd with h1 | ⟨b, off, hb, hl, _⟩
  · exact absurd h1 h0
  · have q := ha.symm.trans hb
    simp only [Option.some.injEq] at q
    rw [q]; exact hl
theorem Src.below (h : Src w g A c l s) (hb : Below w.heap.size w w') : Src w' g A c l s := ⟨row_kept h.row hb, h.rd.below hb, h.ne, h.byte, h.len, h.seed⟩
theorem RdA_buts {vs : List Value} (h : RdA w A vs) (hb : But g w w') (hne : ∀ a, A = some a → vs ≠ [] → a.block ≠ g) : RdA w' A vs := by
  rcases h with h | ⟨b, off, hA, hl, hC⟩
  · exact .inl h
  · by_cases h0 : vs = []
    · exact .inl h0
    · have hbg : b ≠ g := hne _ hA h0
      exact .inr ⟨b, off, hA, Nat.lt_of_lt_of_le hl hb.1.size, fun i v hv => cell_but hb (hC i v hv) hbg⟩
/-- The source's block has been written. -/
theorem Src.moved (h : Src w g A c l s) (hb : But g w w') {s' : Nat × Int} (hr : rowOf w' g = some #[.slice A l.length c, .int .i64 (s'.1 : Int), .int .u64 s'.2]) (hs : 0 ≤ s'.2 ∧ s'.2 < 18446744073709551616) : Src w' g A c l s' :=
  ⟨hr, RdA_buts h.rd hb h.ne, h.ne, h.byte, h.len, hs⟩
theorem Src.setRow {b : Nat} (h : Src w g A c l s) (hne : g ≠ b) (cs : Array Value) (hA : ∀ a, A = some a → u8v l ≠ [] → a.block ≠ b) : Src (w.setRow b cs) g A c l s := by
  refine ⟨by rw [rowOf_setRow, if_neg hne]; exact h.row, ?_, h.ne, h.byte, h.len, h.seed⟩
  rcases h.rd with h1 | ⟨b1, off, hb, hl, hC⟩
  · exact .inl h1
  · by_cases h0 : u8v l = []
    · exact .inl h0
    · refine .inr ⟨b1, off, hb, by simpa [World.setRow] using hl, fun i v hv => ?_⟩
      have := hC i v hv
      have hbb : b1 ≠ b := hA _ hb h0
      unfold World.cell? at this ⊢
      simp only at this ⊢
      rw [setRow_other _ _ _ _ hbb]
      exact this
theorem Src.setCell {b o : Nat} {v : Value} (h : Src w g A c l s) (hne : g ≠ b) (hA : ∀ a, A = some a → u8v l ≠ [] → a.block ≠ b) : Src (w.setCell ⟨b, o, none⟩ v) g A c l s := by
  refine ⟨by rw [rowOf_setCell, if_neg hne]; exact h.row, ?_, h.ne, h.byte, h.len, h.seed⟩
  rcases h.rd with h1 | ⟨b1, off, hb, hl, hC⟩
  · exact .inl h1
  · by_cases h0 : u8v l = []
    · exact .inl h0
    · refine .inr ⟨b1, off, hb, Nat.lt_of_lt_of_le hl ((Below.refl 0 w).setCell (Nat.zero_le _) _).size, fun i v hv => ?_⟩
      rw [cell_far (hA _ hb h0)]
      exact hC i v hv
end
theorem ButV.setCell {w w' : World} {v u : Value} {b o : Nat} (h : ButV v w w') (hb : w.heap.size ≤ b) : ButV v w (w'.setCell ⟨b, o, none⟩ u) :=
  ⟨h.1.setCell (Nat.zero_le _) _, fun k hk hv => by rw [Below.heap_setCell w' _ u k (by show _ ≠ b; omega)]; exact h.2 k hk hv⟩
theorem ButV.setRow {w w' : World} {v : Value} {b : Nat} (h : ButV v w w') (hb : w.heap.size ≤ b) (cs : Array Value) : ButV v w (w'.setRow b cs) :=
  ⟨bsetRow h.1 (Nat.zero_le _) cs, fun k hk hv => by rw [setRow_other _ _ _ _ (by omega)]; exact h.2 k hk hv⟩
theorem and_255_u64 (n : Int) : bits .and .u64 n 255 = n % 256 := by
  have h1 : (BitVec.ofInt 64 255).toNat = 2 ^ 8 - 1 := by decide
  have key : (BitVec.ofInt 64 n &&& BitVec.ofInt 64 255).toNat = (n % ((2 ^ 64 : Nat) : Int)).toNat % 2 ^ 8 := by
    rw [BitVec.toNat_and, BitVec.toNat_ofInt, h1, Nat.and_two_pow_sub_one_eq_mod]
  show IntKind.u64.wrap ((BitVec.ofInt 64 n &&& BitVec.ofInt 64 255).toNat : Nat) = n % 256
  rw [key, IntKind.wrap_u64]
  omega
theorem next_any (g : Nat) (A : Option Addr) (c : Nat) (l : List Int) (s : Nat × Int) (w : World) (h : Src w g A c l s) (ha : s.1 ≤ 1000000) :
    Calls Tryz.prog 127 #[.pointer (some ⟨g, 0, none⟩)] w fun e w' => e = .returned (.int .i64 (nextF l s)) ∧ Src w' g A c l (stepF l s) ∧ But g w w' := by
  obtain ⟨at_, seed⟩ := s
  have HS := Lib.hid h
  have hb0 := byte_at h.byte at_
  have hg := rowOf_lt h.row
  have x0 : w.cell? ⟨g, 0, none⟩ = some (.slice A l.length c) := (rowOf_cell h.row 0).trans rfl
  have x1 : w.cell? ⟨g, 1, none⟩ = some (.int .i64 (at_ : Int)) := (rowOf_cell h.row 1).trans rfl
  have hlen := h.len
  have ha' : at_ ≤ 1000000 := ha
  clear ha
  by_cases hlt : at_ < l.length
  · obtain ⟨b, o, rfl, hbl, hC⟩ := h.rd.some (by rw [u8v_length]; omega)
    have hbg : b ≠ g := h.ne _ rfl (fun e => by have := u8v_length l; rw [e] at this; simp at this; omega)
    clear h
    have hlt2 : (at_ : Int) < (l.length : Int) := by omega
    go_enter Tryz.func127, Tryz.ntmps127
    have y0 := cell_regrown x0
    have y1 := cell_regrown x1
    go_upto_region 2 with fail
    have H := Below.refl w.heap.size w
    refine wp_region_qB (by kernel_rfl) (by kernel_rfl) ?_
    (repeat (first | fail | (apply qB_step; intro K hK; go_simp; first | (refine hK _ ?_; clear hK K) | (apply Exists.intro; refine ⟨fun _ => ?_, hK _ ?_⟩; (first | fail); clear hK K))))
    refine qB_nil ?_
    intro w1 hw1
    replace H := bstep H hw1
    clear hw1
    clear y0 y1 x0 x1
    generalize w1 = wA at *
    have HS1 := Lib.hid (HS.out.below H)
    have HB := Lib.hid H
    clear H
    have x0 : wA.cell? ⟨g, 0, none⟩ = some (.slice (some ⟨b, o, none⟩) l.length c) := (rowOf_cell HS1.out.row 0).trans rfl
    have x1 : wA.cell? ⟨g, 1, none⟩ = some (.int .i64 (at_ : Int)) := (rowOf_cell HS1.out.row 1).trans rfl
    have x2 : wA.cell? ⟨g, 2, none⟩ = some (.int .u64 seed) := (rowOf_cell HS1.out.row 2).trans rfl
    have f1 := rowOf_frozen HS1.out.row 1
    have f2 := rowOf_frozen HS1.out.row 2
    have z0 : wA.cell? ⟨b, o + at_, none⟩ = some (.int .u8 (l.getD at_ 0)) := (HB.out.cell hbl).trans (hC at_ _ (u8v_at l at_ hlt))
    have HX := Lib.hid (show seedF l (at_, seed) = (seed * 6364136223846793005 + l.getD at_ 0 + 1442695040888963407) % 18446744073709551616 from rfl)
    have HN := Lib.hid (show nextF l (at_, seed) = l.getD at_ 0 from if_pos hlt)
    generalize l.getD at_ 0 = x at z0 HX HN hb0
    have y0 := cell_regrown x0
    have y1 := cell_regrown x1
    have y2 := cell_regrown z0
    go_upto_region 3 with fail
    have H := Below.refl wA.heap.size wA
    have hC' := Lib.hid hC
    clear hC
    refine wp_region_qB (by kernel_rfl) (by kernel_rfl) ?_
    (repeat (first | fail | (apply qB_step; intro K hK; go_simp; first | (refine hK _ ?_; clear hK K) | (apply Exists.intro; refine ⟨fun _ => ?_, hK _ ?_⟩; (first | fail); clear hK K))))
    refine qB_nil ?_
    intro w1 hw1
    replace H := bstep H hw1
    clear hw1
    clear y0 y1 y2 x0 x1 x2 f1 f2 z0
    replace HS1 := Lib.hid (HS1.out.below H)
    replace HB := Lib.hid (bstep HB.out H)
    generalize w1 = wB at *
    clear H
    have x0 : wB.cell? ⟨g, 0, none⟩ = some (.slice (some ⟨b, o, none⟩) l.length c) := (rowOf_cell HS1.out.row 0).trans rfl
    have x1 : wB.cell? ⟨g, 1, none⟩ = some (.int .i64 (at_ : Int)) := (rowOf_cell HS1.out.row 1).trans rfl
    have x2 : wB.cell? ⟨g, 2, none⟩ = some (.int .u64 seed) := (rowOf_cell HS1.out.row 2).trans rfl
    have f1 := rowOf_frozen HS1.out.row 1
    have f2 := rowOf_frozen HS1.out.row 2
    go_wp2
    rw [show IntKind.u64.wrap (IntKind.u64.wrap (IntKind.u64.wrap (seed * 6364136223846793005) + x) + 1442695040888963407) = seedF l (at_, seed) by
      rw [HX.out, IntKind.wrap_u64, IntKind.wrap_u64, IntKind.wrap_u64]; omega]
    have hsr := seedF_range l (at_, seed)
    have HT := Lib.hid (show stepF l (at_, seed) = (at_ + 1, seedF l (at_, seed)) from rfl)
    generalize seedF l (at_, seed) = sd at *
    generalize hW : (wB.setCell ⟨g, 1, none⟩ (Value.int IntKind.i64 ((at_ : Int) + 1))).setCell ⟨g, 2, none⟩ (Value.int IntKind.u64 sd) = wC
    have hBut : But g wB wC := by
      rw [← hW]; exact ButV.set.trans ButV.set
    have hr : rowOf wC g = some #[.slice (some ⟨b, o, none⟩) l.length c, .int .i64 (((at_ + 1 : Nat) : Int)), .int .u64 sd] := by
      rw [← hW, rowOf_setCell, if_pos rfl, rowOf_setCell, if_pos rfl, HS1.out.row]; simp
    clear hW
    have HS2 := Lib.hid (HS1.out.moved hBut (s' := (at_ + 1, sd)) hr hsr)
    have HBut := Lib.hid ((ButV.of_below HB.out).trans hBut)
    clear hBut hr x0 x1 x2 f1 f2
    have x0 : wC.cell? ⟨g, 0, none⟩ = some (.slice (some ⟨b, o, none⟩) l.length c) := (rowOf_cell HS2.out.row 0).trans rfl
    have x1 : wC.cell? ⟨g, 1, none⟩ = some (.int .i64 ((at_ + 1 : Nat) : Int)) := (rowOf_cell HS2.out.row 1).trans rfl
    have y0 := cell_regrown x0
    have y1 := cell_regrown x1
    go_upto_region 6 with fail
    have H := Below.refl wC.heap.size wC
    refine wp_region_qB (by kernel_rfl) (by kernel_rfl) ?_
    (repeat (first | fail | (apply qB_step; intro K hK; go_simp; first | (refine hK _ ?_; clear hK K) | (apply Exists.intro; refine ⟨fun _ => ?_, hK _ ?_⟩; (first | fail); clear hK K))))
    refine qB_nil ?_
    intro w1 hw1
    replace H := bstep H hw1
    clear hw1
    clear y0 y1 x0 x1
    replace HS2 := Lib.hid (HS2.out.below H)
    replace HBut := Lib.hid (HBut.out.trans (ButV.of_below H))
    generalize w1 = wD at *
    clear H
    have hlt3 : ((at_ + 1 : Nat) : Int) ≤ (l.length : Int) := by omega
    go_wp2
    go_ret
    refine ⟨congrArg (fun z => Ending.returned (Value.int .i64 z)) ?_, by rw [HT.out]; exact HS2.out, HBut.out⟩
    rw [HN.out]
    first | rfl | (show IntKind.i64.wrap x = x; rw [IntKind.wrap_i64]; omega)
  · have hlt2 : ¬ (at_ : Int) < (l.length : Int) := by omega
    go_enter Tryz.func127, Tryz.ntmps127
    have y0 := cell_regrown x0
    have y1 := cell_regrown x1
    go_upto_region 2 with fail
    have H := Below.refl w.heap.size w
    refine wp_region_qB (by kernel_rfl) (by kernel_rfl) ?_
    (repeat (first | fail | (apply qB_step; intro K hK; go_simp; first | (refine hK _ ?_; clear hK K) | (apply Exists.intro; refine ⟨fun _ => ?_, hK _ ?_⟩; (first | fail); clear hK K))))
    refine qB_nil ?_
    intro w1 hw1
    replace H := bstep H hw1
    clear hw1
    clear y0 y1 x0 x1
    generalize w1 = wA at *
    have HS1 := Lib.hid (HS.out.below H)
    have HB := Lib.hid H
    clear H
    have x0 : wA.cell? ⟨g, 0, none⟩ = some (.slice A l.length c) := (rowOf_cell HS1.out.row 0).trans rfl
    have x1 : wA.cell? ⟨g, 1, none⟩ = some (.int .i64 (at_ : Int)) := (rowOf_cell HS1.out.row 1).trans rfl
    have x2 : wA.cell? ⟨g, 2, none⟩ = some (.int .u64 seed) := (rowOf_cell HS1.out.row 2).trans rfl
    have f1 := rowOf_frozen HS1.out.row 1
    have f2 := rowOf_frozen HS1.out.row 2
    have HX := Lib.hid (show seedF l (at_, seed) = (seed * 6364136223846793005 + l.getD at_ 0 + 1442695040888963407) % 18446744073709551616 from rfl)
    have HN := Lib.hid (show nextF l (at_, seed) = seedF l (at_, seed) / 1099511627776 % 256 from if_neg hlt)
    rw [show l.getD at_ 0 = 0 by rw [List.getD_eq_getElem?_getD, List.getElem?_eq_none (by omega)]; rfl] at HX
    generalize wA = wB at *
    go_wp2
    rw [show IntKind.u64.wrap (IntKind.u64.wrap (IntKind.u64.wrap (seed * 6364136223846793005)) + 1442695040888963407) = seedF l (at_, seed) by
      rw [HX.out, IntKind.wrap_u64, IntKind.wrap_u64, IntKind.wrap_u64]; omega]
    have hsr := seedF_range l (at_, seed)
    have HT := Lib.hid (show stepF l (at_, seed) = (at_ + 1, seedF l (at_, seed)) from rfl)
    generalize seedF l (at_, seed) = sd at *
    generalize hW : (wB.setCell ⟨g, 1, none⟩ (Value.int IntKind.i64 ((at_ : Int) + 1))).setCell ⟨g, 2, none⟩ (Value.int IntKind.u64 sd) = wC
    have hBut : But g wB wC := by
      rw [← hW]; exact ButV.set.trans ButV.set
    have hr : rowOf wC g = some #[.slice A l.length c, .int .i64 (((at_ + 1 : Nat) : Int)), .int .u64 sd] := by
      rw [← hW, rowOf_setCell, if_pos rfl, rowOf_setCell, if_pos rfl, HS1.out.row]; simp
    clear hW
    have HS2 := Lib.hid (HS1.out.moved hBut (s' := (at_ + 1, sd)) hr hsr)
    have HBut := Lib.hid ((ButV.of_below HB.out).trans hBut)
    clear hBut hr x0 x1 x2 f1 f2
    have x0 : wC.cell? ⟨g, 0, none⟩ = some (.slice A l.length c) := (rowOf_cell HS2.out.row 0).trans rfl
    have x1 : wC.cell? ⟨g, 1, none⟩ = some (.int .i64 ((at_ + 1 : Nat) : Int)) := (rowOf_cell HS2.out.row 1).trans rfl
    have y0 := cell_regrown x0
    have y1 := cell_regrown x1
    go_upto_region 6 with fail
    have H := Below.refl wC.heap.size wC
    refine wp_region_qB (by kernel_rfl) (by kernel_rfl) ?_
    (repeat (first | fail | (apply qB_step; intro K hK; go_simp; first | (refine hK _ ?_; clear hK K) | (apply Exists.intro; refine ⟨fun _ => ?_, hK _ ?_⟩; (first | fail); clear hK K))))
    refine qB_nil ?_
    intro w1 hw1
    replace H := bstep H hw1
    clear hw1
    clear y0 y1 x0 x1
    replace HS2 := Lib.hid (HS2.out.below H)
    replace HBut := Lib.hid (HBut.out.trans (ButV.of_below H))
    generalize w1 = wD at *
    clear H
    have hlt3 : ¬ ((at_ + 1 : Nat) : Int) ≤ (l.length : Int) := by omega
    have x2 : wD.cell? ⟨g, 2, none⟩ = some (.int .u64 sd) := (rowOf_cell HS2.out.row 2).trans rfl
    go_wp2
    go_ret
    refine ⟨congrArg (fun z => Ending.returned (Value.int .i64 z)) ?_, by rw [HT.out]; exact HS2.out, HBut.out⟩
    rw [HN.out, and_255_u64]
    unfold wrap64; omega
theorem pick_one (g : Nat) (n : Int) (w : World) (hn : n ≤ 1) : Calls Tryz.prog 79 #[.pointer (some ⟨g, 0, none⟩), .int .i64 n] w fun e w' => e = .returned (.int .i64 0) ∧ w = w' := by
  go_enter Tryz.func79, Tryz.ntmps79
  go_wp2
  go_ret
  exact ⟨rfl, rfl⟩
theorem pick_any (g : Nat) (n : Int) (A : Option Addr) (c : Nat) (l : List Int) (s : Nat × Int) (w : World) (h : Src w g A c l s) (ha : s.1 ≤ 1000000) (hn : 2 ≤ n) (hn2 : n ≤ 200) :
    Calls Tryz.prog 79 #[.pointer (some ⟨g, 0, none⟩), .int .i64 n] w fun e w' => e = .returned (.int .i64 (pickF l n s)) ∧ Src w' g A c l (stepF l s) ∧ But g w w' := by
  have hN := Lib.hid (nextF_range h.byte s)
  have HP := Lib.hid (show pickF l n s = nextF l s % n from rfl)
  have HS := Lib.hid h
  clear h
  go_enter Tryz.func79, Tryz.ntmps79
  go_wp2_with (go_at_call 127; (refine (next_any g A c l s w HS.out ha).mono ?_); rintro e w1 ⟨rfl, HS1, HB⟩; replace HS1 := Lib.hid HS1; replace HB := Lib.hid HB)
  go_ret
  refine ⟨congrArg (fun z => Ending.returned (Value.int .i64 z)) ?_, HS1.out, HB.out⟩
  rw [HP.out, Int.tmod_eq_emod_of_nonneg hN.out.1]
theorem l00From_any (A : Option Addr) (c : Nat) (l : List Int) (w : World) (hr : RdA w A (u8v l)) (hA : ∀ a, A = some a → u8v l ≠ [] → a.block < w.heap.size) (hb : ∀ x ∈ l, 0 ≤ x ∧ x ≤ 255) (hl : l.length ≤ 1000000) :
    Calls Tryz.prog 57 #[.slice A l.length c] w fun e w' => ∃ g, e = .returned (.pointer (some ⟨g, 0, none⟩)) ∧ w.heap.size ≤ g ∧ Src w' g A c l (0, 0) ∧ Below w.heap.size w w' := by
  have HR := Lib.hid hr
  have HA := Lib.hid hA
  have HB := Lib.hid hb
  clear hr hA hb
  go_enter Tryz.func57, Tryz.ntmps57
  go_wp2
  go_ret
  have hb : Below w.heap.size w (w.alloc (.cells #[.slice A l.length c, .int .i64 0, .int .u64 0] 146)) := by go_grown
  exact ⟨w.heap.size, rfl, Nat.le_refl _, ⟨by rw [rowOf_alloc, if_pos rfl]; rfl, HR.out.below hb, fun a ha h0 => by have := HA.out a ha h0; omega, HB.out, hl, by decide, by decide⟩, hb⟩
/-- What is drawn. -/
def oneF (l : List Int) (s : Nat × Int) : Bt := ⟨1 + pickF l 3 s, 1998 + pickF l 3 (stepF l s), by have := pickF_range l 3 s (by decide); omega, by have := pickF_range l 3 (stepF l s) (by decide); omega⟩
theorem oneF_ok (l : List Int) (s : Nat × Int) : (oneF l s).ok = true := by
  have h1 := pickF_range l 3 s (by decide)
  have h2 := pickF_range l 3 (stepF l s) (by decide)
  exact decide_eq_true (show 1 ≤ 1 + pickF l 3 s ∧ 1 + pickF l 3 s ≤ 20 ∧ 1900 ≤ 1998 + pickF l 3 (stepF l s) ∧ 1998 + pickF l 3 (stepF l s) ≤ 2099 by omega)
theorem row_buts {w w' : World} {g g' : Nat} {cs : Array Value} (h : rowOf w g' = some cs) (hb : But g w w') (hv : g ≠ g') : rowOf w' g' = some cs :=
  row_but h hb (by simpa [Value.ownBlock] using hv)
theorem l01One_any (gs : Nat) (A : Option Addr) (c : Nat) (l : List Int) (s : Nat × Int) (w : World) (h : Src w gs A c l s) (ha : s.1 + 1 ≤ 1000000) :
    Calls Tryz.prog 58 #[.pointer (some ⟨gs, 0, none⟩)] w fun e w' => e = .returned (bv (oneF l s)) ∧ Src w' gs A c l (stepF l (stepF l s)) ∧ But gs w w' := by
  have hlt := h.lt
  have hA := h.blk
  have HS := Lib.hid h
  clear h
  go_enter Tryz.func58, Tryz.ntmps58
  go_upto_region 1 with fail
  generalize hW : World.alloc _ _ = W
  have H0 : Below w.heap.size w W := by rw [← hW]; go_grown
  have r0 : rowOf W (w.heap.size) = some (#[.int .u8 0, .int .i16 0]) := (by (try rw [← hW]); simp only [rowOf_alloc, World.size_alloc, ↓reduceIte]; all_goals ((repeat' split) <;> first | omega | (exfalso; omega) | rfl))
  clear hW
  have l0 : w.heap.size ≤ w.heap.size := Nat.le_refl _
  generalize h0 : w.heap.size = g0 at r0 ⊢
  replace l0 : w.heap.size ≤ g0 := Nat.le_of_eq h0
  clear h0
  have b0 := rowOf_lt r0
  have H := Below.refl W.heap.size W
  replace HS := Lib.hid (HS.out.below H0)
  have hne : gs ≠ g0 := by omega
  have hlt2 := HS.out.lt
  have p1r := pickF_range l 3 s (by decide)
  have p2r := pickF_range l 3 (stepF l s) (by decide)
  have HO := Lib.hid (show bv (oneF l s) = .agg #[.int .u8 (1 + pickF l 3 s), .int .i16 (1998 + pickF l 3 (stepF l s))] from rfl)
  have HP1 : Hid (∀ W, Src W gs A c l s → Calls Tryz.prog 79 #[.pointer (some ⟨gs, 0, none⟩), .int .i64 3] W fun e w' => e = .returned (.int .i64 (pickF l 3 s)) ∧ Src w' gs A c l (stepF l s) ∧ But gs W w') := fun W h => pick_any gs 3 A c l s W h (by omega) (by decide) (by decide)
  have HP2 : Hid (∀ W, Src W gs A c l (stepF l s) → Calls Tryz.prog 79 #[.pointer (some ⟨gs, 0, none⟩), .int .i64 3] W fun e w' => e = .returned (.int .i64 (pickF l 3 (stepF l s))) ∧ Src w' gs A c l (stepF l (stepF l s)) ∧ But gs W w') := fun W h => pick_any gs 3 A c l (stepF l s) W h ha (by decide) (by decide)
  generalize pickF l 3 s = p1 at *
  generalize pickF l 3 (stepF l s) = p2 at *
  have HBut := Lib.hid (ButV.of_below (v := .slice (some ⟨gs, 0, none⟩) 0 0) H0)
  have HB0 : Hid (But gs W W) := ButV.refl
  clear H
  go_upto_region 2 with (go_at_call 79; (refine (HP1.out _ HS.out).mono ?_); rintro e w1 ⟨rfl, HS1, HB⟩; (replace HS := Lib.hid HS1); (replace HBut := Lib.hid (HBut.out.trans HB)); (replace HB0 := Lib.hid (HB0.out.trans HB)); clear HS1 HB)
  clear HP1
  have wk : IntKind.u8.wrap (1 + p1) = 1 + p1 := by rw [IntKind.wrap_u8]; omega
  have wy : IntKind.i16.wrap (1998 + p2) = 1998 + p2 := wrap_i16 (by omega)
  go_wp2_with (first | (go_at_call 79; (refine (HP2.out _ HS.out).mono ?_); rintro e w1 ⟨rfl, HS1, HB⟩; (replace HS := Lib.hid HS1); (replace HBut := Lib.hid (HBut.out.trans HB)); (replace HB0 := Lib.hid (HB0.out.trans HB)); clear HS1 HB) | (with_reducible refine wp_store_rowOf rfl rfl _ _ _ rfl _ rfl #[.int .u8 (1 + p1), .int .i16 (1998 + p2)] rfl #[.int .u8 0, .int .i16 0] (row_buts r0 HB0.out hne) rfl (infoB _ _) (bv_one _ _) ?_))
  rw [HO.out]
  have r1 := row_buts r0 HB0.out hne
  exact bodyPost_ret (results_c rfl rfl (loadVar_rowOf #[.int .u8 (1 + p1), .int .i16 (1998 + p2)] (by rw [rowOf_setRow, if_pos rfl, r1]; rfl) _ Tryz.underlying26 rfl (infoB _ _))) rfl ⟨rfl, HS.out.setRow hne _ (fun a ha h0 => by have := hA a ha h0; omega), HBut.out.setRow l0 _⟩
/-- The crate that is drawn: so many places have been gone through. -/
def drawnI (l : List Int) (full : Int) (s : Nat × Int) : Nat → List Bt × (Nat × Int)
  | 0 => (List.replicate 12 zB, s)
  | i + 1 => if pickF l 4 (drawnI l full s i).2 < full + 1 then ((drawnI l full s i).1.set i (oneF l (stepF l (drawnI l full s i).2)), stepF l (stepF l (stepF l (drawnI l full s i).2))) else ((drawnI l full s i).1, stepF l (drawnI l full s i).2)
theorem drawnI_succ (l : List Int) (full : Int) (s : Nat × Int) (i : Nat) : drawnI l full s (i + 1) = if pickF l 4 (drawnI l full s i).2 < full + 1 then ((drawnI l full s i).1.set i (oneF l (stepF l (drawnI l full s i).2)), stepF l (stepF l (stepF l (drawnI l full s i).2))) else ((drawnI l full s i).1, stepF l (drawnI l full s i).2) := rfl
theorem drawnI_len (l : List Int) (full : Int) (s : Nat × Int) : ∀ i, (drawnI l full s i).1.length = 12
  | 0 => by simp [drawnI]
  | i + 1 => by
    have := drawnI_len l full s i
    rw [drawnI]
    split <;> simp [this]
theorem drawnI_at (l : List Int) (full : Int) (s : Nat × Int) : ∀ i, (drawnI l full s i).2.1 ≤ s.1 + 3 * i
  | 0 => by simp [drawnI]
  | i + 1 => by
    have := drawnI_at l full s i
    rw [drawnI]
    split <;> simp only [stepF] <;> omega
theorem drawnI_fine (l : List Int) (full : Int) (s : Nat × Int) : ∀ i, (drawnI l full s i).1.all Bt.fine = true
  | 0 => by simp [drawnI]; decide
  | i + 1 => by
    have := drawnI_fine l full s i
    rw [drawnI]
    split
    · rw [List.all_eq_true] at this ⊢
      intro x hx
      rcases List.mem_or_eq_of_mem_set hx with h | h
      · exact this x h
      · rw [h]; simp [Bt.fine, oneF_ok]
    · exact this
def drawnF (l : List Int) (s : Nat × Int) : Cr := ⟨(drawnI l (pickF l 4 s) (stepF l s) 12).1.toArray, by simp [drawnI_len]⟩
def drawnS (l : List Int) (s : Nat × Int) : Nat × Int := (drawnI l (pickF l 4 s) (stepF l s) 12).2
theorem drawnF_ok (l : List Int) (s : Nat × Int) : (drawnF l s).ok = true := drawnI_fine l _ _ 12
theorem drawnS_at (l : List Int) (s : Nat × Int) : (drawnS l s).1 ≤ s.1 + 37 := by
  have := drawnI_at l (pickF l 4 s) (stepF l s) 12
  simp only [stepF] at this
  show _ ≤ _
  unfold drawnS
  simp only [stepF]
  omega
theorem drawnF_cc (l : List Int) (s : Nat × Int) : cc (drawnF l s) = bcs (drawnI l (pickF l 4 s) (stepF l s) 12).1 := rfl
theorem l01Drawn_any (gs : Nat) (A : Option Addr) (c : Nat) (l : List Int) (s : Nat × Int) (w : World) (h : Src w gs A c l s) (ha : s.1 + 37 ≤ 1000000) :
    Calls Tryz.prog 56 #[.pointer (some ⟨gs, 0, none⟩)] w fun e w' => e = .returned (cv (drawnF l s)) ∧ Src w' gs A c l (drawnS l s) ∧ But gs w w' := by
  have hlt := h.lt
  have hA := h.blk
  have HS := Lib.hid h
  clear h
  go_enter Tryz.func56, Tryz.ntmps56
  go_upto_region 1 with fail
  generalize hW : World.alloc _ _ = W
  have H0 : Below w.heap.size w W := by rw [← hW]; go_grown
  have r0 : rowOf W (w.heap.size) = some ((cc zC).toArray) := (by (try rw [← hW]); simp only [rowOf_alloc, World.size_alloc, ↓reduceIte]; all_goals ((repeat' split) <;> first | omega | (exfalso; omega) | rfl))
  clear hW
  have l0 : w.heap.size ≤ w.heap.size := Nat.le_refl _
  generalize h0 : w.heap.size = g0 at r0 ⊢
  replace l0 : w.heap.size ≤ g0 := Nat.le_of_eq h0
  clear h0
  have b0 := rowOf_lt r0
  have H := Below.refl W.heap.size W
  go_upto_region 2 with (with_reducible refine wp_store_zero0 rfl rfl _ _ rfl _ rfl rfl zC (by rw [rowOf_alloc, if_pos rfl, cc_zero]) ?_)
  generalize hW1 : World.setRow _ _ _ = W1
  obtain ⟨HB, r1, b1⟩ := laid_row H hW1
  clear hW1
  have qr01 := Nat.lt_of_lt_of_le (rowOf_lt r0) H.size
  replace r0 := row_kept r0 HB
  replace H0 := bstep H0 HB
  replace H := below_self HB
  generalize W.heap.size = g1 at *
  replace HS := Lib.hid (HS.out.below H0)
  have HBut := Lib.hid (ButV.of_below (v := .slice (some ⟨gs, 0, none⟩) 0 0) H0)
  have n0 : gs ≠ g0 := by omega
  have n1 : gs ≠ g1 := by omega
  have l1 : w.heap.size ≤ g1 := by omega
  have hA1 : ∀ a, A = some a → u8v l ≠ [] → a.block ≠ g1 := fun a h1 h2 => by have := hA a h1 h2; omega
  have hA0 : ∀ a, A = some a → u8v l ≠ [] → a.block ≠ g0 := fun a h1 h2 => by have := hA a h1 h2; omega
  clear H HB H0
  have HC := Lib.hid (drawnF_cc l s)
  have HSS := Lib.hid (show drawnS l s = (drawnI l (pickF l 4 s) (stepF l s) 12).2 from rfl)
  have hfr := pickF_range l 4 s (by decide)
  have HP1 : Hid (∀ W, Src W gs A c l s → Calls Tryz.prog 79 #[.pointer (some ⟨gs, 0, none⟩), .int .i64 4] W fun e w' => e = .returned (.int .i64 (pickF l 4 s)) ∧ Src w' gs A c l (stepF l s) ∧ But gs W w') := fun W h => pick_any gs 4 A c l s W h (by omega) (by decide) (by decide)
  have HAt := Lib.hid (fun i => drawnI_at l (pickF l 4 s) (stepF l s) i)
  have hs1 : (stepF l s).1 = s.1 + 1 := rfl
  generalize pickF l 4 s = full at *
  generalize stepF l s = s1 at *
  go_upto_region 3 with (go_at_call 79; (refine (HP1.out _ HS.out).mono ?_); rintro e w1 ⟨rfl, HS1, HB⟩; (replace HS := Lib.hid HS1); (replace HBut := Lib.hid (HBut.out.trans HB)); (replace r0 := row_buts r0 HB n0); (replace r1 := row_buts r1 HB n1); clear HS1 HB)
  clear HP1
  replace r1 : rowOf w1 g1 = some (bcs (drawnI l full s1 0).1).toArray := r1
  have R0 := Lib.hid r0
  have R1 := Lib.hid r1
  clear r0 r1
  go_wp2
  go_loopw [5] (fun i wr => ∃ k : Nat, k ≤ 12 ∧ i = .int .i64 k ∧ Hid (Src wr gs A c l (drawnI l full s1 k).2) ∧ Hid (But gs w wr) ∧ Hid (rowOf wr g0 = some (cc zC).toArray) ∧ Hid (rowOf wr g1 = some (bcs (drawnI l full s1 k).1).toArray)) (fun i _ => 12 - (intOf i).toNat)
  case atStart => exact ⟨0, Nat.zero_le _, rfl, HS, HBut, R0, R1⟩
  case round =>
    clear HS HBut R0 R1
    obtain ⟨k, hk, rfl, HS, HBut, R0, R1⟩ := hrel
    by_cases hlt : k < 12
    · have HL := Lib.hid (drawnI_len l full s1 k)
      have HK := Lib.hid (drawnI_succ l full s1 k)
      have hat := HAt.out k
      have HL' := Lib.hid (drawnI_len l full s1 (k + 1))
      have HP : Hid (∀ W, Src W gs A c l (drawnI l full s1 k).2 → Calls Tryz.prog 79 #[.pointer (some ⟨gs, 0, none⟩), .int .i64 4] W fun e w' => e = .returned (.int .i64 (pickF l 4 (drawnI l full s1 k).2)) ∧ Src w' gs A c l (stepF l (drawnI l full s1 k).2) ∧ But gs W w') := fun W h => pick_any gs 4 A c l _ W h (by omega) (by decide) (by decide)
      have HO : Hid (∀ W, Src W gs A c l (stepF l (drawnI l full s1 k).2) → Calls Tryz.prog 58 #[.pointer (some ⟨gs, 0, none⟩)] W fun e w' => e = .returned (bv (oneF l (stepF l (drawnI l full s1 k).2))) ∧ Src w' gs A c l (stepF l (stepF l (stepF l (drawnI l full s1 k).2))) ∧ But gs W w') := fun W h => l01One_any gs A c l _ W h (by show (drawnI l full s1 k).2.1 + 1 + 1 ≤ _; omega)
      have hpr := pickF_range l 4 (drawnI l full s1 k).2 (by decide)
      generalize pickF l 4 (drawnI l full s1 k).2 = p at *
      generalize oneF l (stepF l (drawnI l full s1 k).2) = b at *
      generalize stepF l (stepF l (stepF l (drawnI l full s1 k).2)) = t3 at *
      generalize stepF l (drawnI l full s1 k).2 = t1 at *
      generalize (drawnI l full s1 k).2 = t0 at *
      generalize (drawnI l full s1 k).1 = lst at *
      by_cases hq : p < full + 1
      · replace HK := Lib.hid (HK.out.trans (if_pos hq))
        go_upto_region 7 with (go_at_call 79; (refine (HP.out _ HS.out).mono ?_); rintro e w1 ⟨rfl, HS1, HB⟩; (replace HS := Lib.hid HS1); (replace HBut := Lib.hid (HBut.out.trans HB)); (replace R0 := Lib.hid (row_buts R0.out HB n0)); (replace R1 := Lib.hid (row_buts R1.out HB n1)); clear HS1 HB)
        clear HP
        go_wp2_with (go_at_call 58; (refine (HO.out _ HS.out).mono ?_); rintro e w2 ⟨rfl, HS1, HB⟩; (replace HS := Lib.hid HS1); (replace HBut := Lib.hid (HBut.out.trans HB)); (replace R0 := Lib.hid (row_buts R0.out HB n0)); (replace R1 := Lib.hid (row_buts R1.out HB n1)); (have y0 := row0 R1.out (i := k) (by rw [HL.out]; exact hlt)); (have y1 := row1 R1.out (i := k) (by rw [HL.out]; exact hlt)); (have f0 := rowOf_frozen R1.out (k * 2)); (have f1 := rowOf_frozen R1.out (k * 2 + 1)); clear HS1 HB)
        go_roundw
        case rel =>
          refine ⟨k + 1, by omega, by go_num, ?_, ?_, ?_, ?_⟩
          · rw [HK.out]; exact (HS.out.setCell n1 hA1).setCell n1 hA1
          · exact (HBut.out.setCell l1).setCell l1
          · rw [Hid, row_far (by omega), row_far (by omega)]; exact R0.out
          · rw [HK.out]; exact row_put b R1.out (by rw [HL.out]; exact hlt)
        case measure => simp [intOf]; omega
      · replace HK := Lib.hid (HK.out.trans (if_neg hq))
        go_wp2_with (go_at_call 79; (refine (HP.out _ HS.out).mono ?_); rintro e w1 ⟨rfl, HS1, HB⟩; (replace HS := Lib.hid HS1); (replace HBut := Lib.hid (HBut.out.trans HB)); (replace R0 := Lib.hid (row_buts R0.out HB n0)); (replace R1 := Lib.hid (row_buts R1.out HB n1)); clear HS1 HB)
        go_roundw
        case rel =>
          refine ⟨k + 1, by omega, by go_num, ?_, HBut, R0, ?_⟩
          · rw [HK.out]; exact HS
          · rw [HK.out]; exact R1
        case measure => simp [intOf]; omega
    · obtain rfl : k = 12 := by omega
      have R1c : rowOf wr g1 = some (cc (drawnF l s)).toArray := by rw [HC.out]; exact R1.out
      go_wp2_with (first | (with_reducible refine wp_load_rowOf rfl _ _ rfl _ rfl _ R1c _ Tryz.underlying28 rfl (infoC _) ?_) | (with_reducible refine wp_store_rowOf rfl rfl _ _ _ rfl _ rfl (cc (drawnF l s)).toArray rfl (cc zC).toArray R0.out (cc_size2 _ _) (infoC _) (cc_one _) ?_))
      exact bodyPost_ret (results_c rfl rfl (loadVar_rowOf (cc (drawnF l s)).toArray (by rw [rowOf_setRow, if_pos rfl, R0.out]; rfl) _ Tryz.underlying28 rfl (infoC _))) rfl ⟨rfl, by rw [HSS.out]; exact HS.out.setRow n0 _ hA0, HBut.out.setRow l0 _⟩
end Go.Proofs.YtbngpcghognojaaGreatDoor
namespace Go.Proofs.YtbngpcghognojaaGreatDoor
open Go Go.Sort Go.RowKit
set_option linter.unusedVariables false
set_option linter.unusedSimpArgs false
set_option maxRecDepth 100000
set_option maxHeartbeats 1000000
/-- Known throughout, and known now. -/
def CE (Φ γ : Fact) (w : World) : Prop := Φ.p w ∧ γ.p w
theorem CE.step {Φ γ : Fact} {w w' : World} (h : CE Φ γ w) (hb : BelowOf w w') : CE Φ γ w' := ⟨Φ.s _ _ h.1 hb, γ.s _ _ h.2 hb⟩
section
variable {P : Program} {ops : Array Oper} {md : Region.Mode} {Φ γ : Fact} {Q : Act → World → Prop} {k : Nat} {d : Array Bool} {a : Act}
theorem e_start {id : Nat} {Q : Exit → Act → World → Prop} {a : Act} {w : World} (Φ γ : Fact) (hΦ : Φ.p w.drew) (hγ : γ.p w.drew) (n : Nat) (hn : ops.size = n) (hm : P.follows .mixedOrders = true)
    (h : AnyG (CE Φ) P .any ops (Q .normal) n γ (Array.replicate n false) a) : (Code.region id ops true).wp P Q a w := by
  subst hn
  exact wp_region_any hm (AnyG.any _ _ _ _ h _ ⟨hΦ, hγ⟩)
theorem e_done (hB : (Region.ready md ops d).isEmpty = true) (h : ∀ w, Φ.p w → γ.p w → Q a w) : AnyG (CE Φ) P md ops Q 0 γ d a :=
  ⟨by simpa using hB, fun w hw => h w hw.1 hw.2⟩
theorem e_yields {o : Oper} {v : Value} (hw : Region.wanted o (yielded ops a.tmps) = true) (h : ∀ p : {w : World // Φ.p w}, o.quietAt P a (fun w'' => BelowOf p.1 w'') p.1 v) : YieldsG (CE Φ) P ops o v a := by
  refine .inl ⟨hw, fun γ w hL => ?_⟩
  have hq := h ⟨w, hL.1⟩
  unfold Oper.quietAt at hq ⊢
  generalize (execOp a.eval o).run P _ = r at hq ⊢
  cases r with
  | halt x w => exact hq
  | ok n w =>
    cases n <;> try exact hq
    case enter f args => exact ⟨hq.1, Calls.mono hq.2 fun e w'' ⟨he, hb⟩ => ⟨he, hL.step hb⟩⟩
/-- An operation that reads what is known throughout, or calls, is ready and free: it may as well come now. -/
theorem e_quiet (i : Nat) {o : Oper} (hB : (Region.noSelect ops && ((Region.ready md ops d).contains i && Region.free md ops d i)) = true) (ho : ops[i]? = some o)
    (h : ∀ K : Act → Prop, (∀ a, AnyG (CE Φ) P md ops Q k γ (d.setIfInBounds i true) a → K a) → if Region.wanted o (yielded ops a.tmps) then Oper.qK P o a Φ K else K (a.put o.dst undef)) : AnyG (CE Φ) P md ops Q (k + 1) γ d a := by
  simp only [Bool.and_eq_true] at hB
  have hf := h _ fun _ h => h
  have hr : i ∈ Region.ready md ops d := by simpa using hB.2.1
  split at hf
  · rename_i hw
    obtain ⟨v, h1, h2⟩ := hf
    exact AnyG.first ho (Region.noSelect_spec hB.1) k γ d a (Region.free_spec ho hB.2.2) hr (e_yields hw h1) h2
  · rename_i hw
    exact AnyG.first ho (Region.noSelect_spec hB.1) k γ d a (Region.free_spec ho hB.2.2) hr (.inr ⟨by simpa using hw, rfl⟩) hf
/-- A step of whatever kind, alone ready: what is known now may change. -/
theorem e_alone (i : Nat) {o : Oper} (hB : (Region.ready md ops d == [i]) = true) (ho : ops[i]? = some o) (hg : o.guard = Option.none)
    (h : ∀ K : Act → Fact → Prop, (∀ a γ', AnyG (CE Φ) P md ops Q k γ' (d.setIfInBounds i true) a → K a γ') → ∀ w, Φ.p w → γ.p w → gUpon (CE Φ) P (fun v γ' => K (a.put o.dst v) γ') ((execOp a.eval o).run P w)) : AnyG (CE Φ) P md ops Q (k + 1) γ d a := by
  refine AnyG.one (by simpa using hB) ho ?_
  unfold gOp
  rw [if_pos (by unfold Region.wanted; rw [hg])]
  exact fun w hL => h _ (fun _ _ h => h) w hL.1 hL.2
theorem e_val {r : Result Next} {u : Value} {w' : World} {K : Value → Fact → Prop} (γ' : Fact) (h : r = .ok (.value u) w') (hΦ : Φ.p w') (hγ : γ'.p w') (hk : K u γ') : gUpon (CE Φ) P K r := by
  rw [h]
  exact ⟨γ', ⟨hΦ, hγ⟩, hk⟩
theorem e_skip {r : Result Next} {w' : World} {K : Value → Fact → Prop} (γ' : Fact) (h : r = .ok .skip w') (hΦ : Φ.p w') (hγ : γ'.p w') (hk : K undef γ') : gUpon (CE Φ) P K r := by
  rw [h]
  exact ⟨γ', ⟨hΦ, hγ⟩, hk⟩
end
section
variable {P : Program} {o : Oper} {a : Act} {w w' : World}
/-- append, run. -/
theorem app_exec (s x : Operand) (t : TypeId) (ho : o.op = .call { callee := .builtin .append, args := #[s, x], argTypes := #[t, t] }) (v u : Value) (hs : a.eval s = v) (hx : a.eval x = u) (v1 : Value)
    (hrun : (Builtin.append_ #[t, t] o.type #[v, u]).run P w = .ok v1 w') : (execOp a.eval o).run P w = .ok (.value v1) w' := by
  unfold execOp
  simp only [ho, resolve, invoke, builtin, Sem.run_bind, Sem.run_pure, Result.andThen_ok, List.map_toArray, List.map_cons, List.map_nil, hs, hx, hrun]
end
end Go.Proofs.YtbngpcghognojaaGreatDoor
