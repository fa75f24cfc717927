/- Contracts of SwapPlaces: a swap of two places. -/
import Derived.Test.YthjfaggbkmchkaaPut
import Derived.Test.YthjfaggbkmchkaaKinds
import Derived.Test.YthjfaggbkmchkaaFunc
import Derived.Test.YthjfaggbkmchkaaDrawn
namespace Go.Proofs.Ythjfaggbkmchkaa
open Go.RowKit
set_option linter.unusedVariables false
set_option linter.unusedSimpArgs false
set_option maxRecDepth 100000
set_option maxHeartbeats 1000000
attribute [local go_sem] Oper.qB
def isP (n : Int) : Bool := decide (0 ≤ n) && decide (n ≤ 11)
def Sw.ok (s : Sw) : Bool := isP s.f && isP s.t
/-- A crate with what is in two places exchanged. -/
def swapC (c : Cr) (i j : Nat) : Cr := setC (setC c i (rB c.toList j)) j (rB c.toList i)
def swC (c : Cr) (s : Sw) : Cr := swapC c s.f.toNat s.t.toNat
def swapR (c : Cr) (s : Sw) : Cr × Int := if c.ok = false then (zC, 1) else if s.ok = false then (zC, 2) else (swC c s, 0)
section
variable {P : Program} {ops : Array Oper} {rest : List Oper} {o : Oper} {a : Act} {w : World} {Q : Exit → Act → World → Prop}
theorem run_store_place (w : World) (g i : Nat) (ty : TypeId) (b : Bt) (l : List Bt) (hr : rowOf w g = some (bcs l).toArray) (hl : i < l.length) (hi : (P.info? ty).map (·.size) = some (#[Value.int .u8 b.k, Value.int .i16 b.y] : Array Value).size) :
    (storeVar ty ⟨g, i * 2, none⟩ (.agg #[.int .u8 b.k, .int .i16 b.y])).run P w = .ok () (w.setRow g (bcs (l.set i b)).toArray) := by
  have hz : i * 2 + (#[Value.int .u8 b.k, Value.int .i16 b.y] : Array Value).size ≤ (bcs l).toArray.size := by
    show i * 2 + 2 ≤ _
    rw [List.size_toArray, bcs_length]
    omega
  have hs := run_storeVar_row (P := P) w g (i * 2) ty _ hi _ hr hz (bv_one _ _)
  have e : ((bcs l).toArray.toList.take (i * 2) ++ (#[Value.int .u8 b.k, Value.int .i16 b.y] : Array Value).toList ++ (bcs l).toArray.toList.drop (i * 2 + (#[Value.int .u8 b.k, Value.int .i16 b.y] : Array Value).size)) = bcs (l.set i b) := by
    show (bcs l).take (i * 2) ++ [Value.int .u8 b.k, Value.int .i16 b.y] ++ (bcs l).drop (i * 2 + 2) = _
    rw [List.set_eq_take_append_cons_drop, if_pos hl, bcs_append, bcs_take, show i * 2 + 2 = (i + 1) * 2 by omega, ← bcs_drop]
    simp [bcs]
  rw [e] at hs
  exact hs
/-- A bottle stored into a place of a crate. -/
theorem wp_store_place (hgd : o.guard = none) (hdst : o.dst = none) (ty : TypeId) (x y : Operand) (ho : o.op = .store ty x y) (g i : Nat) (hx : a.eval x = .pointer (some ⟨g, i * 2, none⟩)) (b : Bt) (hy : a.eval y = .agg #[.int .u8 b.k, .int .i16 b.y])
    (l : List Bt) (hr : rowOf w g = some (bcs l).toArray) (hl : i < l.length) (hi : (P.info? ty).map (·.size) = some (#[Value.int .u8 b.k, Value.int .i16 b.y] : Array Value).size)
    (h : wpList P ops Q rest a (w.setRow g (bcs (l.set i b)).toArray)) : wpList P ops Q (o :: rest) a w :=
  wpList_plain hgd fun K hK => by
    have hs := run_store_place (P := P) w g i ty b l hr hl hi
    unfold Oper.wp execOp
    simp only [ho, hx, hy, Instr.storeAt, Instr.sureAddr, Sem.run_bind, Sem.run_pure, Result.andThen_ok, hs]
    show K (a.put o.dst undef) _
    rw [hdst]
    exact hK _ _ h
end
theorem wp_store_place0 {P : Program} {ops : Array Oper} {rest : List Oper} {o : Oper} {a : Act} {w : World} {Q : Exit → Act → World → Prop} (hgd : o.guard = none) (hdst : o.dst = none) (ty : TypeId) (x y : Operand) (ho : o.op = .store ty x y) (g i : Nat) (hx : a.eval x = .pointer (some ⟨g, i * 2, none⟩)) (hy : a.eval y = .agg #[.int .u8 0, .int .i16 0])
    (l : List Bt) (hr : rowOf w g = some (bcs l).toArray) (hl : i < l.length) (hi : (P.info? ty).map (·.size) = some (#[Value.int .u8 0, Value.int .i16 0] : Array Value).size)
    (h : wpList P ops Q rest a (w.setRow g (bcs (l.set i zB)).toArray)) : wpList P ops Q (o :: rest) a w :=
  wp_store_place hgd hdst ty x y ho g i hx zB hy l hr hl hi h
theorem Goes.place {P : Program} {o : Oper} {a : Act} {w : World} {k : Act → Prop} (hdst : o.dst = none) (ty : TypeId) (x y : Operand) (ho : o.op = .store ty x y) (g i : Nat) (hx : a.eval x = .pointer (some ⟨g, i * 2, none⟩)) (b : Bt) (hy : a.eval y = .agg #[.int .u8 b.k, .int .i16 b.y])
    (l : List Bt) (hr : rowOf w g = some (bcs l).toArray) (hl : i < l.length) (hi : (P.info? ty).map (·.size) = some (#[Value.int .u8 b.k, Value.int .i16 b.y] : Array Value).size) (h : k a) : Goes P o a w (w.setRow g (bcs (l.set i b)).toArray) k := by
  have hs := run_store_place (P := P) w g i ty b l hr hl hi
  unfold Goes execOp
  simp only [ho, hx, hy, Instr.storeAt, Instr.sureAddr, Sem.run_bind, Sem.run_pure, Result.andThen_ok, hs]
  rw [hdst]
  exact ⟨trivial, h⟩
theorem Goes.place0 {P : Program} {o : Oper} {a : Act} {w : World} {k : Act → Prop} (hdst : o.dst = none) (ty : TypeId) (x y : Operand) (ho : o.op = .store ty x y) (g i : Nat) (hx : a.eval x = .pointer (some ⟨g, i * 2, none⟩)) (hy : a.eval y = .agg #[.int .u8 0, .int .i16 0])
    (l : List Bt) (hr : rowOf w g = some (bcs l).toArray) (hl : i < l.length) (hi : (P.info? ty).map (·.size) = some (#[Value.int .u8 0, Value.int .i16 0] : Array Value).size) (h : k a) : Goes P o a w (w.setRow g (bcs (l.set i zB)).toArray) k :=
  Goes.place hdst ty x y ho g i hx zB hy l hr hl hi h
theorem row_swap {w : World} {g : Nat} {l : List Bt} {i j : Nat} {x y : Bt} (h : rowOf w g = some (bcs l).toArray) : rowOf ((w.setRow g (bcs (l.set i x)).toArray).setRow g (bcs ((l.set i x).set j y)).toArray) g = some (bcs ((l.set i x).set j y)).toArray := by
  rw [rowOf_setRow, if_pos rfl, rowOf_setRow, if_pos rfl, h]
  rfl
theorem infoS (f t : Int) : (Try.prog.info? 92).map (·.size) = some (#[Value.int .i8 f, Value.int .i8 t] : Array Value).size := by kernel_rfl
theorem infoLS (f t : Int) : (Try.prog.info? 94).map (·.size) = some (#[Value.int .i8 f, Value.int .i8 t] : Array Value).size := by kernel_rfl
theorem isSwap_any (s : Sw) (w : World) : Calls Try.prog 109 #[sv s] w fun e w' => e = .returned (.bool s.ok) ∧ Below w.heap.size w w' := by
  obtain ⟨f, t, ⟨h1, h2⟩, h3, h4⟩ := s
  go_enter Try.func109, Try.ntmps109
  go_wp2_with (go_at_call 129; with_reducible refine (isPlace_any _ _).mono ?_; rintro e w' ⟨rfl, rfl⟩)
  all_goals
    go_ret
    refine ⟨ret_bool ?_, (Below.refl _ _).alloc (Nat.le_refl _) _⟩
    rw [Bool.eq_iff_iff]
    simp [Sw.ok, isP]
    try omega
theorem l03Can_any (s : Sw) (w : World) : Calls Try.prog 105 #[sv s] w fun e w' => e = .returned (.bool s.ok) ∧ Below w.heap.size w w' := by
  obtain ⟨f, t, ⟨h1, h2⟩, h3, h4⟩ := s
  go_enter Try.func105, Try.ntmps105
  go_wp2_with (go_at_call 127; with_reducible refine (l01Place_any _ _).mono ?_; rintro e w' ⟨rfl, rfl⟩)
  all_goals
    go_ret
    refine ⟨ret_bool ?_, (Below.refl _ _).alloc (Nat.le_refl _) _⟩
    rw [Bool.eq_iff_iff]
    simp [Sw.ok, isP]
    try omega
theorem ok_places {s : Sw} (h : s.ok = true) : ∃ i j : Nat, s.f = i ∧ s.t = j ∧ i < 12 ∧ j < 12 := by
  simp [Sw.ok, isP] at h
  exact ⟨s.f.toNat, s.t.toNat, by omega, by omega, by omega, by omega⟩
theorem swapped_any (c : Cr) (s : Sw) (hs : s.ok = true) (w : World) : Calls Try.prog 78 #[cv c, sv s] w fun e w' => e = .returned (cv (swC c s)) ∧ Below w.heap.size w w' := by
  obtain ⟨i, j, h1, h2, hi, hj⟩ := ok_places hs
  have HS : Hid (swC c s = swapC c i j) := by rw [Hid, swC, h1, h2]; rfl
  obtain ⟨f, t, hf, ht⟩ := s
  replace h1 : f = i := h1
  replace h2 : t = j := h2
  subst h1 h2
  clear hs
  go_enter Try.func78, Try.ntmps78
  go_upto_region 1 with fail
  generalize hW : World.alloc _ _ = W
  have H0 : Below w.heap.size w W := by rw [← hW]; go_grown
  have r0 : rowOf W (w.heap.size) = some ((cc c).toArray) := (by (try rw [← hW]); simp only [rowOf_alloc, World.size_alloc, ↓reduceIte]; all_goals ((repeat' split) <;> first | omega | (exfalso; omega) | rfl))
  have r1 : rowOf W (w.heap.size + 1) = some (#[.int .i8 i, .int .i8 j]) := (by (try rw [← hW]); simp only [rowOf_alloc, World.size_alloc, ↓reduceIte]; all_goals ((repeat' split) <;> first | omega | (exfalso; omega) | rfl))
  have r2 : rowOf W (w.heap.size + 1 + 1) = some ((cc zC).toArray) := (by (try rw [← hW]); simp only [rowOf_alloc, World.size_alloc, ↓reduceIte]; all_goals ((repeat' split) <;> first | omega | (exfalso; omega) | rfl))
  clear hW
  have q0 : w.heap.size < w.heap.size + 1 := by omega
  have q1 : w.heap.size + 1 < w.heap.size + 1 + 1 := by omega
  have l0 : w.heap.size ≤ w.heap.size := Nat.le_refl _
  generalize w.heap.size + 1 + 1 = g2 at r2 q1 ⊢
  generalize w.heap.size + 1 = g1 at r1 q0 q1 ⊢
  generalize h0 : w.heap.size = g0 at r0 q0 ⊢
  replace l0 : w.heap.size ≤ g0 := Nat.le_of_eq h0
  clear h0
  have b0 := rowOf_lt r0
  have b1 := rowOf_lt r1
  have b2 := rowOf_lt r2
  have H := Below.refl W.heap.size W
  have p0 : W.cell? ⟨g1, 0, none⟩ = some (.int .i8 i) := rowOf_cell r1 0
  have p1 : W.cell? ⟨g1, 1, none⟩ = some (.int .i8 j) := rowOf_cell r1 1
  have HI := Lib.hid (show i < c.toList.length by rw [Vector.length_toList]; exact hi)
  have HJ := Lib.hid (show j < c.toList.length by rw [Vector.length_toList]; exact hj)
  have x0 := row0 r0 HI.out
  have x1 := row1 r0 HI.out
  have y0 := row0 r0 HJ.out
  have y1 := row1 r0 HJ.out
  have hi2 : (i : Int) < 12 := by omega
  have hj2 : (j : Int) < 12 := by omega
  have hi3 : (i : Int) ≤ 11 := by omega
  have hj3 : (j : Int) ≤ 11 := by omega
  have HX : Hid (swapC c i j = setC (setC c i (rB c.toList j)) j (rB c.toList i)) := rfl
  generalize rB c.toList i = x at x0 x1 HX
  generalize rB c.toList j = y at y0 y1 HX
  have HB : Below w.heap.size w (World.drew W) := bdrewN H0 1
  have R0 : rowOf (World.drew W) g0 = some (cc c).toArray := r0
  have R2 : rowOf (World.drew W) g2 = some (cc zC).toArray := r2
  generalize hW0 : World.drew W = W0 at HB R0 R2
  have a0 : W0.cell? ⟨g1, 0, none⟩ = some (.int .i8 i) := by rw [← hW0]; exact p0
  have a1 : W0.cell? ⟨g1, 1, none⟩ = some (.int .i8 j) := by rw [← hW0]; exact p1
  replace x0 : W0.cell? ⟨g0, i * 2, none⟩ = some (.int .u8 x.k) := by rw [← hW0]; exact x0
  replace x1 : W0.cell? ⟨g0, i * 2 + 1, none⟩ = some (.int .i16 x.y) := by rw [← hW0]; exact x1
  replace y0 : W0.cell? ⟨g0, j * 2, none⟩ = some (.int .u8 y.k) := by rw [← hW0]; exact y0
  replace y1 : W0.cell? ⟨g0, j * 2 + 1, none⟩ = some (.int .i16 y.y) := by rw [← hW0]; exact y1
  obtain ⟨W1, hW1⟩ : ∃ x', x' = W0.setRow g0 (bcs (c.toList.set i y)).toArray := ⟨_, rfl⟩
  obtain ⟨W2, hW2⟩ : ∃ x', x' = W1.setRow g0 (bcs ((c.toList.set i y).set j x)).toArray := ⟨_, rfl⟩
  have b0 : W1.cell? ⟨g1, 0, none⟩ = some (.int .i8 i) := by rw [hW1, cell_setRow_ne (by omega)]; exact a0
  have b1 : W1.cell? ⟨g1, 1, none⟩ = some (.int .i8 j) := by rw [hW1, cell_setRow_ne (by omega)]; exact a1
  have c0 : W2.cell? ⟨g1, 0, none⟩ = some (.int .i8 i) := by rw [hW2, cell_setRow_ne (by omega)]; exact b0
  have c1 : W2.cell? ⟨g1, 1, none⟩ = some (.int .i8 j) := by rw [hW2, cell_setRow_ne (by omega)]; exact b1
  have S1 : rowOf W1 g0 = some (bcs (c.toList.set i y)).toArray := by rw [hW1, rowOf_setRow, if_pos rfl, R0]; rfl
  have S2 : rowOf W2 g0 = some (cc (swapC c i j)).toArray := by rw [hW2, rowOf_setRow, if_pos rfl, S1, HX.out]; rfl
  have T2 : rowOf W2 g2 = some (cc zC).toArray := by rw [hW2, rowOf_setRow_ne (by omega), hW1, rowOf_setRow_ne (by omega)]; exact R2
  have HB2 : Below w.heap.size w W2 := by rw [hW2, hW1]; exact bsetRow (bsetRow HB (by omega) _) (by omega) _
  have HJ2 : j < (c.toList.set i y).length := by rw [List.length_set]; exact HJ.out
  replace hW0 := Lib.hid hW0
  replace hW1 := Lib.hid hW1
  replace hW2 := Lib.hid hW2
  refine d_start 16 [W0, W1, W2] (by rw [hW0.out]; rfl) rfl (by kernel_rfl) ?_
  (refine d_quiet 0 (by kernel_rfl) rfl (fun K hK => ?_); go_simp; refine hK _ ?_; clear hK K)
  (refine d_quiet 1 (by kernel_rfl) rfl (fun K hK => ?_); go_simp; refine hK _ ?_; clear hK K)
  (refine d_quiet 2 (by kernel_rfl) rfl (fun K hK => ?_); go_simp; refine hK _ ?_; clear hK K)
  (refine d_quiet 3 (by kernel_rfl) rfl (fun K hK => ?_); go_simp; refine hK _ ?_; clear hK K)
  (refine d_quiet 4 (by kernel_rfl) rfl (fun K hK => ?_); go_simp; refine hK _ ?_; clear hK K)
  (refine d_quiet 5 (by kernel_rfl) rfl (fun K hK => ?_); go_simp; refine hK _ ?_; clear hK K)
  (refine d_quiet 6 (by kernel_rfl) rfl (fun K hK => ?_); go_simp; refine hK _ ?_; clear hK K)
  (refine d_quiet 8 (by kernel_rfl) rfl (fun K hK => ?_); go_simp; refine hK _ ?_; clear hK K)
  (refine d_quiet 9 (by kernel_rfl) rfl (fun K hK => ?_); go_simp; refine hK _ ?_; clear hK K)
  (refine d_quiet 10 (by kernel_rfl) rfl (fun K hK => ?_); go_simp; refine hK _ ?_; clear hK K)
  refine d_pair 7 11 W0 (bv y) (bv x) rfl (by kernel_rfl) rfl rfl rfl rfl (by simp) ?_ ?_ ?_ ?_ ?_
  iterate 4 (intro k hk; unfold Goes; go_simp; exact hk)
  (refine d_quiet 12 (by kernel_rfl) rfl (fun K hK => ?_); go_simp; refine hK _ ?_; clear hK K)
  refine d_step 13 1 W0 W1 rfl rfl (by kernel_rfl) rfl rfl (fun K hK => Goes.to hW1.out (Goes.place rfl _ _ _ rfl _ _ rfl _ rfl _ R0 HI.out (infoB _ _) (hK _ ?_)))
  (refine d_quiet 14 (by kernel_rfl) rfl (fun K hK => ?_); go_simp; refine hK _ ?_; clear hK K)
  refine d_step 15 2 W1 W2 rfl rfl (by kernel_rfl) rfl rfl (fun K hK => Goes.to hW2.out (Goes.place rfl _ _ _ rfl _ _ rfl _ rfl _ S1 HJ2 (infoB _ _) (hK _ ?_)))
  refine d_done (w := W2) rfl (by kernel_rfl) ?_
  clear a0 a1 b0 b1 c0 c1 x0 x1 y0 y1 p0 p1 r0 r1 r2 H0 H HB R0 R2 S1
  have H0 := HB2
  have H := Below.refl W2.heap.size W2
  go_wp2_with (first | ((with_reducible refine wp_load_rowBg H ?_ _ _ rfl _ rfl _ S2 _ Try.underlying39 rfl (infoC (swapC c i j)) ?_); rfl) | (with_reducible refine wp_store_rowB H rfl rfl _ _ _ rfl _ rfl _ rfl _ T2 (cc_size2 _ _) (infoC _) (cc_one _) ?_))
  rw [HS.out]
  exact bodyPost_ret (results_c rfl rfl (loadVar_rowOf (cc (swapC c i j)).toArray (by rw [rowOf_setRow, if_pos rfl, T2]; rfl) _ Try.underlying39 rfl (infoC _))) rfl ⟨rfl, bsetRow H0 (by omega) _⟩
theorem l03Swapped_any (c : Cr) (s : Sw) (hs : s.ok = true) (w : World) : Calls Try.prog 106 #[cv c, sv s] w fun e w' => e = .returned (cv (swC c s)) ∧ Below w.heap.size w w' := by
  obtain ⟨i, j, h1, h2, hi, hj⟩ := ok_places hs
  have HS : Hid (swC c s = swapC c i j) := by rw [Hid, swC, h1, h2]; rfl
  obtain ⟨f, t, hf, ht⟩ := s
  replace h1 : f = i := h1
  replace h2 : t = j := h2
  subst h1 h2
  clear hs
  go_enter Try.func106, Try.ntmps106
  go_upto_region 1 with fail
  generalize hW : World.alloc _ _ = W
  have H0 : Below w.heap.size w W := by rw [← hW]; go_grown
  have r0 : rowOf W (w.heap.size) = some ((cc c).toArray) := (by (try rw [← hW]); simp only [rowOf_alloc, World.size_alloc, ↓reduceIte]; all_goals ((repeat' split) <;> first | omega | (exfalso; omega) | rfl))
  have r1 : rowOf W (w.heap.size + 1) = some (#[.int .i8 i, .int .i8 j]) := (by (try rw [← hW]); simp only [rowOf_alloc, World.size_alloc, ↓reduceIte]; all_goals ((repeat' split) <;> first | omega | (exfalso; omega) | rfl))
  have r2 : rowOf W (w.heap.size + 1 + 1) = some ((cc zC).toArray) := (by (try rw [← hW]); simp only [rowOf_alloc, World.size_alloc, ↓reduceIte]; all_goals ((repeat' split) <;> first | omega | (exfalso; omega) | rfl))
  clear hW
  have q0 : w.heap.size < w.heap.size + 1 := by omega
  have q1 : w.heap.size + 1 < w.heap.size + 1 + 1 := by omega
  have l0 : w.heap.size ≤ w.heap.size := Nat.le_refl _
  generalize w.heap.size + 1 + 1 = g2 at r2 q1 ⊢
  generalize w.heap.size + 1 = g1 at r1 q0 q1 ⊢
  generalize h0 : w.heap.size = g0 at r0 q0 ⊢
  replace l0 : w.heap.size ≤ g0 := Nat.le_of_eq h0
  clear h0
  have b0 := rowOf_lt r0
  have b1 := rowOf_lt r1
  have b2 := rowOf_lt r2
  have H := Below.refl W.heap.size W
  have p0 : W.cell? ⟨g1, 0, none⟩ = some (.int .i8 i) := rowOf_cell r1 0
  have p1 : W.cell? ⟨g1, 1, none⟩ = some (.int .i8 j) := rowOf_cell r1 1
  have HI := Lib.hid (show i < c.toList.length by rw [Vector.length_toList]; exact hi)
  have HJ := Lib.hid (show j < c.toList.length by rw [Vector.length_toList]; exact hj)
  have x0 := row0 r0 HI.out
  have x1 := row1 r0 HI.out
  have hi2 : (i : Int) < 12 := by omega
  have hj2 : (j : Int) < 12 := by omega
  have hi3 : (i : Int) ≤ 11 := by omega
  have hj3 : (j : Int) ≤ 11 := by omega
  have HX : Hid (swapC c i j = setC (setC c i (rB c.toList j)) j (rB c.toList i)) := rfl
  generalize rB c.toList i = x at x0 x1 HX
  go_upto_region 2 with ((with_reducible refine wp_store_rowOf rfl rfl _ _ _ rfl _ rfl (#[.int .u8 x.k, .int .i16 x.y] : Array Value) rfl #[.int .u8 0, .int .i16 0] ?hr rfl (infoB _ _) (bv_one _ _) ?_); (case hr => rw [rowOf_alloc, if_pos rfl]))
  clear p0 p1 x0 x1
  generalize hW3 : World.setRow _ _ _ = W3
  obtain ⟨HB, r3, b3⟩ := laid_row H hW3
  clear hW3
  have qr03 := Nat.lt_of_lt_of_le (rowOf_lt r0) H.size
  replace r0 := row_kept r0 HB
  have qr13 := Nat.lt_of_lt_of_le (rowOf_lt r1) H.size
  replace r1 := row_kept r1 HB
  have qr23 := Nat.lt_of_lt_of_le (rowOf_lt r2) H.size
  replace r2 := row_kept r2 HB
  replace H0 := bstep H0 HB
  replace H := below_self HB
  generalize W.heap.size = g3 at *
  have p0 : W3.cell? ⟨g1, 0, none⟩ = some (.int .i8 i) := rowOf_cell r1 0
  have p1 : W3.cell? ⟨g1, 1, none⟩ = some (.int .i8 j) := rowOf_cell r1 1
  have y0 := row0 r0 HJ.out
  have y1 := row1 r0 HJ.out
  generalize rB c.toList j = y at y0 y1 HX
  refine wp_region_still_tail 7 (by kernel_rfl) (by kernel_rfl) ?_
  replace H := H.drew
  simp only [List.take_succ_cons, List.take_zero, List.drop_succ_cons, List.drop_zero]
  repeat (first | fail | still_step)
  refine wpStill_nil ?_
  change wpList _ _ _ _ _ (World.drew _)
  generalize World.drew _ = w1 at H ⊢
  (with_reducible refine wp_store_place rfl rfl _ _ _ rfl _ _ rfl _ rfl (c.toList) (by exact row_kept r0 H) HI.out (infoB _ _) ?_)
  go_upto_region 3 with fail
  have S0 : rowOf (w1.setRow g0 (bcs (c.toList.set i y)).toArray) g0 = some (bcs (c.toList.set i y)).toArray := by rw [rowOf_setRow, if_pos rfl, row_kept r0 H]; rfl
  have S1 : rowOf (w1.setRow g0 (bcs (c.toList.set i y)).toArray) g1 = _ := (rowOf_setRow_ne (by omega)).trans (row_kept r1 H)
  have S2 : rowOf (w1.setRow g0 (bcs (c.toList.set i y)).toArray) g2 = _ := (rowOf_setRow_ne (by omega)).trans (row_kept r2 H)
  have S3 : rowOf (w1.setRow g0 (bcs (c.toList.set i y)).toArray) g3 = _ := (rowOf_setRow_ne (by omega)).trans (row_kept r3 H)
  have H1 : Below w.heap.size w (w1.setRow g0 (bcs (c.toList.set i y)).toArray) := bsetRow (bstep H0 H) (by omega) _
  clear H H0 r0 r1 r2 r3 p0 p1 y0 y1
  generalize w1.setRow g0 (bcs (c.toList.set i y)).toArray = W4 at *
  have p0 : W4.cell? ⟨g1, 0, none⟩ = some (.int .i8 i) := rowOf_cell S1 0
  have p1 : W4.cell? ⟨g1, 1, none⟩ = some (.int .i8 j) := rowOf_cell S1 1
  have HJ2 : Hid (j < (c.toList.set i y).length) := by rw [Hid, List.length_set]; exact HJ.out
  have z0 := row0 S0 HJ2.out
  have z1 := row1 S0 HJ2.out
  have f0 := rowOf_frozen S0 (j * 2)
  have f1 := rowOf_frozen S0 (j * 2 + 1)
  generalize rB (c.toList.set i y) j = b' at z0 z1
  have H := Below.refl W4.heap.size W4
  go_upto_region 4 with (first | ((with_reducible refine wp_load_rowBg H ?_ _ _ rfl _ rfl _ S3 _ Try.underlying37 rfl (infoB _ _) ?_); rfl))
  have T0 : rowOf ((W4.setCell ⟨g0, j * 2, none⟩ (.int .u8 x.k)).setCell ⟨g0, j * 2 + 1, none⟩ (.int .i16 x.y)) g0 = some (cc (swapC c i j)).toArray := by rw [HX.out]; exact row_put x S0 HJ2.out
  have T2 : rowOf ((W4.setCell ⟨g0, j * 2, none⟩ (.int .u8 x.k)).setCell ⟨g0, j * 2 + 1, none⟩ (.int .i16 x.y)) g2 = some (cc zC).toArray := by rw [row_far (by omega), row_far (by omega)]; exact S2
  have H0 : Below w.heap.size w ((W4.setCell ⟨g0, j * 2, none⟩ (.int .u8 x.k)).setCell ⟨g0, j * 2 + 1, none⟩ (.int .i16 x.y)) := (H1.setCell (by show _ ≤ g0; omega) _).setCell (by show _ ≤ g0; omega) _
  clear H H1 S0 S1 S2 S3 p0 p1 z0 z1 f0 f1
  generalize (W4.setCell ⟨g0, j * 2, none⟩ (.int .u8 x.k)).setCell ⟨g0, j * 2 + 1, none⟩ (.int .i16 x.y) = W5 at *
  have H := Below.refl W5.heap.size W5
  go_wp2_with (first | ((with_reducible refine wp_load_rowBg H ?_ _ _ rfl _ rfl _ T0 _ Try.underlying39 rfl (infoC (swapC c i j)) ?_); rfl) | (with_reducible refine wp_store_rowB H rfl rfl _ _ _ rfl _ rfl _ rfl _ T2 (cc_size2 _ _) (infoC _) (cc_one _) ?_))
  rw [HS.out]
  exact bodyPost_ret (results_c rfl rfl (loadVar_rowOf (cc (swapC c i j)).toArray (by rw [rowOf_setRow, if_pos rfl, T2]; rfl) _ Try.underlying39 rfl (infoC _))) rfl ⟨rfl, bsetRow H0 (by omega) _⟩
theorem toSwap_any (s : Sw) (w : World) : Calls Try.prog 69 #[sv s] w fun e w' => e = .returned (sv s) ∧ Below w.heap.size w w' := by
  go_enter Try.func69, Try.ntmps69
  go_wp2
  refine bodyPost_ret (v := sv s) (by simp [results, Try.results69, go_sem]) rfl ⟨rfl, ?_⟩
  exact (((Below.refl _ _).alloc (Nat.le_refl _) _).alloc (by simp) _).alloc (by simp; omega) _
theorem eqSwap_refl (s : Sw) (w : World) : Calls Try.prog 74 #[sv s, sv s] w fun e w' => e = .returned (.bool true) ∧ Below w.heap.size w w' := by
  obtain ⟨f, t, hf, ht⟩ := s
  go_enter Try.func74, Try.ntmps74
  go_wp2
  go_ret
  exact ⟨rfl, ((Below.refl _ _).alloc (Nat.le_refl _) _).alloc (by simp) _⟩
end Go.Proofs.Ythjfaggbkmchkaa
