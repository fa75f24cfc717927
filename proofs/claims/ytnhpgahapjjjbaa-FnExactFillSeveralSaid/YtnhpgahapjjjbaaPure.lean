/- Contracts of SortCrate: the bottles of a crate in order. -/
import Derived.Test.YtnhpgahapjjjbaaIns
import Derived.Test.YtnhpgahapjjjbaaKnow
namespace Go.Proofs.Ytnhpgahapjjjbaa
open Go Go.RowKit
set_option linter.unusedVariables false
set_option linter.unusedSimpArgs false
set_option maxRecDepth 100000
set_option maxHeartbeats 1000000
attribute [local go_sem] Oper.qB Oper.qK
section
variable {P : Program} {φ : Fact} {a : Act}
theorem gUpon_row {o : Oper} {wx : World} {K : Value → Fact → Prop} (ty : TypeId) (x : Operand) (ho : o.op = .load ty x) (g : Nat) (hx : a.eval x = .pointer (some ⟨g, 0, none⟩)) (cs : Array Value) (hr : rowOf wx g = some cs)
    (d : TypeDesc) (hu : P.underlying ty = some d) (hd : TypeDesc.isRow d = true) (hi : (P.info? ty).map (·.size) = some cs.size) (hφ : φ.p wx) (hk : K (.agg cs) φ) : gUpon Fact.p P K ((execOp a.eval o).run P wx) := by
  refine gUpon_val φ (w' := wx) ?_ hφ hk
  have hl := loadVar_rowOf (P := P) cs hr d hu hd hi
  unfold execOp
  simp only [ho, hx, Instr.loadAt, Instr.sureAddr, Sem.run_bind, Sem.run_pure, Result.andThen_ok, hl]
end
theorem OwnN.cases {α : Type} {f : α → List Value} {k : Nat} (hk : 0 < k) (hf : ∀ x, (f x).length = k) {w : World} {B e : Nat} {v : Value} {l : List α} (h : OwnN f w B e k v l) : (v = .slice none 0 0 ∧ l = []) ∨ ∃ g cap, v = .slice (some ⟨g, 0, none⟩) l.length cap := by
  rcases h.2 with ⟨h1, h2⟩ | ⟨g, cap, cur, hv, _⟩
  · refine .inl ⟨h1, ?_⟩
    exact List.eq_nil_of_length_eq_zero h2
  · exact .inr ⟨g, cap, hv⟩
theorem SortFunc_own (B : Nat) (v : Value) (l : List Bt) (w : World) (h : OwnN bc w B 26 2 v l) (hn : l.length ≤ 1000000) :
    Calls Try.prog 140 #[v, .func (.func 138) #[] #[]] w fun e w' => e = .returned (.tuple #[]) ∧ OwnN bc w' B 26 2 v (sortB l) ∧ Below B w w' := by
  rcases h.cases (by decide) bc_length with ⟨rfl, rfl⟩ | ⟨g, cap, rfl⟩
  · refine (AnyF.slices_SortFunc_none { Try.lx140 with } none 0 _ w).mono ?_
    rintro e w' ⟨he, rfl⟩
    exact ⟨he, by rw [show sortB [] = [] by simp [sortB]]; exact h, Below.refl _ _⟩
  · exact SortFunc_bot B g cap l w h hn
theorem sorted_any (c : Cr) (w : World) : Calls Try.prog 103 #[cv c] w fun e w' => ∃ v, e = .returned v ∧ OwnN bc w' w.heap.size 26 2 v (sortB (allB c)) ∧ Below w.heap.size w w' := by
  have hall := allB_le c
  go_enter Try.func103, Try.ntmps103
  go_upto_region 1 with fail
  generalize hW : World.alloc _ _ = W
  have H0 : Below w.heap.size w W := by rw [← hW]; go_grown
  have r0 : rowOf W (w.heap.size) = some ((cc c).toArray) := (by (try rw [← hW]); simp only [rowOf_alloc, World.size_alloc, ↓reduceIte]; all_goals ((repeat' split) <;> first | omega | (exfalso; omega) | rfl))
  clear hW
  have l0 : w.heap.size ≤ w.heap.size := Nat.le_refl _
  generalize h0 : w.heap.size = g0 at r0 ⊢
  replace l0 : w.heap.size ≤ g0 := Nat.le_of_eq h0
  clear h0
  have b0 := rowOf_lt r0
  have H := Below.refl W.heap.size W
  go_upto_region 2 with (first | ((with_reducible refine wp_load_rowBg H ?_ _ _ rfl _ rfl _ r0 _ Try.underlying28 rfl (infoC c) ?_); rfl) | (go_at_call 69; refine (bottles_any c _).mono ?_; rintro e w2 ⟨v, rfl, hown, hb⟩; have HO : OwnN bc w2 w.heap.size 26 2 v (allB c) := own_down hown (bstep H0 H).size; replace H0 := (bstep H0 H).trans (hb.mono (bstep H0 H).size)))
  clear hown hb H
  go_wp2_with (go_at_call 140; refine (SortFunc_own _ v (allB c) _ HO (by omega)).mono ?_; rintro e w3 ⟨rfl, HO3, hb3⟩)
  go_ret
  exact ⟨v, rfl, HO3, H0.trans hb3⟩
/-- A crate with these bottles, from the first place on. -/
def padC (l : List Bt) (h : l.length ≤ 12) : Cr := ⟨(l ++ List.replicate (12 - l.length) zB).toArray, by simp; omega⟩
def packC1 (l : List Bt) : Cr := if h : l.length ≤ 12 then padC l h else zC
theorem packC1_toList {l : List Bt} (h : l.length ≤ 12) : (packC1 l).toList = l ++ List.replicate (12 - l.length) zB := by
  unfold packC1
  rw [dif_pos h]
  rfl
def sortedR (c : Cr) : Cr × Int := if c.ok = true then (packC1 (sortB (allB c)), 0) else (zC, 1)
theorem sortedR_pad {c : Cr} : (sortB (allB c)).length ≤ 12 := by rw [sortB_length]; exact allB_le c
section
variable {P : Program} {ops : Array Oper} {rest : List Oper} {o : Oper} {a : Act} {w : World} {Q : Exit → Act → World → Prop}
/-- Nothing copied. -/
theorem run_copy_zero (w : World) (dT sT ty elem : TypeId) (dp sp : Option Addr) (dLen dCap sCap k : Nat) (hu : P.underlying dT = some (.slice elem)) (hs : (P.info? elem).map (·.size) = some k) :
    (Builtin.copy_ #[dT, sT] ty #[.slice dp dLen dCap, .slice sp 0 sCap]).run P w = .ok (goInt 0) w := by
  cases hq : P.info? elem with
  | none => simp [hq] at hs
  | some i => cases sp <;> cases dp <;> simp [Builtin.copy_, run_underlying hu, Builtin.lenOf, Builtin.firstCells, sizeOf, typeInfo, hq, storeCells, loadCells, loadCellsFrom]
end
theorem pack_cells {l : List Bt} (h : l.length ≤ 12) : cc (packC1 l) = fl bc l ++ (cc zC).drop (l.length * 2) := by
  have e : cc zC = bcs (List.replicate 12 zB) := rfl
  unfold cc at e ⊢
  rw [packC1_toList h, bcs_append, fl_bc, e, ← bcs_drop, List.drop_replicate]
/-- Bottles copied into an empty crate. -/
theorem copy_bots (w : World) (ty : TypeId) (g B : Nat) (v : Value) (l : List Bt) (hl : l.length ≤ 12) (hO : OwnN bc w B 26 2 v l) (hr : rowOf w g = some (cc zC).toArray) :
    ∃ w', (Builtin.copy_ #[54, 54] ty #[.slice (some ⟨g, 0, none⟩) 12 12, v]).run Try.prog w = .ok (goInt l.length) w' ∧ rowOf w' g = some (cc (packC1 l)).toArray ∧ (∀ g', g' ≠ g → rowOf w' g' = rowOf w g') ∧ (∀ b, b ≤ g → Below b w w') := by
  have hs : (Try.prog.info? 26).map (·.size) = some 2 := by kernel_rfl
  rcases hO.cases (by decide) bc_length with ⟨rfl, rfl⟩ | ⟨g1, cap, rfl⟩
  · exact ⟨w, run_copy_zero w _ _ ty 26 _ none 12 12 0 2 Try.underlying54 hs, hr, fun _ _ => rfl, fun _ _ => Below.refl _ _⟩
  · obtain ⟨t, ht⟩ := rowOf_some hr
    have hln : (fl bc l).length = l.length * 2 := fl_length bc_length l
    have hfit : 0 + (fl bc l).length ≤ (cc zC).toArray.size := by rw [hln, cc_size]; omega
    have hrun := run_copy_el (P := Try.prog) w 54 54 ty 26 g 0 12 12 ⟨g1, 0, none⟩ l.length cap (cc zC).toArray t (fl bc l) 2 l.length Try.underlying54 hs ht
      (Nat.min_eq_left hl).symm hln (fun j v hv => by rw [addr_at]; have := hO.lies.c j v hv; rwa [Nat.zero_add] at this) hfit (fl_ones bc_one l)
    have e : ((cc zC).toArray.toList.take 0 ++ fl bc l ++ (cc zC).toArray.toList.drop (0 + (fl bc l).length)).toArray = (cc (packC1 l)).toArray := by
      rw [pack_cells hl, hln, Nat.zero_add]
      rfl
    rw [e] at hrun
    refine ⟨_, hrun, ?_, fun g' h => rowOf_setRow_ne h, fun b hb => bsetRow (Below.refl _ _) hb _⟩
    rw [rowOf_setRow, if_pos rfl, hr]
    rfl
section
variable {ops : Array Oper} {rest : List Oper} {o : Oper} {a : Act} {w : World} {Q : Exit → Act → World → Prop}
theorem wp_store_zero0 (hgd : o.guard = none) (hdst : o.dst = none) (x y : Operand) (ho : o.op = .store 28 x y) (g : Nat) (hx : a.eval x = .pointer (some ⟨g, 0, none⟩))
    (hy : a.eval y = .agg #[.int .u8 0, .int .i16 0, .int .u8 0, .int .i16 0, .int .u8 0, .int .i16 0, .int .u8 0, .int .i16 0, .int .u8 0, .int .i16 0, .int .u8 0, .int .i16 0, .int .u8 0, .int .i16 0, .int .u8 0, .int .i16 0, .int .u8 0, .int .i16 0, .int .u8 0, .int .i16 0, .int .u8 0, .int .i16 0, .int .u8 0, .int .i16 0])
    (c : Cr) (hr : rowOf w g = some (cc c).toArray) (h : wpList Try.prog ops Q rest a (w.setRow g (cc zC).toArray)) : wpList Try.prog ops Q (o :: rest) a w :=
  wp_store_rowOf hgd hdst 28 x y ho g hx (cc zC).toArray hy (cc c).toArray hr (cc_size2 _ _) (infoC zC) zC_one h
end
theorem SortCrate_any (c : Cr) (w : World) : Calls Try.prog 54 #[cv c] w fun e w' => e = .returned (.tuple #[cv (sortedR c).1, .int .i64 (sortedR c).2]) ∧ Below w.heap.size w w' := by
  go_enter Try.func54, Try.ntmps54
  go_upto_region 1 with fail
  generalize hW : World.alloc _ _ = W
  have H0 : Below w.heap.size w W := by rw [← hW]; go_grown
  have r0 : rowOf W (w.heap.size) = some ((cc c).toArray) := (by (try rw [← hW]); simp only [rowOf_alloc, World.size_alloc, ↓reduceIte]; all_goals ((repeat' split) <;> first | omega | (exfalso; omega) | rfl))
  have r1 : rowOf W (w.heap.size + 1) = some ((cc zC).toArray) := (by (try rw [← hW]); simp only [rowOf_alloc, World.size_alloc, ↓reduceIte]; all_goals ((repeat' split) <;> first | omega | (exfalso; omega) | rfl))
  clear hW
  have q0 : w.heap.size < w.heap.size + 1 := by omega
  have l0 : w.heap.size ≤ w.heap.size := Nat.le_refl _
  generalize w.heap.size + 1 = g1 at r1 q0 ⊢
  generalize h0 : w.heap.size = g0 at r0 q0 ⊢
  replace l0 : w.heap.size ≤ g0 := Nat.le_of_eq h0
  clear h0
  have b0 := rowOf_lt r0
  have b1 := rowOf_lt r1
  have H := Below.refl W.heap.size W
  go_upto_region 2 with (with_reducible refine wp_store_zero0 rfl rfl _ _ rfl _ rfl rfl zC (by rw [rowOf_alloc, if_pos rfl, cc_zero]) ?_)
  generalize hW2 : World.setRow _ _ _ = W2
  obtain ⟨HB, r2, b2⟩ := laid_row H hW2
  clear hW2
  have qr02 := Nat.lt_of_lt_of_le (rowOf_lt r0) H.size
  replace r0 := row_kept r0 HB
  have qr12 := Nat.lt_of_lt_of_le (rowOf_lt r1) H.size
  replace r1 := row_kept r1 HB
  replace H0 := bstep H0 HB
  replace H := below_self HB
  generalize W.heap.size = g2 at *
  cases e1 : c.ok with
  | false =>
    have HF := Lib.hid (show sortedR c = (zC, 1) by simp [sortedR, e1])
    go_wp2_with (first | ((with_reducible refine wp_load_rowBg H ?_ _ _ rfl _ rfl _ r0 _ Try.underlying28 rfl (infoC c) ?_); rfl) | ((with_reducible refine wp_load_rowBg H ?_ _ _ rfl _ rfl _ r2 _ Try.underlying28 rfl (infoC zC) ?_); rfl) | (with_reducible refine wp_store_rowB H rfl rfl _ _ _ rfl _ rfl _ rfl _ r1 (cc_size2 _ _) (infoC _) (cc_one _) ?_) | (go_at_call 68; with_reducible refine (ValidCrate_any c _).mono ?_; rintro e w' ⟨rfl, hb⟩; replace H := bstep H hb; clear hb; have hc := bcell H))
    rw [HF.out]
    refine bodyPost_ret (results_ct rfl rfl (loadVar_rowOf (cc zC).toArray (by rw [rowOf_setRow, if_pos rfl, rowOf_below H (rowOf_lt r1), r1]; rfl) _ Try.underlying28 rfl (infoC _))) rfl ⟨rfl, bsetRow (bstep H0 H) (by omega) _⟩
  | true =>
    have HF := Lib.hid (show sortedR c = (packC1 (sortB (allB c)), 0) by simp [sortedR, e1])
    have hp := Lib.hid (@sortedR_pad c)
    have hS := fun W => sorted_any c W
    generalize sortB (allB c) = l at HF hp hS
    go_upto_region 4 with (first | ((with_reducible refine wp_load_rowBg H ?_ _ _ rfl _ rfl _ r0 _ Try.underlying28 rfl (infoC c) ?_); rfl) | (go_at_call 68; with_reducible refine (ValidCrate_any c _).mono ?_; rintro e w' ⟨rfl, hb⟩; replace H := bstep H hb; clear hb; have hc := bcell H))
    clear hc e1
    replace r0 := row_kept r0 H
    replace r1 := row_kept r1 H
    replace r2 := row_kept r2 H
    replace H0 := bstep H0 H
    replace H := below_self H
    have q2 := rowOf_lt r2
    have hq0 := (Below.refl w'.heap.size w').drew
    refine k_start (fun j => decide (1 ≤ j)) ⟨fun w => Below w'.heap.size w' w, fun w w' h hb => bstep h hb⟩ hq0 4 rfl (by kernel_rfl) ?_
    haveI : Nonempty {w : World // Fact.p ⟨fun w => Below w'.heap.size w' w, fun w w' h hb => bstep h hb⟩ w} := ⟨⟨_, hq0⟩⟩
    refine k_pure 0 (v := .slice (some ⟨g2, 0, none⟩) 12 12) (by kernel_rfl) rfl rfl (fun W => by simp [go_sem, Try.underlying28]) ?_
    refine k_alone 1 (by kernel_rfl) rfl rfl (fun K hK wx hwx => gUpon_row _ _ rfl _ rfl _ (row_kept r0 hwx) _ Try.underlying28 rfl (infoC c) hwx (hK _ _ ?_))
    refine k_alone 2 (by kernel_rfl) rfl rfl (fun K hK wx hwx => ?_)
    go_simp
    refine (hS wx).mono (fun e w'' h => ?_)
    obtain ⟨v, he, O, hb⟩ := h
    refine ⟨v, ⟨fun w2 => Below w'.heap.size w' w2 ∧ OwnN bc w2 w'.heap.size 26 2 v l, fun w2 w3 h hb => ⟨bstep h.1 hb, h.2.below hb⟩⟩, he, ⟨bstep hwx hb, O.down hwx.size⟩, hK _ _ ?_⟩
    clear hK K hwx hb O he
    refine k_alone 3 (by kernel_rfl) rfl rfl (fun K hK wx hwx => ?_)
    obtain ⟨w3, hrun, s2, hoth, hB⟩ := copy_bots wx 3 g2 _ v l hp.out hwx.2 (row_kept r2 hwx.1)
    refine gUpon_val ⟨fun w2 => Below w.heap.size w w2 ∧ rowOf w2 g2 = some (cc (packC1 l)).toArray ∧ rowOf w2 g1 = some (cc zC).toArray, fun w2 w3 h hb => ⟨bstep h.1 hb, row_kept h.2.1 hb, row_kept h.2.2 hb⟩⟩ (u := goInt l.length) (w' := w3) ?_ ⟨(bstep H0 hwx.1).trans (hB _ (by omega)), s2, (hoth g1 (by omega)).trans (row_kept r1 hwx.1)⟩ (hK _ _ ?_)
    · simp only [execOp, resolve, invoke, builtin]
      simp [go_sem, hrun, Result.andThen]
    clear hK K hwx hrun s2 hoth hB
    refine k_done (by kernel_rfl) ?_
    rintro w4 ⟨H4, s2, s1⟩
    have H := Below.refl w4.heap.size w4
    clear r0 r1 r2 H0
    replace H0 := H4
    go_wp2_with (first | ((with_reducible refine wp_load_rowBg H ?_ _ _ rfl _ rfl _ s2 _ Try.underlying28 rfl (infoC (packC1 l)) ?_); rfl) | (with_reducible refine wp_store_rowB H rfl rfl _ _ _ rfl _ rfl _ rfl _ s1 (cc_size2 _ _) (infoC _) (cc_one _) ?_))
    rw [HF.out]
    refine bodyPost_ret (results_ct rfl rfl (loadVar_rowOf (cc (packC1 l)).toArray (by rw [rowOf_setRow, if_pos rfl, rowOf_below H (rowOf_lt s1), s1]; rfl) _ Try.underlying28 rfl (infoC _))) rfl ⟨rfl, bsetRow (bstep H0 H) (by omega) _⟩
theorem l01AllS_any (g o : Nat) (c : Cr) (w : World) (hC : CAt w g o (cc c)) (hg : g < w.heap.size) :
    Calls Try.prog 65 #[.pointer (some ⟨g, o, none⟩)] w fun e w' => ∃ v, e = .returned v ∧ OwnS bc w' w.heap.size 26 2 v (allB c) ∧ Below w.heap.size w w' := by
  have HC := Lib.hid (⟨hC, hg⟩ : _ ∧ _)
  have HL := Lib.hid (Vector.length_toList (xs := c))
  clear hC hg
  go_enter Try.func65, Try.ntmps65
  go_wp2
  go_loopw [3, 4] (fun v i wr => ∃ k : Nat, k ≤ 12 ∧ i = .int .i64 k ∧ Hid (OwnS bc wr w.heap.size 26 2 v (allK c k)) ∧ Below w.heap.size w wr) (fun _ i _ => 12 - (intOf i).toNat)
  case atStart =>
    refine ⟨0, by omega, rfl, ?_, by go_grown⟩
    exact OwnS.lit (Nat.le_refl _)
  case round =>
    obtain ⟨k, hk, rfl, HO, hb⟩ := hrel
    by_cases hlt : k < 12
    · have hkl : k < c.toList.length := by rw [HL.out]; exact hlt
      have HB := Lib.hid hb
      have HX := Lib.hid (⟨HC.out.1.below hb HC.out.2, Nat.lt_of_lt_of_le HC.out.2 hb.size⟩ : CAt wr g o (cc c) ∧ g < wr.heap.size)
      have HK := Lib.hid hkl
      have x0 : wr.cell? ⟨g, o + k * 2, none⟩ = some (.int .u8 (rB c.toList k).k) := HX.out.1.bot0 hkl
      have x1 : wr.cell? ⟨g, o + k * 2 + 1, none⟩ = some (.int .i16 (rB c.toList k).y) := HX.out.1.bot1 hkl
      have HY := Lib.hid (@allK_yes c k hlt)
      have HN := Lib.hid (@allK_no c k hlt)
      have HP := Lib.hid (allK_le c k)
      clear hkl hb
      generalize hbe : rB c.toList k = b at x0 x1 HY HN
      replace hbe := Lib.hid hbe
      cases e1 : b.em with
      | true =>
        have HN' := Lib.hid (HN.out e1)
        clear HN HY
        go_wp2_with (go_at_call 112; refine (l01Free_any b _).mono ?_; rintro e w' ⟨rfl, hb1⟩)
        go_roundw
        case rel => exact ⟨k + 1, by omega, by go_num, by rw [HN'.out]; exact HO.out.kept hb1, bstep HB.out hb1⟩
        case measure => simp [intOf]; omega
      | false =>
        have HY' := Lib.hid (HY.out e1)
        clear HN HY
        go_wp2_with (first | (go_at_call 112; refine (l01Free_any b _).mono ?_; rintro e w' ⟨rfl, hb1⟩; replace x0 : w'.cell? ⟨g, o + k * 2, none⟩ = some (.int .u8 b.k) := (hb1.cell HX.out.2).trans x0; replace x1 : w'.cell? ⟨g, o + k * 2 + 1, none⟩ = some (.int .i16 b.y) := (hb1.cell HX.out.2).trans x1) | (at_builtin; go_loud (refine wp_app_bot w.heap.size rfl _ _ rfl _ (allK c k) b rfl _ rfl ?hg ?HO ?hB ?hn ?_); (case hg => simp); (case HO => exact (HO.out.kept hb1).1); (case hB => have := HB.out.size; have := hb1.size; omega); (case hn => have := HP.out; omega); intro v1 w1 hown hb2))
        go_roundw
        case rel => exact ⟨k + 1, by omega, by go_num, by rw [HY'.out]; exact OwnS.grown hown, (bstep HB.out hb1).trans hb2⟩
        case measure => simp [intOf]; omega
    · obtain rfl : k = 12 := by omega
      rw [allK_full] at HO
      go_wp2
      go_ret
      exact ⟨_, rfl, HO.out, hb⟩
theorem pad_sorted {l : List Bt} (h : l.length ≤ 12) : pad l l.length = (packC1 l).toList := by
  rw [packC1_toList h, pad, List.take_length]
theorem sSortCrate_any (c : Cr) (w : World) : Calls Try.prog 53 #[cv c] w fun e w' => e = .returned (.tuple #[cv (sortedR c).1, .int .i64 (sortedR c).2]) ∧ Below w.heap.size w w' := by
  go_enter Try.func53, Try.ntmps53
  go_upto_region 1 with fail
  generalize hW : World.alloc _ _ = W
  have H0 : Below w.heap.size w W := by rw [← hW]; go_grown
  have r0 : rowOf W (w.heap.size) = some ((cc c).toArray) := (by (try rw [← hW]); simp only [rowOf_alloc, World.size_alloc, ↓reduceIte]; all_goals ((repeat' split) <;> first | omega | (exfalso; omega) | rfl))
  have r1 : rowOf W (w.heap.size + 1) = some ((cc zC).toArray) := (by (try rw [← hW]); simp only [rowOf_alloc, World.size_alloc, ↓reduceIte]; all_goals ((repeat' split) <;> first | omega | (exfalso; omega) | rfl))
  clear hW
  have q0 : w.heap.size < w.heap.size + 1 := by omega
  have l0 : w.heap.size ≤ w.heap.size := Nat.le_refl _
  generalize w.heap.size + 1 = g1 at r1 q0 ⊢
  generalize h0 : w.heap.size = g0 at r0 q0 ⊢
  replace l0 : w.heap.size ≤ g0 := Nat.le_of_eq h0
  clear h0
  have b0 := rowOf_lt r0
  have b1 := rowOf_lt r1
  have H := Below.refl W.heap.size W
  cases e1 : c.ok with
  | false =>
    have HF := Lib.hid (show sortedR c = (zC, 1) by simp [sortedR, e1])
    go_wp2_with (first | (go_at_call 64; with_reducible refine (l01Ok_row H r0).mono ?_; rintro e w' ⟨rfl, hb⟩; replace H := bstep H hb; clear hb; have hc := bcell H) | (with_reducible refine wp_store_zeroB H rfl rfl _ _ rfl _ rfl rfl _ r1 ?_))
    rw [HF.out]
    refine bodyPost_ret (results_ct rfl rfl (loadVar_rowOf (cc zC).toArray (by rw [rowOf_setRow, if_pos rfl, rowOf_below H (rowOf_lt r1), r1]; rfl) _ Try.underlying28 rfl (infoC _))) rfl ⟨rfl, bsetRow (bstep H0 H) (by omega) _⟩
  | true =>
    have HF := Lib.hid (show sortedR c = (packC1 (sortB (allB c)), 0) by simp [sortedR, e1])
    have hp := @sortedR_pad c
    have hall := allB_le c
    have hS := fun g cp W K => l01Sorted_any g cp (allB c) W K (by omega)
    generalize sortB (allB c) = l at HF hp hS
    go_upto_region 4 with (first | (go_at_call 64; with_reducible refine (l01Ok_row H r0).mono ?_; rintro e w' ⟨rfl, hb⟩; replace H := bstep H hb; clear hb; have hc := bcell H) | (go_at_call 65; refine (l01AllS_any g0 0 c _ (CAt.of_row (row_kept r0 H)) (Nat.lt_of_lt_of_le b0 H.size)).mono ?_; rintro e w2 ⟨v2, rfl, O2, hb⟩; obtain ⟨g2, p2, rfl, K2, -⟩ := O2.lies; replace H := bstep H hb; clear hb O2) | (go_at_call 102; refine (hS _ _ _ K2).mono ?_; rintro e w3 ⟨v3, rfl, O3, hb⟩; replace O3 := O3.down H.size; replace H := bstep H hb; clear hb))
    clear hc K2 e1 hS
    obtain ⟨g3, p3, rfl, K3, hg3, -, -⟩ := O3.lies
    replace r0 := row_kept r0 H
    replace r1 := row_kept r1 H
    replace H0 := bstep H0 H
    replace H := below_self H
    have b0' := rowOf_lt r0
    go_upto_region 5 with ((with_reducible refine wp_store_rowOf rfl rfl _ _ _ rfl _ rfl (cc zC).toArray rfl (cc zC).toArray ?hr (cc_size2 _ _) (infoC _) (cc_one _) ?_); (case hr => rw [rowOf_alloc, if_pos rfl]; rfl))
    have b3 := K3.lt
    generalize hW2 : World.setRow _ _ _ = W2
    obtain ⟨HB, r2, b2⟩ := laid_row H hW2
    clear hW2
    have qr02 := Nat.lt_of_lt_of_le (rowOf_lt r0) H.size
    replace r0 := row_kept r0 HB
    have qr12 := Nat.lt_of_lt_of_le (rowOf_lt r1) H.size
    replace r1 := row_kept r1 HB
    replace H0 := bstep H0 HB
    replace H := below_self HB
    generalize w3.heap.size = g2 at *
    have HC3 := Lib.hid (⟨K3.c.below HB b3, Nat.lt_trans b3 (rowOf_lt r2)⟩ : Lies bc W2 g3 l)
    clear K3
    have HI := Lib.hid (And.intro r0 (And.intro r1 r2))
    clear r0 r1 r2 H
    go_wp2
    go_loopw [6] (fun i wr => ∃ k : Nat, k ≤ l.length ∧ i = .int .i64 k ∧ Below w.heap.size w wr ∧ Hid (Lies bc wr g3 l) ∧ Hid (rowOf wr g0 = some (cc c).toArray ∧ rowOf wr g1 = some (cc zC).toArray ∧ rowOf wr g2 = some (bcs (pad l k)).toArray)) (fun i _ => l.length - (intOf i).toNat)
    case atStart => exact ⟨0, by omega, rfl, H0, HC3.out, HI.out.1, HI.out.2.1, by rw [pad_zero]; exact HI.out.2.2⟩
    case round =>
      clear HI H0 HC3
      obtain ⟨k, hk, rfl, hb, HL, HR⟩ := hrel
      by_cases hlt : k < l.length
      · have hX := HL.out.c.el bc_length hlt
        have hk12 : k < 12 := by omega
        have hml : k < (pad l k).length := by rw [pad_length hk (by omega)]; exact hk12
        have y0 := row0 HR.out.2.2 hml
        have y1 := row1 HR.out.2.2 hml
        have f0 := rowOf_frozen HR.out.2.2 (k * 2)
        have f1 := rowOf_frozen HR.out.2.2 (k * 2 + 1)
        have HP := Lib.hid (pad_set hlt hk12)
        have HS := Lib.hid (fun b => row_put b HR.out.2.2 hml)
        rw [getB hlt, ← rB_lt hlt, Nat.zero_add] at hX
        clear hml
        generalize rB l k = b at hX HP
        have x0 : wr.cell? ⟨g3, k * 2, none⟩ = some (.int .u8 b.k) := hX 0 _ rfl
        have x1 : wr.cell? ⟨g3, k * 2 + 1, none⟩ = some (.int .i16 b.y) := hX 1 _ rfl
        generalize rB (pad l k) k = b' at y0 y1
        have hlt2 : (k : Int) < (l.length : Int) := by omega
        have hlt3 : (k : Int) < 12 := by omega
        have hg32 : g3 ≠ g2 := by omega
        clear hX
        go_wp2
        go_roundw
        case rel =>
          refine ⟨k + 1, by omega, by go_num, (hb.setCell (by show _ ≤ g2; omega) _).setCell (by show _ ≤ g2; omega) _, ?_, ?_, ?_, ?_⟩
          · have e1 : ∀ (u v : Value) (i j : Nat), Lies bc ((wr.setCell ⟨g2, i, none⟩ u).setCell ⟨g2, j, none⟩ v) g3 l := fun u v i j => ⟨fun q x hq => by rw [cell_far hg32, cell_far hg32]; exact HL.out.c q x hq, by simpa using HL.out.lt⟩
            exact e1 _ _ _ _
          · rw [row_far (by omega), row_far (by omega), HR.out.1]
          · rw [row_far (by omega), row_far (by omega), HR.out.2.1]
          · rw [HS.out b, HP.out]
        case measure => simp [intOf]; omega
      · obtain rfl : k = l.length := by omega
        have r0 := HR.out.1
        have r1 := HR.out.2.1
        have r2 : rowOf wr g2 = some (cc (packC1 l)).toArray := by
          have := HR.out.2.2
          rwa [pad_sorted hp] at this
        have H0 := hb
        have H := Below.refl wr.heap.size wr
        clear HR hb HL
        go_wp2_with (first | ((with_reducible refine wp_load_rowBg H ?_ _ _ rfl _ rfl _ r2 _ Try.underlying28 rfl (infoC (packC1 l)) ?_); rfl) | (with_reducible refine wp_store_rowB H rfl rfl _ _ _ rfl _ rfl _ rfl _ r1 (cc_size2 _ _) (infoC _) (cc_one _) ?_))
        rw [HF.out]
        refine bodyPost_ret (results_ct rfl rfl (loadVar_rowOf (cc (packC1 l)).toArray (by rw [rowOf_setRow, if_pos rfl, rowOf_below H (rowOf_lt r1), r1]; rfl) _ Try.underlying28 rfl (infoC _))) rfl ⟨rfl, bsetRow (bstep H0 H) (by omega) _⟩
end Go.Proofs.Ytnhpgahapjjjbaa
