/- Contracts of MoveAll: moves one behind the other. -/
import Derived.Test.YthjfaggbkmchkaaSwaps
import Derived.Test.YthjfaggbkmchkaaMove
namespace Go.Proofs.Ythjfaggbkmchkaa
open Go.RowKit
set_option linter.unusedVariables false
set_option linter.unusedSimpArgs false
set_option maxRecDepth 100000
set_option maxHeartbeats 1000000
/-- A crate behind moves, and the code. -/
def mvL (c : Cr) : List Sw → Cr × Int
  | [] => (c, 0)
  | s :: r => if moveQ c s = 0 then mvL (swC c s) r else (zC, moveQ c s)
def mvAllR (c : Cr) (l : List Sw) : Cr × Int := if c.ok = false then (zC, 1) else if 60 < l.length then (zC, 3) else mvL c l
theorem mvL_step {c : Cr} {l : List Sw} {k : Nat} (hk : k < l.length) : mvL c (l.drop k) = if moveQ c l[k]! = 0 then mvL (swC c l[k]!) (l.drop (k + 1)) else (zC, moveQ c l[k]!) := by
  rw [List.drop_eq_getElem_cons hk, getB hk]
  rfl
theorem moveQ_ok {c : Cr} {s : Sw} (h : moveQ c s = 0) : s.ok = true := by
  cases h' : s.ok with
  | true => rfl
  | false => simp [moveQ, h'] at h
theorem MoveAll_any (c : Cr) (gl off cp : Nat) (l : List Sw) (w : World) (hm : l.length ≤ 1048576) (hC : CAt w gl off (fl sc l)) (hb : gl < w.heap.size) :
    Calls Try.prog 30 #[cv c, .slice (some ⟨gl, off, none⟩) l.length cp] w fun e w' => e = .returned (.tuple #[cv (mvAllR c l).1, .int .i64 (mvAllR c l).2]) ∧ Below w.heap.size w w' := by
  have HC := Lib.hid (⟨hC, hb⟩ : _ ∧ _)
  clear hC hb
  go_enter Try.func30, Try.ntmps30
  go_upto_region 1 with fail
  generalize hW : World.alloc _ _ = W
  have H0 : Below w.heap.size w W := by rw [← hW]; go_grown
  have r0 : rowOf W (w.heap.size) = some ((cc c).toArray) := (by (try rw [← hW]); simp only [rowOf_alloc, World.size_alloc, ↓reduceIte]; all_goals ((repeat' split) <;> first | omega | (exfalso; omega) | rfl))
  have r1 : rowOf W (w.heap.size + 1) = some ((cc zC).toArray) := (by (try rw [← hW]); simp only [rowOf_alloc, World.size_alloc, ↓reduceIte]; all_goals ((repeat' split) <;> first | omega | (exfalso; omega) | rfl))
  clear hW
  have q0 : w.heap.size < w.heap.size + 1 := by omega
  have l0 : w.heap.size ≤ w.heap.size := Nat.le_refl _
  generalize w.heap.size + 1 = g1 at r1 q0 ⊢
  generalize h0 : w.heap.size = g0 at r0 q0 ⊢
  replace l0 : w.heap.size ≤ g0 := Nat.le_of_eq h0
  clear h0
  have b0 := rowOf_lt r0
  have b1 := rowOf_lt r1
  have H := Below.refl W.heap.size W
  cases e1 : c.ok with
  | false =>
    have HF := Lib.hid (show mvAllR c l = (zC, 1) by simp [mvAllR, e1])
    go_wp2_with (first | ((with_reducible refine wp_load_rowBg H ?_ _ _ rfl _ rfl _ r0 _ Try.underlying39 rfl (infoC c) ?_); rfl) | (go_at_call 71; with_reducible refine (ValidCrate_any c _).mono ?_; rintro e w' ⟨rfl, hb⟩; replace H := bstep H hb; clear hb; have hc := bcell H) | (with_reducible refine wp_store_zeroB H rfl rfl _ _ rfl _ rfl rfl _ r1 ?_))
    rw [HF.out]
    refine bodyPost_ret (results_ct rfl rfl (loadVar_rowOf (cc zC).toArray (by rw [rowOf_setRow, if_pos rfl, rowOf_below H (rowOf_lt r1), r1]; rfl) _ Try.underlying39 rfl (infoC _))) rfl ⟨rfl, bsetRow (bstep H0 H) (by omega) _⟩
  | true =>
    by_cases h60 : 60 < l.length
    · have HF := Lib.hid (show mvAllR c l = (zC, 3) by simp [mvAllR, e1, h60])
      have h61 : (60 : Int) < (l.length : Int) := by omega
      go_wp2_with (first | ((with_reducible refine wp_load_rowBg H ?_ _ _ rfl _ rfl _ r0 _ Try.underlying39 rfl (infoC c) ?_); rfl) | (go_at_call 71; with_reducible refine (ValidCrate_any c _).mono ?_; rintro e w' ⟨rfl, hb⟩; replace H := bstep H hb; clear hb; have hc := bcell H) | (with_reducible refine wp_store_zeroB H rfl rfl _ _ rfl _ rfl rfl _ r1 ?_))
      rw [HF.out]
      refine bodyPost_ret (results_ct rfl rfl (loadVar_rowOf (cc zC).toArray (by rw [rowOf_setRow, if_pos rfl, rowOf_below H (rowOf_lt r1), r1]; rfl) _ Try.underlying39 rfl (infoC _))) rfl ⟨rfl, bsetRow (bstep H0 H) (by omega) _⟩
    · have HF := Lib.hid (show mvAllR c l = mvL c l by simp [mvAllR, e1, h60])
      have h61 : ¬ (60 : Int) < (l.length : Int) := by omega
      go_upto_region 5 with (first | ((with_reducible refine wp_load_rowBg H ?_ _ _ rfl _ rfl _ r0 _ Try.underlying39 rfl (infoC c) ?_); rfl) | (go_at_call 71; with_reducible refine (ValidCrate_any c _).mono ?_; rintro e w' ⟨rfl, hb⟩; replace H := bstep H hb; clear hb; have hc := bcell H))
      clear hc
      replace r0 := row_kept r0 H
      replace r1 := row_kept r1 H
      replace H0 := bstep H0 H
      replace H := below_self H
      clear H e1
      go_wp2
      go_loopw [21] (fun i wr => ∃ (k : Nat) (X : Cr), k ≤ l.length ∧ i = .int .i64 k ∧ Below w.heap.size w wr ∧ Hid (mvL c l = mvL X (l.drop k) ∧ rowOf wr g0 = some (cc X).toArray ∧ rowOf wr g1 = some (cc zC).toArray)) (fun i _ => l.length - (intOf i).toNat)
      case atStart => exact ⟨0, c, Nat.zero_le _, rfl, H0, rfl, r0, r1⟩
      case round =>
        clear r0 r1 H0
        obtain ⟨k, X, hk, rfl, hb, HR⟩ := hrel
        by_cases hlt : k < l.length
        · have HX := (HC.out.1.below hb HC.out.2).el sc_length hlt
          have HS := Lib.hid (HR.out.1.trans (mvL_step hlt))
          have hlt2 : (k : Int) < (l.length : Int) := by omega
          generalize l[k]! = x at HX HS
          have p0 : wr.cell? ⟨gl, off + k * 2, none⟩ = some (.int .i8 x.f) := HX 0 _ rfl
          have p1 : wr.cell? ⟨gl, off + k * 2 + 1, none⟩ = some (.int .i8 x.t) := HX 1 _ rfl
          clear HX
          go_upto_region 8 with fail
          generalize hW1 : World.alloc _ _ = W1
          have hg : Below wr.heap.size wr W1 := by rw [← hW1]; go_grown
          have r6 : rowOf W1 wr.heap.size = some (#[.int .i8 x.f, .int .i8 x.t] : Array Value) := by rw [← hW1, rowOf_alloc, if_pos rfl]
          have r0 := row_kept HR.out.2.1 hg
          have r1 := row_kept HR.out.2.2 hg
          have hb1 := bstep hb hg
          clear hW1 p0 p1 HR hb hg
          generalize wr.heap.size = g6 at r6 ⊢
          have H := Below.refl W1.heap.size W1
          by_cases hq : moveQ X x = 0
          · have HS' := Lib.hid (HS.out.trans (if_pos hq))
            have hok := moveQ_ok hq
            clear HS
            go_wp2_with (first | ((with_reducible refine wp_load_rowBg H ?_ _ _ rfl _ rfl _ r0 _ Try.underlying39 rfl (infoC X) ?_); rfl) | ((with_reducible refine wp_load_rowBg H ?_ _ _ rfl _ rfl _ r6 _ Try.underlying92 rfl (infoS _ _) ?_); rfl) | (go_at_call 77; refine (moveCode_any X x _).mono ?_; rintro e w2 ⟨rfl, hb⟩; rw [hq]; replace H := bstep H hb; clear hb) | (go_at_call 78; with_reducible refine (swapped_any X x hok _).mono ?_; rintro e w' ⟨rfl, hb⟩; replace H := bstep H hb; clear hb; have hc := bcell H) | (with_reducible refine wp_store_rowB H rfl rfl _ _ _ rfl _ rfl _ rfl _ r0 (cc_size2 _ _) (infoC _) (cc_one _) ?_))
            go_roundw
            case rel => exact ⟨k + 1, swC X x, by omega, by go_num, bsetRow (bstep hb1 H) (by omega) _, HS'.out, by rw [rowOf_setRow, if_pos rfl, row_kept r0 H]; rfl, (rowOf_setRow_ne (by omega)).trans (row_kept r1 H)⟩
            case measure => simp [intOf]; omega
          · have HS' := Lib.hid (HF.out.trans (HS.out.trans (if_neg hq)))
            clear HS HF
            have H0 := hb1
            go_wp2_with (first | ((with_reducible refine wp_load_rowBg H ?_ _ _ rfl _ rfl _ r0 _ Try.underlying39 rfl (infoC X) ?_); rfl) | ((with_reducible refine wp_load_rowBg H ?_ _ _ rfl _ rfl _ r6 _ Try.underlying92 rfl (infoS _ _) ?_); rfl) | (go_at_call 77; with_reducible refine (moveCode_any X x _).mono ?_; rintro e w' ⟨rfl, hb⟩; replace H := bstep H hb; clear hb; have hc := bcell H) | (with_reducible refine wp_store_zeroB H rfl rfl _ _ rfl _ rfl rfl _ r1 ?_))
            rw [HS'.out]
            refine bodyPost_ret (results_ct rfl rfl (loadVar_rowOf (cc zC).toArray (by rw [rowOf_setRow, if_pos rfl, rowOf_below H (rowOf_lt r1), r1]; rfl) _ Try.underlying39 rfl (infoC _))) rfl ⟨rfl, bsetRow (bstep H0 H) (by omega) _⟩
        · obtain rfl : k = l.length := by omega
          have HF' : Hid (mvAllR c l = (X, 0)) := HF.out.trans (HR.out.1.trans (by rw [List.drop_length]; rfl))
          have r0 := HR.out.2.1
          have r1 := HR.out.2.2
          clear HR HF
          have H := Below.refl wr.heap.size wr
          have H0 := hb
          go_wp2_with (first | ((with_reducible refine wp_load_rowBg H ?_ _ _ rfl _ rfl _ r0 _ Try.underlying39 rfl (infoC X) ?_); rfl) | (with_reducible refine wp_store_rowB H rfl rfl _ _ _ rfl _ rfl _ rfl _ r1 (cc_size2 _ _) (infoC _) (cc_one _) ?_))
          rw [HF'.out]
          refine bodyPost_ret (results_ct rfl rfl (loadVar_rowOf (cc X).toArray (by rw [rowOf_setRow, if_pos rfl, rowOf_below H (rowOf_lt r1), r1]; rfl) _ Try.underlying39 rfl (infoC _))) rfl ⟨rfl, bsetRow (bstep H0 H) (by omega) _⟩
theorem sMoveAll_any (c : Cr) (gl off cp : Nat) (l : List Sw) (w : World) (hm : l.length ≤ 1048576) (hC : CAt w gl off (fl sc l)) (hb : gl < w.heap.size) :
    Calls Try.prog 29 #[cv c, .slice (some ⟨gl, off, none⟩) l.length cp] w fun e w' => e = .returned (.tuple #[cv (mvAllR c l).1, .int .i64 (mvAllR c l).2]) ∧ Below w.heap.size w w' := by
  have HC := Lib.hid (⟨hC, hb⟩ : _ ∧ _)
  clear hC hb
  go_enter Try.func29, Try.ntmps29
  go_upto_region 1 with fail
  generalize hW : World.alloc _ _ = W
  have H0 : Below w.heap.size w W := by rw [← hW]; go_grown
  have r0 : rowOf W (w.heap.size) = some ((cc c).toArray) := (by (try rw [← hW]); simp only [rowOf_alloc, World.size_alloc, ↓reduceIte]; all_goals ((repeat' split) <;> first | omega | (exfalso; omega) | rfl))
  have r1 : rowOf W (w.heap.size + 1) = some ((cc zC).toArray) := (by (try rw [← hW]); simp only [rowOf_alloc, World.size_alloc, ↓reduceIte]; all_goals ((repeat' split) <;> first | omega | (exfalso; omega) | rfl))
  clear hW
  have q0 : w.heap.size < w.heap.size + 1 := by omega
  have l0 : w.heap.size ≤ w.heap.size := Nat.le_refl _
  generalize w.heap.size + 1 = g1 at r1 q0 ⊢
  generalize h0 : w.heap.size = g0 at r0 q0 ⊢
  replace l0 : w.heap.size ≤ g0 := Nat.le_of_eq h0
  clear h0
  have b0 := rowOf_lt r0
  have b1 := rowOf_lt r1
  have H := Below.refl W.heap.size W
  cases e1 : c.ok with
  | false =>
    have HF := Lib.hid (show mvAllR c l = (zC, 1) by simp [mvAllR, e1])
    go_wp2_with (first | (go_at_call 75; with_reducible refine (l01Ok_row H r0).mono ?_; rintro e w' ⟨rfl, hb⟩; replace H := bstep H hb; clear hb; have hc := bcell H) | (with_reducible refine wp_store_zeroB H rfl rfl _ _ rfl _ rfl rfl _ r1 ?_))
    rw [HF.out]
    refine bodyPost_ret (results_ct rfl rfl (loadVar_rowOf (cc zC).toArray (by rw [rowOf_setRow, if_pos rfl, rowOf_below H (rowOf_lt r1), r1]; rfl) _ Try.underlying39 rfl (infoC _))) rfl ⟨rfl, bsetRow (bstep H0 H) (by omega) _⟩
  | true =>
    by_cases h60 : 60 < l.length
    · have HF := Lib.hid (show mvAllR c l = (zC, 3) by simp [mvAllR, e1, h60])
      have h61 : (60 : Int) < (l.length : Int) := by omega
      go_wp2_with (first | (go_at_call 75; with_reducible refine (l01Ok_row H r0).mono ?_; rintro e w' ⟨rfl, hb⟩; replace H := bstep H hb; clear hb; have hc := bcell H) | (with_reducible refine wp_store_zeroB H rfl rfl _ _ rfl _ rfl rfl _ r1 ?_))
      rw [HF.out]
      refine bodyPost_ret (results_ct rfl rfl (loadVar_rowOf (cc zC).toArray (by rw [rowOf_setRow, if_pos rfl, rowOf_below H (rowOf_lt r1), r1]; rfl) _ Try.underlying39 rfl (infoC _))) rfl ⟨rfl, bsetRow (bstep H0 H) (by omega) _⟩
    · have HF := Lib.hid (show mvAllR c l = mvL c l by simp [mvAllR, e1, h60])
      have h61 : ¬ (60 : Int) < (l.length : Int) := by omega
      go_upto_region 5 with (first | (go_at_call 75; with_reducible refine (l01Ok_row H r0).mono ?_; rintro e w' ⟨rfl, hb⟩; replace H := bstep H hb; clear hb; have hc := bcell H))
      clear hc
      replace r0 := row_kept r0 H
      replace r1 := row_kept r1 H
      replace H0 := bstep H0 H
      replace H := below_self H
      clear H e1
      go_wp2
      go_loopw [6] (fun i wr => ∃ (k : Nat) (X : Cr), k ≤ l.length ∧ i = .int .i64 k ∧ Below w.heap.size w wr ∧ Hid (mvL c l = mvL X (l.drop k) ∧ rowOf wr g0 = some (cc X).toArray ∧ rowOf wr g1 = some (cc zC).toArray)) (fun i _ => l.length - (intOf i).toNat)
      case atStart => exact ⟨0, c, Nat.zero_le _, rfl, H0, rfl, r0, r1⟩
      case round =>
        clear r0 r1 H0
        obtain ⟨k, X, hk, rfl, hb, HR⟩ := hrel
        by_cases hlt : k < l.length
        · have HX := (HC.out.1.below hb HC.out.2).el sc_length hlt
          have HS := Lib.hid (HR.out.1.trans (mvL_step hlt))
          have hlt2 : (k : Int) < (l.length : Int) := by omega
          generalize l[k]! = x at HX HS
          have p0 : wr.cell? ⟨gl, off + k * 2, none⟩ = some (.int .i8 x.f) := HX 0 _ rfl
          have p1 : wr.cell? ⟨gl, off + k * 2 + 1, none⟩ = some (.int .i8 x.t) := HX 1 _ rfl
          have r0 := HR.out.2.1
          have r1 := HR.out.2.2
          clear HX HR
          by_cases hq : moveQ X x = 0
          · have HS' := Lib.hid (HS.out.trans (if_pos hq))
            clear HS
            go_wp2_with (go_at_call 76; refine (l03Moved_any X x _ _ r0).mono ?_; rintro e w2 ⟨rfl, hb2⟩; rw [hq]; rw [movedW, if_pos hq] at hb2)
            go_roundw
            case rel => exact ⟨k + 1, swC X x, by omega, by go_num, (bsetRow hb (by omega) _).trans (hb2.mono hb.size), HS'.out, (rowOf_below hb2 (rowOf_lt r0)).trans (by rw [rowOf_setRow, if_pos rfl, r0]; rfl), (rowOf_below hb2 (rowOf_lt r1)).trans ((rowOf_setRow_ne (by omega)).trans r1)⟩
            case measure => simp [intOf]; omega
          · have HS' := Lib.hid (HF.out.trans (HS.out.trans (if_neg hq)))
            clear HS HF
            have H0 := hb
            go_wp2_with (first | (go_at_call 76; refine (l03Moved_any X x _ _ r0).mono ?_; rintro e w2 ⟨rfl, hb2⟩; rw [movedW, if_neg hq] at hb2; have H := hb2) | (with_reducible refine wp_store_zeroB H rfl rfl _ _ rfl _ rfl rfl _ r1 ?_))
            rw [HS'.out]
            refine bodyPost_ret (results_ct rfl rfl (loadVar_rowOf (cc zC).toArray (by rw [rowOf_setRow, if_pos rfl, rowOf_below H (rowOf_lt r1), r1]; rfl) _ Try.underlying39 rfl (infoC _))) rfl ⟨rfl, bsetRow (bstep H0 H) (by omega) _⟩
        · obtain rfl : k = l.length := by omega
          have HF' : Hid (mvAllR c l = (X, 0)) := HF.out.trans (HR.out.1.trans (by rw [List.drop_length]; rfl))
          have r0 := HR.out.2.1
          have r1 := HR.out.2.2
          clear HR HF
          have H := Below.refl wr.heap.size wr
          have H0 := hb
          go_wp2_with (first | ((with_reducible refine wp_load_rowBg H ?_ _ _ rfl _ rfl _ r0 _ Try.underlying39 rfl (infoC X) ?_); rfl) | (with_reducible refine wp_store_rowB H rfl rfl _ _ _ rfl _ rfl _ rfl _ r1 (cc_size2 _ _) (infoC _) (cc_one _) ?_))
          rw [HF'.out]
          refine bodyPost_ret (results_ct rfl rfl (loadVar_rowOf (cc X).toArray (by rw [rowOf_setRow, if_pos rfl, rowOf_below H (rowOf_lt r1), r1]; rfl) _ Try.underlying39 rfl (infoC _))) rfl ⟨rfl, bsetRow (bstep H0 H) (by omega) _⟩
end Go.Proofs.Ythjfaggbkmchkaa
