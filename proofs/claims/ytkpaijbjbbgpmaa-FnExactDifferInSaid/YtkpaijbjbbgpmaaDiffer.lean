/- Contracts of DifferIn. -/
import Derived.Test.YtkpaijbjbbgpmaaFree
namespace Go.Proofs.Ytkpaijbjbbgpmaa
open Go.RowKit
set_option linter.unusedVariables false
set_option linter.unusedSimpArgs false
set_option maxRecDepth 100000
set_option maxHeartbeats 1000000
/-- The numbers below k of which q holds. -/
def plq (q : Nat → Bool) (k : Nat) : List Int := ((List.range k).filter q).map Int.ofNat
theorem plq_yes {q : Nat → Bool} {k : Nat} (h : q k = true) : plq q (k + 1) = plq q k ++ [(k : Int)] := by
  simp [plq, List.range_succ, h]
theorem plq_no {q : Nat → Bool} {k : Nat} (h : q k = false) : plq q (k + 1) = plq q k := by
  simp [plq, List.range_succ, h]
theorem plq_le (q : Nat → Bool) (k : Nat) : (plq q k).length ≤ k := by
  simp only [plq, List.length_map]
  exact Nat.le_trans (List.length_filter_le _ _) (by simp)
def unlike (a b : Cr) (i : Nat) : Bool := !(rB a.toList i).like (rB b.toList i)
/-- The places in which two crates differ. -/
def diffI (a b : Cr) : List Int := plq (unlike a b) 12
def diffR (a b : Cr) : List Int × Int := if (a.ok && b.ok) = true then (diffI a b, 0) else ([], 1)
attribute [local go_sem high] eqB
theorem l03Differ_row {W w : World} {g g' : Nat} {a b : Cr} (H : Below W.heap.size W w) (ha : rowOf W g = some (cc a).toArray) (hb : rowOf W g' = some (cc b).toArray) :
    Calls Try.prog 70 #[.pointer (some ⟨g, 0, none⟩), .pointer (some ⟨g', 0, none⟩)] w fun e w' => ∃ v, e = .returned v ∧ w'.ownsRow w.heap.size 2 1 v (diffI a b).length (vi (diffI a b)) ∧ Below w.heap.size w w' := by
  have HA := Lib.hid (row_kept ha H)
  have HB' := Lib.hid (row_kept hb H)
  have HL := Lib.hid (Vector.length_toList (xs := a))
  have HL' := Lib.hid (Vector.length_toList (xs := b))
  clear ha hb H
  have hu := Try.underlying32
  go_enter Try.func70, Try.ntmps70
  go_wp2
  go_loopw [5, 6] (fun v i wr => ∃ k : Nat, k ≤ 12 ∧ i = .int .i64 k ∧ Hid (wr.ownsRow w.heap.size 2 1 v (plq (unlike a b) k).length (vi (plq (unlike a b) k))) ∧ Below w.heap.size w wr) (fun _ i _ => 12 - (intOf i).toNat)
  case atStart =>
    refine ⟨0, by omega, rfl, ?_, by go_grown⟩
    exact World.ownsRow_lit (base := w.heap.size) (e := 2) (size := 1) w #[] 0 (by simp) (by simp [maxLen]) (by simp)
  case round =>
    obtain ⟨k, hk, rfl, HO, hb⟩ := hrel
    by_cases hlt : k < 12
    · have hkl : k < a.toList.length := by rw [HL.out]; exact hlt
      have hkl' : k < b.toList.length := by rw [HL'.out]; exact hlt
      have HB := Lib.hid hb
      have x0 := row0 (row_kept HA.out hb) hkl
      have x1 := row1 (row_kept HA.out hb) hkl
      have y0 := row0 (row_kept HB'.out hb) hkl'
      have y1 := row1 (row_kept HB'.out hb) hkl'
      have HY := Lib.hid (@plq_yes (unlike a b) k)
      have HN := Lib.hid (@plq_no (unlike a b) k)
      have HP := Lib.hid (plq_le (unlike a b) k)
      have HU : Hid (unlike a b k = !(rB a.toList k).like (rB b.toList k)) := rfl
      have hk2 : (k : Int) < 12 := by omega
      clear hkl hkl' hb
      generalize rB a.toList k = x at x0 x1 HU
      generalize rB b.toList k = y at y0 y1 HU
      cases e1 : x.like y with
      | true =>
        have e2 : (x.k == y.k && x.y == y.y) = true := e1
        have HN' := Lib.hid (HN.out (by rw [HU.out, e1]; rfl))
        clear HN HY e1
        go_upto_region 5 with fail
        go_quiet (fail)
        have hq := bdrewN (Below.refl wr.heap.size wr) nq
        generalize wr.drewN nq = wq at hq ⊢
        go_wp2
        go_roundw
        case rel => exact ⟨k + 1, by omega, by go_num, by rw [HN'.out]; exact own_kept (own_kept HO.out hq) (by go_grown), bstep (bstep HB.out hq) (by go_grown)⟩
        case measure => simp [intOf]; omega
      | false =>
        have e2 : (x.k == y.k && x.y == y.y) = false := e1
        have HY' := Lib.hid (HY.out (by rw [HU.out, e1]; rfl))
        clear HN HY e1
        go_upto_region 5 with fail
        go_quiet (fail)
        have hq := bdrewN (Below.refl wr.heap.size wr) nq
        generalize wr.drewN nq = wq at hq ⊢
        go_wp2_with (at_builtin; refine wp_app_int w.heap.size rfl _ _ rfl _ (plq (unlike a b) k) (k : Int) rfl _ rfl ?hg ?HO ?hB ?hn ?_; (case hg => simp); (case HO => exact own_kept HO.out hq); (case hB => have := HB.out.size; have := hq.size; omega); (case hn => have := HP.out; omega); intro v1 w1 hown hb2)
        go_roundw
        case rel => exact ⟨k + 1, by omega, by go_num, by rw [HY'.out]; exact hown, (bstep HB.out hq).trans hb2⟩
        case measure => simp [intOf]; omega
    · obtain rfl : k = 12 := by omega
      go_wp2
      go_ret
      exact ⟨_, rfl, HO.out, hb⟩
attribute [local go_sem high] eqB
theorem differ_any (a b : Cr) (w : World) : Calls Try.prog 71 #[cv a, cv b] w fun e w' => ∃ v, e = .returned v ∧ w'.ownsRow w.heap.size 2 1 v (diffI a b).length (vi (diffI a b)) ∧ Below w.heap.size w w' := by
  have HL := Lib.hid (Vector.length_toList (xs := a))
  have HL' := Lib.hid (Vector.length_toList (xs := b))
  have hu := Try.underlying32
  go_enter Try.func71, Try.ntmps71
  go_upto_region 1 with fail
  generalize hW : World.alloc _ _ = W
  have H0 : Below w.heap.size w W := by rw [← hW]; go_grown
  have r0 : rowOf W (w.heap.size) = some ((cc a).toArray) := (by (try rw [← hW]); simp only [rowOf_alloc, World.size_alloc, ↓reduceIte]; all_goals ((repeat' split) <;> first | omega | (exfalso; omega) | rfl))
  have r1 : rowOf W (w.heap.size + 1) = some ((cc b).toArray) := (by (try rw [← hW]); simp only [rowOf_alloc, World.size_alloc, ↓reduceIte]; all_goals ((repeat' split) <;> first | omega | (exfalso; omega) | rfl))
  clear hW
  have q0 : w.heap.size < w.heap.size + 1 := by omega
  have l0 : w.heap.size ≤ w.heap.size := Nat.le_refl _
  generalize w.heap.size + 1 = g1 at r1 q0 ⊢
  generalize h0 : w.heap.size = g0 at r0 q0 ⊢
  replace l0 : w.heap.size ≤ g0 := Nat.le_of_eq h0
  clear h0
  have b0 := rowOf_lt r0
  have b1 := rowOf_lt r1
  have H := Below.refl W.heap.size W
  clear H
  go_wp2
  go_loopw [5, 8] (fun v i wr => ∃ k : Nat, k ≤ 12 ∧ i = .int .i64 k ∧ Hid (wr.ownsRow W.heap.size 2 1 v (plq (unlike a b) k).length (vi (plq (unlike a b) k))) ∧ Below w.heap.size w wr ∧ Hid (Below W.heap.size W wr)) (fun _ i _ => 12 - (intOf i).toNat)
  case atStart =>
    exact ⟨0, by omega, rfl, World.ownsRow_lit (base := W.heap.size) (e := 2) (size := 1) W #[] 0 (Nat.le_refl _) (by simp [maxLen]) (by simp), H0.alloc H0.size _, (Below.refl _ _).alloc (Nat.le_refl _) _⟩
  case round =>
    obtain ⟨k, hk, rfl, HO, hb, HW⟩ := hrel
    by_cases hlt : k < 12
    · have hkl : k < a.toList.length := by rw [HL.out]; exact hlt
      have hkl' : k < b.toList.length := by rw [HL'.out]; exact hlt
      have HB := Lib.hid hb
      have x0 := row0 (row_kept r0 HW.out) hkl
      have x1 := row1 (row_kept r0 HW.out) hkl
      have y0 := row0 (row_kept r1 HW.out) hkl'
      have y1 := row1 (row_kept r1 HW.out) hkl'
      have HY := Lib.hid (@plq_yes (unlike a b) k)
      have HN := Lib.hid (@plq_no (unlike a b) k)
      have HP := Lib.hid (plq_le (unlike a b) k)
      have HU : Hid (unlike a b k = !(rB a.toList k).like (rB b.toList k)) := rfl
      have hk2 : (k : Int) < 12 := by omega
      clear hkl hkl' hb
      generalize rB a.toList k = x at x0 x1 HU
      generalize rB b.toList k = y at y0 y1 HU
      cases e1 : x.like y with
      | true =>
        have e2 : (x.k == y.k && x.y == y.y) = true := e1
        have HN' := Lib.hid (HN.out (by rw [HU.out, e1]; rfl))
        clear HN HY e1
        go_upto_region 5 with fail
        go_quiet (fail)
        have hq := bdrewN (Below.refl wr.heap.size wr) nq
        generalize wr.drewN nq = wq at hq ⊢
        go_wp2
        go_roundw
        case rel => exact ⟨k + 1, by omega, by go_num, by rw [HN'.out]; exact own_kept (own_kept HO.out hq) (by go_grown), bstep (bstep HB.out hq) (by go_grown), bstep (bstep HW.out hq) (by go_grown)⟩
        case measure => simp [intOf]; omega
      | false =>
        have e2 : (x.k == y.k && x.y == y.y) = false := e1
        have HY' := Lib.hid (HY.out (by rw [HU.out, e1]; rfl))
        clear HN HY e1
        go_upto_region 5 with fail
        go_quiet (fail)
        have hq := bdrewN (Below.refl wr.heap.size wr) nq
        generalize wr.drewN nq = wq at hq ⊢
        go_wp2_with (at_builtin; refine wp_app_int W.heap.size rfl _ _ rfl _ (plq (unlike a b) k) (k : Int) rfl _ rfl ?hg ?HO ?hB ?hn ?_; (case hg => simp); (case HO => exact own_kept HO.out hq); (case hB => have := HW.out.size; have := hq.size; omega); (case hn => have := HP.out; omega); intro v1 w1 hown hb2)
        go_roundw
        case rel => exact ⟨k + 1, by omega, by go_num, by rw [HY'.out]; exact hown, (bstep HB.out hq).trans (hb2.mono H0.size), (bstep HW.out hq).trans hb2⟩
        case measure => simp [intOf]; omega
    · obtain rfl : k = 12 := by omega
      go_wp2
      go_ret
      exact ⟨_, rfl, own_down HO.out H0.size, hb⟩
theorem sDifferIn_any (a b : Cr) (w : World) : Calls Try.prog 30 #[cv a, cv b] w fun e w' => ∃ v, e = .returned (.tuple #[v, .int .i64 (diffR a b).2]) ∧ w'.ownsRow w.heap.size 2 1 v (diffR a b).1.length (vi (diffR a b).1) ∧ Below w.heap.size w w' := by
  go_enter Try.func30, Try.ntmps30
  go_upto_region 1 with fail
  generalize hW : World.alloc _ _ = W
  have H0 : Below w.heap.size w W := by rw [← hW]; go_grown
  have r0 : rowOf W (w.heap.size) = some ((cc a).toArray) := (by (try rw [← hW]); simp only [rowOf_alloc, World.size_alloc, ↓reduceIte]; all_goals ((repeat' split) <;> first | omega | (exfalso; omega) | rfl))
  have r1 : rowOf W (w.heap.size + 1) = some ((cc b).toArray) := (by (try rw [← hW]); simp only [rowOf_alloc, World.size_alloc, ↓reduceIte]; all_goals ((repeat' split) <;> first | omega | (exfalso; omega) | rfl))
  clear hW
  have q0 : w.heap.size < w.heap.size + 1 := by omega
  have l0 : w.heap.size ≤ w.heap.size := Nat.le_refl _
  generalize w.heap.size + 1 = g1 at r1 q0 ⊢
  generalize h0 : w.heap.size = g0 at r0 q0 ⊢
  replace l0 : w.heap.size ≤ g0 := Nat.le_of_eq h0
  clear h0
  have b0 := rowOf_lt r0
  have b1 := rowOf_lt r1
  have H := Below.refl W.heap.size W
  cases e1 : a.ok with
  | false =>
    have HF := Lib.hid (show diffR a b = ([], 1) by simp [diffR, e1])
    go_wp2_with (first | (go_at_call 57; with_reducible refine (l01Ok_row H r0).mono ?_; rintro e w' ⟨rfl, hb⟩; replace H := bstep H hb; clear hb; have hc := bcell H) | (go_at_call 57; with_reducible refine (l01Ok_row H r1).mono ?_; rintro e w' ⟨rfl, hb⟩; replace H := bstep H hb; clear hb; have hc := bcell H))
    rw [HF.out]
    exact bodyPost_ret (results_tt rfl) rfl ⟨_, rfl, World.ownsRow_lit (base := w.heap.size) (e := 2) (size := 1) w' #[] 0 (bstep H0 H).size (by simp [maxLen]) rfl, (bstep H0 H).alloc (bstep H0 H).size _⟩
  | true =>
    cases e2 : b.ok with
    | false =>
      have HF := Lib.hid (show diffR a b = ([], 1) by simp [diffR, e1, e2])
      go_wp2_with (first | (go_at_call 57; with_reducible refine (l01Ok_row H r0).mono ?_; rintro e w' ⟨rfl, hb⟩; replace H := bstep H hb; clear hb; have hc := bcell H) | (go_at_call 57; with_reducible refine (l01Ok_row H r1).mono ?_; rintro e w' ⟨rfl, hb⟩; replace H := bstep H hb; clear hb; have hc := bcell H))
      rw [HF.out]
      exact bodyPost_ret (results_tt rfl) rfl ⟨_, rfl, World.ownsRow_lit (base := w.heap.size) (e := 2) (size := 1) w' #[] 0 (bstep H0 H).size (by simp [maxLen]) rfl, (bstep H0 H).alloc (bstep H0 H).size _⟩
    | true =>
      have HF := Lib.hid (show diffR a b = (diffI a b, 0) by simp [diffR, e1, e2])
      go_wp2_with (first | (go_at_call 57; with_reducible refine (l01Ok_row H r0).mono ?_; rintro e w' ⟨rfl, hb⟩; replace H := bstep H hb; clear hb; have hc := bcell H) | (go_at_call 57; with_reducible refine (l01Ok_row H r1).mono ?_; rintro e w' ⟨rfl, hb⟩; replace H := bstep H hb; clear hb; have hc := bcell H) | (go_at_call 70; refine (l03Differ_row H r0 r1).mono ?_; rintro e w2 ⟨v, rfl, hown, hb⟩))
      rw [HF.out]
      exact bodyPost_ret (results_tt rfl) rfl ⟨v, rfl, own_down hown (bstep H0 H).size, (bstep H0 H).trans (hb.mono (bstep H0 H).size)⟩
theorem DifferIn_any (a b : Cr) (w : World) : Calls Try.prog 31 #[cv a, cv b] w fun e w' => ∃ v, e = .returned (.tuple #[v, .int .i64 (diffR a b).2]) ∧ w'.ownsRow w.heap.size 2 1 v (diffR a b).1.length (vi (diffR a b).1) ∧ Below w.heap.size w w' := by
  go_enter Try.func31, Try.ntmps31
  go_upto_region 1 with fail
  generalize hW : World.alloc _ _ = W
  have H0 : Below w.heap.size w W := by rw [← hW]; go_grown
  have r0 : rowOf W (w.heap.size) = some ((cc a).toArray) := (by (try rw [← hW]); simp only [rowOf_alloc, World.size_alloc, ↓reduceIte]; all_goals ((repeat' split) <;> first | omega | (exfalso; omega) | rfl))
  have r1 : rowOf W (w.heap.size + 1) = some ((cc b).toArray) := (by (try rw [← hW]); simp only [rowOf_alloc, World.size_alloc, ↓reduceIte]; all_goals ((repeat' split) <;> first | omega | (exfalso; omega) | rfl))
  clear hW
  have q0 : w.heap.size < w.heap.size + 1 := by omega
  have l0 : w.heap.size ≤ w.heap.size := Nat.le_refl _
  generalize w.heap.size + 1 = g1 at r1 q0 ⊢
  generalize h0 : w.heap.size = g0 at r0 q0 ⊢
  replace l0 : w.heap.size ≤ g0 := Nat.le_of_eq h0
  clear h0
  have b0 := rowOf_lt r0
  have b1 := rowOf_lt r1
  have H := Below.refl W.heap.size W
  cases e1 : a.ok with
  | false =>
    have HF := Lib.hid (show diffR a b = ([], 1) by simp [diffR, e1])
    go_wp2_with (first | ((with_reducible refine wp_load_rowBg H ?_ _ _ rfl _ rfl _ r0 _ Try.underlying34 rfl (infoC a) ?_); rfl) | ((with_reducible refine wp_load_rowBg H ?_ _ _ rfl _ rfl _ r1 _ Try.underlying34 rfl (infoC b) ?_); rfl) | (go_at_call 61; with_reducible refine (ValidCrate_any a _).mono ?_; rintro e w' ⟨rfl, hb⟩; replace H := bstep H hb; clear hb; have hc := bcell H) | (go_at_call 61; with_reducible refine (ValidCrate_any b _).mono ?_; rintro e w' ⟨rfl, hb⟩; replace H := bstep H hb; clear hb; have hc := bcell H))
    rw [HF.out]
    exact bodyPost_ret (results_tt rfl) rfl ⟨_, rfl, own_nil, bstep H0 H⟩
  | true =>
    cases e2 : b.ok with
    | false =>
      have HF := Lib.hid (show diffR a b = ([], 1) by simp [diffR, e1, e2])
      go_wp2_with (first | ((with_reducible refine wp_load_rowBg H ?_ _ _ rfl _ rfl _ r0 _ Try.underlying34 rfl (infoC a) ?_); rfl) | ((with_reducible refine wp_load_rowBg H ?_ _ _ rfl _ rfl _ r1 _ Try.underlying34 rfl (infoC b) ?_); rfl) | (go_at_call 61; with_reducible refine (ValidCrate_any a _).mono ?_; rintro e w' ⟨rfl, hb⟩; replace H := bstep H hb; clear hb; have hc := bcell H) | (go_at_call 61; with_reducible refine (ValidCrate_any b _).mono ?_; rintro e w' ⟨rfl, hb⟩; replace H := bstep H hb; clear hb; have hc := bcell H))
      rw [HF.out]
      exact bodyPost_ret (results_tt rfl) rfl ⟨_, rfl, own_nil, bstep H0 H⟩
    | true =>
      have HF := Lib.hid (show diffR a b = (diffI a b, 0) by simp [diffR, e1, e2])
      go_wp2_with (first | ((with_reducible refine wp_load_rowBg H ?_ _ _ rfl _ rfl _ r0 _ Try.underlying34 rfl (infoC a) ?_); rfl) | ((with_reducible refine wp_load_rowBg H ?_ _ _ rfl _ rfl _ r1 _ Try.underlying34 rfl (infoC b) ?_); rfl) | (go_at_call 61; with_reducible refine (ValidCrate_any a _).mono ?_; rintro e w' ⟨rfl, hb⟩; replace H := bstep H hb; clear hb; have hc := bcell H) | (go_at_call 61; with_reducible refine (ValidCrate_any b _).mono ?_; rintro e w' ⟨rfl, hb⟩; replace H := bstep H hb; clear hb; have hc := bcell H) | (go_at_call 71; refine (differ_any a b _).mono ?_; rintro e w2 ⟨v, rfl, hown, hb⟩))
      rw [HF.out]
      exact bodyPost_ret (results_tt rfl) rfl ⟨v, rfl, own_down hown (bstep H0 H).size, (bstep H0 H).trans (hb.mono (bstep H0 H).size)⟩
theorem diffR_le (a b : Cr) : (diffR a b).1.length ≤ 12 := by
  unfold diffR
  split
  · exact plq_le _ _
  · simp
end Go.Proofs.Ytkpaijbjbbgpmaa
