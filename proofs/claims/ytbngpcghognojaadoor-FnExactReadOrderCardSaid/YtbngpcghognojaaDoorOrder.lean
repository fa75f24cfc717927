/- Contracts of ValidOrder: wants in order. -/
import Derived.Test.YtbngpcghognojaaDoorWantS
import Derived.Test.YtbngpcghognojaaDoorCompare
namespace Go.Proofs.YtbngpcghognojaaDoor
open Go.RowKit
set_option linter.unusedVariables false
set_option linter.unusedSimpArgs false
set_option maxRecDepth 100000
set_option maxHeartbeats 400000
attribute [local go_sem] Oper.qB
/-- A valid want. -/
def Wt.ok (x : Wt) : Bool := x.b.ok && (decide (1 ≤ x.n) && decide (x.n ≤ 144))
/-- Want j is valid and comes behind the one ahead of it. -/
def okAt (l : List Wt) (j : Nat) : Prop := l[j]!.ok = true ∧ (0 < j → (l[j - 1]!.b).cmp (l[j]!.b) < 0)
instance (l : List Wt) (j : Nat) : Decidable (okAt l j) := by unfold okAt; infer_instance
def okK (l : List Wt) (k : Nat) : Prop := ∀ j, j < k → okAt l j
instance (l : List Wt) (k : Nat) : Decidable (okK l k) := by unfold okK; infer_instance
def ordOk (l : List Wt) : Bool := decide (okK l l.length) && decide (l.length ≤ 8)
theorem okK_step {l : List Wt} {k : Nat} (h : okK l k) (hk : okAt l k) : okK l (k + 1) := fun j hj => by
  rcases Nat.lt_or_ge j k with h' | h'
  · exact h j h'
  · rwa [show j = k by omega]
theorem ord_bad {l : List Wt} {k : Nat} (hk : k < l.length) (h : ¬ okAt l k) : ordOk l = false := by
  have : ¬ okK l l.length := fun h' => h (h' k hk)
  simp [ordOk, this]
theorem ord_good {l : List Wt} (h : okK l l.length) : ordOk l = decide (l.length ≤ 8) := by simp [ordOk, h]
theorem l02Ok_any (b off c : Nat) (l : List Wt) (w : World) (hC : CAt w b off (fl wc l)) (hb : b < w.heap.size) (hn : l.length ≤ 1000000000) :
    Calls Tryd.prog 40 #[.slice (some ⟨b, off, none⟩) l.length c] w fun e w' => e = .returned (.bool (ordOk l)) ∧ Below w.heap.size w w' := by
  have HC := Lib.hid (⟨hC, hb⟩ : _ ∧ _)
  clear hC hb
  go_enter Tryd.func40, Tryd.ntmps40
  go_wp2
  go_loopw [3] (fun i wr => ∃ k : Nat, k ≤ l.length ∧ i = .int .i64 k ∧ Hid (okK l k) ∧ Below w.heap.size w wr) (fun i _ => l.length - (intOf i).toNat)
  case atStart => exact ⟨0, Nat.zero_le _, rfl, fun j hj => absurd hj (Nat.not_lt_zero _), Below.refl _ _⟩
  case round =>
    obtain ⟨k, hk, rfl, H1, hb⟩ := hrel
    by_cases hlt : k < l.length
    · have HX := Lib.hid ((HC.out.1.below hb HC.out.2).el wc_length hlt)
      have HW := Lib.hid (Nat.lt_of_lt_of_le HC.out.2 hb.size)
      have hlt2 : (k : Int) < (l.length : Int) := by omega
      have HB : Hid (¬ okAt l k → ordOk l = false) := ord_bad hlt
      have HA : Hid (okAt l k → okK l (k + 1)) := okK_step H1.out
      have HD : Hid (okAt l k ↔ l[k]!.ok = true ∧ (0 < k → (l[k - 1]!.b).cmp (l[k]!.b) < 0)) := Iff.rfl
      have HY : Hid (0 < k → CAt wr b (off + (k - 1) * 3) (wc l[k - 1]!)) := fun h => (HC.out.1.below hb HC.out.2).el wc_length (by omega)
      generalize l[k]! = x at HX HD
      generalize l[k - 1]! = y at HY HD
      have x0 : wr.cell? ⟨b, off + k * 3, none⟩ = some (.int .u8 x.b.k) := HX.out 0 _ rfl
      have x1 : wr.cell? ⟨b, off + k * 3 + 1, none⟩ = some (.int .i16 x.b.y) := HX.out 1 _ rfl
      have x2 : wr.cell? ⟨b, off + k * 3 + 2, none⟩ = some (.int .i16 x.n) := HX.out 2 _ rfl
      have hnb := x.hn
      have hbw := HW.out
      have hIn := fun W => below_of_same (l00In_any x.n 1 144 W)
      generalize hr : (decide (1 ≤ x.n) && decide (x.n ≤ 144)) = r at hIn
      have HO : Hid (x.ok = (x.b.ok && r)) := by rw [Hid, Wt.ok, hr]
      clear hr
      have H := Below.refl wr.heap.size wr
      cases e1 : x.b.ok with
      | false =>
        have hbad := HB.out (fun h => by have := (HD.out.1 h).1; rw [HO.out, e1] at this; cases this)
        go_wp2_with (go_at_call 30; with_reducible refine (l01Bottle_any x.b _).mono ?_; rintro e w' ⟨rfl, hb⟩; replace H := bstep H hb; clear hb; have hc := bcell H)
        go_ret
        exact ⟨ret_bool hbad.symm, bstep hb H⟩
      | true =>
        cases r with
        | false =>
          have hbad := HB.out (fun h => by have := (HD.out.1 h).1; rw [HO.out, e1] at this; cases this)
          go_wp2_with (first | (go_at_call 30; with_reducible refine (l01Bottle_any x.b _).mono ?_; rintro e w' ⟨rfl, hb⟩; replace H := bstep H hb; clear hb; have hc := bcell H) | (go_at_call 54; with_reducible refine (hIn _).mono ?_; rintro e w' ⟨rfl, hb⟩; replace H := bstep H hb; clear hb; have hc := bcell H))
          go_ret
          exact ⟨ret_bool hbad.symm, bstep hb H⟩
        | true =>
          have hxo : Hid (x.ok = true) := by rw [Hid, HO.out, e1]; rfl
          rcases Nat.eq_zero_or_pos k with hz | hpos
          · have hgood := Lib.hid (HA.out (HD.out.2 ⟨hxo.out, fun h => absurd h (by omega)⟩))
            have hz7 : ((0 : Int) < (k : Int)) = False := eq_false (by omega)
            have hz8 : (0 < k) = False := eq_false (by omega)
            replace hz := Lib.hid hz
            go_upto_region 6 with (first | (go_at_call 30; with_reducible refine (l01Bottle_any x.b _).mono ?_; rintro e w' ⟨rfl, hb⟩; replace H := bstep H hb; clear hb; have hc := bcell H) | (go_at_call 54; with_reducible refine (hIn _).mono ?_; rintro e w' ⟨rfl, hb⟩; replace H := bstep H hb; clear hb; have hc := bcell H))
            clear hc HD HA HB HY HX HO hIn hnb hxo e1 x0 x1 x2
            refine wp_region_qB (by kernel_rfl) (by kernel_rfl) ?_
            (repeat (first | fail | (apply qB_step; intro K hK; go_simp; first | (refine hK _ ?_; clear hK K) | (apply Exists.intro; refine ⟨fun _ => ?_, hK _ ?_⟩; (first | fail); clear hK K))))
            refine qB_nil ?_
            intro w1 hw1
            replace H := bstep H hw1
            clear hw1
            go_wp2
            go_roundw
            case rel => exact ⟨k + 1, by omega, by go_num, hgood, bstep hb H⟩
            case measure => simp [intOf]; omega
          · have HYY := Lib.hid (HY.out hpos)
            obtain ⟨k, rfl⟩ : ∃ k', k = k' + 1 := ⟨k - 1, by omega⟩
            rw [Nat.add_sub_cancel] at HYY
            have hz2 : (0 : Int) < ((k + 1 : Nat) : Int) := by omega
            have hz3 : (0 : Int) < (k : Int) + 1 := by omega
            go_upto_region 6 with (first | (go_at_call 30; with_reducible refine (l01Bottle_any x.b _).mono ?_; rintro e w' ⟨rfl, hb⟩; replace H := bstep H hb; clear hb; have hc := bcell H) | (go_at_call 54; with_reducible refine (hIn _).mono ?_; rintro e w' ⟨rfl, hb⟩; replace H := bstep H hb; clear hb; have hc := bcell H))
            clear hc x0 x1 x2
            have CX := HX.out.below H HW.out
            have CY := HYY.out.below H HW.out
            have x0 := cell_regrown (CX 0 _ rfl)
            have x1 := cell_regrown (CX 1 _ rfl)
            have y0 := cell_regrown (CY 0 _ rfl)
            have y1 := cell_regrown (CY 1 _ rfl)
            rw [Nat.add_zero] at x0 y0
            have hk1 : (k : Int) < (l.length : Int) := by omega
            have hk3 : (0 : Int) ≤ (k : Int) + 1 := by omega
            have hk4 : ((k : Int) + 1).toNat = k + 1 := by omega
            have hwk : IntKind.i64.wrap (k : Int) = (k : Int) := by rw [IntKind.wrap_i64]; omega
            have hk2 : (k : Int) + 1 < (l.length : Int) := by omega
            replace H1 := Lib.hid (⟨hb, H⟩ : Below w.heap.size w wr ∧ Below wr.heap.size wr w')
            clear H
            have H := Below.refl w'.heap.size w'
            by_cases hcmp : y.b.cmp x.b < 0
            · have hgood := Lib.hid (HA.out (HD.out.2 ⟨hxo.out, fun _ => hcmp⟩))
              have hc2 : ¬ (0 : Int) ≤ y.b.cmp x.b := by omega
              refine wp_region_qB (by kernel_rfl) (by kernel_rfl) ?_
              (repeat (first | fail | (apply qB_step; intro K hK; go_simp; first | (refine hK _ ?_; clear hK K) | (apply Exists.intro; refine ⟨fun _ => ?_, hK _ ?_⟩; (first | (go_at_call 62; with_reducible exact sCompareBottles_any y.b x.b _)); clear hK K))))
              refine qB_nil ?_
              intro w1 hw1
              replace H := bstep H hw1
              clear hw1
              go_wp2
              go_roundw
              case rel => exact ⟨k + 1 + 1, by omega, by go_num, hgood, bstep H1.out.1 (bstep H1.out.2 H)⟩
              case measure => simp [intOf]; omega
            · have hbad := Lib.hid (HB.out (fun h => hcmp ((HD.out.1 h).2 hpos)))
              have hc2 : (0 : Int) ≤ y.b.cmp x.b := by omega
              refine wp_region_qB (by kernel_rfl) (by kernel_rfl) ?_
              (repeat (first | fail | (apply qB_step; intro K hK; go_simp; first | (refine hK _ ?_; clear hK K) | (apply Exists.intro; refine ⟨fun _ => ?_, hK _ ?_⟩; (first | (go_at_call 62; with_reducible exact sCompareBottles_any y.b x.b _)); clear hK K))))
              refine qB_nil ?_
              intro w1 hw1
              replace H := bstep H hw1
              clear hw1
              go_wp2
              go_ret
              exact ⟨ret_bool hbad.out.symm, bstep H1.out.1 (bstep H1.out.2 H)⟩
    · obtain rfl : k = l.length := by omega
      have HF := Lib.hid (ord_good H1.out)
      go_wp2
      go_ret
      exact ⟨ret_bool (by rw [HF.out, Bool.eq_iff_iff]; simp; omega), hb⟩
theorem ValidOrder_any (b off c : Nat) (l : List Wt) (w : World) (hC : CAt w b off (fl wc l)) (hb : b < w.heap.size) (hn : l.length ≤ 1000000000) :
    Calls Tryd.prog 43 #[.slice (some ⟨b, off, none⟩) l.length c] w fun e w' => e = .returned (.bool (ordOk l)) ∧ Below w.heap.size w w' := by
  have HC := Lib.hid (⟨hC, hb⟩ : _ ∧ _)
  clear hC hb
  go_enter Tryd.func43, Tryd.ntmps43
  go_wp2
  go_loopw [7] (fun i wr => ∃ k : Nat, k ≤ l.length ∧ i = .int .i64 k ∧ Hid (okK l k) ∧ Below w.heap.size w wr) (fun i _ => l.length - (intOf i).toNat)
  case atStart => exact ⟨0, Nat.zero_le _, rfl, fun j hj => absurd hj (Nat.not_lt_zero _), Below.refl _ _⟩
  case round =>
    obtain ⟨k, hk, rfl, H1, hb⟩ := hrel
    by_cases hlt : k < l.length
    · have HX := (HC.out.1.below hb HC.out.2).el wc_length hlt
      have HW := Lib.hid (Nat.lt_of_lt_of_le HC.out.2 hb.size)
      have hlt2 : (k : Int) < (l.length : Int) := by omega
      have HB : Hid (¬ okAt l k → ordOk l = false) := ord_bad hlt
      have HA : Hid (okAt l k → okK l (k + 1)) := okK_step H1.out
      have HD : Hid (okAt l k ↔ l[k]!.ok = true ∧ (0 < k → (l[k - 1]!.b).cmp (l[k]!.b) < 0)) := Iff.rfl
      have HY : Hid (0 < k → CAt wr b (off + (k - 1) * 3) (wc l[k - 1]!)) := fun h => (HC.out.1.below hb HC.out.2).el wc_length (by omega)
      generalize l[k]! = x at HX HD
      generalize l[k - 1]! = y at HY HD
      have x0 : wr.cell? ⟨b, off + k * 3, none⟩ = some (.int .u8 x.b.k) := HX 0 _ rfl
      have x1 : wr.cell? ⟨b, off + k * 3 + 1, none⟩ = some (.int .i16 x.b.y) := HX 1 _ rfl
      have x2 : wr.cell? ⟨b, off + k * 3 + 2, none⟩ = some (.int .i16 x.n) := HX 2 _ rfl
      have hIn := fun W => below_of_same (within_any x.n 1 144 W)
      generalize hr : (decide (1 ≤ x.n) && decide (x.n ≤ 144)) = r at hIn
      have HO : Hid (x.ok = (x.b.ok && r)) := by rw [Hid, Wt.ok, hr]
      clear hr HX
      go_upto_region 4 with fail
      generalize hW1 : World.alloc _ _ = W1
      have hg : Below wr.heap.size wr W1 := by rw [← hW1]; go_grown
      have r4 : rowOf W1 wr.heap.size = some (wc x).toArray := by rw [← hW1, rowOf_alloc, if_pos rfl]; rfl
      have hb1 := Lib.hid (bstep hb hg)
      have HY1 : Hid (0 < k → CAt W1 b (off + (k - 1) * 3) (wc y)) := fun h => (HY.out h).below hg HW.out
      clear hW1 x0 x1 x2 HY HW hb hg
      generalize wr.heap.size = g4 at r4 ⊢
      have z0 := cell_regrown (show W1.cell? ⟨g4, 0, none⟩ = some (.int .u8 x.b.k) from rowOf_cell r4 0)
      have z1 := cell_regrown (show W1.cell? ⟨g4, 1, none⟩ = some (.int .i16 x.b.y) from rowOf_cell r4 1)
      have z2 := cell_regrown (show W1.cell? ⟨g4, 2, none⟩ = some (.int .i16 x.n) from rowOf_cell r4 2)
      obtain ⟨hn1, hn2⟩ := x.hn
      have hwx : IntKind.i64.wrap x.n = x.n := by rw [IntKind.wrap_i64]; omega
      have H := Below.refl W1.heap.size W1
      have HBB := Lib.hid (⟨hb1.out, rowOf_lt r4⟩ : _ ∧ _)
      clear hb1 r4
      cases e1 : x.b.ok with
      | false =>
        have hbad := Lib.hid (HB.out (fun h => by have := (HD.out.1 h).1; rw [HO.out, e1] at this; cases this))
        refine wp_region_qB (by kernel_rfl) (by kernel_rfl) ?_
        (repeat (first | fail | (apply qB_step; intro K hK; go_simp; first | (refine hK _ ?_; clear hK K) | (apply Exists.intro; refine ⟨fun _ => ?_, hK _ ?_⟩; (first | (go_at_call 32; with_reducible exact ValidBottle_any x.b _) | (go_at_call 56; with_reducible exact hIn _) | (go_at_call 63 <;> exact compare_any y.b x.b _)); clear hK K))))
        refine qB_nil ?_
        intro w1 hw1
        replace H := bstep H hw1
        clear hw1
        go_wp2
        go_ret
        exact ⟨ret_bool hbad.out.symm, bstep HBB.out.1 H⟩
      | true =>
        cases r with
        | false =>
          have hbad := Lib.hid (HB.out (fun h => by have := (HD.out.1 h).1; rw [HO.out, e1] at this; cases this))
          refine wp_region_qB (by kernel_rfl) (by kernel_rfl) ?_
          (repeat (first | fail | (apply qB_step; intro K hK; go_simp; first | (refine hK _ ?_; clear hK K) | (apply Exists.intro; refine ⟨fun _ => ?_, hK _ ?_⟩; (first | (go_at_call 32; with_reducible exact ValidBottle_any x.b _) | (go_at_call 56; with_reducible exact hIn _) | (go_at_call 63 <;> exact compare_any y.b x.b _)); clear hK K))))
          refine qB_nil ?_
          intro w1 hw1
          replace H := bstep H hw1
          clear hw1
          go_wp2
          go_ret
          exact ⟨ret_bool hbad.out.symm, bstep HBB.out.1 H⟩
        | true =>
          have hxo : Hid (x.ok = true) := by rw [Hid, HO.out, e1]; rfl
          rcases Nat.eq_zero_or_pos k with hz | hpos
          · have hgood := Lib.hid (HA.out (HD.out.2 ⟨hxo.out, fun h => absurd h (by omega)⟩))
            have hz7 : ((0 : Int) < (k : Int)) = False := eq_false (by omega)
            have hz8 : (0 < k) = False := eq_false (by omega)
            replace hz := Lib.hid hz
            refine wp_region_qB (by kernel_rfl) (by kernel_rfl) ?_
            (repeat (first | fail | (apply qB_step; intro K hK; go_simp; first | (refine hK _ ?_; clear hK K) | (apply Exists.intro; refine ⟨fun _ => ?_, hK _ ?_⟩; (first | (go_at_call 32; with_reducible exact ValidBottle_any x.b _) | (go_at_call 56; with_reducible exact hIn _) | (go_at_call 63 <;> exact compare_any y.b x.b _)); clear hK K))))
            refine qB_nil ?_
            intro w1 hw1
            replace H := bstep H hw1
            clear hw1
            go_wp2
            go_roundw
            case rel => exact ⟨k + 1, by omega, by go_num, hgood, bstep HBB.out.1 H⟩
            case measure => simp [intOf]; omega
          · have CY := HY1.out hpos
            obtain ⟨k, rfl⟩ : ∃ k', k = k' + 1 := ⟨k - 1, by omega⟩
            rw [Nat.add_sub_cancel] at CY
            have hz2 : (0 : Int) < ((k + 1 : Nat) : Int) := by omega
            have hz3 : (0 : Int) < (k : Int) + 1 := by omega
            have y0 := cell_regrown (CY 0 _ rfl)
            have y1 := cell_regrown (CY 1 _ rfl)
            rw [Nat.add_zero] at y0
            have hk1 : (k : Int) < (l.length : Int) := by omega
            have hk3 : (0 : Int) ≤ (k : Int) + 1 := by omega
            have hwk : IntKind.i64.wrap (k : Int) = (k : Int) := by rw [IntKind.wrap_i64]; omega
            by_cases hcmp : y.b.cmp x.b < 0
            · have hgood := Lib.hid (HA.out (HD.out.2 ⟨hxo.out, fun _ => hcmp⟩))
              have hc2 : ¬ (0 : Int) ≤ y.b.cmp x.b := by omega
              refine wp_region_qB (by kernel_rfl) (by kernel_rfl) ?_
              (repeat (first | fail | (apply qB_step; intro K hK; go_simp; first | (refine hK _ ?_; clear hK K) | (apply Exists.intro; refine ⟨fun _ => ?_, hK _ ?_⟩; (first | (go_at_call 32; with_reducible exact ValidBottle_any x.b _) | (go_at_call 56; with_reducible exact hIn _) | (go_at_call 63 <;> exact compare_any y.b x.b _)); clear hK K))))
              refine qB_nil ?_
              intro w1 hw1
              replace H := bstep H hw1
              clear hw1
              go_wp2
              go_roundw
              case rel => exact ⟨k + 1 + 1, by omega, by go_num, hgood, bstep HBB.out.1 H⟩
              case measure => simp [intOf]; omega
            · have hbad := Lib.hid (HB.out (fun h => hcmp ((HD.out.1 h).2 hpos)))
              have hc2 : (0 : Int) ≤ y.b.cmp x.b := by omega
              refine wp_region_qB (by kernel_rfl) (by kernel_rfl) ?_
              (repeat (first | fail | (apply qB_step; intro K hK; go_simp; first | (refine hK _ ?_; clear hK K) | (apply Exists.intro; refine ⟨fun _ => ?_, hK _ ?_⟩; (first | (go_at_call 32; with_reducible exact ValidBottle_any x.b _) | (go_at_call 56; with_reducible exact hIn _) | (go_at_call 63 <;> exact compare_any y.b x.b _)); clear hK K))))
              refine qB_nil ?_
              intro w1 hw1
              replace H := bstep H hw1
              clear hw1
              go_wp2
              go_ret
              exact ⟨ret_bool hbad.out.symm, bstep HBB.out.1 H⟩
    · obtain rfl : k = l.length := by omega
      have HF := Lib.hid (ord_good H1.out)
      go_wp2
      go_ret
      exact ⟨ret_bool (by rw [HF.out, Bool.eq_iff_iff]; simp; omega), hb⟩
end Go.Proofs.YtbngpcghognojaaDoor
