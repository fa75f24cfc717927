/- Texts of the claim, joined (8 of 19): Order, Count, Use, Lack, Open. -/
import Derived.Test.YtbngpcghognojaaGreatDoorBC1
import Derived.Test.YtbngpcghognojaaGreatDoorBC3
import Derived.Test.YtbngpcghognojaaGreatDoorBC5
namespace Go.Proofs.YtbngpcghognojaaGreatDoor
open Go.RowKit
set_option linter.unusedVariables false
set_option linter.unusedSimpArgs false
set_option maxRecDepth 100000
set_option maxHeartbeats 400000
attribute [local go_sem] Oper.qB
/-- A valid want. -/
def Wt.ok (x : Wt) : Bool := x.b.ok && (decide (1 ≤ x.n) && decide (x.n ≤ 144))
/-- Want j is valid and comes behind the one ahead of it. -/
def okAt (l : List Wt) (j : Nat) : Prop := l[j]!.ok = true ∧ (0 < j → (l[j - 1]!.b).cmp (l[j]!.b) < 0)
instance (l : List Wt) (j : Nat) : Decidable (okAt l j) := by unfold okAt; infer_instance
def okK (l : List Wt) (k : Nat) : Prop := ∀ j, j < k → okAt l j
instance (l : List Wt) (k : Nat) : Decidable (okK l k) := by unfold okK; infer_instance
def ordOk (l : List Wt) : Bool := decide (okK l l.length) && decide (l.length ≤ 8)
theorem okK_step {l : List Wt} {k : Nat} (h : okK l k) (hk : okAt l k) : okK l (k + 1) := fun j hj => by
  rcases Nat.lt_or_ge j k with h' | h'
  · exact h j h'
  · rwa [show j = k by omega]
theorem ord_bad {l : List Wt} {k : Nat} (hk : k < l.length) (h : ¬ okAt l k) : ordOk l = false := by
  have : ¬ okK l l.length := fun h' => h (h' k hk)
  simp [ordOk, this]
theorem ord_good {l : List Wt} (h : okK l l.length) : ordOk l = decide (l.length ≤ 8) := by simp [ordOk, h]
theorem l02Ok_any (b off c : Nat) (l : List Wt) (w : World) (hC : CAt w b off (fl wc l)) (hb : b < w.heap.size) (hn : l.length ≤ 1000000000) :
    Calls Tryz.prog 99 #[.slice (some ⟨b, off, none⟩) l.length c] w fun e w' => e = .returned (.bool (ordOk l)) ∧ Below w.heap.size w w' := by
  have HC := Lib.hid (⟨hC, hb⟩ : _ ∧ _)
  clear hC hb
  go_enter Tryz.func99, Tryz.ntmps99
  go_wp2
  go_loopw [3] (fun i wr => ∃ k : Nat, k ≤ l.length ∧ i = .int .i64 k ∧ Hid (okK l k) ∧ Below w.heap.size w wr) (fun i _ => l.length - (intOf i).toNat)
  case atStart => exact ⟨0, Nat.zero_le _, rfl, fun j hj => absurd hj (Nat.not_lt_zero _), Below.refl _ _⟩
  case round =>
    obtain ⟨k, hk, rfl, H1, hb⟩ := hrel
    by_cases hlt : k < l.length
    · have HX := Lib.hid ((HC.out.1.below hb HC.out.2).el wc_length hlt)
      have HW := Lib.hid (Nat.lt_of_lt_of_le HC.out.2 hb.size)
      have hlt2 : (k : Int) < (l.length : Int) := by omega
      have HB : Hid (¬ okAt l k → ordOk l = false) := ord_bad hlt
      have HA : Hid (okAt l k → okK l (k + 1)) := okK_step H1.out
      have HD : Hid (okAt l k ↔ l[k]!.ok = true ∧ (0 < k → (l[k - 1]!.b).cmp (l[k]!.b) < 0)) := Iff.rfl
      have HY : Hid (0 < k → CAt wr b (off + (k - 1) * 3) (wc l[k - 1]!)) := fun h => (HC.out.1.below hb HC.out.2).el wc_length (by omega)
      generalize l[k]! = x at HX HD
      generalize l[k - 1]! = y at HY HD
      have x0 : wr.cell? ⟨b, off + k * 3, none⟩ = some (.int .u8 x.b.k) := HX.out 0 _ rfl
      have x1 : wr.cell? ⟨b, off + k * 3 + 1, none⟩ = some (.int .i16 x.b.y) := HX.out 1 _ rfl
      have x2 : wr.cell? ⟨b, off + k * 3 + 2, none⟩ = some (.int .i16 x.n) := HX.out 2 _ rfl
      have hnb := x.hn
      have hbw := HW.out
      have hIn := fun W => below_of_same (l00In_any x.n 1 144 W)
      generalize hr : (decide (1 ≤ x.n) && decide (x.n ≤ 144)) = r at hIn
      have HO : Hid (x.ok = (x.b.ok && r)) := by rw [Hid, Wt.ok, hr]
      clear hr
      have H := Below.refl wr.heap.size wr
      cases e1 : x.b.ok with
      | false =>
        have hbad := HB.out (fun h => by have := (HD.out.1 h).1; rw [HO.out, e1] at this; cases this)
        go_wp2_with (go_at_call 84; with_reducible refine (l01Bottle_any x.b _).mono ?_; rintro e w' ⟨rfl, hb⟩; replace H := bstep H hb; clear hb; have hc := bcell H)
        go_ret
        exact ⟨ret_bool hbad.symm, bstep hb H⟩
      | true =>
        cases r with
        | false =>
          have hbad := HB.out (fun h => by have := (HD.out.1 h).1; rw [HO.out, e1] at this; cases this)
          go_wp2_with (first | (go_at_call 84; with_reducible refine (l01Bottle_any x.b _).mono ?_; rintro e w' ⟨rfl, hb⟩; replace H := bstep H hb; clear hb; have hc := bcell H) | (go_at_call 101; with_reducible refine (hIn _).mono ?_; rintro e w' ⟨rfl, hb⟩; replace H := bstep H hb; clear hb; have hc := bcell H))
          go_ret
          exact ⟨ret_bool hbad.symm, bstep hb H⟩
        | true =>
          have hxo : Hid (x.ok = true) := by rw [Hid, HO.out, e1]; rfl
          rcases Nat.eq_zero_or_pos k with hz | hpos
          · have hgood := Lib.hid (HA.out (HD.out.2 ⟨hxo.out, fun h => absurd h (by omega)⟩))
            have hz7 : ((0 : Int) < (k : Int)) = False := eq_false (by omega)
            have hz8 : (0 < k) = False := eq_false (by omega)
            replace hz := Lib.hid hz
            go_upto_region 6 with (first | (go_at_call 84; with_reducible refine (l01Bottle_any x.b _).mono ?_; rintro e w' ⟨rfl, hb⟩; replace H := bstep H hb; clear hb; have hc := bcell H) | (go_at_call 101; with_reducible refine (hIn _).mono ?_; rintro e w' ⟨rfl, hb⟩; replace H := bstep H hb; clear hb; have hc := bcell H))
            clear hc HD HA HB HY HX HO hIn hnb hxo e1 x0 x1 x2
            refine wp_region_qB (by kernel_rfl) (by kernel_rfl) ?_
            (repeat (first | fail | (apply qB_step; intro K hK; go_simp; first | (refine hK _ ?_; clear hK K) | (apply Exists.intro; refine ⟨fun _ => ?_, hK _ ?_⟩; (first | fail); clear hK K))))
            refine qB_nil ?_
            intro w1 hw1
            replace H := bstep H hw1
            clear hw1
            go_wp2
            go_roundw
            case rel => exact ⟨k + 1, by omega, by go_num, hgood, bstep hb H⟩
            case measure => simp [intOf]; omega
          · have HYY := Lib.hid (HY.out hpos)
            obtain ⟨k, rfl⟩ : ∃ k', k = k' + 1 := ⟨k - 1, by omega⟩
            rw [Nat.add_sub_cancel] at HYY
            have hz2 : (0 : Int) < ((k + 1 : Nat) : Int) := by omega
            have hz3 : (0 : Int) < (k : Int) + 1 := by omega
            go_upto_region 6 with (first | (go_at_call 84; with_reducible refine (l01Bottle_any x.b _).mono ?_; rintro e w' ⟨rfl, hb⟩; replace H := bstep H hb; clear hb; have hc := bcell H) | (go_at_call 101; with_reducible refine (hIn _).mono ?_; rintro e w' ⟨rfl, hb⟩; replace H := bstep H hb; clear hb; have hc := bcell H))
            clear hc x0 x1 x2
            have CX := HX.out.below H HW.out
            have CY := HYY.out.below H HW.out
            have x0 := cell_regrown (CX 0 _ rfl)
            have x1 := cell_regrown (CX 1 _ rfl)
            have y0 := cell_regrown (CY 0 _ rfl)
            have y1 := cell_regrown (CY 1 _ rfl)
            rw [Nat.add_zero] at x0 y0
            have hk1 : (k : Int) < (l.length : Int) := by omega
            have hk3 : (0 : Int) ≤ (k : Int) + 1 := by omega
            have hk4 : ((k : Int) + 1).toNat = k + 1 := by omega
            have hwk : IntKind.i64.wrap (k : Int) = (k : Int) := by rw [IntKind.wrap_i64]; omega
            have hk2 : (k : Int) + 1 < (l.length : Int) := by omega
            replace H1 := Lib.hid (⟨hb, H⟩ : Below w.heap.size w wr ∧ Below wr.heap.size wr w')
            clear H
            have H := Below.refl w'.heap.size w'
            by_cases hcmp : y.b.cmp x.b < 0
            · have hgood := Lib.hid (HA.out (HD.out.2 ⟨hxo.out, fun _ => hcmp⟩))
              have hc2 : ¬ (0 : Int) ≤ y.b.cmp x.b := by omega
              refine wp_region_qB (by kernel_rfl) (by kernel_rfl) ?_
              (repeat (first | fail | (apply qB_step; intro K hK; go_simp; first | (refine hK _ ?_; clear hK K) | (apply Exists.intro; refine ⟨fun _ => ?_, hK _ ?_⟩; (first | (go_at_call 100; with_reducible exact sCompareBottles_any y.b x.b _)); clear hK K))))
              refine qB_nil ?_
              intro w1 hw1
              replace H := bstep H hw1
              clear hw1
              go_wp2
              go_roundw
              case rel => exact ⟨k + 1 + 1, by omega, by go_num, hgood, bstep H1.out.1 (bstep H1.out.2 H)⟩
              case measure => simp [intOf]; omega
            · have hbad := Lib.hid (HB.out (fun h => hcmp ((HD.out.1 h).2 hpos)))
              have hc2 : (0 : Int) ≤ y.b.cmp x.b := by omega
              refine wp_region_qB (by kernel_rfl) (by kernel_rfl) ?_
              (repeat (first | fail | (apply qB_step; intro K hK; go_simp; first | (refine hK _ ?_; clear hK K) | (apply Exists.intro; refine ⟨fun _ => ?_, hK _ ?_⟩; (first | (go_at_call 100; with_reducible exact sCompareBottles_any y.b x.b _)); clear hK K))))
              refine qB_nil ?_
              intro w1 hw1
              replace H := bstep H hw1
              clear hw1
              go_wp2
              go_ret
              exact ⟨ret_bool hbad.out.symm, bstep H1.out.1 (bstep H1.out.2 H)⟩
    · obtain rfl : k = l.length := by omega
      have HF := Lib.hid (ord_good H1.out)
      go_wp2
      go_ret
      exact ⟨ret_bool (by rw [HF.out, Bool.eq_iff_iff]; simp; omega), hb⟩
theorem ValidOrder_any (b off c : Nat) (l : List Wt) (w : World) (hC : CAt w b off (fl wc l)) (hb : b < w.heap.size) (hn : l.length ≤ 1000000000) :
    Calls Tryz.prog 50 #[.slice (some ⟨b, off, none⟩) l.length c] w fun e w' => e = .returned (.bool (ordOk l)) ∧ Below w.heap.size w w' := by
  have HC := Lib.hid (⟨hC, hb⟩ : _ ∧ _)
  clear hC hb
  go_enter Tryz.func50, Tryz.ntmps50
  go_wp2
  go_loopw [7] (fun i wr => ∃ k : Nat, k ≤ l.length ∧ i = .int .i64 k ∧ Hid (okK l k) ∧ Below w.heap.size w wr) (fun i _ => l.length - (intOf i).toNat)
  case atStart => exact ⟨0, Nat.zero_le _, rfl, fun j hj => absurd hj (Nat.not_lt_zero _), Below.refl _ _⟩
  case round =>
    obtain ⟨k, hk, rfl, H1, hb⟩ := hrel
    by_cases hlt : k < l.length
    · have HX := (HC.out.1.below hb HC.out.2).el wc_length hlt
      have HW := Lib.hid (Nat.lt_of_lt_of_le HC.out.2 hb.size)
      have hlt2 : (k : Int) < (l.length : Int) := by omega
      have HB : Hid (¬ okAt l k → ordOk l = false) := ord_bad hlt
      have HA : Hid (okAt l k → okK l (k + 1)) := okK_step H1.out
      have HD : Hid (okAt l k ↔ l[k]!.ok = true ∧ (0 < k → (l[k - 1]!.b).cmp (l[k]!.b) < 0)) := Iff.rfl
      have HY : Hid (0 < k → CAt wr b (off + (k - 1) * 3) (wc l[k - 1]!)) := fun h => (HC.out.1.below hb HC.out.2).el wc_length (by omega)
      generalize l[k]! = x at HX HD
      generalize l[k - 1]! = y at HY HD
      have x0 : wr.cell? ⟨b, off + k * 3, none⟩ = some (.int .u8 x.b.k) := HX 0 _ rfl
      have x1 : wr.cell? ⟨b, off + k * 3 + 1, none⟩ = some (.int .i16 x.b.y) := HX 1 _ rfl
      have x2 : wr.cell? ⟨b, off + k * 3 + 2, none⟩ = some (.int .i16 x.n) := HX 2 _ rfl
      have hIn := fun W => below_of_same (within_any x.n 1 144 W)
      generalize hr : (decide (1 ≤ x.n) && decide (x.n ≤ 144)) = r at hIn
      have HO : Hid (x.ok = (x.b.ok && r)) := by rw [Hid, Wt.ok, hr]
      clear hr HX
      go_upto_region 4 with fail
      generalize hW1 : World.alloc _ _ = W1
      have hg : Below wr.heap.size wr W1 := by rw [← hW1]; go_grown
      have r4 : rowOf W1 wr.heap.size = some (wc x).toArray := by rw [← hW1, rowOf_alloc, if_pos rfl]; rfl
      have hb1 := Lib.hid (bstep hb hg)
      have HY1 : Hid (0 < k → CAt W1 b (off + (k - 1) * 3) (wc y)) := fun h => (HY.out h).below hg HW.out
      clear hW1 x0 x1 x2 HY HW hb hg
      generalize wr.heap.size = g4 at r4 ⊢
      have z0 := cell_regrown (show W1.cell? ⟨g4, 0, none⟩ = some (.int .u8 x.b.k) from rowOf_cell r4 0)
      have z1 := cell_regrown (show W1.cell? ⟨g4, 1, none⟩ = some (.int .i16 x.b.y) from rowOf_cell r4 1)
      have z2 := cell_regrown (show W1.cell? ⟨g4, 2, none⟩ = some (.int .i16 x.n) from rowOf_cell r4 2)
      obtain ⟨hn1, hn2⟩ := x.hn
      have hwx : IntKind.i64.wrap x.n = x.n := by rw [IntKind.wrap_i64]; omega
      have H := Below.refl W1.heap.size W1
      have HBB := Lib.hid (⟨hb1.out, rowOf_lt r4⟩ : _ ∧ _)
      clear hb1 r4
      cases e1 : x.b.ok with
      | false =>
        have hbad := Lib.hid (HB.out (fun h => by have := (HD.out.1 h).1; rw [HO.out, e1] at this; cases this))
        refine wp_region_qB (by kernel_rfl) (by kernel_rfl) ?_
        (repeat (first | fail | (apply qB_step; intro K hK; go_simp; first | (refine hK _ ?_; clear hK K) | (apply Exists.intro; refine ⟨fun _ => ?_, hK _ ?_⟩; (first | (go_at_call 19; with_reducible exact ValidBottle_any x.b _) | (go_at_call 77; with_reducible exact hIn _) | (go_at_call 89 <;> exact compare_any y.b x.b _)); clear hK K))))
        refine qB_nil ?_
        intro w1 hw1
        replace H := bstep H hw1
        clear hw1
        go_wp2
        go_ret
        exact ⟨ret_bool hbad.out.symm, bstep HBB.out.1 H⟩
      | true =>
        cases r with
        | false =>
          have hbad := Lib.hid (HB.out (fun h => by have := (HD.out.1 h).1; rw [HO.out, e1] at this; cases this))
          refine wp_region_qB (by kernel_rfl) (by kernel_rfl) ?_
          (repeat (first | fail | (apply qB_step; intro K hK; go_simp; first | (refine hK _ ?_; clear hK K) | (apply Exists.intro; refine ⟨fun _ => ?_, hK _ ?_⟩; (first | (go_at_call 19; with_reducible exact ValidBottle_any x.b _) | (go_at_call 77; with_reducible exact hIn _) | (go_at_call 89 <;> exact compare_any y.b x.b _)); clear hK K))))
          refine qB_nil ?_
          intro w1 hw1
          replace H := bstep H hw1
          clear hw1
          go_wp2
          go_ret
          exact ⟨ret_bool hbad.out.symm, bstep HBB.out.1 H⟩
        | true =>
          have hxo : Hid (x.ok = true) := by rw [Hid, HO.out, e1]; rfl
          rcases Nat.eq_zero_or_pos k with hz | hpos
          · have hgood := Lib.hid (HA.out (HD.out.2 ⟨hxo.out, fun h => absurd h (by omega)⟩))
            have hz7 : ((0 : Int) < (k : Int)) = False := eq_false (by omega)
            have hz8 : (0 < k) = False := eq_false (by omega)
            replace hz := Lib.hid hz
            refine wp_region_qB (by kernel_rfl) (by kernel_rfl) ?_
            (repeat (first | fail | (apply qB_step; intro K hK; go_simp; first | (refine hK _ ?_; clear hK K) | (apply Exists.intro; refine ⟨fun _ => ?_, hK _ ?_⟩; (first | (go_at_call 19; with_reducible exact ValidBottle_any x.b _) | (go_at_call 77; with_reducible exact hIn _) | (go_at_call 89 <;> exact compare_any y.b x.b _)); clear hK K))))
            refine qB_nil ?_
            intro w1 hw1
            replace H := bstep H hw1
            clear hw1
            go_wp2
            go_roundw
            case rel => exact ⟨k + 1, by omega, by go_num, hgood, bstep HBB.out.1 H⟩
            case measure => simp [intOf]; omega
          · have CY := HY1.out hpos
            obtain ⟨k, rfl⟩ : ∃ k', k = k' + 1 := ⟨k - 1, by omega⟩
            rw [Nat.add_sub_cancel] at CY
            have hz2 : (0 : Int) < ((k + 1 : Nat) : Int) := by omega
            have hz3 : (0 : Int) < (k : Int) + 1 := by omega
            have y0 := cell_regrown (CY 0 _ rfl)
            have y1 := cell_regrown (CY 1 _ rfl)
            rw [Nat.add_zero] at y0
            have hk1 : (k : Int) < (l.length : Int) := by omega
            have hk3 : (0 : Int) ≤ (k : Int) + 1 := by omega
            have hwk : IntKind.i64.wrap (k : Int) = (k : Int) := by rw [IntKind.wrap_i64]; omega
            by_cases hcmp : y.b.cmp x.b < 0
            · have hgood := Lib.hid (HA.out (HD.out.2 ⟨hxo.out, fun _ => hcmp⟩))
              have hc2 : ¬ (0 : Int) ≤ y.b.cmp x.b := by omega
              refine wp_region_qB (by kernel_rfl) (by kernel_rfl) ?_
              (repeat (first | fail | (apply qB_step; intro K hK; go_simp; first | (refine hK _ ?_; clear hK K) | (apply Exists.intro; refine ⟨fun _ => ?_, hK _ ?_⟩; (first | (go_at_call 19; with_reducible exact ValidBottle_any x.b _) | (go_at_call 77; with_reducible exact hIn _) | (go_at_call 89 <;> exact compare_any y.b x.b _)); clear hK K))))
              refine qB_nil ?_
              intro w1 hw1
              replace H := bstep H hw1
              clear hw1
              go_wp2
              go_roundw
              case rel => exact ⟨k + 1 + 1, by omega, by go_num, hgood, bstep HBB.out.1 H⟩
              case measure => simp [intOf]; omega
            · have hbad := Lib.hid (HB.out (fun h => hcmp ((HD.out.1 h).2 hpos)))
              have hc2 : (0 : Int) ≤ y.b.cmp x.b := by omega
              refine wp_region_qB (by kernel_rfl) (by kernel_rfl) ?_
              (repeat (first | fail | (apply qB_step; intro K hK; go_simp; first | (refine hK _ ?_; clear hK K) | (apply Exists.intro; refine ⟨fun _ => ?_, hK _ ?_⟩; (first | (go_at_call 19; with_reducible exact ValidBottle_any x.b _) | (go_at_call 77; with_reducible exact hIn _) | (go_at_call 89 <;> exact compare_any y.b x.b _)); clear hK K))))
              refine qB_nil ?_
              intro w1 hw1
              replace H := bstep H hw1
              clear hw1
              go_wp2
              go_ret
              exact ⟨ret_bool hbad.out.symm, bstep HBB.out.1 H⟩
    · obtain rfl : k = l.length := by omega
      have HF := Lib.hid (ord_good H1.out)
      go_wp2
      go_ret
      exact ⟨ret_bool (by rw [HF.out, Bool.eq_iff_iff]; simp; omega), hb⟩
end Go.Proofs.YtbngpcghognojaaGreatDoor
namespace Go.Proofs.YtbngpcghognojaaGreatDoor
open Go.RowKit
set_option linter.unusedVariables false
set_option linter.unusedSimpArgs false
set_option maxRecDepth 100000
set_option maxHeartbeats 1000000
/-- How many among the first k places; in a crate; in crates. -/
def cntK (c : Cr) (b : Bt) (k : Nat) : Nat := (c.toList.take k).countP fun x => x.like b
def cntC (c : Cr) (b : Bt) : Nat := cntK c b 12
def cntL (l : List Cr) (b : Bt) : Nat := (l.map fun c => cntC c b).sum
def countR (l : List Cr) (b : Bt) : Int × Int := if (stackOk l && b.ok) = true then ((cntL l b : Int), 0) else (0, 1)
theorem cntK_le (c : Cr) (b : Bt) (k : Nat) : cntK c b k ≤ 12 := by
  refine Nat.le_trans List.countP_le_length ?_
  rw [List.length_take, Vector.length_toList]
  omega
theorem cntL_le : ∀ (l : List Cr) (b : Bt), cntL l b ≤ l.length * 12
  | [], _ => Nat.le_refl _
  | c :: l, b => by
    have h1 := cntK_le c b 12
    have h2 := cntL_le l b
    have e : cntL (c :: l) b = cntK c b 12 + cntL l b := by simp [cntL, cntC]
    rw [e, List.length_cons, Nat.add_mul]
    omega
theorem cntK_yes {c : Cr} {b : Bt} {k : Nat} (hk : k < 12) (h : (rB c.toList k).like b = true) : cntK c b (k + 1) = cntK c b k + 1 := by
  have hl : k < c.toList.length := by rw [Vector.length_toList]; exact hk
  unfold cntK
  rw [List.take_succ_eq_append_getElem hl, List.countP_append, ← rB_lt hl]
  simp [h]
theorem cntK_no {c : Cr} {b : Bt} {k : Nat} (hk : k < 12) (h : (rB c.toList k).like b = false) : cntK c b (k + 1) = cntK c b k := by
  have hl : k < c.toList.length := by rw [Vector.length_toList]; exact hk
  unfold cntK
  rw [List.take_succ_eq_append_getElem hl, List.countP_append, ← rB_lt hl]
  simp [h]
theorem cntL_step {l : List Cr} {b : Bt} {k : Nat} (hk : k < l.length) : cntL (l.take (k + 1)) b = cntL (l.take k) b + cntC l[k]! b := by
  unfold cntL
  rw [List.take_succ_eq_append_getElem hk, getB hk, List.map_append, List.sum_append]
  simp
attribute [local go_sem high] eqB
theorem countOf_rd (A0 : Option Addr) (c0 : Nat) (l : List Cr) (b : Bt) (w : World) (hr : RdA w A0 (fl cc l)) (hn : l.length ≤ 1048576) :
    Calls Tryz.prog 110 #[.slice A0 l.length c0, bv b] w fun e w' => e = .returned (.int .i64 (cntL l b)) ∧ Below w.heap.size w w' := by
  have hu := Tryz.underlying26
  have HR := Lib.hid hr
  clear hr
  go_enter Tryz.func110, Tryz.ntmps110
  go_upto_region 1 with fail
  generalize hW : World.alloc _ _ = W
  have H0 : Below w.heap.size w W := by rw [← hW]; go_grown
  have r0 : rowOf W (w.heap.size) = some (#[.int .u8 b.k, .int .i16 b.y]) := (by (try rw [← hW]); simp only [rowOf_alloc, World.size_alloc, ↓reduceIte]; all_goals ((repeat' split) <;> first | omega | (exfalso; omega) | rfl))
  clear hW
  have l0 : w.heap.size ≤ w.heap.size := Nat.le_refl _
  generalize h0 : w.heap.size = g0 at r0 ⊢
  replace l0 : w.heap.size ≤ g0 := Nat.le_of_eq h0
  clear h0
  have b0 := rowOf_lt r0
  have H := Below.refl W.heap.size W
  clear H
  go_wp2
  go_loopw [5, 12] (fun n i wr => ∃ k : Nat, k ≤ l.length ∧ i = .int .i64 k ∧ n = .int .i64 (cntL (l.take k) b) ∧ Below w.heap.size w wr ∧ Hid (Below W.heap.size W wr)) (fun _ i _ => l.length - (intOf i).toNat)
  case atStart => exact ⟨0, Nat.zero_le _, rfl, by simp [cntL], H0, Below.refl _ _⟩
  case round =>
    obtain ⟨k, hk, rfl, rfl, hb, HW⟩ := hrel
    by_cases hlt : k < l.length
    · obtain ⟨gl, off, rfl, hg, hC⟩ := HR.out.some (by rw [fl_length cc_length]; omega)
      have HX := Lib.hid ((hC.below hb hg).el cc_length hlt)
      replace hg := Lib.hid hg
      replace hC := Lib.hid hC
      have HL := Lib.hid (@cntL_step l b k hlt)
      have hcn := cntL_le (l.take k) b
      have hcl : (l.take k).length ≤ k := by simp; omega
      have hlt2 : (k : Int) < (l.length : Int) := by omega
      generalize l[k]! = c at HX HL
      generalize cntL (l.take k) b = n at HL hcn ⊢
      have hn2 : n ≤ 12582912 := by omega
      go_upto_region 5 with (first | (with_reducible refine wp_load_CAt rfl _ _ rfl _ _ rfl (cc c) HX.out _ Tryz.underlying28 rfl (infoCl c) ?_) | ((with_reducible refine wp_store_rowOf rfl rfl _ _ _ rfl _ rfl (cc c).toArray rfl (cc zC).toArray ?hr (cc_size2 _ _) (infoC _) (cc_one _) ?_); (case hr => rw [rowOf_alloc, if_pos rfl]; rfl)))
      generalize hW1 : World.setRow _ _ _ = W1
      obtain ⟨HB, r1, b1⟩ := laid_row (Below.refl wr.heap.size wr) hW1
      clear hW1
      have hb1 := bstep hb HB
      have HW1 := Lib.hid (bstep HW.out HB)
      generalize wr.heap.size = g1 at r1 ⊢
      clear HX HB HW hb
      have H := Below.refl W1.heap.size W1
      go_wp2_with ((with_reducible refine wp_load_rowBg H ?_ _ _ rfl _ rfl _ r1 _ Tryz.underlying28 rfl (infoC c) ?_); rfl)
      clear H
      go_loopw [5, 17] (fun n' i wr' => ∃ j : Nat, j ≤ 12 ∧ i = .int .i64 j ∧ n' = .int .i64 ((n : Int) + (cntK c b j : Int)) ∧ Below w.heap.size w wr' ∧ Hid (Below W.heap.size W wr')) (fun _ i _ => 12 - (intOf i).toNat)
      case atStart => exact ⟨0, Nat.zero_le _, rfl, by simp [cntK], hb1, HW1⟩
      case round =>
        obtain ⟨j, hj, rfl, rfl, hb2, HW2⟩ := hrel
        by_cases hlt : j < 12
        · have hE := run_indexC c j hlt
          have HY := Lib.hid (@cntK_yes c b j hlt)
          have HN := Lib.hid (@cntK_no c b j hlt)
          have hcj := cntK_le c b j
          have R0 := row_kept r0 HW2.out
          have hg := rowOf_lt R0
          have y0 : wr.cell? ⟨g0, 0, none⟩ = some (.int .u8 b.k) := rowOf_cell R0 0
          have y1 : wr.cell? ⟨g0, 1, none⟩ = some (.int .i16 b.y) := rowOf_cell R0 1
          generalize rB c.toList j = x at hE HY HN
          generalize cntK c b j = m at HY HN hcj ⊢
          cases e1 : x.like b with
          | true =>
            have e2 : (x.k == b.k && x.y == b.y) = true := e1
            have HY' := Lib.hid (HY.out e1)
            clear e1 HN HY
            go_wp2
            go_roundw
            case rel => exact ⟨j + 1, by omega, by go_num, by rw [HY'.out]; exact congrArg (Value.int .i64) (by omega), bstep hb2 (by go_grown), bstep HW2.out (by go_grown)⟩
            case measure => simp [intOf]; omega
          | false =>
            have e2 : (x.k == b.k && x.y == b.y) = false := e1
            have HN' := Lib.hid (HN.out e1)
            clear e1 HN HY
            go_wp2
            go_roundw
            case rel => exact ⟨j + 1, by omega, by go_num, by rw [HN'.out], bstep hb2 (by go_grown), bstep HW2.out (by go_grown)⟩
            case measure => simp [intOf]; omega
        · obtain rfl : j = 12 := by omega
          go_wp2
          go_roundw
          case rel => exact ⟨k + 1, by omega, by go_num, by rw [HL.out]; exact congrArg (Value.int .i64) (by simp [cntC]), hb2, HW2.out⟩
          case measure => simp [intOf]; omega
    · obtain rfl : k = l.length := by omega
      rw [List.take_length]
      go_wp2
      go_ret
      exact ⟨rfl, hb⟩
theorem countOf_any (gl off c0 : Nat) (l : List Cr) (b : Bt) (w : World) (hC : CAt w gl off (fl cc l)) (hb0 : gl < w.heap.size) (hn : l.length ≤ 1048576) :
    Calls Tryz.prog 110 #[.slice (some ⟨gl, off, none⟩) l.length c0, bv b] w fun e w' => e = .returned (.int .i64 (cntL l b)) ∧ Below w.heap.size w w' :=
  countOf_rd _ c0 l b w (.inr ⟨gl, off, rfl, hb0, hC⟩) hn
theorem CountOf_any (gl off c0 : Nat) (l : List Cr) (b : Bt) (w : World) (hC : CAt w gl off (fl cc l)) (hb0 : gl < w.heap.size) (hn : l.length ≤ 1048576) :
    Calls Tryz.prog 51 #[.slice (some ⟨gl, off, none⟩) l.length c0, bv b] w fun e w' => e = .returned (.tuple #[.int .i64 (countR l b).1, .int .i64 (countR l b).2]) ∧ Below w.heap.size w w' := by
  go_enter Tryz.func51, Tryz.ntmps51
  go_upto_region 1 with fail
  generalize hW : World.alloc _ _ = W
  have H0 : Below w.heap.size w W := by rw [← hW]; go_grown
  have r0 : rowOf W (w.heap.size) = some (#[.int .u8 b.k, .int .i16 b.y]) := (by (try rw [← hW]); simp only [rowOf_alloc, World.size_alloc, ↓reduceIte]; all_goals ((repeat' split) <;> first | omega | (exfalso; omega) | rfl))
  clear hW
  have l0 : w.heap.size ≤ w.heap.size := Nat.le_refl _
  generalize h0 : w.heap.size = g0 at r0 ⊢
  replace l0 : w.heap.size ≤ g0 := Nat.le_of_eq h0
  clear h0
  have b0 := rowOf_lt r0
  have H := Below.refl W.heap.size W
  have HC := Lib.hid (⟨hC.below H0 hb0, Nat.lt_of_lt_of_le hb0 H0.size⟩ : CAt W gl off (fl cc l) ∧ gl < W.heap.size)
  clear hC hb0
  cases e1 : stackOk l with
  | false =>
    have HF := Lib.hid (show countR l b = (0, 1) by simp [countR, e1])
    go_wp2_with (first | ((with_reducible refine wp_load_rowBg H ?_ _ _ rfl _ rfl _ r0 _ Tryz.underlying26 rfl (infoB _ _) ?_); rfl) | (go_at_call 103; with_reducible refine (ValidStack_any gl off c0 l _ (HC.out.1.below H HC.out.2) (Nat.lt_of_lt_of_le HC.out.2 H.size) (by omega)).mono ?_; rintro e w' ⟨rfl, hb⟩; replace H := bstep H hb; clear hb; have hc := bcell H) | (go_at_call 19; with_reducible refine (ValidBottle_any b _).mono ?_; rintro e w' ⟨rfl, hb⟩; replace H := bstep H hb; clear hb; have hc := bcell H))
    rw [HF.out]
    exact bodyPost_ret (results_tt rfl) rfl ⟨rfl, bstep H0 H⟩
  | true =>
    cases e2 : b.ok with
    | false =>
      have HF := Lib.hid (show countR l b = (0, 1) by simp [countR, e1, e2])
      go_wp2_with (first | ((with_reducible refine wp_load_rowBg H ?_ _ _ rfl _ rfl _ r0 _ Tryz.underlying26 rfl (infoB _ _) ?_); rfl) | (go_at_call 103; with_reducible refine (ValidStack_any gl off c0 l _ (HC.out.1.below H HC.out.2) (Nat.lt_of_lt_of_le HC.out.2 H.size) (by omega)).mono ?_; rintro e w' ⟨rfl, hb⟩; replace H := bstep H hb; clear hb; have hc := bcell H) | (go_at_call 19; with_reducible refine (ValidBottle_any b _).mono ?_; rintro e w' ⟨rfl, hb⟩; replace H := bstep H hb; clear hb; have hc := bcell H))
      rw [HF.out]
      exact bodyPost_ret (results_tt rfl) rfl ⟨rfl, bstep H0 H⟩
    | true =>
      have HF := Lib.hid (show countR l b = ((cntL l b : Int), 0) by simp [countR, e1, e2])
      go_wp2_with (first | ((with_reducible refine wp_load_rowBg H ?_ _ _ rfl _ rfl _ r0 _ Tryz.underlying26 rfl (infoB _ _) ?_); rfl) | (go_at_call 103; with_reducible refine (ValidStack_any gl off c0 l _ (HC.out.1.below H HC.out.2) (Nat.lt_of_lt_of_le HC.out.2 H.size) (by omega)).mono ?_; rintro e w' ⟨rfl, hb⟩; replace H := bstep H hb; clear hb; have hc := bcell H) | (go_at_call 19; with_reducible refine (ValidBottle_any b _).mono ?_; rintro e w' ⟨rfl, hb⟩; replace H := bstep H hb; clear hb; have hc := bcell H) | (go_at_call 110; with_reducible refine (countOf_any gl off c0 l b _ (HC.out.1.below H HC.out.2) (Nat.lt_of_lt_of_le HC.out.2 H.size) hn).mono ?_; rintro e w' ⟨rfl, hb⟩; replace H := bstep H hb; clear hb; have hc := bcell H))
      rw [HF.out]
      exact bodyPost_ret (results_tt rfl) rfl ⟨rfl, bstep H0 H⟩
end Go.Proofs.YtbngpcghognojaaGreatDoor
namespace Go.Proofs.YtbngpcghognojaaGreatDoor
open Go.RowKit
set_option linter.unusedVariables false
set_option linter.unusedSimpArgs false
set_option maxRecDepth 100000
set_option maxHeartbeats 1000000
def use1 (c : Cr) (x : Wt) : Int := min x.n (cntC c x.b)
def useW (c : Cr) (l : List Wt) : Int := (l.map (use1 c)).sum
theorem useW_step {c : Cr} {l : List Wt} {k : Nat} (hk : k < l.length) : useW c (l.take (k + 1)) = useW c (l.take k) + use1 c l[k]! := by
  unfold useW
  rw [List.take_succ_eq_append_getElem hk, getB hk, List.map_append, List.sum_append]
  simp
theorem cntC_le (c : Cr) (b : Bt) : cntC c b ≤ 12 := cntK_le c b 12
theorem useW_le (c : Cr) : ∀ l : List Wt, -(32768 * (l.length : Int)) ≤ useW c l ∧ useW c l ≤ 32768 * (l.length : Int)
  | [] => by simp [useW]
  | x :: l => by
    have h := useW_le c l
    have hx := x.hn
    have hc := cntC_le c x.b
    have e : useW c (x :: l) = use1 c x + useW c l := by simp [useW]
    rw [e, List.length_cons]
    unfold use1
    omega
def usefulR (c : Cr) (l : List Wt) : Int × Int := if (c.ok && ordOk l) = true then (useW c l, 0) else (0, 1)
section
variable {P : Program} {ops : Array Oper} {W : World}
/-- A step that yields a value and lays something new that is known. -/
theorem found_val {P : Program} {W w w' : World} {γ : Fact} {u : Value} {k : Value → Fact → Prop} {Φ : World → Prop} (hΦ : ∀ w w', Φ w → BelowOf w w' → Φ w') (H : Below W.heap.size W w) (hγ : γ.p w) (hb : Below w.heap.size w w') (hv : Φ w')
    (h : k u (γ.and Φ hΦ)) : gUpon (CF W) P k (.ok (.value u) w') := ⟨γ.and Φ hΦ, ⟨bstep H hb, γ.s _ _ hγ hb, hv⟩, h⟩
end
attribute [local go_sem high] eqB
theorem l02Has_any (gl off : Nat) (c : Cr) (b : Bt) (w : World) (hC : CAt w gl off (cc c)) (hb0 : gl < w.heap.size) :
    Calls Tryz.prog 111 #[.pointer (some ⟨gl, off, none⟩), bv b] w fun e w' => e = .returned (.int .i64 (cntC c b)) ∧ Below w.heap.size w w' := by
  have hu := Tryz.underlying26
  go_enter Tryz.func111, Tryz.ntmps111
  go_upto_region 1 with fail
  generalize hW : World.alloc _ _ = W
  have H0 : Below w.heap.size w W := by rw [← hW]; go_grown
  have r0 : rowOf W (w.heap.size) = some (#[.int .u8 b.k, .int .i16 b.y]) := (by (try rw [← hW]); simp only [rowOf_alloc, World.size_alloc, ↓reduceIte]; all_goals ((repeat' split) <;> first | omega | (exfalso; omega) | rfl))
  clear hW
  have l0 : w.heap.size ≤ w.heap.size := Nat.le_refl _
  generalize h0 : w.heap.size = g0 at r0 ⊢
  replace l0 : w.heap.size ≤ g0 := Nat.le_of_eq h0
  clear h0
  have b0 := rowOf_lt r0
  have H := Below.refl W.heap.size W
  have HC := Lib.hid (⟨hC.below H0 hb0, Nat.lt_of_lt_of_le hb0 H0.size⟩ : CAt W gl off (cc c) ∧ gl < W.heap.size)
  clear hC hb0
  go_wp2
  go_loopw [5, 6] (fun n i wr => ∃ j : Nat, j ≤ 12 ∧ i = .int .i64 j ∧ n = .int .i64 (cntK c b j) ∧ Hid (Below W.heap.size W wr)) (fun _ i _ => 12 - (intOf i).toNat)
  case atStart => exact ⟨0, Nat.zero_le _, rfl, by simp [cntK], H⟩
  case round =>
    clear H
    obtain ⟨j, hj, rfl, rfl, HW⟩ := hrel
    by_cases hlt : j < 12
    · have hjl : j < c.toList.length := by rw [Vector.length_toList]; exact hlt
      have HY := Lib.hid (@cntK_yes c b j hlt)
      have HN := Lib.hid (@cntK_no c b j hlt)
      have hcj := cntK_le c b j
      have R0 := row_kept r0 HW.out
      have y0 : wr.cell? ⟨g0, 0, none⟩ = some (.int .u8 b.k) := rowOf_cell R0 0
      have y1 : wr.cell? ⟨g0, 1, none⟩ = some (.int .i16 b.y) := rowOf_cell R0 1
      have x0 : wr.cell? ⟨gl, off + j * 2, none⟩ = some (.int .u8 (rB c.toList j).k) := (HC.out.1.below HW.out HC.out.2).bot0 hjl
      have x1 : wr.cell? ⟨gl, off + j * 2 + 1, none⟩ = some (.int .i16 (rB c.toList j).y) := (HC.out.1.below HW.out HC.out.2).bot1 hjl
      have hj2 : (j : Int) < 12 := by omega
      clear hjl R0
      generalize rB c.toList j = x at x0 x1 HY HN
      generalize cntK c b j = m at HY HN hcj ⊢
      go_upto_region 5 with fail
      cases e1 : x.like b with
      | true =>
        have e2 : (x.k == b.k && x.y == b.y) = true := e1
        have HY' := Lib.hid (HY.out e1)
        clear e1 HN HY
        go_quiet (fail)
        have hq := bdrewN (Below.refl wr.heap.size wr) nq
        generalize wr.drewN nq = wq at hq ⊢
        go_wp2
        go_roundw
        case rel => exact ⟨j + 1, by omega, by go_num, by rw [HY'.out]; exact congrArg (Value.int .i64) (by omega), bstep HW.out hq⟩
        case measure => simp [intOf]; omega
      | false =>
        have e2 : (x.k == b.k && x.y == b.y) = false := e1
        have HN' := Lib.hid (HN.out e1)
        clear e1 HN HY
        go_quiet (fail)
        have hq := bdrewN (Below.refl wr.heap.size wr) nq
        generalize wr.drewN nq = wq at hq ⊢
        go_wp2
        go_roundw
        case rel => exact ⟨j + 1, by omega, by go_num, by rw [HN'.out], bstep HW.out hq⟩
        case measure => simp [intOf]; omega
    · obtain rfl : j = 12 := by omega
      go_wp2
      go_ret
      exact ⟨rfl, bstep H0 HW.out⟩
theorem l00Min_any (a b : Int) (w : World) : Calls Tryz.prog 102 #[.int .i64 a, .int .i64 b] w fun e w' => e = .returned (.int .i64 (min a b)) ∧ w = w' := by
  rcases (by omega : a < b ∨ b ≤ a) with h | h
  · have HF := Lib.hid (show min a b = a by omega)
    go_enter Tryz.func102, Tryz.ntmps102
    go_wp2
    go_ret
    exact ⟨by rw [HF.out]; rfl, rfl⟩
  · have HF := Lib.hid (show min a b = b by omega)
    have h2 : ¬ a < b := by omega
    go_enter Tryz.func102, Tryz.ntmps102
    go_wp2
    go_ret
    exact ⟨by rw [HF.out]; rfl, rfl⟩
end Go.Proofs.YtbngpcghognojaaGreatDoor
namespace Go.Proofs.YtbngpcghognojaaGreatDoor
open Go.RowKit
set_option linter.unusedVariables false
set_option linter.unusedSimpArgs false
set_option maxRecDepth 100000
set_option maxHeartbeats 1000000
attribute [local go_sem] Oper.qB
/-- What is wanted beyond so many. -/
def lack1 (x : Wt) (m : Nat) : List Wt := if h : 0 < x.n - (m : Int) then [⟨x.b, x.n - m, by have := x.hn; omega⟩] else []
def lackL (f : Bt → Nat) (l : List Wt) : List Wt := l.flatMap fun x => lack1 x (f x.b)
theorem lackL_step {f : Bt → Nat} {l : List Wt} {k : Nat} (hk : k < l.length) : lackL f (l.take (k + 1)) = lackL f (l.take k) ++ lack1 l[k]! (f l[k]!.b) := by
  unfold lackL
  rw [List.take_succ_eq_append_getElem hk, getB hk, List.flatMap_append]
  simp
theorem lack1_le (x : Wt) (m : Nat) : (lack1 x m).length ≤ 1 := by
  unfold lack1
  split <;> simp
theorem lackL_le (f : Bt → Nat) : ∀ l : List Wt, (lackL f l).length ≤ l.length
  | [] => by simp [lackL]
  | x :: l => by
    have h := lackL_le f l
    have h1 := lack1_le x (f x.b)
    have e : lackL f (x :: l) = lack1 x (f x.b) ++ lackL f l := by simp [lackL]
    rw [e, List.length_append, List.length_cons]
    omega
theorem lack1_yes {x : Wt} {m : Nat} (h : 0 < x.n - (m : Int)) : lack1 x m = [⟨x.b, x.n - m, by have := x.hn; omega⟩] := dif_pos h
theorem lack1_no {x : Wt} {m : Nat} (h : ¬ 0 < x.n - (m : Int)) : lack1 x m = [] := dif_neg h
theorem lack_any (A0 : Option Addr) (c0 : Nat) (lc : List Cr) (b off c1 : Nat) (l : List Wt) (w : World) (hr : RdA w A0 (fl cc lc)) (hC : CAt w b off (fl wc l)) (hb1 : b < w.heap.size) (hn : lc.length ≤ 1048576) (hl : l.length ≤ 1000000) :
    Calls Tryz.prog 104 #[.slice A0 lc.length c0, .slice (some ⟨b, off, none⟩) l.length c1] w fun e w' => ∃ v, e = .returned v ∧ OwnS wc w' w.heap.size 81 3 v (lackL (cntL lc) l) ∧ Below w.heap.size w w' := by
  have HC := Lib.hid (⟨hC, hb1⟩ : _ ∧ _)
  have HR := Lib.hid hr
  clear hC hb1 hr
  go_enter Tryz.func104, Tryz.ntmps104
  go_wp2
  go_loopw [5, 12] (fun v i wr => ∃ k : Nat, k ≤ l.length ∧ i = .int .i64 k ∧ Hid (OwnS wc wr w.heap.size 81 3 v (lackL (cntL lc) (l.take k))) ∧ Below w.heap.size w wr) (fun _ i _ => l.length - (intOf i).toNat)
  case atStart => exact ⟨0, Nat.zero_le _, rfl, OwnS.lit (Nat.le_refl _), by go_grown⟩
  case round =>
    obtain ⟨k, hk, rfl, HO, hb⟩ := hrel
    by_cases hlt : k < l.length
    · have HX := (HC.out.1.below hb HC.out.2).el wc_length hlt
      have R0 := Lib.hid (HR.out.below hb)
      have HL := Lib.hid (@lackL_step (cntL lc) l k hlt)
      have HP := Lib.hid (lackL_le (cntL lc) (l.take k))
      have hcl : (l.take k).length ≤ k := by simp; omega
      have hlt2 : (k : Int) < (l.length : Int) := by omega
      generalize l[k]! = x at HX HL
      generalize lackL (cntL lc) (l.take k) = lk at HO HL HP
      have hxn := x.hn
      have hxc := cntL_le lc x.b
      have x0 : wr.cell? ⟨b, off + k * 3, none⟩ = some (.int .u8 x.b.k) := HX 0 _ rfl
      have x1 : wr.cell? ⟨b, off + k * 3 + 1, none⟩ = some (.int .i16 x.b.y) := HX 1 _ rfl
      have x2 : wr.cell? ⟨b, off + k * 3 + 2, none⟩ = some (.int .i16 x.n) := HX 2 _ rfl
      go_upto_region 5 with fail
      generalize hW1 : World.alloc _ _ = W1
      have hg : Below wr.heap.size wr W1 := by rw [← hW1]; go_grown
      have r4 : rowOf W1 wr.heap.size = some (wc x).toArray := by rw [← hW1, rowOf_alloc, if_pos rfl]; rfl
      have R1 := R0.out.below hg
      have HO1 := Lib.hid (HO.out.kept hg)
      have hb2 := Lib.hid (bstep hb hg)
      clear hW1 x0 x1 x2 hb hg R0 HX HO
      generalize wr.heap.size = g4 at r4 ⊢
      have z0 := cell_regrown (show W1.cell? ⟨g4, 0, none⟩ = some (.int .u8 x.b.k) from rowOf_cell r4 0)
      have z1 := cell_regrown (show W1.cell? ⟨g4, 1, none⟩ = some (.int .i16 x.b.y) from rowOf_cell r4 1)
      have z2 := cell_regrown (show W1.cell? ⟨g4, 2, none⟩ = some (.int .i16 x.n) from rowOf_cell r4 2)
      have hwx : IntKind.i64.wrap x.n = x.n := by rw [IntKind.wrap_i64]; omega
      have hwm : IntKind.i64.wrap (x.n - (cntL lc x.b : Int)) = x.n - (cntL lc x.b : Int) := by rw [IntKind.wrap_i64]; omega
      have H := Below.refl W1.heap.size W1
      refine g_start 9 rfl (by kernel_rfl) ?_
      (refine g_quiet 0 (by kernel_rfl) rfl (fun K hK => ?_); first | ((first | fail); clear hK K) | (go_simp; first | (refine hK _ ?_; clear hK K) | (apply Exists.intro; refine ⟨fun _ => ?_, hK _ ?_⟩; (first | fail); clear hK K)))
      (refine g_quiet 1 (by kernel_rfl) rfl (fun K hK => ?_); first | ((first | fail); clear hK K) | (go_simp; first | (refine hK _ ?_; clear hK K) | (apply Exists.intro; refine ⟨fun _ => ?_, hK _ ?_⟩; (first | fail); clear hK K)))
      (refine g_quiet 2 (by kernel_rfl) rfl (fun K hK => ?_); first | ((first | fail); clear hK K) | (go_simp; first | (refine hK _ ?_; clear hK K) | (apply Exists.intro; refine ⟨fun _ => ?_, hK _ ?_⟩; (first | fail); clear hK K)))
      (refine g_quiet 3 (by kernel_rfl) rfl (fun K hK => ?_); first | ((first | fail); clear hK K) | (go_simp; first | (refine hK _ ?_; clear hK K) | (apply Exists.intro; refine ⟨fun _ => ?_, hK _ ?_⟩; (first | fail); clear hK K)))
      (refine g_quiet 4 (by kernel_rfl) rfl (fun K hK => ?_); first | ((first | fail); clear hK K) | (go_simp; first | (refine hK _ ?_; clear hK K) | (apply Exists.intro; refine ⟨fun _ => ?_, hK _ ?_⟩; (first | fail); clear hK K)))
      (refine g_quiet 5 (by kernel_rfl) rfl (fun K hK => ?_); first | ((first | fail); clear hK K) | (go_simp; first | (refine hK _ ?_; clear hK K) | (apply Exists.intro; refine ⟨fun _ => ?_, hK _ ?_⟩; (first | fail); clear hK K)))
      refine g_alone 6 (by kernel_rfl) rfl rfl (fun K hK wx hwx hfx => ?_)
      have hfy := hfx
      obtain _ := hfy
      go_simp
      refine plain_call hwx hfx (countOf_rd A0 c0 lc x.b _ (R1.below (by assumption)) hn) (hK _ _ ?_)
      clear hfx hwx hK K
      (refine g_quiet 7 (by kernel_rfl) rfl (fun K hK => ?_); first | ((first | fail); clear hK K) | (go_simp; first | (refine hK _ ?_; clear hK K) | (apply Exists.intro; refine ⟨fun _ => ?_, hK _ ?_⟩; (first | fail); clear hK K)))
      (refine g_quiet 8 (by kernel_rfl) rfl (fun K hK => ?_); first | ((first | fail); clear hK K) | (go_simp; first | (refine hK _ ?_; clear hK K) | (apply Exists.intro; refine ⟨fun _ => ?_, hK _ ?_⟩; (first | fail); clear hK K)))
      refine g_done (by kernel_rfl) ?_
      rintro w2 hw2 -
      have y0 : w2.cell? ⟨g4, 0, none⟩ = some (.int .u8 x.b.k) := rowOf_cell (row_kept r4 hw2) 0
      have y1 : w2.cell? ⟨g4, 1, none⟩ = some (.int .i16 x.b.y) := rowOf_cell (row_kept r4 hw2) 1
      have HB := Lib.hid (bstep hb2.out hw2)
      have HO2 := Lib.hid (HO1.out.kept hw2)
      clear z0 z1 z2 R1 H
      by_cases hp : 0 < x.n - (cntL lc x.b : Int)
      · have HY := Lib.hid (lack1_yes hp)
        have hwn : IntKind.i16.wrap (x.n - (cntL lc x.b : Int)) = x.n - (cntL lc x.b : Int) := wrap_i16 (by omega)
        go_wp2_with (at_builtin; refine wp_app_want w.heap.size rfl _ _ rfl _ lk ⟨x.b, x.n - (cntL lc x.b : Int), by omega⟩ rfl _ rfl ?hg ?HO ?hB ?hn ?_; (case hg => simp); (case HO => exact HO2.out); (case hB => exact HB.out.size); (case hn => have := HP.out; omega); intro v1 w1 hown hb1)
        go_roundw
        case rel => exact ⟨k + 1, by omega, by go_num, by rw [HL.out, HY.out]; exact hown, HB.out.trans hb1⟩
        case measure => simp [intOf]; omega
      · have HY := Lib.hid (lack1_no hp)
        go_wp2
        go_roundw
        case rel => exact ⟨k + 1, by omega, by go_num, by rw [HL.out, HY.out, List.append_nil]; exact HO2.out, HB.out⟩
        case measure => simp [intOf]; omega
    · obtain rfl : k = l.length := by omega
      rw [List.take_length] at HO
      go_wp2
      go_ret
      exact ⟨_, rfl, HO.out, hb⟩
end Go.Proofs.YtbngpcghognojaaGreatDoor
namespace Go.Proofs.YtbngpcghognojaaGreatDoor
open Go.RowKit
set_option linter.unusedVariables false
set_option linter.unusedSimpArgs false
set_option maxRecDepth 100000
set_option maxHeartbeats 1000000
attribute [local go_sem] Oper.qB
/-- Number i is told there for the first time. -/
def fresh (ks : List Int) (i : Nat) : Bool := !(ks.take i).contains (ks.getD i 0)
def opK (lc : List Cr) (ks : List Int) (j : Nat) : List Cr := ((List.range j).filter (fresh ks)).map fun i => lc[(ks.getD i 0).toNat]!
/-- Some crates, each once. -/
def opL (lc : List Cr) (ks : List Int) : List Cr := opK lc ks ks.length
theorem opK_yes {lc : List Cr} {ks : List Int} {j : Nat} (h : fresh ks j = true) : opK lc ks (j + 1) = opK lc ks j ++ [lc[(ks.getD j 0).toNat]!] := by
  unfold opK
  rw [List.range_succ, List.filter_append, List.map_append]
  simp [h]
theorem opK_no {lc : List Cr} {ks : List Int} {j : Nat} (h : fresh ks j = false) : opK lc ks (j + 1) = opK lc ks j := by
  unfold opK
  rw [List.range_succ, List.filter_append, List.map_append]
  simp [h]
theorem opK_le (lc : List Cr) (ks : List Int) (j : Nat) : (opK lc ks j).length ≤ j := by
  unfold opK
  rw [List.length_map]
  exact Nat.le_trans (List.length_filter_le _ _) (by simp)
theorem cntL_snoc (l : List Cr) (c : Cr) (b : Bt) : cntL (l ++ [c]) b = cntL l b + cntC c b := by simp [cntL]
theorem RdA.take {w : World} {A : Option Addr} {vs : List Value} (h : RdA w A vs) (k : Nat) : RdA w A (vs.take k) := by
  rcases h with rfl | ⟨g, off, rfl, hg, hC⟩
  · exact .inl (by simp)
  · exact .inr ⟨g, off, rfl, hg, hC.take k⟩
theorem vi_take (l : List Int) (k : Nat) : vi (l.take k) = (vi l).take k := by simp [vi, List.map_take]
theorem has_step {l : List Int} {k : Nat} {x : Int} (hk : k < l.length) (h : (l.take k).contains x = false) : (l.take (k + 1)).contains x = (l.getD k 0 == x) := by
  have e : l[k] = l.getD k 0 := by simp [List.getD_eq_getElem?_getD, hk]
  rw [List.take_succ_eq_append_getElem hk, e]
  simp only [List.contains_eq_mem, List.mem_append, List.mem_singleton, decide_eq_false_iff_not] at h ⊢
  rw [Bool.eq_iff_iff, decide_eq_true_iff, beq_iff_eq]
  exact ⟨fun q => (q.resolve_left h).symm, fun q => .inr q.symm⟩
theorem has_hit {l : List Int} {k : Nat} (hk : k < l.length) : l.contains (l.getD k 0) = true := by
  have e : l[k] = l.getD k 0 := by simp [List.getD_eq_getElem?_getD, hk]
  rw [← e]
  simp
theorem l00Has_rd (A : Option Addr) (c n : Nat) (l : List Int) (x : Int) (w : World) (h : RdA w A (vi l)) (hn : l.length = n) (hm : n ≤ 1000000000) :
    Calls Tryz.prog 83 #[.slice A n c, .int .i64 x] w fun e w' => e = .returned (.bool (l.contains x)) ∧ w = w' := by
  subst hn
  have HR := Lib.hid h
  clear h
  go_enter Tryz.func83, Tryz.ntmps83
  go_wp2
  go_loopw [5] (fun i wr => ∃ k : Nat, k ≤ l.length ∧ i = .int .i64 k ∧ Hid ((l.take k).contains x = false) ∧ wr = w) (fun i _ => l.length - (intOf i).toNat)
  case atStart => exact ⟨0, Nat.zero_le _, rfl, rfl, rfl⟩
  case round =>
    obtain ⟨k, hk, rfl, HN, rfl⟩ := hrel
    by_cases hlt : k < l.length
    · obtain ⟨g, off, rfl, hg, hC⟩ := HR.out.some (by rw [vi_length]; omega)
      have x0 := hC k _ (vi_at l k hlt)
      have HS := Lib.hid (has_step hlt HN.out)
      have HT := Lib.hid (has_hit hlt)
      clear hC HN
      generalize l.getD k 0 = y at x0 HS HT
      by_cases he : y = x
      · subst he
        have HT2 := Lib.hid HT.out
        go_wp2
        go_ret
        exact ⟨ret_bool HT2.out.symm, rfl⟩
      · have HS2 : Hid ((l.take (k + 1)).contains x = false) := by
          rw [Hid, HS.out]
          simpa using he
        go_wp2
        go_roundw
        case rel => exact ⟨k + 1, by omega, by go_num, HS2, trivial⟩
        case measure => simp [intOf]; omega
    · obtain rfl : k = l.length := by omega
      rw [List.take_length] at HN
      go_wp2
      go_ret
      exact ⟨ret_bool HN.out.symm, rfl⟩
theorem l02Lack_any (A0 : Option Addr) (c0 : Nat) (lc : List Cr) (b off c1 : Nat) (l : List Wt) (A2 : Option Addr) (c2 : Nat) (ks : List Int) (w : World) (hr : RdA w A0 (fl cc lc)) (hC : CAt w b off (fl wc l)) (hb1 : b < w.heap.size) (h2 : RdA w A2 (vi ks))
    (hk : ∀ x ∈ ks, 0 ≤ x ∧ x < lc.length) (hc2 : ks.length ≤ c2) (hn : lc.length ≤ 1048576) (hl : l.length ≤ 1000000) (hkn : ks.length ≤ 1048576) :
    Calls Tryz.prog 106 #[.slice A0 lc.length c0, .slice (some ⟨b, off, none⟩) l.length c1, .slice A2 ks.length c2] w fun e w' => ∃ v, e = .returned v ∧ OwnS wc w' w.heap.size 81 3 v (lackL (cntL (opL lc ks)) l) ∧ Below w.heap.size w w' := by
  have HC := Lib.hid (⟨hC, hb1⟩ : _ ∧ _)
  have HR := Lib.hid hr
  have H2 := Lib.hid h2
  have HK := Lib.hid hk
  clear hC hb1 hr h2 hk
  go_enter Tryz.func106, Tryz.ntmps106
  go_wp2
  go_loopw [7, 8] (fun v i wr => ∃ k : Nat, k ≤ l.length ∧ i = .int .i64 k ∧ Hid (OwnS wc wr w.heap.size 81 3 v (lackL (cntL (opL lc ks)) (l.take k))) ∧ Below w.heap.size w wr) (fun _ i _ => l.length - (intOf i).toNat)
  case atStart => exact ⟨0, Nat.zero_le _, rfl, OwnS.lit (Nat.le_refl _), by go_grown⟩
  case round =>
    obtain ⟨k, hk, rfl, HO, hb⟩ := hrel
    obtain ⟨wo, hwo⟩ : ∃ wo, wo = wr := ⟨_, rfl⟩
    subst hwo
    by_cases hlt : k < l.length
    · have HX := Lib.hid ((HC.out.1.below hb HC.out.2).el wc_length hlt)
      have HW := Lib.hid (Nat.lt_of_lt_of_le HC.out.2 hb.size)
      have R0 := Lib.hid (HR.out.below hb)
      have R2 := Lib.hid (H2.out.below hb)
      have HL := Lib.hid (@lackL_step (cntL (opL lc ks)) l k hlt)
      have HP := Lib.hid (lackL_le (cntL (opL lc ks)) (l.take k))
      have hcl : (l.take k).length ≤ k := by simp; omega
      have hlt2 : (k : Int) < (l.length : Int) := by omega
      generalize l[k]! = x at HX HL
      generalize lackL (cntL (opL lc ks)) (l.take k) = lk at HO HL HP
      obtain ⟨hn1, hn2⟩ := x.hn
      have x2 : wo.cell? ⟨b, off + k * 3 + 2, none⟩ = some (.int .i16 x.n) := HX.out 2 _ rfl
      have hwx : IntKind.i64.wrap x.n = x.n := by rw [IntKind.wrap_i64]; omega
      go_wp2
      go_loopw [9, 10] (fun n i wr => ∃ j : Nat, j ≤ ks.length ∧ i = .int .i64 j ∧ n = .int .i64 (x.n - (cntL (opK lc ks j) x.b : Int)) ∧ Hid (Below wo.heap.size wo wr)) (fun _ i _ => ks.length - (intOf i).toNat)
      case atStart => exact ⟨0, Nat.zero_le _, rfl, by simp [opK, cntL], Below.refl _ _⟩
      case round =>
        obtain ⟨j, hj, rfl, rfl, HQ⟩ := hrel
        by_cases hltj : j < ks.length
        · obtain ⟨g2, off2, rfl, hg2, hC2⟩ := R2.out.some (by rw [vi_length]; omega)
          obtain ⟨hy1, hy2⟩ := HK.out (ks.getD j 0) (by rw [List.getD_eq_getElem?_getD, List.getElem?_eq_getElem hltj]; exact List.getElem_mem hltj)
          obtain ⟨g0, off0, rfl, hg0, hC0⟩ := R0.out.some (by rw [fl_length cc_length]; omega)
          have HY := Lib.hid (@opK_yes lc ks j)
          have HN := Lib.hid (@opK_no lc ks j)
          have HF : Hid (fresh ks j = !(ks.take j).contains (ks.getD j 0)) := rfl
          have hle := opK_le lc ks j
          have hcn := cntL_le (opK lc ks j) x.b
          have Y0 := Lib.hid ((HQ.out.cell hg2).trans (hC2 j _ (vi_at ks j hltj)))
          have G2 := Lib.hid (Nat.lt_of_lt_of_le hg2 HQ.out.size)
          have HG2 : Hid (RdA wr (some ⟨g2, off2, none⟩) (vi (ks.take j))) := by rw [vi_take]; exact (R2.out.below HQ.out).take j
          have HCX := Lib.hid ((hC0.below HQ.out hg0).el cc_length (i := (ks.getD j 0).toNat) (by omega))
          have hg0' := Lib.hid (Nat.lt_of_lt_of_le hg0 HQ.out.size)
          have ZX := Lib.hid (HX.out.below HQ.out HW.out)
          have ZW := Lib.hid (Nat.lt_of_lt_of_le HW.out HQ.out.size)
          clear hC2 hC0 hg2 hg0 R0 R2
          have hlj : (ks.take j).length = j := by simp; omega
          generalize ks.getD j 0 = y at Y0 HF HY HN HCX hy1 hy2
          obtain ⟨i, rfl⟩ : ∃ i : Nat, y = (i : Int) := ⟨y.toNat, by omega⟩
          rw [Int.toNat_natCast] at HY HCX
          have hi2 : i < lc.length := by omega
          generalize lc[i]! = c at HY HCX
          have hcc := cntC_le c x.b
          have hsn := Lib.hid (cntL_snoc (opK lc ks j) c x.b)
          generalize hm : cntL (opK lc ks j) x.b = m at hcn hsn ⊢
          replace hm := Lib.hid hm
          have hHas := fun (W : World) (h : Below wr.heap.size wr W) => below_of_same (l00Has_rd (some ⟨g2, off2, none⟩) c2 j (ks.take j) (i : Int) W (HG2.out.below h) hlj (by omega))
          generalize (ks.take j).contains (i : Int) = r at hHas HF
          have hj2 : (j : Int) < (ks.length : Int) := by omega
          have hmb : m ≤ 12582912 := by omega
          have hw0 : IntKind.i64.wrap (x.n - (m : Int)) = x.n - (m : Int) := by rw [IntKind.wrap_i64]; omega
          have hw1 : IntKind.i64.wrap (x.n - (m : Int) - (cntC c x.b : Int)) = x.n - (m : Int) - (cntC c x.b : Int) := by rw [IntKind.wrap_i64]; omega
          have hjc : j ≤ c2 := by omega
          have hjc2 : (j : Int) ≤ (c2 : Int) := by omega
          have y0 := cell_regrown Y0.out
          go_upto_region 9 with fail
          have H := Below.refl wr.heap.size wr
          cases r with
          | true =>
            have HE := Lib.hid (HN.out HF.out)
            refine wp_region_qB (by kernel_rfl) (by kernel_rfl) ?_
            (repeat (first | fail | (apply qB_step; intro K hK; go_simp; first | (refine hK _ ?_; clear hK K) | (apply Exists.intro; refine ⟨fun _ => ?_, hK _ ?_⟩; (first | (go_at_call 83 <;> exact hHas _ (below_regrown _ _ _))); clear hK K))))
            refine qB_nil ?_
            intro w1 hw1
            replace H := bstep H hw1
            clear hw1
            go_wp2
            go_roundw
            case rel => exact ⟨j + 1, by omega, by go_num, by rw [HE.out, hm.out], bstep HQ.out H⟩
            case measure => simp [intOf]; omega
          | false =>
            have HE := Lib.hid (HY.out HF.out)
            refine wp_region_qB (by kernel_rfl) (by kernel_rfl) ?_
            (repeat (first | fail | (apply qB_step; intro K hK; go_simp; first | (refine hK _ ?_; clear hK K) | (apply Exists.intro; refine ⟨fun _ => ?_, hK _ ?_⟩; (first | (go_at_call 83 <;> exact hHas _ (below_regrown _ _ _))); clear hK K))))
            refine qB_nil ?_
            intro w1 hw1
            replace H := bstep H hw1
            clear hw1
            clear y0 hHas
            have y0 := cell_regrown ((H.cell G2.out).trans Y0.out)
            have z0 := cell_regrown ((H.cell ZW.out).trans (ZX.out 0 _ rfl))
            have z1 := cell_regrown ((H.cell ZW.out).trans (ZX.out 1 _ rfl))
            rw [Nat.add_zero] at z0
            have HC1 := Lib.hid (⟨HCX.out.below H hg0'.out, Nat.lt_of_lt_of_le hg0'.out H.size⟩ : CAt w1 g0 _ (cc c) ∧ g0 < w1.heap.size)
            go_upto_region 10 with fail
            have HH := Lib.hid H
            clear H
            have H := Below.refl w1.heap.size w1
            refine wp_region_qB (by kernel_rfl) (by kernel_rfl) ?_
            (repeat (first | fail | (apply qB_step; intro K hK; go_simp; first | (refine hK _ ?_; clear hK K) | (apply Exists.intro; refine ⟨fun _ => ?_, hK _ ?_⟩; (first | (go_at_call 111 <;> exact l02Has_any g0 _ c x.b _ (HC1.out.1.below (below_regrown _ _ _) HC1.out.2) (Nat.lt_of_lt_of_le HC1.out.2 (below_regrown _ _ _).size))); clear hK K))))
            refine qB_nil ?_
            intro w1 hw1
            replace H := bstep H hw1
            clear hw1
            go_wp2
            go_roundw
            case rel => exact ⟨j + 1, by omega, by go_num, by rw [HE.out, hsn.out]; exact congrArg (Value.int .i64) (by omega), bstep (bstep HQ.out HH.out) H⟩
            case measure => simp [intOf]; omega
        · obtain rfl : j = ks.length := by omega
          have HO1 := Lib.hid (HO.out.kept HQ.out)
          have hb1 := bstep hb HQ.out
          have HD : Hid (cntL (opL lc ks) x.b = cntL (opK lc ks ks.length) x.b) := rfl
          have hle := opK_le lc ks ks.length
          have hcn := cntL_le (opK lc ks ks.length) x.b
          have x0 : wr.cell? ⟨b, off + k * 3, none⟩ = some (.int .u8 x.b.k) := (HQ.out.cell HW.out).trans (HX.out 0 _ rfl)
          have x1 : wr.cell? ⟨b, off + k * 3 + 1, none⟩ = some (.int .i16 x.b.y) := (HQ.out.cell HW.out).trans (HX.out 1 _ rfl)
          have hp2 := HP.out
          clear x2
          rw [HD.out] at HL
          generalize cntL (opK lc ks ks.length) x.b = m at hcn HL ⊢
          have hmb : m ≤ 12582912 := by omega
          have hw0 : IntKind.i64.wrap (x.n - (m : Int)) = x.n - (m : Int) := by rw [IntKind.wrap_i64]; omega
          by_cases hp : 0 < x.n - (m : Int)
          · have HY := Lib.hid (lack1_yes hp)
            have hwn : IntKind.i16.wrap (x.n - (m : Int)) = x.n - (m : Int) := wrap_i16 (by omega)
            go_wp2_with (at_builtin; refine wp_app_want w.heap.size rfl _ _ rfl _ lk ⟨x.b, x.n - (m : Int), by omega⟩ rfl _ rfl ?hg ?HO ?hB ?hn ?_; (case hg => simp); (case HO => exact HO1.out); (case hB => exact hb1.size); (case hn => omega); intro v1 w1 hown hb2)
            go_roundw
            case rel => exact ⟨k + 1, by omega, by go_num, by rw [HL.out, HY.out]; exact hown, hb1.trans hb2⟩
            case measure => simp [intOf]; omega
          · have HY := Lib.hid (lack1_no hp)
            go_wp2
            go_roundw
            case rel => exact ⟨k + 1, by omega, by go_num, by rw [HL.out, HY.out, List.append_nil]; exact HO1.out, hb1⟩
            case measure => simp [intOf]; omega
    · obtain rfl : k = l.length := by omega
      rw [List.take_length] at HO
      go_wp2
      go_ret
      exact ⟨_, rfl, HO.out, hb⟩
end Go.Proofs.YtbngpcghognojaaGreatDoor
