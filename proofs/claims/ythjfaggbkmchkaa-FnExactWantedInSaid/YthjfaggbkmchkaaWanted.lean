/- Contracts of WantedIn: how many bottles an order wants. -/
import Derived.Test.YthjfaggbkmchkaaOrder
namespace Go.Proofs.Ythjfaggbkmchkaa
open Go.RowKit
set_option linter.unusedVariables false
set_option linter.unusedSimpArgs false
set_option maxRecDepth 100000
set_option maxHeartbeats 400000
def sumW (l : List Wt) : Int := (l.map Wt.n).sum
theorem sumW_step {l : List Wt} {k : Nat} (hk : k < l.length) : sumW (l.take (k + 1)) = sumW (l.take k) + l[k]!.n := by
  unfold sumW
  rw [List.take_succ_eq_append_getElem hk, getB hk, List.map_append, List.sum_append]
  simp
theorem sumW_le : ∀ l : List Wt, -(32768 * (l.length : Int)) ≤ sumW l ∧ sumW l ≤ 32768 * (l.length : Int)
  | [] => by simp [sumW]
  | x :: l => by
    have h := sumW_le l
    have hx := x.hn
    have e : sumW (x :: l) = x.n + sumW l := by simp [sumW]
    rw [e, List.length_cons]
    omega
def wantedR (l : List Wt) : Int × Int := if ordOk l = true then (sumW l, 0) else (0, 1)
theorem l02Sum_any (b off c : Nat) (l : List Wt) (w : World) (hC : CAt w b off (fl wc l)) (hb : b < w.heap.size) (hn : l.length ≤ 1000000) :
    Calls Try.prog 66 #[.slice (some ⟨b, off, none⟩) l.length c] w fun e w' => e = .returned (.int .i64 (sumW l)) ∧ Below w.heap.size w w' := by
  have HC := Lib.hid (⟨hC, hb⟩ : _ ∧ _)
  clear hC hb
  go_enter Try.func66, Try.ntmps66
  go_wp2
  go_loopw [3, 4] (fun s i wr => ∃ k : Nat, k ≤ l.length ∧ i = .int .i64 k ∧ s = .int .i64 (sumW (l.take k)) ∧ Below w.heap.size w wr) (fun _ i _ => l.length - (intOf i).toNat)
  case atStart => exact ⟨0, Nat.zero_le _, rfl, by simp [sumW], Below.refl _ _⟩
  case round =>
    obtain ⟨k, hk, rfl, rfl, hb⟩ := hrel
    by_cases hlt : k < l.length
    · have HX := (HC.out.1.below hb HC.out.2).el wc_length hlt
      have HL := Lib.hid (@sumW_step l k hlt)
      have hs := sumW_le (l.take k)
      have hcl : (l.take k).length ≤ k := by simp; omega
      have hlt2 : (k : Int) < (l.length : Int) := by omega
      generalize l[k]! = x at HX HL
      generalize sumW (l.take k) = s at HL hs ⊢
      have hs1 : -32768000000 ≤ s := by omega
      have hs2 : s ≤ 32768000000 := by omega
      obtain ⟨hn1, hn2⟩ := x.hn
      have x2 : wr.cell? ⟨b, off + k * 3 + 2, none⟩ = some (.int .i16 x.n) := HX 2 _ rfl
      clear HX hs
      go_wp2
      go_roundw
      case rel => exact ⟨k + 1, by omega, by go_num, by rw [HL.out], hb⟩
      case measure => simp [intOf]; omega
    · obtain rfl : k = l.length := by omega
      rw [List.take_length]
      go_wp2
      go_ret
      exact ⟨rfl, hb⟩
theorem sWantedIn_any (b off c : Nat) (l : List Wt) (w : World) (hC : CAt w b off (fl wc l)) (hb : b < w.heap.size) (hn : l.length ≤ 1048576) :
    Calls Try.prog 20 #[.slice (some ⟨b, off, none⟩) l.length c] w fun e w' => e = .returned (.tuple #[.int .i64 (wantedR l).1, .int .i64 (wantedR l).2]) ∧ Below w.heap.size w w' := by
  have HC := Lib.hid (⟨hC, hb⟩ : _ ∧ _)
  clear hC hb
  have H := Below.refl w.heap.size w
  go_enter Try.func20, Try.ntmps20
  cases e1 : ordOk l with
  | false =>
    have HF := Lib.hid (show wantedR l = (0, 1) by simp [wantedR, e1])
    go_wp2_with (go_at_call 60; with_reducible refine (l02Ok_any b off c l _ (HC.out.1.below H HC.out.2) (Nat.lt_of_lt_of_le HC.out.2 H.size) (by omega)).mono ?_; rintro e w' ⟨rfl, hb⟩; replace H := bstep H hb; clear hb; have hc := bcell H)
    rw [HF.out]
    exact bodyPost_ret (results_tt rfl) rfl ⟨rfl, H⟩
  | true =>
    have HF := Lib.hid (show wantedR l = (sumW l, 0) by simp [wantedR, e1])
    have h8 : l.length ≤ 8 := by simp [ordOk] at e1; exact e1.2
    go_wp2_with (first | (go_at_call 60; with_reducible refine (l02Ok_any b off c l _ (HC.out.1.below H HC.out.2) (Nat.lt_of_lt_of_le HC.out.2 H.size) (by omega)).mono ?_; rintro e w' ⟨rfl, hb⟩; replace H := bstep H hb; clear hb; have hc := bcell H) | (go_at_call 66; with_reducible refine (l02Sum_any b off c l _ (HC.out.1.below H HC.out.2) (Nat.lt_of_lt_of_le HC.out.2 H.size) (by omega)).mono ?_; rintro e w' ⟨rfl, hb⟩; replace H := bstep H hb; clear hb; have hc := bcell H))
    rw [HF.out]
    exact bodyPost_ret (results_tt rfl) rfl ⟨rfl, H⟩
theorem WantedIn_any (b off c : Nat) (l : List Wt) (w : World) (hC : CAt w b off (fl wc l)) (hb : b < w.heap.size) (hn : l.length ≤ 1048576) :
    Calls Try.prog 21 #[.slice (some ⟨b, off, none⟩) l.length c] w fun e w' => e = .returned (.tuple #[.int .i64 (wantedR l).1, .int .i64 (wantedR l).2]) ∧ Below w.heap.size w w' := by
  have HC := Lib.hid (⟨hC, hb⟩ : _ ∧ _)
  clear hC hb
  have H := Below.refl w.heap.size w
  go_enter Try.func21, Try.ntmps21
  cases e1 : ordOk l with
  | false =>
    have HF := Lib.hid (show wantedR l = (0, 1) by simp [wantedR, e1])
    go_wp2_with (go_at_call 18; with_reducible refine (ValidOrder_any b off c l _ (HC.out.1.below H HC.out.2) (Nat.lt_of_lt_of_le HC.out.2 H.size) (by omega)).mono ?_; rintro e w' ⟨rfl, hb⟩; replace H := bstep H hb; clear hb; have hc := bcell H)
    rw [HF.out]
    exact bodyPost_ret (results_tt rfl) rfl ⟨rfl, H⟩
  | true =>
    have HF := Lib.hid (show wantedR l = (sumW l, 0) by simp [wantedR, e1])
    have h8 : l.length ≤ 8 := by simp [ordOk] at e1; exact e1.2
    go_upto_region 4 with (go_at_call 18; with_reducible refine (ValidOrder_any b off c l _ (HC.out.1.below H HC.out.2) (Nat.lt_of_lt_of_le HC.out.2 H.size) (by omega)).mono ?_; rintro e w' ⟨rfl, hb⟩; replace H := bstep H hb; clear hb; have hc := bcell H)
    clear hc e1
    go_wp2
    go_loopw [4, 12] (fun s i wr => ∃ k : Nat, k ≤ l.length ∧ i = .int .i64 k ∧ s = .int .i64 (sumW (l.take k)) ∧ Below w.heap.size w wr) (fun _ i _ => l.length - (intOf i).toNat)
    case atStart => exact ⟨0, Nat.zero_le _, rfl, by simp [sumW], H⟩
    case round =>
      clear H
      obtain ⟨k, hk, rfl, rfl, hb⟩ := hrel
      by_cases hlt : k < l.length
      · have HX := (HC.out.1.below hb HC.out.2).el wc_length hlt
        have HL := Lib.hid (@sumW_step l k hlt)
        have hs := sumW_le (l.take k)
        have hcl : (l.take k).length ≤ k := by simp; omega
        have hlt2 : (k : Int) < (l.length : Int) := by omega
        generalize l[k]! = x at HX HL
        generalize sumW (l.take k) = s at HL hs ⊢
        have hs1 : -32768000000 ≤ s := by omega
        have hs2 : s ≤ 32768000000 := by omega
        obtain ⟨hn1, hn2⟩ := x.hn
        have x0 : wr.cell? ⟨b, off + k * 3, none⟩ = some (.int .u8 x.b.k) := HX 0 _ rfl
        have x1 : wr.cell? ⟨b, off + k * 3 + 1, none⟩ = some (.int .i16 x.b.y) := HX 1 _ rfl
        have x2 : wr.cell? ⟨b, off + k * 3 + 2, none⟩ = some (.int .i16 x.n) := HX 2 _ rfl
        clear HX hs
        go_wp2
        go_roundw
        case rel => exact ⟨k + 1, by omega, by go_num, by rw [HL.out], bstep hb (by go_grown)⟩
        case measure => simp [intOf]; omega
      · obtain rfl : k = l.length := by omega
        rw [List.take_length]
        go_wp2
        rw [HF.out]
        exact bodyPost_ret (results_tt rfl) rfl ⟨rfl, hb⟩
end Go.Proofs.Ythjfaggbkmchkaa
