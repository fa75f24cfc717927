/- Contracts of the laws' helpers on slices of bottles: compared, marked, held; owned slices. -/
import Derived.Test.YtnhpgahapjjjbaaMarkW
import Derived.Test.YtnhpgahapjjjbaaBottleS
namespace Go.Proofs.Ytnhpgahapjjjbaa
open Go.RowKit
set_option linter.unusedVariables false
set_option linter.unusedSimpArgs false
set_option maxRecDepth 100000
set_option maxHeartbeats 1000000
attribute [local go_sem] Oper.qB
/-- The marks of a bottle. -/
def mkb (k0 : Int) (i : Nat) : List Value := [.int .u8 ((k0 + 2 * (i : Int)) % 256), .int .i16 (IntKind.i16.wrap (k0 + 2 * (i : Int) + 1))]
theorem mkb_length (k0 : Int) (i : Nat) : (mkb k0 i).length = 2 := rfl
theorem mkb_step {k0 : Int} {l : List Bt} {k : Nat} (hk : k < l.length) :
    ((fl (mkb k0) (List.range k) ++ fl bc (l.drop k)).set (k * 2) (.int .u8 ((k0 + 2 * (k : Int)) % 256))).set (k * 2 + 1) (.int .i16 (IntKind.i16.wrap (k0 + 2 * (k : Int) + 1))) = fl (mkb k0) (List.range (k + 1)) ++ fl bc (l.drop (k + 1)) := by
  have hl : (fl (mkb k0) (List.range k)).length = k * 2 := by rw [fl_length (mkb_length k0), List.length_range]
  rw [List.set_append_right _ _ (by omega), hl, Nat.sub_self, List.set_append_right _ _ (by omega), hl, Nat.add_sub_cancel_left, List.range_succ, fl_append, fl_one, List.drop_eq_getElem_cons hk, fl_cons]
  simp [bc, mkb]
theorem markBottleS_own (B : Nat) (v : Value) (l : List Bt) (k0 : Int) (w : World) (h : OwnN bc w B 26 2 v l) (h0 : 0 ≤ k0) (h1 : k0 ≤ 1000000000000) (hm : l.length ≤ 1000000000) :
    Calls Try.prog 40 #[v, .int .i64 k0] w fun e w' => e = .returned (.int .i64 (k0 + 2 * (l.length : Int))) ∧ OwnN (mkb k0) w' B 26 2 v (List.range l.length) ∧ ButV v w w' := by
  have HO := Lib.hid h
  obtain ⟨A, c, rfl, hc, _⟩ := own_rdA h
  clear h
  go_enter Try.func40, Try.ntmps40
  go_wp2
  go_loopw [1, 5] (fun kk i wr => ∃ k : Nat, k ≤ l.length ∧ i = .int .i64 k ∧ kk = .int .i64 (k0 + 2 * (k : Int)) ∧ Hid (wr.ownsRow B 26 2 (.slice A l.length c) l.length (fl (mkb k0) (List.range k) ++ fl bc (l.drop k))) ∧ Hid (ButV (.slice A l.length c) w wr)) (fun _ i _ => l.length - (intOf i).toNat)
  case atStart => exact ⟨0, Nat.zero_le _, rfl, by simp, Lib.hid (by simpa [fl, OwnN] using HO.out), ButV.refl⟩
  case round =>
    clear HO
    obtain ⟨k, hk, rfl, rfl, HO, hb⟩ := hrel
    by_cases hlt : k < l.length
    · obtain ⟨g, cap, hv⟩ := own_form HO.out (by omega)
      simp only [Value.slice.injEq] at hv
      obtain ⟨rfl, _, rfl⟩ := hv
      have hlen : (fl (mkb k0) (List.range k) ++ fl bc (l.drop k)).length = l.length * 2 := HO.out.1
      have x0 := HO.out.cellAt (k * 2) (by omega)
      have x1 := HO.out.cellAt (k * 2 + 1) (by omega)
      rw [List.getElem?_eq_getElem (by omega)] at x0 x1
      have f0 := HO.out.frozenAt (k * 2)
      have f1 := HO.out.frozenAt (k * 2 + 1)
      have HS := Lib.hid (((HO.out.stored (k * 2) (.int .u8 ((k0 + 2 * (k : Int)) % 256))).1.stored (k * 2 + 1) (.int .i16 (IntKind.i16.wrap (k0 + 2 * (k : Int) + 1)))).1)
      rw [mkb_step hlt] at HS
      have hlt2 : (k : Int) < (l.length : Int) := by omega
      have q0 : 0 ≤ k0 + 2 * (k : Int) := by omega
      generalize (fl (mkb k0) (List.range k) ++ fl bc (l.drop k))[k * 2] = y0 at x0
      generalize (fl (mkb k0) (List.range k) ++ fl bc (l.drop k))[k * 2 + 1] = y1 at x1
      clear hlen
      go_wp2
      go_roundw
      case rel => exact ⟨k + 1, by omega, by go_num, congrArg (Value.int .i64) (by omega), HS.out, (hb.out.trans ButV.set).trans ButV.set⟩
      case measure => simp [intOf]; omega
    · obtain rfl : k = l.length := by omega
      go_wp2
      go_ret
      exact ⟨rfl, by simpa [fl, OwnN] using HO.out, hb.out⟩
theorem heldBottleS_own (B : Nat) (v : Value) (n : Nat) (k0 : Int) (w : World) (h : OwnN (mkb k0) w B 26 2 v (List.range n)) (h0 : 0 ≤ k0) (h1 : k0 ≤ 1000000000000) (hm : n ≤ 1000000000) :
    Calls Try.prog 42 #[v, .int .i64 k0] w fun e w' => e = .returned (.int .i64 (k0 + 2 * (n : Int))) ∧ Below w.heap.size w w' := by
  obtain ⟨A, c, rfl, hc, hr⟩ := h.rd
  rw [List.length_range]
  have HR := Lib.hid hr
  clear h hr hc
  go_enter Try.func42, Try.ntmps42
  go_wp2
  go_loopw [1, 5] (fun kk i wr => ∃ k : Nat, k ≤ n ∧ i = .int .i64 k ∧ kk = .int .i64 (k0 + 2 * (k : Int)) ∧ Below w.heap.size w wr) (fun _ i _ => n - (intOf i).toNat)
  case atStart => exact ⟨0, Nat.zero_le _, rfl, by simp, Below.refl _ _⟩
  case round =>
    obtain ⟨k, hk, rfl, rfl, hb⟩ := hrel
    by_cases hlt : k < n
    · obtain ⟨g, off, rfl, hg, hC⟩ := HR.out.some (by rw [fl_length (mkb_length k0), List.length_range]; omega)
      have hX := (hC.below hb hg).el (mkb_length k0) (i := k) (by simpa using hlt)
      rw [show (List.range n)[k]! = k by rw [getB (by simpa using hlt)]; simp] at hX
      have x0 : wr.cell? ⟨g, off + k * 2, none⟩ = some (.int .u8 ((k0 + 2 * (k : Int)) % 256)) := hX 0 _ rfl
      have x1 : wr.cell? ⟨g, off + k * 2 + 1, none⟩ = some (.int .i16 (IntKind.i16.wrap (k0 + 2 * (k : Int) + 1))) := hX 1 _ rfl
      have hlt2 : (k : Int) < (n : Int) := by omega
      have q0 : 0 ≤ k0 + 2 * (k : Int) := by omega
      clear hC hX
      go_wp2
      go_roundw
      case rel => exact ⟨k + 1, by omega, by go_num, congrArg (Value.int .i64) (by omega), hb⟩
      case measure => simp [intOf]; omega
    · obtain rfl : k = n := by omega
      go_wp2
      go_ret
      exact ⟨rfl, hb⟩
theorem eqBottleS_own {B B' : Nat} {v v' : Value} (l : List Bt) (w : World) (h : OwnN bc w B 26 2 v l) (h' : OwnN bc w B' 26 2 v' l) (hm : l.length ≤ 1000000000) :
    Calls Try.prog 39 #[v, v'] w fun e w' => e = .returned (.bool true) ∧ Below w.heap.size w w' := by
  obtain ⟨A, c, rfl, _, hr⟩ := h.rd
  obtain ⟨A', c', rfl, _, hr'⟩ := h'.rd
  exact eqBottleS_refl A A' c c' l w hr hr' hm
end Go.Proofs.Ytnhpgahapjjjbaa
