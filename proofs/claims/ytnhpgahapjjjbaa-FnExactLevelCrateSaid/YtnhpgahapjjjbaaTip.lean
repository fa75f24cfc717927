/- Contracts of TipOf: which way the bottles in some places hang. -/
import Derived.Test.YtnhpgahapjjjbaaList
import Derived.Test.YtnhpgahapjjjbaaInts
import Derived.Test.YtnhpgahapjjjbaaFunc
namespace Go.Proofs.Ytnhpgahapjjjbaa
open Go.RowKit
set_option linter.unusedVariables false
set_option linter.unusedSimpArgs false
set_option maxRecDepth 100000
set_option maxHeartbeats 1000000
def eastI (l : List Int) : Int := (l.map fun i => 2 * (i % 4) - 3).sum
def southI (l : List Int) : Int := (l.map fun i => i / 4 - 1).sum
theorem eastI_succ {l : List Int} {k : Nat} (h : k < l.length) : eastI (l.take (k + 1)) = eastI (l.take k) + (2 * (l.getD k 0 % 4) - 3) := by
  rw [List.take_succ_eq_append_getElem h]
  rw [eastI, List.map_append, List.sum_append, List.getD_eq_getElem?_getD, List.getElem?_eq_getElem h]
  simp [eastI]
theorem southI_succ {l : List Int} {k : Nat} (h : k < l.length) : southI (l.take (k + 1)) = southI (l.take k) + (l.getD k 0 / 4 - 1) := by
  rw [List.take_succ_eq_append_getElem h]
  rw [southI, List.map_append, List.sum_append, List.getD_eq_getElem?_getD, List.getElem?_eq_getElem h]
  simp [southI]
/-- Numbers of places. -/
def Places (l : List Int) : Prop := l.length ≤ 12 ∧ ∀ x ∈ l, 0 ≤ x ∧ x ≤ 11
theorem tip_bound {l : List Int} (h : ∀ x ∈ l, 0 ≤ x ∧ x ≤ 11) : -3 * (l.length : Int) ≤ eastI l ∧ eastI l ≤ 3 * (l.length : Int) ∧ -3 * (l.length : Int) ≤ southI l ∧ southI l ≤ 3 * (l.length : Int) := by
  induction l with
  | nil => decide
  | cons x l ih =>
    have h0 := h x (by simp)
    have h1 := ih fun y hy => h y (by simp [hy])
    simp only [eastI, southI, List.map_cons, List.sum_cons, List.length_cons] at h1 ⊢
    omega
theorem Places.take {l : List Int} (h : Places l) (k : Nat) : Places (l.take k) :=
  ⟨by rw [List.length_take]; have := h.1; omega, fun x hx => h.2 x (List.mem_of_mem_take hx)⟩
theorem Places.bound {l : List Int} (h : Places l) : -36 ≤ eastI l ∧ eastI l ≤ 36 ∧ -36 ≤ southI l ∧ southI l ≤ 36 := by
  have := tip_bound h.2
  have := h.1
  omega
theorem Places.at {l : List Int} (h : Places l) {k : Nat} (hk : k < l.length) : 0 ≤ l.getD k 0 ∧ l.getD k 0 ≤ 11 := by
  rw [List.getD_eq_getElem?_getD, List.getElem?_eq_getElem hk]
  exact h.2 _ (List.getElem_mem hk)
theorem pl_places (p : Bt → Bool) (l : List Bt) : Places (pl p l 12) := by
  refine ⟨pl_le p l 12, fun x hx => ?_⟩
  simp only [pl, List.mem_map, List.mem_filter, List.mem_range] at hx
  obtain ⟨k, ⟨hk, _⟩, rfl⟩ := hx
  simp only [Int.ofNat_eq_natCast]
  omega
theorem tip_any (A : Option Addr) (cp : Nat) (l : List Int) (w : World) (h : RdA w A (vi l)) (hp : Places l) :
    Calls Try.prog 71 #[.slice A l.length cp] w fun e w' => e = .returned (.tuple #[.int .i64 (eastI l), .int .i64 (southI l)]) ∧ w = w' := by
  have HR := Lib.hid h
  have HP := Lib.hid hp
  have hl := hp.1
  clear h hp
  go_enter Try.func71, Try.ntmps71
  go_wp2
  go_loopw [4, 5, 10] (fun e s i wr => ∃ k : Nat, k ≤ l.length ∧ i = .int .i64 k ∧ e = .int .i64 (eastI (l.take k)) ∧ s = .int .i64 (southI (l.take k)) ∧ wr = w) (fun _ _ i _ => l.length - (intOf i).toNat)
  case atStart => exact ⟨0, Nat.zero_le _, rfl, rfl, rfl, rfl⟩
  case round =>
    obtain ⟨k, hk, rfl, rfl, rfl, rfl⟩ := hrel
    by_cases hlt : k < l.length
    · obtain ⟨g, off, rfl, hg, hC⟩ := HR.out.some (by rw [vi_length]; omega)
      have x0 := hC k _ (vi_at l k hlt)
      have HE := Lib.hid (eastI_succ hlt)
      have HS := Lib.hid (southI_succ hlt)
      have hb := (HP.out.take k).bound
      have hx := HP.out.at hlt
      clear hC
      generalize l.getD k 0 = x at x0 HE HS hx
      generalize eastI (l.take k) = e at HE hb ⊢
      generalize southI (l.take k) = s at HS hb ⊢
      obtain ⟨hb1, hb2, hb3, hb4⟩ := hb
      obtain ⟨hx1, hx2⟩ := hx
      go_wp2
      go_roundw
      case rel => exact ⟨k + 1, by omega, by go_num, congrArg (Value.int .i64) (by have := HE.out; omega), congrArg (Value.int .i64) (by have := HS.out; omega), trivial⟩
      case measure => simp [intOf]; omega
    · obtain rfl : k = l.length := by omega
      go_wp2
      refine bodyPost_ret (results_tt rfl) rfl ⟨?_, rfl⟩
      rw [List.take_length]
      rfl
theorem l01Tip_any (A : Option Addr) (cp : Nat) (l : List Int) (w : World) (h : RdA w A (vi l)) (hp : Places l) :
    Calls Try.prog 114 #[.slice A l.length cp] w fun e w' => e = .returned (.tuple #[.int .i64 (eastI l), .int .i64 (southI l)]) ∧ w = w' := by
  have HR := Lib.hid h
  have HP := Lib.hid hp
  have hl := hp.1
  clear h hp
  go_enter Try.func114, Try.ntmps114
  go_wp2
  go_loopw [4, 5, 6] (fun e s i wr => ∃ k : Nat, k ≤ l.length ∧ i = .int .i64 k ∧ e = .int .i64 (eastI (l.take k)) ∧ s = .int .i64 (southI (l.take k)) ∧ wr = w) (fun _ _ i _ => l.length - (intOf i).toNat)
  case atStart => exact ⟨0, Nat.zero_le _, rfl, rfl, rfl, rfl⟩
  case round =>
    obtain ⟨k, hk, rfl, rfl, rfl, rfl⟩ := hrel
    by_cases hlt : k < l.length
    · obtain ⟨g, off, rfl, hg, hC⟩ := HR.out.some (by rw [vi_length]; omega)
      have x0 := hC k _ (vi_at l k hlt)
      have HE := Lib.hid (eastI_succ hlt)
      have HS := Lib.hid (southI_succ hlt)
      have hb := (HP.out.take k).bound
      have hx := HP.out.at hlt
      clear hC
      generalize l.getD k 0 = x at x0 HE HS hx
      generalize eastI (l.take k) = e at HE hb ⊢
      generalize southI (l.take k) = s at HS hb ⊢
      obtain ⟨hb1, hb2, hb3, hb4⟩ := hb
      obtain ⟨hx1, hx2⟩ := hx
      go_wp2
      go_roundw
      case rel => exact ⟨k + 1, by omega, by go_num, congrArg (Value.int .i64) (by have := HE.out; omega), congrArg (Value.int .i64) (by have := HS.out; omega), trivial⟩
      case measure => simp [intOf]; omega
    · obtain rfl : k = l.length := by omega
      go_wp2
      refine bodyPost_ret (results_tt rfl) rfl ⟨?_, rfl⟩
      rw [List.take_length]
      rfl
def tipR (c : Cr) : Int × Int × Int := if c.ok = true then (eastI (usedI c), southI (usedI c), 0) else (0, 0, 1)
end Go.Proofs.Ytnhpgahapjjjbaa
