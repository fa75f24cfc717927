/- Contracts of the small functions: numbers, bottles, codes. -/
import Derived.Test.YtbngpcghognojaaDoorBase
namespace Go.Proofs.YtbngpcghognojaaDoor
open Go.RowKit
set_option linter.unusedVariables false
set_option linter.unusedSimpArgs false
set_option maxRecDepth 100000
set_option maxHeartbeats 1000000

theorem ret_bool {a b : Bool} (h : a = b) : Ending.returned (.bool a) = .returned (.bool b) := by rw [h]
theorem ret_int {k : IntKind} {a b : Int} (h : a = b) : Ending.returned (.int k a) = .returned (.int k b) := by rw [h]
section
variable {P : Program} {fn : Func} {tmps : Array Value} {w : World} {p q u t : Tmp}
theorem results_tt (h : fn.results = #[.tmp p, .tmp q]) : (results fn tmps).run P w = .ok (.tuple #[tmps.getD p undef, tmps.getD q undef]) w := by
  simp only [results, h]
  simp [Sem.run_bind, Result.andThen]
theorem results_ttt (h : fn.results = #[.tmp p, .tmp q, .tmp u]) : (results fn tmps).run P w = .ok (.tuple #[tmps.getD p undef, tmps.getD q undef, tmps.getD u undef]) w := by
  simp only [results, h]
  simp [Sem.run_bind, Result.andThen]
theorem results_tttt (h : fn.results = #[.tmp p, .tmp q, .tmp u, .tmp t]) : (results fn tmps).run P w = .ok (.tuple #[tmps.getD p undef, tmps.getD q undef, tmps.getD u undef, tmps.getD t undef]) w := by
  simp only [results, h]
  simp [Sem.run_bind, Result.andThen]
end
/-- A contract that leaves the world alone, in the form of all others. -/
theorem below_of_same {P : Program} {f : FuncId} {args : Array Value} {w : World} {v : Value} (h : Calls P f args w fun e w' => e = .returned v ∧ w = w') : Calls P f args w fun e w' => e = .returned v ∧ Below w.heap.size w w' :=
  h.mono fun _ _ ⟨he, hw⟩ => ⟨he, by rw [← hw]; exact Below.refl _ _⟩
theorem l00In_any (n a b : Int) (w : World) : Calls Tryd.prog 54 #[.int .i64 n, .int .i64 a, .int .i64 b] w fun e w' => e = .returned (.bool (decide (a ≤ n) && decide (n ≤ b))) ∧ w = w' := by
  by_cases h1 : a ≤ n <;> by_cases h2 : n ≤ b
  all_goals
    go_enter Tryd.func54, Tryd.ntmps54
    go_wp2
    go_ret
    exact ⟨by simp [h1, h2], rfl⟩
theorem within_any (n a b : Int) (w : World) : Calls Tryd.prog 56 #[.int .i64 n, .int .i64 a, .int .i64 b] w fun e w' => e = .returned (.bool (decide (a ≤ n) && decide (n ≤ b))) ∧ w = w' := by
  by_cases h1 : a ≤ n <;> by_cases h2 : n ≤ b
  all_goals
    go_enter Tryd.func56, Tryd.ntmps56
    go_wp2
    go_ret
    exact ⟨by simp [h1, h2], rfl⟩
/-- '==' of bottles, as one Bool. -/
theorem eqB (d : Nat) (w : World) (x0 y0 x1 y1 : Int) :
    (Op.equalIn (d + 2) 26 (.agg #[.int .u8 x0, .int .i16 x1]) (.agg #[.int .u8 y0, .int .i16 y1])).run Tryd.prog w = .ok (x0 == y0 && x1 == y1) w := by
  have h := Tryd.underlying26
  by_cases h0 : x0 = y0 <;> by_cases h1 : x1 = y1 <;> simp [go_sem, h0, h1]
attribute [local go_sem high] eqB
theorem l01Free_any (b : Bt) (w : World) : Calls Tryd.prog 58 #[bv b] w fun e w' => e = .returned (.bool b.em) ∧ Below w.heap.size w w' := by
  have h := Tryd.underlying26
  obtain ⟨k, y, hk, hy⟩ := b
  go_enter Tryd.func58, Tryd.ntmps58
  go_wp2
  go_ret
  exact ⟨rfl, (Below.refl _ _).alloc (Nat.le_refl _) _⟩
theorem l01Bottle_any (b : Bt) (w : World) : Calls Tryd.prog 30 #[bv b] w fun e w' => e = .returned (.bool b.ok) ∧ Below w.heap.size w w' := by
  obtain ⟨k, y, ⟨h1, h2⟩, h3, h4⟩ := b
  go_enter Tryd.func30, Tryd.ntmps30
  go_wp2_with (go_at_call 54; refine (l00In_any _ _ _ _).mono ?_; rintro e w' ⟨rfl, rfl⟩)
  all_goals
    go_ret
    refine ⟨ret_bool ?_, (Below.refl _ _).alloc (Nat.le_refl _) _⟩
    rw [Bool.eq_iff_iff]
    simp [Bt.ok]
    try omega
theorem ValidBottle_any (b : Bt) (w : World) : Calls Tryd.prog 32 #[bv b] w fun e w' => e = .returned (.bool b.ok) ∧ Below w.heap.size w w' := by
  obtain ⟨k, y, ⟨h1, h2⟩, h3, h4⟩ := b
  go_enter Tryd.func32, Tryd.ntmps32
  go_wp2_with (go_at_call 56; refine (within_any _ _ _ _).mono ?_; rintro e w' ⟨rfl, rfl⟩)
  all_goals
    go_ret
    refine ⟨ret_bool ?_, (Below.refl _ _).alloc (Nat.le_refl _) _⟩
    rw [Bool.eq_iff_iff]
    simp [Bt.ok]
    try omega
theorem toBottle_any (b : Bt) (w : World) : Calls Tryd.prog 10 #[bv b] w fun e w' => e = .returned (bv b) ∧ Below w.heap.size w w' := by
  go_enter Tryd.func10, Tryd.ntmps10
  go_wp2
  refine bodyPost_ret (v := bv b) (by simp [results, Tryd.results10, go_sem]) rfl ⟨rfl, ?_⟩
  exact (((Below.refl _ _).alloc (Nat.le_refl _) _).alloc (by simp) _).alloc (by simp; omega) _
theorem eqBottle_any (a b : Bt) (w : World) : Calls Tryd.prog 22 #[bv a, bv b] w fun e w' => e = .returned (.bool (a.like b)) ∧ Below w.heap.size w w' := by
  obtain ⟨k, y, hk, hy⟩ := a
  obtain ⟨k', y', hk', hy'⟩ := b
  by_cases h0 : k = k' <;> by_cases h1 : y = y'
  all_goals
    go_enter Tryd.func22, Tryd.ntmps22
    go_wp2
    go_ret
    exact ⟨by simp [Bt.like, h0, h1], ((Below.refl _ _).alloc (Nat.le_refl _) _).alloc (by simp) _⟩
theorem sCompareBottles_any (a b : Bt) (w : World) : Calls Tryd.prog 62 #[bv a, bv b] w fun e w' => e = .returned (.int .i64 (a.cmp b)) ∧ Below w.heap.size w w' := by
  obtain ⟨k, y, hk, hy⟩ := a
  obtain ⟨k', y', hk', hy'⟩ := b
  go_enter Tryd.func62, Tryd.ntmps62
  go_wp2
  all_goals
    go_ret
    refine ⟨ret_int ?_, ((Below.refl _ _).alloc (Nat.le_refl _) _).alloc (by simp) _⟩
    simp only [Bt.cmp]
    repeat (first | rw [if_pos (by omega)] | rw [if_neg (by omega)])
end Go.Proofs.YtbngpcghognojaaDoor
