/- Contracts of the program's own order of bottles: cmp.Compare, cmp.Or. -/
import Derived.Test.YtbngpcghognojaaDoorSmall
import Derived.StillTailTactics
import Derived.Handy
namespace Go.Proofs.YtbngpcghognojaaDoor
open Go.RowKit
set_option linter.unusedVariables false
set_option linter.unusedSimpArgs false
set_option maxRecDepth 100000
set_option maxHeartbeats 1000000
theorem isNaN8_any (n : Int) (w : World) : Calls Tryd.prog 85 #[.int .u8 n] w fun e w' => e = .returned (.bool false) ∧ w = w' := by
  go_enter Tryd.func85, Tryd.ntmps85
  go_wp2
  go_ret
  exact ⟨by simp, rfl⟩
theorem isNaN16_any (n : Int) (w : World) : Calls Tryd.prog 86 #[.int .i16 n] w fun e w' => e = .returned (.bool false) ∧ w = w' := by
  go_enter Tryd.func86, Tryd.ntmps86
  go_wp2
  go_ret
  exact ⟨by simp, rfl⟩
def cmpI (a b : Int) : Int := if a < b then -1 else if b < a then 1 else 0
theorem Compare8_any (a b : Int) (w : World) : Calls Tryd.prog 72 #[.int .u8 a, .int .u8 b] w fun e w' => e = .returned (.int .i64 (cmpI a b)) ∧ w = w' := by
  go_enter Tryd.func72, Tryd.ntmps72
  go_wp2_with (go_at_call 85; refine (isNaN8_any _ _).mono ?_; rintro e w' ⟨rfl, rfl⟩)
  all_goals
    go_ret
    refine ⟨ret_int ?_, rfl⟩
    simp only [cmpI]
    repeat (first | rw [if_pos (by omega)] | rw [if_neg (by omega)])
theorem Compare16_any (a b : Int) (w : World) : Calls Tryd.prog 73 #[.int .i16 a, .int .i16 b] w fun e w' => e = .returned (.int .i64 (cmpI a b)) ∧ w = w' := by
  go_enter Tryd.func73, Tryd.ntmps73
  go_wp2_with (go_at_call 86; refine (isNaN16_any _ _).mono ?_; rintro e w' ⟨rfl, rfl⟩)
  all_goals
    go_ret
    refine ⟨ret_int ?_, rfl⟩
    simp only [cmpI]
    repeat (first | rw [if_pos (by omega)] | rw [if_neg (by omega)])
theorem flip_same {P : Program} {f : FuncId} {args : Array Value} {w : World} {v : Value} (h : Calls P f args w fun e w' => e = .returned v ∧ w = w') : Calls P f args w fun e w' => e = .returned v ∧ w' = w :=
  h.mono fun _ _ ⟨he, hw⟩ => ⟨he, hw.symm⟩
def orI (x y : Int) : Int := if x = 0 then y else x
/-- cmp.Or of two. -/
theorem Or_any (a : Addr) (x y : Int) (c : Nat) (w : World) (h0 : w.cell? a = some (.int .i64 x)) (h1 : w.cell? ⟨a.block, a.off + 1, none⟩ = some (.int .i64 y)) :
    Calls Tryd.prog 71 #[.slice (some a) 2 c] w fun e w' => e = .returned (.int .i64 (orI x y)) ∧ w = w' := by
  by_cases hx : x = 0 <;> by_cases hy : y = 0
  all_goals
    go_enter Tryd.func71, Tryd.ntmps71
    go_wp2
    go_rounds 3
    all_goals
      go_ret
      exact ⟨ret_int (by simp [orI, hx, hy]), rfl⟩
theorem cmp_or (a b : Bt) : orI (cmpI a.k b.k) (cmpI a.y b.y) = a.cmp b := by
  unfold Bt.cmp orI cmpI
  by_cases h1 : a.k < b.k
  · simp [h1]
  · by_cases h2 : b.k < a.k <;> simp [h1, h2]
theorem compare_any (a b : Bt) (w : World) : Calls Tryd.prog 63 #[bv a, bv b] w fun e w' => e = .returned (.int .i64 (a.cmp b)) ∧ Below w.heap.size w w' := by
  obtain ⟨k, y, hk, hy⟩ := a
  obtain ⟨k', y', hk', hy'⟩ := b
  go_enter Tryd.func63, Tryd.ntmps63
  go_wp2
  generalize hW : World.alloc _ _ = W
  have hb : Below w.heap.size w W := by rw [← hW]; exact ((Below.refl _ _).alloc (Nat.le_refl _) _).alloc (by simp) _
  have hs : W.heap.size = w.heap.size + 2 := by rw [← hW]; simp
  have x0 : W.cell? ⟨w.heap.size, 0, none⟩ = some (.int .u8 k) := by rw [← hW]; simp [go_sem]
  have x1 : W.cell? ⟨w.heap.size, 1, none⟩ = some (.int .i16 y) := by rw [← hW]; simp [go_sem]
  have y0 : W.cell? ⟨w.heap.size + 1, 0, none⟩ = some (.int .u8 k') := by rw [← hW]; simp [go_sem]
  have y1 : W.cell? ⟨w.heap.size + 1, 1, none⟩ = some (.int .i16 y') := by rw [← hW]; simp [go_sem]
  clear hW
  generalize w.heap.size = g at x0 x1 y0 y1 hs
  go_still_tail 10, (by kernel_rfl)
  still_call (flip_same (Compare8_any _ _ _))
  repeat still_step
  still_call (flip_same (Compare16_any _ _ _))
  refine wpStill_nil ?_
  change wpList _ _ _ _ _ (World.drew _)
  clear hs x0 x1 y0 y1
  go_wp2_with fail
  refine (Or_any _ (cmpI k k') (cmpI y y') _ _ (by simp [go_sem]) (by simp [go_sem])).mono ?_
  rintro e w' ⟨rfl, rfl⟩
  go_wp2
  go_ret
  refine ⟨ret_int ?_, bstep hb (((Below.refl _ _).drew).alloc (Nat.le_refl _) _)⟩
  exact cmp_or ⟨k, y, hk, hy⟩ ⟨k', y', hk', hy'⟩
end Go.Proofs.YtbngpcghognojaaDoor
