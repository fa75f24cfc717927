/- The law FnExactCompareBottles holds: the program's CompareBottles answers as the reference's, whatever the bottles. -/
import Derived.Test.YtmcgnkjnknofkaaRows
import Derived.Test.YtmcgnkjnknofkaaCompare
import Derived.Test.YtmcgnkjnknofkaaRow
import Derived.Test.YtmcgnkjnknofkaaRead
import Derived.Test.YtmcgnkjnknofkaaTail
namespace Go.Proofs.Ytmcgnkjnknofkaa
open Go.RowKit
set_option linter.unusedVariables false
set_option linter.unusedSimpArgs false
set_option maxRecDepth 100000
set_option maxHeartbeats 1000000
attribute [local go_sem] Oper.qB
theorem FnExactCompareBottles_any (a b : Bt) (w : World) : Calls Try.prog 9 #[bv a, bv b] w fun e w' => e = .returned (.bool true) ∧ Below w.heap.size w w' := by
  go_enter Try.func9, Try.ntmps9
  go_upto_region 1 with fail
  generalize hW : World.alloc _ _ = W
  have H0 : Below w.heap.size w W := by rw [← hW]; go_grown
  have r0 : rowOf W (w.heap.size) = some (#[.int .u8 a.k, .int .i16 a.y]) := (by (try rw [← hW]); simp only [rowOf_alloc, World.size_alloc, ↓reduceIte]; all_goals ((repeat' split) <;> first | omega | (exfalso; omega) | rfl))
  have r1 : rowOf W (w.heap.size + 1) = some (#[.int .u8 b.k, .int .i16 b.y]) := (by (try rw [← hW]); simp only [rowOf_alloc, World.size_alloc, ↓reduceIte]; all_goals ((repeat' split) <;> first | omega | (exfalso; omega) | rfl))
  clear hW
  have q0 : w.heap.size < w.heap.size + 1 := by omega
  have l0 : w.heap.size ≤ w.heap.size := Nat.le_refl _
  generalize w.heap.size + 1 = g1 at r1 q0 ⊢
  generalize h0 : w.heap.size = g0 at r0 q0 ⊢
  replace l0 : w.heap.size ≤ g0 := Nat.le_of_eq h0
  clear h0
  have b0 := rowOf_lt r0
  have b1 := rowOf_lt r1
  have H := Below.refl W.heap.size W
  refine wp_region_qB (by kernel_rfl) (by kernel_rfl) ?_
  (repeat (first | (refine qB_load_row H rfl _ _ rfl _ rfl _ r0 _ Try.underlying31 rfl (infoLB _ _) ?_) | (refine qB_load_row H rfl _ _ rfl _ rfl _ r1 _ Try.underlying31 rfl (infoLB _ _) ?_) | (refine qB_step (fun K hK => ?_); go_simp; first | (refine hK _ ?_; clear hK K) | (apply Exists.intro; refine ⟨fun _ => ?_, hK _ ?_⟩; (first | (go_at_call 22; exact toBottle_any _ _) | (go_at_call 27; exact sCompareBottles_any _ _ _)); clear hK K))))
  refine qB_nil ?_
  intro w1 hw1
  replace H := bstep H hw1
  clear hw1
  replace r0 := row_kept r0 H
  replace r1 := row_kept r1 H
  replace H0 := bstep H0 H
  clear H
  have H := Below.refl w1.heap.size w1
  go_upto_region 2 with fail
  refine wp_region_qB (by kernel_rfl) (by kernel_rfl) ?_
  (repeat (first | (refine qB_load_row H rfl _ _ rfl _ rfl _ r0 _ Try.underlying31 rfl (infoLB _ _) ?_) | (refine qB_load_row H rfl _ _ rfl _ rfl _ r1 _ Try.underlying31 rfl (infoLB _ _) ?_) | (refine qB_step (fun K hK => ?_); go_simp; first | (refine hK _ ?_; clear hK K) | (apply Exists.intro; refine ⟨fun _ => ?_, hK _ ?_⟩; (first | (go_at_call 22; exact toBottle_any _ _) | (go_at_call 28; exact CompareBottles_any _ _ _)); clear hK K))))
  refine qB_nil ?_
  intro w1 hw1
  replace H := bstep H hw1
  clear hw1
  go_wp2
  go_ret
  exact ⟨rfl, bstep H0 H⟩
end Go.Proofs.Ytmcgnkjnknofkaa
namespace Go.Proofs.Ytmcgnkjnknofkaa.fnExactCompareBottles
open Go.ChangeShapes Go.WideShapes Go.ChangeAt Go.RowKit
open Go.ChangeMaps (open_string shut_string)
set_option linter.unusedVariables false
set_option linter.unusedSimpArgs false
set_option maxRecDepth 100000 in
theorem lifted (os : Os) (started : os.Started) (H : Type) (enc : TypeId × Value → H) :
    ReturnsInHanded {} Try.checked os 9 .any (Rows.fnExactCompareBottlesSpec.pre6 enc Try.prog Try.f9 Rows.fnExactCompareBottlesRow.domain false) (Rows.fnExactCompareBottlesSpec.post enc Try.prog Try.f9 false true false false) := by
  refine returnsInHanded_of_change_sized (C := Try.checked) own started (by kernel_rfl) Try.func9
    (ChangeSpec.witness6 (enc := enc) (C := Try.checked) false ⟨#[], #[.agg #[.int .u8 0, .int .i16 0], .agg #[.int .u8 0, .int .i16 0]], []⟩ 8 (by kernel_rfl) (by kernel_rfl) (by kernel_rfl) (by kernel_rfl)) ?_
  intro W base args ds gs before hval0 hW hcnd hsz0 _
  have hsz : (DataW.weightsEach Try.prog (Try.f9.params.toList ++ Rows.fnExactCompareBottlesSpec.plain.varTypes Try.prog) (ds ++ gs)).all (· ≤ reachBytes) = true := hsz0
  have hval : ∀ (j : Nat) t v, Try.f9.params[j]? = some t → args[j]? = some v → Value.okWide Try.prog W .any base t v := hval0
  have hW' := hW
  obtain ⟨p, q, hA0, hV, rfl, hfz, hnd⟩ := hW
  have hA : DataW.TrodAll enc Try.prog W 0 (fun _ => true) true Try.f9.params.toList args.toList ds p := hA0
  rw [Try.params9] at hA hval hsz
  obtain ⟨v0, vs0, d0, ds0, p0, q0, hargs0, rfl, rfl, h0, r0⟩ := trodAll_cons hA
  obtain ⟨v1, vs1, d1, ds1, p1, q1, hargs1, rfl, rfl, h1, r1⟩ := trodAll_cons r0
  obtain ⟨rfl, rfl, rfl⟩ := trodAll_nil r1
  subst hargs1
  obtain rfl : args = #[v0, v1] := by cases args; simp_all
  obtain ⟨rfl, rfl⟩ := trodVars_none hV
  have hlt0 : ∀ x ∈ p0, x.block < W.heap.size := fun x hx => by simpa using hW'.lt x (by simp [hx])
  have hlt1 : ∀ x ∈ p1, x.block < W.heap.size := fun x hx => by simpa using hW'.lt x (by simp [hx])
  obtain ⟨a0, hv0⟩ := read_bot (hval 0 31 v0 rfl rfl) h0
  subst hv0
  obtain ⟨a1, hv1⟩ := read_bot (hval 1 31 v1 rfl rfl) h1
  subst hv1
  refine (FnExactCompareBottles_any a0 a1 W).mono fun e W' ⟨he, bel⟩ => ?_
  subst he
  exact ⟨_, rfl, _, _, _, [], _, [], hW', trodAll_mk1 (shut_bool Try.underlying4 _), (trodAll_cons_mk (Below.trod laidOut (by kernel_rfl) (of_decide_eq_true (by kernel_rfl)) h0 bel hlt0) (trodAll_cons_mk (Below.trod laidOut (by kernel_rfl) (of_decide_eq_true (by kernel_rfl)) h1 bel hlt1) trodAll_mk0)), rfl, bel.frame _, fun h => by cases h⟩
theorem over : Rows.fnExactCompareBottlesRow.holds Try.pinned (OpenSpec.ofChange Rows.fnExactCompareBottlesSpec) :=
  OpenClaim.holds_of_wide 9 Try.f9 rfl rfl rfl rfl rfl rfl rfl ⟨rfl, rfl, rfl, rfl, rfl⟩ rfl rfl rfl rfl rfl (by kernel_rfl) Try.func9 (by kernel_rfl)
    (of_decide_eq_true (by kernel_rfl)) (by unfold Func.isWrapper; first | (rw [if_pos (by decide +kernel)]; kernel_rfl) | (rw [if_neg (by decide +kernel)]; exact ⟨rfl, rfl⟩))
    (fun os started H enc _ => lifted os started H enc)
theorem proved : Rows.FnExactCompareBottlesSaid := over
end Go.Proofs.Ytmcgnkjnknofkaa.fnExactCompareBottles
namespace Go.Proofs.Ytmcgnkjnknofkaa
/-- The row, under a short name, for the claim. -/
theorem fnExactCompareBottles_holds : Rows.FnExactCompareBottlesSaid := fnExactCompareBottles.proved
end Go.Proofs.Ytmcgnkjnknofkaa
