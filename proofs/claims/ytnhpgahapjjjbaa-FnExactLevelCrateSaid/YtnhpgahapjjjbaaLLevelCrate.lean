/- The law FnExactLevelCrate holds: the program's LevelCrate answers as the reference's, whatever the crate. -/
import Derived.Test.YtnhpgahapjjjbaaRows
import Derived.Test.YtnhpgahapjjjbaaLevelI
import Derived.Test.YtnhpgahapjjjbaaConv
import Derived.Test.YtnhpgahapjjjbaaRead
import Derived.Test.YtnhpgahapjjjbaaTail
namespace Go.Proofs.Ytnhpgahapjjjbaa
open Go.RowKit
set_option linter.unusedVariables false
set_option linter.unusedSimpArgs false
set_option maxRecDepth 100000
set_option maxHeartbeats 1000000
attribute [local go_sem] Oper.qB
theorem FnExactLevelCrate_any (c : Cr) (w : World) : Calls Try.prog 3 #[cv c] w fun e w' => e = .returned (.bool true) ∧ Below w.heap.size w w' := by
  have h1 := sLevelCrate_any c
  have h2 := LevelCrate_any c
  generalize levelR c = z at h1 h2
  obtain ⟨X, n⟩ := z
  go_enter Try.func3, Try.ntmps3
  go_upto_region 1 with fail
  generalize hW : World.alloc _ _ = W
  have H0 : Below w.heap.size w W := by rw [← hW]; go_grown
  have r0 : rowOf W (w.heap.size) = some ((cc c).toArray) := (by (try rw [← hW]); simp only [rowOf_alloc, World.size_alloc, ↓reduceIte]; all_goals ((repeat' split) <;> first | omega | (exfalso; omega) | rfl))
  clear hW
  have l0 : w.heap.size ≤ w.heap.size := Nat.le_refl _
  generalize h0 : w.heap.size = g0 at r0 ⊢
  replace l0 : w.heap.size ≤ g0 := Nat.le_of_eq h0
  clear h0
  have b0 := rowOf_lt r0
  have H := Below.refl W.heap.size W
  go_upto_region 2 with (first | ((with_reducible refine wp_load_rowBg H ?_ _ _ rfl _ rfl _ r0 _ Try.underlying25 rfl (infoLC c) ?_); rfl) | (go_at_call 16; with_reducible refine (toCrate_any c _).mono ?_; rintro e w' ⟨rfl, hb⟩; replace H := bstep H hb; clear hb; have hc := bcell H) | (go_at_call 15; with_reducible refine (h1 _).mono ?_; rintro e w' ⟨rfl, hb⟩; replace H := bstep H hb; clear hb; have hc := bcell H) | ((with_reducible refine wp_store_rowOf rfl rfl _ _ _ rfl _ rfl (cc X).toArray rfl (cc zC).toArray ?hr (cc_size2 _ _) (infoC _) (cc_one _) ?_); (case hr => rw [rowOf_alloc, if_pos rfl]; rfl)))
  clear hc
  generalize hW1 : World.setRow _ _ _ = W1
  obtain ⟨HB, r1, b1⟩ := laid_row H hW1
  clear hW1
  have qr01 := Nat.lt_of_lt_of_le (rowOf_lt r0) H.size
  replace r0 := row_kept r0 HB
  replace H0 := bstep H0 HB
  replace H := below_self HB
  generalize w'.heap.size = g1 at *
  go_upto_region 3 with (first | ((with_reducible refine wp_load_rowBg H ?_ _ _ rfl _ rfl _ r0 _ Try.underlying25 rfl (infoLC c) ?_); rfl) | (go_at_call 16; with_reducible refine (toCrate_any c _).mono ?_; rintro e w' ⟨rfl, hb⟩; replace H := bstep H hb; clear hb; have hc := bcell H) | (go_at_call 17; with_reducible refine (h2 _).mono ?_; rintro e w' ⟨rfl, hb⟩; replace H := bstep H hb; clear hb; have hc := bcell H) | ((with_reducible refine wp_store_rowOf rfl rfl _ _ _ rfl _ rfl (cc X).toArray rfl (cc zC).toArray ?hr (cc_size2 _ _) (infoC _) (cc_one _) ?_); (case hr => rw [rowOf_alloc, if_pos rfl]; rfl)))
  clear hc
  generalize hW2 : World.setRow _ _ _ = W2
  obtain ⟨HB, r2, b2⟩ := laid_row H hW2
  clear hW2
  have qr02 := Nat.lt_of_lt_of_le (rowOf_lt r0) H.size
  replace r0 := row_kept r0 HB
  have qr12 := Nat.lt_of_lt_of_le (rowOf_lt r1) H.size
  replace r1 := row_kept r1 HB
  replace H0 := bstep H0 HB
  replace H := below_self HB
  generalize w'.heap.size = g2 at *
  go_wp2_with (first | ((with_reducible refine wp_load_rowBg H ?_ _ _ rfl _ rfl _ r1 _ Try.underlying28 rfl (infoC X) ?_); rfl) | ((with_reducible refine wp_load_rowBg H ?_ _ _ rfl _ rfl _ r2 _ Try.underlying28 rfl (infoC X) ?_); rfl) | (go_at_call 18; with_reducible refine (eqCrate_refl X _).mono ?_; rintro e w' ⟨rfl, hb⟩; replace H := bstep H hb; clear hb; have hc := bcell H))
  go_ret
  exact ⟨rfl, bstep H0 H⟩
end Go.Proofs.Ytnhpgahapjjjbaa
namespace Go.Proofs.Ytnhpgahapjjjbaa.fnExactLevelCrate
open Go.ChangeShapes Go.WideShapes Go.ChangeAt Go.RowKit
open Go.ChangeMaps (open_string shut_string)
set_option linter.unusedVariables false
set_option linter.unusedSimpArgs false
set_option maxRecDepth 100000 in
theorem lifted (os : Os) (started : os.Started) (H : Type) (enc : TypeId × Value → H) :
    ReturnsInHanded {} Try.checked os 3 .any (Rows.fnExactLevelCrateSpec.pre6 enc Try.prog Try.f3 Rows.fnExactLevelCrateRow.domain false) (Rows.fnExactLevelCrateSpec.post enc Try.prog Try.f3 false true false false) := by
  refine returnsInHanded_of_change_sized (C := Try.checked) own started (by kernel_rfl) Try.func3
    (ChangeSpec.witness6 (enc := enc) (C := Try.checked) false ⟨#[], #[.agg #[.int .u8 0, .int .i16 0, .int .u8 0, .int .i16 0, .int .u8 0, .int .i16 0, .int .u8 0, .int .i16 0, .int .u8 0, .int .i16 0, .int .u8 0, .int .i16 0, .int .u8 0, .int .i16 0, .int .u8 0, .int .i16 0, .int .u8 0, .int .i16 0, .int .u8 0, .int .i16 0, .int .u8 0, .int .i16 0, .int .u8 0, .int .i16 0]], []⟩ 8 (by kernel_rfl) (by kernel_rfl) (by kernel_rfl) (by kernel_rfl)) ?_
  intro W base args ds gs before hval0 hW hcnd hsz0 _
  have hsz : (DataW.weightsEach Try.prog (Try.f3.params.toList ++ Rows.fnExactLevelCrateSpec.plain.varTypes Try.prog) (ds ++ gs)).all (· ≤ reachBytes) = true := hsz0
  have hval : ∀ (j : Nat) t v, Try.f3.params[j]? = some t → args[j]? = some v → Value.okWide Try.prog W .any base t v := hval0
  have hW' := hW
  obtain ⟨p, q, hA0, hV, rfl, hfz, hnd⟩ := hW
  have hA : DataW.TrodAll enc Try.prog W 0 (fun _ => true) true Try.f3.params.toList args.toList ds p := hA0
  rw [Try.params3] at hA hval hsz
  obtain ⟨v0, vs0, d0, ds0, p0, q0, hargs0, rfl, rfl, h0, r0⟩ := trodAll_cons hA
  obtain ⟨rfl, rfl, rfl⟩ := trodAll_nil r0
  obtain rfl : args = #[v0] := by cases args; simp_all
  obtain ⟨rfl, rfl⟩ := trodVars_none hV
  have hlt0 : ∀ x ∈ p0, x.block < W.heap.size := fun x hx => by simpa using hW'.lt x (by simp [hx])
  obtain ⟨a0, hv0⟩ := read_crate (hval 0 25 v0 rfl rfl) h0
  subst hv0
  refine (FnExactLevelCrate_any (w := W) a0).mono fun e W' ⟨he, bel⟩ => ?_
  subst he
  exact ⟨_, rfl, _, _, _, [], _, [], hW', trodAll_mk1 (shut_bool Try.underlying4 _), (trodAll_cons_mk (Below.trod laidOut (by kernel_rfl) (of_decide_eq_true (by kernel_rfl)) h0 bel hlt0) trodAll_mk0), rfl, bel.frame _, fun h => by cases h⟩
theorem over : Rows.fnExactLevelCrateRow.holds Try.pinned (OpenSpec.ofChange Rows.fnExactLevelCrateSpec) :=
  OpenClaim.holds_of_wide 3 Try.f3 rfl rfl rfl rfl rfl rfl rfl ⟨rfl, rfl, rfl, rfl, rfl⟩ rfl rfl rfl rfl rfl (by kernel_rfl) Try.func3 (by kernel_rfl)
    (of_decide_eq_true (by kernel_rfl)) (by unfold Func.isWrapper; first | (rw [if_pos (by decide +kernel)]; kernel_rfl) | (rw [if_neg (by decide +kernel)]; exact ⟨rfl, rfl⟩))
    (fun os started H enc _ => lifted os started H enc)
theorem proved : Rows.FnExactLevelCrateSaid := over
end Go.Proofs.Ytnhpgahapjjjbaa.fnExactLevelCrate
namespace Go.Proofs.Ytnhpgahapjjjbaa
/-- The row, under a short name, for the claim. -/
theorem fnExactLevelCrate_holds : Rows.FnExactLevelCrateSaid := fnExactLevelCrate.proved
end Go.Proofs.Ytnhpgahapjjjbaa
