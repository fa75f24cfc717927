/- The law FnExactFillFrom holds: the program's FillFrom answers as the reference's, whatever the two crates. -/
import Derived.Test.YtkpaijbjbbgpmaaRows
import Derived.Test.YtkpaijbjbbgpmaaFill
import Derived.Test.YtkpaijbjbbgpmaaConv
import Derived.Test.YtkpaijbjbbgpmaaDrawn
import Derived.Test.YtkpaijbjbbgpmaaRead
import Derived.Test.YtkpaijbjbbgpmaaTail
namespace Go.Proofs.Ytkpaijbjbbgpmaa
open Go.RowKit
set_option linter.unusedVariables false
set_option linter.unusedSimpArgs false
set_option maxRecDepth 100000
set_option maxHeartbeats 1000000
attribute [local go_sem] Oper.qB
theorem FnExactFillFrom_any (a b : Cr) (w : World) : Calls Try.prog 11 #[cv a, cv b] w fun e w' => e = .returned (.bool true) ∧ Below w.heap.size w w' := by
  have h1 := sFillFrom_any a b
  have h2 := FillFrom_any a b
  generalize fillR a b = z at h1 h2
  obtain ⟨X, Y, n⟩ := z
  go_enter Try.func11, Try.ntmps11
  go_upto_region 1 with fail
  generalize hW : World.alloc _ _ = W
  have H0 : Below w.heap.size w W := by rw [← hW]; go_grown
  have r0 : rowOf W (w.heap.size) = some ((cc a).toArray) := (by (try rw [← hW]); simp only [rowOf_alloc, World.size_alloc, ↓reduceIte]; all_goals ((repeat' split) <;> first | omega | (exfalso; omega) | rfl))
  have r1 : rowOf W (w.heap.size + 1) = some ((cc b).toArray) := (by (try rw [← hW]); simp only [rowOf_alloc, World.size_alloc, ↓reduceIte]; all_goals ((repeat' split) <;> first | omega | (exfalso; omega) | rfl))
  clear hW
  have q0 : w.heap.size < w.heap.size + 1 := by omega
  have l0 : w.heap.size ≤ w.heap.size := Nat.le_refl _
  generalize w.heap.size + 1 = g1 at r1 q0 ⊢
  generalize h0 : w.heap.size = g0 at r0 q0 ⊢
  replace l0 : w.heap.size ≤ g0 := Nat.le_of_eq h0
  clear h0
  have b0 := rowOf_lt r0
  have b1 := rowOf_lt r1
  have H := Below.refl W.heap.size W
  apply wp_region_laid2 9 1
  case ha1 => exact rfl
  case ha2 => exact rfl
  case hs1 => exact rfl
  case hs2 => exact rfl
  case hB => kernel_rfl
  case hm => kernel_rfl
  case hlen => rfl
  case ga1 => rfl
  case ga2 => rfl
  case da1 => rfl
  case da2 => rfl
  case gs1 => rfl
  case ds1 => rfl
  case gs2 => rfl
  case ds2 => rfl
  case hne => decide
  case hrun1 => exact alloc_run
  case hrun2 => exact alloc_run
  case ho1 => rfl
  case ho2 => rfl
  simp only [List.take_succ_cons, List.take_zero, List.drop_succ_cons, List.drop_zero]
  (repeat (first | (refine qB_load_row H rfl _ _ rfl _ rfl _ r0 _ Try.underlying31 rfl (infoLC a) ?_) | (refine qB_load_row H rfl _ _ rfl _ rfl _ r1 _ Try.underlying31 rfl (infoLC b) ?_) | (refine qB_step (fun K hK => ?_); go_simp; first | (refine hK _ ?_; clear hK K) | (apply Exists.intro; refine ⟨fun _ => ?_, hK _ ?_⟩; (first | (go_at_call 21; with_reducible exact toCrate_any a _) | (go_at_call 21; with_reducible exact toCrate_any b _) | (go_at_call 42; with_reducible exact h1 _)); clear hK K))))
  refine qB_nil ⟨(cc X).toArray, (cc Y).toArray, fun _ _ => ⟨rfl, rfl, rfl, rfl⟩, ⟨cc_size2 zC _, infoC _, cc_one _⟩, ⟨cc_size2 zC _, infoC _, cc_one _⟩, ?_⟩
  intro g2 g3 lr2 lr3 hg2g3
  (repeat (first | fail | (refine qB_step (fun K hK => ?_); go_simp; first | (refine hK _ ?_; clear hK K) | (apply Exists.intro; refine ⟨fun _ => ?_, hK _ ?_⟩; (first | fail); clear hK K))))
  refine qB_nil ?_
  intro w1 hw1 r2 r3
  replace H := bstep H hw1
  clear hw1
  replace r0 := row_kept r0 H
  replace r1 := row_kept r1 H
  replace H0 := bstep H0 H
  replace H := below_self H
  go_upto_region 2 with fail
  apply wp_region_laid2 9 1
  case ha1 => exact rfl
  case ha2 => exact rfl
  case hs1 => exact rfl
  case hs2 => exact rfl
  case hB => kernel_rfl
  case hm => kernel_rfl
  case hlen => rfl
  case ga1 => rfl
  case ga2 => rfl
  case da1 => rfl
  case da2 => rfl
  case gs1 => rfl
  case ds1 => rfl
  case gs2 => rfl
  case ds2 => rfl
  case hne => decide
  case hrun1 => exact alloc_run
  case hrun2 => exact alloc_run
  case ho1 => rfl
  case ho2 => rfl
  simp only [List.take_succ_cons, List.take_zero, List.drop_succ_cons, List.drop_zero]
  (repeat (first | (refine qB_load_row H rfl _ _ rfl _ rfl _ r0 _ Try.underlying31 rfl (infoLC a) ?_) | (refine qB_load_row H rfl _ _ rfl _ rfl _ r1 _ Try.underlying31 rfl (infoLC b) ?_) | (refine qB_step (fun K hK => ?_); go_simp; first | (refine hK _ ?_; clear hK K) | (apply Exists.intro; refine ⟨fun _ => ?_, hK _ ?_⟩; (first | (go_at_call 21; with_reducible exact toCrate_any a _) | (go_at_call 21; with_reducible exact toCrate_any b _) | (go_at_call 43; with_reducible exact h2 _)); clear hK K))))
  refine qB_nil ⟨(cc X).toArray, (cc Y).toArray, fun _ _ => ⟨rfl, rfl, rfl, rfl⟩, ⟨cc_size2 zC _, infoC _, cc_one _⟩, ⟨cc_size2 zC _, infoC _, cc_one _⟩, ?_⟩
  intro g4 g5 lr4 lr5 hg4g5
  (repeat (first | fail | (refine qB_step (fun K hK => ?_); go_simp; first | (refine hK _ ?_; clear hK K) | (apply Exists.intro; refine ⟨fun _ => ?_, hK _ ?_⟩; (first | fail); clear hK K))))
  refine qB_nil ?_
  intro w1 hw1 r4 r5
  replace H := bstep H hw1
  clear hw1
  replace r0 := row_kept r0 H
  replace r1 := row_kept r1 H
  replace r2 := row_kept r2 H
  replace r3 := row_kept r3 H
  replace H0 := bstep H0 H
  replace H := below_self H
  have H := H
  go_wp2_with (first | ((with_reducible refine wp_load_rowBg H ?_ _ _ rfl _ rfl _ r2 _ Try.underlying34 rfl (infoC X) ?_); rfl) | ((with_reducible refine wp_load_rowBg H ?_ _ _ rfl _ rfl _ r3 _ Try.underlying34 rfl (infoC Y) ?_); rfl) | ((with_reducible refine wp_load_rowBg H ?_ _ _ rfl _ rfl _ r4 _ Try.underlying34 rfl (infoC X) ?_); rfl) | ((with_reducible refine wp_load_rowBg H ?_ _ _ rfl _ rfl _ r5 _ Try.underlying34 rfl (infoC Y) ?_); rfl) | (go_at_call 23; with_reducible refine (eqCrate_refl X _).mono ?_; rintro e w' ⟨rfl, hb⟩; replace H := bstep H hb; clear hb; have hc := bcell H) | (go_at_call 23; with_reducible refine (eqCrate_refl Y _).mono ?_; rintro e w' ⟨rfl, hb⟩; replace H := bstep H hb; clear hb; have hc := bcell H))
  go_ret
  exact ⟨rfl, bstep H0 H⟩
end Go.Proofs.Ytkpaijbjbbgpmaa
namespace Go.Proofs.Ytkpaijbjbbgpmaa.fnExactFillFrom
open Go.ChangeShapes Go.WideShapes Go.ChangeAt Go.RowKit
open Go.ChangeMaps (open_string shut_string)
set_option linter.unusedVariables false
set_option linter.unusedSimpArgs false
set_option maxRecDepth 100000 in
theorem lifted (os : Os) (started : os.Started) (H : Type) (enc : TypeId × Value → H) :
    ReturnsInHanded {} Try.checked os 11 .any (Rows.fnExactFillFromSpec.pre6 enc Try.prog Try.f11 Rows.fnExactFillFromRow.domain false) (Rows.fnExactFillFromSpec.post enc Try.prog Try.f11 false true false false) := by
  refine returnsInHanded_of_change_sized (C := Try.checked) own started (by kernel_rfl) Try.func11
    (ChangeSpec.witness6 (enc := enc) (C := Try.checked) false ⟨#[], #[.agg #[.int .u8 0, .int .i16 0, .int .u8 0, .int .i16 0, .int .u8 0, .int .i16 0, .int .u8 0, .int .i16 0, .int .u8 0, .int .i16 0, .int .u8 0, .int .i16 0, .int .u8 0, .int .i16 0, .int .u8 0, .int .i16 0, .int .u8 0, .int .i16 0, .int .u8 0, .int .i16 0, .int .u8 0, .int .i16 0, .int .u8 0, .int .i16 0], .agg #[.int .u8 0, .int .i16 0, .int .u8 0, .int .i16 0, .int .u8 0, .int .i16 0, .int .u8 0, .int .i16 0, .int .u8 0, .int .i16 0, .int .u8 0, .int .i16 0, .int .u8 0, .int .i16 0, .int .u8 0, .int .i16 0, .int .u8 0, .int .i16 0, .int .u8 0, .int .i16 0, .int .u8 0, .int .i16 0, .int .u8 0, .int .i16 0]], []⟩ 8 (by kernel_rfl) (by kernel_rfl) (by kernel_rfl) (by kernel_rfl)) ?_
  intro W base args ds gs before hval0 hW hcnd hsz0 _
  have hsz : (DataW.weightsEach Try.prog (Try.f11.params.toList ++ Rows.fnExactFillFromSpec.plain.varTypes Try.prog) (ds ++ gs)).all (· ≤ reachBytes) = true := hsz0
  have hval : ∀ (j : Nat) t v, Try.f11.params[j]? = some t → args[j]? = some v → Value.okWide Try.prog W .any base t v := hval0
  have hW' := hW
  obtain ⟨p, q, hA0, hV, rfl, hfz, hnd⟩ := hW
  have hA : DataW.TrodAll enc Try.prog W 0 (fun _ => true) true Try.f11.params.toList args.toList ds p := hA0
  rw [Try.params11] at hA hval hsz
  obtain ⟨v0, vs0, d0, ds0, p0, q0, hargs0, rfl, rfl, h0, r0⟩ := trodAll_cons hA
  obtain ⟨v1, vs1, d1, ds1, p1, q1, hargs1, rfl, rfl, h1, r1⟩ := trodAll_cons r0
  obtain ⟨rfl, rfl, rfl⟩ := trodAll_nil r1
  subst hargs1
  obtain rfl : args = #[v0, v1] := by cases args; simp_all
  obtain ⟨rfl, rfl⟩ := trodVars_none hV
  have hlt0 : ∀ x ∈ p0, x.block < W.heap.size := fun x hx => by simpa using hW'.lt x (by simp [hx])
  have hlt1 : ∀ x ∈ p1, x.block < W.heap.size := fun x hx => by simpa using hW'.lt x (by simp [hx])
  obtain ⟨a0, hv0⟩ := read_crate (hval 0 31 v0 rfl rfl) h0
  subst hv0
  obtain ⟨a1, hv1⟩ := read_crate (hval 1 31 v1 rfl rfl) h1
  subst hv1
  refine (FnExactFillFrom_any a0 a1 W).mono fun e W' ⟨he, bel⟩ => ?_
  subst he
  exact ⟨_, rfl, _, _, _, [], _, [], hW', trodAll_mk1 (shut_bool Try.underlying4 _), (trodAll_cons_mk (Below.trod laidOut (by kernel_rfl) (of_decide_eq_true (by kernel_rfl)) h0 bel hlt0) (trodAll_cons_mk (Below.trod laidOut (by kernel_rfl) (of_decide_eq_true (by kernel_rfl)) h1 bel hlt1) trodAll_mk0)), rfl, bel.frame _, fun h => by cases h⟩
theorem over : Rows.fnExactFillFromRow.holds Try.pinned (OpenSpec.ofChange Rows.fnExactFillFromSpec) :=
  OpenClaim.holds_of_wide 11 Try.f11 rfl rfl rfl rfl rfl rfl rfl ⟨rfl, rfl, rfl, rfl, rfl⟩ rfl rfl rfl rfl rfl (by kernel_rfl) Try.func11 (by kernel_rfl)
    (of_decide_eq_true (by kernel_rfl)) (by unfold Func.isWrapper; first | (rw [if_pos (by decide +kernel)]; kernel_rfl) | (rw [if_neg (by decide +kernel)]; exact ⟨rfl, rfl⟩))
    (fun os started H enc _ => lifted os started H enc)
theorem proved : Rows.FnExactFillFromSaid := over
end Go.Proofs.Ytkpaijbjbbgpmaa.fnExactFillFrom
namespace Go.Proofs.Ytkpaijbjbbgpmaa
/-- The row, under a short name, for the claim. -/
theorem fnExactFillFrom_holds : Rows.FnExactFillFromSaid := fnExactFillFrom.proved
end Go.Proofs.Ytkpaijbjbbgpmaa
