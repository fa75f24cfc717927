/- The law FnExactBottlesIn holds: the program's BottlesIn answers as the reference's, whatever the crate. -/
import Derived.Test.YtkpaijbjbbgpmaaRows
import Derived.Test.YtkpaijbjbbgpmaaAll
import Derived.Test.YtkpaijbjbbgpmaaMarkB
import Derived.Test.YtkpaijbjbbgpmaaConv
import Derived.Test.YtkpaijbjbbgpmaaRead
import Derived.Test.YtkpaijbjbbgpmaaTail
namespace Go.Proofs.Ytkpaijbjbbgpmaa
open Go.RowKit
set_option linter.unusedVariables false
set_option linter.unusedSimpArgs false
set_option maxRecDepth 100000
set_option maxHeartbeats 1000000
attribute [local go_sem] Oper.qB
theorem FnExactBottlesIn_any (c : Cr) (w : World) : Calls Try.prog 13 #[cv c] w fun e w' => e = .returned (.bool true) ∧ Below w.heap.size w w' := by
  have h1 := sBottlesIn_any c
  have h2 := BottlesIn_any c
  have hl := allR_le c
  generalize allR c = z at h1 h2 hl
  obtain ⟨l, n⟩ := z
  replace hl : l.length ≤ 12 := hl
  go_enter Try.func13, Try.ntmps13
  go_upto_region 1 with fail
  generalize hW : World.alloc _ _ = W
  have H0 : Below w.heap.size w W := by rw [← hW]; go_grown
  have r0 : rowOf W (w.heap.size) = some ((cc c).toArray) := (by (try rw [← hW]); simp only [rowOf_alloc, World.size_alloc, ↓reduceIte]; all_goals ((repeat' split) <;> first | omega | (exfalso; omega) | rfl))
  clear hW
  have l0 : w.heap.size ≤ w.heap.size := Nat.le_refl _
  generalize h0 : w.heap.size = g0 at r0 ⊢
  replace l0 : w.heap.size ≤ g0 := Nat.le_of_eq h0
  clear h0
  have b0 := rowOf_lt r0
  have H := Below.refl W.heap.size W
  go_upto_region 2 with (first | ((with_reducible refine wp_load_rowBg H ?_ _ _ rfl _ rfl _ r0 _ Try.underlying31 rfl (infoLC c) ?_); rfl) | (go_at_call 21; with_reducible refine (toCrate_any c _).mono ?_; rintro e w' ⟨rfl, hb⟩; replace H := bstep H hb; clear hb; have hc := bcell H) | (go_at_call 46; refine (h1 _).mono ?_; rintro e w1 ⟨v1, rfl, O1, hb⟩; replace H := bstep H hb; clear hb))
  clear hc
  replace r0 := row_kept r0 H
  replace H0 := bstep H0 H
  replace H := below_self H
  replace b0 := rowOf_lt r0
  have q0 := H0.size
  go_upto_region 3 with (first | ((with_reducible refine wp_load_rowBg H ?_ _ _ rfl _ rfl _ r0 _ Try.underlying31 rfl (infoLC c) ?_); rfl) | (go_at_call 21; with_reducible refine (toCrate_any c _).mono ?_; rintro e w' ⟨rfl, hb⟩; replace H := bstep H hb; clear hb; have hc := bcell H) | (go_at_call 47; refine (h2 _).mono ?_; rintro e w2 ⟨v2, rfl, O2, hb⟩; replace O2 := own_down O2 H.size; replace H := bstep H hb; clear hb))
  clear hc
  obtain ⟨A1, p1, rfl, hp1, R1, L1⟩ := own_rdA O1
  replace L1 : ∀ a, A1 = some a → a.block < w1.heap.size := fun a ha => (L1 a ha).2
  replace R1 := R1.below H
  clear O1
  have q1 := H.size
  replace r0 := row_kept r0 H
  replace H0 := bstep H0 H
  replace H := below_self H
  have R2 := O2
  obtain ⟨A2, p2, rfl, hp2, R2, L2⟩ := own_rdA R2
  go_upto_region 6 with (go_at_call 48; refine (eqBottleS_refl _ _ _ _ l _ (R2.below H) (R1.below H) (by omega)).mono ?_; rintro e w3 ⟨rfl, hb⟩; replace H := bstep H hb; clear hb)
  replace O2 := own_kept O2 H
  replace R1 := R1.below H
  replace q1 := Nat.le_trans q1 H.size
  replace r0 := row_kept r0 H
  replace H0 := bstep H0 H
  replace H := below_self H
  have hz1 : (0 : Int) ≤ 1 := by decide
  have hz2 : (1 : Int) + 2 * (l.length : Int) ≤ 200 := by omega
  have hl2 : l.length ≤ 1000000000 := by omega
  go_upto_region 7 with (go_at_call 49; refine (markBottleS_any w1.heap.size _ l 1 _ O2 q1 hz1 hz2).mono ?_; rintro e w4 ⟨rfl, O4, hb⟩)
  replace R1 := R1.belowB hb L1
  replace r0 := (rowOf_below hb b0).trans r0
  replace H0 := H0.trans (hb.mono q0)
  obtain ⟨A4, p4, hv4, hp4, R4, L4⟩ := own_rdA O4
  simp only [Value.slice.injEq] at hv4
  obtain ⟨rfl, -, rfl⟩ := hv4
  replace H := Below.refl w4.heap.size w4
  clear O2 O4 hb R2
  go_wp2_with (first | ((with_reducible refine wp_load_rowBg H ?_ _ _ rfl _ rfl _ r0 _ Try.underlying31 rfl (infoLC c) ?_); rfl) | (go_at_call 21; refine (toCrate_any c _).mono ?_; rintro e w' ⟨rfl, hb⟩; replace H := bstep H hb; clear hb) | (go_at_call 50; refine (heldBottleS_any _ _ l.length 1 _ (R4.below H) hz1 hz2).mono ?_; rintro e w' ⟨rfl, hb⟩; replace H := bstep H hb; clear hb) | (go_at_call 47; refine (h2 _).mono ?_; rintro e w6 ⟨v6, rfl, O6, hb⟩; replace H := bstep H hb; clear hb; obtain ⟨A6, p6, rfl, hp6, R6, L6⟩ := own_rdA O6) | (go_at_call 48; refine (eqBottleS_refl _ _ _ _ l _ R6 (R1.below H) hl2).mono ?_; rintro e w' ⟨rfl, hb⟩; replace H := bstep H hb; clear hb))
  go_ret
  exact ⟨rfl, bstep H0 H⟩
end Go.Proofs.Ytkpaijbjbbgpmaa
namespace Go.Proofs.Ytkpaijbjbbgpmaa.fnExactBottlesIn
open Go.ChangeShapes Go.WideShapes Go.ChangeAt Go.RowKit
open Go.ChangeMaps (open_string shut_string)
set_option linter.unusedVariables false
set_option linter.unusedSimpArgs false
set_option maxRecDepth 100000 in
theorem lifted (os : Os) (started : os.Started) (H : Type) (enc : TypeId × Value → H) :
    ReturnsInHanded {} Try.checked os 13 .any (Rows.fnExactBottlesInSpec.pre6 enc Try.prog Try.f13 Rows.fnExactBottlesInRow.domain false) (Rows.fnExactBottlesInSpec.post enc Try.prog Try.f13 false true false false) := by
  refine returnsInHanded_of_change_sized (C := Try.checked) own started (by kernel_rfl) Try.func13
    (ChangeSpec.witness6 (enc := enc) (C := Try.checked) false ⟨#[], #[.agg #[.int .u8 0, .int .i16 0, .int .u8 0, .int .i16 0, .int .u8 0, .int .i16 0, .int .u8 0, .int .i16 0, .int .u8 0, .int .i16 0, .int .u8 0, .int .i16 0, .int .u8 0, .int .i16 0, .int .u8 0, .int .i16 0, .int .u8 0, .int .i16 0, .int .u8 0, .int .i16 0, .int .u8 0, .int .i16 0, .int .u8 0, .int .i16 0]], []⟩ 8 (by kernel_rfl) (by kernel_rfl) (by kernel_rfl) (by kernel_rfl)) ?_
  intro W base args ds gs before hval0 hW hcnd hsz0 _
  have hsz : (DataW.weightsEach Try.prog (Try.f13.params.toList ++ Rows.fnExactBottlesInSpec.plain.varTypes Try.prog) (ds ++ gs)).all (· ≤ reachBytes) = true := hsz0
  have hval : ∀ (j : Nat) t v, Try.f13.params[j]? = some t → args[j]? = some v → Value.okWide Try.prog W .any base t v := hval0
  have hW' := hW
  obtain ⟨p, q, hA0, hV, rfl, hfz, hnd⟩ := hW
  have hA : DataW.TrodAll enc Try.prog W 0 (fun _ => true) true Try.f13.params.toList args.toList ds p := hA0
  rw [Try.params13] at hA hval hsz
  obtain ⟨v0, vs0, d0, ds0, p0, q0, hargs0, rfl, rfl, h0, r0⟩ := trodAll_cons hA
  obtain ⟨rfl, rfl, rfl⟩ := trodAll_nil r0
  obtain rfl : args = #[v0] := by cases args; simp_all
  obtain ⟨rfl, rfl⟩ := trodVars_none hV
  have hlt0 : ∀ x ∈ p0, x.block < W.heap.size := fun x hx => by simpa using hW'.lt x (by simp [hx])
  obtain ⟨a0, hv0⟩ := read_crate (hval 0 31 v0 rfl rfl) h0
  subst hv0
  refine (FnExactBottlesIn_any (w := W) a0).mono fun e W' ⟨he, bel⟩ => ?_
  subst he
  exact ⟨_, rfl, _, _, _, [], _, [], hW', trodAll_mk1 (shut_bool Try.underlying4 _), (trodAll_cons_mk (Below.trod laidOut (by kernel_rfl) (of_decide_eq_true (by kernel_rfl)) h0 bel hlt0) trodAll_mk0), rfl, bel.frame _, fun h => by cases h⟩
theorem over : Rows.fnExactBottlesInRow.holds Try.pinned (OpenSpec.ofChange Rows.fnExactBottlesInSpec) :=
  OpenClaim.holds_of_wide 13 Try.f13 rfl rfl rfl rfl rfl rfl rfl ⟨rfl, rfl, rfl, rfl, rfl⟩ rfl rfl rfl rfl rfl (by kernel_rfl) Try.func13 (by kernel_rfl)
    (of_decide_eq_true (by kernel_rfl)) (by unfold Func.isWrapper; first | (rw [if_pos (by decide +kernel)]; kernel_rfl) | (rw [if_neg (by decide +kernel)]; exact ⟨rfl, rfl⟩))
    (fun os started H enc _ => lifted os started H enc)
theorem proved : Rows.FnExactBottlesInSaid := over
end Go.Proofs.Ytkpaijbjbbgpmaa.fnExactBottlesIn
namespace Go.Proofs.Ytkpaijbjbbgpmaa
/-- The row, under a short name, for the claim. -/
theorem fnExactBottlesIn_holds : Rows.FnExactBottlesInSaid := fnExactBottlesIn.proved
end Go.Proofs.Ytkpaijbjbbgpmaa
