/- The law FnExactUsefulIn holds: the program's UsefulIn answers as the reference's, whatever the crate and order. -/
import Derived.Test.YthjfaggbkmchkaaRows
import Derived.Test.YthjfaggbkmchkaaWantS
import Derived.Test.YthjfaggbkmchkaaUse
import Derived.Test.YthjfaggbkmchkaaConv
import Derived.Test.YthjfaggbkmchkaaRead
import Derived.Test.YthjfaggbkmchkaaTail
namespace Go.Proofs.Ythjfaggbkmchkaa
open Go.RowKit
set_option linter.unusedVariables false
set_option linter.unusedSimpArgs false
set_option maxRecDepth 100000
set_option maxHeartbeats 1000000
attribute [local go_sem] Oper.qB
theorem FnExactUsefulIn_any (w : World) (c : Cr) (A : Option Addr) (c0 : Nat) (l : List Wt) (hm : l.length ≤ maxLen) (hr : RdA w A (fl wc l)) : Calls Try.prog 7 #[cv c, .slice A l.length c0] w fun e w' => e = .returned (.bool true) ∧ Below w.heap.size w w' := by
  have hm1 : l.length ≤ 9223372036854775807 := by simpa [maxLen] using hm
  go_enter Try.func7, Try.ntmps7
  go_upto_region 1 with fail
  generalize hW : World.alloc _ _ = W
  have H0 : Below w.heap.size w W := by rw [← hW]; go_grown
  have r0 : rowOf W (w.heap.size) = some ((cc c).toArray) := (by (try rw [← hW]); simp only [rowOf_alloc, World.size_alloc, ↓reduceIte]; all_goals ((repeat' split) <;> first | omega | (exfalso; omega) | rfl))
  clear hW
  have l0 : w.heap.size ≤ w.heap.size := Nat.le_refl _
  generalize h0 : w.heap.size = g0 at r0 ⊢
  replace l0 : w.heap.size ≤ g0 := Nat.le_of_eq h0
  clear h0
  have b0 := rowOf_lt r0
  have H := Below.refl W.heap.size W
  replace hr := hr.below H0
  by_cases h1 : l.length ≤ 1048576
  · go_upto_region 5 with (go_at_call 15; refine (szWantS_any _ _ _ _ _ (by omega) (by omega) hm).mono ?_; rintro e w1 ⟨rfl, hb⟩; rw [if_neg (by omega)]; replace H := bstep H hb; clear hb)
    go_upto_region 6 with (first | ((with_reducible refine wp_load_rowBg H ?_ _ _ rfl _ rfl _ r0 _ Try.underlying34 rfl (infoLC c) ?_); rfl) | (go_at_call 24; refine (toCrate_any c _).mono ?_; rintro e w3 ⟨rfl, hb⟩; replace H := bstep H hb; clear hb) | (go_at_call 17; refine (toWantS_any A c0 l _ (hr.below H) h1).mono ?_; rintro e w2 ⟨g1, rfl, O1, hb⟩; have K1 := own_lies O1; clear O1; replace H := bstep H hb; clear hb) | (go_at_call 31; refine (sUsefulIn_any _ _ _ c l _ K1.c K1.lt h1).mono ?_; rintro e w3 ⟨rfl, hb⟩; replace K1 := K1.below hb; replace H := bstep H hb; clear hb))
    clear K1
    go_upto_region 7 with (go_at_call 17; refine (toWantS_any A c0 l _ (hr.below H) h1).mono ?_; rintro e w4 ⟨g1, rfl, O1, hb⟩; have K1 := own_lies O1; clear O1; replace H := bstep H hb; clear hb)
    go_wp2_with (first | ((with_reducible refine wp_load_rowBg H ?_ _ _ rfl _ rfl _ r0 _ Try.underlying34 rfl (infoLC c) ?_); rfl) | (go_at_call 24; refine (toCrate_any c _).mono ?_; rintro e w3 ⟨rfl, hb⟩; replace K1 := K1.below hb; replace H := bstep H hb; clear hb) | (go_at_call 32; refine (UsefulIn_any _ _ _ c l _ K1.c K1.lt h1).mono ?_; rintro e w5 ⟨rfl, hb⟩; replace K1 := K1.below hb; replace H := bstep H hb; clear hb) | (go_at_call 17; refine (toWantS_any A c0 l _ (hr.below H) h1).mono ?_; rintro e w6 ⟨g2, rfl, O2, hb⟩; have K2 := own_lies O2; clear O2; replace K1 := K1.below hb; replace H := bstep H hb; clear hb) | (go_at_call 19; refine (eqWantS_refl _ _ _ _ l _ K1.rd K2.rd (by omega)).mono ?_; rintro e w7 ⟨rfl, hb⟩; replace H := bstep H hb; clear hb))
    go_ret
    exact ⟨rfl, bstep H0 H⟩
  · go_wp2_with (go_at_call 15; refine (szWantS_any _ _ _ _ _ (by omega) (by omega) hm).mono ?_; rintro e w1 ⟨rfl, hb⟩; rw [if_pos (by omega)]; replace H := bstep H hb; clear hb)
    go_ret
    exact ⟨rfl, bstep H0 H⟩
end Go.Proofs.Ythjfaggbkmchkaa
namespace Go.Proofs.Ythjfaggbkmchkaa.fnExactUsefulIn
open Go.ChangeShapes Go.WideShapes Go.ChangeAt Go.RowKit
open Go.ChangeMaps (open_string shut_string)
set_option linter.unusedVariables false
set_option linter.unusedSimpArgs false
set_option maxRecDepth 100000 in
theorem lifted (os : Os) (started : os.Started) (H : Type) (enc : TypeId × Value → H) :
    ReturnsInHanded {} Try.checked os 7 .any (Rows.fnExactUsefulInSpec.pre6 enc Try.prog Try.f7 Rows.fnExactUsefulInRow.domain false) (Rows.fnExactUsefulInSpec.post enc Try.prog Try.f7 false true false false) := by
  refine returnsInHanded_of_change_sized (C := Try.checked) own started (by kernel_rfl) Try.func7
    (ChangeSpec.witness6 (enc := enc) (C := Try.checked) false ⟨#[], #[.agg #[.int .u8 0, .int .i16 0, .int .u8 0, .int .i16 0, .int .u8 0, .int .i16 0, .int .u8 0, .int .i16 0, .int .u8 0, .int .i16 0, .int .u8 0, .int .i16 0, .int .u8 0, .int .i16 0, .int .u8 0, .int .i16 0, .int .u8 0, .int .i16 0, .int .u8 0, .int .i16 0, .int .u8 0, .int .i16 0, .int .u8 0, .int .i16 0], .slice none 0 0], []⟩ 8 (by kernel_rfl) (by kernel_rfl) (by kernel_rfl) (by kernel_rfl)) ?_
  intro W base args ds gs before hval0 hW hcnd hsz0 _
  have hsz : (DataW.weightsEach Try.prog (Try.f7.params.toList ++ Rows.fnExactUsefulInSpec.plain.varTypes Try.prog) (ds ++ gs)).all (· ≤ reachBytes) = true := hsz0
  have hval : ∀ (j : Nat) t v, Try.f7.params[j]? = some t → args[j]? = some v → Value.okWide Try.prog W .any base t v := hval0
  have hW' := hW
  obtain ⟨p, q, hA0, hV, rfl, hfz, hnd⟩ := hW
  have hA : DataW.TrodAll enc Try.prog W 0 (fun _ => true) true Try.f7.params.toList args.toList ds p := hA0
  rw [Try.params7] at hA hval hsz
  obtain ⟨v0, vs0, d0, ds0, p0, q0, hargs0, rfl, rfl, h0, r0⟩ := trodAll_cons hA
  obtain ⟨v1, vs1, d1, ds1, p1, q1, hargs1, rfl, rfl, h1, r1⟩ := trodAll_cons r0
  obtain ⟨rfl, rfl, rfl⟩ := trodAll_nil r1
  subst hargs1
  obtain rfl : args = #[v0, v1] := by cases args; simp_all
  obtain ⟨rfl, rfl⟩ := trodVars_none hV
  have hlt0 : ∀ x ∈ p0, x.block < W.heap.size := fun x hx => by simpa using hW'.lt x (by simp [hx])
  have hlt1 : ∀ x ∈ p1, x.block < W.heap.size := fun x hx => by simpa using hW'.lt x (by simp [hx])
  obtain ⟨a0, hv0⟩ := read_crate (hval 0 34 v0 rfl rfl) h0
  subst hv0
  obtain ⟨A1, c1, l1, hv1, hm1, hr1⟩ := read_wants (hval 1 22 v1 rfl rfl) h1
  subst hv1
  refine (FnExactUsefulIn_any (w := W) a0 A1 c1 l1 hm1 hr1).mono fun e W' ⟨he, bel⟩ => ?_
  subst he
  exact ⟨_, rfl, _, _, _, [], _, [], hW', trodAll_mk1 (shut_bool Try.underlying4 _), (trodAll_cons_mk (Below.trod laidOut (by kernel_rfl) (of_decide_eq_true (by kernel_rfl)) h0 bel hlt0) (trodAll_cons_mk (Below.trod laidOut (by kernel_rfl) (of_decide_eq_true (by kernel_rfl)) h1 bel hlt1) trodAll_mk0)), rfl, bel.frame _, fun h => by cases h⟩
theorem over : Rows.fnExactUsefulInRow.holds Try.pinned (OpenSpec.ofChange Rows.fnExactUsefulInSpec) :=
  OpenClaim.holds_of_wide 7 Try.f7 rfl rfl rfl rfl rfl rfl rfl ⟨rfl, rfl, rfl, rfl, rfl⟩ rfl rfl rfl rfl rfl (by kernel_rfl) Try.func7 (by kernel_rfl)
    (of_decide_eq_true (by kernel_rfl)) (by unfold Func.isWrapper; first | (rw [if_pos (by decide +kernel)]; kernel_rfl) | (rw [if_neg (by decide +kernel)]; exact ⟨rfl, rfl⟩))
    (fun os started H enc _ => lifted os started H enc)
theorem proved : Rows.FnExactUsefulInSaid := over
end Go.Proofs.Ythjfaggbkmchkaa.fnExactUsefulIn
namespace Go.Proofs.Ythjfaggbkmchkaa
/-- The row, under a short name, for the claim. -/
theorem fnExactUsefulIn_holds : Rows.FnExactUsefulInSaid := fnExactUsefulIn.proved
end Go.Proofs.Ythjfaggbkmchkaa
