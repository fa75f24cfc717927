/- The law FnExactWantedIn holds: the program's WantedIn answers as the reference's, whatever the order. -/
import Derived.Test.YthjfaggbkmchkaaRows
import Derived.Test.YthjfaggbkmchkaaWantS
import Derived.Test.YthjfaggbkmchkaaWanted
import Derived.Test.YthjfaggbkmchkaaRead
import Derived.Test.YthjfaggbkmchkaaTail
namespace Go.Proofs.Ythjfaggbkmchkaa
open Go.RowKit
set_option linter.unusedVariables false
set_option linter.unusedSimpArgs false
set_option maxRecDepth 100000
set_option maxHeartbeats 1000000
attribute [local go_sem] Oper.qB
theorem FnExactWantedIn_any (w : World) (A : Option Addr) (c : Nat) (l : List Wt) (hm : l.length ≤ maxLen) (hr : RdA w A (fl wc l)) : Calls Try.prog 4 #[.slice A l.length c] w fun e w' => e = .returned (.bool true) ∧ Below w.heap.size w w' := by
  have H := Below.refl w.heap.size w
  have hm1 : l.length ≤ 9223372036854775807 := by simpa [maxLen] using hm
  by_cases h1 : l.length ≤ 1048576
  · go_enter Try.func4, Try.ntmps4
    go_upto_region 5 with (go_at_call 15; refine (szWantS_any _ _ _ _ _ (by omega) (by omega) hm).mono ?_; rintro e w1 ⟨rfl, hb⟩; rw [if_neg (by omega)]; replace H := bstep H hb; clear hb)
    go_upto_region 6 with (first | (go_at_call 17; refine (toWantS_any A c l _ (hr.below H) h1).mono ?_; rintro e w2 ⟨g1, rfl, O1, hb⟩; have K1 := own_lies O1; clear O1; replace H := bstep H hb; clear hb) | (go_at_call 20; refine (sWantedIn_any _ _ _ l _ K1.c K1.lt (by omega)).mono ?_; rintro e w3 ⟨rfl, hb⟩; replace K1 := K1.below hb; replace H := bstep H hb; clear hb))
    clear K1
    go_upto_region 7 with (go_at_call 17; refine (toWantS_any A c l _ (hr.below H) h1).mono ?_; rintro e w4 ⟨g1, rfl, O1, hb⟩; have K1 := own_lies O1; clear O1; replace H := bstep H hb; clear hb)
    go_wp2_with (first | (go_at_call 21; refine (WantedIn_any _ _ _ l _ K1.c K1.lt (by omega)).mono ?_; rintro e w5 ⟨rfl, hb⟩; replace K1 := K1.below hb; replace H := bstep H hb; clear hb) | (go_at_call 17; refine (toWantS_any A c l _ (hr.below H) h1).mono ?_; rintro e w6 ⟨g2, rfl, O2, hb⟩; have K2 := own_lies O2; clear O2; replace K1 := K1.below hb; replace H := bstep H hb; clear hb) | (go_at_call 19; refine (eqWantS_refl _ _ _ _ l _ K1.rd K2.rd (by omega)).mono ?_; rintro e w7 ⟨rfl, hb⟩; replace H := bstep H hb; clear hb))
    go_ret
    exact ⟨rfl, H⟩
  · go_enter Try.func4, Try.ntmps4
    go_wp2_with (go_at_call 15; refine (szWantS_any _ _ _ _ _ (by omega) (by omega) hm).mono ?_; rintro e w1 ⟨rfl, hb⟩; rw [if_pos (by omega)]; replace H := bstep H hb; clear hb)
    go_ret
    exact ⟨rfl, H⟩
end Go.Proofs.Ythjfaggbkmchkaa
namespace Go.Proofs.Ythjfaggbkmchkaa.fnExactWantedIn
open Go.ChangeShapes Go.WideShapes Go.ChangeAt Go.RowKit
open Go.ChangeMaps (open_string shut_string)
set_option linter.unusedVariables false
set_option linter.unusedSimpArgs false
set_option maxRecDepth 100000 in
theorem lifted (os : Os) (started : os.Started) (H : Type) (enc : TypeId × Value → H) :
    ReturnsInHanded {} Try.checked os 4 .any (Rows.fnExactWantedInSpec.pre6 enc Try.prog Try.f4 Rows.fnExactWantedInRow.domain false) (Rows.fnExactWantedInSpec.post enc Try.prog Try.f4 false true false false) := by
  refine returnsInHanded_of_change_sized (C := Try.checked) own started (by kernel_rfl) Try.func4
    (ChangeSpec.witness6 (enc := enc) (C := Try.checked) false ⟨#[], #[.slice none 0 0], []⟩ 8 (by kernel_rfl) (by kernel_rfl) (by kernel_rfl) (by kernel_rfl)) ?_
  intro W base args ds gs before hval0 hW hcnd hsz0 _
  have hsz : (DataW.weightsEach Try.prog (Try.f4.params.toList ++ Rows.fnExactWantedInSpec.plain.varTypes Try.prog) (ds ++ gs)).all (· ≤ reachBytes) = true := hsz0
  have hval : ∀ (j : Nat) t v, Try.f4.params[j]? = some t → args[j]? = some v → Value.okWide Try.prog W .any base t v := hval0
  have hW' := hW
  obtain ⟨p, q, hA0, hV, rfl, hfz, hnd⟩ := hW
  have hA : DataW.TrodAll enc Try.prog W 0 (fun _ => true) true Try.f4.params.toList args.toList ds p := hA0
  rw [Try.params4] at hA hval hsz
  obtain ⟨v0, vs0, d0, ds0, p0, q0, hargs0, rfl, rfl, h0, r0⟩ := trodAll_cons hA
  obtain ⟨rfl, rfl, rfl⟩ := trodAll_nil r0
  obtain rfl : args = #[v0] := by cases args; simp_all
  obtain ⟨rfl, rfl⟩ := trodVars_none hV
  have hlt0 : ∀ x ∈ p0, x.block < W.heap.size := fun x hx => by simpa using hW'.lt x (by simp [hx])
  obtain ⟨A0, c0, l0, hv0, hm0, hr0⟩ := read_wants (hval 0 22 v0 rfl rfl) h0
  subst hv0
  refine (FnExactWantedIn_any (w := W) A0 c0 l0 hm0 hr0).mono fun e W' ⟨he, bel⟩ => ?_
  subst he
  exact ⟨_, rfl, _, _, _, [], _, [], hW', trodAll_mk1 (shut_bool Try.underlying4 _), (trodAll_cons_mk (Below.trod laidOut (by kernel_rfl) (of_decide_eq_true (by kernel_rfl)) h0 bel hlt0) trodAll_mk0), rfl, bel.frame _, fun h => by cases h⟩
theorem over : Rows.fnExactWantedInRow.holds Try.pinned (OpenSpec.ofChange Rows.fnExactWantedInSpec) :=
  OpenClaim.holds_of_wide 4 Try.f4 rfl rfl rfl rfl rfl rfl rfl ⟨rfl, rfl, rfl, rfl, rfl⟩ rfl rfl rfl rfl rfl (by kernel_rfl) Try.func4 (by kernel_rfl)
    (of_decide_eq_true (by kernel_rfl)) (by unfold Func.isWrapper; first | (rw [if_pos (by decide +kernel)]; kernel_rfl) | (rw [if_neg (by decide +kernel)]; exact ⟨rfl, rfl⟩))
    (fun os started H enc _ => lifted os started H enc)
theorem proved : Rows.FnExactWantedInSaid := over
end Go.Proofs.Ythjfaggbkmchkaa.fnExactWantedIn
namespace Go.Proofs.Ythjfaggbkmchkaa
/-- The row, under a short name, for the claim. -/
theorem fnExactWantedIn_holds : Rows.FnExactWantedInSaid := fnExactWantedIn.proved
end Go.Proofs.Ythjfaggbkmchkaa
