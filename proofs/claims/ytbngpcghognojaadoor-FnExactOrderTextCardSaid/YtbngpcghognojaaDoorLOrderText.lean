/- The law FnExactOrderText holds: the program's OrderText answers as the reference's, whatever the order. -/
import Derived.Test.YtbngpcghognojaaDoorRows
import Derived.Test.YtbngpcghognojaaDoorTie
import Derived.Test.YtbngpcghognojaaDoorCards
import Derived.Test.YtbngpcghognojaaDoorOrS
import Derived.Test.YtbngpcghognojaaDoorRead
import Derived.Lib.LaidU8
import Derived.LaidLaws
import Derived.HandedShaped
import Derived.SevenTiedAt
import Derived.Stop.Joined
namespace Go.Proofs.YtbngpcghognojaaDoor
open Go.RowKit
set_option linter.unusedVariables false
set_option linter.unusedSimpArgs false
set_option maxRecDepth 100000
set_option maxHeartbeats 1000000
theorem FnExactOrderText_any (w : World) (A : Option Addr) (c : Nat) (l : List Wt) (hm : l.length ≤ maxLen) (hr : RdA w A (fl wc l)) (ht : Tab w) :
    Calls Tryd.prog 5 #[.slice A l.length c] w fun e w' => e = .returned (.bool true) ∧ Below w.heap.size w w' := by
  have HT := Lib.hid ht
  have H := Below.refl w.heap.size w
  have hm1 : l.length ≤ 9223372036854775807 := by simpa [maxLen] using hm
  by_cases h1 : l.length ≤ 1048576
  · have hs := fun b off c (W : World) (hC : CAt W b off (fl wc l)) (hb : b < W.heap.size) => sOrderText_any b off c l W hC hb h1
    have hp := fun b off c (W : World) (hC : CAt W b off (fl wc l)) (hb : b < W.heap.size) (hW : Below w.heap.size w W) => OrderText_any b off c l W hC hb h1 (HT.out.below hW)
    generalize (if ordOk l = true then ordT l else []) = t at hs hp
    generalize (⟨t.toArray⟩ : ByteArray) = S at hs hp
    replace hs := Lib.hid hs
    replace hp := Lib.hid hp
    go_enter Tryd.func5, Tryd.ntmps5
    go_upto_region 5 with (go_at_call 15; refine (szWantS_any _ _ _ _ _ (by omega) (by omega) hm).mono ?_; rintro e w1 ⟨rfl, hb⟩; rw [if_neg (by omega)]; replace H := bstep H hb; clear hb)
    go_upto_region 6 with (first | (go_at_call 17; refine (toWantS_any A c l _ (hr.below H) h1).mono ?_; rintro e w2 ⟨g1, rfl, O1, hb⟩; have K1 := own_lies O1; clear O1; replace H := bstep H hb; clear hb) | (go_at_call 16; refine (hs.out _ _ _ _ K1.c K1.lt).mono ?_; rintro e w3 ⟨rfl, hb⟩; replace K1 := K1.below hb; replace H := bstep H hb; clear hb))
    clear K1
    go_upto_region 7 with (go_at_call 17; refine (toWantS_any A c l _ (hr.below H) h1).mono ?_; rintro e w4 ⟨g1, rfl, O1, hb⟩; have K1 := own_lies O1; clear O1; replace H := bstep H hb; clear hb)
    go_wp2_with (first | (go_at_call 18; refine (hp.out _ _ _ _ K1.c K1.lt H).mono ?_; rintro e w5 ⟨rfl, hb⟩; replace K1 := K1.below hb; replace H := bstep H hb; clear hb) | (go_at_call 17; refine (toWantS_any A c l _ (hr.below H) h1).mono ?_; rintro e w6 ⟨g2, rfl, O2, hb⟩; have K2 := own_lies O2; clear O2; replace K1 := K1.below hb; replace H := bstep H hb; clear hb) | (go_at_call 19; refine (eqWantS_refl _ _ _ _ l _ K1.rd K2.rd (by omega)).mono ?_; rintro e w7 ⟨rfl, hb⟩; replace H := bstep H hb; clear hb))
    go_ret
    exact ⟨rfl, H⟩
  · go_enter Tryd.func5, Tryd.ntmps5
    go_wp2_with (go_at_call 15; refine (szWantS_any _ _ _ _ _ (by omega) (by omega) hm).mono ?_; rintro e w1 ⟨rfl, hb⟩; rw [if_pos (by omega)]; replace H := bstep H hb; clear hb)
    go_ret
    exact ⟨rfl, H⟩
end Go.Proofs.YtbngpcghognojaaDoor
namespace Go.Proofs.YtbngpcghognojaaDoor.fnExactOrderText
open Go.ChangeShapes Go.WideShapes Go.ChangeAt Go.RowKit
open Go.ChangeMaps (open_string shut_string)
set_option linter.unusedVariables false
set_option linter.unusedSimpArgs false
set_option maxRecDepth 100000 in
/-- The cells of a table. -/
def cellsD : DataW Unit → Array Value
  | .agg ls => (ls.map fun d => match d with | .lit (.int k z) => Value.int k z | _ => .nilIface).toArray
  | _ => #[]
def putG (h : Array Obj) (g : Nat) (cs : Array Value) : Array Obj := h.modify g fun
  | .cells _ t frozen => .cells cs t frozen
  | o => o
noncomputable def laidWorld (os : Os) : World :=
  { World.holding Tryd.prog os ⟨#[], #[], []⟩ with heap := putG (putG (putG (World.holding Tryd.prog os ⟨#[], #[], []⟩).heap 6 (cellsD Rows.laid_math_bits_deBruijn32tab)) 7 (cellsD Rows.laid_math_bits_deBruijn64tab)) 1 (cellsD Rows.laid_internal_strconv_uint64pow10) }
theorem laid_met (os : Os) (args : Array Value) : laidMet Tryd.prog Rows.fnExactOrderTextRow.laid ((laidWorld os).forCall (fun _ _ => 0) ⟨#[], args, []⟩).memory :=
  laidMet_of_run' 8 (by kernel_rfl) (by kernel_rfl)
theorem tab_of {W : World} (h : laidMet Tryd.prog Rows.fnExactOrderTextRow.laid W) : Tab W := by
  obtain ⟨g, t, cs, fuel, p, hg, ht, hvar, hd⟩ := Lib.laidMet.reads h (n := "internal/strconv.uint64pow10") (d := Rows.laid_internal_strconv_uint64pow10) (.tail _ (.tail _ (.head _)))
  obtain rfl := Option.some.inj ((show Tryd.prog.globalNamed "internal/strconv.uint64pow10" = some 1 by kernel_rfl).symm.trans hg)
  obtain rfl := Option.some.inj ((show (Tryd.prog.globals[1]?).map (·.type) = some 135 by kernel_rfl).symm.trans ht)
  rw [show Rows.laid_internal_strconv_uint64pow10 = Lib.tabData (H := Unit) .u64 Lib.pow10Tab by kernel_rfl] at hd
  unfold Tab Lib.TabIs
  have hce : Tryd.prog.cellsOf 113 = 1 := by kernel_rfl
  have hct : Tryd.prog.cellsOf 135 = 20 := by kernel_rfl
  have hh := Lib.cells_of_tab Tryd.underlying135 Tryd.underlying113 hce hct hd
  rw [hvar, ← hh]
set_option maxRecDepth 100000 in
theorem lifted (os : Os) (started : os.Started) (H : Type) (enc : TypeId × Value → H) :
    ReturnsInHanded {} Tryd.checked os 5 .any (fun w args => (Rows.fnExactOrderTextSpec.pre enc Tryd.prog Tryd.f5 [] false w args ∧ laidMet Tryd.prog Rows.fnExactOrderTextRow.laid w) ∧ sizedMet enc Tryd.prog Tryd.f5 (OpenSpec.ofChange Rows.fnExactOrderTextSpec) false w args) (Rows.fnExactOrderTextSpec.post enc Tryd.prog Tryd.f5 false true false false) := by
  refine returnsInHanded_of_change_and (C := Tryd.checked) (X := fun w _ => laidMet Tryd.prog Rows.fnExactOrderTextRow.laid w) (fun _ _ _ hh h => h.of_heap hh) own started (by kernel_rfl) Tryd.func5
    (ChangeSpec.witness_at (enc := enc) (C := Tryd.checked) (os := os) (X := fun w _ => laidMet Tryd.prog Rows.fnExactOrderTextRow.laid w) false (laidWorld os) #[.slice none 0 0] 8 rfl (by kernel_rfl) (by kernel_rfl) (by kernel_rfl) (by kernel_rfl) (by kernel_rfl) (laid_met os _)) ?_
  intro W base args ds gs before hval0 hW _ _ hL _
  have htab := tab_of hL
  have hval : ∀ (j : Nat) t v, Tryd.f5.params[j]? = some t → args[j]? = some v → Value.okWide Tryd.prog W .any base t v := hval0
  have hW' := hW
  obtain ⟨p, q, hA0, hV, rfl, hfz, hnd⟩ := hW
  have hA : DataW.TrodAll enc Tryd.prog W 0 (fun _ => true) true Tryd.f5.params.toList args.toList ds p := hA0
  rw [Tryd.params5] at hA hval
  obtain ⟨v0, vs0, d0, ds0, p0, q0, hargs0, rfl, rfl, h0, r0⟩ := trodAll_cons hA
  obtain ⟨rfl, rfl, rfl⟩ := trodAll_nil r0
  obtain rfl : args = #[v0] := by cases args; simp_all
  obtain ⟨rfl, rfl⟩ := trodVars_none hV
  have hlt0 : ∀ x ∈ p0, x.block < W.heap.size := fun x hx => by simpa using hW'.lt x (by simp [hx])
  obtain ⟨A0, c0, l0, hv0, hm0, hr0⟩ := read_wants (hval 0 35 v0 rfl rfl) h0
  subst hv0
  refine (FnExactOrderText_any (w := W) (ht := htab) A0 c0 l0 hm0 hr0).mono fun e W' ⟨he, bel⟩ => ?_
  subst he
  exact ⟨_, rfl, _, _, _, [], _, [], hW', trodAll_mk1 (shut_bool Tryd.underlying4 _), (trodAll_cons_mk (Below.trod laidOut (by kernel_rfl) (of_decide_eq_true (by kernel_rfl)) h0 bel hlt0) trodAll_mk0), rfl, bel.frame _, fun h => by cases h⟩
theorem over : Rows.fnExactOrderTextRow.holds Tryd.pinned (OpenSpec.ofChange Rows.fnExactOrderTextSpec) :=
  OpenClaim.holds_of_wide 5 Tryd.f5 rfl rfl rfl rfl rfl rfl rfl ⟨rfl, rfl, rfl, rfl, rfl⟩ rfl rfl rfl rfl rfl (by kernel_rfl) Tryd.func5 (by kernel_rfl)
    (of_decide_eq_true (by kernel_rfl)) (by unfold Func.isWrapper; first | (rw [if_pos (by decide +kernel)]; kernel_rfl) | (rw [if_neg (by decide +kernel)]; exact ⟨rfl, rfl⟩))
    (fun os started H enc _ => lifted os started H enc)
theorem proved : Rows.FnExactOrderTextSaid := over
theorem cardHolds : Rows.FnExactOrderTextCardSaid :=
  Claim7.holds_tied_plain_at .later [] [.data, .data, .data] true Rows.fnExactOrderTextCard.stood.harness true
    proved (fun _ h => by cases h) (by kernel_rfl) (fun _ h => by cases h) fnExactOrderText_row_tie rfl ⟨rfl, rfl⟩ (by kernel_rfl) rfl
    (fun f fn hf hfn => by
      obtain rfl : f = 5 := Option.some.inj ((show Tryd.prog.funcNamed Rows.fnExactOrderTextRow.func = some 5 by kernel_rfl).symm.trans hf) |>.symm
      obtain rfl : fn = Tryd.f5 := (Option.some.inj (Tryd.func5.symm.trans hfn)).symm
      exact ⟨by kernel_rfl, fun j t ht => by
        rw [Tryd.params5] at ht
        have h3 : t = 35 := by simpa using Array.mem_of_getElem? ht
        subst h3
        exact (show Tryd.prog.wantsStandIn 35 = false by kernel_rfl)⟩)
    (by kernel_rfl)
end Go.Proofs.YtbngpcghognojaaDoor.fnExactOrderText
namespace Go.Proofs.YtbngpcghognojaaDoor
/-- The row, under a short name, for the claim. -/
theorem fnExactOrderText_holds : Rows.FnExactOrderTextCardSaid := fnExactOrderText.cardHolds
end Go.Proofs.YtbngpcghognojaaDoor
