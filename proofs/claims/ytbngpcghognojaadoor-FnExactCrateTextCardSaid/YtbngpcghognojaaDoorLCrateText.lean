/- The law FnExactCrateText holds: the program's CrateText answers as the reference's, whatever the crate. -/
import Derived.Test.YtbngpcghognojaaDoorRows
import Derived.Test.YtbngpcghognojaaDoorTie
import Derived.Test.YtbngpcghognojaaDoorCards
import Derived.Test.YtbngpcghognojaaDoorCrS
import Derived.Test.YtbngpcghognojaaDoorConv
import Derived.Test.YtbngpcghognojaaDoorRead
import Derived.Lib.LaidU8
import Derived.LaidLaws
import Derived.HandedShaped
import Derived.SevenTiedAt
import Derived.Stop.Joined
namespace Go.Proofs.YtbngpcghognojaaDoor
open Go.RowKit
set_option linter.unusedVariables false
set_option linter.unusedSimpArgs false
set_option maxRecDepth 100000
set_option maxHeartbeats 1000000
theorem FnExactCrateText_any (c : Cr) (w : World) (ht : Tab w) : Calls Tryd.prog 4 #[cv c] w fun e w' => e = .returned (.bool true) ∧ Below w.heap.size w w' := by
  have HT := Lib.hid ht
  have h1 := Lib.hid (fun W => sCrateText_any c W)
  have h2 := Lib.hid (fun W hW => CrateText_any c W hW)
  generalize (if c.ok = true then crT c else []) = t at h1 h2
  generalize (⟨t.toArray⟩ : ByteArray) = S at h1 h2
  go_enter Tryd.func4, Tryd.ntmps4
  go_upto_region 1 with fail
  generalize hW : World.alloc _ _ = W
  have H0 : Below w.heap.size w W := by rw [← hW]; go_grown
  have r0 : rowOf W (w.heap.size) = some ((cc c).toArray) := (by (try rw [← hW]); simp only [rowOf_alloc, World.size_alloc, ↓reduceIte]; all_goals ((repeat' split) <;> first | omega | (exfalso; omega) | rfl))
  clear hW
  have l0 : w.heap.size ≤ w.heap.size := Nat.le_refl _
  generalize h0 : w.heap.size = g0 at r0 ⊢
  replace l0 : w.heap.size ≤ g0 := Nat.le_of_eq h0
  clear h0
  have b0 := rowOf_lt r0
  have H := Below.refl W.heap.size W
  have HT1 := Lib.hid (HT.out.below H0)
  go_wp2_with (first | ((with_reducible refine wp_load_rowBg H ?_ _ _ rfl _ rfl _ r0 _ Tryd.underlying29 rfl (infoLC c) ?_); rfl) | (go_at_call 13; with_reducible refine (toCrate_any c _).mono ?_; rintro e w' ⟨rfl, hb⟩; replace H := bstep H hb; clear hb; have hc := bcell H) | (go_at_call 12; go_loud (refine (h1.out _).mono ?_; rintro e w1 ⟨rfl, hb⟩; replace H := bstep H hb; clear hb)) | (go_at_call 14; go_loud (refine (h2.out _ (HT1.out.below H)).mono ?_; rintro e w1 ⟨rfl, hb⟩; replace H := bstep H hb; clear hb)))
  go_ret
  exact ⟨rfl, bstep H0 H⟩
end Go.Proofs.YtbngpcghognojaaDoor
namespace Go.Proofs.YtbngpcghognojaaDoor.fnExactCrateText
open Go.ChangeShapes Go.WideShapes Go.ChangeAt Go.RowKit
open Go.ChangeMaps (open_string shut_string)
set_option linter.unusedVariables false
set_option linter.unusedSimpArgs false
set_option maxRecDepth 100000 in
/-- The cells of a table. -/
def cellsD : DataW Unit → Array Value
  | .agg ls => (ls.map fun d => match d with | .lit (.int k z) => Value.int k z | _ => .nilIface).toArray
  | _ => #[]
def putG (h : Array Obj) (g : Nat) (cs : Array Value) : Array Obj := h.modify g fun
  | .cells _ t frozen => .cells cs t frozen
  | o => o
noncomputable def laidWorld (os : Os) : World :=
  { World.holding Tryd.prog os ⟨#[], #[], []⟩ with heap := putG (putG (putG (World.holding Tryd.prog os ⟨#[], #[], []⟩).heap 6 (cellsD Rows.laid_math_bits_deBruijn32tab)) 7 (cellsD Rows.laid_math_bits_deBruijn64tab)) 1 (cellsD Rows.laid_internal_strconv_uint64pow10) }
theorem laid_met (os : Os) (args : Array Value) : laidMet Tryd.prog Rows.fnExactCrateTextRow.laid ((laidWorld os).forCall (fun _ _ => 0) ⟨#[], args, []⟩).memory :=
  laidMet_of_run' 8 (by kernel_rfl) (by kernel_rfl)
theorem tab_of {W : World} (h : laidMet Tryd.prog Rows.fnExactCrateTextRow.laid W) : Tab W := by
  obtain ⟨g, t, cs, fuel, p, hg, ht, hvar, hd⟩ := Lib.laidMet.reads h (n := "internal/strconv.uint64pow10") (d := Rows.laid_internal_strconv_uint64pow10) (.tail _ (.tail _ (.head _)))
  obtain rfl := Option.some.inj ((show Tryd.prog.globalNamed "internal/strconv.uint64pow10" = some 1 by kernel_rfl).symm.trans hg)
  obtain rfl := Option.some.inj ((show (Tryd.prog.globals[1]?).map (·.type) = some 135 by kernel_rfl).symm.trans ht)
  rw [show Rows.laid_internal_strconv_uint64pow10 = Lib.tabData (H := Unit) .u64 Lib.pow10Tab by kernel_rfl] at hd
  unfold Tab Lib.TabIs
  have hce : Tryd.prog.cellsOf 113 = 1 := by kernel_rfl
  have hct : Tryd.prog.cellsOf 135 = 20 := by kernel_rfl
  have hh := Lib.cells_of_tab Tryd.underlying135 Tryd.underlying113 hce hct hd
  rw [hvar, ← hh]
set_option maxRecDepth 100000 in
theorem lifted (os : Os) (started : os.Started) (H : Type) (enc : TypeId × Value → H) :
    ReturnsInHanded {} Tryd.checked os 4 .any (fun w args => (Rows.fnExactCrateTextSpec.pre enc Tryd.prog Tryd.f4 [] false w args ∧ laidMet Tryd.prog Rows.fnExactCrateTextRow.laid w) ∧ sizedMet enc Tryd.prog Tryd.f4 (OpenSpec.ofChange Rows.fnExactCrateTextSpec) false w args) (Rows.fnExactCrateTextSpec.post enc Tryd.prog Tryd.f4 false true false false) := by
  refine returnsInHanded_of_change_and (C := Tryd.checked) (X := fun w _ => laidMet Tryd.prog Rows.fnExactCrateTextRow.laid w) (fun _ _ _ hh h => h.of_heap hh) own started (by kernel_rfl) Tryd.func4
    (ChangeSpec.witness_at (enc := enc) (C := Tryd.checked) (os := os) (X := fun w _ => laidMet Tryd.prog Rows.fnExactCrateTextRow.laid w) false (laidWorld os) #[.agg #[.int .u8 0, .int .i16 0, .int .u8 0, .int .i16 0, .int .u8 0, .int .i16 0, .int .u8 0, .int .i16 0, .int .u8 0, .int .i16 0, .int .u8 0, .int .i16 0, .int .u8 0, .int .i16 0, .int .u8 0, .int .i16 0, .int .u8 0, .int .i16 0, .int .u8 0, .int .i16 0, .int .u8 0, .int .i16 0, .int .u8 0, .int .i16 0]] 8 rfl (by kernel_rfl) (by kernel_rfl) (by kernel_rfl) (by kernel_rfl) (by kernel_rfl) (laid_met os _)) ?_
  intro W base args ds gs before hval0 hW _ _ hL _
  have htab := tab_of hL
  have hval : ∀ (j : Nat) t v, Tryd.f4.params[j]? = some t → args[j]? = some v → Value.okWide Tryd.prog W .any base t v := hval0
  have hW' := hW
  obtain ⟨p, q, hA0, hV, rfl, hfz, hnd⟩ := hW
  have hA : DataW.TrodAll enc Tryd.prog W 0 (fun _ => true) true Tryd.f4.params.toList args.toList ds p := hA0
  rw [Tryd.params4] at hA hval
  obtain ⟨v0, vs0, d0, ds0, p0, q0, hargs0, rfl, rfl, h0, r0⟩ := trodAll_cons hA
  obtain ⟨rfl, rfl, rfl⟩ := trodAll_nil r0
  obtain rfl : args = #[v0] := by cases args; simp_all
  obtain ⟨rfl, rfl⟩ := trodVars_none hV
  have hlt0 : ∀ x ∈ p0, x.block < W.heap.size := fun x hx => by simpa using hW'.lt x (by simp [hx])
  obtain ⟨a0, hv0⟩ := read_crate (hval 0 29 v0 rfl rfl) h0
  subst hv0
  refine (FnExactCrateText_any (w := W) (ht := htab) a0).mono fun e W' ⟨he, bel⟩ => ?_
  subst he
  exact ⟨_, rfl, _, _, _, [], _, [], hW', trodAll_mk1 (shut_bool Tryd.underlying4 _), (trodAll_cons_mk (Below.trod laidOut (by kernel_rfl) (of_decide_eq_true (by kernel_rfl)) h0 bel hlt0) trodAll_mk0), rfl, bel.frame _, fun h => by cases h⟩
theorem over : Rows.fnExactCrateTextRow.holds Tryd.pinned (OpenSpec.ofChange Rows.fnExactCrateTextSpec) :=
  OpenClaim.holds_of_wide 4 Tryd.f4 rfl rfl rfl rfl rfl rfl rfl ⟨rfl, rfl, rfl, rfl, rfl⟩ rfl rfl rfl rfl rfl (by kernel_rfl) Tryd.func4 (by kernel_rfl)
    (of_decide_eq_true (by kernel_rfl)) (by unfold Func.isWrapper; first | (rw [if_pos (by decide +kernel)]; kernel_rfl) | (rw [if_neg (by decide +kernel)]; exact ⟨rfl, rfl⟩))
    (fun os started H enc _ => lifted os started H enc)
theorem proved : Rows.FnExactCrateTextSaid := over
theorem cardHolds : Rows.FnExactCrateTextCardSaid :=
  Claim7.holds_tied_plain_at .later [] [.data, .data, .data] true Rows.fnExactCrateTextCard.stood.harness true
    proved (fun _ h => by cases h) (by kernel_rfl) (fun _ h => by cases h) fnExactCrateText_row_tie rfl ⟨rfl, rfl⟩ (by kernel_rfl) rfl
    (fun f fn hf hfn => by
      obtain rfl : f = 4 := Option.some.inj ((show Tryd.prog.funcNamed Rows.fnExactCrateTextRow.func = some 4 by kernel_rfl).symm.trans hf) |>.symm
      obtain rfl : fn = Tryd.f4 := (Option.some.inj (Tryd.func4.symm.trans hfn)).symm
      exact ⟨by kernel_rfl, fun j t ht => by
        rw [Tryd.params4] at ht
        have h3 : t = 29 := by simpa using Array.mem_of_getElem? ht
        subst h3
        exact (show Tryd.prog.wantsStandIn 29 = false by kernel_rfl)⟩)
    (by kernel_rfl)
end Go.Proofs.YtbngpcghognojaaDoor.fnExactCrateText
namespace Go.Proofs.YtbngpcghognojaaDoor
/-- The row, under a short name, for the claim. -/
theorem fnExactCrateText_holds : Rows.FnExactCrateTextCardSaid := fnExactCrateText.cardHolds
end Go.Proofs.YtbngpcghognojaaDoor
