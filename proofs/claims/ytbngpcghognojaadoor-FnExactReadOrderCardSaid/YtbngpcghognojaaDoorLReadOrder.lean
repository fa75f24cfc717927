/- The law FnExactReadOrder holds: the program's ReadOrder answers as the reference's, whatever the text; what it hands back is shared with nothing else. -/
import Derived.Test.YtbngpcghognojaaDoorRows
import Derived.Test.YtbngpcghognojaaDoorTie
import Derived.Test.YtbngpcghognojaaDoorCards
import Derived.Test.YtbngpcghognojaaDoorRoS
import Derived.Test.YtbngpcghognojaaDoorMarkW
import Derived.Test.YtbngpcghognojaaDoorRead
import Derived.Lib.LaidU8
import Derived.LaidLaws
import Derived.HandedShaped
import Derived.SevenTiedAt
import Derived.Stop.Joined
import Derived.Test.YtbngpcghognojaaDoorLaid
namespace Go.Proofs.YtbngpcghognojaaDoor
open Go.RowKit
set_option linter.unusedVariables false
set_option linter.unusedSimpArgs false
set_option maxRecDepth 100000
set_option maxHeartbeats 1000000
theorem FnExactReadOrder_any (S : ByteArray) (hS : S.size ≤ maxLen) (w : World) (ht : Tab w) (h2 : ErrV w (Tryd.lx66_ren.g 15)) (h3 : ErrV w (Tryd.lx66_ren.g 16)) (hm : ∃ m, w.cell? ⟨Tryd.lx47_ren.g 1, 0, none⟩ = some (.int .i64 m)) :
    Calls Tryd.prog 8 #[.string S] w fun e w' => e = .returned (.bool true) ∧ Below w.heap.size w w' := by
  obtain ⟨m, hm⟩ := hm
  obtain ⟨l, rfl⟩ : ∃ l : List UInt8, S = ⟨l.toArray⟩ := ⟨S.data.toList, (Lib.mk_data S).symm⟩
  have hsz := size_text l
  by_cases hl : l.length ≤ 1048576
  · have h1 := fun W => sReadOrder_any l hl W
    have h4 := fun W (hW : Below w.heap.size w W) => ReadOrder_any l hl m W (ht.below hW) (h2.below hW) (h3.below hW) ((hW.cell (World.block_lt_of_cell? _ _ hm)).trans hm)
    have hb0 := roR_le l
    generalize roR l = z at h1 h4 hb0
    obtain ⟨x0, n⟩ := z
    replace hb0 : x0.length ≤ 8 := hb0
    have hl2 : ¬ (1048576 : Int) < (l.length : Int) := by omega
    clear hS ht h2 h3 hm
    generalize (⟨l.toArray⟩ : ByteArray) = S at hsz h1 h4 ⊢
    replace h1 := Lib.hid h1
    replace h4 := Lib.hid h4
    have H := Below.refl w.heap.size w
    go_enter Tryd.func8, Tryd.ntmps8
    go_upto_region 4 with (go_at_call 26; go_loud (refine (h1.out _).mono ?_; rintro e w1 ⟨vW0, rfl, OW0, hb⟩; replace H := bstep H hb; clear hb))
    go_upto_region 5 with (go_at_call 27; go_loud (refine (h4.out _ H).mono ?_; rintro e w1 ⟨vG0, rfl, OG0, hb⟩; have QG0 := H.size; have PGW00 := (OW0.apart OG0 (Nat.le_refl _)).symm; replace OW0 := OW0.below hb; replace H := bstep H hb; clear hb))
    go_upto_region 7 with (go_at_call 19; refine (eqWantS_own x0 _ OG0 OW0 (by omega)).mono ?_; rintro e w1 ⟨rfl, hb⟩; replace OW0 := OW0.below hb; replace OG0 := OG0.below hb; replace H := bstep H hb; clear hb)
    go_upto_region 9 with (go_at_call 28; refine (markWantS_own _ _ x0 _ _ OG0 (by omega) (by omega) (by omega)).mono ?_; rintro e w1 ⟨rfl, OM0, hb⟩; replace OW0 := OW0.but hb PGW00; replace H := H.trans (hb.below OG0 QG0 H.size); clear OG0 hb)
    go_upto_region 15 with (go_at_call 29; refine (heldWantS_own _ _ x0.length _ _ OM0 (by omega) (by omega) (by omega)).mono ?_; rintro e w1 ⟨rfl, hb⟩; replace OW0 := OW0.below hb; replace OM0 := OM0.below hb; replace H := bstep H hb; clear hb)
    go_upto_region 16 with (go_at_call 27; go_loud (refine (h4.out _ H).mono ?_; rintro e w1 ⟨vV0, rfl, OV0, hb⟩; replace OW0 := OW0.below hb; replace OM0 := OM0.below hb; replace H := bstep H hb; clear hb))
    go_upto_region 18 with (go_at_call 19; refine (eqWantS_own x0 _ OV0 OW0 (by omega)).mono ?_; rintro e w1 ⟨rfl, hb⟩; replace OW0 := OW0.below hb; replace OM0 := OM0.below hb; replace OV0 := OV0.below hb; replace H := bstep H hb; clear hb)
    go_wp2_with (go_at_call 29; refine (heldWantS_own _ _ x0.length _ _ OM0 (by omega) (by omega) (by omega)).mono ?_; rintro e w1 ⟨rfl, hb⟩; replace OW0 := OW0.below hb; replace OM0 := OM0.below hb; replace OV0 := OV0.below hb; replace H := bstep H hb; clear hb)
    go_ret
    exact ⟨rfl, H⟩
  · have hl2 : (1048576 : Int) < (l.length : Int) := by omega
    generalize (⟨l.toArray⟩ : ByteArray) = S at hsz ⊢
    go_enter Tryd.func8, Tryd.ntmps8
    go_wp2
    go_ret
    exact ⟨rfl, Below.refl _ _⟩
end Go.Proofs.YtbngpcghognojaaDoor
namespace Go.Proofs.YtbngpcghognojaaDoor.fnExactReadOrder
open Go.ChangeShapes Go.WideShapes Go.ChangeAt Go.RowKit
open Go.ChangeMaps (open_string shut_string)
set_option linter.unusedVariables false
set_option linter.unusedSimpArgs false
set_option maxRecDepth 100000 in
/-- The cells of a table. -/
def cellsD : DataW Unit → Array Value
  | .agg ls => (ls.flatMap fun d => match d with | .lit (.int k z) => [Value.int k z] | .agg es => es.map fun e => (match e with | .lit (.int k z) => Value.int k z | _ => .nilIface) | _ => []).toArray
  | _ => #[]
def putG (h : Array Obj) (g : Nat) (cs : Array Value) : Array Obj := h.modify g fun
  | .cells _ t frozen => .cells cs t frozen
  | o => o
/-- So many blocks has the settled world. -/
noncomputable def low : Nat := (World.holding Tryd.prog default ⟨#[], #[], []⟩).heap.size
noncomputable def laidWorld (os : Os) : World :=
  { World.holding Tryd.prog os ⟨#[.cells #[.string { data := #[118, 97, 108, 117, 101, 32, 111, 117, 116, 32, 111, 102, 32, 114, 97, 110, 103, 101] }] 150, .cells #[.string { data := #[105, 110, 118, 97, 108, 105, 100, 32, 115, 121, 110, 116, 97, 120] }] 150], #[], []⟩ with heap := putG (putG (putG (putG (putG (putG (putG ((World.holding Tryd.prog os ⟨#[.cells #[.string { data := #[118, 97, 108, 117, 101, 32, 111, 117, 116, 32, 111, 102, 32, 114, 97, 110, 103, 101] }] 150, .cells #[.string { data := #[105, 110, 118, 97, 108, 105, 100, 32, 115, 121, 110, 116, 97, 120] }] 150], #[], []⟩).heap) 6 (cellsD Rows.laid_math_bits_deBruijn32tab)) 7 (cellsD Rows.laid_math_bits_deBruijn64tab)) 1 (cellsD Rows.laid_internal_strconv_uint64pow10)) 5 (cellsD Rows.laid_unicode_utf8_acceptRanges)) 4 (cellsD Rows.laid_unicode_utf8_first)) 3 #[.iface 148 (.pointer (some ⟨low + 0, 0, none⟩))]) 2 #[.iface 148 (.pointer (some ⟨low + 1, 0, none⟩))] }
theorem laid_met (os : Os) (args : Array Value) : laidMet Tryd.prog Rows.fnExactReadOrderRow.laid ((laidWorld os).forCall (fun _ _ => 0) ⟨#[], args, []⟩).memory :=
  laidMet_of_run' 8 (by kernel_rfl) (by kernel_rfl)
theorem tab_of {W : World} (h : laidMet Tryd.prog Rows.fnExactReadOrderRow.laid W) : Tab W := by
  obtain ⟨g, t, cs, fuel, p, hg, ht, hvar, hd⟩ := Lib.laidMet.reads h (n := "internal/strconv.uint64pow10") (d := Rows.laid_internal_strconv_uint64pow10) (.tail _ (.tail _ (.head _)))
  obtain rfl := Option.some.inj ((show Tryd.prog.globalNamed "internal/strconv.uint64pow10" = some 1 by kernel_rfl).symm.trans hg)
  obtain rfl := Option.some.inj ((show (Tryd.prog.globals[1]?).map (·.type) = some 135 by kernel_rfl).symm.trans ht)
  rw [show Rows.laid_internal_strconv_uint64pow10 = Lib.tabData (H := Unit) .u64 Lib.pow10Tab by kernel_rfl] at hd
  unfold Tab Lib.TabIs
  have hce : Tryd.prog.cellsOf 113 = 1 := by kernel_rfl
  have hct : Tryd.prog.cellsOf 135 = 20 := by kernel_rfl
  have hh := Lib.cells_of_tab Tryd.underlying135 Tryd.underlying113 hce hct hd
  rw [hvar, ← hh]
theorem star : "*" ++ "errors.errorString" = "*errors.errorString" := by decide
theorem rowE (u : TypeId) (h : Tryd.prog.typeName? 3 u = some "*errors.errorString") : u = 148 :=
  typeName_ptr_named (nm := "errors.errorString") (by rw [star]; kernel_rfl) (by kernel_rfl) (by decide) u (by rw [star]; exact h)
theorem err0_of {W : World} (h : laidMet Tryd.prog Rows.fnExactReadOrderRow.laid W) : ErrV W 3 :=
  errV_of (laidMet_tail (laidMet_tail (laidMet_tail (laidMet_tail (h))))) (by kernel_rfl) (by kernel_rfl) Tryd.underlying63 rowE Tryd.underlying148 Tryd.underlying150 rfl rfl Tryd.underlying9 (by kernel_rfl) (by kernel_rfl)
theorem err1_of {W : World} (h : laidMet Tryd.prog Rows.fnExactReadOrderRow.laid W) : ErrV W 2 :=
  errV_of (laidMet_tail (laidMet_tail (laidMet_tail (laidMet_tail (laidMet_tail (h)))))) (by kernel_rfl) (by kernel_rfl) Tryd.underlying63 rowE Tryd.underlying148 Tryd.underlying150 rfl rfl Tryd.underlying9 (by kernel_rfl) (by kernel_rfl)
theorem max_of {W : World} (h : W.ShapedOpen Tryd.prog) : ∃ m, W.cell? ⟨0, 0, none⟩ = some (.int .i64 m) :=
  cell_of_shapedOpen_int (zero := #[.int .i64 0]) (t := 3) h (of_decide_eq_true (by kernel_rfl)) (by kernel_rfl) rfl (by kernel_rfl) (by kernel_rfl) Tryd.underlying3
set_option maxRecDepth 100000 in
theorem lifted (os : Os) (started : os.Started) (H : Type) (enc : TypeId × Value → H) :
    ReturnsInHanded {} Tryd.checked os 8 .any (fun w args => (Rows.fnExactReadOrderSpec.pre enc Tryd.prog Tryd.f8 [] false w args ∧ laidMet Tryd.prog Rows.fnExactReadOrderRow.laid w) ∧ sizedMet enc Tryd.prog Tryd.f8 (OpenSpec.ofChange Rows.fnExactReadOrderSpec) false w args) (Rows.fnExactReadOrderSpec.post enc Tryd.prog Tryd.f8 false true false false) := by
  refine handed_and_shaped (C := Tryd.checked) (X := fun w _ => laidMet Tryd.prog Rows.fnExactReadOrderRow.laid w) (fun _ _ _ hh h => h.of_heap hh) own started (by kernel_rfl) Tryd.func8
    (ChangeSpec.witness_at (enc := enc) (C := Tryd.checked) (os := os) (X := fun w _ => laidMet Tryd.prog Rows.fnExactReadOrderRow.laid w) false (laidWorld os) #[.string ⟨#[]⟩] 8 rfl (by kernel_rfl) (by kernel_rfl) (by kernel_rfl) (by kernel_rfl) (by kernel_rfl) (laid_met os _)) ?_
  intro W base args ds gs before hval0 hW _ _ hL hsh _
  have htab := tab_of hL
  have he0 := err0_of hL
  have he1 := err1_of hL
  have hml := max_of hsh
  have hval : ∀ (j : Nat) t v, Tryd.f8.params[j]? = some t → args[j]? = some v → Value.okWide Tryd.prog W .any base t v := hval0
  have hW' := hW
  obtain ⟨p, q, hA0, hV, rfl, hfz, hnd⟩ := hW
  have hA : DataW.TrodAll enc Tryd.prog W 0 (fun _ => true) true Tryd.f8.params.toList args.toList ds p := hA0
  rw [Tryd.params8] at hA hval
  obtain ⟨v0, vs0, d0, ds0, p0, q0, hargs0, rfl, rfl, h0, r0⟩ := trodAll_cons hA
  obtain ⟨rfl, rfl, rfl⟩ := trodAll_nil r0
  obtain rfl : args = #[v0] := by cases args; simp_all
  obtain ⟨rfl, rfl⟩ := trodVars_none hV
  have hlt0 : ∀ x ∈ p0, x.block < W.heap.size := fun x hx => by simpa using hW'.lt x (by simp [hx])
  obtain ⟨a0, hv0, _, _, w0⟩ := open_string Tryd.underlying9 (hval 0 9 v0 rfl rfl) h0
  subst hv0
  refine (FnExactReadOrder_any (w := W) (ht := htab) (h2 := by first | exact he0 | exact he1) (h3 := by first | exact he1 | exact he0) (hm := hml) a0 w0).mono fun e W' ⟨he, bel⟩ => ?_
  subst he
  exact ⟨_, rfl, _, _, _, [], _, [], hW', trodAll_mk1 (shut_bool Tryd.underlying4 _), (trodAll_cons_mk (Below.trod laidOut (by kernel_rfl) (of_decide_eq_true (by kernel_rfl)) h0 bel hlt0) trodAll_mk0), rfl, bel.frame _, fun h => by cases h⟩
theorem over : Rows.fnExactReadOrderRow.holds Tryd.pinned (OpenSpec.ofChange Rows.fnExactReadOrderSpec) :=
  OpenClaim.holds_of_wide 8 Tryd.f8 rfl rfl rfl rfl rfl rfl rfl ⟨rfl, rfl, rfl, rfl, rfl⟩ rfl rfl rfl rfl rfl (by kernel_rfl) Tryd.func8 (by kernel_rfl)
    (of_decide_eq_true (by kernel_rfl)) (by unfold Func.isWrapper; first | (rw [if_pos (by decide +kernel)]; kernel_rfl) | (rw [if_neg (by decide +kernel)]; exact ⟨rfl, rfl⟩))
    (fun os started H enc _ => lifted os started H enc)
theorem proved : Rows.FnExactReadOrderSaid := over
theorem cardHolds : Rows.FnExactReadOrderCardSaid :=
  Claim7.holds_tied_plain_at .later [] [.data, .data, .data, .data, .sentinel, .sentinel, .pinned] true Rows.fnExactReadOrderCard.stood.harness true
    proved (fun _ h => by cases h) (by kernel_rfl) (fun _ h => by cases h) fnExactReadOrder_row_tie rfl ⟨rfl, rfl⟩ (by kernel_rfl) rfl
    (fun f fn hf hfn => by
      obtain rfl : f = 8 := Option.some.inj ((show Tryd.prog.funcNamed Rows.fnExactReadOrderRow.func = some 8 by kernel_rfl).symm.trans hf) |>.symm
      obtain rfl : fn = Tryd.f8 := (Option.some.inj (Tryd.func8.symm.trans hfn)).symm
      exact ⟨by kernel_rfl, fun j t ht => by
        rw [Tryd.params8] at ht
        have h3 : t = 9 := by simpa using Array.mem_of_getElem? ht
        subst h3
        exact (show Tryd.prog.wantsStandIn 9 = false by kernel_rfl)⟩)
    (by kernel_rfl)
end Go.Proofs.YtbngpcghognojaaDoor.fnExactReadOrder
namespace Go.Proofs.YtbngpcghognojaaDoor
/-- The row, under a short name, for the claim. -/
theorem fnExactReadOrder_holds : Rows.FnExactReadOrderCardSaid := fnExactReadOrder.cardHolds
end Go.Proofs.YtbngpcghognojaaDoor
