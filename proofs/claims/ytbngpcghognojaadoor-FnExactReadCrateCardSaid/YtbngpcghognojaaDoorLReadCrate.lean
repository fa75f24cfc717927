/- The law FnExactReadCrate holds: the program's ReadCrate answers as the reference's, whatever the text. -/
import Derived.Test.YtbngpcghognojaaDoorRows
import Derived.Test.YtbngpcghognojaaDoorTie
import Derived.Test.YtbngpcghognojaaDoorCards
import Derived.Test.YtbngpcghognojaaDoorRdC
import Derived.Test.YtbngpcghognojaaDoorRdS
import Derived.Test.YtbngpcghognojaaDoorConv
import Derived.Test.YtbngpcghognojaaDoorRead
import Derived.Lib.LaidU8
import Derived.LaidLaws
import Derived.HandedShaped
import Derived.SevenTiedAt
import Derived.Stop.Joined
import Derived.Test.YtbngpcghognojaaDoorLaid
namespace Go.Proofs.YtbngpcghognojaaDoor
open Go.RowKit
set_option linter.unusedVariables false
set_option linter.unusedSimpArgs false
set_option maxRecDepth 100000
set_option maxHeartbeats 1000000
theorem FnExactReadCrate_any (S : ByteArray) (hS : S.size ≤ maxLen) (w : World) (ht : Tab w) (h2 : ErrV w (Tryd.lx66_ren.g 15)) (h3 : ErrV w (Tryd.lx66_ren.g 16)) (hm : ∃ m, w.cell? ⟨Tryd.lx47_ren.g 1, 0, none⟩ = some (.int .i64 m)) :
    Calls Tryd.prog 7 #[.string S] w fun e w' => e = .returned (.bool true) ∧ Below w.heap.size w w' := by
  obtain ⟨m, hm⟩ := hm
  obtain ⟨l, rfl⟩ : ∃ l : List UInt8, S = ⟨l.toArray⟩ := ⟨S.data.toList, (Lib.mk_data S).symm⟩
  have hsz := size_text l
  by_cases hl : l.length ≤ 1048576
  · have h1 := fun W => sReadCrate_any l hl W
    have h4 := fun W (hW : Below w.heap.size w W) => ReadCrate_any l hl m W (ht.below hW) (h2.below hW) (h3.below hW) ((hW.cell (World.block_lt_of_cell? _ _ hm)).trans hm)
    generalize rcR l = z at h1 h4
    obtain ⟨X, n⟩ := z
    have hl2 : ¬ (1048576 : Int) < (l.length : Int) := by omega
    clear hS ht h2 h3 hm
    generalize (⟨l.toArray⟩ : ByteArray) = S at hsz h1 h4 ⊢
    replace h1 := Lib.hid h1
    replace h4 := Lib.hid h4
    have H := Below.refl w.heap.size w
    have H0 := Below.refl w.heap.size w
    go_enter Tryd.func7, Tryd.ntmps7
    go_upto_region 4 with (first | (go_at_call 23; go_loud (refine (h1.out _).mono ?_; rintro e w1 ⟨rfl, hb⟩; replace H := bstep H hb; clear hb)) | ((with_reducible refine wp_store_rowOf rfl rfl _ _ _ rfl _ rfl (cc X).toArray rfl (cc zC).toArray ?hr (cc_size2 _ _) (infoC _) (cc_one _) ?_); (case hr => rw [rowOf_alloc, if_pos rfl]; rfl)))
    generalize hW1 : World.setRow _ _ _ = W1
    obtain ⟨HB, r1, b1⟩ := laid_row H hW1
    clear hW1
    replace H0 := bstep H0 HB
    replace H := below_self HB
    generalize w1.heap.size = g1 at *
    go_upto_region 5 with (first | (go_at_call 24; go_loud (refine (h4.out _ (bstep H0 H)).mono ?_; rintro e w2 ⟨rfl, hb⟩; replace H := bstep H hb; clear hb)) | ((with_reducible refine wp_store_rowOf rfl rfl _ _ _ rfl _ rfl (cc X).toArray rfl (cc zC).toArray ?hr (cc_size2 _ _) (infoC _) (cc_one _) ?_); (case hr => rw [rowOf_alloc, if_pos rfl]; rfl)))
    generalize hW2 : World.setRow _ _ _ = W2
    obtain ⟨HB, r2, b2⟩ := laid_row H hW2
    clear hW2
    have qr12 := Nat.lt_of_lt_of_le (rowOf_lt r1) H.size
    replace r1 := row_kept r1 HB
    replace H0 := bstep H0 HB
    replace H := below_self HB
    generalize w2.heap.size = g2 at *
    go_wp2_with (first | ((with_reducible refine wp_load_rowBg H ?_ _ _ rfl _ rfl _ r1 _ Tryd.underlying32 rfl (infoC X) ?_); rfl) | ((with_reducible refine wp_load_rowBg H ?_ _ _ rfl _ rfl _ r2 _ Tryd.underlying32 rfl (infoC X) ?_); rfl) | (go_at_call 25; with_reducible refine (eqCrate_refl X _).mono ?_; rintro e w' ⟨rfl, hb⟩; replace H := bstep H hb; clear hb; have hc := bcell H))
    go_ret
    exact ⟨rfl, bstep H0 H⟩
  · have hl2 : (1048576 : Int) < (l.length : Int) := by omega
    generalize (⟨l.toArray⟩ : ByteArray) = S at hsz ⊢
    go_enter Tryd.func7, Tryd.ntmps7
    go_wp2
    go_ret
    exact ⟨rfl, Below.refl _ _⟩
end Go.Proofs.YtbngpcghognojaaDoor
namespace Go.Proofs.YtbngpcghognojaaDoor.fnExactReadCrate
open Go.ChangeShapes Go.WideShapes Go.ChangeAt Go.RowKit
open Go.ChangeMaps (open_string shut_string)
set_option linter.unusedVariables false
set_option linter.unusedSimpArgs false
set_option maxRecDepth 100000 in
/-- The cells of a table. -/
def cellsD : DataW Unit → Array Value
  | .agg ls => (ls.flatMap fun d => match d with | .lit (.int k z) => [Value.int k z] | .agg es => es.map fun e => (match e with | .lit (.int k z) => Value.int k z | _ => .nilIface) | _ => []).toArray
  | _ => #[]
def putG (h : Array Obj) (g : Nat) (cs : Array Value) : Array Obj := h.modify g fun
  | .cells _ t frozen => .cells cs t frozen
  | o => o
/-- So many blocks has the settled world. -/
noncomputable def low : Nat := (World.holding Tryd.prog default ⟨#[], #[], []⟩).heap.size
noncomputable def laidWorld (os : Os) : World :=
  { World.holding Tryd.prog os ⟨#[.cells #[.string { data := #[118, 97, 108, 117, 101, 32, 111, 117, 116, 32, 111, 102, 32, 114, 97, 110, 103, 101] }] 150, .cells #[.string { data := #[105, 110, 118, 97, 108, 105, 100, 32, 115, 121, 110, 116, 97, 120] }] 150], #[], []⟩ with heap := putG (putG (putG (putG (putG ((World.holding Tryd.prog os ⟨#[.cells #[.string { data := #[118, 97, 108, 117, 101, 32, 111, 117, 116, 32, 111, 102, 32, 114, 97, 110, 103, 101] }] 150, .cells #[.string { data := #[105, 110, 118, 97, 108, 105, 100, 32, 115, 121, 110, 116, 97, 120] }] 150], #[], []⟩).heap) 6 (cellsD Rows.laid_math_bits_deBruijn32tab)) 7 (cellsD Rows.laid_math_bits_deBruijn64tab)) 1 (cellsD Rows.laid_internal_strconv_uint64pow10)) 3 #[.iface 148 (.pointer (some ⟨low + 0, 0, none⟩))]) 2 #[.iface 148 (.pointer (some ⟨low + 1, 0, none⟩))] }
theorem laid_met (os : Os) (args : Array Value) : laidMet Tryd.prog Rows.fnExactReadCrateRow.laid ((laidWorld os).forCall (fun _ _ => 0) ⟨#[], args, []⟩).memory :=
  laidMet_of_run' 8 (by kernel_rfl) (by kernel_rfl)
theorem tab_of {W : World} (h : laidMet Tryd.prog Rows.fnExactReadCrateRow.laid W) : Tab W := by
  obtain ⟨g, t, cs, fuel, p, hg, ht, hvar, hd⟩ := Lib.laidMet.reads h (n := "internal/strconv.uint64pow10") (d := Rows.laid_internal_strconv_uint64pow10) (.tail _ (.tail _ (.head _)))
  obtain rfl := Option.some.inj ((show Tryd.prog.globalNamed "internal/strconv.uint64pow10" = some 1 by kernel_rfl).symm.trans hg)
  obtain rfl := Option.some.inj ((show (Tryd.prog.globals[1]?).map (·.type) = some 135 by kernel_rfl).symm.trans ht)
  rw [show Rows.laid_internal_strconv_uint64pow10 = Lib.tabData (H := Unit) .u64 Lib.pow10Tab by kernel_rfl] at hd
  unfold Tab Lib.TabIs
  have hce : Tryd.prog.cellsOf 113 = 1 := by kernel_rfl
  have hct : Tryd.prog.cellsOf 135 = 20 := by kernel_rfl
  have hh := Lib.cells_of_tab Tryd.underlying135 Tryd.underlying113 hce hct hd
  rw [hvar, ← hh]
theorem star : "*" ++ "errors.errorString" = "*errors.errorString" := by decide
theorem rowE (u : TypeId) (h : Tryd.prog.typeName? 3 u = some "*errors.errorString") : u = 148 :=
  typeName_ptr_named (nm := "errors.errorString") (by rw [star]; kernel_rfl) (by kernel_rfl) (by decide) u (by rw [star]; exact h)
theorem err0_of {W : World} (h : laidMet Tryd.prog Rows.fnExactReadCrateRow.laid W) : ErrV W 3 :=
  errV_of (laidMet_tail (laidMet_tail (laidMet_tail (h)))) (by kernel_rfl) (by kernel_rfl) Tryd.underlying63 rowE Tryd.underlying148 Tryd.underlying150 rfl rfl Tryd.underlying9 (by kernel_rfl) (by kernel_rfl)
theorem err1_of {W : World} (h : laidMet Tryd.prog Rows.fnExactReadCrateRow.laid W) : ErrV W 2 :=
  errV_of (laidMet_tail (laidMet_tail (laidMet_tail (laidMet_tail (h))))) (by kernel_rfl) (by kernel_rfl) Tryd.underlying63 rowE Tryd.underlying148 Tryd.underlying150 rfl rfl Tryd.underlying9 (by kernel_rfl) (by kernel_rfl)
theorem max_of {W : World} (h : W.ShapedOpen Tryd.prog) : ∃ m, W.cell? ⟨0, 0, none⟩ = some (.int .i64 m) :=
  cell_of_shapedOpen_int (zero := #[.int .i64 0]) (t := 3) h (of_decide_eq_true (by kernel_rfl)) (by kernel_rfl) rfl (by kernel_rfl) (by kernel_rfl) Tryd.underlying3
set_option maxRecDepth 100000 in
theorem lifted (os : Os) (started : os.Started) (H : Type) (enc : TypeId × Value → H) :
    ReturnsInHanded {} Tryd.checked os 7 .any (fun w args => (Rows.fnExactReadCrateSpec.pre enc Tryd.prog Tryd.f7 [] false w args ∧ laidMet Tryd.prog Rows.fnExactReadCrateRow.laid w) ∧ sizedMet enc Tryd.prog Tryd.f7 (OpenSpec.ofChange Rows.fnExactReadCrateSpec) false w args) (Rows.fnExactReadCrateSpec.post enc Tryd.prog Tryd.f7 false true false false) := by
  refine handed_and_shaped (C := Tryd.checked) (X := fun w _ => laidMet Tryd.prog Rows.fnExactReadCrateRow.laid w) (fun _ _ _ hh h => h.of_heap hh) own started (by kernel_rfl) Tryd.func7
    (ChangeSpec.witness_at (enc := enc) (C := Tryd.checked) (os := os) (X := fun w _ => laidMet Tryd.prog Rows.fnExactReadCrateRow.laid w) false (laidWorld os) #[.string ⟨#[]⟩] 8 rfl (by kernel_rfl) (by kernel_rfl) (by kernel_rfl) (by kernel_rfl) (by kernel_rfl) (laid_met os _)) ?_
  intro W base args ds gs before hval0 hW _ _ hL hsh _
  have htab := tab_of hL
  have he0 := err0_of hL
  have he1 := err1_of hL
  have hml := max_of hsh
  have hval : ∀ (j : Nat) t v, Tryd.f7.params[j]? = some t → args[j]? = some v → Value.okWide Tryd.prog W .any base t v := hval0
  have hW' := hW
  obtain ⟨p, q, hA0, hV, rfl, hfz, hnd⟩ := hW
  have hA : DataW.TrodAll enc Tryd.prog W 0 (fun _ => true) true Tryd.f7.params.toList args.toList ds p := hA0
  rw [Tryd.params7] at hA hval
  obtain ⟨v0, vs0, d0, ds0, p0, q0, hargs0, rfl, rfl, h0, r0⟩ := trodAll_cons hA
  obtain ⟨rfl, rfl, rfl⟩ := trodAll_nil r0
  obtain rfl : args = #[v0] := by cases args; simp_all
  obtain ⟨rfl, rfl⟩ := trodVars_none hV
  have hlt0 : ∀ x ∈ p0, x.block < W.heap.size := fun x hx => by simpa using hW'.lt x (by simp [hx])
  obtain ⟨a0, hv0, _, _, w0⟩ := open_string Tryd.underlying9 (hval 0 9 v0 rfl rfl) h0
  subst hv0
  refine (FnExactReadCrate_any (w := W) (ht := htab) (h2 := by first | exact he0 | exact he1) (h3 := by first | exact he1 | exact he0) (hm := hml) a0 w0).mono fun e W' ⟨he, bel⟩ => ?_
  subst he
  exact ⟨_, rfl, _, _, _, [], _, [], hW', trodAll_mk1 (shut_bool Tryd.underlying4 _), (trodAll_cons_mk (Below.trod laidOut (by kernel_rfl) (of_decide_eq_true (by kernel_rfl)) h0 bel hlt0) trodAll_mk0), rfl, bel.frame _, fun h => by cases h⟩
theorem over : Rows.fnExactReadCrateRow.holds Tryd.pinned (OpenSpec.ofChange Rows.fnExactReadCrateSpec) :=
  OpenClaim.holds_of_wide 7 Tryd.f7 rfl rfl rfl rfl rfl rfl rfl ⟨rfl, rfl, rfl, rfl, rfl⟩ rfl rfl rfl rfl rfl (by kernel_rfl) Tryd.func7 (by kernel_rfl)
    (of_decide_eq_true (by kernel_rfl)) (by unfold Func.isWrapper; first | (rw [if_pos (by decide +kernel)]; kernel_rfl) | (rw [if_neg (by decide +kernel)]; exact ⟨rfl, rfl⟩))
    (fun os started H enc _ => lifted os started H enc)
theorem proved : Rows.FnExactReadCrateSaid := over
theorem cardHolds : Rows.FnExactReadCrateCardSaid :=
  Claim7.holds_tied_plain_at .later [] [.data, .data, .data, .sentinel, .sentinel] true Rows.fnExactReadCrateCard.stood.harness true
    proved (fun _ h => by cases h) (by kernel_rfl) (fun _ h => by cases h) fnExactReadCrate_row_tie rfl ⟨rfl, rfl⟩ (by kernel_rfl) rfl
    (fun f fn hf hfn => by
      obtain rfl : f = 7 := Option.some.inj ((show Tryd.prog.funcNamed Rows.fnExactReadCrateRow.func = some 7 by kernel_rfl).symm.trans hf) |>.symm
      obtain rfl : fn = Tryd.f7 := (Option.some.inj (Tryd.func7.symm.trans hfn)).symm
      exact ⟨by kernel_rfl, fun j t ht => by
        rw [Tryd.params7] at ht
        have h3 : t = 9 := by simpa using Array.mem_of_getElem? ht
        subst h3
        exact (show Tryd.prog.wantsStandIn 9 = false by kernel_rfl)⟩)
    (by kernel_rfl)
end Go.Proofs.YtbngpcghognojaaDoor.fnExactReadCrate
namespace Go.Proofs.YtbngpcghognojaaDoor
/-- The row, under a short name, for the claim. -/
theorem fnExactReadCrate_holds : Rows.FnExactReadCrateCardSaid := fnExactReadCrate.cardHolds
end Go.Proofs.YtbngpcghognojaaDoor
