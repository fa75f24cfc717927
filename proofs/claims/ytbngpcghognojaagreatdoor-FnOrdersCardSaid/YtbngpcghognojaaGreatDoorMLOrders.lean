/- The law FnOrders holds: whatever the bytes. -/
import Derived.Test.YtbngpcghognojaaGreatDoorRows
import Derived.Test.YtbngpcghognojaaGreatDoorTie
import Derived.Test.YtbngpcghognojaaGreatDoorCards
import Derived.Lib.LaidU8
import Derived.LaidLaws
import Derived.HandedShaped
import Derived.SevenTiedAt
import Derived.Stop.Joined
import Derived.Test.YtbngpcghognojaaGreatDoorBO1
import Derived.Test.YtbngpcghognojaaGreatDoorBO2
import Derived.Test.YtbngpcghognojaaGreatDoorBO3
import Derived.Test.YtbngpcghognojaaGreatDoorBO4
import Derived.Test.YtbngpcghognojaaGreatDoorBO5
import Derived.Test.YtbngpcghognojaaGreatDoorBO6
import Derived.Test.YtbngpcghognojaaGreatDoorBO7
import Derived.Test.YtbngpcghognojaaGreatDoorBO8
import Derived.Test.YtbngpcghognojaaGreatDoorBO9
import Derived.Test.YtbngpcghognojaaGreatDoorBO10
import Derived.Test.YtbngpcghognojaaGreatDoorBO11
import Derived.Test.YtbngpcghognojaaGreatDoorBO12
import Derived.Test.YtbngpcghognojaaGreatDoorBO13
import Derived.Test.YtbngpcghognojaaGreatDoorBO14
import Derived.Test.YtbngpcghognojaaGreatDoorBO15
import Derived.Test.YtbngpcghognojaaGreatDoorBO16
import Derived.Test.YtbngpcghognojaaGreatDoorBO17
import Derived.Test.YtbngpcghognojaaGreatDoorBO18
import Derived.Test.YtbngpcghognojaaGreatDoorBO19
import Derived.Test.YtbngpcghognojaaGreatDoorBO20
import Derived.Test.YtbngpcghognojaaGreatDoorBO21
import Derived.Test.YtbngpcghognojaaGreatDoorBO22
import Derived.Test.YtbngpcghognojaaGreatDoorBO23
import Derived.Test.YtbngpcghognojaaGreatDoorBO24
namespace Go.Proofs.YtbngpcghognojaaGreatDoor
open Go Go.RowKit
set_option linter.unusedVariables false
set_option linter.unusedSimpArgs false
set_option maxRecDepth 100000
set_option maxHeartbeats 60000000
attribute [local go_sem] Oper.qB Oper.qK
attribute [local go_sem high] eqB eqC
theorem FnOrders_any (w : World) (ht : Tab w) (h2 : ErrV w (Tryz.lx117_ren.g 15)) (h3 : ErrV w (Tryz.lx117_ren.g 16)) (hm : ∃ m, w.cell? ⟨Tryz.lx64_ren.g 1, 0, none⟩ = some (.int .i64 m)) (A0 : Option Addr) (c0 : Nat) (l0 : List Int) (hm0 : l0.length ≤ maxLen) (hr0 : RdA w A0 (u8v l0) ∧ ∀ x ∈ l0, 0 ≤ x ∧ x ≤ 255) (A1 : Option Addr) (c1 : Nat) (l1 : List Int) (hm1 : l1.length ≤ maxLen) (hr1 : RdA w A1 (u8v l1) ∧ ∀ x ∈ l1, 0 ≤ x ∧ x ≤ 255) :
    Calls Tryz.prog 4 #[.slice A0 l0.length c0, .slice A1 l1.length c1] w fun e w' => e = .returned (.bool true) ∧ Below w.heap.size w w' := by
  by_cases hL : l0.length ≤ 3000 ∧ l1.length ≤ 3000
  rotate_left
  · have HL := Lib.hid (a2Long_yes A0 A1 c0 c1 _ _ w hL)
    clear hL
    go_enter Tryz.func4, Tryz.ntmps4
    go_wp2_with (go_at_call 34; (refine HL.out.mono ?_); rintro e w1 ⟨rfl, rfl⟩)
    go_ret
    exact ⟨rfl, Below.refl _ _⟩
  have hab := joinR_is (ordF_ok l1 (0, 0)) (ordF_ok l0 (0, 0))
  rcases hab with ⟨_, q, _⟩ | q
  · exact FnOrders_run1 w ht h2 h3 hm A0 c0 l0 hr0.1 hr0.2 A1 c1 l1 hr1.1 hr1.2 hL (by rw [q])
  · exact FnOrders_run2 w ht h2 h3 hm A0 c0 l0 hr0.1 hr0.2 A1 c1 l1 hr1.1 hr1.2 hL (by rw [q])
end Go.Proofs.YtbngpcghognojaaGreatDoor
namespace Go.Proofs.YtbngpcghognojaaGreatDoor.fnOrders
open Go.ChangeShapes Go.WideShapes Go.ChangeAt Go.RowKit
open Go.ChangeMaps (open_string shut_string)
set_option linter.unusedVariables false
set_option linter.unusedSimpArgs false
set_option maxRecDepth 100000 in
/-- The cells of a table. -/
def cellsD : DataW Unit → Array Value
  | .agg ls => (ls.flatMap fun d => match d with | .lit (.int k z) => [Value.int k z] | .agg es => es.map fun e => (match e with | .lit (.int k z) => Value.int k z | _ => .nilIface) | _ => []).toArray
  | _ => #[]
def putG (h : Array Obj) (g : Nat) (cs : Array Value) : Array Obj := h.modify g fun
  | .cells _ t frozen => .cells cs t frozen
  | o => o
/-- So many blocks has the settled world. -/
noncomputable def low : Nat := (World.holding Tryz.prog default ⟨#[], #[], []⟩).heap.size
noncomputable def laidWorld (os : Os) : World :=
  { World.holding Tryz.prog os ⟨#[.cells #[.string { data := #[118, 97, 108, 117, 101, 32, 111, 117, 116, 32, 111, 102, 32, 114, 97, 110, 103, 101] }] 246, .cells #[.string { data := #[105, 110, 118, 97, 108, 105, 100, 32, 115, 121, 110, 116, 97, 120] }] 246], #[], []⟩ with heap := putG (putG (putG (putG (putG (putG (putG ((World.holding Tryz.prog os ⟨#[.cells #[.string { data := #[118, 97, 108, 117, 101, 32, 111, 117, 116, 32, 111, 102, 32, 114, 97, 110, 103, 101] }] 246, .cells #[.string { data := #[105, 110, 118, 97, 108, 105, 100, 32, 115, 121, 110, 116, 97, 120] }] 246], #[], []⟩).heap) 6 (cellsD Rows.laid_math_bits_deBruijn32tab)) 7 (cellsD Rows.laid_math_bits_deBruijn64tab)) 3 (cellsD Rows.laid_internal_strconv_uint64pow10)) 5 (cellsD Rows.laid_unicode_utf8_acceptRanges)) 4 (cellsD Rows.laid_unicode_utf8_first)) 2 #[.iface 244 (.pointer (some ⟨low + 0, 0, none⟩))]) 1 #[.iface 244 (.pointer (some ⟨low + 1, 0, none⟩))] }
theorem laid_met (os : Os) (args : Array Value) : laidMet Tryz.prog Rows.fnOrdersRow.laid ((laidWorld os).forCall (fun _ _ => 0) ⟨#[], args, []⟩).memory :=
  laidMet_of_run' 8 (by kernel_rfl) (by kernel_rfl)
theorem tab_of {W : World} (h : laidMet Tryz.prog Rows.fnOrdersRow.laid W) : Tab W := by
  obtain ⟨g, t, cs, fuel, p, hg, ht, hvar, hd⟩ := Lib.laidMet.reads h (n := "internal/strconv.uint64pow10") (d := Rows.laid_internal_strconv_uint64pow10) (.tail _ (.tail _ (.head _)))
  obtain rfl := Option.some.inj ((show Tryz.prog.globalNamed "internal/strconv.uint64pow10" = some 3 by kernel_rfl).symm.trans hg)
  obtain rfl := Option.some.inj ((show (Tryz.prog.globals[3]?).map (·.type) = some 236 by kernel_rfl).symm.trans ht)
  rw [show Rows.laid_internal_strconv_uint64pow10 = Lib.tabData (H := Unit) .u64 Lib.pow10Tab by kernel_rfl] at hd
  unfold Tab Lib.TabIs
  have hce : Tryz.prog.cellsOf 144 = 1 := by kernel_rfl
  have hct : Tryz.prog.cellsOf 236 = 20 := by kernel_rfl
  have hh := Lib.cells_of_tab Tryz.underlying236 Tryz.underlying144 hce hct hd
  rw [hvar, ← hh]
theorem star : "*" ++ "errors.errorString" = "*errors.errorString" := by decide
theorem rowE (u : TypeId) (h : Tryz.prog.typeName? 3 u = some "*errors.errorString") : u = 244 :=
  typeName_ptr_named (nm := "errors.errorString") (by rw [star]; kernel_rfl) (by kernel_rfl) (by decide) u (by rw [star]; exact h)
theorem err0_of {W : World} (h : laidMet Tryz.prog Rows.fnOrdersRow.laid W) : ErrV W 2 :=
  errV_of (laidMet_tail (laidMet_tail (laidMet_tail (laidMet_tail (h))))) (by kernel_rfl) (by kernel_rfl) Tryz.underlying97 rowE Tryz.underlying244 Tryz.underlying246 rfl rfl Tryz.underlying9 (by kernel_rfl) (by kernel_rfl)
theorem err1_of {W : World} (h : laidMet Tryz.prog Rows.fnOrdersRow.laid W) : ErrV W 1 :=
  errV_of (laidMet_tail (laidMet_tail (laidMet_tail (laidMet_tail (laidMet_tail (h)))))) (by kernel_rfl) (by kernel_rfl) Tryz.underlying97 rowE Tryz.underlying244 Tryz.underlying246 rfl rfl Tryz.underlying9 (by kernel_rfl) (by kernel_rfl)
theorem max_of {W : World} (h : W.ShapedOpen Tryz.prog) : ∃ m, W.cell? ⟨0, 0, none⟩ = some (.int .i64 m) :=
  cell_of_shapedOpen_int (zero := #[.int .i64 0]) (t := 3) h (of_decide_eq_true (by kernel_rfl)) (by kernel_rfl) rfl (by kernel_rfl) (by kernel_rfl) Tryz.underlying3
set_option maxRecDepth 100000 in
theorem lifted (os : Os) (started : os.Started) (H : Type) (enc : TypeId × Value → H) :
    ReturnsInHanded {} Tryz.checked os 4 .any (fun w args => (Rows.fnOrdersSpec.pre enc Tryz.prog Tryz.f4 [] false w args ∧ laidMet Tryz.prog Rows.fnOrdersRow.laid w) ∧ sizedMet enc Tryz.prog Tryz.f4 (OpenSpec.ofChange Rows.fnOrdersSpec) false w args) (Rows.fnOrdersSpec.post enc Tryz.prog Tryz.f4 false true false false) := by
  refine handed_and_shaped (C := Tryz.checked) (X := fun w _ => laidMet Tryz.prog Rows.fnOrdersRow.laid w) (fun _ _ _ hh h => h.of_heap hh) own started (by kernel_rfl) Tryz.func4
    (ChangeSpec.witness_at (enc := enc) (C := Tryz.checked) (os := os) (X := fun w _ => laidMet Tryz.prog Rows.fnOrdersRow.laid w) false (laidWorld os) #[.slice none 0 0, .slice none 0 0] 8 rfl (by kernel_rfl) (by kernel_rfl) (by kernel_rfl) (by kernel_rfl) (by kernel_rfl) (laid_met os _)) ?_
  intro W base args ds gs before hval0 hW _ _ hL hsh _
  have htab := tab_of hL
  have he0 := err0_of hL
  have he1 := err1_of hL
  have hml := max_of hsh
  have hval : ∀ (j : Nat) t v, Tryz.f4.params[j]? = some t → args[j]? = some v → Value.okWide Tryz.prog W .any base t v := hval0
  have hW' := hW
  obtain ⟨p, q, hA0, hV, rfl, hfz, hnd⟩ := hW
  have hA : DataW.TrodAll enc Tryz.prog W 0 (fun _ => true) true Tryz.f4.params.toList args.toList ds p := hA0
  rw [Tryz.params4] at hA hval
  obtain ⟨v0, vs0, d0, ds0, p0, q0, hargs0, rfl, rfl, h0, r0⟩ := trodAll_cons hA
  obtain ⟨v1, vs1, d1, ds1, p1, q1, hargs1, rfl, rfl, h1, r1⟩ := trodAll_cons r0
  obtain ⟨rfl, rfl, rfl⟩ := trodAll_nil r1
  subst hargs1
  obtain rfl : args = #[v0, v1] := by cases args; simp_all
  obtain ⟨rfl, rfl⟩ := trodVars_none hV
  have hlt0 : ∀ x ∈ p0, x.block < W.heap.size := fun x hx => by simpa using hW'.lt x (by simp [hx])
  have hlt1 : ∀ x ∈ p1, x.block < W.heap.size := fun x hx => by simpa using hW'.lt x (by simp [hx])
  obtain ⟨A0, c0, l0, hv0, hm0, hr0⟩ := read_bytes (hval 0 22 v0 rfl rfl) h0
  subst hv0
  obtain ⟨A1, c1, l1, hv1, hm1, hr1⟩ := read_bytes (hval 1 22 v1 rfl rfl) h1
  subst hv1
  refine (FnOrders_any (w := W) (ht := htab) (h2 := by first | exact he0 | exact he1) (h3 := by first | exact he1 | exact he0) (hm := hml) A0 c0 l0 hm0 hr0 A1 c1 l1 hm1 hr1).mono fun e W' ⟨he, bel⟩ => ?_
  subst he
  exact ⟨_, rfl, _, _, _, [], _, [], hW', trodAll_mk1 (shut_bool Tryz.underlying4 _), (trodAll_cons_mk (Below.trod laidOut (by kernel_rfl) (of_decide_eq_true (by kernel_rfl)) h0 bel hlt0) (trodAll_cons_mk (Below.trod laidOut (by kernel_rfl) (of_decide_eq_true (by kernel_rfl)) h1 bel hlt1) trodAll_mk0)), rfl, bel.frame _, fun h => by cases h⟩
theorem over : Rows.fnOrdersRow.holds Tryz.pinned (OpenSpec.ofChange Rows.fnOrdersSpec) :=
  OpenClaim.holds_of_wide 4 Tryz.f4 rfl rfl rfl rfl rfl rfl rfl ⟨rfl, rfl, rfl, rfl, rfl⟩ rfl rfl rfl rfl rfl (by kernel_rfl) Tryz.func4 (by kernel_rfl)
    (of_decide_eq_true (by kernel_rfl)) (by unfold Func.isWrapper; first | (rw [if_pos (by decide +kernel)]; kernel_rfl) | (rw [if_neg (by decide +kernel)]; exact ⟨rfl, rfl⟩))
    (fun os started H enc _ => lifted os started H enc)
theorem proved : Rows.FnOrdersSaid := over
theorem cardHolds : Rows.FnOrdersCardSaid :=
  Claim7.holds_tied_plain_at .later [] [.data, .data, .data, .data, .sentinel, .sentinel, .pinned] true Rows.fnOrdersCard.stood.harness true
    proved (fun _ h => by cases h) (by kernel_rfl) (fun _ h => by cases h) fnOrders_row_tie rfl ⟨rfl, rfl⟩ (by kernel_rfl) rfl
    (fun f fn hf hfn => by
      obtain rfl : f = 4 := Option.some.inj ((show Tryz.prog.funcNamed Rows.fnOrdersRow.func = some 4 by kernel_rfl).symm.trans hf) |>.symm
      obtain rfl : fn = Tryz.f4 := (Option.some.inj (Tryz.func4.symm.trans hfn)).symm
      exact ⟨by kernel_rfl, fun j t ht => by
        rw [Tryz.params4] at ht
        have h3 : t = 22 := by simpa using Array.mem_of_getElem? ht
        subst h3
        exact (show Tryz.prog.wantsStandIn 22 = false by kernel_rfl)⟩)
    (by kernel_rfl)
end Go.Proofs.YtbngpcghognojaaGreatDoor.fnOrders
namespace Go.Proofs.YtbngpcghognojaaGreatDoor
/-- The row, under a short name, for the claim. -/
theorem fnOrders_holds : Rows.FnOrdersCardSaid := fnOrders.cardHolds
end Go.Proofs.YtbngpcghognojaaGreatDoor
