/- Texts of the claim, joined (14 of 22): Text, TextB, ReadT, ReadD, ReadB, Both, SplT, SplB, RoP. -/
import Derived.Shelf.Strconv.Itoa4
import Derived.Laws.IdiomStrings
import Derived.Shelf.Strconv.ParseIntPublic10
import Derived.Lib.ParseIntBTie
import Derived.Shelf.Strings.Cut
import Derived.Lib.Strings
import Derived.Lib.SplitLaws
import Derived.Test.YtbngpcghognojaaGreatDoorBO1
import Derived.Test.YtbngpcghognojaaGreatDoorBO3
import Derived.Test.YtbngpcghognojaaGreatDoorBO4
import Derived.Test.YtbngpcghognojaaGreatDoorBO5
import Derived.Test.YtbngpcghognojaaGreatDoorBO6
import Derived.Test.YtbngpcghognojaaGreatDoorBO13
namespace Go.Proofs.YtbngpcghognojaaGreatDoor
open Go Go.Sort Go.RowKit
set_option linter.unusedVariables false
set_option linter.unusedSimpArgs false
set_option maxRecDepth 100000
set_option maxHeartbeats 1000000
attribute [local go_sem] Oper.qB
theorem var_kept {P : Program} {w w' : World} {n : String} {cs : Array Value} (h : w.var? P n = some cs) (hb : Below w.heap.size w w') : w'.var? P n = some cs := by
  unfold World.var? at h ⊢
  obtain ⟨g, hg, h⟩ := Option.bind_eq_some_iff.1 h
  rw [hg]
  simp only [Option.bind_some]
  rcases Nat.lt_or_ge g w.heap.size with hlt | hge
  · rw [hb.block g hlt]
    exact h
  · rw [Array.getElem?_eq_none hge] at h
    cases h
/-- The table of powers of ten lies. -/
def Tab (w : World) : Prop := Lib.TabIs Tryz.prog w "internal/strconv.uint64pow10" .u64 Lib.pow10Tab
theorem Tab.below {w w' : World} (h : Tab w) (hb : Below w.heap.size w w') : Tab w' := var_kept h hb
theorem below_grown (w : World) (k : Nat) (os : Array Obj) : Below w.heap.size w (grow (w.drewN k) os) :=
  ⟨rfl, rfl, rfl, by show _ ≤ (_ ++ os).size; rw [Array.size_append]; exact Nat.le_add_right _ _, fun j hj => heap_grow_old _ os hj⟩
theorem itoa_nat {n : Int} (h : 0 ≤ n) : Lib.itoa n = Lib.decDigits n.toNat := by
  unfold Lib.itoa
  rw [if_neg (by omega)]
theorem dec_short (n : Nat) : (Lib.decDigits n).length ≤ n + 1 := by
  induction n using Nat.strongRecOn with
  | _ n ih =>
    by_cases h : n < 10
    · rw [Lib.decDigits, dif_pos h]
      simp
    · rw [Lib.decDigits, dif_neg h]
      have := ih (n / 10) (by omega)
      simp
      omega
theorem itoa_short {n : Int} (h : 0 ≤ n) (h' : n ≤ 100000) : (Lib.itoa n).length ≤ 100001 := by
  rw [itoa_nat h]
  have := dec_short n.toNat
  omega
/-- A text. -/
def tv (l : List UInt8) : Value := .string ⟨l.toArray⟩
theorem decimal_any (n : Int) (h0 : -9223372036854775808 ≤ n) (h1 : n ≤ 9223372036854775807) (w : World) (ht : Tab w) : Calls Tryz.prog 66 #[.int .i64 n] w fun e w' => e = .returned (.string ⟨(Lib.itoa n).toArray⟩) ∧ Below w.heap.size w w' := by
  have HF := Lib.hid (fun W hW => Any.strconv_FormatInt_10 Tryz.lx118 n h0 h1 W (ht.below hW))
  have H := Below.refl w.heap.size w
  go_enter Tryz.func66, Tryz.ntmps66
  go_wp2_with (go_at_call 118; go_loud (refine (HF.out _ H).mono ?_; rintro e w1 ⟨rfl, q, os, rfl⟩))
  go_ret
  exact ⟨rfl, below_grown _ _ _⟩
theorem BottleText_any (b : Bt) (w : World) (ht : Tab w) : Calls Tryz.prog 11 #[bv b] w fun e w' => e = .returned (.string ⟨(if b.ok = true then botT b else []).toArray⟩) ∧ Below w.heap.size w w' := by
  have HT := Lib.hid ht
  have hk := b.hk
  have hy := b.hy
  have HB := Lib.hid (fun W => ValidBottle_any b W)
  generalize hT : (if b.ok = true then botT b else []) = t
  go_enter Tryz.func11, Tryz.ntmps11
  go_upto_region 1 with fail
  generalize hW : World.alloc _ _ = W
  have H0 : Below w.heap.size w W := by rw [← hW]; go_grown
  have r0 : rowOf W (w.heap.size) = some (#[.int .u8 b.k, .int .i16 b.y]) := (by (try rw [← hW]); simp only [rowOf_alloc, World.size_alloc, ↓reduceIte]; all_goals ((repeat' split) <;> first | omega | (exfalso; omega) | rfl))
  clear hW
  have l0 : w.heap.size ≤ w.heap.size := Nat.le_refl _
  generalize h0 : w.heap.size = g0 at r0 ⊢
  replace l0 : w.heap.size ≤ g0 := Nat.le_of_eq h0
  clear h0
  have b0 := rowOf_lt r0
  have H := Below.refl W.heap.size W
  have HT1 := Lib.hid (HT.out.below H0)
  have x0 : W.cell? ⟨g0, 0, none⟩ = some (.int .u8 b.k) := rowOf_cell r0 0
  have x1 : W.cell? ⟨g0, 1, none⟩ = some (.int .i16 b.y) := rowOf_cell r0 1
  cases e1 : b.ok with
  | false =>
    have e2 := Lib.hid e1
    obtain rfl : t = [] := by rw [← hT, e1]; rfl
    clear hT e1
    go_wp2_with (go_at_call 19; refine (HB.out _).mono ?_; rintro e w' ⟨rfl, hb⟩; rw [e2.out]; replace H := bstep H hb; clear hb)
    go_ret
    exact ⟨rfl, bstep H0 H⟩
  | true =>
    have e2 := Lib.hid e1
    obtain rfl : t = botT b := by rw [← hT, e1]; rfl
    clear hT
    simp only [Bt.ok, decide_eq_true_iff] at e1
    go_upto_region 3 with (go_at_call 19; refine (HB.out _).mono ?_; rintro e w' ⟨rfl, hb⟩; rw [e2.out]; replace H := bstep H hb; clear hb)
    have z0 := cell_regrown ((H.cell b0).trans x0)
    have z1 := cell_regrown ((H.cell b0).trans x1)
    have HT2 := Lib.hid (HT1.out.below H)
    clear x0 x1
    have hs1 := itoa_short hk.1 (by omega)
    have hs2 := itoa_short (n := b.y) (by omega) (by omega)
    have HD1 := Lib.hid (fun W hW => decimal_any b.k (by omega) (by omega) W hW)
    have HD2 := Lib.hid (fun W hW => decimal_any b.y (by omega) (by omega) W hW)
    have HE : Hid (.string ⟨(botT b).toArray⟩ = Value.string (((⟨(Lib.itoa b.k).toArray⟩ : ByteArray) ++ ⟨#[58]⟩) ++ ⟨(Lib.itoa b.y).toArray⟩)) := by
      rw [Hid, itoa_nat hk.1, itoa_nat (by omega), botT]
      refine congrArg Value.string (ByteArray.ext ?_)
      simp [ByteArray.data_append]
    have hz1 : (⟨(Lib.itoa b.k).toArray⟩ : ByteArray).size ≤ 100001 := hs1
    have hz2 : (⟨(Lib.itoa b.y).toArray⟩ : ByteArray).size ≤ 100001 := hs2
    clear hs1 hs2
    generalize (⟨(Lib.itoa b.k).toArray⟩ : ByteArray) = SA at HD1 HE hz1
    generalize (⟨(Lib.itoa b.y).toArray⟩ : ByteArray) = SB at HD2 HE hz2
    have f1 : ¬ (9223372036854775807 < SA.size + 1) := by omega
    have f2 : ¬ (9223372036854775807 < SA.size + 1 + SB.size) := by omega
    have H3 := bstep H0 H
    clear H hz1 hz2
    have hwk : IntKind.i64.wrap b.k = b.k := by rw [IntKind.wrap_i64]; omega
    have hwy : IntKind.i64.wrap b.y = b.y := by rw [IntKind.wrap_i64]; omega
    have H := Below.refl w'.heap.size w'
    refine wp_region_qB (by kernel_rfl) (by kernel_rfl) ?_
    (repeat (first | fail | (apply qB_step; intro K hK; go_simp; first | (refine hK _ ?_; clear hK K) | (apply Exists.intro; refine ⟨fun _ => ?_, hK _ ?_⟩; (first | (go_at_call 66 <;> first | exact HD1.out _ (HT2.out.below (below_regrown _ _ _)) | exact HD2.out _ (HT2.out.below (below_regrown _ _ _)))); clear hK K))))
    refine qB_nil ?_
    intro w1 hw1
    replace H := bstep H hw1
    clear hw1
    go_wp2
    go_ret
    exact ⟨congrArg Ending.returned HE.out.symm, bstep H3 H⟩
end Go.Proofs.YtbngpcghognojaaGreatDoor
namespace Go.Proofs.YtbngpcghognojaaGreatDoor
open Go Go.Sort Go.RowKit
set_option linter.unusedVariables false
set_option linter.unusedSimpArgs false
set_option maxRecDepth 100000
set_option maxHeartbeats 400000
attribute [local go_sem] Oper.qB
end Go.Proofs.YtbngpcghognojaaGreatDoor
namespace Go.Proofs.YtbngpcghognojaaGreatDoor
open Go Go.Sort Go.RowKit
set_option linter.unusedVariables false
set_option linter.unusedSimpArgs false
set_option maxRecDepth 100000
set_option maxHeartbeats 1000000
attribute [local go_sem] Oper.qB
theorem numR_none {l : List UInt8} (h : canon l = false ∨ 9 < l.length) : numR l = (0, false) := by
  unfold numR
  rw [if_neg]
  rw [Bool.and_eq_true, decide_eq_true_iff]
  rintro ⟨h1, h2⟩
  rcases h with h | h
  · rw [h] at h1
    cases h1
  · omega
theorem valF_lt : ∀ (l : List UInt8) (a : Nat), (∀ c ∈ l, isD c = true) → valF a l < (a + 1) * 10 ^ l.length
  | [], a, _ => by simp [valF]
  | c :: l, a, h => by
    have hc := isD_iff.1 (h c (List.mem_cons_self ..))
    have := valF_lt l (a * 10 + (c.toNat - 48)) (fun d hd => h d (List.mem_cons_of_mem _ hd))
    rw [valF_cons, List.length_cons, Nat.pow_succ]
    have h2 : (a * 10 + (c.toNat - 48) + 1) * 10 ^ l.length ≤ ((a + 1) * 10) * 10 ^ l.length := Nat.mul_le_mul_right _ (by omega)
    calc _ < _ := this
      _ ≤ _ := h2
      _ = _ := by rw [Nat.mul_assoc, Nat.mul_comm 10]
theorem size_text (l : List UInt8) : (⟨l.toArray⟩ : ByteArray).size = l.length := by show l.toArray.size = _; simp
theorem get_text (l : List UInt8) (i : Nat) (h : i < (⟨l.toArray⟩ : ByteArray).size) : (⟨l.toArray⟩ : ByteArray)[i] = l[i]! := by
  have hi : i < l.length := by rw [size_text] at h; exact h
  rw [getElem!_pos l i hi]
  show l.toArray[i] = _
  simp
theorem valD_step {l : List UInt8} {k : Nat} (hk : k < l.length) : valD (l.take (k + 1)) = valD (l.take k) * 10 + (l[k]!.toNat - 48) := by
  unfold valD
  rw [List.take_succ_eq_append_getElem hk, valF_snoc, getElem!_pos l k hk]
end Go.Proofs.YtbngpcghognojaaGreatDoor
namespace Go.Proofs.YtbngpcghognojaaGreatDoor
open Go Go.Sort Go.RowKit
set_option linter.unusedVariables false
set_option linter.unusedSimpArgs false
set_option maxRecDepth 100000
set_option maxHeartbeats 1000000
attribute [local go_sem] Oper.qB
/-- A variable holds an error or none. -/
def ErrV (w : World) (g : Nat) : Prop := ∃ ev : Value, w.cell? ⟨g, 0, none⟩ = some ev ∧ (ev = .nilIface ∨ ∃ te pe, ev = .iface te pe)
theorem ErrV.below {w w' : World} {g : Nat} (h : ErrV w g) (hb : Below w.heap.size w w') : ErrV w' g := by
  obtain ⟨ev, h1, h2⟩ := h
  exact ⟨ev, (hb.cell (World.block_lt_of_cell? _ _ h1)).trans h1, h2⟩
theorem below_bytes (w : World) (e : TypeId) (s : ByteArray) : Below w.heap.size w (Lib.bytesWorld w e s) :=
  ⟨rfl, rfl, rfl, by rw [Lib.bytesWorld_size]; omega, fun k hk => Lib.bytesWorld_at_old w e s k hk⟩
theorem readDecimal_any (l : List UInt8) (lo hi : Nat) (hh : hi < 1000000) (hl : l.length ≤ 1048576) (w : World) (ht : Tab w) (h2 : ErrV w (Tryz.lx117_ren.g 15)) (h3 : ErrV w (Tryz.lx117_ren.g 16)) :
    Calls Tryz.prog 65 #[.string ⟨l.toArray⟩, .int .i64 (lo : Int), .int .i64 (hi : Int)] w fun e w' => (∃ n : Int, e = .returned (.tuple #[.int .i64 n, .bool (rdR lo hi l)]) ∧ (rdR lo hi l = true → n = (valD l : Int))) ∧ Below w.heap.size w w' := by
  have hsz := size_text l
  have htl : (⟨l.toArray⟩ : ByteArray).data.toList = l := by simp
  have htl2 : (⟨l.toArray⟩ : ByteArray).toList = l := by simp
  have H := Below.refl w.heap.size w
  have hlo : ∀ v : Int, (decide ((lo : Int) ≤ v) && decide (v ≤ (hi : Int))) = true ↔ (lo : Int) ≤ v ∧ v ≤ (hi : Int) := fun v => by simp
  rcases hp : Lib.parseIntB 64 l with v | _ | _
  · obtain ⟨hv1, hv2⟩ := Lib.parseIntB_bounds hp
    have hv3 : -9223372036854775808 ≤ v := hv1
    have hv4 : v ≤ 9223372036854775807 := by have : v < 9223372036854775808 := hv2; omega
    have HR : Hid (rdR lo hi l = ((Lib.itoa v == l) && (decide ((lo : Int) ≤ v) && decide (v ≤ (hi : Int))))) := by
      rw [Hid, Bool.eq_iff_iff, rdR_iff (by omega), Bool.and_eq_true, hlo, beq_iff_eq]
      constructor
      · rintro ⟨u, h, h5⟩
        rw [hp] at h
        obtain rfl : v = u := by simpa using h
        exact ⟨h5.1, h5.2.1, h5.2.2⟩
      · rintro ⟨h, h5⟩
        exact ⟨v, hp, h, h5.1, h5.2⟩
    have HV : Hid (rdR lo hi l = true → v = (valD l : Int)) := fun h => by
      simp only [rdR, Bool.and_eq_true, decide_eq_true_iff] at h
      have := parse_ok h.1 (by omega)
      rw [hp] at this
      simpa using this
    have HP := Any.strconv_ParseInt_10_at64_ok Tryz.lx117 ⟨l.toArray⟩ (by rw [hsz]; omega) v (by rw [htl]; exact hp) w
    replace HP := Lib.hid (HP.mono (R' := fun e w' => e = .returned (.tuple #[.int .i64 v, .nilIface]) ∧ Below w.heap.size w w') (fun e w' ⟨he, hw⟩ => ⟨he, by
      rcases hw with rfl | ⟨t, rfl⟩
      · exact Below.refl _ _
      · exact below_bytes _ _ _⟩))
    have HD := Lib.hid (fun W hW => decimal_any v hv3 hv4 W hW)
    have hti : (⟨(Lib.itoa v).toArray⟩ : ByteArray).toList = Lib.itoa v := by simp
    have HI := Lib.hid (within_any v (lo : Int) (hi : Int))
    have HT := Lib.hid ht
    generalize (decide ((lo : Int) ≤ v) && decide (v ≤ (hi : Int))) = q at HR HI
    generalize (⟨(Lib.itoa v).toArray⟩ : ByteArray) = SI at HD hti
    generalize Lib.itoa v = li at HR hti
    generalize (⟨l.toArray⟩ : ByteArray) = S at HP hsz htl2 ⊢
    clear hlo hp hv1 hv2 hv3 hv4
    cases e1 : (li == l) with
    | false =>
      rw [e1] at HR
      go_enter Tryz.func65, Tryz.ntmps65
      go_wp2_with (first | (go_at_call 117; refine HP.out.mono ?_; rintro e w1 ⟨rfl, hb⟩; replace H := bstep H hb; clear hb) | (go_at_call 66; refine (HD.out _ (HT.out.below H)).mono ?_; rintro e w1 ⟨rfl, hb⟩; replace H := bstep H hb; clear hb))
      rw [HR.out]
      exact bodyPost_ret (results_tt rfl) rfl ⟨⟨_, rfl, fun h => by cases h⟩, H⟩
    | true =>
      rw [e1] at HR
      have HR2 : Hid (rdR lo hi l = q) := by rw [Hid, HR.out, Bool.true_and]
      go_enter Tryz.func65, Tryz.ntmps65
      go_wp2_with (first | (go_at_call 117; refine HP.out.mono ?_; rintro e w1 ⟨rfl, hb⟩; replace H := bstep H hb; clear hb) | (go_at_call 66; refine (HD.out _ (HT.out.below H)).mono ?_; rintro e w1 ⟨rfl, hb⟩; replace H := bstep H hb; clear hb) | (go_at_call 77; refine (HI.out _).mono ?_; rintro e w1 ⟨rfl, rfl⟩))
      rw [HR2.out]
      exact bodyPost_ret (results_tt rfl) rfl ⟨⟨_, rfl, fun h => HV.out (by rw [HR2.out]; exact h)⟩, H⟩
  · have HR : Hid (rdR lo hi l = false) := by
      rw [Hid, ← Bool.not_eq_true, rdR_iff (by omega)]
      rintro ⟨v, h, _⟩
      rw [hp] at h
      cases h
    obtain ⟨ev, hv, hev⟩ := h2
    have HP := Lib.hid (Any.strconv_ParseInt_10_at64_syntax Tryz.lx117 ⟨l.toArray⟩ (by rw [hsz]; omega) (by rw [htl]; exact hp) ev w hv hev)
    generalize (⟨l.toArray⟩ : ByteArray) = S at HP hsz htl2 ⊢
    go_enter Tryz.func65, Tryz.ntmps65
    go_wp2_with (go_at_call 117; refine HP.out.mono ?_; rintro e w1 ⟨N, rfl, hN, -, hb⟩; replace H := bstep H hb; clear hb)
    rw [HR.out]
    exact bodyPost_ret (results_tt rfl) rfl ⟨⟨_, rfl, fun h => by cases h⟩, H⟩
  · have HR : Hid (rdR lo hi l = false) := by
      rw [Hid, ← Bool.not_eq_true, rdR_iff (by omega)]
      rintro ⟨v, h, _⟩
      rw [hp] at h
      cases h
    obtain ⟨ev, hv, hev⟩ := h3
    have HP := Any.strconv_ParseInt_10_at64_range Tryz.lx117 ⟨l.toArray⟩ (by rw [hsz]; omega) (by rw [htl]; exact hp) ev w hv hev
    rw [htl] at HP
    generalize Lib.intSat 64 l = sat at HP
    replace HP := Lib.hid HP
    generalize (⟨l.toArray⟩ : ByteArray) = S at HP hsz htl2 ⊢
    go_enter Tryz.func65, Tryz.ntmps65
    go_wp2_with (go_at_call 117; refine HP.out.mono ?_; rintro e w1 ⟨N, rfl, hN, -, hb⟩; replace H := bstep H hb; clear hb)
    rw [HR.out]
    exact bodyPost_ret (results_tt rfl) rfl ⟨⟨_, rfl, fun h => by cases h⟩, H⟩
end Go.Proofs.YtbngpcghognojaaGreatDoor
namespace Go.Proofs.YtbngpcghognojaaGreatDoor
open Go Go.Sort Go.RowKit
set_option linter.unusedVariables false
set_option linter.unusedSimpArgs false
set_option maxRecDepth 100000
set_option maxHeartbeats 1000000
attribute [local go_sem] Oper.qB
theorem cut_len (l s : List UInt8) : (Lib.cut l s).1.length ≤ l.length ∧ (Lib.cut l s).2.1.length ≤ l.length := by
  unfold Lib.cut
  split
  · refine ⟨?_, ?_⟩
    · show (l.take _).length ≤ _
      rw [List.length_take]
      exact Nat.min_le_right _ _
    · show (l.drop _).length ≤ _
      rw [List.length_drop]
      exact Nat.sub_le _ _
  · exact ⟨Nat.le_refl _, Nat.zero_le _⟩
theorem wrap16_id {n : Int} (h : -32768 ≤ n ∧ n ≤ 32767) : IntKind.i16.wrap n = n := by
  simp [IntKind.wrap, IntKind.bits, IntKind.signed]
  split <;> omega
/-- What a bottle's text reads as. -/
def rbR (l : List UInt8) : Bt × Int := match rdB l with
  | some b => (b, 0)
  | none => (zB, 5)
theorem ReadBottle_any (l : List UInt8) (hl : l.length ≤ 1048576) (m : Int) (w : World) (ht : Tab w) (h2 : ErrV w (Tryz.lx117_ren.g 15)) (h3 : ErrV w (Tryz.lx117_ren.g 16)) (hm : w.cell? ⟨Tryz.lx64_ren.g 1, 0, none⟩ = some (.int .i64 m)) :
    Calls Tryz.prog 10 #[.string ⟨l.toArray⟩] w fun e w' => e = .returned (.tuple #[bv (rbR l).1, .int .i64 (rbR l).2]) ∧ Below w.heap.size w w' := by
  have hsz := size_text l
  have hs : (⟨l.toArray⟩ : ByteArray).size < 4294967281 := by omega
  have hd1 : (⟨l.toArray⟩ : ByteArray).data.toList = l := by simp
  have hd2 : (⟨#[58]⟩ : ByteArray).data.toList = [58] := rfl
  have hm2 := fun W (hW : Below w.heap.size w W) => (hW.cell (World.block_lt_of_cell? _ _ hm)).trans hm
  have HC := (fun W (hW : Below w.heap.size w W) => Any.strings_Cut Tryz.lx64 ⟨l.toArray⟩ ⟨#[58]⟩ m W hs (hm2 W hW))
  have hcl := cut_len l [58]
  have hcut := rdB_cut (l := l)
  rw [hd1, hd2] at HC
  generalize Lib.cut l [58] = z at HC hcl hcut
  obtain ⟨a, b, f⟩ := z
  replace HC := Lib.hid HC
  have HD1 : Hid (∀ W, Below w.heap.size w W → Calls Tryz.prog 65 #[.string ⟨a.toArray⟩, .int .i64 1, .int .i64 20] W fun e w' => (∃ n : Int, e = .returned (.tuple #[.int .i64 n, .bool (rdR 1 20 a)]) ∧ (rdR 1 20 a = true → n = (valD a : Int))) ∧ Below W.heap.size W w') := fun W hW => readDecimal_any a 1 20 (by omega) (by have := hcl; simp only at this; omega) W (ht.below hW) (h2.below hW) (h3.below hW)
  have HD2 : Hid (∀ W, Below w.heap.size w W → Calls Tryz.prog 65 #[.string ⟨b.toArray⟩, .int .i64 1900, .int .i64 2099] W fun e w' => (∃ n : Int, e = .returned (.tuple #[.int .i64 n, .bool (rdR 1900 2099 b)]) ∧ (rdR 1900 2099 b = true → n = (valD b : Int))) ∧ Below W.heap.size W w') := fun W hW => readDecimal_any b 1900 2099 (by omega) (by have := hcl; simp only at this; omega) W (ht.below hW) (h2.below hW) (h3.below hW)
  simp only at HC hcut
  go_enter Tryz.func10, Tryz.ntmps10
  go_upto_region 1 with fail
  generalize hW : World.alloc _ _ = W
  have H0 : Below w.heap.size w W := by rw [← hW]; go_grown
  have r0 : rowOf W (w.heap.size) = some (#[.int .u8 0, .int .i16 0]) := (by (try rw [← hW]); simp only [rowOf_alloc, World.size_alloc, ↓reduceIte]; all_goals ((repeat' split) <;> first | omega | (exfalso; omega) | rfl))
  clear hW
  have l0 : w.heap.size ≤ w.heap.size := Nat.le_refl _
  generalize h0 : w.heap.size = g0 at r0 ⊢
  replace l0 : w.heap.size ≤ g0 := Nat.le_of_eq h0
  clear h0
  have b0 := rowOf_lt r0
  have H := Below.refl W.heap.size W
  go_upto_region 4 with (first | (go_at_call 64; go_loud (refine (HC.out _ (bstep H0 H)).mono ?_; rintro e w1 ⟨rfl, q, rfl⟩; replace H := bdrewN H q)) | (go_at_call 65; with_reducible refine (HD1.out _ (bstep H0 H)).mono ?_; rintro e w1 ⟨⟨n1, rfl, hn1⟩, hb⟩; replace H := bstep H hb; clear hb) | (go_at_call 65; with_reducible refine (HD2.out _ (bstep H0 H)).mono ?_; rintro e w1 ⟨⟨n2, rfl, hn2⟩, hb⟩; replace H := bstep H hb; clear hb))
  clear HD1 HD2 HC hcl hm2
  generalize rdR 1 20 a = q1 at hn1 hcut ⊢
  generalize rdR 1900 2099 b = q2 at hn2 hcut ⊢
  rcases hcut with ⟨b0, hb, rfl, rfl, rfl, hk, hy⟩ | ⟨hb, hf⟩
  · obtain rfl : n1 = b0.k := (hn1 rfl).trans hk.symm
    obtain rfl : n2 = b0.y := (hn2 rfl).trans hy.symm
    have HF := Lib.hid (show rbR l = (b0, 0) by unfold rbR; rw [hb])
    have wk : IntKind.u8.wrap b0.k = b0.k := by rw [IntKind.wrap_u8]; have := b0.hk; omega
    have wy : IntKind.i16.wrap b0.y = b0.y := wrap16_id b0.hy
    clear hn1 hn2 hk hy hb
    go_wp2_with ((with_reducible refine wp_store_rowOf rfl rfl _ _ _ rfl _ rfl #[.int .u8 b0.k, .int .i16 b0.y] rfl #[.int .u8 0, .int .i16 0] (row_kept r0 H) rfl (infoB _ _) (bv_one _ _) ?_))
    rw [HF.out]
    exact bodyPost_ret (results_ct rfl rfl (loadVar_rowOf #[.int .u8 b0.k, .int .i16 b0.y] (by rw [rowOf_setRow, if_pos rfl, row_kept r0 H]; rfl) _ Tryz.underlying26 rfl (infoB _ _))) rfl ⟨rfl, bsetRow (bstep H0 H) (by omega) _⟩
  · have HF := Lib.hid (show rbR l = (zB, 5) by unfold rbR; rw [hb])
    clear hn1 hn2 hb
    replace hf := Lib.hid hf
    cases f with
    | false =>
      go_wp2_with ((with_reducible refine wp_store_rowOf rfl rfl _ _ _ rfl _ rfl #[.int .u8 0, .int .i16 0] rfl #[.int .u8 0, .int .i16 0] (row_kept r0 H) rfl (infoB _ _) (bv_one _ _) ?_))
      rw [HF.out]
      exact bodyPost_ret (results_ct rfl rfl (loadVar_rowOf #[.int .u8 0, .int .i16 0] (by rw [rowOf_setRow, if_pos rfl, row_kept r0 H]; rfl) _ Tryz.underlying26 rfl (infoB _ _))) rfl ⟨rfl, bsetRow (bstep H0 H) (by omega) _⟩
    | true =>
      cases q1 with
      | false =>
        go_wp2_with ((with_reducible refine wp_store_rowOf rfl rfl _ _ _ rfl _ rfl #[.int .u8 0, .int .i16 0] rfl #[.int .u8 0, .int .i16 0] (row_kept r0 H) rfl (infoB _ _) (bv_one _ _) ?_))
        rw [HF.out]
        exact bodyPost_ret (results_ct rfl rfl (loadVar_rowOf #[.int .u8 0, .int .i16 0] (by rw [rowOf_setRow, if_pos rfl, row_kept r0 H]; rfl) _ Tryz.underlying26 rfl (infoB _ _))) rfl ⟨rfl, bsetRow (bstep H0 H) (by omega) _⟩
      | true =>
        obtain rfl : q2 = false := by cases q2 with | false => rfl | true => exact absurd hf.out (by decide)
        go_wp2_with ((with_reducible refine wp_store_rowOf rfl rfl _ _ _ rfl _ rfl #[.int .u8 0, .int .i16 0] rfl #[.int .u8 0, .int .i16 0] (row_kept r0 H) rfl (infoB _ _) (bv_one _ _) ?_))
        rw [HF.out]
        exact bodyPost_ret (results_ct rfl rfl (loadVar_rowOf #[.int .u8 0, .int .i16 0] (by rw [rowOf_setRow, if_pos rfl, row_kept r0 H]; rfl) _ Tryz.underlying26 rfl (infoB _ _))) rfl ⟨rfl, bsetRow (bstep H0 H) (by omega) _⟩
end Go.Proofs.YtbngpcghognojaaGreatDoor
namespace Go.Proofs.YtbngpcghognojaaGreatDoor
open Go Go.Sort Go.RowKit
set_option linter.unusedVariables false
set_option linter.unusedSimpArgs false
set_option maxRecDepth 100000
set_option maxHeartbeats 1000000
/-- Grown from number j of some worlds. -/
def AtB (ws : List World) (j : Nat) (w : World) : Prop := ∃ W, ws[j]? = some W ∧ Below W.heap.size W w
theorem AtB.step {ws : List World} {j : Nat} {w w' : World} (h : AtB ws j w) (hb : BelowOf w w') : AtB ws j w' := by
  obtain ⟨W, h1, h2⟩ := h
  exact ⟨W, h1, bstep h2 hb⟩
theorem below_setRow {W w : World} {g : Nat} (h : Below W.heap.size W w) (cs : Array Value) : Below (W.setRow g cs).heap.size (W.setRow g cs) (w.setRow g cs) := by
  have e : ∀ v : World, (v.setRow g cs).heap.size = v.heap.size := fun v => by simp [World.setRow]
  refine ⟨h.os, h.tape, h.output, by rw [e, e]; exact h.size, fun k hk => ?_⟩
  rw [e] at hk
  by_cases hg : k = g
  · subst hg
    simp only [World.setRow, Array.getElem?_modify, if_pos, h.block k hk]
  · rw [setRow_other _ _ _ _ hg, setRow_other _ _ _ _ hg]
    exact h.block k hk
section
variable {P : Program} {ops : Array Oper} {md : Region.Mode} {ws : List World} {Q : Act → World → Prop} {k j : Nat} {d : Array Bool} {a : Act}
theorem b_start {id : Nat} {Q : Exit → Act → World → Prop} {a : Act} {w : World} (n : Nat) (ws : List World) (h0 : ws[0]? = some w) (hn : ops.size = n) (hm : P.follows .mixedOrders = true)
    (h : AnyG (AtB ws) P .any ops (Q .normal) n 0 (Array.replicate n false) a) : (Code.region id ops true).wp P Q a w := by
  subst hn
  exact wp_region_any hm (AnyG.any _ _ _ _ h _ ⟨w, h0, (Below.refl _ _).drew⟩)
theorem b_done (W : World) (hj : ws[j]? = some W) (hB : (Region.ready md ops d).isEmpty = true) (h : ∀ w, Below W.heap.size W w → Q a w) : AnyG (AtB ws) P md ops Q 0 j d a :=
  ⟨by simpa using hB, fun w hw => by
    obtain ⟨W', h1, h2⟩ := hw
    obtain rfl := Option.some.inj (hj.symm.trans h1)
    exact h w h2⟩
theorem b_yields {o : Oper} {v : Value} (hw : Region.wanted o (yielded ops a.tmps) = true) (h : ∀ W ∈ ws, ∀ p : Regrown, o.quietAt P a (fun w'' => BelowOf (grow (redrawn W p.d) p.os) w'') (grow (redrawn W p.d) p.os) v) : YieldsG (AtB ws) P ops o v a := by
  refine .inl ⟨hw, fun γ w hL => ?_⟩
  obtain ⟨W, h1, h2⟩ := hL
  obtain ⟨p, rfl⟩ := regrown_of_below h2
  have hq := h W (List.mem_of_getElem? h1) p
  have hL : AtB ws γ (grow (redrawn W p.d) p.os) := ⟨W, h1, h2⟩
  unfold Oper.quietAt at hq ⊢
  generalize (execOp a.eval o).run P _ = r at hq ⊢
  cases r with
  | halt x w => exact hq
  | ok n w =>
    cases n <;> try exact hq
    case enter f args => exact ⟨hq.1, Calls.mono hq.2 fun e w'' ⟨he, hb⟩ => ⟨he, hL.step hb⟩⟩
/-- Quiet in all that these worlds grow into: it may as well come now. -/
theorem b_quiet (i : Nat) {o : Oper} (hB : (Region.noSelect ops && ((Region.ready md ops d).contains i && Region.free md ops d i)) = true) (ho : ops[i]? = some o) (hg : o.guard = none) (v : Value)
    (h : ∀ W ∈ ws, ∀ p : Regrown, o.quietAt P a (fun w'' => BelowOf (grow (redrawn W p.d) p.os) w'') (grow (redrawn W p.d) p.os) v)
    (hk : AnyG (AtB ws) P md ops Q k j (d.setIfInBounds i true) (a.put o.dst v)) : AnyG (AtB ws) P md ops Q (k + 1) j d a := by
  simp only [Bool.and_eq_true] at hB
  have hr : i ∈ Region.ready md ops d := by simpa using hB.2.1
  exact AnyG.first ho (Region.noSelect_spec hB.1) k j d a (Region.free_spec ho hB.2.2) hr (b_yields (by unfold Region.wanted; rw [hg]) h) hk
/-- What does not look at the world. -/
theorem b_plain (i : Nat) {o : Oper} (hB : (Region.noSelect ops && ((Region.ready md ops d).contains i && Region.free md ops d i)) = true) (ho : ops[i]? = some o) (hg : o.guard = none) (v : Value)
    (h : ∀ w, (execOp a.eval o).run P w = .ok (.value v) w)
    (hk : AnyG (AtB ws) P md ops Q k j (d.setIfInBounds i true) (a.put o.dst v)) : AnyG (AtB ws) P md ops Q (k + 1) j d a :=
  b_quiet i hB ho hg v (fun W _ p => by unfold Oper.quietAt; rw [h]; exact ⟨rfl, rfl⟩) hk
/-- A whole row loaded, the same in all these worlds. -/
theorem b_row (i : Nat) {o : Oper} (hB : (Region.noSelect ops && ((Region.ready md ops d).contains i && Region.free md ops d i)) = true) (ho : ops[i]? = some o) (hg : o.guard = none)
    (ty : TypeId) (x : Operand) (hop : o.op = .load ty x) (g : Nat) (hx : a.eval x = .pointer (some ⟨g, 0, none⟩)) (cs : Array Value) (hr : ∀ W ∈ ws, rowOf W g = some cs)
    (ds : TypeDesc) (hu : P.underlying ty = some ds) (hd : TypeDesc.isRow ds = true) (hi : (P.info? ty).map (·.size) = some cs.size)
    (hk : AnyG (AtB ws) P md ops Q k j (d.setIfInBounds i true) (a.put o.dst (.agg cs))) : AnyG (AtB ws) P md ops Q (k + 1) j d a := by
  refine b_quiet i hB ho hg (.agg cs) (fun W hW p => ?_) hk
  have hb := below_regrown W p.d p.os
  obtain ⟨t, ht⟩ := rowOf_some ((rowOf_below hb (rowOf_lt (hr W hW))).trans (hr W hW))
  have hl := run_loadVar_row (P := P) _ g t ty cs (0, 0) ds ht hu (by cases ds <;> first | rfl | simp [TypeDesc.isRow] at hd) hi
  unfold Oper.quietAt execOp
  simp only [hop, hx, Instr.loadAt, Instr.sureAddr, Sem.run_bind, Sem.run_pure, Result.andThen_ok, hl, Oper.quietUpon]
  exact ⟨trivial, trivial⟩
/-- A call that answers alike in all worlds. -/
theorem b_call (i : Nat) {o : Oper} (hB : (Region.noSelect ops && ((Region.ready md ops d).contains i && Region.free md ops d i)) = true) (ho : ops[i]? = some o) (hg : o.guard = none) (v : Value) (f : FuncId) (args : Array Value)
    (hrun : ∀ w, (execOp a.eval o).run P w = .ok (.enter f args) w) (hc : ∀ w, Calls P f args w fun e w' => e = .returned v ∧ Below w.heap.size w w')
    (hk : AnyG (AtB ws) P md ops Q k j (d.setIfInBounds i true) (a.put o.dst v)) : AnyG (AtB ws) P md ops Q (k + 1) j d a :=
  b_quiet i hB ho hg v (fun W _ p => by unfold Oper.quietAt; rw [hrun]; exact ⟨rfl, hc _⟩) hk
/-- A whole row stored, alone. -/
theorem b_store (i j' : Nat) {o : Oper} (hB : (Region.ready md ops d == [i]) = true) (ho : ops[i]? = some o) (hg : o.guard = none) (hd : o.dst = none) (W : World) (g : Nat) (cs cs0 : Array Value) (hj : ws[j]? = some W) (hj' : ws[j']? = some (W.setRow g cs))
    (ty : TypeId) (x y : Operand) (hop : o.op = .store ty x y) (hx : a.eval x = .pointer (some ⟨g, 0, none⟩)) (hy : a.eval y = .agg cs) (hr : rowOf W g = some cs0) (hz : cs0.size = cs.size) (hi : (P.info? ty).map (·.size) = some cs.size) (h1 : ∀ v ∈ cs.toList, v.oneCell' = true)
    (hk : AnyG (AtB ws) P md ops Q k j' (d.setIfInBounds i true) a) : AnyG (AtB ws) P md ops Q (k + 1) j d a := by
  refine AnyG.one (by simpa using hB) ho ?_
  unfold gOp
  rw [if_pos (by unfold Region.wanted; rw [hg])]
  intro w hL
  obtain ⟨W', h2, h3⟩ := hL
  obtain rfl := Option.some.inj (hj.symm.trans h2)
  have hl := run_storeAt_row (P := P) w g ty cs.size cs hi rfl (by rw [((rowOf_below h3 (rowOf_lt hr)).trans hr)]; simp [hz]) h1
  unfold execOp
  simp only [hop, hx, hy, Sem.run_bind, Sem.run_pure, Result.andThen_ok, hl]
  rw [hd]
  exact ⟨j', ⟨_, hj', below_setRow h3 cs⟩, hk⟩
end
end Go.Proofs.YtbngpcghognojaaGreatDoor
namespace Go.Proofs.YtbngpcghognojaaGreatDoor
open Go Go.Sort Go.RowKit
set_option linter.unusedVariables false
set_option linter.unusedSimpArgs false
set_option maxRecDepth 100000
set_option maxHeartbeats 1000000
attribute [local go_sem] Oper.qB
/-! ### Plain -/
theorem spl_len (s : UInt8) : ∀ l : List UInt8, (spl s l).length ≤ l.length + 1
  | [] => by simp [spl]
  | c :: l => by
    have ih := spl_len s l
    rw [spl]
    split
    · simp only [List.length_cons]; omega
    · cases hs : spl s l with
      | nil => simp [preS]
      | cons p ps =>
        rw [hs] at ih
        simp only [preS, List.length_cons] at ih ⊢
        omega
/-- The piece from b up to i. -/
def pieceT (l : List UInt8) (b i : Nat) : List UInt8 := (l.drop b).take (i - b)
theorem piece_ext (l : List UInt8) (b i : Nat) : (⟨l.toArray⟩ : ByteArray).extract b i = ⟨(pieceT l b i).toArray⟩ := by
  rw [Lib.extract_eq]
  rfl
theorem piece_grow {l : List UInt8} {b i : Nat} (hb : b ≤ i) (hi : i < l.length) : pieceT l b (i + 1) = pieceT l b i ++ [l[i]!] := by
  unfold pieceT
  have hd : i - b < (l.drop b).length := by rw [List.length_drop]; omega
  rw [show i + 1 - b = (i - b) + 1 by omega, List.take_succ_eq_append_getElem hd, List.getElem_drop, getElem!_pos l i hi]
  simp only [show b + (i - b) = i by omega]
theorem drop_piece {l : List UInt8} {b i : Nat} (hb : b ≤ i) (hi : i < l.length) : l.drop b = pieceT l b i ++ l[i]! :: l.drop (i + 1) := by
  have h1 : (l.drop b).drop (i - b) = l[i]! :: l.drop (i + 1) := by
    rw [List.drop_drop, show b + (i - b) = i by omega, getElem!_pos l i hi]
    exact (List.drop_eq_getElem_cons hi)
  rw [← h1]
  exact (List.take_append_drop _ _).symm
theorem piece_end (l : List UInt8) (b : Nat) : pieceT l b l.length = l.drop b := by
  unfold pieceT
  rw [List.take_of_length_le (by rw [List.length_drop]; exact Nat.le_refl _)]
/-- What has been split up to byte i: the pieces, and where the last one begins. -/
structure SplK (s : UInt8) (l : List UInt8) (i b : Nat) (ls : List (List UInt8)) : Prop where
  le : b ≤ i
  eq : spl s l = ls ++ spl s (l.drop b)
  no : s ∉ pieceT l b i
theorem SplK.start (s : UInt8) (l : List UInt8) : SplK s l 0 0 [] := ⟨Nat.le_refl _, by simp, by simp [pieceT]⟩
theorem SplK.hit {s : UInt8} {l : List UInt8} {i b : Nat} {ls : List (List UInt8)} (h : SplK s l i b ls) (hi : i < l.length) (hc : l[i]! = s) : SplK s l (i + 1) (i + 1) (ls ++ [pieceT l b i]) := by
  refine ⟨Nat.le_refl _, ?_, by simp [pieceT]⟩
  rw [h.eq, drop_piece h.le hi, hc, spl_app _ h.no]
  simp
theorem SplK.miss {s : UInt8} {l : List UInt8} {i b : Nat} {ls : List (List UInt8)} (h : SplK s l i b ls) (hi : i < l.length) (hc : l[i]! ≠ s) : SplK s l (i + 1) b ls := by
  refine ⟨Nat.le_succ_of_le h.le, h.eq, ?_⟩
  rw [piece_grow h.le hi]
  intro hm
  rcases List.mem_append.1 hm with q | q
  · exact h.no q
  · exact hc (List.mem_singleton.1 q).symm
theorem SplK.done {s : UInt8} {l : List UInt8} {b : Nat} {ls : List (List UInt8)} (h : SplK s l l.length b ls) : ls ++ [l.drop b] = spl s l := by
  have h1 := h.no
  rw [piece_end] at h1
  rw [h.eq, spl_one h1]
theorem SplK.len {s : UInt8} {l : List UInt8} {i b : Nat} {ls : List (List UInt8)} (h : SplK s l i b ls) : ls.length ≤ l.length + 1 := by
  have h1 := spl_len s l
  rw [h.eq, List.length_append] at h1
  omega
/-! ### Texts in slices -/
/-- A text's cell. -/
def tcs (l : List UInt8) : List Value := [.string ⟨l.toArray⟩]
theorem tcs_length (l : List UInt8) : (tcs l).length = 1 := rfl
theorem tcs_one (l : List UInt8) : ∀ u ∈ tcs l, u.oneCell' = true := by
  intro u hu
  simp [tcs] at hu
  subst hu
  rfl
theorem infoStr : (Tryz.prog.info? 9).map (fun i => (i.zero, i.size, i.bytes)) = some (some (.string ⟨#[]⟩), 1, 16) := by kernel_rfl
section
variable {ops : Array Oper} {rest : List Oper} {o : Oper} {a : Act} {Q : Exit → Act → World → Prop} {W : World}
theorem wp_app_txt (B : Nat) (hgd : o.guard = none) (s x : Operand) (ho : o.op = .call { callee := .builtin .append, args := #[s, x], argTypes := #[90, 90] })
    (v : Value) (l : List (List UInt8)) (y : List UInt8) (hs : a.eval s = v) (g : Nat) (hx : a.eval x = .slice (some ⟨g, 0, none⟩) 1 1) (hg : g = W.heap.size)
    (HO : OwnS tcs W B 9 1 v l) (hB : B ≤ W.heap.size) (hn : l.length ≤ 100000000) (S : ByteArray) (hS : S = ⟨y.toArray⟩)
    (h : ∀ v1 w1, OwnS tcs w1 B 9 1 v1 (l ++ [y]) → Below B W w1 → wpList Tryz.prog ops Q rest (a.put o.dst v1) w1) : wpList Tryz.prog ops Q (o :: rest) a (W.alloc (.cells #[.string S] 9)) := by
  subst hS
  exact wp_app (P := Tryz.prog) B hgd s x 90 9 ho (.string ⟨#[]⟩) 1 16 Tryz.underlying90 infoStr rfl (by decide) v l.length (fl tcs l) (tcs y) hs g hx hg rfl (tcs_one y) HO.1 hB (by omega) (by decide)
    (fun v1 w1 h1 h2 => h v1 w1 (OwnS.grown (by rw [List.length_append, fl_append, fl_one]; exact h1)) h2)
end
end Go.Proofs.YtbngpcghognojaaGreatDoor
namespace Go.Proofs.YtbngpcghognojaaGreatDoor
open Go Go.Sort Go.RowKit
set_option linter.unusedVariables false
set_option linter.unusedSimpArgs false
set_option maxRecDepth 100000
set_option maxHeartbeats 1000000
attribute [local go_sem] Oper.qB
theorem numR_pos (l : List UInt8) : 0 ≤ (numR l).1 := by
  unfold numR
  split
  · exact Int.natCast_nonneg _
  · exact Int.le_refl _
theorem rdR_num {lo hi : Nat} (hh : hi < 1000000) (l : List UInt8) : rdR lo hi l = ((numR l).2 && (decide ((lo : Int) ≤ (numR l).1) && decide ((numR l).1 ≤ (hi : Int)))) := by
  unfold rdR numR
  cases hc : canon l with
  | false => simp
  | true =>
    by_cases h9 : l.length ≤ 9
    · simp [h9]
    · have : ¬ valD l < 1000000000 := fun h => h9 (canon_len hc h)
      simp [h9]
      omega
theorem rdB_not2 {l : List UInt8} (h : (spl 58 l).length ≠ 2) : rdB l = none := by
  unfold rdB
  split
  · rename_i a b hs
    rw [hs] at h
    exact absurd rfl h
  · rfl
theorem rdB_none {l a b : List UInt8} (h : spl 58 l = [a, b]) (hr : (rdR 1 20 a && rdR 1900 2099 b) = false) : rdB l = none := by
  unfold rdB
  rw [h]
  simp [hr]
theorem rdB_yes {l a b : List UInt8} (h : spl 58 l = [a, b]) (t : Bt) (h1 : canon a = true) (h2 : canon b = true) (hk : t.k = (valD a : Int)) (hy : t.y = (valD b : Int)) : rdB l = if t.ok = true then some t else none := by
  have e : (rdR 1 20 a && rdR 1900 2099 b) = t.ok := by
    rw [Bool.eq_iff_iff]
    simp only [rdR, h1, h2, Bool.true_and, Bool.and_eq_true, decide_eq_true_iff, Bt.ok, hk, hy]
    omega
  cases ho : t.ok with
  | false =>
    rw [ho] at e
    rw [rdB_none h e]
    rfl
  | true =>
    rw [ho] at e
    unfold rdB
    rw [h]
    simp only [e, dif_pos]
    rw [if_pos trivial]
    congr 1
    exact Bt.ext2 hk.symm hy.symm
theorem numR_true {l : List UInt8} {n : Int} (h : numR l = (n, true)) : canon l = true ∧ n = (valD l : Int) := by
  unfold numR at h
  split at h
  · rename_i hc
    rw [Bool.and_eq_true] at hc
    exact ⟨hc.1, (congrArg Prod.fst h).symm⟩
  · cases h
end Go.Proofs.YtbngpcghognojaaGreatDoor
namespace Go.Proofs.YtbngpcghognojaaGreatDoor
open Go Go.Lib
set_option linter.unusedVariables false
set_option linter.unusedSimpArgs false
set_option maxRecDepth 100000
/-! ### The library's split -/
theorem splitK_spl (s : UInt8) : ∀ (n : Nat) (l : List UInt8), l.length ≤ n → splitK [s] 0 (count l [s]) l = spl s l := by
  intro n
  induction n with
  | zero =>
    intro l hl
    obtain rfl : l = [] := List.length_eq_zero_iff.1 (Nat.le_zero.1 hl)
    rw [count_miss (by simp [index])]
    rfl
  | succ n ih =>
    intro l hl
    by_cases h : s ∈ l
    · obtain ⟨a, b, rfl, ha⟩ := List.eq_append_cons_of_mem h
      have hi := index_app b ha
      have hd : (a ++ s :: b).drop (a.length + [s].length) = b := by
        rw [List.drop_append, List.drop_eq_nil_of_le (by simp)]
        simp
      have hlb : b.length ≤ n := by
        rw [List.length_append, List.length_cons] at hl
        omega
      rw [count_hit (by simp) hi, hd, Nat.add_comm, splitK, hi, if_neg (by simp), Int.toNat_natCast, hd, ih b hlb, spl_app b ha]
      simp
    · rw [count_miss (index_not h), spl_one h]
      rfl
/-! ### A word -/
theorem want_n {b : List UInt8} (h : rdR 1 144 b = true) : -32768 ≤ (valD b : Int) ∧ (valD b : Int) ≤ 32767 := by
  simp only [rdR, Bool.and_eq_true, decide_eq_true_iff] at h
  omega
/-- A want's text, read. -/
def rdW (w : List UInt8) : Option Wt := match spl 120 w with
  | [a, b] => match rdB a with
    | some t => if h : rdR 1 144 b = true then some ⟨t, (valD b : Int), want_n h⟩ else none
    | none => none
  | _ => none
theorem rdW_not2 {w : List UInt8} (h : (spl 120 w).length ≠ 2) : rdW w = none := by
  unfold rdW
  split
  · rename_i a b hs
    rw [hs] at h
    exact absurd rfl h
  · rfl
theorem rdW_two {w a b : List UInt8} (h : spl 120 w = [a, b]) : rdW w = match rdB a with
    | some t => if h : rdR 1 144 b = true then some ⟨t, (valD b : Int), want_n h⟩ else none
    | none => none := by
  unfold rdW
  rw [h]
theorem rdW_none1 {w a b : List UInt8} (h : spl 120 w = [a, b]) (ha : rdB a = none) : rdW w = none := by
  rw [rdW_two h, ha]
theorem rdW_none2 {w a b : List UInt8} (h : spl 120 w = [a, b]) (hb : rdR 1 144 b = false) : rdW w = none := by
  rw [rdW_two h]
  cases rdB a with
  | none => rfl
  | some t => simp [hb]
theorem rdW_yes {w a b : List UInt8} {t : Bt} (h : spl 120 w = [a, b]) (ha : rdB a = some t) (hb : rdR 1 144 b = true) {x : Wt} (hx : x.b = t) (hn : x.n = (valD b : Int)) : rdW w = some x := by
  rw [rdW_two h, ha]
  simp only [hb, dif_pos]
  congr 1
  cases x
  simp only at hx hn
  subst hx hn
  rfl
/-- What the cut says of a word. -/
theorem rdW_cut {w : List UInt8} : (∃ x, rdW w = some x ∧ (cut w [120]).2.2 = true ∧ rdB (cut w [120]).1 = some x.b ∧ rdR 1 144 (cut w [120]).2.1 = true ∧ x.n = (valD (cut w [120]).2.1 : Int)) ∨
    (rdW w = none ∧ ((cut w [120]).2.2 && ((rdB (cut w [120]).1).isSome && rdR 1 144 (cut w [120]).2.1)) = false) := by
  by_cases h : (120 : UInt8) ∈ w
  · obtain ⟨a, b, rfl, ha⟩ := List.eq_append_cons_of_mem h
    rw [cut_app ha]
    cases hr : rdR 1 144 b with
    | false =>
      right
      refine ⟨?_, by simp [hr]⟩
      by_cases hb : (120 : UInt8) ∈ b
      · refine rdW_not2 ?_
        obtain ⟨b1, b2, rfl, hb1⟩ := List.eq_append_cons_of_mem hb
        rw [spl_app _ ha, spl_app _ hb1]
        cases hs : spl 120 b2 with
        | nil => exact absurd hs (spl_ne _ _)
        | cons p ps => simp
      · exact rdW_none2 (spl_two ha hb) hr
    | true =>
      have hb : (120 : UInt8) ∉ b := rdR_not hr (by decide)
      cases hB : rdB a with
      | none =>
        right
        exact ⟨rdW_none1 (spl_two ha hb) hB, by simp [hB]⟩
      | some t =>
        left
        exact ⟨⟨t, (valD b : Int), want_n hr⟩, rdW_yes (spl_two ha hb) hB hr rfl rfl, rfl, rfl, rfl, rfl⟩
  · right
    have hs : spl 120 w = [w] := spl_one h
    exact ⟨rdW_not2 (by rw [hs]; simp), by rw [cut_not h]; rfl⟩
/-! ### All words -/
/-- The wants of the words, as far as they read. -/
def wantsOf (ws : List (List UInt8)) : List Wt := ws.map fun w => (rdW w).getD zW
def allW (ws : List (List UInt8)) : Bool := ws.all fun w => (rdW w).isSome
/-- What an order's text reads as. -/
def roR (l : List UInt8) : List Wt × Int := if l = [] then ([], 0) else if (allW (spl 32 l) && ordOk (wantsOf (spl 32 l))) = true then (wantsOf (spl 32 l), 0) else ([], 5)
theorem roR_le (l : List UInt8) : (roR l).1.length ≤ 8 := by
  unfold roR
  split
  · simp
  · split
    · rename_i h
      rw [Bool.and_eq_true] at h
      have := h.2
      simp only [ordOk, Bool.and_eq_true, decide_eq_true_iff] at this
      exact this.2
    · simp
section
variable {l : List UInt8} (hl : l ≠ [])
include hl
theorem roR_bad {w : List UInt8} (hw : w ∈ spl 32 l) (h : rdW w = none) : roR l = ([], 5) := by
  unfold roR
  rw [if_neg hl, if_neg]
  rw [Bool.and_eq_true]
  rintro ⟨h1, _⟩
  have := List.all_eq_true.1 h1 w hw
  rw [h] at this
  cases this
theorem roR_inv (h : ordOk (wantsOf (spl 32 l)) = false) : roR l = ([], 5) := by
  unfold roR
  rw [if_neg hl, if_neg]
  rw [h, Bool.and_false]
  simp
theorem roR_ok (h1 : ∀ w ∈ spl 32 l, (rdW w).isSome = true) (h : ordOk (wantsOf (spl 32 l)) = true) : roR l = (wantsOf (spl 32 l), 0) := by
  unfold roR
  rw [if_neg hl, if_pos]
  rw [Bool.and_eq_true]
  exact ⟨List.all_eq_true.2 h1, h⟩
end
/-! ### The reference takes a number 0 first, and refuses the order then -/
theorem want_n0 {b : List UInt8} (h : ((numR b).2 && decide ((numR b).1 ≤ 144)) = true) : -32768 ≤ (numR b).1 ∧ (numR b).1 ≤ 32767 := by
  rw [Bool.and_eq_true, decide_eq_true_iff] at h
  have := numR_pos b
  omega
def rdW0 (w : List UInt8) : Option Wt := match spl 120 w with
  | [a, b] => match rdB a with
    | some t => if h : ((numR b).2 && decide ((numR b).1 ≤ 144)) = true then some ⟨t, (numR b).1, want_n0 h⟩ else none
    | none => none
  | _ => none
theorem rdW0_rel (w : List UInt8) : (∃ x, rdW0 w = some x ∧ rdW w = some x) ∨ (∃ x, rdW0 w = some x ∧ rdW w = none ∧ x.n = 0) ∨ (rdW0 w = none ∧ rdW w = none) := by
  unfold rdW0 rdW
  split
  · rename_i a b hs
    cases hB : rdB a with
    | none => exact .inr (.inr ⟨rfl, rfl⟩)
    | some t =>
      have hr := rdR_num (lo := 1) (hi := 144) (by omega) b
      have hp := numR_pos b
      simp only
      by_cases h0 : ((numR b).2 && decide ((numR b).1 ≤ 144)) = true
      · have h1 := h0
        rw [Bool.and_eq_true, decide_eq_true_iff] at h1
        by_cases h2 : (numR b).1 = 0
        · refine .inr (.inl ⟨⟨t, (numR b).1, want_n0 h0⟩, by rw [dif_pos h0], ?_, h2⟩)
          rw [dif_neg]
          rw [hr, h2]
          simp
        · have h3 : rdR 1 144 b = true := by
            rw [hr, h1.1, Bool.true_and, Bool.and_eq_true, decide_eq_true_iff, decide_eq_true_iff]
            omega
          have h4 : (valD b : Int) = (numR b).1 := by
            have hn : numR b = ((numR b).1, true) := Prod.ext rfl h1.1
            exact (numR_true hn).2.symm
          refine .inl ⟨⟨t, (numR b).1, want_n0 h0⟩, by rw [dif_pos h0], ?_⟩
          rw [dif_pos h3]
          congr 1
          simp only [h4]
      · have h3 : rdR 1 144 b = false := by
          rw [← Bool.not_eq_true]
          intro h3
          rw [hr, Bool.and_eq_true, Bool.and_eq_true, decide_eq_true_iff, decide_eq_true_iff] at h3
          apply h0
          rw [Bool.and_eq_true, decide_eq_true_iff]
          exact ⟨h3.1, h3.2.2⟩
        exact .inr (.inr ⟨by rw [dif_neg h0], by rw [dif_neg (by rw [h3]; simp)]⟩)
  · exact .inr (.inr ⟨rfl, rfl⟩)
theorem rdW0_not2 {w : List UInt8} (h : (spl 120 w).length ≠ 2) : rdW0 w = none := by
  unfold rdW0
  split
  · rename_i a b hs
    rw [hs] at h
    exact absurd rfl h
  · rfl
theorem rdW0_two {w a b : List UInt8} (h : spl 120 w = [a, b]) : rdW0 w = match rdB a with
    | some t => if h : ((numR b).2 && decide ((numR b).1 ≤ 144)) = true then some ⟨t, (numR b).1, want_n0 h⟩ else none
    | none => none := by
  unfold rdW0
  rw [h]
theorem rdW0_none1 {w a b : List UInt8} (h : spl 120 w = [a, b]) (ha : rdB a = none) : rdW0 w = none := by
  rw [rdW0_two h, ha]
theorem rdW0_none2 {w a b : List UInt8} (h : spl 120 w = [a, b]) (hb : ((numR b).2 && decide ((numR b).1 ≤ 144)) = false) : rdW0 w = none := by
  rw [rdW0_two h]
  cases rdB a with
  | none => rfl
  | some t => simp [hb]
theorem rdW0_yes {w a b : List UInt8} {t : Bt} (h : spl 120 w = [a, b]) (ha : rdB a = some t) (hb : ((numR b).2 && decide ((numR b).1 ≤ 144)) = true) {x : Wt} (hx : x.b = t) (hn : x.n = (numR b).1) : rdW0 w = some x := by
  rw [rdW0_two h, ha]
  simp only [hb, dif_pos]
  congr 1
  cases x
  simp only at hx hn
  subst hx hn
  rfl
def wantsOf0 (ws : List (List UInt8)) : List Wt := ws.map fun w => (rdW0 w).getD zW
theorem ordOk_n {l : List Wt} (h : ordOk l = true) {x : Wt} (hx : x ∈ l) : 1 ≤ x.n := by
  obtain ⟨i, hi, rfl⟩ := List.getElem_of_mem hx
  simp only [ordOk, Bool.and_eq_true, decide_eq_true_iff] at h
  have := (h.1 i hi).1
  rw [getB hi] at this
  simp only [Wt.ok, Bool.and_eq_true, decide_eq_true_iff] at this
  exact this.2.1
theorem wants0_same {ws : List (List UInt8)} (h : ordOk (wantsOf0 ws) = true) (hs : ∀ w ∈ ws, (rdW0 w).isSome = true) : wantsOf0 ws = wantsOf ws ∧ ∀ w ∈ ws, (rdW w).isSome = true := by
  have key : ∀ w ∈ ws, rdW0 w = rdW w := fun w hw => by
    rcases rdW0_rel w with ⟨x, h1, h2⟩ | ⟨x, h1, h2, h3⟩ | ⟨h1, h2⟩
    · rw [h1, h2]
    · exfalso
      have := ordOk_n h (List.mem_map.2 ⟨w, hw, by rw [h1]; rfl⟩ : x ∈ wantsOf0 ws)
      omega
    · rw [h1, h2]
  exact ⟨List.map_congr_left fun w hw => by rw [key w hw], fun w hw => by rw [← key w hw]; exact hs w hw⟩
section
variable {l : List UInt8} (hl : l ≠ [])
include hl
theorem roR_bad0 {w : List UInt8} (hw : w ∈ spl 32 l) (h : rdW0 w = none) : roR l = ([], 5) := by
  rcases rdW0_rel w with ⟨x, h1, _⟩ | ⟨x, h1, _⟩ | ⟨_, h2⟩
  · rw [h] at h1; cases h1
  · rw [h] at h1; cases h1
  · exact roR_bad hl hw h2
theorem roR_inv0 (hs : ∀ w ∈ spl 32 l, (rdW0 w).isSome = true) (h : ordOk (wantsOf0 (spl 32 l)) = false) : roR l = ([], 5) := by
  by_cases ha : ∀ w ∈ spl 32 l, (rdW w).isSome = true
  · refine roR_inv hl ?_
    have e : wantsOf (spl 32 l) = wantsOf0 (spl 32 l) := List.map_congr_left fun w hw => by
      rcases rdW0_rel w with ⟨x, h1, h2⟩ | ⟨x, h1, h2, _⟩ | ⟨h1, h2⟩
      · rw [h1, h2]
      · have := ha w hw
        rw [h2] at this
        cases this
      · rw [h1, h2]
    rw [e]
    exact h
  · obtain ⟨w, hw⟩ := Classical.not_forall.1 ha
    obtain ⟨hm, hw⟩ := Classical.not_imp.1 hw
    refine roR_bad hl hm ?_
    cases hr : rdW w with
    | none => rfl
    | some x => rw [hr] at hw; exact absurd rfl hw
theorem roR_ok0 (hs : ∀ w ∈ spl 32 l, (rdW0 w).isSome = true) (h : ordOk (wantsOf0 (spl 32 l)) = true) : roR l = (wantsOf0 (spl 32 l), 0) := by
  obtain ⟨h1, h2⟩ := wants0_same h hs
  rw [h1]
  exact roR_ok hl h2 (by rw [← h1]; exact h)
end
end Go.Proofs.YtbngpcghognojaaGreatDoor
