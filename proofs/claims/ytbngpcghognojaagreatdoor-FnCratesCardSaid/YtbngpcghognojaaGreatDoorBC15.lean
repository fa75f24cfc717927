/- Texts of the claim, joined (15 of 19): ReadT, ReadD, CutP, ReadB, CrT, RdC, Bound, Swap. -/
import Derived.Shelf.Strconv.ParseIntPublic10
import Derived.Lib.ParseIntBTie
import Derived.Shelf.Strings.Cut
import Derived.Shelf.Strings.Builder1
import Derived.Shelf.Strings.FieldsFuncAny
import Derived.Test.YtbngpcghognojaaGreatDoorBC1
import Derived.Test.YtbngpcghognojaaGreatDoorBC3
import Derived.Test.YtbngpcghognojaaGreatDoorBC4
import Derived.Test.YtbngpcghognojaaGreatDoorBC5
import Derived.Test.YtbngpcghognojaaGreatDoorBC6
import Derived.Test.YtbngpcghognojaaGreatDoorBC13
import Derived.Test.YtbngpcghognojaaGreatDoorBC14
namespace Go.Proofs.YtbngpcghognojaaGreatDoor
open Go Go.Sort Go.RowKit
set_option linter.unusedVariables false
set_option linter.unusedSimpArgs false
set_option maxRecDepth 100000
set_option maxHeartbeats 1000000
attribute [local go_sem] Oper.qB
theorem numR_none {l : List UInt8} (h : canon l = false ∨ 9 < l.length) : numR l = (0, false) := by
  unfold numR
  rw [if_neg]
  rw [Bool.and_eq_true, decide_eq_true_iff]
  rintro ⟨h1, h2⟩
  rcases h with h | h
  · rw [h] at h1
    cases h1
  · omega
theorem valF_lt : ∀ (l : List UInt8) (a : Nat), (∀ c ∈ l, isD c = true) → valF a l < (a + 1) * 10 ^ l.length
  | [], a, _ => by simp [valF]
  | c :: l, a, h => by
    have hc := isD_iff.1 (h c (List.mem_cons_self ..))
    have := valF_lt l (a * 10 + (c.toNat - 48)) (fun d hd => h d (List.mem_cons_of_mem _ hd))
    rw [valF_cons, List.length_cons, Nat.pow_succ]
    have h2 : (a * 10 + (c.toNat - 48) + 1) * 10 ^ l.length ≤ ((a + 1) * 10) * 10 ^ l.length := Nat.mul_le_mul_right _ (by omega)
    calc _ < _ := this
      _ ≤ _ := h2
      _ = _ := by rw [Nat.mul_assoc, Nat.mul_comm 10]
theorem size_text (l : List UInt8) : (⟨l.toArray⟩ : ByteArray).size = l.length := by show l.toArray.size = _; simp
theorem get_text (l : List UInt8) (i : Nat) (h : i < (⟨l.toArray⟩ : ByteArray).size) : (⟨l.toArray⟩ : ByteArray)[i] = l[i]! := by
  have hi : i < l.length := by rw [size_text] at h; exact h
  rw [getElem!_pos l i hi]
  show l.toArray[i] = _
  simp
theorem valD_step {l : List UInt8} {k : Nat} (hk : k < l.length) : valD (l.take (k + 1)) = valD (l.take k) * 10 + (l[k]!.toNat - 48) := by
  unfold valD
  rw [List.take_succ_eq_append_getElem hk, valF_snoc, getElem!_pos l k hk]
end Go.Proofs.YtbngpcghognojaaGreatDoor
namespace Go.Proofs.YtbngpcghognojaaGreatDoor
open Go Go.Sort Go.RowKit
set_option linter.unusedVariables false
set_option linter.unusedSimpArgs false
set_option maxRecDepth 100000
set_option maxHeartbeats 1000000
attribute [local go_sem] Oper.qB
/-- A variable holds an error or none. -/
def ErrV (w : World) (g : Nat) : Prop := ∃ ev : Value, w.cell? ⟨g, 0, none⟩ = some ev ∧ (ev = .nilIface ∨ ∃ te pe, ev = .iface te pe)
theorem ErrV.below {w w' : World} {g : Nat} (h : ErrV w g) (hb : Below w.heap.size w w') : ErrV w' g := by
  obtain ⟨ev, h1, h2⟩ := h
  exact ⟨ev, (hb.cell (World.block_lt_of_cell? _ _ h1)).trans h1, h2⟩
theorem below_bytes (w : World) (e : TypeId) (s : ByteArray) : Below w.heap.size w (Lib.bytesWorld w e s) :=
  ⟨rfl, rfl, rfl, by rw [Lib.bytesWorld_size]; omega, fun k hk => Lib.bytesWorld_at_old w e s k hk⟩
theorem readDecimal_any (l : List UInt8) (lo hi : Nat) (hh : hi < 1000000) (hl : l.length ≤ 1048576) (w : World) (ht : Tab w) (h2 : ErrV w (Tryz.lx117_ren.g 15)) (h3 : ErrV w (Tryz.lx117_ren.g 16)) :
    Calls Tryz.prog 65 #[.string ⟨l.toArray⟩, .int .i64 (lo : Int), .int .i64 (hi : Int)] w fun e w' => (∃ n : Int, e = .returned (.tuple #[.int .i64 n, .bool (rdR lo hi l)]) ∧ (rdR lo hi l = true → n = (valD l : Int))) ∧ Below w.heap.size w w' := by
  have hsz := size_text l
  have htl : (⟨l.toArray⟩ : ByteArray).data.toList = l := by simp
  have htl2 : (⟨l.toArray⟩ : ByteArray).toList = l := by simp
  have H := Below.refl w.heap.size w
  have hlo : ∀ v : Int, (decide ((lo : Int) ≤ v) && decide (v ≤ (hi : Int))) = true ↔ (lo : Int) ≤ v ∧ v ≤ (hi : Int) := fun v => by simp
  rcases hp : Lib.parseIntB 64 l with v | _ | _
  · obtain ⟨hv1, hv2⟩ := Lib.parseIntB_bounds hp
    have hv3 : -9223372036854775808 ≤ v := hv1
    have hv4 : v ≤ 9223372036854775807 := by have : v < 9223372036854775808 := hv2; omega
    have HR : Hid (rdR lo hi l = ((Lib.itoa v == l) && (decide ((lo : Int) ≤ v) && decide (v ≤ (hi : Int))))) := by
      rw [Hid, Bool.eq_iff_iff, rdR_iff (by omega), Bool.and_eq_true, hlo, beq_iff_eq]
      constructor
      · rintro ⟨u, h, h5⟩
        rw [hp] at h
        obtain rfl : v = u := by simpa using h
        exact ⟨h5.1, h5.2.1, h5.2.2⟩
      · rintro ⟨h, h5⟩
        exact ⟨v, hp, h, h5.1, h5.2⟩
    have HV : Hid (rdR lo hi l = true → v = (valD l : Int)) := fun h => by
      simp only [rdR, Bool.and_eq_true, decide_eq_true_iff] at h
      have := parse_ok h.1 (by omega)
      rw [hp] at this
      simpa using this
    have HP := Any.strconv_ParseInt_10_at64_ok Tryz.lx117 ⟨l.toArray⟩ (by rw [hsz]; omega) v (by rw [htl]; exact hp) w
    replace HP := Lib.hid (HP.mono (R' := fun e w' => e = .returned (.tuple #[.int .i64 v, .nilIface]) ∧ Below w.heap.size w w') (fun e w' ⟨he, hw⟩ => ⟨he, by
      rcases hw with rfl | ⟨t, rfl⟩
      · exact Below.refl _ _
      · exact below_bytes _ _ _⟩))
    have HD := Lib.hid (fun W hW => decimal_any v hv3 hv4 W hW)
    have hti : (⟨(Lib.itoa v).toArray⟩ : ByteArray).toList = Lib.itoa v := by simp
    have HI := Lib.hid (within_any v (lo : Int) (hi : Int))
    have HT := Lib.hid ht
    generalize (decide ((lo : Int) ≤ v) && decide (v ≤ (hi : Int))) = q at HR HI
    generalize (⟨(Lib.itoa v).toArray⟩ : ByteArray) = SI at HD hti
    generalize Lib.itoa v = li at HR hti
    generalize (⟨l.toArray⟩ : ByteArray) = S at HP hsz htl2 ⊢
    clear hlo hp hv1 hv2 hv3 hv4
    cases e1 : (li == l) with
    | false =>
      rw [e1] at HR
      go_enter Tryz.func65, Tryz.ntmps65
      go_wp2_with (first | (go_at_call 117; refine HP.out.mono ?_; rintro e w1 ⟨rfl, hb⟩; replace H := bstep H hb; clear hb) | (go_at_call 66; refine (HD.out _ (HT.out.below H)).mono ?_; rintro e w1 ⟨rfl, hb⟩; replace H := bstep H hb; clear hb))
      rw [HR.out]
      exact bodyPost_ret (results_tt rfl) rfl ⟨⟨_, rfl, fun h => by cases h⟩, H⟩
    | true =>
      rw [e1] at HR
      have HR2 : Hid (rdR lo hi l = q) := by rw [Hid, HR.out, Bool.true_and]
      go_enter Tryz.func65, Tryz.ntmps65
      go_wp2_with (first | (go_at_call 117; refine HP.out.mono ?_; rintro e w1 ⟨rfl, hb⟩; replace H := bstep H hb; clear hb) | (go_at_call 66; refine (HD.out _ (HT.out.below H)).mono ?_; rintro e w1 ⟨rfl, hb⟩; replace H := bstep H hb; clear hb) | (go_at_call 77; refine (HI.out _).mono ?_; rintro e w1 ⟨rfl, rfl⟩))
      rw [HR2.out]
      exact bodyPost_ret (results_tt rfl) rfl ⟨⟨_, rfl, fun h => HV.out (by rw [HR2.out]; exact h)⟩, H⟩
  · have HR : Hid (rdR lo hi l = false) := by
      rw [Hid, ← Bool.not_eq_true, rdR_iff (by omega)]
      rintro ⟨v, h, _⟩
      rw [hp] at h
      cases h
    obtain ⟨ev, hv, hev⟩ := h2
    have HP := Lib.hid (Any.strconv_ParseInt_10_at64_syntax Tryz.lx117 ⟨l.toArray⟩ (by rw [hsz]; omega) (by rw [htl]; exact hp) ev w hv hev)
    generalize (⟨l.toArray⟩ : ByteArray) = S at HP hsz htl2 ⊢
    go_enter Tryz.func65, Tryz.ntmps65
    go_wp2_with (go_at_call 117; refine HP.out.mono ?_; rintro e w1 ⟨N, rfl, hN, -, hb⟩; replace H := bstep H hb; clear hb)
    rw [HR.out]
    exact bodyPost_ret (results_tt rfl) rfl ⟨⟨_, rfl, fun h => by cases h⟩, H⟩
  · have HR : Hid (rdR lo hi l = false) := by
      rw [Hid, ← Bool.not_eq_true, rdR_iff (by omega)]
      rintro ⟨v, h, _⟩
      rw [hp] at h
      cases h
    obtain ⟨ev, hv, hev⟩ := h3
    have HP := Any.strconv_ParseInt_10_at64_range Tryz.lx117 ⟨l.toArray⟩ (by rw [hsz]; omega) (by rw [htl]; exact hp) ev w hv hev
    rw [htl] at HP
    generalize Lib.intSat 64 l = sat at HP
    replace HP := Lib.hid HP
    generalize (⟨l.toArray⟩ : ByteArray) = S at HP hsz htl2 ⊢
    go_enter Tryz.func65, Tryz.ntmps65
    go_wp2_with (go_at_call 117; refine HP.out.mono ?_; rintro e w1 ⟨N, rfl, hN, -, hb⟩; replace H := bstep H hb; clear hb)
    rw [HR.out]
    exact bodyPost_ret (results_tt rfl) rfl ⟨⟨_, rfl, fun h => by cases h⟩, H⟩
end Go.Proofs.YtbngpcghognojaaGreatDoor
namespace Go.Proofs.YtbngpcghognojaaGreatDoor
open Go Go.Lib
set_option linter.unusedVariables false
set_option linter.unusedSimpArgs false
theorem index_app {s : UInt8} : ∀ {a : List UInt8} (b : List UInt8), s ∉ a → index (a ++ s :: b) [s] = (a.length : Int)
  | [], b, _ => by simp [index]
  | c :: a, b, h => by
    have h1 : c ≠ s := fun e => h (by rw [e]; exact List.mem_cons_self ..)
    have ih := index_app (s := s) (a := a) b (fun q => h (List.mem_cons_of_mem _ q))
    have h2 : (s == c) = false := by simpa using Ne.symm h1
    have hp : [s].isPrefixOf (c :: (a ++ s :: b)) = false := by simp [List.isPrefixOf, h2]
    rw [List.cons_append, index, hp, ih]
    have h3 : ((a.length : Int) == -1) = false := by simp
    rw [h3]
    simp
theorem index_not {s : UInt8} : ∀ {a : List UInt8}, s ∉ a → index a [s] = -1
  | [], _ => rfl
  | c :: a, h => by
    have h1 : c ≠ s := fun e => h (by rw [e]; exact List.mem_cons_self ..)
    have ih := index_not (s := s) (a := a) (fun q => h (List.mem_cons_of_mem _ q))
    have h2 : (s == c) = false := by simpa using Ne.symm h1
    have hp : [s].isPrefixOf (c :: a) = false := by simp [List.isPrefixOf, h2]
    rw [index, hp, ih]
    rfl
theorem cut_app {s : UInt8} {a b : List UInt8} (h : s ∉ a) : cut (a ++ s :: b) [s] = (a, b, true) := by
  unfold cut
  rw [index_app b h, if_pos (by omega), Int.toNat_natCast]
  have e1 : (a ++ s :: b).take a.length = a := List.take_left
  have e2 : (a ++ s :: b).drop (a.length + [s].length) = b := by
    rw [List.drop_append, List.drop_eq_nil_of_le (by simp)]
    simp
  rw [e1, e2]
theorem cut_not {s : UInt8} {a : List UInt8} (h : s ∉ a) : cut a [s] = (a, [], false) := by
  unfold cut
  rw [index_not h, if_neg (by omega)]
theorem spl_two {s : UInt8} {a b : List UInt8} (h : s ∉ a) (h' : s ∉ b) : spl s (a ++ s :: b) = [a, b] := by rw [spl_app b h, spl_one h']
theorem rdR_not {lo hi : Nat} {l : List UInt8} {c : UInt8} (h : rdR lo hi l = true) (hc : isD c = false) : c ∉ l := by
  simp only [rdR, Bool.and_eq_true] at h
  exact notD (canon_iff.1 h.1).2.1 hc
/-- What the cut says of the bottle. -/
theorem rdB_cut {l : List UInt8} : (∃ b, rdB l = some b ∧ (cut l [58]).2.2 = true ∧ rdR 1 20 (cut l [58]).1 = true ∧ rdR 1900 2099 (cut l [58]).2.1 = true ∧ b.k = (valD (cut l [58]).1 : Int) ∧ b.y = (valD (cut l [58]).2.1 : Int)) ∨
    (rdB l = none ∧ ((cut l [58]).2.2 && (rdR 1 20 (cut l [58]).1 && rdR 1900 2099 (cut l [58]).2.1)) = false) := by
  by_cases h : (58 : UInt8) ∈ l
  · obtain ⟨a, b, rfl, ha⟩ := List.eq_append_cons_of_mem h
    rw [cut_app ha]
    cases hr : rdR 1 20 a && rdR 1900 2099 b with
    | true =>
      left
      have hr2 := hr
      rw [Bool.and_eq_true] at hr2
      have hb : (58 : UInt8) ∉ b := rdR_not hr2.2 (by decide)
      have hk : 0 ≤ (valD a : Int) ∧ (valD a : Int) ≤ 255 := by
        have := hr2.1
        simp only [rdR, Bool.and_eq_true, decide_eq_true_iff] at this
        omega
      have hy : -32768 ≤ (valD b : Int) ∧ (valD b : Int) ≤ 32767 := by
        have := hr2.2
        simp only [rdR, Bool.and_eq_true, decide_eq_true_iff] at this
        omega
      refine ⟨⟨(valD a : Int), (valD b : Int), hk, hy⟩, ?_, rfl, hr2.1, hr2.2, rfl, rfl⟩
      unfold rdB
      rw [spl_two ha hb]
      simp only [hr, dif_pos]
    | false =>
      right
      refine ⟨?_, rfl⟩
      by_cases hb : (58 : UInt8) ∈ b
      · obtain ⟨b1, b2, rfl, hb1⟩ := List.eq_append_cons_of_mem hb
        unfold rdB
        rw [spl_app _ ha, spl_app _ hb1]
        cases hs : spl 58 b2 with
        | nil => exact absurd hs (spl_ne _ _)
        | cons p ps => rfl
      · unfold rdB
        rw [spl_two ha hb]
        simp [hr]
  · right
    have hs : spl 58 l = [l] := spl_one h
    refine ⟨by unfold rdB; rw [hs], by rw [cut_not h]; rfl⟩
end Go.Proofs.YtbngpcghognojaaGreatDoor
namespace Go.Proofs.YtbngpcghognojaaGreatDoor
open Go Go.Sort Go.RowKit
set_option linter.unusedVariables false
set_option linter.unusedSimpArgs false
set_option maxRecDepth 100000
set_option maxHeartbeats 1000000
attribute [local go_sem] Oper.qB
theorem cut_len (l s : List UInt8) : (Lib.cut l s).1.length ≤ l.length ∧ (Lib.cut l s).2.1.length ≤ l.length := by
  unfold Lib.cut
  split
  · refine ⟨?_, ?_⟩
    · show (l.take _).length ≤ _
      rw [List.length_take]
      exact Nat.min_le_right _ _
    · show (l.drop _).length ≤ _
      rw [List.length_drop]
      exact Nat.sub_le _ _
  · exact ⟨Nat.le_refl _, Nat.zero_le _⟩
theorem wrap16_id {n : Int} (h : -32768 ≤ n ∧ n ≤ 32767) : IntKind.i16.wrap n = n := by
  simp [IntKind.wrap, IntKind.bits, IntKind.signed]
  split <;> omega
/-- What a bottle's text reads as. -/
def rbR (l : List UInt8) : Bt × Int := match rdB l with
  | some b => (b, 0)
  | none => (zB, 5)
theorem ReadBottle_any (l : List UInt8) (hl : l.length ≤ 1048576) (m : Int) (w : World) (ht : Tab w) (h2 : ErrV w (Tryz.lx117_ren.g 15)) (h3 : ErrV w (Tryz.lx117_ren.g 16)) (hm : w.cell? ⟨Tryz.lx64_ren.g 1, 0, none⟩ = some (.int .i64 m)) :
    Calls Tryz.prog 10 #[.string ⟨l.toArray⟩] w fun e w' => e = .returned (.tuple #[bv (rbR l).1, .int .i64 (rbR l).2]) ∧ Below w.heap.size w w' := by
  have hsz := size_text l
  have hs : (⟨l.toArray⟩ : ByteArray).size < 4294967281 := by omega
  have hd1 : (⟨l.toArray⟩ : ByteArray).data.toList = l := by simp
  have hd2 : (⟨#[58]⟩ : ByteArray).data.toList = [58] := rfl
  have hm2 := fun W (hW : Below w.heap.size w W) => (hW.cell (World.block_lt_of_cell? _ _ hm)).trans hm
  have HC := (fun W (hW : Below w.heap.size w W) => Any.strings_Cut Tryz.lx64 ⟨l.toArray⟩ ⟨#[58]⟩ m W hs (hm2 W hW))
  have hcl := cut_len l [58]
  have hcut := rdB_cut (l := l)
  rw [hd1, hd2] at HC
  generalize Lib.cut l [58] = z at HC hcl hcut
  obtain ⟨a, b, f⟩ := z
  replace HC := Lib.hid HC
  have HD1 : Hid (∀ W, Below w.heap.size w W → Calls Tryz.prog 65 #[.string ⟨a.toArray⟩, .int .i64 1, .int .i64 20] W fun e w' => (∃ n : Int, e = .returned (.tuple #[.int .i64 n, .bool (rdR 1 20 a)]) ∧ (rdR 1 20 a = true → n = (valD a : Int))) ∧ Below W.heap.size W w') := fun W hW => readDecimal_any a 1 20 (by omega) (by have := hcl; simp only at this; omega) W (ht.below hW) (h2.below hW) (h3.below hW)
  have HD2 : Hid (∀ W, Below w.heap.size w W → Calls Tryz.prog 65 #[.string ⟨b.toArray⟩, .int .i64 1900, .int .i64 2099] W fun e w' => (∃ n : Int, e = .returned (.tuple #[.int .i64 n, .bool (rdR 1900 2099 b)]) ∧ (rdR 1900 2099 b = true → n = (valD b : Int))) ∧ Below W.heap.size W w') := fun W hW => readDecimal_any b 1900 2099 (by omega) (by have := hcl; simp only at this; omega) W (ht.below hW) (h2.below hW) (h3.below hW)
  simp only at HC hcut
  go_enter Tryz.func10, Tryz.ntmps10
  go_upto_region 1 with fail
  generalize hW : World.alloc _ _ = W
  have H0 : Below w.heap.size w W := by rw [← hW]; go_grown
  have r0 : rowOf W (w.heap.size) = some (#[.int .u8 0, .int .i16 0]) := (by (try rw [← hW]); simp only [rowOf_alloc, World.size_alloc, ↓reduceIte]; all_goals ((repeat' split) <;> first | omega | (exfalso; omega) | rfl))
  clear hW
  have l0 : w.heap.size ≤ w.heap.size := Nat.le_refl _
  generalize h0 : w.heap.size = g0 at r0 ⊢
  replace l0 : w.heap.size ≤ g0 := Nat.le_of_eq h0
  clear h0
  have b0 := rowOf_lt r0
  have H := Below.refl W.heap.size W
  go_upto_region 4 with (first | (go_at_call 64; go_loud (refine (HC.out _ (bstep H0 H)).mono ?_; rintro e w1 ⟨rfl, q, rfl⟩; replace H := bdrewN H q)) | (go_at_call 65; with_reducible refine (HD1.out _ (bstep H0 H)).mono ?_; rintro e w1 ⟨⟨n1, rfl, hn1⟩, hb⟩; replace H := bstep H hb; clear hb) | (go_at_call 65; with_reducible refine (HD2.out _ (bstep H0 H)).mono ?_; rintro e w1 ⟨⟨n2, rfl, hn2⟩, hb⟩; replace H := bstep H hb; clear hb))
  clear HD1 HD2 HC hcl hm2
  generalize rdR 1 20 a = q1 at hn1 hcut ⊢
  generalize rdR 1900 2099 b = q2 at hn2 hcut ⊢
  rcases hcut with ⟨b0, hb, rfl, rfl, rfl, hk, hy⟩ | ⟨hb, hf⟩
  · obtain rfl : n1 = b0.k := (hn1 rfl).trans hk.symm
    obtain rfl : n2 = b0.y := (hn2 rfl).trans hy.symm
    have HF := Lib.hid (show rbR l = (b0, 0) by unfold rbR; rw [hb])
    have wk : IntKind.u8.wrap b0.k = b0.k := by rw [IntKind.wrap_u8]; have := b0.hk; omega
    have wy : IntKind.i16.wrap b0.y = b0.y := wrap16_id b0.hy
    clear hn1 hn2 hk hy hb
    go_wp2_with ((with_reducible refine wp_store_rowOf rfl rfl _ _ _ rfl _ rfl #[.int .u8 b0.k, .int .i16 b0.y] rfl #[.int .u8 0, .int .i16 0] (row_kept r0 H) rfl (infoB _ _) (bv_one _ _) ?_))
    rw [HF.out]
    exact bodyPost_ret (results_ct rfl rfl (loadVar_rowOf #[.int .u8 b0.k, .int .i16 b0.y] (by rw [rowOf_setRow, if_pos rfl, row_kept r0 H]; rfl) _ Tryz.underlying26 rfl (infoB _ _))) rfl ⟨rfl, bsetRow (bstep H0 H) (by omega) _⟩
  · have HF := Lib.hid (show rbR l = (zB, 5) by unfold rbR; rw [hb])
    clear hn1 hn2 hb
    replace hf := Lib.hid hf
    cases f with
    | false =>
      go_wp2_with ((with_reducible refine wp_store_rowOf rfl rfl _ _ _ rfl _ rfl #[.int .u8 0, .int .i16 0] rfl #[.int .u8 0, .int .i16 0] (row_kept r0 H) rfl (infoB _ _) (bv_one _ _) ?_))
      rw [HF.out]
      exact bodyPost_ret (results_ct rfl rfl (loadVar_rowOf #[.int .u8 0, .int .i16 0] (by rw [rowOf_setRow, if_pos rfl, row_kept r0 H]; rfl) _ Tryz.underlying26 rfl (infoB _ _))) rfl ⟨rfl, bsetRow (bstep H0 H) (by omega) _⟩
    | true =>
      cases q1 with
      | false =>
        go_wp2_with ((with_reducible refine wp_store_rowOf rfl rfl _ _ _ rfl _ rfl #[.int .u8 0, .int .i16 0] rfl #[.int .u8 0, .int .i16 0] (row_kept r0 H) rfl (infoB _ _) (bv_one _ _) ?_))
        rw [HF.out]
        exact bodyPost_ret (results_ct rfl rfl (loadVar_rowOf #[.int .u8 0, .int .i16 0] (by rw [rowOf_setRow, if_pos rfl, row_kept r0 H]; rfl) _ Tryz.underlying26 rfl (infoB _ _))) rfl ⟨rfl, bsetRow (bstep H0 H) (by omega) _⟩
      | true =>
        obtain rfl : q2 = false := by cases q2 with | false => rfl | true => exact absurd hf.out (by decide)
        go_wp2_with ((with_reducible refine wp_store_rowOf rfl rfl _ _ _ rfl _ rfl #[.int .u8 0, .int .i16 0] rfl #[.int .u8 0, .int .i16 0] (row_kept r0 H) rfl (infoB _ _) (bv_one _ _) ?_))
        rw [HF.out]
        exact bodyPost_ret (results_ct rfl rfl (loadVar_rowOf #[.int .u8 0, .int .i16 0] (by rw [rowOf_setRow, if_pos rfl, row_kept r0 H]; rfl) _ Tryz.underlying26 rfl (infoB _ _))) rfl ⟨rfl, bsetRow (bstep H0 H) (by omega) _⟩
end Go.Proofs.YtbngpcghognojaaGreatDoor
namespace Go.Proofs.YtbngpcghognojaaGreatDoor
open Go Go.Sort Go.RowKit
set_option linter.unusedVariables false
set_option linter.unusedSimpArgs false
set_option maxRecDepth 100000
set_option maxHeartbeats 1000000
attribute [local go_sem] Oper.qB
theorem botT_len {b : Bt} (h : b.ok = true) : (botT b).length ≤ 3000 := by
  simp only [Bt.ok, decide_eq_true_iff] at h
  have h1 := dec_short b.k.toNat
  have h2 := dec_short b.y.toNat
  unfold botT
  rw [List.length_append, List.length_cons]
  omega
theorem wordT_len {b : Bt} (h : b.fine = true) : (wordT b).length ≤ 3000 := by
  unfold wordT
  split
  · simp
  · rename_i he
    unfold Bt.fine at h
    rw [Bool.or_eq_true] at h
    exact botT_len (h.resolve_left he)
theorem crK_len {c : Cr} (h : c.ok = true) : ∀ k, k ≤ 12 → (crK c k).length ≤ 3001 * k
  | 0, _ => by simp [crK]
  | k + 1, hk => by
    have ih := crK_len h k (by omega)
    have := wordT_len (ok_at.1 h k (by omega))
    rw [crK_succ, List.length_append, List.length_append, List.length_singleton]
    omega
theorem em_nok {b : Bt} (h : b.em = true) : b.ok = false := by
  rw [Bt.em_iff] at h
  subst h
  decide
theorem bxWS : Builder.Extra Tryz.prog Tryz.lx61_ren := { sizeBuilder := by kernel_rfl, liesBuilder := by kernel_rfl, t5 := Tryz.underlying5, a5 := Tryz.isAgg5, z5 := Tryz.sizeOf5, v5 := Tryz.zeroValue5, infoByte := by kernel_rfl, cellsByte := by kernel_rfl, sizeByte := by kernel_rfl, neB5 := by decide }
theorem bxWB : Builder.Extra Tryz.prog Tryz.lx62_ren := { sizeBuilder := by kernel_rfl, liesBuilder := by kernel_rfl, t5 := Tryz.underlying5, a5 := Tryz.isAgg5, z5 := Tryz.sizeOf5, v5 := Tryz.zeroValue5, infoByte := by kernel_rfl, cellsByte := by kernel_rfl, sizeByte := by kernel_rfl, neB5 := by decide }
theorem bxSt : Builder.Extra Tryz.prog Tryz.lx63_ren := { sizeBuilder := by kernel_rfl, liesBuilder := by kernel_rfl, t5 := Tryz.underlying5, a5 := Tryz.isAgg5, z5 := Tryz.sizeOf5, v5 := Tryz.zeroValue5, infoByte := by kernel_rfl, cellsByte := by kernel_rfl, sizeByte := by kernel_rfl, neB5 := by decide }
/-- A builder in block b that holds these bytes. -/
def Bld (b : Nat) (l : List UInt8) (w : World) : Prop := Lib.IsBuilder 95 5 b b (Lib.byteCells l) w
theorem Bld.lt {b : Nat} {l : List UInt8} {w : World} (h : Bld b l w) : b < w.heap.size := by
  rcases h with h | h
  · exact h.lt
  · exact h.lt
theorem Bld.kept {b : Nat} {l : List UInt8} {w w' : World} (h : Bld b l w) (hb : Below w.heap.size w w') : Bld b l w' := by
  have key : ∀ p, Lib.BuilderAt 95 5 b b p (Lib.byteCells l) w → Lib.BuilderAt 95 5 b b p (Lib.byteCells l) w' := fun p h => by
    have hlt := h.lt
    obtain ⟨h1, v, h2, h3, h4⟩ := h
    exact ⟨h1, v, by rw [hb.block b hlt]; exact h2, own_kept h3 hb, h4⟩
  exact h.imp (key _) (key _)
theorem Bld.fresh (w : World) : Bld w.heap.size [] (w.alloc (.cells #[.pointer none, .slice none 0 0] 95)) := Lib.fresh_isBuilder _ _ _
theorem WriteString_any (b : Nat) (l s : List UInt8) (w : World) (h : Bld b l w) (hl : l.length ≤ 1000000) (hs : s.length ≤ 1000000) :
    Calls Tryz.prog 61 #[.pointer (some ⟨b, 0, none⟩), .string ⟨s.toArray⟩] w fun e w' => e = .returned (.tuple #[.int .i64 (s.length : Int), .nilIface]) ∧ Bld b (l ++ s) w' ∧ Below b w w' := by
  have hsz := size_text s
  refine (Any.Builder_WriteString Tryz.lx61 bxWS b b (Lib.byteCells l) ⟨s.toArray⟩ w h (by rw [Lib.byteCells_length, hsz]; omega) (Nat.le_of_lt h.lt)).mono ?_
  rintro e w' ⟨rfl, h1, h2⟩
  refine ⟨by rw [hsz], .inr ?_, h2⟩
  rw [Lib.byteCells_append]
  exact h1
theorem WriteByte_any (b : Nat) (l : List UInt8) (c : UInt8) (w : World) (h : Bld b l w) (hl : l.length ≤ 1000000) :
    Calls Tryz.prog 62 #[.pointer (some ⟨b, 0, none⟩), .int .u8 (c.toNat : Int)] w fun e w' => e = .returned .nilIface ∧ Bld b (l ++ [c]) w' ∧ Below b w w' := by
  refine (Any.Builder_WriteByte Tryz.lx62 bxWB b b (Lib.byteCells l) (c.toNat : Int) w h (by rw [Lib.byteCells_length]; omega) (Nat.le_of_lt h.lt)).mono ?_
  rintro e w' ⟨rfl, h1, h2⟩
  refine ⟨rfl, .inr ?_, h2⟩
  rw [Lib.byteCells_append]
  exact h1
theorem BString_any (b : Nat) (l : List UInt8) (w : World) (h : Bld b l w) :
    Calls Tryz.prog 63 #[.pointer (some ⟨b, 0, none⟩)] w fun e w' => e = .returned (.string ⟨l.toArray⟩) ∧ Below b w w' :=
  Any.Builder_String_any Tryz.lx63 bxSt b b l w h (Nat.le_of_lt h.lt)
theorem CrateText_any (c : Cr) (w : World) (ht : Tab w) : Calls Tryz.prog 9 #[cv c] w fun e w' => e = .returned (.string ⟨(if c.ok = true then crT c else []).toArray⟩) ∧ Below w.heap.size w w' := by
  have HT := Lib.hid ht
  have HV := Lib.hid (fun W => ValidCrate_any c W)
  generalize hT : (if c.ok = true then crT c else []) = t
  go_enter Tryz.func9, Tryz.ntmps9
  go_upto_region 1 with fail
  generalize hW : World.alloc _ _ = W
  have H0 : Below w.heap.size w W := by rw [← hW]; go_grown
  have r0 : rowOf W (w.heap.size) = some ((cc c).toArray) := (by (try rw [← hW]); simp only [rowOf_alloc, World.size_alloc, ↓reduceIte]; all_goals ((repeat' split) <;> first | omega | (exfalso; omega) | rfl))
  clear hW
  have l0 : w.heap.size ≤ w.heap.size := Nat.le_refl _
  generalize h0 : w.heap.size = g0 at r0 ⊢
  replace l0 : w.heap.size ≤ g0 := Nat.le_of_eq h0
  clear h0
  have b0 := rowOf_lt r0
  have H := Below.refl W.heap.size W
  cases e1 : c.ok with
  | false =>
    have e2 := Lib.hid e1
    obtain rfl : t = [] := by rw [← hT, e1]; rfl
    clear hT e1
    go_wp2_with (first | ((with_reducible refine wp_load_rowBg H ?_ _ _ rfl _ rfl _ r0 _ Tryz.underlying28 rfl (infoC c) ?_); rfl) | (go_at_call 18; refine (HV.out _).mono ?_; rintro e w' ⟨rfl, hb⟩; rw [e2.out]; replace H := bstep H hb; clear hb))
    go_ret
    exact ⟨rfl, bstep H0 H⟩
  | true =>
    have e2 := Lib.hid e1
    obtain rfl : t = crT c := by rw [← hT, e1]; rfl
    have HOK := Lib.hid (ok_at.1 e1)
    have HLN := Lib.hid (crK_len e1)
    clear hT e1
    go_upto_region 3 with (first | ((with_reducible refine wp_load_rowBg H ?_ _ _ rfl _ rfl _ r0 _ Tryz.underlying28 rfl (infoC c) ?_); rfl) | (go_at_call 18; refine (HV.out _).mono ?_; rintro e w' ⟨rfl, hb⟩; rw [e2.out]; replace H := bstep H hb; clear hb))
    have hI := Bld.fresh w'
    have hA : Below W.heap.size W (w'.alloc (.cells #[.pointer none, .slice none 0 0] 95)) := H.alloc H.size _
    have hgb : w.heap.size ≤ w'.heap.size := (bstep H0 H).size
    go_upto_region 4 with fail
    generalize w'.alloc (.cells #[.pointer none, .slice none 0 0] 95) = Wb at hI hA ⊢
    replace H := hA
    clear hA
    generalize w'.heap.size = gb at hI hgb ⊢
    replace hI := Lib.hid hI
    go_wp2_with ((with_reducible refine wp_load_rowBg H ?_ _ _ rfl _ rfl _ r0 _ Tryz.underlying28 rfl (infoC c) ?_); rfl)
    replace H0 := bstep H0 H
    clear H r0 b0 l0
    go_loopw [13] (fun i wr => ∃ k : Nat, k ≤ 12 ∧ i = .int .i64 k ∧ Hid (Bld gb (crK c k) wr) ∧ Below gb Wb wr) (fun i _ => 12 - (intOf i).toNat)
    case atStart => exact ⟨0, by omega, rfl, hI.out, Below.refl _ _⟩
    case round =>
      obtain ⟨k, hk, rfl, HB, hb⟩ := hrel
      have HTr := Lib.hid (HT.out.below (H0.trans (hb.mono hgb)))
      have hgl := HB.out.lt
      by_cases hlt : k < 12
      · have hE := run_indexC c k hlt
        have hK := crK_succ c k
        have hfine := HOK.out k hlt
        have hlen := HLN.out k hk
        have hwl := wordT_len hfine
        generalize rB c.toList k = b at hE hK hfine hwl
        replace hK := Lib.hid hK
        have htm : (k : Int).tmod 4 = (k : Int) % 4 := Int.tmod_eq_emod_of_nonneg (by omega)
        have hwm : IntKind.i64.wrap ((k : Int) % 4) = (k : Int) % 4 := by rw [IntKind.wrap_i64]; omega
        go_upto_region 7 with (((with_reducible refine wp_store_rowOf rfl rfl _ _ _ rfl _ rfl (#[.int .u8 b.k, .int .i16 b.y] : Array Value) rfl #[.int .u8 0, .int .i16 0] ?hr rfl (infoB _ _) (bv_one _ _) ?_); (case hr => rw [rowOf_alloc, if_pos rfl])))
        generalize hW1 : World.setRow _ _ _ = W1
        obtain ⟨HB1, r1, b1⟩ := laid_row (Below.refl wr.heap.size wr) hW1
        clear hW1
        have HBl1 := Lib.hid (HB.out.kept HB1)
        have HT1 := Lib.hid (HTr.out.below HB1)
        have hb1 := hb.trans (HB1.mono (Nat.le_of_lt hgl))
        have hgl1 : gb ≤ W1.heap.size := Nat.le_of_lt HBl1.out.lt
        clear HB1 hE
        generalize wr.heap.size = g1 at *
        have H := Below.refl W1.heap.size W1
        have htx := fun W hW => BottleText_any b W hW
        generalize hS : (if b.ok = true then botT b else []) = sT at htx
        cases e3 : b.em with
        | true =>
          obtain rfl : sT = [] := by rw [← hS, em_nok e3]; rfl
          have hWT : Hid (wordT b = [45]) := if_pos e3
          replace htx := Lib.hid htx
          clear hS e3 hwl hfine
          go_upto_region 10 with (first | ((with_reducible refine wp_load_rowBg H ?_ _ _ rfl _ rfl _ r1 _ Tryz.underlying26 rfl (infoB _ _) ?_); rfl) | (go_at_call 11; go_loud (refine (htx.out _ (HT1.out.below H)).mono ?_; rintro e w2 ⟨rfl, hb2⟩; replace H := bstep H hb2; clear hb2)))
          cases hm : decide (k % 4 = 3) with
          | true =>
            have hm1 := of_decide_eq_true hm
            have hm2 : (k : Int) % 4 = 3 := by omega
            have hE2 : Hid (endT k = 10) := if_pos hm1
            clear hm hm1
            go_wp2_with (first | (go_at_call 61; go_loud (refine (WriteString_any gb (crK c k) [45] _ (HBl1.out.kept H) (by omega) (by first | omega | (simp; try omega))).mono ?_; rintro e w4 ⟨rfl, h4, hb4⟩)) | (go_at_call 62; go_loud (refine (WriteByte_any gb (crK c k ++ [45]) 10 _ h4 (by simp; omega)).mono ?_; rintro e w5 ⟨rfl, h5, hb5⟩)))
            go_roundw
            case rel => exact ⟨k + 1, by omega, by go_num, by rw [hK.out, hWT.out, hE2.out, ← List.append_assoc]; exact h5, (((hb1.trans (H.mono hgl1)).trans hb4).trans hb5)⟩
            case measure => simp [intOf]; omega
          | false =>
            have hm1 := of_decide_eq_false hm
            have hm2 : ¬ (k : Int) % 4 = 3 := by omega
            have hE2 : Hid (endT k = 32) := if_neg hm1
            clear hm hm1
            go_wp2_with (first | (go_at_call 61; go_loud (refine (WriteString_any gb (crK c k) [45] _ (HBl1.out.kept H) (by omega) (by first | omega | (simp; try omega))).mono ?_; rintro e w4 ⟨rfl, h4, hb4⟩)) | (go_at_call 62; go_loud (refine (WriteByte_any gb (crK c k ++ [45]) 32 _ h4 (by simp; omega)).mono ?_; rintro e w5 ⟨rfl, h5, hb5⟩)))
            go_roundw
            case rel => exact ⟨k + 1, by omega, by go_num, by rw [hK.out, hWT.out, hE2.out, ← List.append_assoc]; exact h5, (((hb1.trans (H.mono hgl1)).trans hb4).trans hb5)⟩
            case measure => simp [intOf]; omega
        | false =>
          have hok : b.ok = true := by
            unfold Bt.fine at hfine
            rw [e3, Bool.false_or] at hfine
            exact hfine
          obtain rfl : sT = botT b := by rw [← hS, if_pos hok]
          have hWT : Hid (wordT b = botT b) := if_neg (by rw [e3]; simp)
          have hlb := botT_len hok
          have hne : (botT b == []) = false := by
            rw [← Bool.not_eq_true, beq_iff_eq]
            exact botT_ne b
          replace htx := Lib.hid htx
          clear hS e3 hwl hfine hok
          generalize botT b = sT at htx hWT hlb hne
          have htl : (⟨sT.toArray⟩ : ByteArray).toList = sT := by simp
          go_upto_region 10 with (first | ((with_reducible refine wp_load_rowBg H ?_ _ _ rfl _ rfl _ r1 _ Tryz.underlying26 rfl (infoB _ _) ?_); rfl) | (go_at_call 11; go_loud (refine (htx.out _ (HT1.out.below H)).mono ?_; rintro e w2 ⟨rfl, hb2⟩; replace H := bstep H hb2; clear hb2)))
          cases hm : decide (k % 4 = 3) with
          | true =>
            have hm1 := of_decide_eq_true hm
            have hm2 : (k : Int) % 4 = 3 := by omega
            have hE2 : Hid (endT k = 10) := if_pos hm1
            clear hm hm1
            go_wp2_with (first | (go_at_call 61; go_loud (refine (WriteString_any gb (crK c k) sT _ (HBl1.out.kept H) (by omega) (by first | omega | (simp; try omega))).mono ?_; rintro e w4 ⟨rfl, h4, hb4⟩)) | (go_at_call 62; go_loud (refine (WriteByte_any gb (crK c k ++ sT) 10 _ h4 (by simp; omega)).mono ?_; rintro e w5 ⟨rfl, h5, hb5⟩)))
            go_roundw
            case rel => exact ⟨k + 1, by omega, by go_num, by rw [hK.out, hWT.out, hE2.out, ← List.append_assoc]; exact h5, (((hb1.trans (H.mono hgl1)).trans hb4).trans hb5)⟩
            case measure => simp [intOf]; omega
          | false =>
            have hm1 := of_decide_eq_false hm
            have hm2 : ¬ (k : Int) % 4 = 3 := by omega
            have hE2 : Hid (endT k = 32) := if_neg hm1
            clear hm hm1
            go_wp2_with (first | (go_at_call 61; go_loud (refine (WriteString_any gb (crK c k) sT _ (HBl1.out.kept H) (by omega) (by first | omega | (simp; try omega))).mono ?_; rintro e w4 ⟨rfl, h4, hb4⟩)) | (go_at_call 62; go_loud (refine (WriteByte_any gb (crK c k ++ sT) 32 _ h4 (by simp; omega)).mono ?_; rintro e w5 ⟨rfl, h5, hb5⟩)))
            go_roundw
            case rel => exact ⟨k + 1, by omega, by go_num, by rw [hK.out, hWT.out, hE2.out, ← List.append_assoc]; exact h5, (((hb1.trans (H.mono hgl1)).trans hb4).trans hb5)⟩
            case measure => simp [intOf]; omega
      · obtain rfl : k = 12 := by omega
        go_wp2_with (go_at_call 63; refine (BString_any gb (crK c 12) _ HB.out).mono ?_; rintro e w2 ⟨rfl, hb2⟩)
        go_ret
        exact ⟨rfl, H0.trans ((hb.trans hb2).mono hgb)⟩
end Go.Proofs.YtbngpcghognojaaGreatDoor
namespace Go.Proofs.YtbngpcghognojaaGreatDoor
open Go Go.Sort Go.RowKit
set_option linter.unusedVariables false
set_option linter.unusedSimpArgs false
set_option maxRecDepth 100000
set_option maxHeartbeats 1000000
attribute [local go_sem] Oper.qB
theorem eq_int (x k : Nat) : ((x : Int) == (k : Int)) = (x == k) := by
  rw [Bool.eq_iff_iff, beq_iff_eq, beq_iff_eq]
  omega
/-- The test of the fields: a space, or a line's end. -/
theorem ReadCrate1_any (x : Nat) (w : World) : Calls Tryz.prog 60 #[.int .i32 (x : Int)] w fun e w' => e = .returned (.bool (isSL x)) ∧ w' = w := by
  by_cases h1 : x = 32
  · have HF : Hid (isSL x = true) := by subst h1; rfl
    have h2 : (x : Int) = 32 := by omega
    replace h1 := Lib.hid h1
    go_enter Tryz.func60, Tryz.ntmps60
    go_wp2
    go_ret
    exact ⟨by rw [HF.out]; rfl, rfl⟩
  · by_cases h3 : x = 10
    · have HF : Hid (isSL x = true) := by subst h3; rfl
      have h2 : ¬ (x : Int) = 32 := by omega
      have h4 : (x : Int) = 10 := by omega
      replace h1 := Lib.hid h1
      replace h3 := Lib.hid h3
      go_enter Tryz.func60, Tryz.ntmps60
      go_wp2
      go_ret
      exact ⟨by rw [HF.out]; rfl, rfl⟩
    · have HF : Hid (isSL x = false) := by show isSL x = false; simp [isSL, h1, h3]
      have h2 : ¬ (x : Int) = 32 := by omega
      have h4 : ¬ (x : Int) = 10 := by omega
      replace h1 := Lib.hid h1
      replace h3 := Lib.hid h3
      go_enter Tryz.func60, Tryz.ntmps60
      go_wp2
      go_ret
      exact ⟨by rw [HF.out]; exact congrArg (fun b => Ending.returned (.bool b)) (show ((x : Int) == 32 || (x : Int) == 10) = false by simp [h2, h4]), rfl⟩
theorem Fields_any (s : ByteArray) (w : World) (hs : s.size ≤ 1048576) :
    Calls Tryz.prog 59 #[.string s, .func (.func 60) #[] #[]] w fun e w' => ∃ A, e = .returned (.slice (some ⟨A, 0, none⟩) (Lib.goFieldsP isSL s).length (Lib.goFieldsP isSL s).length) ∧ CAt w' A 0 ((Lib.goFieldsP isSL s).map Value.string) ∧ (w.heap.size ≤ A ∧ A < w'.heap.size) ∧ Below w.heap.size w w' := by
  refine (Any.strings_FieldsFunc_runes Tryz.lx59 60 #[] (enters_of Tryz.func60 (by kernel_rfl) rfl) isSL s w (by omega) (fun W x _ _ => (ReadCrate1_any x W).mono fun e w' ⟨he, hw⟩ => ⟨he, 0, hw⟩) (by kernel_rfl) (by kernel_rfl)).mono ?_
  rintro e w' ⟨A, rfl, hA, hown, hb⟩
  exact ⟨A, rfl, own_cells hown, ⟨hA, own_lt hown A rfl⟩, hb⟩
theorem ReadCrate_any (l : List UInt8) (hl : l.length ≤ 1048576) (m : Int) (w : World) (ht : Tab w) (h2 : ErrV w (Tryz.lx117_ren.g 15)) (h3 : ErrV w (Tryz.lx117_ren.g 16)) (hm : w.cell? ⟨Tryz.lx64_ren.g 1, 0, none⟩ = some (.int .i64 m)) :
    Calls Tryz.prog 8 #[.string ⟨l.toArray⟩] w fun e w' => e = .returned (.tuple #[cv (rcR l).1, .int .i64 (rcR l).2]) ∧ Below w.heap.size w w' := by
  have hsz := size_text l
  have hm2 := fun W (hW : Below w.heap.size w W) => (hW.cell (World.block_lt_of_cell? _ _ hm)).trans hm
  have HRB := Lib.hid (fun (x : List UInt8) (hx : x.length ≤ 1048576) W (hW : Below w.heap.size w W) => ReadBottle_any x hx m W (ht.below hW) (h2.below hW) (h3.below hW) (hm2 W hW))
  have HFF := fun W => Fields_any ⟨l.toArray⟩ W (by omega)
  have HCT := Lib.hid (fun c W (hW : Below w.heap.size w W) => CrateText_any c W (ht.below hW))
  obtain ⟨ds, hds⟩ : ∃ ds, ds = Lib.goFieldsP isSL ⟨l.toArray⟩ := ⟨_, rfl⟩
  obtain ⟨ws, hws⟩ : ∃ ws, ws = ds.map (·.data.toList) := ⟨_, rfl⟩
  have hfw : (Lib.goFieldsP isSL ⟨l.toArray⟩).map (·.data.toList) = ws := by rw [← hds, hws]
  have hlen : ds.length = ws.length := by rw [hws]; simp
  have hdsz : ∀ x ∈ ds, x.size ≤ 1048576 := fun x hx => by
    rw [hds] at hx
    have := field_size hx
    omega
  simp only [← hds] at HFF
  replace HFF := Lib.hid HFF
  replace hfw := Lib.hid hfw
  replace hds := Lib.hid hds
  replace hws := Lib.hid hws
  replace hlen := Lib.hid hlen
  clear ht h2 h3 hm hm2
  have htl : (⟨l.toArray⟩ : ByteArray).toList = l := by simp
  generalize (⟨l.toArray⟩ : ByteArray) = S at hsz HFF htl ⊢
  go_enter Tryz.func8, Tryz.ntmps8
  go_upto_region 1 with fail
  generalize hW : World.alloc _ _ = W
  have H0 : Below w.heap.size w W := by rw [← hW]; go_grown
  have r0 : rowOf W (w.heap.size) = some ((cc zC).toArray) := (by (try rw [← hW]); simp only [rowOf_alloc, World.size_alloc, ↓reduceIte]; all_goals ((repeat' split) <;> first | omega | (exfalso; omega) | rfl))
  clear hW
  have l0 : w.heap.size ≤ w.heap.size := Nat.le_refl _
  generalize h0 : w.heap.size = g0 at r0 ⊢
  replace l0 : w.heap.size ≤ g0 := Nat.le_of_eq h0
  clear h0
  have b0 := rowOf_lt r0
  have H := Below.refl W.heap.size W
  go_upto_region 2 with ((with_reducible refine wp_store_rowOf rfl rfl _ _ _ rfl _ rfl (cc zC).toArray rfl (cc zC).toArray ?hr (cc_size2 _ _) (infoC _) (cc_one _) ?_); (case hr => rw [rowOf_alloc, if_pos rfl]; rfl))
  generalize hW1 : World.setRow _ _ _ = W1
  obtain ⟨HB, r1, b1⟩ := laid_row H hW1
  clear hW1
  have qr01 := Nat.lt_of_lt_of_le (rowOf_lt r0) H.size
  replace r0 := row_kept r0 HB
  replace H0 := bstep H0 HB
  replace H := below_self HB
  generalize W.heap.size = g1 at *
  by_cases h12 : ws.length = 12
  · have hd12 : ds.length = 12 := hlen.out.trans h12
    replace h12 := Lib.hid h12
    go_upto_region 5 with (go_at_call 59; go_loud (refine (HFF.out _).mono ?_; rintro e w1 ⟨ga, rfl, hC, hga, hb⟩; rw [hd12]; replace H := bstep H hb; clear hb))
    have R0 := Lib.hid (row_kept r0 H)
    have R1 := Lib.hid (row_kept r1 H)
    replace H0 := bstep H0 H
    have hg0 : w.heap.size ≤ g0 := by omega
    have hg1 : w.heap.size ≤ g1 := by omega
    have hA0 : ga ≠ g0 := by omega
    have hA1 : ga ≠ g1 := by omega
    have hgA := hga.2
    replace hC := Lib.hid hC
    clear H r0 r1 HB hga b1
    go_wp2
    go_loopw [19] (fun i wr => ∃ k : Nat, k ≤ 12 ∧ i = .int .i64 k ∧ Hid (rowOf wr g0 = some (cc zC).toArray) ∧ Hid (rowOf wr g1 = some (cc (rcK ws k)).toArray) ∧ Hid (CAt wr ga 0 (ds.map Value.string)) ∧ Hid (∀ j, j < k → (rdWord (ws.getD j [])).isSome = true) ∧ ga < wr.heap.size ∧ Below w.heap.size w wr) (fun i _ => 12 - (intOf i).toNat)
    case atStart => exact ⟨0, by omega, rfl, R0.out, (by rw [rcK_zero]; exact R1.out), hC.out, fun j hj => absurd hj (Nat.not_lt_zero _), hgA, H0⟩
    case round =>
      clear R0 R1 hC H0 hgA
      obtain ⟨k, hk, rfl, R0, R1, HC, HS, hgA, H0⟩ := hrel
      by_cases hlt : k < 12
      · obtain ⟨wd, hwd⟩ : ∃ wd, wd = ws.getD k [] := ⟨_, rfl⟩
        have hkd : k < ds.length := by omega
        have hdk : ds[k].data.toList = wd := by
          rw [hwd, hws.out, List.getD_eq_getElem?_getD, List.getElem?_map, List.getElem?_eq_getElem hkd]
          rfl
        have hdT : ds[k] = ⟨wd.toArray⟩ := by rw [← hdk, Lib.mk_data]
        have hwl : wd.length ≤ 1048576 := by
          have := hdsz _ (List.getElem_mem hkd)
          rw [hdT, size_text] at this
          exact this
        have x0 : wr.cell? ⟨ga, k, none⟩ = some (.string ⟨wd.toArray⟩) := by
          have := HC.out k (.string ds[k]) (by rw [List.getElem?_map, List.getElem?_eq_getElem hkd]; rfl)
          rw [Nat.zero_add, hdT] at this
          exact this
        have HX := HRB.out wd hwl
        have htw : (⟨wd.toArray⟩ : ByteArray).toList = wd := by simp
        clear hkd hdk hdT hwl
        generalize (⟨wd.toArray⟩ : ByteArray) = T at x0 HX htw
        replace hwd := Lib.hid hwd
        have HS2 : Hid ((rdWord wd).isSome = true → ∀ j, j < k + 1 → (rdWord (ws.getD j [])).isSome = true) := fun h j hj => by
          rcases Nat.lt_or_ge j k with q | q
          · exact HS.out j q
          · obtain rfl : j = k := by omega
            rw [← hwd.out]
            exact h
        cases hd : (wd == [45]) with
        | true =>
          have hd2 : wd = [45] := by simpa using hd
          have hz : wsB ws k = zB := by
            unfold wsB
            rw [← hwd.out, hd2]
            rfl
          have HS3 := Lib.hid (HS2.out (by rw [hd2]; rfl))
          have HK := Lib.hid (rcK_keep ws hlt hz)
          replace hd2 := Lib.hid hd2
          clear HX hz
          go_wp2
          go_roundw
          case rel => exact ⟨k + 1, by omega, by go_num, R0.out, by rw [← HK.out]; exact R1.out, HC.out, HS3.out, hgA, H0⟩
          case measure => simp [intOf]; omega
        | false =>
          have hd2 : rdWord wd = rdB wd := if_neg (by intro e; rw [e] at hd; simp at hd)
          replace HX := HX wr H0
          have H := Below.refl wr.heap.size wr
          have r0 := R0.out
          have r1 := R1.out
          cases hb : rdB wd with
          | none =>
            have hrb : rbR wd = (zB, 5) := by unfold rbR; rw [hb]
            have HF := Lib.hid (rc_bad hfw.out hlt (by rw [← hwd.out, hd2, hb]))
            rw [hrb] at HX
            replace HX := Lib.hid HX
            clear hrb hd2 hb HS2
            go_upto_region 10 with (first | (go_at_call 10; go_loud (refine HX.out.mono ?_; rintro e w2 ⟨rfl, hb⟩; replace H := bstep H hb; clear hb)) | ((with_reducible refine wp_store_rowOf rfl rfl _ _ _ rfl _ rfl (#[.int .u8 0, .int .i16 0] : Array Value) rfl #[.int .u8 0, .int .i16 0] ?hr rfl (infoB _ _) (bv_one _ _) ?_); (case hr => rw [rowOf_alloc, if_pos rfl])))
            generalize hW2 : World.setRow _ _ _ = W2
            obtain ⟨HB, r2, b2⟩ := laid_row H hW2
            clear hW2
            have qr02 := Nat.lt_of_lt_of_le (rowOf_lt r0) H.size
            replace r0 := row_kept r0 HB
            replace H0 := bstep H0 HB
            replace H := below_self HB
            generalize w2.heap.size = g2 at *
            go_wp2_with (with_reducible refine wp_store_zeroB H rfl rfl _ _ rfl _ rfl rfl _ r0 ?_)
            rw [HF.out]
            refine bodyPost_ret (results_ct rfl rfl (loadVar_rowOf (cc zC).toArray (by rw [rowOf_setRow, if_pos rfl, row_kept r0 H]; rfl) _ Tryz.underlying28 rfl (infoC _))) rfl ⟨rfl, bsetRow (bstep H0 H) hg0 _⟩
          | some b =>
            have hrb : rbR wd = (b, 0) := by unfold rbR; rw [hb]
            have HS3 := Lib.hid (HS2.out (by rw [hd2, hb]; rfl))
            have hz : wsB ws k = b := by
              unfold wsB
              rw [← hwd.out, hd2, hb]
              rfl
            have HK := rcK_set ws hlt
            rw [hz] at HK
            replace HK := Lib.hid HK
            rw [hrb] at HX
            replace HX := Lib.hid HX
            clear hrb hd2 hb HS2 hz
            go_upto_region 10 with (first | (go_at_call 10; go_loud (refine HX.out.mono ?_; rintro e w2 ⟨rfl, hb⟩; replace H := bstep H hb; clear hb)) | ((with_reducible refine wp_store_rowOf rfl rfl _ _ _ rfl _ rfl (#[.int .u8 b.k, .int .i16 b.y] : Array Value) rfl #[.int .u8 0, .int .i16 0] ?hr rfl (infoB _ _) (bv_one _ _) ?_); (case hr => rw [rowOf_alloc, if_pos rfl])))
            have hg1w := rowOf_lt r1
            generalize hW2 : World.setRow _ _ _ = W2
            obtain ⟨HB, r2, b2⟩ := laid_row H hW2
            clear hW2
            have qr02 := Nat.lt_of_lt_of_le (rowOf_lt r0) H.size
            replace r0 := row_kept r0 HB
            have qr12 := Nat.lt_of_lt_of_le (rowOf_lt r1) H.size
            replace r1 := row_kept r1 HB
            replace H0 := bstep H0 HB
            replace H := below_self HB
            generalize w2.heap.size = g2 at *
            have HC2 := Lib.hid (HC.out.below HB hgA)
            have hgA2 := Nat.lt_of_lt_of_le hgA HB.size
            have hkl : k < (rcK ws k).toList.length := by rw [Vector.length_toList]; exact hlt
            have f0 := rowOf_frozen r1 (k * 2)
            have f1 := rowOf_frozen r1 (k * 2 + 1)
            have y0 := row0 r1 hkl
            have y1 := row1 r1 hkl
            generalize rB (rcK ws k).toList k = b' at y0 y1
            go_wp2_with ((with_reducible refine wp_load_rowBg H ?_ _ _ rfl _ rfl _ r2 _ Tryz.underlying26 rfl (infoB _ _) ?_); rfl)
            go_roundw
            case rel =>
              refine ⟨k + 1, by omega, by go_num, ?_, ?_, ?_, HS3.out, ?_, ?_⟩
              · rw [Hid, row_far (by omega), row_far (by omega)]
                exact r0
              · have := row_put b r1 hkl
                rw [HK.out] at this
                exact this
              · intro i v hv
                rw [cell_far hA1, cell_far hA1]
                exact HC2.out i v hv
              · simpa using hgA2
              · exact (H0.setCell hg1 _).setCell hg1 _
            case measure => simp [intOf]; omega
      · obtain rfl : k = 12 := by omega
        have hfine := rc_fine HS.out
        have HX := HCT.out (crOf (wsB ws)) wr H0
        rw [if_pos hfine] at HX
        rw [rcK_full ws] at R1
        have hsame := rc_same (l := l) HS.out
        have hother := rc_other hfw.out
        have r0 := R0.out
        have r1 := R1.out
        have H := Below.refl wr.heap.size wr
        clear R0 R1 HC HS hfine
        generalize crOf (wsB ws) = X at HX hsame hother r1
        have htX : (⟨(crT X).toArray⟩ : ByteArray).toList = crT X := by simp
        cases he : (crT X == l) with
        | true =>
          have HF := Lib.hid (hsame (by simpa using he))
          clear hsame hother
          generalize crT X = tx at HX htX he
          generalize (⟨tx.toArray⟩ : ByteArray) = T at HX htX
          replace HX := Lib.hid HX
          go_wp2_with (first | ((with_reducible refine wp_load_rowBg H ?_ _ _ rfl _ rfl _ r1 _ Tryz.underlying28 rfl (infoC X) ?_); rfl) | (go_at_call 9; go_loud (refine HX.out.mono ?_; rintro e w2 ⟨rfl, hb⟩; replace H := bstep H hb; clear hb)) | (with_reducible refine wp_store_rowB H rfl rfl _ _ _ rfl _ rfl _ rfl _ r0 (cc_size2 _ _) (infoC _) (cc_one _) ?_))
          rw [HF.out]
          refine bodyPost_ret (results_ct rfl rfl (loadVar_rowOf (cc X).toArray (by rw [rowOf_setRow, if_pos rfl, rowOf_below H (rowOf_lt r0), r0]; rfl) _ Tryz.underlying28 rfl (infoC _))) rfl ⟨rfl, bsetRow (bstep H0 H) (by omega) _⟩
        | false =>
          have HF := Lib.hid (hother (by intro e; rw [e] at he; simp at he))
          clear hsame hother
          generalize crT X = tx at HX htX he
          generalize (⟨tx.toArray⟩ : ByteArray) = T at HX htX
          replace HX := Lib.hid HX
          go_wp2_with (first | ((with_reducible refine wp_load_rowBg H ?_ _ _ rfl _ rfl _ r1 _ Tryz.underlying28 rfl (infoC X) ?_); rfl) | (go_at_call 9; go_loud (refine HX.out.mono ?_; rintro e w2 ⟨rfl, hb⟩; replace H := bstep H hb; clear hb)) | (with_reducible refine wp_store_zeroB H rfl rfl _ _ rfl _ rfl rfl _ r0 ?_))
          rw [HF.out]
          refine bodyPost_ret (results_ct rfl rfl (loadVar_rowOf (cc zC).toArray (by rw [rowOf_setRow, if_pos rfl, rowOf_below H (rowOf_lt r0), r0]; rfl) _ Tryz.underlying28 rfl (infoC _))) rfl ⟨rfl, bsetRow (bstep H0 H) (by omega) _⟩
  · have hd12 : ¬ (ds.length : Int) = 12 := by have := hlen.out; omega
    have HF := Lib.hid (rc_len hfw.out h12)
    replace h12 := Lib.hid h12
    go_wp2_with (first | (go_at_call 59; go_loud (refine (HFF.out _).mono ?_; rintro e w1 ⟨ga, rfl, hC, hga, hb⟩; replace H := bstep H hb; clear hb)) | (with_reducible refine wp_store_zeroB H rfl rfl _ _ rfl _ rfl rfl _ r0 ?_))
    rw [HF.out]
    refine bodyPost_ret (results_ct rfl rfl (loadVar_rowOf (cc zC).toArray (by rw [rowOf_setRow, if_pos rfl, rowOf_below H (rowOf_lt r0), r0]; rfl) _ Tryz.underlying28 rfl (infoC _))) rfl ⟨rfl, bsetRow (bstep H0 H) (by omega) _⟩
end Go.Proofs.YtbngpcghognojaaGreatDoor
namespace Go.Proofs.YtbngpcghognojaaGreatDoor
open Go.RowKit
set_option linter.unusedVariables false
set_option linter.unusedSimpArgs false
set_option maxRecDepth 100000
set_option maxHeartbeats 1000000
attribute [local go_sem] Oper.qB
def fewR (lc : List Cr) (l : List Wt) : List Int × Int := if fillI lc l = 0 then ((fewS lc l).1, 0) else ([], fillI lc l)
def bndK (lc : List Cr) (l : List Wt) : Nat → Int
  | 0 => 0
  | k + 1 => max (bndK lc l k) ((fewS lc [l[k]!]).1.length : Int)
def boundR (lc : List Cr) (l : List Wt) : Int × Int := if fillI lc l = 0 then (bndK lc l l.length, 0) else (0, fillI lc l)
theorem fewS_le (lc : List Cr) (l : List Wt) : (fewS lc l).1.length ≤ lc.length := fewS_good.le
theorem fewR_le (lc : List Cr) (l : List Wt) : (fewR lc l).1.length ≤ 12 := by
  unfold fewR
  split
  · rename_i h
    rcases fillI_cases lc l with ⟨_, h1, h2⟩ | e | e
    · have := fewS_le lc l
      have := (ask_le h1).1
      show (fewS lc l).1.length ≤ 12
      omega
    · rw [e] at h; cases h
    · rw [e] at h; cases h
  · simp
theorem lack_one {f : Bt → Nat} {l : List Wt} (h : lackL f l = []) {x : Wt} (hx : x ∈ l) : lackL f [x] = [] := by
  unfold lackL at *
  rw [List.flatMap_eq_nil_iff] at h
  simp [h x hx]
theorem bndK_le (lc : List Cr) (l : List Wt) : ∀ k, 0 ≤ bndK lc l k ∧ bndK lc l k ≤ lc.length
  | 0 => by simp [bndK]
  | k + 1 => by
    have := bndK_le lc l k
    have := fewS_le lc [l[k]!]
    rw [bndK]
    omega
theorem l00Max_any (a b : Int) (w : World) : Calls Tryz.prog 148 #[.int .i64 a, .int .i64 b] w fun e w' => e = .returned (.int .i64 (max a b)) ∧ w = w' := by
  rcases (by omega : b < a ∨ a ≤ b) with h | h
  · have HF := Lib.hid (show max a b = a by omega)
    go_enter Tryz.func148, Tryz.ntmps148
    go_wp2
    go_ret
    exact ⟨by rw [HF.out]; rfl, rfl⟩
  · have HF := Lib.hid (show max a b = b by omega)
    have h2 : ¬ b < a := by omega
    go_enter Tryz.func148, Tryz.ntmps148
    go_wp2
    go_ret
    exact ⟨by rw [HF.out]; rfl, rfl⟩
end Go.Proofs.YtbngpcghognojaaGreatDoor
namespace Go.Proofs.YtbngpcghognojaaGreatDoor
open Go.RowKit
set_option linter.unusedVariables false
set_option linter.unusedSimpArgs false
set_option maxRecDepth 100000
set_option maxHeartbeats 1000000
attribute [local go_sem] Oper.qB
def isP (n : Int) : Bool := decide (0 ≤ n) && decide (n ≤ 11)
def Sw.ok (s : Sw) : Bool := isP s.f && isP s.t
/-- A crate with what is in two places exchanged. -/
def swapC (c : Cr) (i j : Nat) : Cr := setC (setC c i (rB c.toList j)) j (rB c.toList i)
def swC (c : Cr) (s : Sw) : Cr := swapC c s.f.toNat s.t.toNat
def swapR (c : Cr) (s : Sw) : Cr × Int := if c.ok = false then (zC, 1) else if s.ok = false then (zC, 2) else (swC c s, 0)
section
variable {P : Program} {ops : Array Oper} {rest : List Oper} {o : Oper} {a : Act} {w : World} {Q : Exit → Act → World → Prop}
theorem run_store_place (w : World) (g i : Nat) (ty : TypeId) (b : Bt) (l : List Bt) (hr : rowOf w g = some (bcs l).toArray) (hl : i < l.length) (hi : (P.info? ty).map (·.size) = some (#[Value.int .u8 b.k, Value.int .i16 b.y] : Array Value).size) :
    (storeVar ty ⟨g, i * 2, none⟩ (.agg #[.int .u8 b.k, .int .i16 b.y])).run P w = .ok () (w.setRow g (bcs (l.set i b)).toArray) := by
  have hz : i * 2 + (#[Value.int .u8 b.k, Value.int .i16 b.y] : Array Value).size ≤ (bcs l).toArray.size := by
    show i * 2 + 2 ≤ _
    rw [List.size_toArray, bcs_length]
    omega
  have hs := run_storeVar_row (P := P) w g (i * 2) ty _ hi _ hr hz (bv_one _ _)
  have e : ((bcs l).toArray.toList.take (i * 2) ++ (#[Value.int .u8 b.k, Value.int .i16 b.y] : Array Value).toList ++ (bcs l).toArray.toList.drop (i * 2 + (#[Value.int .u8 b.k, Value.int .i16 b.y] : Array Value).size)) = bcs (l.set i b) := by
    show (bcs l).take (i * 2) ++ [Value.int .u8 b.k, Value.int .i16 b.y] ++ (bcs l).drop (i * 2 + 2) = _
    rw [List.set_eq_take_append_cons_drop, if_pos hl, bcs_append, bcs_take, show i * 2 + 2 = (i + 1) * 2 by omega, ← bcs_drop]
    simp [bcs]
  rw [e] at hs
  exact hs
/-- A bottle stored into a place of a crate. -/
theorem wp_store_place (hgd : o.guard = none) (hdst : o.dst = none) (ty : TypeId) (x y : Operand) (ho : o.op = .store ty x y) (g i : Nat) (hx : a.eval x = .pointer (some ⟨g, i * 2, none⟩)) (b : Bt) (hy : a.eval y = .agg #[.int .u8 b.k, .int .i16 b.y])
    (l : List Bt) (hr : rowOf w g = some (bcs l).toArray) (hl : i < l.length) (hi : (P.info? ty).map (·.size) = some (#[Value.int .u8 b.k, Value.int .i16 b.y] : Array Value).size)
    (h : wpList P ops Q rest a (w.setRow g (bcs (l.set i b)).toArray)) : wpList P ops Q (o :: rest) a w :=
  wpList_plain hgd fun K hK => by
    have hs := run_store_place (P := P) w g i ty b l hr hl hi
    unfold Oper.wp execOp
    simp only [ho, hx, hy, Instr.storeAt, Instr.sureAddr, Sem.run_bind, Sem.run_pure, Result.andThen_ok, hs]
    show K (a.put o.dst undef) _
    rw [hdst]
    exact hK _ _ h
end
theorem wp_store_place0 {P : Program} {ops : Array Oper} {rest : List Oper} {o : Oper} {a : Act} {w : World} {Q : Exit → Act → World → Prop} (hgd : o.guard = none) (hdst : o.dst = none) (ty : TypeId) (x y : Operand) (ho : o.op = .store ty x y) (g i : Nat) (hx : a.eval x = .pointer (some ⟨g, i * 2, none⟩)) (hy : a.eval y = .agg #[.int .u8 0, .int .i16 0])
    (l : List Bt) (hr : rowOf w g = some (bcs l).toArray) (hl : i < l.length) (hi : (P.info? ty).map (·.size) = some (#[Value.int .u8 0, Value.int .i16 0] : Array Value).size)
    (h : wpList P ops Q rest a (w.setRow g (bcs (l.set i zB)).toArray)) : wpList P ops Q (o :: rest) a w :=
  wp_store_place hgd hdst ty x y ho g i hx zB hy l hr hl hi h
theorem Goes.place {P : Program} {o : Oper} {a : Act} {w : World} {k : Act → Prop} (hdst : o.dst = none) (ty : TypeId) (x y : Operand) (ho : o.op = .store ty x y) (g i : Nat) (hx : a.eval x = .pointer (some ⟨g, i * 2, none⟩)) (b : Bt) (hy : a.eval y = .agg #[.int .u8 b.k, .int .i16 b.y])
    (l : List Bt) (hr : rowOf w g = some (bcs l).toArray) (hl : i < l.length) (hi : (P.info? ty).map (·.size) = some (#[Value.int .u8 b.k, Value.int .i16 b.y] : Array Value).size) (h : k a) : Goes P o a w (w.setRow g (bcs (l.set i b)).toArray) k := by
  have hs := run_store_place (P := P) w g i ty b l hr hl hi
  unfold Goes execOp
  simp only [ho, hx, hy, Instr.storeAt, Instr.sureAddr, Sem.run_bind, Sem.run_pure, Result.andThen_ok, hs]
  rw [hdst]
  exact ⟨trivial, h⟩
theorem Goes.place0 {P : Program} {o : Oper} {a : Act} {w : World} {k : Act → Prop} (hdst : o.dst = none) (ty : TypeId) (x y : Operand) (ho : o.op = .store ty x y) (g i : Nat) (hx : a.eval x = .pointer (some ⟨g, i * 2, none⟩)) (hy : a.eval y = .agg #[.int .u8 0, .int .i16 0])
    (l : List Bt) (hr : rowOf w g = some (bcs l).toArray) (hl : i < l.length) (hi : (P.info? ty).map (·.size) = some (#[Value.int .u8 0, Value.int .i16 0] : Array Value).size) (h : k a) : Goes P o a w (w.setRow g (bcs (l.set i zB)).toArray) k :=
  Goes.place hdst ty x y ho g i hx zB hy l hr hl hi h
theorem row_swap {w : World} {g : Nat} {l : List Bt} {i j : Nat} {x y : Bt} (h : rowOf w g = some (bcs l).toArray) : rowOf ((w.setRow g (bcs (l.set i x)).toArray).setRow g (bcs ((l.set i x).set j y)).toArray) g = some (bcs ((l.set i x).set j y)).toArray := by
  rw [rowOf_setRow, if_pos rfl, rowOf_setRow, if_pos rfl, h]
  rfl
theorem ok_places {s : Sw} (h : s.ok = true) : ∃ i j : Nat, s.f = i ∧ s.t = j ∧ i < 12 ∧ j < 12 := by
  simp [Sw.ok, isP] at h
  exact ⟨s.f.toNat, s.t.toNat, by omega, by omega, by omega, by omega⟩
end Go.Proofs.YtbngpcghognojaaGreatDoor
