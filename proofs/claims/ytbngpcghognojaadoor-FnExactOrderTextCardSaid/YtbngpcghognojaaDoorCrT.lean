/- Contracts of the texts of crates: the program's. -/
import Derived.Test.YtbngpcghognojaaDoorCrTP
import Derived.Test.YtbngpcghognojaaDoorFunc
import Derived.Test.YtbngpcghognojaaDoorReadT
import Derived.Test.YtbngpcghognojaaDoorList
import Derived.Shelf.Strings.Builder1
namespace Go.Proofs.YtbngpcghognojaaDoor
open Go Go.Sort Go.RowKit
set_option linter.unusedVariables false
set_option linter.unusedSimpArgs false
set_option maxRecDepth 100000
set_option maxHeartbeats 1000000
attribute [local go_sem] Oper.qB
theorem botT_len {b : Bt} (h : b.ok = true) : (botT b).length ≤ 3000 := by
  simp only [Bt.ok, decide_eq_true_iff] at h
  have h1 := dec_short b.k.toNat
  have h2 := dec_short b.y.toNat
  unfold botT
  rw [List.length_append, List.length_cons]
  omega
theorem wordT_len {b : Bt} (h : b.fine = true) : (wordT b).length ≤ 3000 := by
  unfold wordT
  split
  · simp
  · rename_i he
    unfold Bt.fine at h
    rw [Bool.or_eq_true] at h
    exact botT_len (h.resolve_left he)
theorem crK_len {c : Cr} (h : c.ok = true) : ∀ k, k ≤ 12 → (crK c k).length ≤ 3001 * k
  | 0, _ => by simp [crK]
  | k + 1, hk => by
    have ih := crK_len h k (by omega)
    have := wordT_len (ok_at.1 h k (by omega))
    rw [crK_succ, List.length_append, List.length_append, List.length_singleton]
    omega
theorem em_nok {b : Bt} (h : b.em = true) : b.ok = false := by
  rw [Bt.em_iff] at h
  subst h
  decide
theorem bxWS : Builder.Extra Tryd.prog Tryd.lx37_ren := { sizeBuilder := by kernel_rfl, liesBuilder := by kernel_rfl, t5 := Tryd.underlying5, a5 := Tryd.isAgg5, z5 := Tryd.sizeOf5, v5 := Tryd.zeroValue5, infoByte := by kernel_rfl, cellsByte := by kernel_rfl, sizeByte := by kernel_rfl, neB5 := by decide }
theorem bxWB : Builder.Extra Tryd.prog Tryd.lx38_ren := { sizeBuilder := by kernel_rfl, liesBuilder := by kernel_rfl, t5 := Tryd.underlying5, a5 := Tryd.isAgg5, z5 := Tryd.sizeOf5, v5 := Tryd.zeroValue5, infoByte := by kernel_rfl, cellsByte := by kernel_rfl, sizeByte := by kernel_rfl, neB5 := by decide }
theorem bxSt : Builder.Extra Tryd.prog Tryd.lx39_ren := { sizeBuilder := by kernel_rfl, liesBuilder := by kernel_rfl, t5 := Tryd.underlying5, a5 := Tryd.isAgg5, z5 := Tryd.sizeOf5, v5 := Tryd.zeroValue5, infoByte := by kernel_rfl, cellsByte := by kernel_rfl, sizeByte := by kernel_rfl, neB5 := by decide }
/-- A builder in block b that holds these bytes. -/
def Bld (b : Nat) (l : List UInt8) (w : World) : Prop := Lib.IsBuilder 61 5 b b (Lib.byteCells l) w
theorem Bld.lt {b : Nat} {l : List UInt8} {w : World} (h : Bld b l w) : b < w.heap.size := by
  rcases h with h | h
  · exact h.lt
  · exact h.lt
theorem Bld.kept {b : Nat} {l : List UInt8} {w w' : World} (h : Bld b l w) (hb : Below w.heap.size w w') : Bld b l w' := by
  have key : ∀ p, Lib.BuilderAt 61 5 b b p (Lib.byteCells l) w → Lib.BuilderAt 61 5 b b p (Lib.byteCells l) w' := fun p h => by
    have hlt := h.lt
    obtain ⟨h1, v, h2, h3, h4⟩ := h
    exact ⟨h1, v, by rw [hb.block b hlt]; exact h2, own_kept h3 hb, h4⟩
  exact h.imp (key _) (key _)
theorem Bld.fresh (w : World) : Bld w.heap.size [] (w.alloc (.cells #[.pointer none, .slice none 0 0] 61)) := Lib.fresh_isBuilder _ _ _
theorem WriteString_any (b : Nat) (l s : List UInt8) (w : World) (h : Bld b l w) (hl : l.length ≤ 1000000) (hs : s.length ≤ 1000000) :
    Calls Tryd.prog 37 #[.pointer (some ⟨b, 0, none⟩), .string ⟨s.toArray⟩] w fun e w' => e = .returned (.tuple #[.int .i64 (s.length : Int), .nilIface]) ∧ Bld b (l ++ s) w' ∧ Below b w w' := by
  have hsz := size_text s
  refine (Any.Builder_WriteString Tryd.lx37 bxWS b b (Lib.byteCells l) ⟨s.toArray⟩ w h (by rw [Lib.byteCells_length, hsz]; omega) (Nat.le_of_lt h.lt)).mono ?_
  rintro e w' ⟨rfl, h1, h2⟩
  refine ⟨by rw [hsz], .inr ?_, h2⟩
  rw [Lib.byteCells_append]
  exact h1
theorem WriteByte_any (b : Nat) (l : List UInt8) (c : UInt8) (w : World) (h : Bld b l w) (hl : l.length ≤ 1000000) :
    Calls Tryd.prog 38 #[.pointer (some ⟨b, 0, none⟩), .int .u8 (c.toNat : Int)] w fun e w' => e = .returned .nilIface ∧ Bld b (l ++ [c]) w' ∧ Below b w w' := by
  refine (Any.Builder_WriteByte Tryd.lx38 bxWB b b (Lib.byteCells l) (c.toNat : Int) w h (by rw [Lib.byteCells_length]; omega) (Nat.le_of_lt h.lt)).mono ?_
  rintro e w' ⟨rfl, h1, h2⟩
  refine ⟨rfl, .inr ?_, h2⟩
  rw [Lib.byteCells_append]
  exact h1
theorem BString_any (b : Nat) (l : List UInt8) (w : World) (h : Bld b l w) :
    Calls Tryd.prog 39 #[.pointer (some ⟨b, 0, none⟩)] w fun e w' => e = .returned (.string ⟨l.toArray⟩) ∧ Below b w w' :=
  Any.Builder_String_any Tryd.lx39 bxSt b b l w h (Nat.le_of_lt h.lt)
theorem CrateText_any (c : Cr) (w : World) (ht : Tab w) : Calls Tryd.prog 14 #[cv c] w fun e w' => e = .returned (.string ⟨(if c.ok = true then crT c else []).toArray⟩) ∧ Below w.heap.size w w' := by
  have HT := Lib.hid ht
  have HV := Lib.hid (fun W => ValidCrate_any c W)
  generalize hT : (if c.ok = true then crT c else []) = t
  go_enter Tryd.func14, Tryd.ntmps14
  go_upto_region 1 with fail
  generalize hW : World.alloc _ _ = W
  have H0 : Below w.heap.size w W := by rw [← hW]; go_grown
  have r0 : rowOf W (w.heap.size) = some ((cc c).toArray) := (by (try rw [← hW]); simp only [rowOf_alloc, World.size_alloc, ↓reduceIte]; all_goals ((repeat' split) <;> first | omega | (exfalso; omega) | rfl))
  clear hW
  have l0 : w.heap.size ≤ w.heap.size := Nat.le_refl _
  generalize h0 : w.heap.size = g0 at r0 ⊢
  replace l0 : w.heap.size ≤ g0 := Nat.le_of_eq h0
  clear h0
  have b0 := rowOf_lt r0
  have H := Below.refl W.heap.size W
  cases e1 : c.ok with
  | false =>
    have e2 := Lib.hid e1
    obtain rfl : t = [] := by rw [← hT, e1]; rfl
    clear hT e1
    go_wp2_with (first | ((with_reducible refine wp_load_rowBg H ?_ _ _ rfl _ rfl _ r0 _ Tryd.underlying32 rfl (infoC c) ?_); rfl) | (go_at_call 36; refine (HV.out _).mono ?_; rintro e w' ⟨rfl, hb⟩; rw [e2.out]; replace H := bstep H hb; clear hb))
    go_ret
    exact ⟨rfl, bstep H0 H⟩
  | true =>
    have e2 := Lib.hid e1
    obtain rfl : t = crT c := by rw [← hT, e1]; rfl
    have HOK := Lib.hid (ok_at.1 e1)
    have HLN := Lib.hid (crK_len e1)
    clear hT e1
    go_upto_region 3 with (first | ((with_reducible refine wp_load_rowBg H ?_ _ _ rfl _ rfl _ r0 _ Tryd.underlying32 rfl (infoC c) ?_); rfl) | (go_at_call 36; refine (HV.out _).mono ?_; rintro e w' ⟨rfl, hb⟩; rw [e2.out]; replace H := bstep H hb; clear hb))
    have hI := Bld.fresh w'
    have hA : Below W.heap.size W (w'.alloc (.cells #[.pointer none, .slice none 0 0] 61)) := H.alloc H.size _
    have hgb : w.heap.size ≤ w'.heap.size := (bstep H0 H).size
    go_upto_region 4 with fail
    generalize w'.alloc (.cells #[.pointer none, .slice none 0 0] 61) = Wb at hI hA ⊢
    replace H := hA
    clear hA
    generalize w'.heap.size = gb at hI hgb ⊢
    replace hI := Lib.hid hI
    go_wp2_with ((with_reducible refine wp_load_rowBg H ?_ _ _ rfl _ rfl _ r0 _ Tryd.underlying32 rfl (infoC c) ?_); rfl)
    replace H0 := bstep H0 H
    clear H r0 b0 l0
    go_loopw [13] (fun i wr => ∃ k : Nat, k ≤ 12 ∧ i = .int .i64 k ∧ Hid (Bld gb (crK c k) wr) ∧ Below gb Wb wr) (fun i _ => 12 - (intOf i).toNat)
    case atStart => exact ⟨0, by omega, rfl, hI.out, Below.refl _ _⟩
    case round =>
      obtain ⟨k, hk, rfl, HB, hb⟩ := hrel
      have HTr := Lib.hid (HT.out.below (H0.trans (hb.mono hgb)))
      have hgl := HB.out.lt
      by_cases hlt : k < 12
      · have hE := run_indexC c k hlt
        have hK := crK_succ c k
        have hfine := HOK.out k hlt
        have hlen := HLN.out k hk
        have hwl := wordT_len hfine
        generalize rB c.toList k = b at hE hK hfine hwl
        replace hK := Lib.hid hK
        have htm : (k : Int).tmod 4 = (k : Int) % 4 := Int.tmod_eq_emod_of_nonneg (by omega)
        have hwm : IntKind.i64.wrap ((k : Int) % 4) = (k : Int) % 4 := by rw [IntKind.wrap_i64]; omega
        go_upto_region 7 with (((with_reducible refine wp_store_rowOf rfl rfl _ _ _ rfl _ rfl (#[.int .u8 b.k, .int .i16 b.y] : Array Value) rfl #[.int .u8 0, .int .i16 0] ?hr rfl (infoB _ _) (bv_one _ _) ?_); (case hr => rw [rowOf_alloc, if_pos rfl])))
        generalize hW1 : World.setRow _ _ _ = W1
        obtain ⟨HB1, r1, b1⟩ := laid_row (Below.refl wr.heap.size wr) hW1
        clear hW1
        have HBl1 := Lib.hid (HB.out.kept HB1)
        have HT1 := Lib.hid (HTr.out.below HB1)
        have hb1 := hb.trans (HB1.mono (Nat.le_of_lt hgl))
        have hgl1 : gb ≤ W1.heap.size := Nat.le_of_lt HBl1.out.lt
        clear HB1 hE
        generalize wr.heap.size = g1 at *
        have H := Below.refl W1.heap.size W1
        have htx := fun W hW => BottleText_any b W hW
        generalize hS : (if b.ok = true then botT b else []) = sT at htx
        cases e3 : b.em with
        | true =>
          obtain rfl : sT = [] := by rw [← hS, em_nok e3]; rfl
          have hWT : Hid (wordT b = [45]) := if_pos e3
          replace htx := Lib.hid htx
          clear hS e3 hwl hfine
          go_upto_region 10 with (first | ((with_reducible refine wp_load_rowBg H ?_ _ _ rfl _ rfl _ r1 _ Tryd.underlying26 rfl (infoB _ _) ?_); rfl) | (go_at_call 11; go_loud (refine (htx.out _ (HT1.out.below H)).mono ?_; rintro e w2 ⟨rfl, hb2⟩; replace H := bstep H hb2; clear hb2)))
          cases hm : decide (k % 4 = 3) with
          | true =>
            have hm1 := of_decide_eq_true hm
            have hm2 : (k : Int) % 4 = 3 := by omega
            have hE2 : Hid (endT k = 10) := if_pos hm1
            clear hm hm1
            go_wp2_with (first | (go_at_call 37; go_loud (refine (WriteString_any gb (crK c k) [45] _ (HBl1.out.kept H) (by omega) (by first | omega | (simp; try omega))).mono ?_; rintro e w4 ⟨rfl, h4, hb4⟩)) | (go_at_call 38; go_loud (refine (WriteByte_any gb (crK c k ++ [45]) 10 _ h4 (by simp; omega)).mono ?_; rintro e w5 ⟨rfl, h5, hb5⟩)))
            go_roundw
            case rel => exact ⟨k + 1, by omega, by go_num, by rw [hK.out, hWT.out, hE2.out, ← List.append_assoc]; exact h5, (((hb1.trans (H.mono hgl1)).trans hb4).trans hb5)⟩
            case measure => simp [intOf]; omega
          | false =>
            have hm1 := of_decide_eq_false hm
            have hm2 : ¬ (k : Int) % 4 = 3 := by omega
            have hE2 : Hid (endT k = 32) := if_neg hm1
            clear hm hm1
            go_wp2_with (first | (go_at_call 37; go_loud (refine (WriteString_any gb (crK c k) [45] _ (HBl1.out.kept H) (by omega) (by first | omega | (simp; try omega))).mono ?_; rintro e w4 ⟨rfl, h4, hb4⟩)) | (go_at_call 38; go_loud (refine (WriteByte_any gb (crK c k ++ [45]) 32 _ h4 (by simp; omega)).mono ?_; rintro e w5 ⟨rfl, h5, hb5⟩)))
            go_roundw
            case rel => exact ⟨k + 1, by omega, by go_num, by rw [hK.out, hWT.out, hE2.out, ← List.append_assoc]; exact h5, (((hb1.trans (H.mono hgl1)).trans hb4).trans hb5)⟩
            case measure => simp [intOf]; omega
        | false =>
          have hok : b.ok = true := by
            unfold Bt.fine at hfine
            rw [e3, Bool.false_or] at hfine
            exact hfine
          obtain rfl : sT = botT b := by rw [← hS, if_pos hok]
          have hWT : Hid (wordT b = botT b) := if_neg (by rw [e3]; simp)
          have hlb := botT_len hok
          have hne : (botT b == []) = false := by
            rw [← Bool.not_eq_true, beq_iff_eq]
            exact botT_ne b
          replace htx := Lib.hid htx
          clear hS e3 hwl hfine hok
          generalize botT b = sT at htx hWT hlb hne
          have htl : (⟨sT.toArray⟩ : ByteArray).toList = sT := by simp
          go_upto_region 10 with (first | ((with_reducible refine wp_load_rowBg H ?_ _ _ rfl _ rfl _ r1 _ Tryd.underlying26 rfl (infoB _ _) ?_); rfl) | (go_at_call 11; go_loud (refine (htx.out _ (HT1.out.below H)).mono ?_; rintro e w2 ⟨rfl, hb2⟩; replace H := bstep H hb2; clear hb2)))
          cases hm : decide (k % 4 = 3) with
          | true =>
            have hm1 := of_decide_eq_true hm
            have hm2 : (k : Int) % 4 = 3 := by omega
            have hE2 : Hid (endT k = 10) := if_pos hm1
            clear hm hm1
            go_wp2_with (first | (go_at_call 37; go_loud (refine (WriteString_any gb (crK c k) sT _ (HBl1.out.kept H) (by omega) (by first | omega | (simp; try omega))).mono ?_; rintro e w4 ⟨rfl, h4, hb4⟩)) | (go_at_call 38; go_loud (refine (WriteByte_any gb (crK c k ++ sT) 10 _ h4 (by simp; omega)).mono ?_; rintro e w5 ⟨rfl, h5, hb5⟩)))
            go_roundw
            case rel => exact ⟨k + 1, by omega, by go_num, by rw [hK.out, hWT.out, hE2.out, ← List.append_assoc]; exact h5, (((hb1.trans (H.mono hgl1)).trans hb4).trans hb5)⟩
            case measure => simp [intOf]; omega
          | false =>
            have hm1 := of_decide_eq_false hm
            have hm2 : ¬ (k : Int) % 4 = 3 := by omega
            have hE2 : Hid (endT k = 32) := if_neg hm1
            clear hm hm1
            go_wp2_with (first | (go_at_call 37; go_loud (refine (WriteString_any gb (crK c k) sT _ (HBl1.out.kept H) (by omega) (by first | omega | (simp; try omega))).mono ?_; rintro e w4 ⟨rfl, h4, hb4⟩)) | (go_at_call 38; go_loud (refine (WriteByte_any gb (crK c k ++ sT) 32 _ h4 (by simp; omega)).mono ?_; rintro e w5 ⟨rfl, h5, hb5⟩)))
            go_roundw
            case rel => exact ⟨k + 1, by omega, by go_num, by rw [hK.out, hWT.out, hE2.out, ← List.append_assoc]; exact h5, (((hb1.trans (H.mono hgl1)).trans hb4).trans hb5)⟩
            case measure => simp [intOf]; omega
      · obtain rfl : k = 12 := by omega
        go_wp2_with (go_at_call 39; refine (BString_any gb (crK c 12) _ HB.out).mono ?_; rintro e w2 ⟨rfl, hb2⟩)
        go_ret
        exact ⟨rfl, H0.trans ((hb.trans hb2).mono hgb)⟩
end Go.Proofs.YtbngpcghognojaaDoor
