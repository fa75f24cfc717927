/- Contract of the program's ReadCrate. -/
import Derived.Test.YtbngpcghognojaaDoorRdCP
import Derived.Test.YtbngpcghognojaaDoorReadB
import Derived.Test.YtbngpcghognojaaDoorCrT
import Derived.Test.YtbngpcghognojaaDoorOwn
import Derived.Shelf.Strings.FieldsFuncAny
namespace Go.Proofs.YtbngpcghognojaaDoor
open Go Go.Sort Go.RowKit
set_option linter.unusedVariables false
set_option linter.unusedSimpArgs false
set_option maxRecDepth 100000
set_option maxHeartbeats 1000000
attribute [local go_sem] Oper.qB
theorem eq_int (x k : Nat) : ((x : Int) == (k : Int)) = (x == k) := by
  rw [Bool.eq_iff_iff, beq_iff_eq, beq_iff_eq]
  omega
/-- The test of the fields: a space, or a line's end. -/
theorem ReadCrate1_any (x : Nat) (w : World) : Calls Tryd.prog 51 #[.int .i32 (x : Int)] w fun e w' => e = .returned (.bool (isSL x)) ∧ w' = w := by
  by_cases h1 : x = 32
  · have HF : Hid (isSL x = true) := by subst h1; rfl
    have h2 : (x : Int) = 32 := by omega
    replace h1 := Lib.hid h1
    go_enter Tryd.func51, Tryd.ntmps51
    go_wp2
    go_ret
    exact ⟨by rw [HF.out]; rfl, rfl⟩
  · by_cases h3 : x = 10
    · have HF : Hid (isSL x = true) := by subst h3; rfl
      have h2 : ¬ (x : Int) = 32 := by omega
      have h4 : (x : Int) = 10 := by omega
      replace h1 := Lib.hid h1
      replace h3 := Lib.hid h3
      go_enter Tryd.func51, Tryd.ntmps51
      go_wp2
      go_ret
      exact ⟨by rw [HF.out]; rfl, rfl⟩
    · have HF : Hid (isSL x = false) := by show isSL x = false; simp [isSL, h1, h3]
      have h2 : ¬ (x : Int) = 32 := by omega
      have h4 : ¬ (x : Int) = 10 := by omega
      replace h1 := Lib.hid h1
      replace h3 := Lib.hid h3
      go_enter Tryd.func51, Tryd.ntmps51
      go_wp2
      go_ret
      exact ⟨by rw [HF.out]; exact congrArg (fun b => Ending.returned (.bool b)) (show ((x : Int) == 32 || (x : Int) == 10) = false by simp [h2, h4]), rfl⟩
theorem Fields_any (s : ByteArray) (w : World) (hs : s.size ≤ 1048576) :
    Calls Tryd.prog 50 #[.string s, .func (.func 51) #[] #[]] w fun e w' => ∃ A, e = .returned (.slice (some ⟨A, 0, none⟩) (Lib.goFieldsP isSL s).length (Lib.goFieldsP isSL s).length) ∧ CAt w' A 0 ((Lib.goFieldsP isSL s).map Value.string) ∧ (w.heap.size ≤ A ∧ A < w'.heap.size) ∧ Below w.heap.size w w' := by
  refine (Any.strings_FieldsFunc_runes Tryd.lx50 51 #[] (enters_of Tryd.func51 (by kernel_rfl) rfl) isSL s w (by omega) (fun W x _ _ => (ReadCrate1_any x W).mono fun e w' ⟨he, hw⟩ => ⟨he, 0, hw⟩) (by kernel_rfl) (by kernel_rfl)).mono ?_
  rintro e w' ⟨A, rfl, hA, hown, hb⟩
  exact ⟨A, rfl, own_cells hown, ⟨hA, own_lt hown A rfl⟩, hb⟩
theorem ReadCrate_any (l : List UInt8) (hl : l.length ≤ 1048576) (m : Int) (w : World) (ht : Tab w) (h2 : ErrV w (Tryd.lx66_ren.g 15)) (h3 : ErrV w (Tryd.lx66_ren.g 16)) (hm : w.cell? ⟨Tryd.lx47_ren.g 1, 0, none⟩ = some (.int .i64 m)) :
    Calls Tryd.prog 24 #[.string ⟨l.toArray⟩] w fun e w' => e = .returned (.tuple #[cv (rcR l).1, .int .i64 (rcR l).2]) ∧ Below w.heap.size w w' := by
  have hsz := size_text l
  have hm2 := fun W (hW : Below w.heap.size w W) => (hW.cell (World.block_lt_of_cell? _ _ hm)).trans hm
  have HRB := Lib.hid (fun (x : List UInt8) (hx : x.length ≤ 1048576) W (hW : Below w.heap.size w W) => ReadBottle_any x hx m W (ht.below hW) (h2.below hW) (h3.below hW) (hm2 W hW))
  have HFF := fun W => Fields_any ⟨l.toArray⟩ W (by omega)
  have HCT := Lib.hid (fun c W (hW : Below w.heap.size w W) => CrateText_any c W (ht.below hW))
  obtain ⟨ds, hds⟩ : ∃ ds, ds = Lib.goFieldsP isSL ⟨l.toArray⟩ := ⟨_, rfl⟩
  obtain ⟨ws, hws⟩ : ∃ ws, ws = ds.map (·.data.toList) := ⟨_, rfl⟩
  have hfw : (Lib.goFieldsP isSL ⟨l.toArray⟩).map (·.data.toList) = ws := by rw [← hds, hws]
  have hlen : ds.length = ws.length := by rw [hws]; simp
  have hdsz : ∀ x ∈ ds, x.size ≤ 1048576 := fun x hx => by
    rw [hds] at hx
    have := field_size hx
    omega
  simp only [← hds] at HFF
  replace HFF := Lib.hid HFF
  replace hfw := Lib.hid hfw
  replace hds := Lib.hid hds
  replace hws := Lib.hid hws
  replace hlen := Lib.hid hlen
  clear ht h2 h3 hm hm2
  have htl : (⟨l.toArray⟩ : ByteArray).toList = l := by simp
  generalize (⟨l.toArray⟩ : ByteArray) = S at hsz HFF htl ⊢
  go_enter Tryd.func24, Tryd.ntmps24
  go_upto_region 1 with fail
  generalize hW : World.alloc _ _ = W
  have H0 : Below w.heap.size w W := by rw [← hW]; go_grown
  have r0 : rowOf W (w.heap.size) = some ((cc zC).toArray) := (by (try rw [← hW]); simp only [rowOf_alloc, World.size_alloc, ↓reduceIte]; all_goals ((repeat' split) <;> first | omega | (exfalso; omega) | rfl))
  clear hW
  have l0 : w.heap.size ≤ w.heap.size := Nat.le_refl _
  generalize h0 : w.heap.size = g0 at r0 ⊢
  replace l0 : w.heap.size ≤ g0 := Nat.le_of_eq h0
  clear h0
  have b0 := rowOf_lt r0
  have H := Below.refl W.heap.size W
  go_upto_region 2 with ((with_reducible refine wp_store_rowOf rfl rfl _ _ _ rfl _ rfl (cc zC).toArray rfl (cc zC).toArray ?hr (cc_size2 _ _) (infoC _) (cc_one _) ?_); (case hr => rw [rowOf_alloc, if_pos rfl]; rfl))
  generalize hW1 : World.setRow _ _ _ = W1
  obtain ⟨HB, r1, b1⟩ := laid_row H hW1
  clear hW1
  have qr01 := Nat.lt_of_lt_of_le (rowOf_lt r0) H.size
  replace r0 := row_kept r0 HB
  replace H0 := bstep H0 HB
  replace H := below_self HB
  generalize W.heap.size = g1 at *
  by_cases h12 : ws.length = 12
  · have hd12 : ds.length = 12 := hlen.out.trans h12
    replace h12 := Lib.hid h12
    go_upto_region 5 with (go_at_call 50; go_loud (refine (HFF.out _).mono ?_; rintro e w1 ⟨ga, rfl, hC, hga, hb⟩; rw [hd12]; replace H := bstep H hb; clear hb))
    have R0 := Lib.hid (row_kept r0 H)
    have R1 := Lib.hid (row_kept r1 H)
    replace H0 := bstep H0 H
    have hg0 : w.heap.size ≤ g0 := by omega
    have hg1 : w.heap.size ≤ g1 := by omega
    have hA0 : ga ≠ g0 := by omega
    have hA1 : ga ≠ g1 := by omega
    have hgA := hga.2
    replace hC := Lib.hid hC
    clear H r0 r1 HB hga b1
    go_wp2
    go_loopw [19] (fun i wr => ∃ k : Nat, k ≤ 12 ∧ i = .int .i64 k ∧ Hid (rowOf wr g0 = some (cc zC).toArray) ∧ Hid (rowOf wr g1 = some (cc (rcK ws k)).toArray) ∧ Hid (CAt wr ga 0 (ds.map Value.string)) ∧ Hid (∀ j, j < k → (rdWord (ws.getD j [])).isSome = true) ∧ ga < wr.heap.size ∧ Below w.heap.size w wr) (fun i _ => 12 - (intOf i).toNat)
    case atStart => exact ⟨0, by omega, rfl, R0.out, (by rw [rcK_zero]; exact R1.out), hC.out, fun j hj => absurd hj (Nat.not_lt_zero _), hgA, H0⟩
    case round =>
      clear R0 R1 hC H0 hgA
      obtain ⟨k, hk, rfl, R0, R1, HC, HS, hgA, H0⟩ := hrel
      by_cases hlt : k < 12
      · obtain ⟨wd, hwd⟩ : ∃ wd, wd = ws.getD k [] := ⟨_, rfl⟩
        have hkd : k < ds.length := by omega
        have hdk : ds[k].data.toList = wd := by
          rw [hwd, hws.out, List.getD_eq_getElem?_getD, List.getElem?_map, List.getElem?_eq_getElem hkd]
          rfl
        have hdT : ds[k] = ⟨wd.toArray⟩ := by rw [← hdk, Lib.mk_data]
        have hwl : wd.length ≤ 1048576 := by
          have := hdsz _ (List.getElem_mem hkd)
          rw [hdT, size_text] at this
          exact this
        have x0 : wr.cell? ⟨ga, k, none⟩ = some (.string ⟨wd.toArray⟩) := by
          have := HC.out k (.string ds[k]) (by rw [List.getElem?_map, List.getElem?_eq_getElem hkd]; rfl)
          rw [Nat.zero_add, hdT] at this
          exact this
        have HX := HRB.out wd hwl
        have htw : (⟨wd.toArray⟩ : ByteArray).toList = wd := by simp
        clear hkd hdk hdT hwl
        generalize (⟨wd.toArray⟩ : ByteArray) = T at x0 HX htw
        replace hwd := Lib.hid hwd
        have HS2 : Hid ((rdWord wd).isSome = true → ∀ j, j < k + 1 → (rdWord (ws.getD j [])).isSome = true) := fun h j hj => by
          rcases Nat.lt_or_ge j k with q | q
          · exact HS.out j q
          · obtain rfl : j = k := by omega
            rw [← hwd.out]
            exact h
        cases hd : (wd == [45]) with
        | true =>
          have hd2 : wd = [45] := by simpa using hd
          have hz : wsB ws k = zB := by
            unfold wsB
            rw [← hwd.out, hd2]
            rfl
          have HS3 := Lib.hid (HS2.out (by rw [hd2]; rfl))
          have HK := Lib.hid (rcK_keep ws hlt hz)
          replace hd2 := Lib.hid hd2
          clear HX hz
          go_wp2
          go_roundw
          case rel => exact ⟨k + 1, by omega, by go_num, R0.out, by rw [← HK.out]; exact R1.out, HC.out, HS3.out, hgA, H0⟩
          case measure => simp [intOf]; omega
        | false =>
          have hd2 : rdWord wd = rdB wd := if_neg (by intro e; rw [e] at hd; simp at hd)
          replace HX := HX wr H0
          have H := Below.refl wr.heap.size wr
          have r0 := R0.out
          have r1 := R1.out
          cases hb : rdB wd with
          | none =>
            have hrb : rbR wd = (zB, 5) := by unfold rbR; rw [hb]
            have HF := Lib.hid (rc_bad hfw.out hlt (by rw [← hwd.out, hd2, hb]))
            rw [hrb] at HX
            replace HX := Lib.hid HX
            clear hrb hd2 hb HS2
            go_upto_region 10 with (first | (go_at_call 21; go_loud (refine HX.out.mono ?_; rintro e w2 ⟨rfl, hb⟩; replace H := bstep H hb; clear hb)) | ((with_reducible refine wp_store_rowOf rfl rfl _ _ _ rfl _ rfl (#[.int .u8 0, .int .i16 0] : Array Value) rfl #[.int .u8 0, .int .i16 0] ?hr rfl (infoB _ _) (bv_one _ _) ?_); (case hr => rw [rowOf_alloc, if_pos rfl])))
            generalize hW2 : World.setRow _ _ _ = W2
            obtain ⟨HB, r2, b2⟩ := laid_row H hW2
            clear hW2
            have qr02 := Nat.lt_of_lt_of_le (rowOf_lt r0) H.size
            replace r0 := row_kept r0 HB
            replace H0 := bstep H0 HB
            replace H := below_self HB
            generalize w2.heap.size = g2 at *
            go_wp2_with (with_reducible refine wp_store_zeroB H rfl rfl _ _ rfl _ rfl rfl _ r0 ?_)
            rw [HF.out]
            refine bodyPost_ret (results_ct rfl rfl (loadVar_rowOf (cc zC).toArray (by rw [rowOf_setRow, if_pos rfl, row_kept r0 H]; rfl) _ Tryd.underlying32 rfl (infoC _))) rfl ⟨rfl, bsetRow (bstep H0 H) hg0 _⟩
          | some b =>
            have hrb : rbR wd = (b, 0) := by unfold rbR; rw [hb]
            have HS3 := Lib.hid (HS2.out (by rw [hd2, hb]; rfl))
            have hz : wsB ws k = b := by
              unfold wsB
              rw [← hwd.out, hd2, hb]
              rfl
            have HK := rcK_set ws hlt
            rw [hz] at HK
            replace HK := Lib.hid HK
            rw [hrb] at HX
            replace HX := Lib.hid HX
            clear hrb hd2 hb HS2 hz
            go_upto_region 10 with (first | (go_at_call 21; go_loud (refine HX.out.mono ?_; rintro e w2 ⟨rfl, hb⟩; replace H := bstep H hb; clear hb)) | ((with_reducible refine wp_store_rowOf rfl rfl _ _ _ rfl _ rfl (#[.int .u8 b.k, .int .i16 b.y] : Array Value) rfl #[.int .u8 0, .int .i16 0] ?hr rfl (infoB _ _) (bv_one _ _) ?_); (case hr => rw [rowOf_alloc, if_pos rfl])))
            have hg1w := rowOf_lt r1
            generalize hW2 : World.setRow _ _ _ = W2
            obtain ⟨HB, r2, b2⟩ := laid_row H hW2
            clear hW2
            have qr02 := Nat.lt_of_lt_of_le (rowOf_lt r0) H.size
            replace r0 := row_kept r0 HB
            have qr12 := Nat.lt_of_lt_of_le (rowOf_lt r1) H.size
            replace r1 := row_kept r1 HB
            replace H0 := bstep H0 HB
            replace H := below_self HB
            generalize w2.heap.size = g2 at *
            have HC2 := Lib.hid (HC.out.below HB hgA)
            have hgA2 := Nat.lt_of_lt_of_le hgA HB.size
            have hkl : k < (rcK ws k).toList.length := by rw [Vector.length_toList]; exact hlt
            have f0 := rowOf_frozen r1 (k * 2)
            have f1 := rowOf_frozen r1 (k * 2 + 1)
            have y0 := row0 r1 hkl
            have y1 := row1 r1 hkl
            generalize rB (rcK ws k).toList k = b' at y0 y1
            go_wp2_with ((with_reducible refine wp_load_rowBg H ?_ _ _ rfl _ rfl _ r2 _ Tryd.underlying26 rfl (infoB _ _) ?_); rfl)
            go_roundw
            case rel =>
              refine ⟨k + 1, by omega, by go_num, ?_, ?_, ?_, HS3.out, ?_, ?_⟩
              · rw [Hid, row_far (by omega), row_far (by omega)]
                exact r0
              · have := row_put b r1 hkl
                rw [HK.out] at this
                exact this
              · intro i v hv
                rw [cell_far hA1, cell_far hA1]
                exact HC2.out i v hv
              · simpa using hgA2
              · exact (H0.setCell hg1 _).setCell hg1 _
            case measure => simp [intOf]; omega
      · obtain rfl : k = 12 := by omega
        have hfine := rc_fine HS.out
        have HX := HCT.out (crOf (wsB ws)) wr H0
        rw [if_pos hfine] at HX
        rw [rcK_full ws] at R1
        have hsame := rc_same (l := l) HS.out
        have hother := rc_other hfw.out
        have r0 := R0.out
        have r1 := R1.out
        have H := Below.refl wr.heap.size wr
        clear R0 R1 HC HS hfine
        generalize crOf (wsB ws) = X at HX hsame hother r1
        have htX : (⟨(crT X).toArray⟩ : ByteArray).toList = crT X := by simp
        cases he : (crT X == l) with
        | true =>
          have HF := Lib.hid (hsame (by simpa using he))
          clear hsame hother
          generalize crT X = tx at HX htX he
          generalize (⟨tx.toArray⟩ : ByteArray) = T at HX htX
          replace HX := Lib.hid HX
          go_wp2_with (first | ((with_reducible refine wp_load_rowBg H ?_ _ _ rfl _ rfl _ r1 _ Tryd.underlying32 rfl (infoC X) ?_); rfl) | (go_at_call 14; go_loud (refine HX.out.mono ?_; rintro e w2 ⟨rfl, hb⟩; replace H := bstep H hb; clear hb)) | (with_reducible refine wp_store_rowB H rfl rfl _ _ _ rfl _ rfl _ rfl _ r0 (cc_size2 _ _) (infoC _) (cc_one _) ?_))
          rw [HF.out]
          refine bodyPost_ret (results_ct rfl rfl (loadVar_rowOf (cc X).toArray (by rw [rowOf_setRow, if_pos rfl, rowOf_below H (rowOf_lt r0), r0]; rfl) _ Tryd.underlying32 rfl (infoC _))) rfl ⟨rfl, bsetRow (bstep H0 H) (by omega) _⟩
        | false =>
          have HF := Lib.hid (hother (by intro e; rw [e] at he; simp at he))
          clear hsame hother
          generalize crT X = tx at HX htX he
          generalize (⟨tx.toArray⟩ : ByteArray) = T at HX htX
          replace HX := Lib.hid HX
          go_wp2_with (first | ((with_reducible refine wp_load_rowBg H ?_ _ _ rfl _ rfl _ r1 _ Tryd.underlying32 rfl (infoC X) ?_); rfl) | (go_at_call 14; go_loud (refine HX.out.mono ?_; rintro e w2 ⟨rfl, hb⟩; replace H := bstep H hb; clear hb)) | (with_reducible refine wp_store_zeroB H rfl rfl _ _ rfl _ rfl rfl _ r0 ?_))
          rw [HF.out]
          refine bodyPost_ret (results_ct rfl rfl (loadVar_rowOf (cc zC).toArray (by rw [rowOf_setRow, if_pos rfl, rowOf_below H (rowOf_lt r0), r0]; rfl) _ Tryd.underlying32 rfl (infoC _))) rfl ⟨rfl, bsetRow (bstep H0 H) (by omega) _⟩
  · have hd12 : ¬ (ds.length : Int) = 12 := by have := hlen.out; omega
    have HF := Lib.hid (rc_len hfw.out h12)
    replace h12 := Lib.hid h12
    go_wp2_with (first | (go_at_call 50; go_loud (refine (HFF.out _).mono ?_; rintro e w1 ⟨ga, rfl, hC, hga, hb⟩; replace H := bstep H hb; clear hb)) | (with_reducible refine wp_store_zeroB H rfl rfl _ _ rfl _ rfl rfl _ r0 ?_))
    rw [HF.out]
    refine bodyPost_ret (results_ct rfl rfl (loadVar_rowOf (cc zC).toArray (by rw [rowOf_setRow, if_pos rfl, rowOf_below H (rowOf_lt r0), r0]; rfl) _ Tryd.underlying32 rfl (infoC _))) rfl ⟨rfl, bsetRow (bstep H0 H) (by omega) _⟩
end Go.Proofs.YtbngpcghognojaaDoor
