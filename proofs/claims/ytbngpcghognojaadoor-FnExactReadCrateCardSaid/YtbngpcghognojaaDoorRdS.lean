/- Contract of the reference's ReadCrate. -/
import Derived.Test.YtbngpcghognojaaDoorRdCP
import Derived.Test.YtbngpcghognojaaDoorSplB
import Derived.Test.YtbngpcghognojaaDoorCrT
namespace Go.Proofs.YtbngpcghognojaaDoor
open Go Go.Sort Go.RowKit
set_option linter.unusedVariables false
set_option linter.unusedSimpArgs false
set_option maxRecDepth 100000
set_option maxHeartbeats 1000000
attribute [local go_sem] Oper.qB
/-! ### Plain -/
theorem spl_piece (s : UInt8) : ∀ (l : List UInt8), ∀ p ∈ spl s l, p.length ≤ l.length
  | [], p, hp => by
    obtain rfl : p = [] := by simpa [spl] using hp
    simp
  | c :: l, p, hp => by
    have ih := spl_piece s l
    rw [spl] at hp
    split at hp
    · rcases List.mem_cons.1 hp with rfl | hp
      · simp
      · exact Nat.le_succ_of_le (ih p hp)
    · cases hs : spl s l with
      | nil =>
        rw [hs] at hp
        obtain rfl : p = [c] := by simpa [preS] using hp
        simp
      | cons q ps =>
        rw [hs] at hp ih
        rcases List.mem_cons.1 hp with rfl | hp
        · have := ih q (List.mem_cons_self ..)
          simp only [List.cons_append, List.nil_append, List.length_cons]
          omega
        · exact Nat.le_succ_of_le (ih p (List.mem_cons_of_mem _ hp))
theorem getD_piece (s : UInt8) (l : List UInt8) (i : Nat) : ((spl s l).getD i []).length ≤ l.length := by
  rw [List.getD_eq_getElem?_getD]
  cases h : (spl s l)[i]? with
  | none => simp
  | some p => exact spl_piece s l p (List.mem_of_getElem? h)
theorem fl_tcs : ∀ ls : List (List UInt8), fl tcs ls = ls.map fun x => .string ⟨x.toArray⟩
  | [] => rfl
  | x :: ls => by rw [fl_cons, fl_tcs ls]; rfl
theorem tcs_cell {w : World} {g i : Nat} {ls : List (List UInt8)} (h : CAt w g 0 (fl tcs ls)) (hi : i < ls.length) : w.cell? ⟨g, i, none⟩ = some (.string ⟨(ls.getD i []).toArray⟩) := by
  have := h i (.string ⟨(ls.getD i []).toArray⟩) (by rw [fl_tcs, List.getElem?_map, List.getElem?_eq_getElem hi, List.getD_eq_getElem?_getD, List.getElem?_eq_getElem hi]; rfl)
  rwa [Nat.zero_add] at this
/-- The first k places. -/
def crF (f : Nat → Bt) (k : Nat) : Cr := crOf fun i => if i < k then f i else zB
theorem crF_zero (f : Nat → Bt) : crF f 0 = zC := cr_ext fun i hi => by
  unfold crF
  rw [crOf_at _ hi, if_neg (by omega), rB_zC i hi]
theorem crF_full (f : Nat → Bt) : crF f 12 = crOf f := cr_ext fun i hi => by
  unfold crF
  rw [crOf_at _ hi, crOf_at _ hi, if_pos hi]
theorem crF_set (f : Nat → Bt) {k : Nat} (hk : k < 12) : (crF f k).toList.set k (f k) = (crF f (k + 1)).toList := by
  unfold crF
  rw [crOf_list, crOf_list]
  apply List.ext_getElem (by simp)
  intro i hi hi'
  rw [List.getElem_set]
  simp only [List.getElem_map, List.getElem_range]
  by_cases e : k = i
  · subst e
    rw [if_pos rfl, if_pos (by omega)]
  · rw [if_neg e]
    by_cases h2 : i < k
    · rw [if_pos h2, if_pos (by omega)]
    · rw [if_neg h2, if_neg (by omega)]
theorem crF_keep (f : Nat → Bt) {k : Nat} (hk : k < 12) (hz : f k = zB) : crF f k = crF f (k + 1) := cr_ext fun i hi => by
  unfold crF
  rw [crOf_at _ hi, crOf_at _ hi]
  by_cases h2 : i < k
  · rw [if_pos h2, if_pos (by omega)]
  · rw [if_neg h2]
    by_cases e : i = k
    · subst e
      rw [if_pos (by omega), hz]
    · rw [if_neg (by omega)]
theorem good_iff {l : List UInt8} : crGood l = true ↔ (spl 10 l).length = 4 ∧ (spl 10 l).getD 3 [] = [] ∧ (∀ y, y < 3 → lnOk l y = true) ∧ ∀ i, i < 12 → wdOk l i = true := by
  simp only [crGood, Bool.and_eq_true, decide_eq_true_iff, List.all_eq_true, List.mem_range]
theorem rcR_good {l : List UInt8} (h : crGood l = true) : rcR l = (crOf (wdB l), 0) := by
  unfold rcR rdC
  rw [if_pos h]
theorem rcR_bad {l : List UInt8} (h : ¬ crGood l = true) : rcR l = (zC, 5) := by
  unfold rcR rdC
  rw [if_neg h]
theorem wdAt_yx (l : List UInt8) {y x : Nat} (hx : x < 4) : wdAt l (4 * y + x) = (spl 32 ((spl 10 l).getD y [])).getD x [] := by
  unfold wdAt
  rw [show (4 * y + x) / 4 = y by omega, show (4 * y + x) % 4 = x by omega]
theorem lnOk_eq (l : List UInt8) (y : Nat) : lnOk l y = decide ((spl 32 ((spl 10 l).getD y [])).length = 4) := by unfold lnOk; exact rfl
theorem sReadCrate_any (l : List UInt8) (hl : l.length ≤ 1048576) (w : World) :
    Calls Tryd.prog 23 #[.string ⟨l.toArray⟩] w fun e w' => e = .returned (.tuple #[cv (rcR l).1, .int .i64 (rcR l).2]) ∧ Below w.heap.size w w' := by
  have HS := fun W => l01Split_any l 10 W hl
  have e10 : ((10 : UInt8).toNat : Int) = 10 := rfl
  rw [e10] at HS
  have HS2 := fun x (hx : x.length ≤ 1048576) W => l01Split_any x 32 W hx
  have e32 : ((32 : UInt8).toNat : Int) = 32 := rfl
  rw [e32] at HS2
  clear e10 e32
  replace HS2 := Lib.hid HS2
  have HR := Lib.hid (fun x (hx : x.length ≤ 1048576) W => l01Read_any x hx W)
  have HGI := Lib.hid (@good_iff l)
  have HLE := Lib.hid (fun i => Nat.le_trans (getD_piece 10 l i) hl)
  have HLN := Lib.hid (lnOk_eq l)
  have HYX := Lib.hid (fun y x (hx : x < 4) => wdAt_yx l (y := y) hx)
  generalize spl 10 l = ls at HS HGI HLE HLN HYX
  generalize (⟨l.toArray⟩ : ByteArray) = S at HS ⊢
  replace HS := Lib.hid HS
  go_enter Tryd.func23, Tryd.ntmps23
  go_upto_region 1 with fail
  generalize hW : World.alloc _ _ = W
  have H0 : Below w.heap.size w W := by rw [← hW]; go_grown
  have r0 : rowOf W (w.heap.size) = some ((cc zC).toArray) := (by (try rw [← hW]); simp only [rowOf_alloc, World.size_alloc, ↓reduceIte]; all_goals ((repeat' split) <;> first | omega | (exfalso; omega) | rfl))
  clear hW
  have l0 : w.heap.size ≤ w.heap.size := Nat.le_refl _
  generalize h0 : w.heap.size = g0 at r0 ⊢
  replace l0 : w.heap.size ≤ g0 := Nat.le_of_eq h0
  clear h0
  have b0 := rowOf_lt r0
  have H := Below.refl W.heap.size W
  by_cases h4 : ls.length = 4
  · go_upto_region 2 with (go_at_call 49; go_loud (refine (HS.out _).mono ?_; rintro e w1 ⟨v, rfl, HO, hb⟩; obtain ⟨gl, cs, rfl, HL, hB, hgl, hcap⟩ := HO.lies; rw [h4]; replace H := bstep H hb; clear hb))
    have hgB : g0 < gl := by omega
    clear HO hB hcap
    have x3 := tcs_cell HL.1 (i := 3) (by omega)
    replace HL := Lib.hid HL.1
    have ht3 : (⟨(ls.getD 3 []).toArray⟩ : ByteArray).toList = ls.getD 3 [] := by simp
    cases h3 : (ls.getD 3 [] == []) with
    | false =>
      have HF := Lib.hid (rcR_bad (l := l) (fun h => by have := (HGI.out.1 h).2.1; rw [this] at h3; cases h3))
      replace h4 := Lib.hid h4
      generalize ls.getD 3 [] = t3 at x3 ht3 h3
      generalize (⟨t3.toArray⟩ : ByteArray) = T3 at x3 ht3
      go_wp2_with (with_reducible refine wp_store_zeroB H rfl rfl _ _ rfl _ rfl rfl _ r0 ?_)
      rw [HF.out]
      refine bodyPost_ret (results_ct rfl rfl (loadVar_rowOf (cc zC).toArray (by rw [rowOf_setRow, if_pos rfl, rowOf_below H (rowOf_lt r0), r0]; rfl) _ Tryd.underlying32 rfl (infoC _))) rfl ⟨rfl, bsetRow (bstep H0 H) (by omega) _⟩
    | true =>
      have h3e : Hid (ls.getD 3 [] = []) := by rw [beq_iff_eq] at h3; exact h3
      generalize ls.getD 3 [] = t3 at x3 ht3 h3
      generalize (⟨t3.toArray⟩ : ByteArray) = T3 at x3 ht3
      replace h4 := Lib.hid h4
      go_upto_region 5 with ((with_reducible refine wp_store_rowOf rfl rfl _ _ _ rfl _ rfl (cc zC).toArray rfl (cc zC).toArray ?hr (cc_size2 _ _) (infoC _) (cc_one _) ?_); (case hr => rw [rowOf_alloc, if_pos rfl]; rfl))
      clear x3 ht3 h3
      generalize hW1 : World.setRow _ _ _ = W1
      obtain ⟨HB1, r1, b1⟩ := laid_row (Below.refl w1.heap.size w1) hW1
      clear hW1
      have R0 := Lib.hid (row_kept (row_kept r0 H) HB1)
      have R1 := Lib.hid r1
      have HL1 := Lib.hid (HL.out.below HB1 hgl)
      have hgl1 := Nat.lt_of_lt_of_le hgl HB1.size
      have H01 := bstep (bstep H0 H) HB1
      have hg1 : w.heap.size ≤ w1.heap.size := (bstep H0 H).size
      have hg0 : w.heap.size ≤ g0 := l0
      have hgl2 : gl ≠ w1.heap.size := by omega
      have hg01 : g0 ≠ w1.heap.size := by have := H.size; omega
      clear HB1 HL H0 H r0 b0 l0 r1 b1 hgB
      generalize w1.heap.size = g1 at R1 hg1 hgl2 hg01 hgl ⊢
      go_wp2
      go_loopw [6] (fun yv wr => ∃ n : Nat, n ≤ 3 ∧ yv = .int .i64 n ∧ Hid (rowOf wr g0 = some (cc zC).toArray) ∧ Hid (rowOf wr g1 = some (cc (crF (wdB l) (4 * n))).toArray) ∧ Hid (CAt wr gl 0 (fl tcs ls)) ∧ Hid (∀ y, y < n → lnOk l y = true) ∧ Hid (∀ i, i < 4 * n → wdOk l i = true) ∧ gl < wr.heap.size ∧ Below w.heap.size w wr) (fun yv _ => 3 - (intOf yv).toNat)
      case atStart => exact ⟨0, by omega, rfl, R0.out, (by rw [Nat.mul_zero, crF_zero]; exact R1.out), HL1.out, fun j hj => absurd hj (Nat.not_lt_zero _), fun j hj => absurd hj (Nat.not_lt_zero _), hgl1, H01⟩
      case round =>
        clear R0 R1 HL1 H01 hgl1 hgl
        obtain ⟨n, hn, rfl, R0, R1, HL, HG, HW, hgl, H0⟩ := hrel
        by_cases hlt : n < 3
        · have xl := tcs_cell HL.out (i := n) (by have := h4.out; omega)
          have HSn := HS2.out (ls.getD n []) (HLE.out n)
          have HLNn := Lib.hid (HLN.out n)
          have HYXn := Lib.hid (fun x hx => HYX.out n x hx)
          have HPL := Lib.hid (fun x => Nat.le_trans (getD_piece 32 (ls.getD n []) x) (HLE.out n))
          generalize spl 32 (ls.getD n []) = ps at HSn HLNn HYXn HPL
          generalize (⟨(ls.getD n []).toArray⟩ : ByteArray) = TL at xl HSn
          replace HSn := Lib.hid HSn
          have r0 := R0.out
          have H := Below.refl wr.heap.size wr
          by_cases hp4 : ps.length = 4
          · go_upto_region 11 with (go_at_call 49; go_loud (refine (HSn.out _).mono ?_; rintro e w2 ⟨v, rfl, HO, hb⟩; obtain ⟨gp, cp, rfl, HP, hBp, hgp, hcp⟩ := HO.lies; rw [hp4]; replace H := bstep H hb; clear hb))
            have R0b := Lib.hid (row_kept R0.out H)
            have R1b := Lib.hid (row_kept R1.out H)
            have HLb := Lib.hid (HL.out.below H hgl)
            have HPb := Lib.hid HP.1
            have hglb := Nat.lt_of_lt_of_le hgl H.size
            have H0b := bstep H0 H
            have hgp1 : gp ≠ g1 := by
              have := rowOf_lt R1.out
              omega
            have HLNt : Hid (lnOk l n = true) := by rw [Hid, HLNn.out, decide_eq_true hp4]
            have HGn : Hid (∀ y, y < n + 1 → lnOk l y = true) := fun y hy => by
              rcases Nat.lt_or_ge y n with q | q
              · exact HG.out y q
              · obtain rfl : y = n := by omega
                exact HLNt.out
            replace hp4 := Lib.hid hp4
            clear R0 R1 HL HP HO hBp hcp xl H r0 hgl H0
            go_wp2
            go_loopw [8] (fun xv wq => ∃ m : Nat, m ≤ 4 ∧ xv = .int .i64 m ∧ Hid (rowOf wq g0 = some (cc zC).toArray) ∧ Hid (rowOf wq g1 = some (cc (crF (wdB l) (4 * n + m))).toArray) ∧ Hid (CAt wq gl 0 (fl tcs ls)) ∧ Hid (CAt wq gp 0 (fl tcs ps)) ∧ Hid (∀ i, i < 4 * n + m → wdOk l i = true) ∧ gl < wq.heap.size ∧ gp < wq.heap.size ∧ Below w.heap.size w wq) (fun xv _ => 4 - (intOf xv).toNat)
            case atStart => exact ⟨0, by omega, rfl, R0b.out, R1b.out, HLb.out, HPb.out, HW.out, hglb, hgp, H0b⟩
            case round =>
              clear R0b R1b HLb HPb hglb hgp H0b HW
              obtain ⟨m, hm, rfl, R0, R1, HL, HP, HW, hgl, hgp, H0⟩ := hrel
              by_cases hmt : m < 4
              · have x0 := tcs_cell HP.out (i := m) (by have := hp4.out; omega)
                have hwl := HPL.out m
                have hWD := HYXn.out m hmt
                obtain ⟨wd, hwd⟩ : ∃ wd, wd = ps.getD m [] := ⟨_, rfl⟩
                rw [← hwd] at x0 hwl hWD
                have hq12 : 4 * n + m < 12 := by omega
                have HX := HR.out wd hwl
                have htw : (⟨wd.toArray⟩ : ByteArray).toList = wd := by simp
                generalize (⟨wd.toArray⟩ : ByteArray) = T at x0 HX htw
                have HS2 : Hid (wdOk l (4 * n + m) = true → ∀ j, j < 4 * n + m + 1 → wdOk l j = true) := fun h j hj => by
                  rcases Nat.lt_or_ge j (4 * n + m) with q | q
                  · exact HW.out j q
                  · obtain rfl : j = 4 * n + m := by omega
                    exact h
                have hOK : wdOk l (4 * n + m) = (rdWord wd).isSome := by unfold wdOk; rw [hWD]
                have hBB : wdB l (4 * n + m) = (rdWord wd).getD zB := by unfold wdB; rw [hWD]
                have hw1 : IntKind.i64.wrap (4 * (n : Int)) = 4 * (n : Int) := by rw [IntKind.wrap_i64]; omega
                have hw2 : IntKind.i64.wrap (4 * (n : Int) + (m : Int)) = 4 * (n : Int) + (m : Int) := by rw [IntKind.wrap_i64]; omega
                obtain ⟨q, hq⟩ : ∃ q, q = 4 * n + m := ⟨_, rfl⟩
                have hqi : 4 * (n : Int) + (m : Int) = (q : Int) := by omega
                have hq1 : 4 * n + (m + 1) = q + 1 := by omega
                rw [← hq] at R1 HW hWD hq12 HS2 hOK hBB
                clear hWD
                replace hq := Lib.hid hq
                replace hq1 := Lib.hid hq1
                replace hwd := Lib.hid hwd
                cases hd : (wd == [45]) with
                | true =>
                  have hd2 : wd = [45] := by simpa using hd
                  have hz : wdB l q = zB := by rw [hBB, hd2]; rfl
                  have HS3 := Lib.hid (HS2.out (by rw [hOK, hd2]; rfl))
                  have HK := Lib.hid (crF_keep (wdB l) hq12 hz)
                  replace hd2 := Lib.hid hd2
                  clear HX hz hOK hBB hqi hw1 hw2
                  go_wp2
                  go_roundw
                  case rel => exact ⟨m + 1, by omega, by go_num, R0.out, by rw [Hid, hq1.out, ← HK.out]; exact R1.out, HL.out, HP.out, by rw [Hid, hq1.out]; exact HS3.out, hgl, hgp, H0⟩
                  case measure => simp [intOf]; omega
                | false =>
                  have hd2 : rdWord wd = rdB wd := if_neg (by intro e; rw [e] at hd; simp at hd)
                  rw [hd2] at hOK hBB
                  replace HX := HX wr
                  have H := Below.refl wr.heap.size wr
                  have r0 := R0.out
                  have r1 := R1.out
                  cases hb : rdB wd with
                  | none =>
                    rw [hb] at HX hOK
                    have HF := Lib.hid (rcR_bad (l := l) (fun h => by
                      have := (HGI.out.1 h).2.2.2 q hq12
                      rw [hOK] at this
                      cases this))
                    replace HX := Lib.hid HX
                    clear hd2 hb HS2 hOK hBB hqi hw1 hw2
                    go_upto_region 16 with (first | (go_at_call 46; go_loud (refine HX.out.mono ?_; rintro e w2 ⟨b, rfl, -, hb⟩; replace H := bstep H hb; clear hb)) | ((with_reducible refine wp_store_rowOf rfl rfl _ _ _ rfl _ rfl (#[.int .u8 b.k, .int .i16 b.y] : Array Value) rfl #[.int .u8 0, .int .i16 0] ?hr rfl (infoB _ _) (bv_one _ _) ?_); (case hr => rw [rowOf_alloc, if_pos rfl])))
                    generalize hW2 : World.setRow _ _ _ = W2
                    obtain ⟨HB, r2, b2⟩ := laid_row H hW2
                    clear hW2
                    have qr02 := Nat.lt_of_lt_of_le (rowOf_lt r0) H.size
                    replace r0 := row_kept r0 HB
                    replace H0 := bstep H0 HB
                    replace H := below_self HB
                    generalize w2.heap.size = g2 at *
                    go_wp2_with (with_reducible refine wp_store_zeroB H rfl rfl _ _ rfl _ rfl rfl _ r0 ?_)
                    rw [HF.out]
                    refine bodyPost_ret (results_ct rfl rfl (loadVar_rowOf (cc zC).toArray (by rw [rowOf_setRow, if_pos rfl, row_kept r0 H]; rfl) _ Tryd.underlying32 rfl (infoC _))) rfl ⟨rfl, bsetRow (bstep H0 H) hg0 _⟩
                  | some b0 =>
                    rw [hb] at HX hOK hBB
                    have HS3 := Lib.hid (HS2.out (by rw [hOK]; rfl))
                    have hz : wdB l q = b0 := hBB
                    have HK := crF_set (wdB l) hq12
                    rw [hz] at HK
                    replace HK := Lib.hid HK
                    replace HX := Lib.hid HX
                    clear hd2 hb HS2 hz hOK hBB
                    go_upto_region 16 with (first | (go_at_call 46; go_loud (refine HX.out.mono ?_; rintro e w2 ⟨b, rfl, hbb, hb⟩; obtain rfl := hbb b0 rfl; clear hbb; replace H := bstep H hb; clear hb)) | ((with_reducible refine wp_store_rowOf rfl rfl _ _ _ rfl _ rfl (#[.int .u8 b.k, .int .i16 b.y] : Array Value) rfl #[.int .u8 0, .int .i16 0] ?hr rfl (infoB _ _) (bv_one _ _) ?_); (case hr => rw [rowOf_alloc, if_pos rfl])))
                    generalize hW2 : World.setRow _ _ _ = W2
                    obtain ⟨HB, r2, b2⟩ := laid_row H hW2
                    clear hW2
                    have qr02 := Nat.lt_of_lt_of_le (rowOf_lt r0) H.size
                    replace r0 := row_kept r0 HB
                    have qr12 := Nat.lt_of_lt_of_le (rowOf_lt r1) H.size
                    replace r1 := row_kept r1 HB
                    replace H0 := bstep H0 HB
                    replace H := below_self HB
                    generalize w2.heap.size = g2 at *
                    have HC2 := Lib.hid (HL.out.below HB hgl)
                    have HP2 := Lib.hid (HP.out.below HB hgp)
                    have hgl3 := Nat.lt_of_lt_of_le hgl HB.size
                    have hgp3 := Nat.lt_of_lt_of_le hgp HB.size
                    have hkl : q < (crF (wdB l) q).toList.length := by rw [Vector.length_toList]; exact hq12
                    have f0 := rowOf_frozen r1 (q * 2)
                    have f1 := rowOf_frozen r1 (q * 2 + 1)
                    have y0 := row0 r1 hkl
                    have y1 := row1 r1 hkl
                    generalize rB (crF (wdB l) q).toList q = b' at y0 y1
                    go_wp2_with ((with_reducible refine wp_load_rowBg H ?_ _ _ rfl _ rfl _ r2 _ Tryd.underlying26 rfl (infoB _ _) ?_); rfl)
                    go_roundw
                    case rel =>
                      refine ⟨m + 1, by omega, by go_num, ?_, ?_, ?_, ?_, ?_, ?_, ?_, ?_⟩
                      · rw [Hid, row_far (by omega), row_far (by omega)]
                        exact r0
                      · have := row_put b r1 hkl
                        rw [HK.out] at this
                        rw [Hid, hq1.out]
                        exact this
                      · intro i v hv
                        rw [cell_far hgl2, cell_far hgl2]
                        exact HC2.out i v hv
                      · intro i v hv
                        rw [cell_far hgp1, cell_far hgp1]
                        exact HP2.out i v hv
                      · rw [Hid, hq1.out]
                        exact HS3.out
                      · simpa using hgl3
                      · simpa using hgp3
                      · exact (H0.setCell hg1 _).setCell hg1 _
                    case measure => simp [intOf]; omega
              · obtain rfl : m = 4 := by omega
                go_wp2
                go_roundw
                case rel => exact ⟨n + 1, by omega, by go_num, R0.out, by rw [show 4 * (n + 1) = 4 * n + 4 by omega]; exact R1.out, HL.out, HGn.out, by rw [show 4 * (n + 1) = 4 * n + 4 by omega]; exact HW.out, hgl, H0⟩
                case measure => simp [intOf]; omega
          · have h5 : ¬ (ps.length : Int) = 4 := by omega
            have HF := Lib.hid (rcR_bad (l := l) (fun h => by
              have := (HGI.out.1 h).2.2.1 n hlt
              rw [HLNn.out, decide_eq_true_iff] at this
              exact hp4 this))
            replace hp4 := Lib.hid hp4
            go_wp2_with (first | (go_at_call 49; go_loud (refine (HSn.out _).mono ?_; rintro e w2 ⟨v, rfl, HO, hb⟩; obtain ⟨gp, cp, rfl, HP, hBp, hgp, hcp⟩ := HO.lies; replace H := bstep H hb; clear hb)) | (with_reducible refine wp_store_zeroB H rfl rfl _ _ rfl _ rfl rfl _ r0 ?_))
            rw [HF.out]
            refine bodyPost_ret (results_ct rfl rfl (loadVar_rowOf (cc zC).toArray (by rw [rowOf_setRow, if_pos rfl, row_kept r0 H]; rfl) _ Tryd.underlying32 rfl (infoC _))) rfl ⟨rfl, bsetRow (bstep H0 H) hg0 _⟩
        · obtain rfl : n = 3 := by omega
          have HF := Lib.hid (rcR_good (l := l) (HGI.out.2 ⟨h4.out, h3e.out, HG.out, HW.out⟩))
          have r0 := R0.out
          have r1 := R1.out
          rw [show crF (wdB l) (4 * 3) = crOf (wdB l) from crF_full _] at r1
          generalize crOf (wdB l) = X at r1 HF
          have H := Below.refl wr.heap.size wr
          go_wp2_with (first | ((with_reducible refine wp_load_rowBg H ?_ _ _ rfl _ rfl _ r1 _ Tryd.underlying32 rfl (infoC X) ?_); rfl) | (with_reducible refine wp_store_rowB H rfl rfl _ _ _ rfl _ rfl _ rfl _ r0 (cc_size2 _ _) (infoC _) (cc_one _) ?_))
          rw [HF.out]
          refine bodyPost_ret (results_ct rfl rfl (loadVar_rowOf (cc X).toArray (by rw [rowOf_setRow, if_pos rfl, rowOf_below H (rowOf_lt r0), r0]; rfl) _ Tryd.underlying32 rfl (infoC _))) rfl ⟨rfl, bsetRow (bstep H0 H) (by omega) _⟩
  · have h5 : ¬ (ls.length : Int) = 4 := by omega
    have HF := Lib.hid (rcR_bad (l := l) (fun h => h4 (HGI.out.1 h).1))
    replace h4 := Lib.hid h4
    go_wp2_with (first | (go_at_call 49; go_loud (refine (HS.out _).mono ?_; rintro e w1 ⟨v, rfl, HO, hb⟩; obtain ⟨gl, cs, rfl, HL, hB, hgl, hcap⟩ := HO.lies; replace H := bstep H hb; clear hb)) | (with_reducible refine wp_store_zeroB H rfl rfl _ _ rfl _ rfl rfl _ r0 ?_))
    rw [HF.out]
    refine bodyPost_ret (results_ct rfl rfl (loadVar_rowOf (cc zC).toArray (by rw [rowOf_setRow, if_pos rfl, rowOf_below H (rowOf_lt r0), r0]; rfl) _ Tryd.underlying32 rfl (infoC _))) rfl ⟨rfl, bsetRow (bstep H0 H) (by omega) _⟩
end Go.Proofs.YtbngpcghognojaaDoor
