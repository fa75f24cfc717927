/- Contracts of what an order lacks behind some crates (the reference's). -/
import Derived.Test.YtnhpgahapjjjbaaLack
import Derived.Test.YtnhpgahapjjjbaaInts
namespace Go.Proofs.Ytnhpgahapjjjbaa
open Go.RowKit
set_option linter.unusedVariables false
set_option linter.unusedSimpArgs false
set_option maxRecDepth 100000
set_option maxHeartbeats 1000000
attribute [local go_sem] Oper.qB
/-- Number i is told there for the first time. -/
def fresh (ks : List Int) (i : Nat) : Bool := !(ks.take i).contains (ks.getD i 0)
def opK (lc : List Cr) (ks : List Int) (j : Nat) : List Cr := ((List.range j).filter (fresh ks)).map fun i => lc[(ks.getD i 0).toNat]!
/-- Some crates, each once. -/
def opL (lc : List Cr) (ks : List Int) : List Cr := opK lc ks ks.length
theorem opK_yes {lc : List Cr} {ks : List Int} {j : Nat} (h : fresh ks j = true) : opK lc ks (j + 1) = opK lc ks j ++ [lc[(ks.getD j 0).toNat]!] := by
  unfold opK
  rw [List.range_succ, List.filter_append, List.map_append]
  simp [h]
theorem opK_no {lc : List Cr} {ks : List Int} {j : Nat} (h : fresh ks j = false) : opK lc ks (j + 1) = opK lc ks j := by
  unfold opK
  rw [List.range_succ, List.filter_append, List.map_append]
  simp [h]
theorem opK_le (lc : List Cr) (ks : List Int) (j : Nat) : (opK lc ks j).length ≤ j := by
  unfold opK
  rw [List.length_map]
  exact Nat.le_trans (List.length_filter_le _ _) (by simp)
theorem cntL_snoc (l : List Cr) (c : Cr) (b : Bt) : cntL (l ++ [c]) b = cntL l b + cntC c b := by simp [cntL]
theorem RdA.take {w : World} {A : Option Addr} {vs : List Value} (h : RdA w A vs) (k : Nat) : RdA w A (vs.take k) := by
  rcases h with rfl | ⟨g, off, rfl, hg, hC⟩
  · exact .inl (by simp)
  · exact .inr ⟨g, off, rfl, hg, hC.take k⟩
theorem vi_take (l : List Int) (k : Nat) : vi (l.take k) = (vi l).take k := by simp [vi, List.map_take]
theorem has_step {l : List Int} {k : Nat} {x : Int} (hk : k < l.length) (h : (l.take k).contains x = false) : (l.take (k + 1)).contains x = (l.getD k 0 == x) := by
  have e : l[k] = l.getD k 0 := by simp [List.getD_eq_getElem?_getD, hk]
  rw [List.take_succ_eq_append_getElem hk, e]
  simp only [List.contains_eq_mem, List.mem_append, List.mem_singleton, decide_eq_false_iff_not] at h ⊢
  rw [Bool.eq_iff_iff, decide_eq_true_iff, beq_iff_eq]
  exact ⟨fun q => (q.resolve_left h).symm, fun q => .inr q.symm⟩
theorem has_hit {l : List Int} {k : Nat} (hk : k < l.length) : l.contains (l.getD k 0) = true := by
  have e : l[k] = l.getD k 0 := by simp [List.getD_eq_getElem?_getD, hk]
  rw [← e]
  simp
theorem l00Has_rd (A : Option Addr) (c n : Nat) (l : List Int) (x : Int) (w : World) (h : RdA w A (vi l)) (hn : l.length = n) (hm : n ≤ 1000000000) :
    Calls Try.prog 82 #[.slice A n c, .int .i64 x] w fun e w' => e = .returned (.bool (l.contains x)) ∧ w = w' := by
  subst hn
  have HR := Lib.hid h
  clear h
  go_enter Try.func82, Try.ntmps82
  go_wp2
  go_loopw [5] (fun i wr => ∃ k : Nat, k ≤ l.length ∧ i = .int .i64 k ∧ Hid ((l.take k).contains x = false) ∧ wr = w) (fun i _ => l.length - (intOf i).toNat)
  case atStart => exact ⟨0, Nat.zero_le _, rfl, rfl, rfl⟩
  case round =>
    obtain ⟨k, hk, rfl, HN, rfl⟩ := hrel
    by_cases hlt : k < l.length
    · obtain ⟨g, off, rfl, hg, hC⟩ := HR.out.some (by rw [vi_length]; omega)
      have x0 := hC k _ (vi_at l k hlt)
      have HS := Lib.hid (has_step hlt HN.out)
      have HT := Lib.hid (has_hit hlt)
      clear hC HN
      generalize l.getD k 0 = y at x0 HS HT
      by_cases he : y = x
      · subst he
        have HT2 := Lib.hid HT.out
        go_wp2
        go_ret
        exact ⟨ret_bool HT2.out.symm, rfl⟩
      · have HS2 : Hid ((l.take (k + 1)).contains x = false) := by
          rw [Hid, HS.out]
          simpa using he
        go_wp2
        go_roundw
        case rel => exact ⟨k + 1, by omega, by go_num, HS2, trivial⟩
        case measure => simp [intOf]; omega
    · obtain rfl : k = l.length := by omega
      rw [List.take_length] at HN
      go_wp2
      go_ret
      exact ⟨ret_bool HN.out.symm, rfl⟩
theorem l02Lack_any (A0 : Option Addr) (c0 : Nat) (lc : List Cr) (b off c1 : Nat) (l : List Wt) (A2 : Option Addr) (c2 : Nat) (ks : List Int) (w : World) (hr : RdA w A0 (fl cc lc)) (hC : CAt w b off (fl wc l)) (hb1 : b < w.heap.size) (h2 : RdA w A2 (vi ks))
    (hk : ∀ x ∈ ks, 0 ≤ x ∧ x < lc.length) (hc2 : ks.length ≤ c2) (hn : lc.length ≤ 1048576) (hl : l.length ≤ 1000000) (hkn : ks.length ≤ 1048576) :
    Calls Try.prog 81 #[.slice A0 lc.length c0, .slice (some ⟨b, off, none⟩) l.length c1, .slice A2 ks.length c2] w fun e w' => ∃ v, e = .returned v ∧ OwnS wc w' w.heap.size 100 3 v (lackL (cntL (opL lc ks)) l) ∧ Below w.heap.size w w' := by
  have HC := Lib.hid (⟨hC, hb1⟩ : _ ∧ _)
  have HR := Lib.hid hr
  have H2 := Lib.hid h2
  have HK := Lib.hid hk
  clear hC hb1 hr h2 hk
  go_enter Try.func81, Try.ntmps81
  go_wp2
  go_loopw [7, 8] (fun v i wr => ∃ k : Nat, k ≤ l.length ∧ i = .int .i64 k ∧ Hid (OwnS wc wr w.heap.size 100 3 v (lackL (cntL (opL lc ks)) (l.take k))) ∧ Below w.heap.size w wr) (fun _ i _ => l.length - (intOf i).toNat)
  case atStart => exact ⟨0, Nat.zero_le _, rfl, OwnS.lit (Nat.le_refl _), by go_grown⟩
  case round =>
    obtain ⟨k, hk, rfl, HO, hb⟩ := hrel
    obtain ⟨wo, hwo⟩ : ∃ wo, wo = wr := ⟨_, rfl⟩
    subst hwo
    by_cases hlt : k < l.length
    · have HX := Lib.hid ((HC.out.1.below hb HC.out.2).el wc_length hlt)
      have HW := Lib.hid (Nat.lt_of_lt_of_le HC.out.2 hb.size)
      have R0 := Lib.hid (HR.out.below hb)
      have R2 := Lib.hid (H2.out.below hb)
      have HL := Lib.hid (@lackL_step (cntL (opL lc ks)) l k hlt)
      have HP := Lib.hid (lackL_le (cntL (opL lc ks)) (l.take k))
      have hcl : (l.take k).length ≤ k := by simp; omega
      have hlt2 : (k : Int) < (l.length : Int) := by omega
      generalize l[k]! = x at HX HL
      generalize lackL (cntL (opL lc ks)) (l.take k) = lk at HO HL HP
      obtain ⟨hn1, hn2⟩ := x.hn
      have x2 : wo.cell? ⟨b, off + k * 3 + 2, none⟩ = some (.int .i16 x.n) := HX.out 2 _ rfl
      have hwx : IntKind.i64.wrap x.n = x.n := by rw [IntKind.wrap_i64]; omega
      go_wp2
      go_loopw [9, 10] (fun n i wr => ∃ j : Nat, j ≤ ks.length ∧ i = .int .i64 j ∧ n = .int .i64 (x.n - (cntL (opK lc ks j) x.b : Int)) ∧ Hid (Below wo.heap.size wo wr)) (fun _ i _ => ks.length - (intOf i).toNat)
      case atStart => exact ⟨0, Nat.zero_le _, rfl, by simp [opK, cntL], Below.refl _ _⟩
      case round =>
        obtain ⟨j, hj, rfl, rfl, HQ⟩ := hrel
        by_cases hltj : j < ks.length
        · obtain ⟨g2, off2, rfl, hg2, hC2⟩ := R2.out.some (by rw [vi_length]; omega)
          obtain ⟨hy1, hy2⟩ := HK.out (ks.getD j 0) (by rw [List.getD_eq_getElem?_getD, List.getElem?_eq_getElem hltj]; exact List.getElem_mem hltj)
          obtain ⟨g0, off0, rfl, hg0, hC0⟩ := R0.out.some (by rw [fl_length cc_length]; omega)
          have HY := Lib.hid (@opK_yes lc ks j)
          have HN := Lib.hid (@opK_no lc ks j)
          have HF : Hid (fresh ks j = !(ks.take j).contains (ks.getD j 0)) := rfl
          have hle := opK_le lc ks j
          have hcn := cntL_le (opK lc ks j) x.b
          have Y0 := Lib.hid ((HQ.out.cell hg2).trans (hC2 j _ (vi_at ks j hltj)))
          have G2 := Lib.hid (Nat.lt_of_lt_of_le hg2 HQ.out.size)
          have HG2 : Hid (RdA wr (some ⟨g2, off2, none⟩) (vi (ks.take j))) := by rw [vi_take]; exact (R2.out.below HQ.out).take j
          have HCX := Lib.hid ((hC0.below HQ.out hg0).el cc_length (i := (ks.getD j 0).toNat) (by omega))
          have hg0' := Lib.hid (Nat.lt_of_lt_of_le hg0 HQ.out.size)
          have ZX := Lib.hid (HX.out.below HQ.out HW.out)
          have ZW := Lib.hid (Nat.lt_of_lt_of_le HW.out HQ.out.size)
          clear hC2 hC0 hg2 hg0 R0 R2
          have hlj : (ks.take j).length = j := by simp; omega
          generalize ks.getD j 0 = y at Y0 HF HY HN HCX hy1 hy2
          obtain ⟨i, rfl⟩ : ∃ i : Nat, y = (i : Int) := ⟨y.toNat, by omega⟩
          rw [Int.toNat_natCast] at HY HCX
          have hi2 : i < lc.length := by omega
          generalize lc[i]! = c at HY HCX
          have hcc := cntC_le c x.b
          have hsn := Lib.hid (cntL_snoc (opK lc ks j) c x.b)
          generalize hm : cntL (opK lc ks j) x.b = m at hcn hsn ⊢
          replace hm := Lib.hid hm
          have hHas := fun (W : World) (h : Below wr.heap.size wr W) => below_of_same (l00Has_rd (some ⟨g2, off2, none⟩) c2 j (ks.take j) (i : Int) W (HG2.out.below h) hlj (by omega))
          generalize (ks.take j).contains (i : Int) = r at hHas HF
          have hj2 : (j : Int) < (ks.length : Int) := by omega
          have hmb : m ≤ 12582912 := by omega
          have hw0 : IntKind.i64.wrap (x.n - (m : Int)) = x.n - (m : Int) := by rw [IntKind.wrap_i64]; omega
          have hw1 : IntKind.i64.wrap (x.n - (m : Int) - (cntC c x.b : Int)) = x.n - (m : Int) - (cntC c x.b : Int) := by rw [IntKind.wrap_i64]; omega
          have hjc : j ≤ c2 := by omega
          have hjc2 : (j : Int) ≤ (c2 : Int) := by omega
          have y0 := cell_regrown Y0.out
          go_upto_region 9 with fail
          have H := Below.refl wr.heap.size wr
          cases r with
          | true =>
            have HE := Lib.hid (HN.out HF.out)
            refine wp_region_qB (by kernel_rfl) (by kernel_rfl) ?_
            (repeat (first | fail | (apply qB_step; intro K hK; go_simp; first | (refine hK _ ?_; clear hK K) | (apply Exists.intro; refine ⟨fun _ => ?_, hK _ ?_⟩; (first | (go_at_call 82 <;> exact hHas _ (below_regrown _ _ _))); clear hK K))))
            refine qB_nil ?_
            intro w1 hw1
            replace H := bstep H hw1
            clear hw1
            go_wp2
            go_roundw
            case rel => exact ⟨j + 1, by omega, by go_num, by rw [HE.out, hm.out], bstep HQ.out H⟩
            case measure => simp [intOf]; omega
          | false =>
            have HE := Lib.hid (HY.out HF.out)
            refine wp_region_qB (by kernel_rfl) (by kernel_rfl) ?_
            (repeat (first | fail | (apply qB_step; intro K hK; go_simp; first | (refine hK _ ?_; clear hK K) | (apply Exists.intro; refine ⟨fun _ => ?_, hK _ ?_⟩; (first | (go_at_call 82 <;> exact hHas _ (below_regrown _ _ _))); clear hK K))))
            refine qB_nil ?_
            intro w1 hw1
            replace H := bstep H hw1
            clear hw1
            clear y0 hHas
            have y0 := cell_regrown ((H.cell G2.out).trans Y0.out)
            have z0 := cell_regrown ((H.cell ZW.out).trans (ZX.out 0 _ rfl))
            have z1 := cell_regrown ((H.cell ZW.out).trans (ZX.out 1 _ rfl))
            rw [Nat.add_zero] at z0
            have HC1 := Lib.hid (⟨HCX.out.below H hg0'.out, Nat.lt_of_lt_of_le hg0'.out H.size⟩ : CAt w1 g0 _ (cc c) ∧ g0 < w1.heap.size)
            go_upto_region 10 with fail
            have HH := Lib.hid H
            clear H
            have H := Below.refl w1.heap.size w1
            refine wp_region_qB (by kernel_rfl) (by kernel_rfl) ?_
            (repeat (first | fail | (apply qB_step; intro K hK; go_simp; first | (refine hK _ ?_; clear hK K) | (apply Exists.intro; refine ⟨fun _ => ?_, hK _ ?_⟩; (first | (go_at_call 124 <;> exact l02Has_any g0 _ c x.b _ (HC1.out.1.below (below_regrown _ _ _) HC1.out.2) (Nat.lt_of_lt_of_le HC1.out.2 (below_regrown _ _ _).size))); clear hK K))))
            refine qB_nil ?_
            intro w1 hw1
            replace H := bstep H hw1
            clear hw1
            go_wp2
            go_roundw
            case rel => exact ⟨j + 1, by omega, by go_num, by rw [HE.out, hsn.out]; exact congrArg (Value.int .i64) (by omega), bstep (bstep HQ.out HH.out) H⟩
            case measure => simp [intOf]; omega
        · obtain rfl : j = ks.length := by omega
          have HO1 := Lib.hid (HO.out.kept HQ.out)
          have hb1 := bstep hb HQ.out
          have HD : Hid (cntL (opL lc ks) x.b = cntL (opK lc ks ks.length) x.b) := rfl
          have hle := opK_le lc ks ks.length
          have hcn := cntL_le (opK lc ks ks.length) x.b
          have x0 : wr.cell? ⟨b, off + k * 3, none⟩ = some (.int .u8 x.b.k) := (HQ.out.cell HW.out).trans (HX.out 0 _ rfl)
          have x1 : wr.cell? ⟨b, off + k * 3 + 1, none⟩ = some (.int .i16 x.b.y) := (HQ.out.cell HW.out).trans (HX.out 1 _ rfl)
          have hp2 := HP.out
          clear x2
          rw [HD.out] at HL
          generalize cntL (opK lc ks ks.length) x.b = m at hcn HL ⊢
          have hmb : m ≤ 12582912 := by omega
          have hw0 : IntKind.i64.wrap (x.n - (m : Int)) = x.n - (m : Int) := by rw [IntKind.wrap_i64]; omega
          by_cases hp : 0 < x.n - (m : Int)
          · have HY := Lib.hid (lack1_yes hp)
            have hwn : IntKind.i16.wrap (x.n - (m : Int)) = x.n - (m : Int) := wrap_i16 (by omega)
            go_wp2_with (at_builtin; refine wp_app_want w.heap.size rfl _ _ rfl _ lk ⟨x.b, x.n - (m : Int), by omega⟩ rfl _ rfl ?hg ?HO ?hB ?hn ?_; (case hg => simp); (case HO => exact HO1.out); (case hB => exact hb1.size); (case hn => omega); intro v1 w1 hown hb2)
            go_roundw
            case rel => exact ⟨k + 1, by omega, by go_num, by rw [HL.out, HY.out]; exact hown, hb1.trans hb2⟩
            case measure => simp [intOf]; omega
          · have HY := Lib.hid (lack1_no hp)
            go_wp2
            go_roundw
            case rel => exact ⟨k + 1, by omega, by go_num, by rw [HL.out, HY.out, List.append_nil]; exact HO1.out, hb1⟩
            case measure => simp [intOf]; omega
    · obtain rfl : k = l.length := by omega
      rw [List.take_length] at HO
      go_wp2
      go_ret
      exact ⟨_, rfl, HO.out, hb⟩
end Go.Proofs.Ytnhpgahapjjjbaa
