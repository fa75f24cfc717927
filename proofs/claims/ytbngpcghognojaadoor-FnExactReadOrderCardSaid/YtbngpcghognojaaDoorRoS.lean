/- Contract of the reference's ReadOrder. -/
import Derived.Test.YtbngpcghognojaaDoorRo
import Derived.Test.YtbngpcghognojaaDoorSplB
namespace Go.Proofs.YtbngpcghognojaaDoor
open Go Go.Sort Go.RowKit
set_option linter.unusedVariables false
set_option linter.unusedSimpArgs false
set_option maxRecDepth 100000
set_option maxHeartbeats 1000000
attribute [local go_sem] Oper.qB
theorem sReadOrder_any (l : List UInt8) (hl : l.length ≤ 1048576) (w : World) :
    Calls Tryd.prog 26 #[.string ⟨l.toArray⟩] w fun e w' => ∃ v, e = .returned (.tuple #[v, .int .i64 (roR l).2]) ∧ OwnN wc w' w.heap.size 70 3 v (roR l).1 ∧ Below w.heap.size w w' := by
  have htl : (⟨l.toArray⟩ : ByteArray).toList = l := by simp
  have HSP := fun W => l01Split_any l 32 W hl
  have e32 : ((32 : UInt8).toNat : Int) = 32 := rfl
  rw [e32] at HSP
  have HS2 := fun x (hx : x.length ≤ 1048576) W => l01Split_any x 120 W hx
  have e120 : ((120 : UInt8).toNat : Int) = 120 := rfl
  rw [e120] at HS2
  clear e32 e120
  replace HS2 := Lib.hid HS2
  have HRB := Lib.hid (fun x (hx : x.length ≤ 1048576) W => l01Read_any x hx W)
  have HNM := Lib.hid (fun x (hx : x.length ≤ 1048576) W => l01Number_any x W (by omega))
  have HLE := Lib.hid (fun p hp => Nat.le_trans (spl_le 32 l p hp) hl)
  have hpl := spl_len 32 l
  have HBD := Lib.hid (fun (h0 : l ≠ []) w hw h => roR_bad0 h0 (w := w) hw h)
  have HIV := Lib.hid (fun (h0 : l ≠ []) hs h => roR_inv0 h0 hs h)
  have HOK := Lib.hid (fun (h0 : l ≠ []) h1 h => roR_ok0 h0 h1 h)
  generalize spl 32 l = ps at HSP HLE hpl HBD HIV HOK
  generalize (⟨l.toArray⟩ : ByteArray) = S at htl HSP ⊢
  replace HSP := Lib.hid HSP
  by_cases h0 : l = []
  · have HF := Lib.hid (show roR l = ([], 0) by unfold roR; rw [if_pos h0])
    have h1 : (l == []) = true := by rw [h0]; rfl
    replace h0 := Lib.hid h0
    go_enter Tryd.func26, Tryd.ntmps26
    go_wp2
    rw [HF.out]
    exact bodyPost_ret (results_tt rfl) rfl ⟨_, rfl, (OwnS.lit (f := wc) (Nat.le_refl _)).1, (Below.refl _ w).alloc (Nat.le_refl _) _⟩
  · have h1 : (l == []) = false := by
      rw [← Bool.not_eq_true, beq_iff_eq]
      exact h0
    replace HBD := Lib.hid (HBD.out h0)
    replace HIV := Lib.hid (HIV.out h0)
    replace HOK := Lib.hid (HOK.out h0)
    replace h0 := Lib.hid h0
    go_enter Tryd.func26, Tryd.ntmps26
    go_wp2_with (go_at_call 49; go_loud (refine (HSP.out _).mono ?_; rintro e w1 ⟨v, rfl, HV, hb⟩; obtain ⟨gp, cp, rfl, HL, hgB, -, -⟩ := HV.lies; have H1 := ((Below.refl _ w).alloc (Nat.le_refl _) (.cells #[] 70)).trans (hb.mono (by simp)); have O1 := (OwnS.lit (f := wc) (e := 70) (size := 3) (Nat.le_refl w.heap.size)).kept hb; clear hb HV))
    have hsa : (w.alloc (.cells #[] 70)).heap.size = w.heap.size + 1 := by simp
    rw [hsa] at hgB
    clear hsa
    have hpl2 : ps.length ≤ 1048577 := by omega
    have hgp0 : (Value.slice (some ⟨w.heap.size, 0, none⟩) 0 0).ownBlock ≠ some gp := by
      intro e
      have : w.heap.size = gp := by simpa [Value.ownBlock] using e
      omega
    replace HL := Lib.hid HL
    replace O1 := Lib.hid O1
    replace hgp0 := Lib.hid hgp0
    clear hgB
    go_loopw [4, 6] (fun v i wr => ∃ k : Nat, k ≤ ps.length ∧ i = .int .i64 k ∧ Hid (OwnS wc wr w.heap.size 70 3 v (wantsOf0 (ps.take k))) ∧ Hid (∀ x ∈ ps.take k, (rdW0 x).isSome = true) ∧ Hid (Lies tcs wr gp ps) ∧ Hid (v.ownBlock ≠ some gp) ∧ Below w.heap.size w wr) (fun _ i _ => ps.length - (intOf i).toNat)
    case atStart => exact ⟨0, Nat.zero_le _, rfl, O1.out, fun x hx => by simp at hx, HL.out, hgp0.out, H1⟩
    case round =>
      clear O1 HL hgp0 H1
      obtain ⟨k, hk, rfl, HO, HA, HL, HN, H0⟩ := hrel
      by_cases hlt : k < ps.length
      · have x0 := lies_tcs HL.out hlt
        obtain ⟨wd, hwd⟩ : ∃ wd, wd = ps.getD k [] := ⟨_, rfl⟩
        have hmem : wd ∈ ps := by rw [hwd]; exact getD_in hlt
        have hwl := HLE.out wd hmem
        have HTS := take_step hlt
        rw [← hwd] at x0 HTS
        have hWK : Hid (∀ x, rdW0 wd = some x → wantsOf0 (ps.take (k + 1)) = wantsOf0 (ps.take k) ++ [x]) := fun x hx => by
          rw [HTS]
          unfold wantsOf0
          rw [List.map_append, List.map_cons, List.map_nil, hx]
          rfl
        have hAK : Hid (∀ x, rdW0 wd = some x → ∀ y ∈ ps.take (k + 1), (rdW0 y).isSome = true) := fun x hx y hy => by
          rw [HTS] at hy
          rcases List.mem_append.1 hy with q | q
          · exact HA.out y q
          · obtain rfl := List.mem_singleton.1 q
            rw [hx]
            rfl
        have hlt2 : (k : Int) < (ps.length : Int) := by omega
        have hlk : Hid ((wantsOf0 (ps.take k)).length ≤ 100000000) := by
          unfold wantsOf0
          rw [Hid, List.length_map, List.length_take]
          omega
        have HSW := HS2.out wd hwl
        have HLQ := Lib.hid (fun p hp => Nat.le_trans (spl_le 120 wd p hp) hwl)
        generalize (⟨wd.toArray⟩ : ByteArray) = T at x0 HSW
        replace hwd := Lib.hid hwd
        replace HTS := Lib.hid HTS
        replace hmem := Lib.hid hmem
        have H := Below.refl wr.heap.size wr
        by_cases h2 : (spl 120 wd).length = 2
        · obtain ⟨a, b, hab⟩ : ∃ a b, spl 120 wd = [a, b] := by
            match hs : spl 120 wd, h2 with
            | [a, b], _ => exact ⟨a, b, rfl⟩
          clear h2
          rw [hab] at HSW HLQ
          have hla := HLQ.out a (by simp)
          have hlb := HLQ.out b (by simp)
          have HB := HRB.out a hla
          have HNB := HNM.out b hlb
          have HY := Lib.hid (fun (t : Bt) (x : Wt) ha hb hx hn => rdW0_yes (t := t) (x := x) hab ha hb hx hn)
          have HZ1 := Lib.hid (@rdW0_none1 wd a b hab)
          have HZ2 := Lib.hid (@rdW0_none2 wd a b hab)
          have hnp := numR_pos b
          replace hab := Lib.hid hab
          generalize hz : numR b = z at HNB HY HZ2 hnp
          obtain ⟨n1, q1⟩ := z
          replace hz := Lib.hid hz
          simp only at hnp HNB
          replace HSW := Lib.hid HSW
          replace HB := Lib.hid HB
          replace HNB := Lib.hid HNB
          go_upto_region 11 with (go_at_call 49; go_loud (refine (HSW.out _).mono ?_; rintro e w2 ⟨v2, rfl, HV, hb⟩; obtain ⟨gq, cq, rfl, HQ, -, hgq, -⟩ := HV.lies; replace H := bstep H hb; clear hb HV))
          have y0 : w2.cell? ⟨gq, 0, none⟩ = some (.string ⟨a.toArray⟩) := lies_tcs HQ (i := 0) (by simp)
          have y1 : w2.cell? ⟨gq, 1, none⟩ = some (.string ⟨b.toArray⟩) := lies_tcs HQ (i := 1) (by simp)
          clear x0 HQ
          go_upto_region 12 with (first | (go_at_call 46; go_loud (refine (HB.out _).mono ?_; rintro e w3 ⟨zb, rfl, hzb, hb⟩; replace H := bstep H hb; replace y1 := (hb.cell hgq).trans y1; replace hgq := Nat.lt_of_lt_of_le hgq hb.size; clear hb)) | ((with_reducible refine wp_store_rowOf rfl rfl _ _ _ rfl _ rfl (#[.int .u8 zb.k, .int .i16 zb.y] : Array Value) rfl #[.int .u8 0, .int .i16 0] ?hr rfl (infoB _ _) (bv_one _ _) ?_); (case hr => rw [rowOf_alloc, if_pos rfl])))
          generalize hW1 : World.setRow _ _ _ = W1
          obtain ⟨HB1, r1, b1⟩ := laid_row (Below.refl w3.heap.size w3) hW1
          clear hW1 y0
          replace y1 := (HB1.cell hgq).trans y1
          have HR := bstep H HB1
          have HO2 := Lib.hid (HO.out.kept HR)
          have HL2 := Lib.hid (HL.out.below HR)
          have hBB := Lib.hid ((bstep H0 HR).size)
          clear HB1 H HO HL hgq
          generalize w3.heap.size = g1 at r1 b1 ⊢
          have H := Below.refl W1.heap.size W1
          go_upto_region 13 with (go_at_call 52; go_loud (refine (HNB.out _).mono ?_; rintro e w4 ⟨rfl, rfl⟩))
          clear y1
          cases hB : rdB a with
          | none =>
            have HF := Lib.hid (HBD.out wd hmem.out (HZ1.out hB))
            clear hzb hB hnp HY HZ1 HZ2 hWK hAK
            go_wp2
            rw [HF.out]
            exact bodyPost_ret (results_tt rfl) rfl ⟨_, rfl, (OwnS.lit (f := wc) (bstep H0 HR).size).1, (bstep H0 HR).alloc (bstep H0 HR).size _⟩
          | some t =>
            obtain rfl := hzb t hB
            cases q1 with
            | false =>
              have HF := Lib.hid (HBD.out wd hmem.out (HZ2.out (by rfl)))
              clear hzb hB hnp HY HZ1 HZ2 hWK hAK
              go_wp2
              rw [HF.out]
              exact bodyPost_ret (results_tt rfl) rfl ⟨_, rfl, (OwnS.lit (f := wc) (bstep H0 HR).size).1, (bstep H0 HR).alloc (bstep H0 HR).size _⟩
            | true =>
              by_cases c1 : 144 < n1
              · have HF := Lib.hid (HBD.out wd hmem.out (HZ2.out (by rw [Bool.true_and]; exact decide_eq_false (by omega))))
                clear hzb hB hnp HY HZ1 HZ2 hWK hAK
                go_wp2
                rw [HF.out]
                exact bodyPost_ret (results_tt rfl) rfl ⟨_, rfl, (OwnS.lit (f := wc) (bstep H0 HR).size).1, (bstep H0 HR).alloc (bstep H0 HR).size _⟩
              · obtain ⟨x, hxb, hxn⟩ : ∃ x : Wt, x.b = zb ∧ x.n = n1 := ⟨⟨zb, n1, by omega⟩, rfl, rfl⟩
                have hx := HY.out zb x hB (by rw [Bool.true_and]; exact decide_eq_true (by omega)) hxb hxn
                obtain rfl := hxb
                obtain rfl := hxn
                have hw16 : IntKind.i16.wrap x.n = x.n := wrap16_id x.hn
                have hWK2 := Lib.hid (hWK.out x hx)
                have hAK2 := Lib.hid (hAK.out x hx)
                clear hzb hB hnp HY HZ1 HZ2 hWK hAK hx
                go_wp2_with (first | ((with_reducible refine wp_load_rowBg H ?_ _ _ rfl _ rfl _ r1 _ Tryd.underlying26 rfl (infoB _ _) ?_); rfl) | (at_builtin; refine wp_app_wantA [gp] w.heap.size rfl _ _ rfl _ (wantsOf0 (ps.take k)) x rfl _ rfl ?hg ?HO ?hB ?hn ?hgs ?_; (case hg => simp); (case HO => exact HO2.out); (case hB => exact hBB.out); (case hn => exact hlk.out); (case hgs => exact fun q hq => by rw [List.mem_singleton.1 hq]; exact ⟨HL2.out.2, HN.out⟩); intro v1 w4 O4 hb4 hs4))
                go_roundw
                case rel => exact ⟨k + 1, by omega, by go_num, by rw [hWK2.out]; exact O4, hAK2.out, (hs4 gp (List.mem_singleton.2 rfl)).lies HL2.out hb4, (hs4 gp (List.mem_singleton.2 rfl)).2, (bstep H0 HR).trans hb4⟩
                case measure => simp [intOf]; omega
        · have HF := Lib.hid (HBD.out wd hmem.out (rdW0_not2 h2))
          have h3 : ¬ ((spl 120 wd).length : Int) = 2 := by omega
          clear HLQ
          generalize spl 120 wd = qs at HSW h2 h3
          replace h2 := Lib.hid h2
          replace HSW := Lib.hid HSW
          go_wp2_with (go_at_call 49; go_loud (refine (HSW.out _).mono ?_; rintro e w2 ⟨v2, rfl, HV, hb⟩; obtain ⟨gq, cq, rfl, HQ, -, hgq, -⟩ := HV.lies; replace H := bstep H hb; clear hb HV))
          rw [HF.out]
          exact bodyPost_ret (results_tt rfl) rfl ⟨_, rfl, (OwnS.lit (f := wc) (bstep H0 H).size).1, (bstep H0 H).alloc (bstep H0 H).size _⟩
      · obtain rfl : k = ps.length := by omega
        rw [List.take_length] at HO HA
        obtain ⟨gv, cap, rfl, KO, -, -, -⟩ := HO.out.lies
        have hwn : (wantsOf0 ps).length ≤ 1000000000 := by
          unfold wantsOf0
          rw [List.length_map]
          omega
        have HV := l02Ok_any gv 0 cap (wantsOf0 ps) wr KO.1 KO.2 hwn
        cases e1 : ordOk (wantsOf0 ps) with
        | true =>
          have HF := Lib.hid (HOK.out HA.out e1)
          rw [e1] at HV
          replace HV := Lib.hid HV
          clear e1 KO hwn
          go_wp2_with (go_at_call 40; go_loud (refine HV.out.mono ?_; rintro e w5 ⟨rfl, hb⟩))
          rw [HF.out]
          exact bodyPost_ret (results_tt rfl) rfl ⟨_, rfl, (HO.out.kept hb).1, bstep H0 hb⟩
        | false =>
          have HF := Lib.hid (HIV.out HA.out e1)
          rw [e1] at HV
          replace HV := Lib.hid HV
          clear e1 KO hwn
          go_wp2_with (go_at_call 40; go_loud (refine HV.out.mono ?_; rintro e w5 ⟨rfl, hb⟩))
          rw [HF.out]
          exact bodyPost_ret (results_tt rfl) rfl ⟨_, rfl, (OwnS.lit (f := wc) (bstep H0 hb).size).1, (bstep H0 hb).alloc (bstep H0 hb).size _⟩
end Go.Proofs.YtbngpcghognojaaDoor
