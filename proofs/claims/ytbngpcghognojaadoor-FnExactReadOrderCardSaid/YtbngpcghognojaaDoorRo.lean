/- Contract of the program's ReadOrder. -/
import Derived.Test.YtbngpcghognojaaDoorRoP
import Derived.Test.YtbngpcghognojaaDoorReadB
import Derived.Test.YtbngpcghognojaaDoorSplT
import Derived.Test.YtbngpcghognojaaDoorAppA
import Derived.Test.YtbngpcghognojaaDoorMarkW
import Derived.Shelf.Strings.Split
namespace Go.Proofs.YtbngpcghognojaaDoor
open Go Go.Sort Go.RowKit
set_option linter.unusedVariables false
set_option linter.unusedSimpArgs false
set_option maxRecDepth 100000
set_option maxHeartbeats 1000000
attribute [local go_sem] Oper.qB
theorem lies_tcs {w : World} {g i : Nat} {ls : List (List UInt8)} (h : Lies tcs w g ls) (hi : i < ls.length) : w.cell? ⟨g, i, none⟩ = some (.string ⟨(ls.getD i []).toArray⟩) := by
  have e : ∀ ls : List (List UInt8), fl tcs ls = ls.map fun x => .string ⟨x.toArray⟩ := fun ls => by
    induction ls with
    | nil => rfl
    | cons x ls ih => rw [fl_cons, ih]; rfl
  have := h.1 i (.string ⟨(ls.getD i []).toArray⟩) (by rw [e, List.getElem?_map, List.getElem?_eq_getElem hi, List.getD_eq_getElem?_getD, List.getElem?_eq_getElem hi]; rfl)
  rwa [Nat.zero_add] at this
theorem spl_le (s : UInt8) : ∀ (l : List UInt8), ∀ p ∈ spl s l, p.length ≤ l.length
  | [], p, hp => by
    obtain rfl : p = [] := by simpa [spl] using hp
    simp
  | c :: l, p, hp => by
    have ih := spl_le s l
    rw [spl] at hp
    split at hp
    · rcases List.mem_cons.1 hp with rfl | hp
      · simp
      · exact Nat.le_succ_of_le (ih p hp)
    · cases hs : spl s l with
      | nil =>
        rw [hs] at hp
        obtain rfl : p = [c] := by simpa [preS] using hp
        simp
      | cons q ps =>
        rw [hs] at hp ih
        rcases List.mem_cons.1 hp with rfl | hp
        · have := ih q (List.mem_cons_self ..)
          simp only [List.cons_append, List.nil_append, List.length_cons]
          omega
        · exact Nat.le_succ_of_le (ih p (List.mem_cons_of_mem _ hp))
theorem getD_in {ls : List (List UInt8)} {i : Nat} (h : i < ls.length) : ls.getD i [] ∈ ls := by
  rw [List.getD_eq_getElem?_getD, List.getElem?_eq_getElem h]
  exact List.getElem_mem h
theorem take_step {ls : List (List UInt8)} {k : Nat} (h : k < ls.length) : ls.take (k + 1) = ls.take k ++ [ls.getD k []] := by
  rw [List.take_succ_eq_append_getElem h, List.getD_eq_getElem?_getD, List.getElem?_eq_getElem h]
  rfl
theorem Split_any (l : List UInt8) (m : Int) (w : World) (hl : l.length ≤ 1048576) (hm : w.cell? ⟨Tryd.lx53_ren.g 1, 0, none⟩ = some (.int .i64 m)) :
    Calls Tryd.prog 53 #[.string ⟨l.toArray⟩, .string ⟨#[32]⟩] w fun e w' => e = .returned (.slice (some ⟨w.heap.size, 0, none⟩) (spl 32 l).length (spl 32 l).length) ∧ Lies tcs w' w.heap.size (spl 32 l) ∧ Below w.heap.size w w' := by
  have hsz := size_text l
  have h1 : (Lib.splitB ⟨#[32]⟩ 0 (Lib.countB ⟨l.toArray⟩ ⟨#[32]⟩) ⟨l.toArray⟩).map (·.data.toList) = spl 32 l := by
    rw [Lib.splitB_data]
    exact splitK_spl 32 l.length l (Nat.le_refl _)
  have h2 := Lib.splitB_all ⟨#[32]⟩ (by decide) 0 _ (⟨l.toArray⟩ : ByteArray) rfl
  have h3 : (spl 32 l).length = Lib.countB ⟨l.toArray⟩ ⟨#[32]⟩ + 1 := by rw [← h1, List.length_map, h2]
  have h4 : (Lib.splitB ⟨#[32]⟩ 0 (Lib.countB ⟨l.toArray⟩ ⟨#[32]⟩) ⟨l.toArray⟩).map Value.string = fl tcs (spl 32 l) := by
    have e : ∀ ls : List (List UInt8), fl tcs ls = ls.map fun x => .string ⟨x.toArray⟩ := fun ls => by
      induction ls with
      | nil => rfl
      | cons x ls ih => rw [fl_cons, ih]; rfl
    rw [e, ← h1, List.map_map]
    exact List.map_congr_left fun x _ => by simp [Lib.mk_data]
  refine (Any.strings_Split Tryd.lx53 (by kernel_rfl) ⟨l.toArray⟩ ⟨#[32]⟩ m w (by omega) hm (by decide)).mono ?_
  rintro e w' ⟨rfl, rfl⟩
  rw [h3, h4]
  refine ⟨rfl, ⟨fun i v hi => ?_, by simp⟩, (Below.refl _ w).alloc (Nat.le_refl _) _⟩
  rw [Nat.zero_add]
  simp only [World.cell?_alloc_new]
  simpa using hi
theorem ReadOrder_any (l : List UInt8) (hl : l.length ≤ 1048576) (m : Int) (w : World) (ht : Tab w) (h2 : ErrV w (Tryd.lx66_ren.g 15)) (h3 : ErrV w (Tryd.lx66_ren.g 16)) (hm : w.cell? ⟨Tryd.lx47_ren.g 1, 0, none⟩ = some (.int .i64 m)) :
    Calls Tryd.prog 27 #[.string ⟨l.toArray⟩] w fun e w' => ∃ v, e = .returned (.tuple #[v, .int .i64 (roR l).2]) ∧ OwnN wc w' w.heap.size 70 3 v (roR l).1 ∧ Below w.heap.size w w' := by
  have htl : (⟨l.toArray⟩ : ByteArray).toList = l := by simp
  have hm2 := fun W (hW : Below w.heap.size w W) => (hW.cell (World.block_lt_of_cell? _ _ hm)).trans hm
  have HSP := fun W (hW : Below w.heap.size w W) => Split_any l m W hl (hm2 W hW)
  have HCT := fun (x : List UInt8) (hx : x.length ≤ 1048576) W (hW : Below w.heap.size w W) => Any.strings_Cut Tryd.lx47 ⟨x.toArray⟩ ⟨#[120]⟩ m W (by rw [size_text]; omega) (hm2 W hW)
  have hd2 : (⟨#[120]⟩ : ByteArray).data.toList = [120] := rfl
  have hd1 : ∀ x : List UInt8, (⟨x.toArray⟩ : ByteArray).data.toList = x := fun x => by simp
  simp only [hd2, hd1] at HCT
  have HRB := Lib.hid (fun (x : List UInt8) (hx : x.length ≤ 1048576) W (hW : Below w.heap.size w W) => ReadBottle_any x hx m W (ht.below hW) (h2.below hW) (h3.below hW) (hm2 W hW))
  have HRD : Hid (∀ (x : List UInt8), x.length ≤ 1048576 → ∀ W, Below w.heap.size w W → Calls Tryd.prog 48 #[.string ⟨x.toArray⟩, .int .i64 1, .int .i64 144] W fun e w' => (∃ n : Int, e = .returned (.tuple #[.int .i64 n, .bool (rdR 1 144 x)]) ∧ (rdR 1 144 x = true → n = (valD x : Int))) ∧ Below W.heap.size W w') := fun x hx W hW => readDecimal_any x 1 144 (by omega) hx W (ht.below hW) (h2.below hW) (h3.below hW)
  clear ht h2 h3 hm hm2 hd1 hd2
  replace HCT := Lib.hid HCT
  have HLE := Lib.hid (fun p hp => Nat.le_trans (spl_le 32 l p hp) hl)
  have hpl := spl_len 32 l
  have HBD := Lib.hid (fun (h0 : l ≠ []) w hw h => roR_bad h0 (w := w) hw h)
  have HIV := Lib.hid (fun (h0 : l ≠ []) h => roR_inv h0 h)
  have HOK := Lib.hid (fun (h0 : l ≠ []) h1 h => roR_ok h0 h1 h)
  have hne := spl_ne 32 l
  generalize spl 32 l = ps at HSP HLE hpl HBD HIV HOK hne
  generalize (⟨l.toArray⟩ : ByteArray) = S at htl HSP ⊢
  replace HSP := Lib.hid HSP
  have H := Below.refl w.heap.size w
  by_cases h0 : l = []
  · have HF := Lib.hid (show roR l = ([], 0) by unfold roR; rw [if_pos h0])
    have h1 : (l == []) = true := by rw [h0]; rfl
    replace h0 := Lib.hid h0
    replace hne := Lib.hid hne
    go_enter Tryd.func27, Tryd.ntmps27
    go_wp2
    rw [HF.out]
    exact bodyPost_ret (results_tt rfl) rfl ⟨_, rfl, (OwnS.lit (f := wc) (Nat.le_refl _)).1, (Below.refl _ w).alloc (Nat.le_refl _) _⟩
  · have h1 : (l == []) = false := by
      rw [← Bool.not_eq_true, beq_iff_eq]
      exact h0
    replace HBD := Lib.hid (HBD.out h0)
    replace HIV := Lib.hid (HIV.out h0)
    replace HOK := Lib.hid (HOK.out h0)
    replace h0 := Lib.hid h0
    replace hne := Lib.hid hne
    go_enter Tryd.func27, Tryd.ntmps27
    go_wp2_with (go_at_call 53; go_loud (refine (HSP.out _ ((Below.refl _ w).alloc (Nat.le_refl _) _)).mono ?_; rintro e w1 ⟨rfl, HL, hb⟩; have H1 := ((Below.refl _ w).alloc (Nat.le_refl _) (.cells #[] 70)).trans (hb.mono (by simp)); have O1 := (OwnS.lit (f := wc) (e := 70) (size := 3) (Nat.le_refl w.heap.size)).kept hb; clear hb))
    have hsa : (w.alloc (.cells #[] 70)).heap.size = w.heap.size + 1 := by simp
    rw [hsa] at HL
    clear hsa
    generalize hgp : w.heap.size + 1 = gp at HL ⊢
    have hpl2 : ps.length ≤ 1048577 := by omega
    have hgp0 : (Value.slice (some ⟨w.heap.size, 0, none⟩) 0 0).ownBlock ≠ some gp := by
      intro e
      have : w.heap.size = gp := by simpa [Value.ownBlock] using e
      omega
    replace HL := Lib.hid HL
    replace O1 := Lib.hid O1
    replace hgp0 := Lib.hid hgp0
    replace hgp := Lib.hid hgp
    go_loopw [4, 21] (fun v i wr => ∃ k : Nat, k ≤ ps.length ∧ i = .int .i64 k ∧ Hid (OwnS wc wr w.heap.size 70 3 v (wantsOf (ps.take k))) ∧ Hid (∀ x ∈ ps.take k, (rdW x).isSome = true) ∧ Hid (Lies tcs wr gp ps) ∧ Hid (v.ownBlock ≠ some gp) ∧ Below w.heap.size w wr) (fun _ i _ => ps.length - (intOf i).toNat)
    case atStart => exact ⟨0, Nat.zero_le _, rfl, O1.out, fun x hx => by simp at hx, HL.out, hgp0.out, H1⟩
    case round =>
      clear O1 HL hgp0 H1
      obtain ⟨k, hk, rfl, HO, HA, HL, HN, H0⟩ := hrel
      by_cases hlt : k < ps.length
      · have x0 := lies_tcs HL.out hlt
        obtain ⟨wd, hwd⟩ : ∃ wd, wd = ps.getD k [] := ⟨_, rfl⟩
        have hmem : wd ∈ ps := by rw [hwd]; exact getD_in hlt
        have hwl := HLE.out wd hmem
        have HTS := take_step hlt
        rw [← hwd] at x0 HTS
        have hWK : Hid (∀ x, rdW wd = some x → wantsOf (ps.take (k + 1)) = wantsOf (ps.take k) ++ [x]) := fun x hx => by
          rw [HTS]
          unfold wantsOf
          rw [List.map_append, List.map_cons, List.map_nil, hx]
          rfl
        have hAK : Hid (∀ x, rdW wd = some x → ∀ y ∈ ps.take (k + 1), (rdW y).isSome = true) := fun x hx y hy => by
          rw [HTS] at hy
          rcases List.mem_append.1 hy with q | q
          · exact HA.out y q
          · obtain rfl := List.mem_singleton.1 q
            rw [hx]
            rfl
        have HC := HCT.out wd hwl
        have hcl := cut_len wd [120]
        have hcut := rdW_cut (w := wd)
        have hlt2 : (k : Int) < (ps.length : Int) := by omega
        have hlk : Hid ((wantsOf (ps.take k)).length ≤ 100000000) := by
          unfold wantsOf
          rw [Hid, List.length_map, List.length_take]
          omega
        generalize Lib.cut wd [120] = z at HC hcl hcut
        obtain ⟨a, b, f⟩ := z
        simp only at HC hcl hcut
        have HB := HRB.out a (by omega)
        have HD := HRD.out b (by omega)
        generalize (⟨wd.toArray⟩ : ByteArray) = T at x0 HC
        generalize (⟨a.toArray⟩ : ByteArray) = TA at HC HB
        generalize (⟨b.toArray⟩ : ByteArray) = TB at HC HD
        replace HC := Lib.hid HC
        replace HD := Lib.hid HD
        replace hwd := Lib.hid hwd
        replace HTS := Lib.hid HTS
        replace hmem := Lib.hid hmem
        obtain ⟨zb, hzb⟩ : ∃ zb, zb = rbR a := ⟨_, rfl⟩
        rw [← hzb] at HB
        obtain ⟨zb, zc⟩ := zb
        simp only at HB
        replace HB := Lib.hid HB
        have H := Below.refl wr.heap.size wr
        go_upto_region 9 with (first | (go_at_call 47; go_loud (refine (HC.out _ (bstep H0 H)).mono ?_; rintro e w2 ⟨rfl, q, rfl⟩; replace H := bdrewN H q)) | (go_at_call 21; go_loud (refine (HB.out _ (bstep H0 H)).mono ?_; rintro e w2 ⟨rfl, hb⟩; replace H := bstep H hb; clear hb)) | ((with_reducible refine wp_store_rowOf rfl rfl _ _ _ rfl _ rfl (#[.int .u8 zb.k, .int .i16 zb.y] : Array Value) rfl #[.int .u8 0, .int .i16 0] ?hr rfl (infoB _ _) (bv_one _ _) ?_); (case hr => rw [rowOf_alloc, if_pos rfl])))
        generalize hW1 : World.setRow _ _ _ = W1
        obtain ⟨HB, r1, b1⟩ := laid_row H hW1
        clear hW1
        replace H0 := bstep H0 HB
        replace H := below_self HB
        generalize w2.heap.size = g1 at *
        have HO2 := Lib.hid (HO.out.kept HB)
        have HL2 := Lib.hid (HL.out.below HB)
        clear HB HO HL x0
        go_upto_region 10 with (go_at_call 48; go_loud (refine (HD.out _ (bstep H0 H)).mono ?_; rintro e w3 ⟨⟨n1, rfl, hn1⟩, hb⟩; replace H := bstep H hb; clear hb))
        clear HC HD hcl hwl
        generalize hq : rdR 1 144 b = qd at hn1 hcut ⊢
        replace hq := Lib.hid hq
        rcases hcut with ⟨x, hx, rfl, hB, rfl, hxn⟩ | ⟨hx, hf⟩
        · have hzz : rbR a = (x.b, 0) := by unfold rbR; rw [hB]
          rw [hzz] at hzb
          obtain ⟨rfl, rfl⟩ := Prod.mk.inj hzb
          obtain rfl : n1 = x.n := (hn1 rfl).trans hxn.symm
          have hw16 : IntKind.i16.wrap x.n = x.n := wrap16_id x.hn
          have hWK2 := Lib.hid (hWK.out x hx)
          have hAK2 := Lib.hid (hAK.out x hx)
          clear hzz hzb hn1 hxn hB hx hWK hAK
          have HO3 := Lib.hid (HO2.out.kept H)
          have HL3 := Lib.hid (HL2.out.below H)
          have hBB := Lib.hid ((bstep H0 H).size)
          go_wp2_with (first | ((with_reducible refine wp_load_rowBg H ?_ _ _ rfl _ rfl _ r1 _ Tryd.underlying26 rfl (infoB _ _) ?_); rfl) | (at_builtin; go_loud (refine wp_app_wantA [gp] w.heap.size rfl _ _ rfl _ (wantsOf (ps.take k)) x rfl _ rfl ?hg ?HO ?hB ?hn ?hgs ?_; (case hg => simp); (case HO => exact HO3.out); (case hB => exact hBB.out); (case hn => exact hlk.out); (case hgs => exact fun q hq => by rw [List.mem_singleton.1 hq]; exact ⟨HL3.out.2, HN.out⟩); intro v1 w4 O4 hb4 hs4)))
          go_roundw
          case rel => exact ⟨k + 1, by omega, by go_num, by rw [hWK2.out]; exact O4, hAK2.out, (hs4 gp (List.mem_singleton.2 rfl)).lies HL3.out hb4, (hs4 gp (List.mem_singleton.2 rfl)).2, (bstep H0 H).trans hb4⟩
          case measure => simp [intOf]; omega
        · have HF := Lib.hid (HBD.out wd hmem.out hx)
          clear hn1 hx hWK hAK
          replace hf := Lib.hid hf
          cases f with
          | false =>
            clear hzb
            go_wp2
            rw [HF.out]
            exact bodyPost_ret (results_tt rfl) rfl ⟨_, rfl, own_nil, bstep H0 H⟩
          | true =>
            cases hB : rdB a with
            | none =>
              have hzz : rbR a = (zB, 5) := by unfold rbR; rw [hB]
              rw [hzz] at hzb
              obtain ⟨rfl, rfl⟩ := Prod.mk.inj hzb
              clear hzz hzb hB hf
              go_wp2
              rw [HF.out]
              exact bodyPost_ret (results_tt rfl) rfl ⟨_, rfl, own_nil, bstep H0 H⟩
            | some t =>
              have hzz : rbR a = (t, 0) := by unfold rbR; rw [hB]
              rw [hzz] at hzb
              obtain ⟨rfl, rfl⟩ := Prod.mk.inj hzb
              obtain rfl : qd = false := by
                have := hf.out
                rw [hB] at this
                cases qd with
                | false => rfl
                | true => cases this
              clear hzz hzb hB hf
              go_wp2
              rw [HF.out]
              exact bodyPost_ret (results_tt rfl) rfl ⟨_, rfl, own_nil, bstep H0 H⟩
      · obtain rfl : k = ps.length := by omega
        rw [List.take_length] at HO HA
        obtain ⟨gv, cap, rfl, KO, -, -, -⟩ := HO.out.lies
        have hwn : (wantsOf ps).length ≤ 1000000000 := by
          unfold wantsOf
          rw [List.length_map]
          omega
        have HV := ValidOrder_any gv 0 cap (wantsOf ps) wr KO.1 KO.2 hwn
        cases e1 : ordOk (wantsOf ps) with
        | true =>
          have HF := Lib.hid (HOK.out HA.out e1)
          rw [e1] at HV
          replace HV := Lib.hid HV
          clear e1 KO hwn
          go_wp2_with (go_at_call 43; go_loud (refine HV.out.mono ?_; rintro e w5 ⟨rfl, hb⟩))
          rw [HF.out]
          exact bodyPost_ret (results_tt rfl) rfl ⟨_, rfl, (HO.out.kept hb).1, bstep H0 hb⟩
        | false =>
          have HF := Lib.hid (HIV.out e1)
          rw [e1] at HV
          replace HV := Lib.hid HV
          clear e1 KO hwn
          go_wp2_with (go_at_call 43; go_loud (refine HV.out.mono ?_; rintro e w5 ⟨rfl, hb⟩))
          rw [HF.out]
          exact bodyPost_ret (results_tt rfl) rfl ⟨_, rfl, own_nil, bstep H0 hb⟩
end Go.Proofs.YtbngpcghognojaaDoor
