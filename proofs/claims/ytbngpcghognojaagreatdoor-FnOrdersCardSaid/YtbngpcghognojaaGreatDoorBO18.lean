/- Texts of the claim, joined (18 of 22): Split, SplitSp, Tip. -/
import Derived.Test.YtbngpcghognojaaGreatDoorBO1
import Derived.Test.YtbngpcghognojaaGreatDoorBO3
import Derived.Test.YtbngpcghognojaaGreatDoorBO4
import Derived.Test.YtbngpcghognojaaGreatDoorBO9
import Derived.Test.YtbngpcghognojaaGreatDoorBO17
namespace Go.Proofs.YtbngpcghognojaaGreatDoor
open Go.RowKit
set_option linter.unusedVariables false
set_option linter.unusedSimpArgs false
set_option maxRecDepth 100000
set_option maxHeartbeats 2000000
attribute [local go_sem] Oper.qB
/-- The number of a want that lies at the head of a block. -/
def numAt (w : World) (g : Nat) : Nat := match w.cell? ⟨g, 2, none⟩ with
  | some (.int _ n) => n.toNat
  | _ => 0
theorem numAt_row {w : World} {g : Nat} {b : Bt} {n : Int} (h : rowOf w g = some (#[.int .u8 b.k, .int .i16 b.y, .int .i16 n] : Array Value)) : numAt w g = n.toNat := by
  unfold numAt
  rw [show w.cell? ⟨g, 2, none⟩ = some (.int .i16 n) from rowOf_cell h 2]
theorem infoWS2 : (Tryz.prog.info? 64).map (fun i => (i.zero, i.size, i.bytes)) = some (some (.slice none 0 0), 1, 24) := by kernel_rfl
theorem SplitOrder_any (g0 c0 : Nat) (l : List Wt) (most : Int) (w : World) (K0 : Lies wc w g0 l) (hn0 : l.length ≤ 1048576) :
    Calls Tryz.prog 43 #[.slice (some ⟨g0, 0, none⟩) l.length c0, .int .i64 most] w fun e w' => ∃ v, e = .returned (.tuple #[v, .int .i64 (splitR l most).2]) ∧ (((splitR l most).1 = [] ∧ v = .slice none 0 0) ∨ OwnA wc 3 81 64 w' w.heap.size w'.heap.size v (splitR l most).1) ∧ Below w.heap.size w w' := by
  have HV := Lib.hid (fun W (hW : Below w.heap.size w W) => ValidOrder_any g0 0 c0 l W (K0.below hW).c (K0.below hW).lt (by omega))
  have H := Below.refl w.heap.size w
  replace K0 := Lib.hid K0
  have HI := within_any most 1 144
  have hr0 : (decide (1 ≤ most) && decide (most ≤ 144)) = decide (1 ≤ most ∧ most ≤ 144) := by simp
  rw [hr0] at HI
  clear hr0
  cases e1 : ordOk l with
  | false =>
    have HF := Lib.hid (show splitR l most = ([], 1) by simp [splitR, splCode, e1])
    have e3 := Lib.hid e1
    clear e1
    generalize decide (1 ≤ most ∧ most ≤ 144) = r at HI
    have HC := Lib.hid (fun W => (codeOf_any false r W : Calls Tryz.prog 81 #[.bool false, .bool r] W fun e w' => e = .returned (.int .i64 1) ∧ W = w'))
    replace HI := Lib.hid HI
    go_enter Tryz.func43, Tryz.ntmps43
    go_wp2_with (first | (go_at_call 50; with_reducible refine (HV.out _ H).mono ?_; rintro e w' ⟨rfl, hb⟩; rw [e3.out]; replace H := bstep H hb; clear hb) | (go_at_call 77; with_reducible refine (HI.out _).mono ?_; rintro e w' ⟨rfl, rfl⟩) | (go_at_call 81; with_reducible refine (HC.out _).mono ?_; rintro e w' ⟨rfl, rfl⟩))
    rw [HF.out]
    exact bodyPost_ret (results_tt rfl) rfl ⟨_, rfl, .inl ⟨rfl, rfl⟩, H⟩
  | true =>
    by_cases hmo : 1 ≤ most ∧ most ≤ 144
    rotate_left
    · have HF := Lib.hid (show splitR l most = ([], 2) by simp [splitR, splCode, e1, hmo])
      rw [decide_eq_false hmo] at HI
      have e3 := Lib.hid e1
      clear e1 hmo
      have HC := Lib.hid (fun W => (codeOf_any true false W : Calls Tryz.prog 81 #[.bool true, .bool false] W fun e w' => e = .returned (.int .i64 2) ∧ W = w'))
      replace HI := Lib.hid HI
      go_enter Tryz.func43, Tryz.ntmps43
      go_wp2_with (first | (go_at_call 50; with_reducible refine (HV.out _ H).mono ?_; rintro e w' ⟨rfl, hb⟩; rw [e3.out]; replace H := bstep H hb; clear hb) | (go_at_call 77; with_reducible refine (HI.out _).mono ?_; rintro e w' ⟨rfl, rfl⟩) | (go_at_call 81; with_reducible refine (HC.out _).mono ?_; rintro e w' ⟨rfl, rfl⟩))
      rw [HF.out]
      exact bodyPost_ret (results_tt rfl) rfl ⟨_, rfl, .inl ⟨rfl, rfl⟩, H⟩
    · have HF := Lib.hid (show splitR l most = ((splI l most l.length).1, 0) by simp [splitR, splCode, e1, hmo])
      rw [decide_eq_true hmo] at HI
      have HR := Lib.hid (restN_le e1)
      have HOK := Lib.hid e1
      have e3 := Lib.hid e1
      clear e1
      have HC := Lib.hid (fun W => (codeOf_any true true W : Calls Tryz.prog 81 #[.bool true, .bool true] W fun e w' => e = .returned (.int .i64 0) ∧ W = w'))
      replace HI := Lib.hid HI
      obtain ⟨hmo1, hmo2⟩ := hmo
      have ll : l.length ≤ 8 := by have := HOK.out; simp only [ordOk, Bool.and_eq_true, decide_eq_true_iff] at this; exact this.2
      go_enter Tryz.func43, Tryz.ntmps43
      go_wp2_with (first | (go_at_call 50; with_reducible refine (HV.out _ H).mono ?_; rintro e w' ⟨rfl, hb⟩; rw [e3.out]; replace H := bstep H hb; clear hb) | (go_at_call 77; with_reducible refine (HI.out _).mono ?_; rintro e w' ⟨rfl, rfl⟩) | (go_at_call 81; with_reducible refine (HC.out _).mono ?_; rintro e w' ⟨rfl, rfl⟩))
      go_loopw [7, 8, 23] (fun s q i wr => ∃ k : Nat, k ≤ l.length ∧ i = .int .i64 k ∧ q = .int .i64 (splI l most k).2 ∧ Hid (OwnP (fun _ => True) wc 3 81 64 wr w.heap.size s (splI l most k).1) ∧ Below w.heap.size w wr) (fun _ _ i _ => l.length - (intOf i).toNat)
      case atStart => exact ⟨0, Nat.zero_le _, rfl, rfl, OwnP.lit H.size (fun _ _ => trivial), H.alloc H.size _⟩
      case round =>
        clear H
        obtain ⟨k, hk, rfl, rfl, HO, hb⟩ := hrel
        by_cases hlt : k < l.length
        · have HX := (K0.out.c.below hb K0.out.lt).el wc_length hlt
          rw [Nat.zero_add] at HX
          have hlt2 : (k : Int) < (l.length : Int) := by omega
          obtain ⟨D, hD1, hD2, hD3, hD4, hD5⟩ := splI_le (l := l) (most := most) (by omega) k (by omega)
          have hD6 := restN_step hlt
          have hD7 := HR.out
          have HSP : Hid (splI l most (k + 1) = spI most l[k]!.b l[k]!.n.toNat l[k]!.n (splI l most k)) := rfl
          have hxn : 1 ≤ l[k]!.n ∧ l[k]!.n ≤ 144 := by
            have := HOK.out
            simp only [ordOk, Bool.and_eq_true, decide_eq_true_iff] at this
            have := (this.1 k hlt).1
            simp only [Wt.ok, Bool.and_eq_true, decide_eq_true_iff] at this
            exact this.2
          have hq1 := Lib.hid (splI_most (l := l) (most := most) (by omega) k)
          generalize l[k]! = x at HX hD6 HSP hxn
          generalize splI l most k = s0 at HO hD2 hD3 hD4 hD5 HSP hq1 ⊢
          obtain ⟨os, left⟩ := s0
          replace HO : Hid (OwnP (fun _ => True) wc 3 81 64 wr w.heap.size u7 os) := HO
          replace hD2 : 0 ≤ left := hD2
          replace hD3 : left ≠ 0 → os ≠ [] := hD3
          replace hD4 : os.length ≤ D := hD4
          replace hD5 : totL os ≤ D := hD5
          have hq2 : left ≤ most := hq1.out
          have hlen : os.length + x.n.toNat ≤ 1152 := by omega
          have htot : totL os + x.n.toNat ≤ 1152 := by omega
          clear hD4 hD5 hD6 hD7 hq1
          have x0 : wr.cell? ⟨g0, k * 3, none⟩ = some (.int .u8 x.b.k) := HX 0 _ rfl
          have x1 : wr.cell? ⟨g0, k * 3 + 1, none⟩ = some (.int .i16 x.b.y) := HX 1 _ rfl
          have x2 : wr.cell? ⟨g0, k * 3 + 2, none⟩ = some (.int .i16 x.n) := HX 2 _ rfl
          clear HX
          go_upto_region 8 with fail
          generalize hW1 : World.alloc _ _ = W1
          have hgr : Below wr.heap.size wr W1 := by rw [← hW1]; go_grown
          have r4 : rowOf W1 wr.heap.size = some (#[.int .u8 x.b.k, .int .i16 x.b.y, .int .i16 x.n] : Array Value) := by rw [← hW1, rowOf_alloc, if_pos rfl]
          obtain ⟨g4, hg4⟩ : ∃ g4, g4 = wr.heap.size := ⟨_, rfl⟩
          rw [← hg4] at r4 ⊢
          have HO1 := Lib.hid ((HO.out.imp (S' := fun b => b ≠ g4) (fun b hb _ => by omega)).kept hgr)
          have hb2 := bstep hb hgr
          have hg4w : w.heap.size ≤ g4 := by have := hb.size; omega
          clear hW1 x0 x1 x2 hb hgr HO hg4
          go_loopw [7, 8] (fun s q wi => ∃ (os : List (List Wt)) (left n : Int) (f : Nat), q = .int .i64 left ∧ n.toNat ≤ f ∧ n ≤ 144 ∧ 0 ≤ n ∧ 0 ≤ left ∧ left ≤ most ∧ (left ≠ 0 → os ≠ []) ∧ os.length + n.toNat ≤ 1152 ∧ totL os + n.toNat ≤ 1152 ∧ Hid (splI l most (k + 1) = spI most x.b f n (os, left)) ∧ Hid (OwnP (fun b => b ≠ g4) wc 3 81 64 wi w.heap.size s os) ∧ Hid (rowOf wi g4 = some (#[.int .u8 x.b.k, .int .i16 x.b.y, .int .i16 n] : Array Value)) ∧ Below w.heap.size w wi) (fun _ _ wi => numAt wi g4)
          case atStart => exact ⟨os, left, x.n, x.n.toNat, rfl, Nat.le_refl _, hxn.2, by omega, hD2, hq2, hD3, hlen, htot, HSP, HO1, r4, hb2⟩
          case round =>
            clear HO1 r4 hb2 HSP hD2 hD3 hq2 hlen htot hxn
            obtain ⟨os, left, n, f, rfl, hf, hn1, hn2, hD2, hq2, hD3, hlen, htot, HSP, HO, R4, hb⟩ := hrel
            have z2 : _ = some (Value.int .i16 n) := rowOf_cell R4.out 2
            by_cases hpos : 0 < n
            · obtain ⟨f, rfl⟩ : ∃ f', f = f' + 1 := ⟨f - 1, by omega⟩
              have HS2 := HSP.out.trans (show spI most x.b (f + 1) n (os, left) = _ by rw [spI, if_neg (show ¬ n ≤ 0 by omega)])
              have hne4 := Lib.hid (fun q => HO.out.head g4 q rfl)
              have HNM := Lib.hid (numAt_row R4.out)
              clear HSP
              by_cases hz : left = 0
              · have hsp : spIs most (os, left) = (os ++ [[]], most) := if_pos hz
                rw [hsp] at HS2
                subst hz
                replace HS2 := Lib.hid HS2
                clear hsp
                have hg4l := rowOf_lt R4.out
                go_upto_region 11 with (at_builtin; refine wp_app_inP (f := wc) (S := fun b => b ≠ g4) (S0 := fun b => b ≠ g4 ∧ b < wr.heap.size) w.heap.size rfl _ _ 72 64 rfl (.slice none 0 0) Tryz.underlying72 infoWS2 rfl 3 81 (by decide) _ os [] _ rfl _ rfl ?hg ?HO ?HU ?hu ?hSS ?hSn ?hB ?hn ?_; (case hg => simp); (case HO => exact (HO.out.imp (fun b hb hs => ⟨hs, hb⟩)).kept ((Below.refl _ _).alloc (Nat.le_refl _) _)); (case HU => exact OwnS.lit hb.size); (case hu => exact fun b hb' => by { obtain rfl : wr.heap.size = b := by { simpa [Value.ownBlock] using hb' }; exact ⟨fun q => Nat.lt_irrefl _ q.2, by omega⟩ }); (case hSS => exact fun b hs => hs.1); (case hSn => exact fun b hb' => by { simp at hb'; omega }); (case hB => have := hb.size; simp; omega); (case hn => omega); intro v1 W HO1 hb1)
                replace HO1 := Lib.hid HO1
                have hbW : Below w.heap.size w W := (hb.alloc hb.size _).trans hb1.1
                have R4W := Lib.hid (row_butS (row_kept R4.out ((Below.refl _ _).alloc (Nat.le_refl _) _)) hb1.2.1 hne4.out)
                have hqm : most ≤ most := Int.le_refl _
                have hlf : 0 < most := by omega
                have hl1 : (os ++ [[]]).length + (n.toNat - 1) ≤ 1152 := by simp; omega
                have hl2 : totL (os ++ [[]]) + n.toNat ≤ 1152 := by rw [totL_app]; simpa [totL] using htot
                clear hb1 hne4 z2 HO hD2 hD3 hq2 hlen htot R4 hb hg4l
                obtain ⟨p, lst, hpl⟩ : ∃ p lst, os ++ [[]] = p ++ [lst] := ⟨_, _, (List.dropLast_concat_getLast (by simp)).symm⟩
                rw [hpl] at HO1 HS2 hl1 hl2
                rw [appL_snoc] at HS2
                have hml : p.length + 1 + (n.toNat - 1) ≤ 1152 := by simpa using hl1
                have hmt : totL p + lst.length + n.toNat ≤ 1152 := by rw [totL_app] at hl2; simpa [totL] using hl2
                have hm0 : 0 < min most n ∧ min most n ≤ n ∧ min most n ≤ most := by omega
                generalize hm : min most n = m at HS2 hm0
                obtain ⟨g2, cap, u, hv, hB2, hg2, hS2, x9, OU, hUS, hU2, HUP⟩ := HO1.out.last (by decide)
                subst hv
                clear hpl hl1 hl2 HO1
                have z2 : W.cell? ⟨g4, 2, none⟩ = some (.int .i16 n) := rowOf_cell R4W.out 2
                go_upto_region 12 with fail
                have H2 := (Below.refl W.heap.size W).drew
                obtain ⟨W0, hW0⟩ : ∃ W0, W0 = World.drew W := ⟨_, rfl⟩
                rw [← hW0] at H2
                have OU0 := OU.kept H2
                obtain ⟨v2, w2, hrun, hown, hb1, hbv, haw⟩ := app_w3 w.heap.size W0 u lst ⟨x.b, m, by omega⟩ OU0 (Nat.le_trans hbW.size H2.size) (by omega) 64
                obtain ⟨W1, hW1⟩ : ∃ W1, W1 = W0.alloc (.cells #[.int .u8 x.b.k, .int .i16 x.b.y, .int .i16 m] 81) := ⟨_, rfl⟩
                have HF2 : Hid (∃ gv nv cv, v2 = .slice (some ⟨gv, 0, none⟩) nv cv) := by { obtain ⟨a, b, h⟩ := hown.2; exact ⟨_, _, _, h⟩ }
                replace hrun : (Builtin.append_ #[64, 64] 64 #[u, .slice (some ⟨W0.heap.size, 0, none⟩) 1 1]).run Tryz.prog W1 = .ok v2 w2 := by rw [hW1]; exact hrun
                have hW01 : Below W0.heap.size W0 W1 := by rw [hW1]; exact (Below.refl _ _).alloc (Nat.le_refl _) _
                have hg4W := rowOf_lt R4W.out
                have hg40 := Nat.lt_of_lt_of_le hg4W H2.size
                have hg20 := Nat.lt_of_lt_of_le hg2 H2.size
                have hu4 : u.ownBlock ≠ some g4 := fun q => hUS g4 q rfl
                have e0 : W0.cell? ⟨g2, p.length, none⟩ = some u := (H2.cell hg2).trans x9
                have e1 : W1.cell? ⟨g2, p.length, none⟩ = some u := (hW01.cell hg20).trans e0
                have e2 : w2.cell? ⟨g2, p.length, none⟩ = some u := (cellB (hbv.2 g2 hg20 hU2)).trans e0
                have a0 : W0.cell? ⟨g4, 0, none⟩ = some (.int .u8 x.b.k) := (H2.cell hg4W).trans (rowOf_cell R4W.out 0)
                have a1 : W1.cell? ⟨g4, 0, none⟩ = some (.int .u8 x.b.k) := (hW01.cell hg40).trans a0
                have a2 : w2.cell? ⟨g4, 0, none⟩ = some (.int .u8 x.b.k) := (cellB (hbv.2 g4 hg40 hu4)).trans a0
                have b0 : W0.cell? ⟨g4, 1, none⟩ = some (.int .i16 x.b.y) := (H2.cell hg4W).trans (rowOf_cell R4W.out 1)
                have b1 : W1.cell? ⟨g4, 1, none⟩ = some (.int .i16 x.b.y) := (hW01.cell hg40).trans b0
                have b2 : w2.cell? ⟨g4, 1, none⟩ = some (.int .i16 x.b.y) := (cellB (hbv.2 g4 hg40 hu4)).trans b0
                have hbv2 := (belowV H2 u).trans hbv
                have haw2 : Away u v2 W := fun b hb hv => haw b (Nat.lt_of_lt_of_le hb H2.size) hv
                obtain ⟨f9, HN⟩ := HUP w2 v2 (lst ++ [⟨x.b, m, by omega⟩]) hown (fun b hb he => haw2 g4 hg4W hu4 (by rw [← he]; exact hb)) hbv2 haw2
                have R5 := row_butS R4W.out hbv2 hu4
                have hbw2 := (hbW.trans (H2.mono hbW.size)).trans hb1
                have hwm : IntKind.i16.wrap m = m := wrap_i16 (by omega)
                have hwp : IntKind.i64.wrap (p.length : Int) = (p.length : Int) := by rw [IntKind.wrap_i64]; omega
                have hpp : (p.length : Int) ≤ 2000 := by omega
                have hplt : (p.length : Int) < (p.length : Int) + 1 := by omega
                replace hW0 := Lib.hid hW0
                replace hW1 := Lib.hid hW1
                replace hrun := Lib.hid hrun
                replace HN := Lib.hid HN
                replace R5 := Lib.hid R5
                clear HUP x9 z2 OU OU0 hown hbv hbv2 haw haw2 hb1 hW01 H2
                refine l_start 18 18 [W0, W1, w2] (by rw [hW0.out]; rfl) rfl (by kernel_rfl) ?_
                (refine l_quiet 0 (by kernel_rfl) rfl (fun K hK => ?_); go_simp; refine hK _ ?_; clear hK K)
                (refine l_quiet 1 (by kernel_rfl) rfl (fun K hK => ?_); go_simp; refine hK _ ?_; clear hK K)
                (refine l_quiet 2 (by kernel_rfl) rfl (fun K hK => ?_); go_simp; refine hK _ ?_; clear hK K)
                (refine l_quiet 3 (by kernel_rfl) rfl (fun K hK => ?_); go_simp; refine hK _ ?_; clear hK K)
                (refine l_quiet 4 (by kernel_rfl) rfl (fun K hK => ?_); go_simp; refine hK _ ?_; clear hK K)
                (refine l_quiet 5 (by kernel_rfl) rfl (fun K hK => ?_); go_simp; refine hK _ ?_; clear hK K)
                (refine l_quiet 6 (by kernel_rfl) rfl (fun K hK => ?_); go_simp; refine hK _ ?_; clear hK K)
                (refine l_quiet 7 (by kernel_rfl) rfl (fun K hK => ?_); go_simp; refine hK _ ?_; clear hK K)
                (refine l_quiet 8 (by kernel_rfl) rfl (fun K hK => ?_); go_simp; refine hK _ ?_; clear hK K)
                (refine l_quiet 9 (by kernel_rfl) rfl (fun K hK => ?_); go_simp; refine hK _ ?_; clear hK K)
                (refine l_quiet 10 (by kernel_rfl) rfl (fun K hK => ?_); go_simp; refine hK _ ?_; clear hK K)
                (refine l_quiet 11 (by kernel_rfl) rfl (fun K hK => ?_); go_simp; refine hK _ ?_; clear hK K)
                (refine l_quiet 12 (by kernel_rfl) rfl (fun K hK => ?_); go_simp; refine hK _ ?_; clear hK K)
                (refine l_quiet 13 (by kernel_rfl) rfl (fun K hK => ?_); go_simp; refine hK _ ?_; clear hK K)
                (refine l_quiet 14 (by kernel_rfl) rfl (fun K hK => ?_); go_simp; refine hK _ ?_; clear hK K)
                refine l_step 15 1 W0 W1 rfl rfl (by kernel_rfl) rfl rfl (fun K hK => ?_)
                unfold Goes
                go_simp
                refine ⟨hW1.out.symm, hK _ ?_⟩
                clear hK K
                refine l_step 16 2 W1 w2 rfl rfl (by kernel_rfl) rfl rfl (fun K hK => Goes.app _ _ _ rfl _ _ rfl rfl v2 hrun.out (hK _ ?_))
                clear hK K
                (refine l_quiet 17 (by kernel_rfl) rfl (fun K hK => ?_); go_simp; refine hK _ ?_; clear hK K)
                refine l_done w2 rfl (by kernel_rfl) rfl ?_
                obtain ⟨gv, nv, cv, hv2⟩ := HF2.out
                subst hv2
                clear HF2
                go_upto_region 13 with fail
                have R6 : rowOf (w2.setCell ⟨g2, p.length, none⟩ (.slice (some ⟨gv, 0, none⟩) nv cv)) g4 = some (#[.int .u8 x.b.k, .int .i16 x.b.y, .int .i16 n] : Array Value) := by rw [row_far (Ne.symm hS2)]; exact R5.out
                have hb6 : Below w.heap.size w (w2.setCell ⟨g2, p.length, none⟩ (.slice (some ⟨gv, 0, none⟩) nv cv)) := hbw2.setCell hB2 _
                clear e0 e1 e2 a0 a1 a2 b0 b1 b2 f9 hrun hW0 hW1 R5 hbw2 hg4W hg40 hg20
                generalize w2.setCell ⟨g2, p.length, none⟩ (.slice (some ⟨gv, 0, none⟩) nv cv) = W3 at HN R6 hb6 ⊢
                have z3 : W3.cell? ⟨g4, 2, none⟩ = some (.int .i16 n) := rowOf_cell R6 2
                have f3 : W3.frozen? ⟨g4, 2, none⟩ = false := rowOf_frozen R6 2
                have hwn : IntKind.i16.wrap (n - m) = n - m := wrap_i16 (by omega)
                have HN6 := Lib.hid (HN.out.far (g := g4) (o := 2) (fun q => q rfl) (.int .i16 (n - m)))
                have R7 : rowOf (W3.setCell ⟨g4, 2, none⟩ (.int .i16 (n - m))) g4 = some (#[.int .u8 x.b.k, .int .i16 x.b.y, .int .i16 (n - m)] : Array Value) := by rw [rowOf_setCell, if_pos rfl, R6]; rfl
                have hb7 : Below w.heap.size w (W3.setCell ⟨g4, 2, none⟩ (.int .i16 (n - m))) := hb6.setCell hg4w _
                have HM7 := Lib.hid (numAt_row R7)
                replace R7 := Lib.hid R7
                clear R6 hb6 HN
                rw [wtN_n (by omega)] at HS2
                go_wp2
                go_roundw
                case rel => exact ⟨p ++ [lst ++ [⟨x.b, m, by omega⟩]], most - m, n - m, f, by go_num, by omega, by omega, by omega, by omega, by omega, fun _ => by simp, by simp; omega, by rw [totL_app]; simp [totL] at hmt ⊢; omega, HS2, HN6, R7, hb7⟩
                case measure => have h1 := HM7.out; have h2 := HNM.out; rw [h1, h2]; omega
              · have hsp : spIs most (os, left) = (os, left) := if_neg hz
                rw [hsp] at HS2
                have hne := hD3 hz
                replace HS2 := Lib.hid HS2
                clear hsp
                obtain ⟨W, hW⟩ : ∃ W, W = wr := ⟨_, rfl⟩
                subst hW
                have HO1 := HO
                have hbW := hb
                have R4W := R4
                have hqm := hq2
                have hlf : 0 < left := by omega
                have hl1 : os.length + (n.toNat - 1) ≤ 1152 := by omega
                have hl2 := htot
                have hz2 : ((left : Int) == 0) = false := by simpa using hz
                go_upto_region 11 with fail
                clear hne4 z2 HO hD2 hD3 hq2 hlen htot R4 hb hz2
                obtain ⟨p, lst, hpl⟩ : ∃ p lst, os = p ++ [lst] := ⟨_, _, (List.dropLast_concat_getLast hne).symm⟩
                rw [hpl] at HO1 HS2 hl1 hl2
                rw [appL_snoc] at HS2
                have hml : p.length + 1 + (n.toNat - 1) ≤ 1152 := by simpa using hl1
                have hmt : totL p + lst.length + n.toNat ≤ 1152 := by rw [totL_app] at hl2; simpa [totL] using hl2
                have hm0 : 0 < min left n ∧ min left n ≤ n ∧ min left n ≤ left := by omega
                generalize hm : min left n = m at HS2 hm0
                obtain ⟨g2, cap, u, hv, hB2, hg2, hS2, x9, OU, hUS, hU2, HUP⟩ := HO1.out.last (by decide)
                subst hv
                clear hpl hl1 hl2 HO1
                have z2 : W.cell? ⟨g4, 2, none⟩ = some (.int .i16 n) := rowOf_cell R4W.out 2
                go_upto_region 12 with fail
                have H2 := (Below.refl W.heap.size W).drew
                obtain ⟨W0, hW0⟩ : ∃ W0, W0 = World.drew W := ⟨_, rfl⟩
                rw [← hW0] at H2
                have OU0 := OU.kept H2
                obtain ⟨v2, w2, hrun, hown, hb1, hbv, haw⟩ := app_w3 w.heap.size W0 u lst ⟨x.b, m, by omega⟩ OU0 (Nat.le_trans hbW.size H2.size) (by omega) 64
                obtain ⟨W1, hW1⟩ : ∃ W1, W1 = W0.alloc (.cells #[.int .u8 x.b.k, .int .i16 x.b.y, .int .i16 m] 81) := ⟨_, rfl⟩
                have HF2 : Hid (∃ gv nv cv, v2 = .slice (some ⟨gv, 0, none⟩) nv cv) := by { obtain ⟨a, b, h⟩ := hown.2; exact ⟨_, _, _, h⟩ }
                replace hrun : (Builtin.append_ #[64, 64] 64 #[u, .slice (some ⟨W0.heap.size, 0, none⟩) 1 1]).run Tryz.prog W1 = .ok v2 w2 := by rw [hW1]; exact hrun
                have hW01 : Below W0.heap.size W0 W1 := by rw [hW1]; exact (Below.refl _ _).alloc (Nat.le_refl _) _
                have hg4W := rowOf_lt R4W.out
                have hg40 := Nat.lt_of_lt_of_le hg4W H2.size
                have hg20 := Nat.lt_of_lt_of_le hg2 H2.size
                have hu4 : u.ownBlock ≠ some g4 := fun q => hUS g4 q rfl
                have e0 : W0.cell? ⟨g2, p.length, none⟩ = some u := (H2.cell hg2).trans x9
                have e1 : W1.cell? ⟨g2, p.length, none⟩ = some u := (hW01.cell hg20).trans e0
                have e2 : w2.cell? ⟨g2, p.length, none⟩ = some u := (cellB (hbv.2 g2 hg20 hU2)).trans e0
                have a0 : W0.cell? ⟨g4, 0, none⟩ = some (.int .u8 x.b.k) := (H2.cell hg4W).trans (rowOf_cell R4W.out 0)
                have a1 : W1.cell? ⟨g4, 0, none⟩ = some (.int .u8 x.b.k) := (hW01.cell hg40).trans a0
                have a2 : w2.cell? ⟨g4, 0, none⟩ = some (.int .u8 x.b.k) := (cellB (hbv.2 g4 hg40 hu4)).trans a0
                have b0 : W0.cell? ⟨g4, 1, none⟩ = some (.int .i16 x.b.y) := (H2.cell hg4W).trans (rowOf_cell R4W.out 1)
                have b1 : W1.cell? ⟨g4, 1, none⟩ = some (.int .i16 x.b.y) := (hW01.cell hg40).trans b0
                have b2 : w2.cell? ⟨g4, 1, none⟩ = some (.int .i16 x.b.y) := (cellB (hbv.2 g4 hg40 hu4)).trans b0
                have hbv2 := (belowV H2 u).trans hbv
                have haw2 : Away u v2 W := fun b hb hv => haw b (Nat.lt_of_lt_of_le hb H2.size) hv
                obtain ⟨f9, HN⟩ := HUP w2 v2 (lst ++ [⟨x.b, m, by omega⟩]) hown (fun b hb he => haw2 g4 hg4W hu4 (by rw [← he]; exact hb)) hbv2 haw2
                have R5 := row_butS R4W.out hbv2 hu4
                have hbw2 := (hbW.trans (H2.mono hbW.size)).trans hb1
                have hwm : IntKind.i16.wrap m = m := wrap_i16 (by omega)
                have hwp : IntKind.i64.wrap (p.length : Int) = (p.length : Int) := by rw [IntKind.wrap_i64]; omega
                have hpp : (p.length : Int) ≤ 2000 := by omega
                have hplt : (p.length : Int) < (p.length : Int) + 1 := by omega
                replace hW0 := Lib.hid hW0
                replace hW1 := Lib.hid hW1
                replace hrun := Lib.hid hrun
                replace HN := Lib.hid HN
                replace R5 := Lib.hid R5
                clear HUP x9 z2 OU OU0 hown hbv hbv2 haw haw2 hb1 hW01 H2
                refine l_start 18 18 [W0, W1, w2] (by rw [hW0.out]; rfl) rfl (by kernel_rfl) ?_
                (refine l_quiet 0 (by kernel_rfl) rfl (fun K hK => ?_); go_simp; refine hK _ ?_; clear hK K)
                (refine l_quiet 1 (by kernel_rfl) rfl (fun K hK => ?_); go_simp; refine hK _ ?_; clear hK K)
                (refine l_quiet 2 (by kernel_rfl) rfl (fun K hK => ?_); go_simp; refine hK _ ?_; clear hK K)
                (refine l_quiet 3 (by kernel_rfl) rfl (fun K hK => ?_); go_simp; refine hK _ ?_; clear hK K)
                (refine l_quiet 4 (by kernel_rfl) rfl (fun K hK => ?_); go_simp; refine hK _ ?_; clear hK K)
                (refine l_quiet 5 (by kernel_rfl) rfl (fun K hK => ?_); go_simp; refine hK _ ?_; clear hK K)
                (refine l_quiet 6 (by kernel_rfl) rfl (fun K hK => ?_); go_simp; refine hK _ ?_; clear hK K)
                (refine l_quiet 7 (by kernel_rfl) rfl (fun K hK => ?_); go_simp; refine hK _ ?_; clear hK K)
                (refine l_quiet 8 (by kernel_rfl) rfl (fun K hK => ?_); go_simp; refine hK _ ?_; clear hK K)
                (refine l_quiet 9 (by kernel_rfl) rfl (fun K hK => ?_); go_simp; refine hK _ ?_; clear hK K)
                (refine l_quiet 10 (by kernel_rfl) rfl (fun K hK => ?_); go_simp; refine hK _ ?_; clear hK K)
                (refine l_quiet 11 (by kernel_rfl) rfl (fun K hK => ?_); go_simp; refine hK _ ?_; clear hK K)
                (refine l_quiet 12 (by kernel_rfl) rfl (fun K hK => ?_); go_simp; refine hK _ ?_; clear hK K)
                (refine l_quiet 13 (by kernel_rfl) rfl (fun K hK => ?_); go_simp; refine hK _ ?_; clear hK K)
                (refine l_quiet 14 (by kernel_rfl) rfl (fun K hK => ?_); go_simp; refine hK _ ?_; clear hK K)
                refine l_step 15 1 W0 W1 rfl rfl (by kernel_rfl) rfl rfl (fun K hK => ?_)
                unfold Goes
                go_simp
                refine ⟨hW1.out.symm, hK _ ?_⟩
                clear hK K
                refine l_step 16 2 W1 w2 rfl rfl (by kernel_rfl) rfl rfl (fun K hK => Goes.app _ _ _ rfl _ _ rfl rfl v2 hrun.out (hK _ ?_))
                clear hK K
                (refine l_quiet 17 (by kernel_rfl) rfl (fun K hK => ?_); go_simp; refine hK _ ?_; clear hK K)
                refine l_done w2 rfl (by kernel_rfl) rfl ?_
                obtain ⟨gv, nv, cv, hv2⟩ := HF2.out
                subst hv2
                clear HF2
                go_upto_region 13 with fail
                have R6 : rowOf (w2.setCell ⟨g2, p.length, none⟩ (.slice (some ⟨gv, 0, none⟩) nv cv)) g4 = some (#[.int .u8 x.b.k, .int .i16 x.b.y, .int .i16 n] : Array Value) := by rw [row_far (Ne.symm hS2)]; exact R5.out
                have hb6 : Below w.heap.size w (w2.setCell ⟨g2, p.length, none⟩ (.slice (some ⟨gv, 0, none⟩) nv cv)) := hbw2.setCell hB2 _
                clear e0 e1 e2 a0 a1 a2 b0 b1 b2 f9 hrun hW0 hW1 R5 hbw2 hg4W hg40 hg20
                generalize w2.setCell ⟨g2, p.length, none⟩ (.slice (some ⟨gv, 0, none⟩) nv cv) = W3 at HN R6 hb6 ⊢
                have z3 : W3.cell? ⟨g4, 2, none⟩ = some (.int .i16 n) := rowOf_cell R6 2
                have f3 : W3.frozen? ⟨g4, 2, none⟩ = false := rowOf_frozen R6 2
                have hwn : IntKind.i16.wrap (n - m) = n - m := wrap_i16 (by omega)
                have HN6 := Lib.hid (HN.out.far (g := g4) (o := 2) (fun q => q rfl) (.int .i16 (n - m)))
                have R7 : rowOf (W3.setCell ⟨g4, 2, none⟩ (.int .i16 (n - m))) g4 = some (#[.int .u8 x.b.k, .int .i16 x.b.y, .int .i16 (n - m)] : Array Value) := by rw [rowOf_setCell, if_pos rfl, R6]; rfl
                have hb7 : Below w.heap.size w (W3.setCell ⟨g4, 2, none⟩ (.int .i16 (n - m))) := hb6.setCell hg4w _
                have HM7 := Lib.hid (numAt_row R7)
                replace R7 := Lib.hid R7
                clear R6 hb6 HN
                rw [wtN_n (by omega)] at HS2
                go_wp2
                go_roundw
                case rel => exact ⟨p ++ [lst ++ [⟨x.b, m, by omega⟩]], left - m, n - m, f, by go_num, by omega, by omega, by omega, by omega, by omega, fun _ => by simp, by simp; omega, by rw [totL_app]; simp [totL] at hmt ⊢; omega, HS2, HN6, R7, hb7⟩
                case measure => have h1 := HM7.out; have h2 := HNM.out; rw [h1, h2]; omega
            · have hfin : splI l most (k + 1) = (os, left) := by
                rw [HSP.out]
                cases f with
                | zero => rfl
                | succ f => rw [spI, if_pos (by omega)]
              replace hfin := Lib.hid hfin
              go_wp2
              go_roundw
              case rel => exact ⟨k + 1, by omega, by go_num, by rw [hfin.out], by rw [hfin.out]; exact HO.out.imp (fun _ _ _ => trivial), hb⟩
              case measure => simp [intOf]; omega
        · obtain rfl : k = l.length := by omega
          go_wp2
          rw [HF.out]
          exact bodyPost_ret (results_tt rfl) rfl ⟨_, rfl, .inr HO.out.a, hb⟩
end Go.Proofs.YtbngpcghognojaaGreatDoor
namespace Go.Proofs.YtbngpcghognojaaGreatDoor
open Go.RowKit
set_option linter.unusedVariables false
set_option linter.unusedSimpArgs false
set_option maxRecDepth 100000
set_option maxHeartbeats 2000000
attribute [local go_sem] Oper.qB
section
variable {α : Type} {f : α → List Value} {w w' : World} {B k e E : Nat} {v u : Value} {ls : List (List α)} {S S' : Nat → Prop}
theorem OwnP.butP (h : OwnP S f k e E w B v ls) (hS : ∀ b, S b → u.ownBlock ≠ some b) (hb : ButV u w w') : OwnP S f k e E w' B v ls := by
  obtain ⟨vs, h1, h2, h3, h4, h5⟩ := h
  exact ⟨vs, h1, h2.but hb (fun b hu hv => hS b (h5 b hv) hu), fun i hi => ⟨(h3 i hi).1.but hb (fun b hu hv => hS b ((h3 i hi).2 b hv) hu), (h3 i hi).2⟩, h4, h5⟩
end
theorem close_le (t : List (List Wt) × List Wt × Int) : t.1.length ≤ (closeS t).length ∧ t.2.1.length ≤ totL (closeS t) := by
  unfold closeS
  split
  · rename_i h
    rw [h]
    exact ⟨Nat.le_refl _, Nat.zero_le _⟩
  · rw [totL_app]
    simp [totL]
theorem splS_le {l : List Wt} {most : Int} (hm : 0 < most) (k : Nat) : (splS l most k).1.length ≤ (splI l most k).1.length ∧ (splS l most k).2.1.length ≤ totL (splI l most k).1 ∧ 0 < (splS l most k).2.2 ∧ (splS l most k).2.2 ≤ most := by
  have h := close_le (splS l most k)
  rw [spl_eq hm] at h
  refine ⟨h.1, h.2, ?_⟩
  have hq := splI_most (l := l) hm k
  rcases spl_rel (l := l) hm k with ⟨_, _, h3, _⟩ | ⟨_, h2, h3, _⟩
  · rw [h3]; exact ⟨hm, Int.le_refl _⟩
  · rw [← h3]; exact ⟨h2, hq⟩
theorem infoWS3 : (Tryz.prog.info? 64).map (fun i => (i.zero, i.size, i.bytes)) = some (some (.slice none 0 0), 1, 24) := by kernel_rfl
theorem wp_app_want3 {ops : Array Oper} {rest : List Oper} {o : Oper} {a : Act} {Q : Exit → Act → World → Prop} {W : World} (B : Nat) (hgd : o.guard = none) (s x : Operand) (ho : o.op = .call { callee := .builtin .append, args := #[s, x], argTypes := #[64, 64] })
    (v : Value) (l : List Wt) (y : Wt) (hs : a.eval s = v) (g : Nat) (hx : a.eval x = .slice (some ⟨g, 0, none⟩) 1 1) (hg : g = W.heap.size)
    (HO : OwnS wc W B 81 3 v l) (hB : B ≤ W.heap.size) (hn : l.length ≤ 100000000)
    (h : ∀ v1 w1, OwnS wc w1 B 81 3 v1 (l ++ [y]) → (Below B W w1 ∧ ButV v W w1 ∧ Away v v1 W) → wpList Tryz.prog ops Q rest (a.put o.dst v1) w1) : wpList Tryz.prog ops Q (o :: rest) a (W.alloc (.cells #[.int .u8 y.b.k, .int .i16 y.b.y, .int .i16 y.n] 81)) :=
  wp_app3 (P := Tryz.prog) B hgd s x 64 81 ho (.agg (wc zW).toArray) 3 6 Tryz.underlying64 infoWantS rfl (by decide) v l.length (fl wc l) (wc y) hs g hx hg rfl (fun u hu => wv_one y u (by simpa using hu)) HO.1 hB (by omega) (by decide)
    (fun v1 w1 h1 h2 => h v1 w1 (OwnS.grown (by rw [List.length_append, fl_append, fl_one]; exact h1)) h2)
theorem min_any (a b : Int) (w : World) : Calls Tryz.prog 102 #[.int .i64 a, .int .i64 b] w fun e w' => e = .returned (.int .i64 (min a b)) ∧ w = w' := by
  by_cases h : a < b
  · have hm := Lib.hid (show a = min a b by omega)
    go_enter Tryz.func102, Tryz.ntmps102
    go_wp2
    go_ret
    exact ⟨ret_int hm.out, rfl⟩
  · have hm := Lib.hid (show b = min a b by omega)
    go_enter Tryz.func102, Tryz.ntmps102
    go_wp2
    go_ret
    exact ⟨ret_int hm.out, rfl⟩
theorem sSplitOrder_any (g0 c0 : Nat) (l : List Wt) (most : Int) (w : World) (K0 : Lies wc w g0 l) (hn0 : l.length ≤ 1048576) :
    Calls Tryz.prog 44 #[.slice (some ⟨g0, 0, none⟩) l.length c0, .int .i64 most] w fun e w' => ∃ v, e = .returned (.tuple #[v, .int .i64 (splitR l most).2]) ∧ OwnA wc 3 81 64 w' w.heap.size w'.heap.size v (splitR l most).1 ∧ Below w.heap.size w w' := by
  have HV := Lib.hid (fun W (hW : Below w.heap.size w W) => l02Ok_any g0 0 c0 l W (K0.below hW).c (K0.below hW).lt (by omega))
  have H := Below.refl w.heap.size w
  replace K0 := Lib.hid K0
  have HI := l00In_any most 1 144
  have hr0 : (decide (1 ≤ most) && decide (most ≤ 144)) = decide (1 ≤ most ∧ most ≤ 144) := by simp
  rw [hr0] at HI
  clear hr0
  cases e1 : ordOk l with
  | false =>
    have HF := Lib.hid (show splitR l most = ([], 1) by simp [splitR, splCode, e1])
    have e3 := Lib.hid e1
    clear e1 HI
    go_enter Tryz.func44, Tryz.ntmps44
    go_wp2_with (go_at_call 99; with_reducible refine (HV.out _ H).mono ?_; rintro e w' ⟨rfl, hb⟩; rw [e3.out]; replace H := bstep H hb; clear hb)
    rw [HF.out]
    exact bodyPost_ret (results_tt rfl) rfl ⟨_, rfl, (OwnP.lit H.size (fun _ _ => trivial)).a, H.alloc H.size _⟩
  | true =>
    by_cases hmo : 1 ≤ most ∧ most ≤ 144
    rotate_left
    · have HF := Lib.hid (show splitR l most = ([], 2) by simp [splitR, splCode, e1, hmo])
      rw [decide_eq_false hmo] at HI
      have e3 := Lib.hid e1
      clear e1 hmo
      replace HI := Lib.hid HI
      go_enter Tryz.func44, Tryz.ntmps44
      go_wp2_with (first | (go_at_call 99; with_reducible refine (HV.out _ H).mono ?_; rintro e w' ⟨rfl, hb⟩; rw [e3.out]; replace H := bstep H hb; clear hb) | (go_at_call 101; with_reducible refine (HI.out _).mono ?_; rintro e w' ⟨rfl, rfl⟩))
      rw [HF.out]
      exact bodyPost_ret (results_tt rfl) rfl ⟨_, rfl, (OwnP.lit H.size (fun _ _ => trivial)).a, H.alloc H.size _⟩
    · have HF : Hid (splitR l most = ((splI l most l.length).1, 0)) := by simp [Hid, splitR, splCode, e1, hmo]
      rw [decide_eq_true hmo] at HI
      have HR := Lib.hid (restN_le e1)
      have HOK := Lib.hid e1
      have e3 := Lib.hid e1
      clear e1
      replace HI := Lib.hid HI
      obtain ⟨hmo1, hmo2⟩ := hmo
      have ll : l.length ≤ 8 := by have := HOK.out; simp only [ordOk, Bool.and_eq_true, decide_eq_true_iff] at this; exact this.2
      go_enter Tryz.func44, Tryz.ntmps44
      go_wp2_with (first | (go_at_call 99; with_reducible refine (HV.out _ H).mono ?_; rintro e w' ⟨rfl, hb⟩; rw [e3.out]; replace H := bstep H hb; clear hb) | (go_at_call 101; with_reducible refine (HI.out _).mono ?_; rintro e w' ⟨rfl, rfl⟩))
      go_loopw [6, 7, 8, 9] (fun s u q i wr => ∃ k : Nat, k ≤ l.length ∧ i = .int .i64 k ∧ q = .int .i64 (splS l most k).2.2 ∧ Hid (OwnP (fun b => u.ownBlock ≠ some b) wc 3 81 64 wr w.heap.size s (splS l most k).1) ∧ Hid (OwnS wc wr w.heap.size 81 3 u (splS l most k).2.1) ∧ Below w.heap.size w wr) (fun _ _ _ i _ => l.length - (intOf i).toNat)
      case atStart =>
        have h1 : Below w.heap.size w _ := H.alloc H.size (.cells #[] 64)
        exact ⟨0, Nat.zero_le _, rfl, rfl, (@OwnP.imp Wt wc _ _ _ _ _ _ _ (fun _ => True) _ (OwnP.lit H.size (fun _ _ => trivial)) (fun b hb _ he => by
          simp [Value.ownBlock] at he hb
          omega)).kept ((Below.refl _ _).alloc (Nat.le_refl _) _), (by
          have h2 := OwnS.lit (f := wc) (e := 81) (size := 3) h1.size
          rw [show (w'.alloc (.cells #[] 64)).heap.size = w'.heap.size + 1 by simp] at h2
          exact h2), h1.alloc h1.size _⟩
      case round =>
        clear H
        obtain ⟨k, hk, rfl, rfl, HO, HU, hb⟩ := hrel
        by_cases hlt : k < l.length
        · have hlt2 : (k : Int) < (l.length : Int) := by omega
          obtain ⟨D, hD1, -, -, hD4, hD5⟩ := splI_le (l := l) (most := most) (by omega) k (by omega)
          have hD6 := restN_step hlt
          have hD7 := HR.out
          have HSP : Hid (splS l most (k + 1) = spS most l[k]!.b l[k]!.n.toNat l[k]!.n (splS l most k)) := rfl
          have hxn : 1 ≤ l[k]!.n ∧ l[k]!.n ≤ 144 := by
            have := HOK.out
            simp only [ordOk, Bool.and_eq_true, decide_eq_true_iff] at this
            have := (this.1 k hlt).1
            simp only [Wt.ok, Bool.and_eq_true, decide_eq_true_iff] at this
            exact this.2
          have hq1 := splS_le (l := l) (most := most) (by omega) k
          have HXX := Lib.hid (fun W (hW : Below w.heap.size w W) => (K0.out.below hW).c.el wc_length hlt)
          have HX := HXX.out _ hb
          rw [Nat.zero_add] at HX
          generalize l[k]! = x at HX HXX hD6 HSP hxn
          generalize splS l most k = s0 at HO HU HSP hq1 ⊢
          obtain ⟨os, cur, left⟩ := s0
          replace HO : Hid (OwnP (fun b => u7.ownBlock ≠ some b) wc 3 81 64 wr w.heap.size u6 os) := HO
          replace HU : Hid (OwnS wc wr w.heap.size 81 3 u7 cur) := HU
          obtain ⟨q1, q2, q3, q4⟩ : os.length ≤ _ ∧ cur.length ≤ _ ∧ 0 < left ∧ left ≤ most := hq1
          have hlen : os.length + x.n.toNat ≤ 1152 := by omega
          have htot : cur.length + x.n.toNat ≤ 1152 := by omega
          clear hD4 hD5 hD6 hD7 q1 q2
          have x2 : wr.cell? ⟨g0, k * 3 + 2, none⟩ = some (.int .i16 x.n) := HX 2 _ rfl
          clear HX
          go_upto_region 12 with fail
          clear x2
          go_loopw [6, 7, 8, 10] (fun s u q p wi => ∃ (os : List (List Wt)) (cur : List Wt) (left n : Int) (f : Nat), q = .int .i64 left ∧ p = .int .i64 n ∧ n.toNat ≤ f ∧ n ≤ 144 ∧ 0 ≤ n ∧ 0 < left ∧ left ≤ most ∧ os.length + n.toNat ≤ 1152 ∧ cur.length + n.toNat ≤ 1152 ∧ Hid (splS l most (k + 1) = spS most x.b f n (os, cur, left)) ∧ Hid (OwnP (fun b => u.ownBlock ≠ some b) wc 3 81 64 wi w.heap.size s os) ∧ Hid (OwnS wc wi w.heap.size 81 3 u cur) ∧ Below w.heap.size w wi) (fun _ _ _ p _ => (intOf p).toNat)
          case atStart => exact ⟨os, cur, left, x.n, x.n.toNat, rfl, rfl, Nat.le_refl _, hxn.2, by omega, q3, q4, hlen, htot, HSP, HO, HU, hb⟩
          case round =>
            clear HO HU hb HSP q3 q4 hlen htot hxn
            obtain ⟨os, cur, left, n, f, rfl, rfl, hf, hn1, hn2, q3, q4, hlen, htot, HSP, HO, HU, hb⟩ := hrel
            by_cases hpos : 0 < n
            · obtain ⟨f, rfl⟩ : ∃ f', f = f' + 1 := ⟨f - 1, by omega⟩
              have HS2 := HSP.out.trans (show spS most x.b (f + 1) n (os, cur, left) = _ by rw [spS, if_neg (show ¬ n ≤ 0 by omega)])
              clear HSP
              have HX := HXX.out _ hb
              rw [Nat.zero_add] at HX
              have x0 : wr.cell? ⟨g0, k * 3, none⟩ = some (.int .u8 x.b.k) := HX 0 _ rfl
              have x1 : wr.cell? ⟨g0, k * 3 + 1, none⟩ = some (.int .i16 x.b.y) := HX 1 _ rfl
              clear HX
              have HM := min_any n left
              have hm0 : 0 < min n left ∧ min n left ≤ n ∧ min n left ≤ left := by omega
              unfold spSs at HS2
              simp only at HS2
              generalize min n left = m at HM HS2 hm0
              rw [wtN_n (show -32768 ≤ m ∧ m ≤ 32767 by omega)] at HS2
              have hwm : IntKind.i16.wrap m = m := wrap_i16 (by omega)
              replace HM := Lib.hid HM
              replace HS2 := Lib.hid HS2
              go_upto_region 15 with (first | (go_at_call 102; with_reducible refine (HM.out _).mono ?_; rintro e w' ⟨rfl, rfl⟩) | (at_builtin; refine wp_app_want3 w.heap.size rfl _ _ rfl _ cur ⟨x.b, m, by omega⟩ rfl _ rfl ?hg ?HO ?hB ?hn ?_; (case hg => simp); (case HO => exact HU.out); (case hB => exact hb.size); (case hn => omega); intro v1 w1 HU1 hb1))
              have HO1 := Lib.hid (((HO.out.imp (S' := fun b => u7.ownBlock ≠ some b ∧ b < wr.heap.size) (fun b hb hs => ⟨hs, hb⟩)).butP (fun b hs => hs.1) hb1.2.1).imp (S' := fun b => v1.ownBlock ≠ some b) (fun b _ hs => hb1.2.2 b hs.2 hs.1))
              have hb2 := hb.trans hb1.1
              replace HU1 := Lib.hid HU1
              clear hb1 HO HU hb x0 x1
              have hwl : IntKind.i64.wrap (left - m) = left - m := by rw [IntKind.wrap_i64]; omega
              by_cases hz : left - m = 0
              · replace HS2 := Lib.hid (HS2.out.trans (by rw [if_pos hz]))
                have hlm : left = m := by omega
                subst hlm
                obtain ⟨g8, n8, c8, hv8⟩ : ∃ g8 n8 c8, v1 = .slice (some ⟨g8, 0, none⟩) n8 c8 := by { obtain ⟨a, b, h⟩ := HU1.out.2; exact ⟨_, _, _, h⟩ }
                subst hv8
                go_upto_region 19 with (at_builtin; refine wp_app_inP (f := wc) (S := fun _ => True) (S0 := fun b => (Value.slice (some ⟨g8, 0, none⟩) n8 c8).ownBlock ≠ some b) w.heap.size rfl _ _ 72 64 rfl (.slice none 0 0) Tryz.underlying72 infoWS3 rfl 3 81 (by decide) _ os (cur ++ [⟨x.b, left, by omega⟩]) _ rfl _ rfl ?hg ?HO ?HU ?hu ?hSS ?hSn ?hB ?hn ?_; (case hg => simp); (case HO => exact HO1.out); (case HU => exact HU1.out); (case hu => exact fun b hb' => ⟨fun q => q hb', trivial⟩); (case hSS => exact fun b hs => trivial); (case hSn => exact fun _ _ => trivial); (case hB => exact hb2.size); (case hn => omega); intro v3 w3 HO3 hb3)
                have hb4 := hb2.trans hb3.1
                replace HO3 := Lib.hid HO3
                have HO4 : Hid (OwnP (fun b => (Value.slice (some ⟨w3.heap.size, 0, none⟩) 0 0).ownBlock ≠ some b) wc 3 81 64 (w3.alloc (.cells #[] 81)) w.heap.size v3 (os ++ [cur ++ [⟨x.b, left, by omega⟩]])) := (HO3.out.imp (S' := fun b => (Value.slice (some ⟨w3.heap.size, 0, none⟩) 0 0).ownBlock ≠ some b) (fun b hb _ he => by
                  simp [Value.ownBlock] at he
                  omega)).kept ((Below.refl _ _).alloc (Nat.le_refl _) _)
                clear hb3 HO1 HU1 hb2
                go_wp2
                go_roundw
                case rel => exact ⟨os ++ [cur ++ [⟨x.b, left, by omega⟩]], [], most, n - left, f, rfl, by go_num, by omega, by omega, by omega, by omega, Int.le_refl _, by simp; omega, by simp; omega, HS2, HO4, OwnS.lit hb4.size, hb4.alloc hb4.size _⟩
                case measure => simp [intOf]; omega
              · replace HS2 := Lib.hid (HS2.out.trans (by rw [if_neg hz]))
                have hz2 : ((left - m : Int) == 0) = false := by simpa using hz
                go_wp2
                go_roundw
                case rel => exact ⟨os, cur ++ [⟨x.b, m, by omega⟩], left - m, n - m, f, by go_num, by go_num, by omega, by omega, by omega, by omega, by omega, by omega, by simp; omega, HS2, HO1, HU1, hb2⟩
                case measure => simp [intOf]; omega
            · have hfin : splS l most (k + 1) = (os, cur, left) := by
                rw [HSP.out]
                cases f with
                | zero => rfl
                | succ f => rw [spS, if_pos (by omega)]
              replace hfin := Lib.hid hfin
              go_wp2
              go_roundw
              case rel => exact ⟨k + 1, by omega, by go_num, by rw [hfin.out], by rw [hfin.out]; exact HO, by rw [hfin.out]; exact HU, hb⟩
              case measure => simp [intOf]; omega
        · obtain rfl : k = l.length := by omega
          have HCL := spl_eq (l := l) (most := most) (by omega) l.length
          have hCL := HCL
          have hq1 := splS_le (l := l) (most := most) (by omega) l.length
          obtain ⟨D, hD1, -, -, hD4, hD5⟩ := splI_le (l := l) (most := most) (by omega) l.length (Nat.le_refl _)
          have hD7 := HR.out
          rw [← HCL] at HF hq1
          generalize splS l most l.length = s0 at HO HU HF hq1 hCL HCL ⊢
          obtain ⟨os, cur, left⟩ := s0
          replace HO : Hid (OwnP (fun b => u7.ownBlock ≠ some b) wc 3 81 64 wr w.heap.size u6 os) := HO
          replace HU : Hid (OwnS wc wr w.heap.size 81 3 u7 cur) := HU
          have hol : os.length ≤ 1152 := by
            have h1 : os.length ≤ (closeS (os, cur, left)).length := (close_le (os, cur, left)).1
            rw [← hCL] at hD4
            omega
          obtain ⟨g7, c7, hv7⟩ := HU.out.2
          subst hv7
          clear hq1 hD4 hD5 hD1 hD7 HCL hCL
          cases cur with
          | nil =>
            replace HF : Hid (splitR l most = (os, 0)) := HF
            go_wp2
            rw [HF.out]
            exact bodyPost_ret (results_tt rfl) rfl ⟨_, rfl, HO.out.a, hb⟩
          | cons y cur =>
            replace HF : Hid (splitR l most = (os ++ [y :: cur], 0)) := HF
            go_wp2_with (at_builtin; refine wp_app_inP (f := wc) (S := fun _ => True) (S0 := fun b => (Value.slice (some ⟨g7, 0, none⟩) (y :: cur).length c7).ownBlock ≠ some b) w.heap.size rfl _ _ 72 64 rfl (.slice none 0 0) Tryz.underlying72 infoWS3 rfl 3 81 (by decide) _ os (y :: cur) _ rfl _ rfl ?hg ?HO ?HU ?hu ?hSS ?hSn ?hB ?hn ?_; (case hg => simp); (case HO => exact HO.out); (case HU => exact HU.out); (case hu => exact fun b hb' => ⟨fun q => q hb', trivial⟩); (case hSS => exact fun b hs => trivial); (case hSn => exact fun _ _ => trivial); (case hB => exact hb.size); (case hn => omega); intro v3 w3 HO3 hb3)
            rw [HF.out]
            exact bodyPost_ret (results_tt rfl) rfl ⟨_, rfl, HO3.a, hb.trans hb3.1⟩
end Go.Proofs.YtbngpcghognojaaGreatDoor
namespace Go.Proofs.YtbngpcghognojaaGreatDoor
open Go.RowKit
set_option linter.unusedVariables false
set_option linter.unusedSimpArgs false
set_option maxRecDepth 100000
set_option maxHeartbeats 1000000
def eastI (l : List Int) : Int := (l.map fun i => 2 * (i % 4) - 3).sum
def southI (l : List Int) : Int := (l.map fun i => i / 4 - 1).sum
theorem eastI_succ {l : List Int} {k : Nat} (h : k < l.length) : eastI (l.take (k + 1)) = eastI (l.take k) + (2 * (l.getD k 0 % 4) - 3) := by
  rw [List.take_succ_eq_append_getElem h]
  rw [eastI, List.map_append, List.sum_append, List.getD_eq_getElem?_getD, List.getElem?_eq_getElem h]
  simp [eastI]
theorem southI_succ {l : List Int} {k : Nat} (h : k < l.length) : southI (l.take (k + 1)) = southI (l.take k) + (l.getD k 0 / 4 - 1) := by
  rw [List.take_succ_eq_append_getElem h]
  rw [southI, List.map_append, List.sum_append, List.getD_eq_getElem?_getD, List.getElem?_eq_getElem h]
  simp [southI]
/-- Numbers of places. -/
def Places (l : List Int) : Prop := l.length ≤ 12 ∧ ∀ x ∈ l, 0 ≤ x ∧ x ≤ 11
theorem tip_bound {l : List Int} (h : ∀ x ∈ l, 0 ≤ x ∧ x ≤ 11) : -3 * (l.length : Int) ≤ eastI l ∧ eastI l ≤ 3 * (l.length : Int) ∧ -3 * (l.length : Int) ≤ southI l ∧ southI l ≤ 3 * (l.length : Int) := by
  induction l with
  | nil => decide
  | cons x l ih =>
    have h0 := h x (by simp)
    have h1 := ih fun y hy => h y (by simp [hy])
    simp only [eastI, southI, List.map_cons, List.sum_cons, List.length_cons] at h1 ⊢
    omega
theorem Places.take {l : List Int} (h : Places l) (k : Nat) : Places (l.take k) :=
  ⟨by rw [List.length_take]; have := h.1; omega, fun x hx => h.2 x (List.mem_of_mem_take hx)⟩
theorem Places.bound {l : List Int} (h : Places l) : -36 ≤ eastI l ∧ eastI l ≤ 36 ∧ -36 ≤ southI l ∧ southI l ≤ 36 := by
  have := tip_bound h.2
  have := h.1
  omega
theorem Places.at {l : List Int} (h : Places l) {k : Nat} (hk : k < l.length) : 0 ≤ l.getD k 0 ∧ l.getD k 0 ≤ 11 := by
  rw [List.getD_eq_getElem?_getD, List.getElem?_eq_getElem hk]
  exact h.2 _ (List.getElem_mem hk)
theorem pl_places (p : Bt → Bool) (l : List Bt) : Places (pl p l 12) := by
  refine ⟨pl_le p l 12, fun x hx => ?_⟩
  simp only [pl, List.mem_map, List.mem_filter, List.mem_range] at hx
  obtain ⟨k, ⟨hk, _⟩, rfl⟩ := hx
  simp only [Int.ofNat_eq_natCast]
  omega
theorem tip_any (A : Option Addr) (cp : Nat) (l : List Int) (w : World) (h : RdA w A (vi l)) (hp : Places l) :
    Calls Tryz.prog 71 #[.slice A l.length cp] w fun e w' => e = .returned (.tuple #[.int .i64 (eastI l), .int .i64 (southI l)]) ∧ w = w' := by
  have HR := Lib.hid h
  have HP := Lib.hid hp
  have hl := hp.1
  clear h hp
  go_enter Tryz.func71, Tryz.ntmps71
  go_wp2
  go_loopw [4, 5, 10] (fun e s i wr => ∃ k : Nat, k ≤ l.length ∧ i = .int .i64 k ∧ e = .int .i64 (eastI (l.take k)) ∧ s = .int .i64 (southI (l.take k)) ∧ wr = w) (fun _ _ i _ => l.length - (intOf i).toNat)
  case atStart => exact ⟨0, Nat.zero_le _, rfl, rfl, rfl, rfl⟩
  case round =>
    obtain ⟨k, hk, rfl, rfl, rfl, rfl⟩ := hrel
    by_cases hlt : k < l.length
    · obtain ⟨g, off, rfl, hg, hC⟩ := HR.out.some (by rw [vi_length]; omega)
      have x0 := hC k _ (vi_at l k hlt)
      have HE := Lib.hid (eastI_succ hlt)
      have HS := Lib.hid (southI_succ hlt)
      have hb := (HP.out.take k).bound
      have hx := HP.out.at hlt
      clear hC
      generalize l.getD k 0 = x at x0 HE HS hx
      generalize eastI (l.take k) = e at HE hb ⊢
      generalize southI (l.take k) = s at HS hb ⊢
      obtain ⟨hb1, hb2, hb3, hb4⟩ := hb
      obtain ⟨hx1, hx2⟩ := hx
      go_wp2
      go_roundw
      case rel => exact ⟨k + 1, by omega, by go_num, congrArg (Value.int .i64) (by have := HE.out; omega), congrArg (Value.int .i64) (by have := HS.out; omega), trivial⟩
      case measure => simp [intOf]; omega
    · obtain rfl : k = l.length := by omega
      go_wp2
      refine bodyPost_ret (results_tt rfl) rfl ⟨?_, rfl⟩
      rw [List.take_length]
      rfl
theorem l01Tip_any (A : Option Addr) (cp : Nat) (l : List Int) (w : World) (h : RdA w A (vi l)) (hp : Places l) :
    Calls Tryz.prog 123 #[.slice A l.length cp] w fun e w' => e = .returned (.tuple #[.int .i64 (eastI l), .int .i64 (southI l)]) ∧ w = w' := by
  have HR := Lib.hid h
  have HP := Lib.hid hp
  have hl := hp.1
  clear h hp
  go_enter Tryz.func123, Tryz.ntmps123
  go_wp2
  go_loopw [4, 5, 6] (fun e s i wr => ∃ k : Nat, k ≤ l.length ∧ i = .int .i64 k ∧ e = .int .i64 (eastI (l.take k)) ∧ s = .int .i64 (southI (l.take k)) ∧ wr = w) (fun _ _ i _ => l.length - (intOf i).toNat)
  case atStart => exact ⟨0, Nat.zero_le _, rfl, rfl, rfl, rfl⟩
  case round =>
    obtain ⟨k, hk, rfl, rfl, rfl, rfl⟩ := hrel
    by_cases hlt : k < l.length
    · obtain ⟨g, off, rfl, hg, hC⟩ := HR.out.some (by rw [vi_length]; omega)
      have x0 := hC k _ (vi_at l k hlt)
      have HE := Lib.hid (eastI_succ hlt)
      have HS := Lib.hid (southI_succ hlt)
      have hb := (HP.out.take k).bound
      have hx := HP.out.at hlt
      clear hC
      generalize l.getD k 0 = x at x0 HE HS hx
      generalize eastI (l.take k) = e at HE hb ⊢
      generalize southI (l.take k) = s at HS hb ⊢
      obtain ⟨hb1, hb2, hb3, hb4⟩ := hb
      obtain ⟨hx1, hx2⟩ := hx
      go_wp2
      go_roundw
      case rel => exact ⟨k + 1, by omega, by go_num, congrArg (Value.int .i64) (by have := HE.out; omega), congrArg (Value.int .i64) (by have := HS.out; omega), trivial⟩
      case measure => simp [intOf]; omega
    · obtain rfl : k = l.length := by omega
      go_wp2
      refine bodyPost_ret (results_tt rfl) rfl ⟨?_, rfl⟩
      rw [List.take_length]
      rfl
def tipR (c : Cr) : Int × Int × Int := if c.ok = true then (eastI (usedI c), southI (usedI c), 0) else (0, 0, 1)
theorem TipOf_any (c : Cr) (w : World) : Calls Tryz.prog 21 #[cv c] w fun e w' => e = .returned (.tuple #[.int .i64 (tipR c).1, .int .i64 (tipR c).2.1, .int .i64 (tipR c).2.2]) ∧ Below w.heap.size w w' := by
  go_enter Tryz.func21, Tryz.ntmps21
  go_upto_region 1 with fail
  generalize hW : World.alloc _ _ = W
  have H0 : Below w.heap.size w W := by rw [← hW]; go_grown
  have r0 : rowOf W (w.heap.size) = some ((cc c).toArray) := (by (try rw [← hW]); simp only [rowOf_alloc, World.size_alloc, ↓reduceIte]; all_goals ((repeat' split) <;> first | omega | (exfalso; omega) | rfl))
  clear hW
  have l0 : w.heap.size ≤ w.heap.size := Nat.le_refl _
  generalize h0 : w.heap.size = g0 at r0 ⊢
  replace l0 : w.heap.size ≤ g0 := Nat.le_of_eq h0
  clear h0
  have b0 := rowOf_lt r0
  have H := Below.refl W.heap.size W
  cases e1 : c.ok with
  | false =>
    have HF := Lib.hid (show tipR c = (0, 0, 1) by simp [tipR, e1])
    go_wp2_with (first | ((with_reducible refine wp_load_rowBg H ?_ _ _ rfl _ rfl _ r0 _ Tryz.underlying28 rfl (infoC c) ?_); rfl) | (go_at_call 18; with_reducible refine (ValidCrate_any c _).mono ?_; rintro e w' ⟨rfl, hb⟩; replace H := bstep H hb; clear hb; have hc := bcell H) | (go_at_call 78; refine (full_any c _).mono ?_; rintro e w' ⟨v, rfl, hown, hb⟩; obtain ⟨A, cp, rfl, hcp, hrd, hbl⟩ := own_rdA hown; replace H := bstep H hb) | (go_at_call 71; refine (tip_any A cp _ _ hrd (pl_places _ _)).mono ?_; rintro e w' ⟨rfl, rfl⟩))
    refine bodyPost_ret (results_ttt rfl) rfl ⟨?_, bstep H0 H⟩
    rw [HF.out]
    rfl
  | true =>
    have HF := Lib.hid (show tipR c = (eastI (usedI c), southI (usedI c), 0) by simp [tipR, e1])
    go_wp2_with (first | ((with_reducible refine wp_load_rowBg H ?_ _ _ rfl _ rfl _ r0 _ Tryz.underlying28 rfl (infoC c) ?_); rfl) | (go_at_call 18; with_reducible refine (ValidCrate_any c _).mono ?_; rintro e w' ⟨rfl, hb⟩; replace H := bstep H hb; clear hb; have hc := bcell H) | (go_at_call 78; refine (full_any c _).mono ?_; rintro e w' ⟨v, rfl, hown, hb⟩; obtain ⟨A, cp, rfl, hcp, hrd, hbl⟩ := own_rdA hown; replace H := bstep H hb) | (go_at_call 71; refine (tip_any A cp _ _ hrd (pl_places _ _)).mono ?_; rintro e w' ⟨rfl, rfl⟩))
    refine bodyPost_ret (results_ttt rfl) rfl ⟨?_, bstep H0 H⟩
    rw [HF.out]
    rfl
end Go.Proofs.YtbngpcghognojaaGreatDoor
