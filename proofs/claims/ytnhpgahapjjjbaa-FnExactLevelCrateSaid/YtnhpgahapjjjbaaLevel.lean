/- Contracts of LevelCrate. -/
import Derived.Test.YtnhpgahapjjjbaaLevelP
import Derived.Test.YtnhpgahapjjjbaaFewest
import Derived.Test.YtnhpgahapjjjbaaBound
import Derived.Test.YtnhpgahapjjjbaaFill
import Derived.Test.YtnhpgahapjjjbaaPure
namespace Go.Proofs.Ytnhpgahapjjjbaa
open Go Go.RowKit
set_option linter.unusedVariables false
set_option linter.unusedSimpArgs false
set_option maxRecDepth 100000
set_option maxHeartbeats 4000000
attribute [local go_sem] Oper.qB
theorem cell_but {w w' : World} {g b i n c : Nat} {v : Value} (hb : ButV (.slice (some ⟨g, 0, none⟩) n c) w w') (h : w.cell? ⟨b, i, none⟩ = some v) (hne : b ≠ g) : w'.cell? ⟨b, i, none⟩ = some v := by
  have hl : b < w.heap.size := World.block_lt_of_cell? _ _ h
  have e := hb.2 b hl (fun q => hne (by have q1 : g = b := by simpa [Value.ownBlock] using q
                                        exact q1.symm))
  unfold World.cell? at h ⊢
  simp only at h ⊢
  rw [e]
  exact h
theorem ButV.of_below {v : Value} {w w' : World} (h : Below w.heap.size w w') : ButV v w w' := ⟨h.mono (Nat.zero_le _), fun b hb _ => h.block b hb⟩
theorem ButV.step {v : Value} {w w1 w' : World} (h : ButV v w w1) (h' : Below w1.heap.size w1 w') : ButV v w w' := h.trans (ButV.of_below h')
theorem spread_place {ks : List Int} {k : Nat} (h : Places ks) (hk : k < ks.length) : ∃ p : Nat, p < 12 ∧ ks.getD k 0 = (p : Int) := by
  have := h.at hk
  exact ⟨(ks.getD k 0).toNat, by omega, by omega⟩
theorem rd_at {l : List Int} {k : Nat} {w : World} {g off : Nat} (hC : CAt w g off (vi l)) (hk : k < l.length) : w.cell? ⟨g, off + k, none⟩ = some (.int .i64 (l.getD k 0)) := hC k _ (vi_at l k hk)
theorem tip_range {ks : List Int} (h : Places ks) : 0 ≤ tipN ks ∧ tipN ks ≤ 72 := by
  have := h.bound
  unfold tipN
  omega
theorem lvS_range (n : Nat) (hn : n ≤ 12) (k : Nat) : -1 ≤ (lvS n k).2 ∧ (lvS n k).2 ≤ 72 := by
  rcases lvS_cases n k with ⟨e, _⟩ | ⟨e, hl, ha, _⟩
  · rw [e]; exact ⟨Int.le_refl _, by decide⟩
  · have := tip_range (ks := (lvS n k).1) ⟨by omega, fun x hx => by have := ha.2 x hx; omega⟩
    omega
theorem and_one_i64 (n : Int) : bits .and .i64 n 1 = n % 2 := by
  have h1 : (BitVec.ofInt 64 1).toNat = 2 ^ 1 - 1 := by decide
  have key : (BitVec.ofInt 64 n &&& BitVec.ofInt 64 1).toNat = (n % ((2 ^ 64 : Nat) : Int)).toNat % 2 ^ 1 := by
    rw [BitVec.toNat_and, BitVec.toNat_ofInt, h1, Nat.and_two_pow_sub_one_eq_mod]
  show IntKind.i64.wrap ((BitVec.ofInt 64 n &&& BitVec.ofInt 64 1).toNat : Nat) = n % 2
  rw [key, IntKind.wrap_i64]
  omega
theorem shr_of (k j : Nat) (hj : j ≤ 11) : ((k : Int)).fdiv (2 ^ min ((j : Nat) : Int).toNat IntKind.i64.bits) = ((k / 2 ^ j : Nat) : Int) := by
  rw [Int.toNat_natCast, show min j IntKind.i64.bits = j from Nat.min_eq_left (by show j ≤ 64; omega)]
  have e : ((2 : Int) ^ j) = ((2 ^ j : Nat) : Int) := by simp
  rw [e, ← Int.ofNat_fdiv]
theorem l01Size_any (n : Int) (w : World) (h1 : -1000 ≤ n) (h2 : n ≤ 1000) : Calls Try.prog 115 #[.int .i64 n] w fun e w' => e = .returned (.int .i64 (max n (-n))) ∧ w = w' := by
  have hw : IntKind.i64.wrap (-n) = -n := by rw [IntKind.wrap_i64]; omega
  have hM := l00Max_any n (-n)
  go_enter Try.func115, Try.ntmps115
  go_wp2_with (go_at_call 76; with_reducible refine (hM _).mono ?_; rintro e w2 ⟨rfl, rfl⟩)
  go_ret
  exact ⟨rfl, rfl⟩
theorem size_any (n : Int) (w : World) (h1 : -1000 ≤ n) (h2 : n ≤ 1000) : Calls Try.prog 72 #[.int .i64 n] w fun e w' => e = .returned (.int .i64 (max n (-n))) ∧ w = w' := by
  have hw : IntKind.i64.wrap (-n) = -n := by rw [IntKind.wrap_i64]; omega
  go_enter Try.func72, Try.ntmps72
  go_wp2
  go_ret
  exact ⟨rfl, rfl⟩
theorem l01Level_any (n : Nat) (hn : n ≤ 12) (w : World) :
    Calls Try.prog 66 #[.int .i64 n] w fun e w' => ∃ v, e = .returned v ∧ OwnS iv w' w.heap.size 2 1 v (level n) ∧ Below w.heap.size w w' := by
  have HF : Hid (level n = (lvS n 4096).1) := rfl
  have HGE := Lib.hid (lvS_cases n)
  have HRG := Lib.hid (lvS_range n hn)
  go_enter Try.func66, Try.ntmps66
  go_wp2
  go_loopw [3, 4, 5] (fun v ls s wr => ∃ k : Nat, k ≤ 4096 ∧ s = .int .i64 k ∧ ls = .int .i64 (lvS n k).2 ∧ Hid (OwnS iv wr w.heap.size 2 1 v (lvS n k).1) ∧ Below w.heap.size w wr) (fun _ _ s _ => 4096 - (intOf s).toNat)
  case atStart => exact ⟨0, Nat.zero_le _, rfl, rfl, OwnS.lit (Nat.le_refl _), by go_grown⟩
  case round =>
    obtain ⟨k, hk, rfl, rfl, HB, hb⟩ := hrel
    obtain ⟨wo, hwo⟩ : ∃ wo, wo = wr := ⟨_, rfl⟩
    subst hwo
    by_cases hlt : k < 4096
    · have HST : Hid (lvS n (k + 1) = lvStep n (inSet (fun i => 11 - i) k 12) (lvS n k)) := rfl
      have hrg := HRG.out k
      have HLB : Hid (¬ (lvS n k).2 < 0 → (lvS n k).1.length = n) := fun h => by
        rcases HGE.out k with ⟨e, _⟩ | ⟨_, e, _⟩
        · rw [e] at h; exact absurd (by decide) h
        · exact e
      have hlt2 : (k : Int) < 4096 := by omega
      have hms : Hid (4096 - ((k : Int) + 1).toNat < 4096 - (k : Int).toNat) := by show _ < _; omega
      generalize lvS n k = r at HST HB hrg HLB ⊢
      obtain ⟨bs, ls⟩ := r
      replace HB : Hid (OwnS iv wo w.heap.size 2 1 u3 bs) := HB
      replace hrg : -1 ≤ ls ∧ ls ≤ 72 := hrg
      replace HLB : Hid (¬ ls < 0 → bs.length = n) := HLB
      go_wp2
      go_loopw [6, 7] (fun v i wr => ∃ j : Nat, j ≤ 12 ∧ i = .int .i64 j ∧ Hid (OwnS iv wr wo.heap.size 2 1 v (inSet (fun i => 11 - i) k j)) ∧ Hid (Below wo.heap.size wo wr)) (fun _ i _ => 12 - (intOf i).toNat)
      case atStart => exact ⟨0, Nat.zero_le _, rfl, OwnS.lit (Nat.le_refl _), by show Below wo.heap.size wo _; go_grown⟩
      case round =>
        obtain ⟨j, hj, rfl, HK, HQ⟩ := hrel
        by_cases hltj : j < 12
        · have HIS := Lib.hid (inSet_succ (fun i => 11 - i) k j)
          have hkl := inSet_le (fun i => 11 - i) k j
          have hj2 : (j : Int) < 12 := by omega
          have hbo : bitOn k (11 - j) = decide (k / 2 ^ (11 - j) % 2 = 1) := rfl
          have hwj : IntKind.i64.wrap (11 - (j : Int)) = ((11 - j : Nat) : Int) := by rw [IntKind.wrap_i64]; omega
          have hwu : IntKind.u64.wrap ((11 - j : Nat) : Int) = ((11 - j : Nat) : Int) := by simp [IntKind.wrap, IntKind.bits, IntKind.signed]; omega
          have hdv : ((k : Int) / 2 ^ (11 - j)) = ((k / 2 ^ (11 - j) : Nat) : Int) := by simp
          have hand := and_one_i64 ((k / 2 ^ (11 - j) : Nat) : Int)
          generalize inSet (fun i => 11 - i) k j = ks at HK HIS hkl
          generalize k / 2 ^ (11 - j) = q at hdv hand hbo
          rcases (by omega : q % 2 = 1 ∨ q % 2 = 0) with hq | hq
          · have HI2 : Hid (inSet (fun i => 11 - i) k (j + 1) = ks ++ [(j : Int)]) := by rw [Hid, HIS.out, if_pos (by rw [hbo, hq]; rfl)]
            rw [show ((q : Nat) : Int) % 2 = 1 by omega] at hand
            clear hbo hq
            go_wp2_with (at_builtin; refine wp_app_num wo.heap.size rfl _ _ rfl _ ks (j : Int) rfl _ rfl ?hg ?HO ?hB ?hn ?_; (case hg => simp); (case HO => exact HK.out); (case hB => exact HQ.out.size); (case hn => omega); intro v1 w1 hown hb3)
            go_roundw
            case rel => exact ⟨j + 1, by omega, by go_num, by rw [HI2.out]; exact hown, HQ.out.trans hb3⟩
            case measure => simp [intOf]; omega
          · have HI2 : Hid (inSet (fun i => 11 - i) k (j + 1) = ks) := by rw [Hid, HIS.out, if_neg (by rw [hbo, hq]; decide), List.append_nil]
            rw [show ((q : Nat) : Int) % 2 = 0 by omega] at hand
            clear hbo hq
            go_wp2
            go_roundw
            case rel => exact ⟨j + 1, by omega, by go_num, by rw [HI2.out]; exact HK.out, HQ.out⟩
            case measure => simp [intOf]; omega
        · obtain rfl : j = 12 := by omega
          have hkl := inSet_le (fun i => 11 - i) k 12
          have HAS := Lib.hid (inSet_asc (fun i => 11 - i) k 12)
          generalize inSet (fun i => 11 - i) k 12 = ks at HK HST HAS hkl
          have HB2 := Lib.hid (HB.out.kept HQ.out)
          have hPL : Places ks := ⟨hkl, fun x hx => by have := HAS.out.2 x hx; omega⟩
          have hbd := hPL.bound
          have htr := tip_range hPL
          obtain ⟨g9, p9, rfl, L9, hg9, hl9, hc9⟩ := HK.out.lies
          obtain ⟨g6, p6, rfl, L6, _, _, _⟩ := HB2.out.lies
          replace L9 := Lib.hid L9
          replace L6 := Lib.hid L6
          have H := Below.refl wr.heap.size wr
          have hTP := fun W (hW : Below wr.heap.size wr W) => l01Tip_any (some ⟨g9, 0, none⟩) p9 ks W (by rw [← fl_iv]; exact (L9.out.below hW).rd) hPL
          have hAH := fun W (hW : Below wr.heap.size wr W) => l01Ahead_any (some ⟨g9, 0, none⟩) p9 ks (some ⟨g6, 0, none⟩) p6 bs W (by rw [← fl_iv]; exact (L9.out.below hW).rd) (by rw [← fl_iv]; exact (L6.out.below hW).rd)
          have hTD : tipN ks = max (eastI ks) (-eastI ks) + max (southI ks) (-southI ks) := rfl
          clear hPL
          generalize eastI ks = ee at hTP hbd hTD
          generalize southI ks = ss at hTP hbd hTD
          have hS1 := fun W => l01Size_any ee W (by omega) (by omega)
          have hS2 := fun W => l01Size_any ss W (by omega) (by omega)
          generalize max ee (-ee) = ea at hTD hS1
          generalize max ss (-ss) = sa at hTD hS2
          have hwT : IntKind.i64.wrap (ea + sa) = tipN ks := by rw [IntKind.wrap_i64, ← hTD]; omega
          replace hTD := Lib.hid hTD
          by_cases hl : ks.length = n
          · have hlz : ((ks.length : Int) == (n : Int)) = true := by rw [beq_iff_eq]; omega
            have HSN : Hid (lvS n (k + 1) = if (decide (ls < 0) || decide (tipN ks < ls) || (decide (tipN ks = ls) && ahead ks bs)) = true then (ks, tipN ks) else (bs, ls)) := by rw [Hid, HST.out, lvStep, if_pos hl]
            replace hl := Lib.hid hl
            generalize tipN ks = T at HSN hwT htr
            by_cases hneg : ls < 0
            · clear hAH
              have HE := Lib.hid (show lvS n (k + 1) = (ks, T) by rw [HSN.out, if_pos (by simp [hneg])])
              clear HSN
              go_wp2_with (first | (go_at_call 114; with_reducible refine (hTP _ H).mono ?_; rintro e w2 ⟨rfl, rfl⟩) | (go_at_call 115; with_reducible refine (hS1 _).mono ?_; rintro e w2 ⟨rfl, rfl⟩) | (go_at_call 115; with_reducible refine (hS2 _).mono ?_; rintro e w2 ⟨rfl, rfl⟩))
              go_roundw
              case rel => exact ⟨k + 1, by omega, by go_num, by rw [HE.out], by rw [HE.out]; exact (HK.out.kept H).down hb.size, bstep hb (bstep HQ.out H)⟩
              case measure => exact hms.out
            · have hbl := Lib.hid (HLB.out (by omega))
              rcases Int.lt_trichotomy T ls with hc | hc | hc
              · clear hAH
                have HE := Lib.hid (show lvS n (k + 1) = (ks, T) by rw [HSN.out, if_pos (by simp [hc])])
                clear HSN
                go_wp2_with (first | (go_at_call 114; with_reducible refine (hTP _ H).mono ?_; rintro e w2 ⟨rfl, rfl⟩) | (go_at_call 115; with_reducible refine (hS1 _).mono ?_; rintro e w2 ⟨rfl, rfl⟩) | (go_at_call 115; with_reducible refine (hS2 _).mono ?_; rintro e w2 ⟨rfl, rfl⟩))
                go_roundw
                case rel => exact ⟨k + 1, by omega, by go_num, by rw [HE.out], by rw [HE.out]; exact (HK.out.kept H).down hb.size, bstep hb (bstep HQ.out H)⟩
                case measure => exact hms.out
              · have hAH2 := fun W hW => hAH W hW (by rw [hbl.out]; exact hl.out) (by omega)
                clear hAH
                have hcn : ¬ T < ls := by omega
                have hcz : (T == ls) = true := by rw [beq_iff_eq]; exact hc
                replace hc := Lib.hid hc
                generalize ahead ks bs = ah at hAH2 HSN
                cases ah with
                | true =>
                  have HE := Lib.hid (show lvS n (k + 1) = (ks, T) by rw [HSN.out, if_pos (by simp [hc.out])])
                  clear HSN
                  go_wp2_with (first | (go_at_call 114; with_reducible refine (hTP _ H).mono ?_; rintro e w2 ⟨rfl, rfl⟩) | (go_at_call 115; with_reducible refine (hS1 _).mono ?_; rintro e w2 ⟨rfl, rfl⟩) | (go_at_call 115; with_reducible refine (hS2 _).mono ?_; rintro e w2 ⟨rfl, rfl⟩) | (go_at_call 116; with_reducible refine (hAH2 _ H).mono ?_; rintro e w2 ⟨rfl, hb3⟩; replace H := bstep H hb3; clear hb3))
                  go_roundw
                  case rel => exact ⟨k + 1, by omega, by go_num, by rw [HE.out], by rw [HE.out]; exact (HK.out.kept H).down hb.size, bstep hb (bstep HQ.out H)⟩
                  case measure => exact hms.out
                | false =>
                  have HE := Lib.hid (show lvS n (k + 1) = (bs, ls) by rw [HSN.out, if_neg (by simp; omega)])
                  clear HSN
                  go_wp2_with (first | (go_at_call 114; with_reducible refine (hTP _ H).mono ?_; rintro e w2 ⟨rfl, rfl⟩) | (go_at_call 115; with_reducible refine (hS1 _).mono ?_; rintro e w2 ⟨rfl, rfl⟩) | (go_at_call 115; with_reducible refine (hS2 _).mono ?_; rintro e w2 ⟨rfl, rfl⟩) | (go_at_call 116; with_reducible refine (hAH2 _ H).mono ?_; rintro e w2 ⟨rfl, hb3⟩; replace H := bstep H hb3; clear hb3))
                  go_roundw
                  case rel => exact ⟨k + 1, by omega, by go_num, by rw [HE.out], by rw [HE.out]; exact HB2.out.kept H, bstep hb (bstep HQ.out H)⟩
                  case measure => exact hms.out
              · clear hAH
                have hcn : ¬ T < ls := by omega
                have hcz : (T == ls) = false := by rw [beq_eq_false_iff_ne]; omega
                have HE := Lib.hid (show lvS n (k + 1) = (bs, ls) by rw [HSN.out, if_neg (by simp; omega)])
                clear HSN
                go_wp2_with (first | (go_at_call 114; with_reducible refine (hTP _ H).mono ?_; rintro e w2 ⟨rfl, rfl⟩) | (go_at_call 115; with_reducible refine (hS1 _).mono ?_; rintro e w2 ⟨rfl, rfl⟩) | (go_at_call 115; with_reducible refine (hS2 _).mono ?_; rintro e w2 ⟨rfl, rfl⟩))
                go_roundw
                case rel => exact ⟨k + 1, by omega, by go_num, by rw [HE.out], by rw [HE.out]; exact HB2.out.kept H, bstep hb (bstep HQ.out H)⟩
                case measure => exact hms.out
          · have hlz : ((ks.length : Int) == (n : Int)) = false := by rw [beq_eq_false_iff_ne]; omega
            have HE := Lib.hid (show lvS n (k + 1) = (bs, ls) by rw [HST.out, lvStep, if_neg hl])
            clear hTP hAH
            go_wp2
            go_roundw
            case rel => exact ⟨k + 1, by omega, by go_num, by rw [HE.out], by rw [HE.out]; exact HB2.out, bstep hb HQ.out⟩
            case measure => exact hms.out
    · obtain rfl : k = 4096 := by omega
      rw [← HF.out] at HB
      go_wp2
      go_ret
      exact ⟨_, rfl, HB.out, hb⟩
theorem sLevelCrate_any (c : Cr) (w : World) : Calls Try.prog 15 #[cv c] w fun e w' => e = .returned (.tuple #[cv (levelR c).1, .int .i64 (levelR c).2]) ∧ Below w.heap.size w w' := by
  go_enter Try.func15, Try.ntmps15
  go_upto_region 1 with fail
  generalize hW : World.alloc _ _ = W
  have H0 : Below w.heap.size w W := by rw [← hW]; go_grown
  have r0 : rowOf W (w.heap.size) = some ((cc c).toArray) := (by (try rw [← hW]); simp only [rowOf_alloc, World.size_alloc, ↓reduceIte]; all_goals ((repeat' split) <;> first | omega | (exfalso; omega) | rfl))
  have r1 : rowOf W (w.heap.size + 1) = some ((cc zC).toArray) := (by (try rw [← hW]); simp only [rowOf_alloc, World.size_alloc, ↓reduceIte]; all_goals ((repeat' split) <;> first | omega | (exfalso; omega) | rfl))
  clear hW
  have q0 : w.heap.size < w.heap.size + 1 := by omega
  have l0 : w.heap.size ≤ w.heap.size := Nat.le_refl _
  generalize w.heap.size + 1 = g1 at r1 q0 ⊢
  generalize h0 : w.heap.size = g0 at r0 q0 ⊢
  replace l0 : w.heap.size ≤ g0 := Nat.le_of_eq h0
  clear h0
  have b0 := rowOf_lt r0
  have b1 := rowOf_lt r1
  have H := Below.refl W.heap.size W
  cases e1 : c.ok with
  | false =>
    have HF := Lib.hid (show levelR c = (zC, 1) by simp [levelR, e1])
    go_wp2_with (first | (go_at_call 64; with_reducible refine (l01Ok_row H r0).mono ?_; rintro e w' ⟨rfl, hb⟩; replace H := bstep H hb; clear hb; have hc := bcell H) | (with_reducible refine wp_store_zeroB H rfl rfl _ _ rfl _ rfl rfl _ r1 ?_))
    rw [HF.out]
    refine bodyPost_ret (results_ct rfl rfl (loadVar_rowOf (cc zC).toArray (by rw [rowOf_setRow, if_pos rfl, rowOf_below H (rowOf_lt r1), r1]; rfl) _ Try.underlying28 rfl (infoC _))) rfl ⟨rfl, bsetRow (bstep H0 H) (by omega) _⟩
  | true =>
    have hall := allB_le c
    have HF := Lib.hid (show levelR c = (spread (level (allB c).length) (allB c) (allB c).length, 0) by simp [levelR, e1])
    have HLL := level_len hall
    have HLP := level_places hall
    have HLV := fun W => l01Level_any (allB c).length hall W
    generalize level (allB c).length = ks at HF HLL HLP HLV
    replace HLP := Lib.hid HLP
    go_upto_region 5 with (first | (go_at_call 64; with_reducible refine (l01Ok_row H r0).mono ?_; rintro e w' ⟨rfl, hb⟩; replace H := bstep H hb; clear hb; have hc := bcell H) | (go_at_call 65; refine (l01AllS_any g0 0 c _ (CAt.of_row (row_kept r0 H)) (Nat.lt_of_lt_of_le b0 H.size)).mono ?_; rintro e w2 ⟨v2, rfl, O2, hb⟩; obtain ⟨g4, p4, rfl, K4, -⟩ := O2.lies; replace K4 := Lib.hid K4; replace H := bstep H hb; clear hb O2) | (go_at_call 66; refine (HLV _).mono ?_; rintro e w3 ⟨v3, rfl, O3, hb⟩; obtain ⟨g5, p5, rfl, K5, -⟩ := O3.lies; replace K5 := Lib.hid K5; replace K4 := Lib.hid (K4.out.below hb); replace H := bstep H hb; clear hb O3))
    clear hc e1 HLV
    replace r0 := row_kept r0 H
    replace r1 := row_kept r1 H
    replace H0 := bstep H0 H
    replace H := below_self H
    have b0' := rowOf_lt r0
    go_upto_region 6 with ((with_reducible refine wp_store_rowOf rfl rfl _ _ _ rfl _ rfl (cc zC).toArray rfl (cc zC).toArray ?hr (cc_size2 _ _) (infoC _) (cc_one _) ?_); (case hr => rw [rowOf_alloc, if_pos rfl]; rfl))
    have b4 := K4.out.lt
    have b5 := K5.out.lt
    generalize hW2 : World.setRow _ _ _ = W2
    obtain ⟨HB, r2, b2⟩ := laid_row H hW2
    clear hW2
    have qr02 := Nat.lt_of_lt_of_le (rowOf_lt r0) H.size
    replace r0 := row_kept r0 HB
    have qr12 := Nat.lt_of_lt_of_le (rowOf_lt r1) H.size
    replace r1 := row_kept r1 HB
    replace H0 := bstep H0 HB
    replace H := below_self HB
    generalize w3.heap.size = g2 at *
    have HC4 := Lib.hid (⟨K4.out.c.below HB b4, Nat.lt_trans b4 (rowOf_lt r2)⟩ : Lies bc W2 g4 (allB c))
    have HC5 := Lib.hid (⟨K5.out.c.below HB b5, Nat.lt_trans b5 (rowOf_lt r2)⟩ : Lies iv W2 g5 ks)
    clear K4 K5
    have HI := Lib.hid (And.intro r0 (And.intro r1 r2))
    clear r0 r1 r2 H
    generalize allB c = bs at *
    go_wp2
    go_loopw [7] (fun i wr => ∃ k : Nat, k ≤ bs.length ∧ i = .int .i64 k ∧ Below w.heap.size w wr ∧ Hid (Lies bc wr g4 bs) ∧ Hid (Lies iv wr g5 ks) ∧ Hid (rowOf wr g0 = some (cc c).toArray ∧ rowOf wr g1 = some (cc zC).toArray ∧ rowOf wr g2 = some (cc (spread ks bs k)).toArray)) (fun i _ => bs.length - (intOf i).toNat)
    case atStart => exact ⟨0, by omega, rfl, H0, HC4.out, HC5.out, HI.out⟩
    case round =>
      clear HI H0 HC4 HC5
      obtain ⟨k, hk, rfl, hb, HL4, HL5, HR⟩ := hrel
      by_cases hlt : k < bs.length
      · obtain ⟨p, hp12, hpe⟩ := spread_place HLP.out (show k < ks.length by omega)
        have hX := HL4.out.c.el bc_length hlt
        rw [getB hlt, ← rB_lt hlt, Nat.zero_add] at hX
        have z1 := rd_at (l := ks) (by rw [← fl_iv]; exact HL5.out.c) (show k < ks.length by omega)
        rw [hpe, Nat.zero_add] at z1
        have HSP : Hid (spread ks bs (k + 1) = setC (spread ks bs k) p (rB bs k)) := by
          show setC (spread ks bs k) (ks.getD k 0).toNat (rB bs k) = _
          rw [hpe]
          rfl
        obtain ⟨R0, R1, R2⟩ := HR.out
        clear HR hpe
        generalize spread ks bs k = PA at HSP R2
        generalize rB bs k = b at hX HSP
        have HI := Lib.hid (show p < PA.toList.length by rw [Vector.length_toList]; exact hp12)
        have x0 : wr.cell? ⟨g4, k * 2, none⟩ = some (.int .u8 b.k) := hX 0 _ rfl
        have x1 : wr.cell? ⟨g4, k * 2 + 1, none⟩ = some (.int .i16 b.y) := hX 1 _ rfl
        have hlt2 : (k : Int) < (bs.length : Int) := by omega
        have hlt3 : (k : Int) < (ks.length : Int) := by omega
        have hp2 : (p : Int) < 12 := by omega
        have hp3 : (p : Int) ≤ 11 := by omega
        have hn4 : g4 ≠ g2 := by omega
        have hn5 : g5 ≠ g2 := by omega
        clear hX
        go_upto_region 9 with fail
        have HB : Below w.heap.size w (World.drew wr) := bdrewN hb 1
        have HO := Lib.hid (⟨HL4.out, HL5.out⟩ : Lies bc (World.drew wr) g4 bs ∧ Lies iv (World.drew wr) g5 ks)
        have HR := Lib.hid (⟨R0, R1, R2⟩ : rowOf (World.drew wr) g0 = some (cc c).toArray ∧ rowOf (World.drew wr) g1 = some (cc zC).toArray ∧ rowOf (World.drew wr) g2 = some (cc PA).toArray)
        replace z1 : (World.drew wr).cell? ⟨g5, k, none⟩ = some (.int .i64 p) := z1
        replace x0 : (World.drew wr).cell? ⟨g4, k * 2, none⟩ = some (.int .u8 b.k) := x0
        replace x1 : (World.drew wr).cell? ⟨g4, k * 2 + 1, none⟩ = some (.int .i16 b.y) := x1
        clear R0 R1 R2 HL4 HL5
        generalize hW0 : World.drew wr = W0 at HB HO HR z1 x0 x1
        obtain ⟨W1, hW1⟩ : ∃ x', x' = W0.setRow g2 (bcs (PA.toList.set p b)).toArray := ⟨_, rfl⟩
        have u1 : W1.cell? ⟨g5, k, none⟩ = some (.int .i64 p) := by rw [hW1, cell_setRow_ne hn5]; exact z1
        have v0 : W1.cell? ⟨g4, k * 2, none⟩ = some (.int .u8 b.k) := by rw [hW1, cell_setRow_ne hn4]; exact x0
        have v1 : W1.cell? ⟨g4, k * 2 + 1, none⟩ = some (.int .i16 b.y) := by rw [hW1, cell_setRow_ne hn4]; exact x1
        have S0 : rowOf W0 g2 = some (bcs PA.toList).toArray := HR.out.2.2
        have HI2 := Lib.hid (⟨by rw [hW1, rowOf_setRow_ne (by omega)]; exact HR.out.1, by rw [hW1, rowOf_setRow_ne (by omega)]; exact HR.out.2.1, by rw [hW1, rowOf_setRow, if_pos rfl, HR.out.2.2]; rfl⟩ : rowOf W1 g0 = some (cc c).toArray ∧ rowOf W1 g1 = some (cc zC).toArray ∧ rowOf W1 g2 = some (cc (setC PA p b)).toArray)
        have HI3 := Lib.hid (⟨⟨fun q x hq => by rw [hW1, cell_setRow_ne hn4]; exact HO.out.1.c q x hq, by rw [hW1]; exact Nat.lt_of_lt_of_le HO.out.1.lt (bsetRow (Below.refl 0 W0) (Nat.zero_le _) _).size⟩, ⟨fun q x hq => by rw [hW1, cell_setRow_ne hn5]; exact HO.out.2.c q x hq, by rw [hW1]; exact Nat.lt_of_lt_of_le HO.out.2.lt (bsetRow (Below.refl 0 W0) (Nat.zero_le _) _).size⟩⟩ : Lies bc W1 g4 bs ∧ Lies iv W1 g5 ks)
        have HB2 : Below w.heap.size w W1 := by rw [hW1]; exact bsetRow HB (by omega) _
        replace hW0 := Lib.hid hW0
        replace hW1 := Lib.hid hW1
        refine d_start 10 [W0, W1] (by rw [hW0.out]; rfl) rfl (by kernel_rfl) ?_
        (refine d_quiet 0 (by kernel_rfl) rfl (fun K hK => ?_); go_simp; refine hK _ ?_; clear hK K)
        (refine d_quiet 1 (by kernel_rfl) rfl (fun K hK => ?_); go_simp; refine hK _ ?_; clear hK K)
        (refine d_quiet 2 (by kernel_rfl) rfl (fun K hK => ?_); go_simp; refine hK _ ?_; clear hK K)
        (refine d_quiet 3 (by kernel_rfl) rfl (fun K hK => ?_); go_simp; refine hK _ ?_; clear hK K)
        (refine d_quiet 4 (by kernel_rfl) rfl (fun K hK => ?_); go_simp; refine hK _ ?_; clear hK K)
        (refine d_quiet 5 (by kernel_rfl) rfl (fun K hK => ?_); go_simp; refine hK _ ?_; clear hK K)
        (refine d_quiet 6 (by kernel_rfl) rfl (fun K hK => ?_); go_simp; refine hK _ ?_; clear hK K)
        (refine d_quiet 7 (by kernel_rfl) rfl (fun K hK => ?_); go_simp; refine hK _ ?_; clear hK K)
        (refine d_quiet 8 (by kernel_rfl) rfl (fun K hK => ?_); go_simp; refine hK _ ?_; clear hK K)
        refine d_step 9 1 W0 W1 rfl rfl (by kernel_rfl) rfl rfl (fun K hK => Goes.to hW1.out (Goes.place rfl _ _ _ rfl _ _ rfl _ rfl _ S0 HI.out (infoB _ _) (hK _ ?_)))
        refine d_done (w := W1) rfl (by kernel_rfl) ?_
        clear z1 x0 x1 u1 v0 v1 S0
        go_wp2
        go_roundw
        case rel => exact ⟨k + 1, by omega, by go_num, HB2, HI3.out.1, HI3.out.2, by rw [HSP.out]; exact HI2.out⟩
        case measure => simp [intOf]; omega
      · obtain rfl : k = bs.length := by omega
        obtain ⟨r0, r1, r2⟩ := HR.out
        have H0 := hb
        have H := Below.refl wr.heap.size wr
        clear HR hb HL4 HL5
        generalize spread ks bs bs.length = X at HF r2
        go_wp2_with (first | ((with_reducible refine wp_load_rowBg H ?_ _ _ rfl _ rfl _ r2 _ Try.underlying28 rfl (infoC X) ?_); rfl) | (with_reducible refine wp_store_rowB H rfl rfl _ _ _ rfl _ rfl _ rfl _ r1 (cc_size2 _ _) (infoC _) (cc_one _) ?_))
        rw [HF.out]
        refine bodyPost_ret (results_ct rfl rfl (loadVar_rowOf (cc X).toArray (by rw [rowOf_setRow, if_pos rfl, rowOf_below H (rowOf_lt r1), r1]; rfl) _ Try.underlying28 rfl (infoC _))) rfl ⟨rfl, bsetRow (bstep H0 H) (by omega) _⟩
end Go.Proofs.Ytnhpgahapjjjbaa
