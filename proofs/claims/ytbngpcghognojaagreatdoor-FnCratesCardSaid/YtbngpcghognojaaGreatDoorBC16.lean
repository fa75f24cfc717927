/- Texts of the claim, joined (16 of 19): Fill, Level, LevelI. -/
import Derived.Test.YtbngpcghognojaaGreatDoorBC10
import Derived.Test.YtbngpcghognojaaGreatDoorBC12
import Derived.Test.YtbngpcghognojaaGreatDoorBC13
import Derived.Test.YtbngpcghognojaaGreatDoorBC15
namespace Go.Proofs.YtbngpcghognojaaGreatDoor
open Go.RowKit
set_option linter.unusedVariables false
set_option linter.unusedSimpArgs false
set_option maxRecDepth 100000
set_option maxHeartbeats 1000000
attribute [local go_sem] Oper.qB
theorem pl_at {p : Bt → Bool} {l : List Bt} {n k : Nat} (h : k < (pl p l n).length) : ∃ i : Nat, i < n ∧ (pl p l n).getD k 0 = (i : Int) := by
  have hm : (pl p l n)[k] ∈ pl p l n := List.getElem_mem h
  rw [List.getD_eq_getElem?_getD, List.getElem?_eq_getElem h]
  generalize (pl p l n)[k] = x at hm
  simp only [pl, List.mem_map, List.mem_filter, List.mem_range] at hm
  obtain ⟨i, ⟨hi, _⟩, rfl⟩ := hm
  exact ⟨i, hi, rfl⟩
/-- The two crates behind k steps. -/
def fillS (fs us : List Int) (a b : Cr) : Nat → Cr × Cr
  | 0 => (a, b)
  | k + 1 =>
    let q := fillS fs us a b k
    (setC q.1 (fs.getD k 0).toNat (rB q.2.toList (us.getD k 0).toNat), setC q.2 (us.getD k 0).toNat zB)
def fillN (a b : Cr) : Nat := min (freeI a).length (usedI b).length
def fillR (a b : Cr) : Cr × Cr × Int :=
  if (a.ok && b.ok) = true then ((fillS (freeI a) (usedI b) a b (fillN a b)).1, (fillS (freeI a) (usedI b) a b (fillN a b)).2, 0) else (zC, zC, 1)
theorem own_setRow {w : World} {B e size n : Nat} {v : Value} {xs : List Value} (h : w.ownsRow B e size v n xs) {g : Nat} (hg : g < B) (c : Array Value) : (w.setRow g c).ownsRow B e size v n xs := by
  obtain ⟨hl, h | ⟨g', cap, cur, hv, hb, hh, r⟩⟩ := h
  · exact ⟨hl, .inl h⟩
  · exact ⟨hl, .inr ⟨g', cap, cur, hv, hb, by rw [setRow_other w g g' c (by omega)]; exact hh, r⟩⟩
theorem own_setCell {w : World} {B e size n : Nat} {v : Value} {xs : List Value} (h : w.ownsRow B e size v n xs) {g o : Nat} (hg : g < B) (u : Value) : (w.setCell ⟨g, o, none⟩ u).ownsRow B e size v n xs := by
  obtain ⟨hl, h | ⟨g', cap, cur, hv, hb, hh, r⟩⟩ := h
  · exact ⟨hl, .inl h⟩
  · exact ⟨hl, .inr ⟨g', cap, cur, hv, hb, by rw [Below.heap_setCell w _ u g' (by show g' ≠ g; omega)]; exact hh, r⟩⟩
theorem own_drew {w : World} {B e size n : Nat} {v : Value} {xs : List Value} (h : w.ownsRow B e size v n xs) : w.drew.ownsRow B e size v n xs := h
/-- Two crates stored into the result's cells, from two worlds on. -/
theorem two_crates {w W : World} {g1 g2 : Nat} {A0 B0 A B : Array Value} (H : Below w.heap.size w W) (h1 : rowOf W g1 = some A0) (h2 : rowOf W g2 = some B0) (l1 : w.heap.size ≤ g1) (hlt : g1 < g2) :
    rowOf ((W.setRow g1 A).setRow g2 B) g1 = some A ∧ rowOf ((W.setRow g1 A).setRow g2 B) g2 = some B ∧ Below w.heap.size w ((W.setRow g1 A).setRow g2 B) := by
  refine ⟨?_, ?_, bsetRow (bsetRow H l1 _) (by omega) _⟩
  · rw [rowOf_setRow, if_neg (by omega), rowOf_setRow, if_pos rfl, h1]
    rfl
  · rw [rowOf_setRow, if_pos rfl, rowOf_setRow, if_neg (by omega), h2]
    rfl
section
variable {ops : Array Oper} {rest : List Oper} {o : Oper} {a : Act} {w : World} {Q : Exit → Act → World → Prop}
/-- The empty crate stored. -/
theorem wp_store_zeroW (hgd : o.guard = none) (hdst : o.dst = none) (x y : Operand) (ho : o.op = .store 28 x y) (g : Nat) (hx : a.eval x = .pointer (some ⟨g, 0, none⟩))
    (hy : a.eval y = .agg #[.int .u8 0, .int .i16 0, .int .u8 0, .int .i16 0, .int .u8 0, .int .i16 0, .int .u8 0, .int .i16 0, .int .u8 0, .int .i16 0, .int .u8 0, .int .i16 0, .int .u8 0, .int .i16 0, .int .u8 0, .int .i16 0, .int .u8 0, .int .i16 0, .int .u8 0, .int .i16 0, .int .u8 0, .int .i16 0, .int .u8 0, .int .i16 0])
    (c : Cr) (hr : rowOf w g = some (cc c).toArray) (h : wpList Tryz.prog ops Q rest a (w.setRow g (cc zC).toArray)) : wpList Tryz.prog ops Q (o :: rest) a w :=
  wp_store_rowOf hgd hdst 28 x y ho g hx (cc zC).toArray hy (cc c).toArray hr (cc_size2 _ _) (infoC zC) zC_one h
end
end Go.Proofs.YtbngpcghognojaaGreatDoor
namespace Go.Proofs.YtbngpcghognojaaGreatDoor
open Go Go.RowKit
set_option linter.unusedVariables false
set_option linter.unusedSimpArgs false
set_option maxRecDepth 100000
set_option maxHeartbeats 4000000
attribute [local go_sem] Oper.qB
theorem cell_but {w w' : World} {g b i n c : Nat} {v : Value} (hb : ButV (.slice (some ⟨g, 0, none⟩) n c) w w') (h : w.cell? ⟨b, i, none⟩ = some v) (hne : b ≠ g) : w'.cell? ⟨b, i, none⟩ = some v := by
  have hl : b < w.heap.size := World.block_lt_of_cell? _ _ h
  have e := hb.2 b hl (fun q => hne (by have q1 : g = b := by simpa [Value.ownBlock] using q
                                        exact q1.symm))
  unfold World.cell? at h ⊢
  simp only at h ⊢
  rw [e]
  exact h
theorem ButV.of_below {v : Value} {w w' : World} (h : Below w.heap.size w w') : ButV v w w' := ⟨h.mono (Nat.zero_le _), fun b hb _ => h.block b hb⟩
theorem ButV.step {v : Value} {w w1 w' : World} (h : ButV v w w1) (h' : Below w1.heap.size w1 w') : ButV v w w' := h.trans (ButV.of_below h')
theorem spread_place {ks : List Int} {k : Nat} (h : Places ks) (hk : k < ks.length) : ∃ p : Nat, p < 12 ∧ ks.getD k 0 = (p : Int) := by
  have := h.at hk
  exact ⟨(ks.getD k 0).toNat, by omega, by omega⟩
theorem rd_at {l : List Int} {k : Nat} {w : World} {g off : Nat} (hC : CAt w g off (vi l)) (hk : k < l.length) : w.cell? ⟨g, off + k, none⟩ = some (.int .i64 (l.getD k 0)) := hC k _ (vi_at l k hk)
theorem tip_range {ks : List Int} (h : Places ks) : 0 ≤ tipN ks ∧ tipN ks ≤ 72 := by
  have := h.bound
  unfold tipN
  omega
theorem lvS_range (n : Nat) (hn : n ≤ 12) (k : Nat) : -1 ≤ (lvS n k).2 ∧ (lvS n k).2 ≤ 72 := by
  rcases lvS_cases n k with ⟨e, _⟩ | ⟨e, hl, ha, _⟩
  · rw [e]; exact ⟨Int.le_refl _, by decide⟩
  · have := tip_range (ks := (lvS n k).1) ⟨by omega, fun x hx => by have := ha.2 x hx; omega⟩
    omega
theorem and_one_i64 (n : Int) : bits .and .i64 n 1 = n % 2 := by
  have h1 : (BitVec.ofInt 64 1).toNat = 2 ^ 1 - 1 := by decide
  have key : (BitVec.ofInt 64 n &&& BitVec.ofInt 64 1).toNat = (n % ((2 ^ 64 : Nat) : Int)).toNat % 2 ^ 1 := by
    rw [BitVec.toNat_and, BitVec.toNat_ofInt, h1, Nat.and_two_pow_sub_one_eq_mod]
  show IntKind.i64.wrap ((BitVec.ofInt 64 n &&& BitVec.ofInt 64 1).toNat : Nat) = n % 2
  rw [key, IntKind.wrap_i64]
  omega
theorem shr_of (k j : Nat) (hj : j ≤ 11) : ((k : Int)).fdiv (2 ^ min ((j : Nat) : Int).toNat IntKind.i64.bits) = ((k / 2 ^ j : Nat) : Int) := by
  rw [Int.toNat_natCast, show min j IntKind.i64.bits = j from Nat.min_eq_left (by show j ≤ 64; omega)]
  have e : ((2 : Int) ^ j) = ((2 ^ j : Nat) : Int) := by simp
  rw [e, ← Int.ofNat_fdiv]
theorem l01Size_any (n : Int) (w : World) (h1 : -1000 ≤ n) (h2 : n ≤ 1000) : Calls Tryz.prog 124 #[.int .i64 n] w fun e w' => e = .returned (.int .i64 (max n (-n))) ∧ w = w' := by
  have hw : IntKind.i64.wrap (-n) = -n := by rw [IntKind.wrap_i64]; omega
  have hM := l00Max_any n (-n)
  go_enter Tryz.func124, Tryz.ntmps124
  go_wp2_with (go_at_call 148; with_reducible refine (hM _).mono ?_; rintro e w2 ⟨rfl, rfl⟩)
  go_ret
  exact ⟨rfl, rfl⟩
theorem size_any (n : Int) (w : World) (h1 : -1000 ≤ n) (h2 : n ≤ 1000) : Calls Tryz.prog 72 #[.int .i64 n] w fun e w' => e = .returned (.int .i64 (max n (-n))) ∧ w = w' := by
  have hw : IntKind.i64.wrap (-n) = -n := by rw [IntKind.wrap_i64]; omega
  go_enter Tryz.func72, Tryz.ntmps72
  go_wp2
  go_ret
  exact ⟨rfl, rfl⟩
theorem l01Level_any (n : Nat) (hn : n ≤ 12) (w : World) :
    Calls Tryz.prog 74 #[.int .i64 n] w fun e w' => ∃ v, e = .returned v ∧ OwnS iv w' w.heap.size 2 1 v (level n) ∧ Below w.heap.size w w' := by
  have HF : Hid (level n = (lvS n 4096).1) := rfl
  have HGE := Lib.hid (lvS_cases n)
  have HRG := Lib.hid (lvS_range n hn)
  go_enter Tryz.func74, Tryz.ntmps74
  go_wp2
  go_loopw [3, 4, 5] (fun v ls s wr => ∃ k : Nat, k ≤ 4096 ∧ s = .int .i64 k ∧ ls = .int .i64 (lvS n k).2 ∧ Hid (OwnS iv wr w.heap.size 2 1 v (lvS n k).1) ∧ Below w.heap.size w wr) (fun _ _ s _ => 4096 - (intOf s).toNat)
  case atStart => exact ⟨0, Nat.zero_le _, rfl, rfl, OwnS.lit (Nat.le_refl _), by go_grown⟩
  case round =>
    obtain ⟨k, hk, rfl, rfl, HB, hb⟩ := hrel
    obtain ⟨wo, hwo⟩ : ∃ wo, wo = wr := ⟨_, rfl⟩
    subst hwo
    by_cases hlt : k < 4096
    · have HST : Hid (lvS n (k + 1) = lvStep n (inSet (fun i => 11 - i) k 12) (lvS n k)) := rfl
      have hrg := HRG.out k
      have HLB : Hid (¬ (lvS n k).2 < 0 → (lvS n k).1.length = n) := fun h => by
        rcases HGE.out k with ⟨e, _⟩ | ⟨_, e, _⟩
        · rw [e] at h; exact absurd (by decide) h
        · exact e
      have hlt2 : (k : Int) < 4096 := by omega
      have hms : Hid (4096 - ((k : Int) + 1).toNat < 4096 - (k : Int).toNat) := by show _ < _; omega
      generalize lvS n k = r at HST HB hrg HLB ⊢
      obtain ⟨bs, ls⟩ := r
      replace HB : Hid (OwnS iv wo w.heap.size 2 1 u3 bs) := HB
      replace hrg : -1 ≤ ls ∧ ls ≤ 72 := hrg
      replace HLB : Hid (¬ ls < 0 → bs.length = n) := HLB
      go_wp2
      go_loopw [6, 7] (fun v i wr => ∃ j : Nat, j ≤ 12 ∧ i = .int .i64 j ∧ Hid (OwnS iv wr wo.heap.size 2 1 v (inSet (fun i => 11 - i) k j)) ∧ Hid (Below wo.heap.size wo wr)) (fun _ i _ => 12 - (intOf i).toNat)
      case atStart => exact ⟨0, Nat.zero_le _, rfl, OwnS.lit (Nat.le_refl _), by show Below wo.heap.size wo _; go_grown⟩
      case round =>
        obtain ⟨j, hj, rfl, HK, HQ⟩ := hrel
        by_cases hltj : j < 12
        · have HIS := Lib.hid (inSet_succ (fun i => 11 - i) k j)
          have hkl := inSet_le (fun i => 11 - i) k j
          have hj2 : (j : Int) < 12 := by omega
          have hbo : bitOn k (11 - j) = decide (k / 2 ^ (11 - j) % 2 = 1) := rfl
          have hwj : IntKind.i64.wrap (11 - (j : Int)) = ((11 - j : Nat) : Int) := by rw [IntKind.wrap_i64]; omega
          have hwu : IntKind.u64.wrap ((11 - j : Nat) : Int) = ((11 - j : Nat) : Int) := by simp [IntKind.wrap, IntKind.bits, IntKind.signed]; omega
          have hdv : ((k : Int) / 2 ^ (11 - j)) = ((k / 2 ^ (11 - j) : Nat) : Int) := by simp
          have hand := and_one_i64 ((k / 2 ^ (11 - j) : Nat) : Int)
          generalize inSet (fun i => 11 - i) k j = ks at HK HIS hkl
          generalize k / 2 ^ (11 - j) = q at hdv hand hbo
          rcases (by omega : q % 2 = 1 ∨ q % 2 = 0) with hq | hq
          · have HI2 : Hid (inSet (fun i => 11 - i) k (j + 1) = ks ++ [(j : Int)]) := by rw [Hid, HIS.out, if_pos (by rw [hbo, hq]; rfl)]
            rw [show ((q : Nat) : Int) % 2 = 1 by omega] at hand
            clear hbo hq
            go_wp2_with (at_builtin; refine wp_app_num wo.heap.size rfl _ _ rfl _ ks (j : Int) rfl _ rfl ?hg ?HO ?hB ?hn ?_; (case hg => simp); (case HO => exact HK.out); (case hB => exact HQ.out.size); (case hn => omega); intro v1 w1 hown hb3)
            go_roundw
            case rel => exact ⟨j + 1, by omega, by go_num, by rw [HI2.out]; exact hown, HQ.out.trans hb3⟩
            case measure => simp [intOf]; omega
          · have HI2 : Hid (inSet (fun i => 11 - i) k (j + 1) = ks) := by rw [Hid, HIS.out, if_neg (by rw [hbo, hq]; decide), List.append_nil]
            rw [show ((q : Nat) : Int) % 2 = 0 by omega] at hand
            clear hbo hq
            go_wp2
            go_roundw
            case rel => exact ⟨j + 1, by omega, by go_num, by rw [HI2.out]; exact HK.out, HQ.out⟩
            case measure => simp [intOf]; omega
        · obtain rfl : j = 12 := by omega
          have hkl := inSet_le (fun i => 11 - i) k 12
          have HAS := Lib.hid (inSet_asc (fun i => 11 - i) k 12)
          generalize inSet (fun i => 11 - i) k 12 = ks at HK HST HAS hkl
          have HB2 := Lib.hid (HB.out.kept HQ.out)
          have hPL : Places ks := ⟨hkl, fun x hx => by have := HAS.out.2 x hx; omega⟩
          have hbd := hPL.bound
          have htr := tip_range hPL
          obtain ⟨g9, p9, rfl, L9, hg9, hl9, hc9⟩ := HK.out.lies
          obtain ⟨g6, p6, rfl, L6, _, _, _⟩ := HB2.out.lies
          replace L9 := Lib.hid L9
          replace L6 := Lib.hid L6
          have H := Below.refl wr.heap.size wr
          have hTP := fun W (hW : Below wr.heap.size wr W) => l01Tip_any (some ⟨g9, 0, none⟩) p9 ks W (by rw [← fl_iv]; exact (L9.out.below hW).rd) hPL
          have hAH := fun W (hW : Below wr.heap.size wr W) => l01Ahead_any (some ⟨g9, 0, none⟩) p9 ks (some ⟨g6, 0, none⟩) p6 bs W (by rw [← fl_iv]; exact (L9.out.below hW).rd) (by rw [← fl_iv]; exact (L6.out.below hW).rd)
          have hTD : tipN ks = max (eastI ks) (-eastI ks) + max (southI ks) (-southI ks) := rfl
          clear hPL
          generalize eastI ks = ee at hTP hbd hTD
          generalize southI ks = ss at hTP hbd hTD
          have hS1 := fun W => l01Size_any ee W (by omega) (by omega)
          have hS2 := fun W => l01Size_any ss W (by omega) (by omega)
          generalize max ee (-ee) = ea at hTD hS1
          generalize max ss (-ss) = sa at hTD hS2
          have hwT : IntKind.i64.wrap (ea + sa) = tipN ks := by rw [IntKind.wrap_i64, ← hTD]; omega
          replace hTD := Lib.hid hTD
          by_cases hl : ks.length = n
          · have hlz : ((ks.length : Int) == (n : Int)) = true := by rw [beq_iff_eq]; omega
            have HSN : Hid (lvS n (k + 1) = if (decide (ls < 0) || decide (tipN ks < ls) || (decide (tipN ks = ls) && ahead ks bs)) = true then (ks, tipN ks) else (bs, ls)) := by rw [Hid, HST.out, lvStep, if_pos hl]
            replace hl := Lib.hid hl
            generalize tipN ks = T at HSN hwT htr
            by_cases hneg : ls < 0
            · clear hAH
              have HE := Lib.hid (show lvS n (k + 1) = (ks, T) by rw [HSN.out, if_pos (by simp [hneg])])
              clear HSN
              go_wp2_with (first | (go_at_call 123; with_reducible refine (hTP _ H).mono ?_; rintro e w2 ⟨rfl, rfl⟩) | (go_at_call 124; with_reducible refine (hS1 _).mono ?_; rintro e w2 ⟨rfl, rfl⟩) | (go_at_call 124; with_reducible refine (hS2 _).mono ?_; rintro e w2 ⟨rfl, rfl⟩))
              go_roundw
              case rel => exact ⟨k + 1, by omega, by go_num, by rw [HE.out], by rw [HE.out]; exact (HK.out.kept H).down hb.size, bstep hb (bstep HQ.out H)⟩
              case measure => exact hms.out
            · have hbl := Lib.hid (HLB.out (by omega))
              rcases Int.lt_trichotomy T ls with hc | hc | hc
              · clear hAH
                have HE := Lib.hid (show lvS n (k + 1) = (ks, T) by rw [HSN.out, if_pos (by simp [hc])])
                clear HSN
                go_wp2_with (first | (go_at_call 123; with_reducible refine (hTP _ H).mono ?_; rintro e w2 ⟨rfl, rfl⟩) | (go_at_call 124; with_reducible refine (hS1 _).mono ?_; rintro e w2 ⟨rfl, rfl⟩) | (go_at_call 124; with_reducible refine (hS2 _).mono ?_; rintro e w2 ⟨rfl, rfl⟩))
                go_roundw
                case rel => exact ⟨k + 1, by omega, by go_num, by rw [HE.out], by rw [HE.out]; exact (HK.out.kept H).down hb.size, bstep hb (bstep HQ.out H)⟩
                case measure => exact hms.out
              · have hAH2 := fun W hW => hAH W hW (by rw [hbl.out]; exact hl.out) (by omega)
                clear hAH
                have hcn : ¬ T < ls := by omega
                have hcz : (T == ls) = true := by rw [beq_iff_eq]; exact hc
                replace hc := Lib.hid hc
                generalize ahead ks bs = ah at hAH2 HSN
                cases ah with
                | true =>
                  have HE := Lib.hid (show lvS n (k + 1) = (ks, T) by rw [HSN.out, if_pos (by simp [hc.out])])
                  clear HSN
                  go_wp2_with (first | (go_at_call 123; with_reducible refine (hTP _ H).mono ?_; rintro e w2 ⟨rfl, rfl⟩) | (go_at_call 124; with_reducible refine (hS1 _).mono ?_; rintro e w2 ⟨rfl, rfl⟩) | (go_at_call 124; with_reducible refine (hS2 _).mono ?_; rintro e w2 ⟨rfl, rfl⟩) | (go_at_call 125; with_reducible refine (hAH2 _ H).mono ?_; rintro e w2 ⟨rfl, hb3⟩; replace H := bstep H hb3; clear hb3))
                  go_roundw
                  case rel => exact ⟨k + 1, by omega, by go_num, by rw [HE.out], by rw [HE.out]; exact (HK.out.kept H).down hb.size, bstep hb (bstep HQ.out H)⟩
                  case measure => exact hms.out
                | false =>
                  have HE := Lib.hid (show lvS n (k + 1) = (bs, ls) by rw [HSN.out, if_neg (by simp; omega)])
                  clear HSN
                  go_wp2_with (first | (go_at_call 123; with_reducible refine (hTP _ H).mono ?_; rintro e w2 ⟨rfl, rfl⟩) | (go_at_call 124; with_reducible refine (hS1 _).mono ?_; rintro e w2 ⟨rfl, rfl⟩) | (go_at_call 124; with_reducible refine (hS2 _).mono ?_; rintro e w2 ⟨rfl, rfl⟩) | (go_at_call 125; with_reducible refine (hAH2 _ H).mono ?_; rintro e w2 ⟨rfl, hb3⟩; replace H := bstep H hb3; clear hb3))
                  go_roundw
                  case rel => exact ⟨k + 1, by omega, by go_num, by rw [HE.out], by rw [HE.out]; exact HB2.out.kept H, bstep hb (bstep HQ.out H)⟩
                  case measure => exact hms.out
              · clear hAH
                have hcn : ¬ T < ls := by omega
                have hcz : (T == ls) = false := by rw [beq_eq_false_iff_ne]; omega
                have HE := Lib.hid (show lvS n (k + 1) = (bs, ls) by rw [HSN.out, if_neg (by simp; omega)])
                clear HSN
                go_wp2_with (first | (go_at_call 123; with_reducible refine (hTP _ H).mono ?_; rintro e w2 ⟨rfl, rfl⟩) | (go_at_call 124; with_reducible refine (hS1 _).mono ?_; rintro e w2 ⟨rfl, rfl⟩) | (go_at_call 124; with_reducible refine (hS2 _).mono ?_; rintro e w2 ⟨rfl, rfl⟩))
                go_roundw
                case rel => exact ⟨k + 1, by omega, by go_num, by rw [HE.out], by rw [HE.out]; exact HB2.out.kept H, bstep hb (bstep HQ.out H)⟩
                case measure => exact hms.out
          · have hlz : ((ks.length : Int) == (n : Int)) = false := by rw [beq_eq_false_iff_ne]; omega
            have HE := Lib.hid (show lvS n (k + 1) = (bs, ls) by rw [HST.out, lvStep, if_neg hl])
            clear hTP hAH
            go_wp2
            go_roundw
            case rel => exact ⟨k + 1, by omega, by go_num, by rw [HE.out], by rw [HE.out]; exact HB2.out, bstep hb HQ.out⟩
            case measure => exact hms.out
    · obtain rfl : k = 4096 := by omega
      rw [← HF.out] at HB
      go_wp2
      go_ret
      exact ⟨_, rfl, HB.out, hb⟩
theorem sLevelCrate_any (c : Cr) (w : World) : Calls Tryz.prog 15 #[cv c] w fun e w' => e = .returned (.tuple #[cv (levelR c).1, .int .i64 (levelR c).2]) ∧ Below w.heap.size w w' := by
  go_enter Tryz.func15, Tryz.ntmps15
  go_upto_region 1 with fail
  generalize hW : World.alloc _ _ = W
  have H0 : Below w.heap.size w W := by rw [← hW]; go_grown
  have r0 : rowOf W (w.heap.size) = some ((cc c).toArray) := (by (try rw [← hW]); simp only [rowOf_alloc, World.size_alloc, ↓reduceIte]; all_goals ((repeat' split) <;> first | omega | (exfalso; omega) | rfl))
  have r1 : rowOf W (w.heap.size + 1) = some ((cc zC).toArray) := (by (try rw [← hW]); simp only [rowOf_alloc, World.size_alloc, ↓reduceIte]; all_goals ((repeat' split) <;> first | omega | (exfalso; omega) | rfl))
  clear hW
  have q0 : w.heap.size < w.heap.size + 1 := by omega
  have l0 : w.heap.size ≤ w.heap.size := Nat.le_refl _
  generalize w.heap.size + 1 = g1 at r1 q0 ⊢
  generalize h0 : w.heap.size = g0 at r0 q0 ⊢
  replace l0 : w.heap.size ≤ g0 := Nat.le_of_eq h0
  clear h0
  have b0 := rowOf_lt r0
  have b1 := rowOf_lt r1
  have H := Below.refl W.heap.size W
  cases e1 : c.ok with
  | false =>
    have HF := Lib.hid (show levelR c = (zC, 1) by simp [levelR, e1])
    go_wp2_with (first | (go_at_call 68; with_reducible refine (l01Ok_row H r0).mono ?_; rintro e w' ⟨rfl, hb⟩; replace H := bstep H hb; clear hb; have hc := bcell H) | (with_reducible refine wp_store_zeroB H rfl rfl _ _ rfl _ rfl rfl _ r1 ?_))
    rw [HF.out]
    refine bodyPost_ret (results_ct rfl rfl (loadVar_rowOf (cc zC).toArray (by rw [rowOf_setRow, if_pos rfl, rowOf_below H (rowOf_lt r1), r1]; rfl) _ Tryz.underlying28 rfl (infoC _))) rfl ⟨rfl, bsetRow (bstep H0 H) (by omega) _⟩
  | true =>
    have hall := allB_le c
    have HF := Lib.hid (show levelR c = (spread (level (allB c).length) (allB c) (allB c).length, 0) by simp [levelR, e1])
    have HLL := level_len hall
    have HLP := level_places hall
    have HLV := fun W => l01Level_any (allB c).length hall W
    generalize level (allB c).length = ks at HF HLL HLP HLV
    replace HLP := Lib.hid HLP
    go_upto_region 5 with (first | (go_at_call 68; with_reducible refine (l01Ok_row H r0).mono ?_; rintro e w' ⟨rfl, hb⟩; replace H := bstep H hb; clear hb; have hc := bcell H) | (go_at_call 73; refine (l01AllS_any g0 0 c _ (CAt.of_row (row_kept r0 H)) (Nat.lt_of_lt_of_le b0 H.size)).mono ?_; rintro e w2 ⟨v2, rfl, O2, hb⟩; obtain ⟨g4, p4, rfl, K4, -⟩ := O2.lies; replace K4 := Lib.hid K4; replace H := bstep H hb; clear hb O2) | (go_at_call 74; refine (HLV _).mono ?_; rintro e w3 ⟨v3, rfl, O3, hb⟩; obtain ⟨g5, p5, rfl, K5, -⟩ := O3.lies; replace K5 := Lib.hid K5; replace K4 := Lib.hid (K4.out.below hb); replace H := bstep H hb; clear hb O3))
    clear hc e1 HLV
    replace r0 := row_kept r0 H
    replace r1 := row_kept r1 H
    replace H0 := bstep H0 H
    replace H := below_self H
    have b0' := rowOf_lt r0
    go_upto_region 6 with ((with_reducible refine wp_store_rowOf rfl rfl _ _ _ rfl _ rfl (cc zC).toArray rfl (cc zC).toArray ?hr (cc_size2 _ _) (infoC _) (cc_one _) ?_); (case hr => rw [rowOf_alloc, if_pos rfl]; rfl))
    have b4 := K4.out.lt
    have b5 := K5.out.lt
    generalize hW2 : World.setRow _ _ _ = W2
    obtain ⟨HB, r2, b2⟩ := laid_row H hW2
    clear hW2
    have qr02 := Nat.lt_of_lt_of_le (rowOf_lt r0) H.size
    replace r0 := row_kept r0 HB
    have qr12 := Nat.lt_of_lt_of_le (rowOf_lt r1) H.size
    replace r1 := row_kept r1 HB
    replace H0 := bstep H0 HB
    replace H := below_self HB
    generalize w3.heap.size = g2 at *
    have HC4 := Lib.hid (⟨K4.out.c.below HB b4, Nat.lt_trans b4 (rowOf_lt r2)⟩ : Lies bc W2 g4 (allB c))
    have HC5 := Lib.hid (⟨K5.out.c.below HB b5, Nat.lt_trans b5 (rowOf_lt r2)⟩ : Lies iv W2 g5 ks)
    clear K4 K5
    have HI := Lib.hid (And.intro r0 (And.intro r1 r2))
    clear r0 r1 r2 H
    generalize allB c = bs at *
    go_wp2
    go_loopw [7] (fun i wr => ∃ k : Nat, k ≤ bs.length ∧ i = .int .i64 k ∧ Below w.heap.size w wr ∧ Hid (Lies bc wr g4 bs) ∧ Hid (Lies iv wr g5 ks) ∧ Hid (rowOf wr g0 = some (cc c).toArray ∧ rowOf wr g1 = some (cc zC).toArray ∧ rowOf wr g2 = some (cc (spread ks bs k)).toArray)) (fun i _ => bs.length - (intOf i).toNat)
    case atStart => exact ⟨0, by omega, rfl, H0, HC4.out, HC5.out, HI.out⟩
    case round =>
      clear HI H0 HC4 HC5
      obtain ⟨k, hk, rfl, hb, HL4, HL5, HR⟩ := hrel
      by_cases hlt : k < bs.length
      · obtain ⟨p, hp12, hpe⟩ := spread_place HLP.out (show k < ks.length by omega)
        have hX := HL4.out.c.el bc_length hlt
        rw [getB hlt, ← rB_lt hlt, Nat.zero_add] at hX
        have z1 := rd_at (l := ks) (by rw [← fl_iv]; exact HL5.out.c) (show k < ks.length by omega)
        rw [hpe, Nat.zero_add] at z1
        have HSP : Hid (spread ks bs (k + 1) = setC (spread ks bs k) p (rB bs k)) := by
          show setC (spread ks bs k) (ks.getD k 0).toNat (rB bs k) = _
          rw [hpe]
          rfl
        obtain ⟨R0, R1, R2⟩ := HR.out
        clear HR hpe
        generalize spread ks bs k = PA at HSP R2
        generalize rB bs k = b at hX HSP
        have HI := Lib.hid (show p < PA.toList.length by rw [Vector.length_toList]; exact hp12)
        have x0 : wr.cell? ⟨g4, k * 2, none⟩ = some (.int .u8 b.k) := hX 0 _ rfl
        have x1 : wr.cell? ⟨g4, k * 2 + 1, none⟩ = some (.int .i16 b.y) := hX 1 _ rfl
        have hlt2 : (k : Int) < (bs.length : Int) := by omega
        have hlt3 : (k : Int) < (ks.length : Int) := by omega
        have hp2 : (p : Int) < 12 := by omega
        have hp3 : (p : Int) ≤ 11 := by omega
        have hn4 : g4 ≠ g2 := by omega
        have hn5 : g5 ≠ g2 := by omega
        clear hX
        go_upto_region 9 with fail
        have HB : Below w.heap.size w (World.drew wr) := bdrewN hb 1
        have HO := Lib.hid (⟨HL4.out, HL5.out⟩ : Lies bc (World.drew wr) g4 bs ∧ Lies iv (World.drew wr) g5 ks)
        have HR := Lib.hid (⟨R0, R1, R2⟩ : rowOf (World.drew wr) g0 = some (cc c).toArray ∧ rowOf (World.drew wr) g1 = some (cc zC).toArray ∧ rowOf (World.drew wr) g2 = some (cc PA).toArray)
        replace z1 : (World.drew wr).cell? ⟨g5, k, none⟩ = some (.int .i64 p) := z1
        replace x0 : (World.drew wr).cell? ⟨g4, k * 2, none⟩ = some (.int .u8 b.k) := x0
        replace x1 : (World.drew wr).cell? ⟨g4, k * 2 + 1, none⟩ = some (.int .i16 b.y) := x1
        clear R0 R1 R2 HL4 HL5
        generalize hW0 : World.drew wr = W0 at HB HO HR z1 x0 x1
        obtain ⟨W1, hW1⟩ : ∃ x', x' = W0.setRow g2 (bcs (PA.toList.set p b)).toArray := ⟨_, rfl⟩
        have u1 : W1.cell? ⟨g5, k, none⟩ = some (.int .i64 p) := by rw [hW1, cell_setRow_ne hn5]; exact z1
        have v0 : W1.cell? ⟨g4, k * 2, none⟩ = some (.int .u8 b.k) := by rw [hW1, cell_setRow_ne hn4]; exact x0
        have v1 : W1.cell? ⟨g4, k * 2 + 1, none⟩ = some (.int .i16 b.y) := by rw [hW1, cell_setRow_ne hn4]; exact x1
        have S0 : rowOf W0 g2 = some (bcs PA.toList).toArray := HR.out.2.2
        have HI2 := Lib.hid (⟨by rw [hW1, rowOf_setRow_ne (by omega)]; exact HR.out.1, by rw [hW1, rowOf_setRow_ne (by omega)]; exact HR.out.2.1, by rw [hW1, rowOf_setRow, if_pos rfl, HR.out.2.2]; rfl⟩ : rowOf W1 g0 = some (cc c).toArray ∧ rowOf W1 g1 = some (cc zC).toArray ∧ rowOf W1 g2 = some (cc (setC PA p b)).toArray)
        have HI3 := Lib.hid (⟨⟨fun q x hq => by rw [hW1, cell_setRow_ne hn4]; exact HO.out.1.c q x hq, by rw [hW1]; exact Nat.lt_of_lt_of_le HO.out.1.lt (bsetRow (Below.refl 0 W0) (Nat.zero_le _) _).size⟩, ⟨fun q x hq => by rw [hW1, cell_setRow_ne hn5]; exact HO.out.2.c q x hq, by rw [hW1]; exact Nat.lt_of_lt_of_le HO.out.2.lt (bsetRow (Below.refl 0 W0) (Nat.zero_le _) _).size⟩⟩ : Lies bc W1 g4 bs ∧ Lies iv W1 g5 ks)
        have HB2 : Below w.heap.size w W1 := by rw [hW1]; exact bsetRow HB (by omega) _
        replace hW0 := Lib.hid hW0
        replace hW1 := Lib.hid hW1
        refine d_start 10 [W0, W1] (by rw [hW0.out]; rfl) rfl (by kernel_rfl) ?_
        (refine d_quiet 0 (by kernel_rfl) rfl (fun K hK => ?_); go_simp; refine hK _ ?_; clear hK K)
        (refine d_quiet 1 (by kernel_rfl) rfl (fun K hK => ?_); go_simp; refine hK _ ?_; clear hK K)
        (refine d_quiet 2 (by kernel_rfl) rfl (fun K hK => ?_); go_simp; refine hK _ ?_; clear hK K)
        (refine d_quiet 3 (by kernel_rfl) rfl (fun K hK => ?_); go_simp; refine hK _ ?_; clear hK K)
        (refine d_quiet 4 (by kernel_rfl) rfl (fun K hK => ?_); go_simp; refine hK _ ?_; clear hK K)
        (refine d_quiet 5 (by kernel_rfl) rfl (fun K hK => ?_); go_simp; refine hK _ ?_; clear hK K)
        (refine d_quiet 6 (by kernel_rfl) rfl (fun K hK => ?_); go_simp; refine hK _ ?_; clear hK K)
        (refine d_quiet 7 (by kernel_rfl) rfl (fun K hK => ?_); go_simp; refine hK _ ?_; clear hK K)
        (refine d_quiet 8 (by kernel_rfl) rfl (fun K hK => ?_); go_simp; refine hK _ ?_; clear hK K)
        refine d_step 9 1 W0 W1 rfl rfl (by kernel_rfl) rfl rfl (fun K hK => Goes.to hW1.out (Goes.place rfl _ _ _ rfl _ _ rfl _ rfl _ S0 HI.out (infoB _ _) (hK _ ?_)))
        refine d_done (w := W1) rfl (by kernel_rfl) ?_
        clear z1 x0 x1 u1 v0 v1 S0
        go_wp2
        go_roundw
        case rel => exact ⟨k + 1, by omega, by go_num, HB2, HI3.out.1, HI3.out.2, by rw [HSP.out]; exact HI2.out⟩
        case measure => simp [intOf]; omega
      · obtain rfl : k = bs.length := by omega
        obtain ⟨r0, r1, r2⟩ := HR.out
        have H0 := hb
        have H := Below.refl wr.heap.size wr
        clear HR hb HL4 HL5
        generalize spread ks bs bs.length = X at HF r2
        go_wp2_with (first | ((with_reducible refine wp_load_rowBg H ?_ _ _ rfl _ rfl _ r2 _ Tryz.underlying28 rfl (infoC X) ?_); rfl) | (with_reducible refine wp_store_rowB H rfl rfl _ _ _ rfl _ rfl _ rfl _ r1 (cc_size2 _ _) (infoC _) (cc_one _) ?_))
        rw [HF.out]
        refine bodyPost_ret (results_ct rfl rfl (loadVar_rowOf (cc X).toArray (by rw [rowOf_setRow, if_pos rfl, rowOf_below H (rowOf_lt r1), r1]; rfl) _ Tryz.underlying28 rfl (infoC _))) rfl ⟨rfl, bsetRow (bstep H0 H) (by omega) _⟩
end Go.Proofs.YtbngpcghognojaaGreatDoor
namespace Go.Proofs.YtbngpcghognojaaGreatDoor
open Go Go.RowKit
set_option linter.unusedVariables false
set_option linter.unusedSimpArgs false
set_option maxRecDepth 100000
set_option maxHeartbeats 4000000
attribute [local go_sem] Oper.qB
theorem RdA_but {w w' : World} {A : Option Addr} {vs : List Value} {g n c : Nat} (h : RdA w A vs) (hb : ButV (.slice (some ⟨g, 0, none⟩) n c) w w') (hne : ∀ a, A = some a → vs ≠ [] → a.block ≠ g) : RdA w' A vs := by
  rcases h with h | ⟨b, off, hA, hl, hC⟩
  · exact .inl h
  · by_cases h0 : vs = []
    · exact .inl h0
    · have hbg : b ≠ g := hne _ hA h0
      exact .inr ⟨b, off, hA, Nat.lt_of_lt_of_le hl hb.1.size, fun i v hv => cell_but hb (hC i v hv) hbg⟩
theorem RdA_down {B : Nat} {w w' : World} {A : Option Addr} {vs : List Value} (h : RdA w A vs) (hb : Below B w w') (hB : ∀ a, A = some a → vs ≠ [] → a.block < B) : RdA w' A vs := by
  rcases h with h | ⟨b, off, hA, hl, hC⟩
  · exact .inl h
  · by_cases h0 : vs = []
    · exact .inl h0
    · have hbg : b < B := hB _ hA h0
      exact .inr ⟨b, off, hA, Nat.lt_of_lt_of_le hl hb.size, hC.below hb hbg⟩
theorem LevelCrate_any (c : Cr) (w : World) : Calls Tryz.prog 14 #[cv c] w fun e w' => e = .returned (.tuple #[cv (levelR c).1, .int .i64 (levelR c).2]) ∧ Below w.heap.size w w' := by
  go_enter Tryz.func14, Tryz.ntmps14
  go_upto_region 1 with fail
  generalize hW : World.alloc _ _ = W
  have H0 : Below w.heap.size w W := by rw [← hW]; go_grown
  have r0 : rowOf W (w.heap.size) = some ((cc c).toArray) := (by (try rw [← hW]); simp only [rowOf_alloc, World.size_alloc, ↓reduceIte]; all_goals ((repeat' split) <;> first | omega | (exfalso; omega) | rfl))
  have r1 : rowOf W (w.heap.size + 1) = some ((cc zC).toArray) := (by (try rw [← hW]); simp only [rowOf_alloc, World.size_alloc, ↓reduceIte]; all_goals ((repeat' split) <;> first | omega | (exfalso; omega) | rfl))
  clear hW
  have q0 : w.heap.size < w.heap.size + 1 := by omega
  have l0 : w.heap.size ≤ w.heap.size := Nat.le_refl _
  generalize w.heap.size + 1 = g1 at r1 q0 ⊢
  generalize h0 : w.heap.size = g0 at r0 q0 ⊢
  replace l0 : w.heap.size ≤ g0 := Nat.le_of_eq h0
  clear h0
  have b0 := rowOf_lt r0
  have b1 := rowOf_lt r1
  have H := Below.refl W.heap.size W
  cases e1 : c.ok with
  | false =>
    have HF := Lib.hid (show levelR c = (zC, 1) by simp [levelR, e1])
    go_wp2_with (first | ((with_reducible refine wp_load_rowBg H ?_ _ _ rfl _ rfl _ r0 _ Tryz.underlying28 rfl (infoC c) ?_); rfl) | (go_at_call 18; with_reducible refine (ValidCrate_any c _).mono ?_; rintro e w' ⟨rfl, hb⟩; replace H := bstep H hb; clear hb; have hc := bcell H) | (with_reducible refine wp_store_zeroB H rfl rfl _ _ rfl _ rfl rfl _ r1 ?_))
    rw [HF.out]
    refine bodyPost_ret (results_ct rfl rfl (loadVar_rowOf (cc zC).toArray (by rw [rowOf_setRow, if_pos rfl, rowOf_below H (rowOf_lt r1), r1]; rfl) _ Tryz.underlying28 rfl (infoC _))) rfl ⟨rfl, bsetRow (bstep H0 H) (by omega) _⟩
  | true =>
    have hall := allB_le c
    have HF := Lib.hid (show levelR c = (spread (level (allB c).length) (allB c) (allB c).length, 0) by simp [levelR, e1])
    have HLE := Lib.hid (level_eq hall)
    have HLL := Lib.hid (level_len hall)
    have HAS := Lib.hid (fun j => @lvI_asc (allB c).length j)
    have HMM := Lib.hid (fun q => (chF_mem (allB c).length 0 12 q).1)
    have hch := fun W => choices_any (allB c).length 0 12 W (by decide) (by decide) (by decide) hall
    have hrl := chF_le (allB c).length 0 12
    rw [show (2 : Nat) ^ 12 = 4096 by rfl] at hrl
    rw [show (0 : Int) + ((12 : Nat) : Int) - 1 = 11 by rfl] at hch
    generalize chF (allB c).length 0 12 = rs at hch hrl HLE HAS HMM
    replace hch := Lib.hid hch
    go_upto_region 3 with (first | ((with_reducible refine wp_load_rowBg H ?_ _ _ rfl _ rfl _ r0 _ Tryz.underlying28 rfl (infoC c) ?_); rfl) | (go_at_call 18; with_reducible refine (ValidCrate_any c _).mono ?_; rintro e w' ⟨rfl, hb⟩; replace H := bstep H hb; clear hb; have hc := bcell H))
    clear hc
    go_upto_region 4 with (first | ((with_reducible refine wp_load_rowBg H ?_ _ _ rfl _ rfl _ r0 _ Tryz.underlying28 rfl (infoC c) ?_); rfl) | (go_at_call 69; refine (bottles_any c _).mono ?_; rintro e w4 ⟨v4, rfl, O4, hb⟩; obtain ⟨A4, c4, rfl, -, O4⟩ := OwnN.rd (l := allB c) O4; replace O4 := Lib.hid O4; replace H := bstep H hb; replace r0 := row_kept r0 H; replace r1 := row_kept r1 H; replace H0 := bstep H0 H; replace H := below_self H; clear hb) | ((with_reducible refine wp_store_rowOf rfl rfl _ _ _ rfl _ rfl (cc zC).toArray rfl (cc zC).toArray ?hr (cc_size2 _ _) (infoC _) (cc_one _) ?_); (case hr => rw [rowOf_alloc, if_pos rfl]; rfl)))
    have hA4 : ∀ a, A4 = some a → fl bc (allB c) ≠ [] → a.block < w4.heap.size := fun a ha hl => by
      obtain ⟨g, off, hA, hg, -⟩ := O4.out.some (List.length_pos_iff.2 hl)
      rw [ha] at hA
      obtain rfl := Option.some.inj hA
      exact hg
    generalize hW2 : World.setRow _ _ _ = W2
    obtain ⟨HB, r2, b2⟩ := laid_row H hW2
    clear hW2
    have qr02 := Nat.lt_of_lt_of_le (rowOf_lt r0) H.size
    replace r0 := row_kept r0 HB
    have qr12 := Nat.lt_of_lt_of_le (rowOf_lt r1) H.size
    replace r1 := row_kept r1 HB
    replace H0 := bstep H0 HB
    replace H := below_self HB
    generalize w4.heap.size = g2 at *
    have HC4 := Lib.hid (RdA_down O4.out HB hA4)
    replace hA4 : Hid (∀ a, A4 = some a → fl bc (allB c) ≠ [] → a.block ≠ g2) := fun a ha hl => Nat.ne_of_lt (hA4 a ha hl)
    clear O4
    have b2 := rowOf_lt r2
    generalize allB c = bs at *
    replace H0 := Lib.hid H0
    go_wp2_with (go_at_call 70; with_reducible refine (hch.out _).mono ?_; rintro e wi ⟨v6, rfl, R6, hb6⟩; obtain ⟨g6, p6, rfl, hg6, hB6, HEL⟩ := R6.lies)
    replace HEL := Lib.hid HEL
    have HI := Lib.hid (⟨row_kept r0 hb6, row_kept r1 hb6, row_kept r2 hb6, HC4.out.below hb6⟩ : _ ∧ _ ∧ _ ∧ _)
    have H1 := Lib.hid (bstep H0.out hb6)
    have hn6 : g6 ≠ g2 := by omega
    generalize W2.heap.size = B6 at *
    have hg26 : g2 < B6 := b2
    clear hb6 HC4 r0 r1 r2 H HB
    go_loopw [6, 25] (fun ls x wr => ∃ j : Nat, j ≤ rs.length ∧ x = .int .i64 j ∧ ls = .int .i64 (lvI rs j).2 ∧ Hid (Below w.heap.size w wr) ∧ Hid (ButV (.slice (some ⟨g2, 0, none⟩) 0 0) wi wr) ∧ Hid (rowOf wr g2 = some (cc (spread (lvI rs j).1 bs (lvI rs j).1.length)).toArray)) (fun _ x _ => rs.length - (intOf x).toNat)
    case atStart => exact ⟨0, Nat.zero_le _, rfl, rfl, H1.out, ButV.refl, HI.out.2.2.1⟩
    case round =>
      obtain ⟨j, hj, rfl, rfl, HB, HQ, HR⟩ := hrel
      obtain ⟨wo, hwo⟩ : ∃ wo, wo = wr := ⟨_, rfl⟩
      subst hwo
      by_cases hlt : j < rs.length
      · have hLI : Hid (lvI rs (j + 1) = if (decide ((lvI rs j).2 < 0) || decide (tipN rs[j]! < (lvI rs j).2)) = true then (rs[j]!, tipN rs[j]!) else lvI rs j) := rfl
        have hms : Hid (rs.length - ((j : Int) + 1).toNat < rs.length - (j : Int).toNat) := by show _ < _; omega
        have hlt2 : (j : Int) < (rs.length : Int) := by omega
        obtain ⟨u, X0, HU⟩ := HEL.out j hlt
        have x0 := cell_but HQ.out X0 hn6
        have hM := HMM.out rs[j]! (by rw [getB hlt]; exact List.getElem_mem hlt)
        have HU1 := HU.but HQ.out (fun b hb hb' => by
          have h1 := own_base HU b hb'
          have h2 : g2 = b := by simpa [Value.ownBlock] using hb
          omega)
        have hcs : -1 ≤ (lvI rs j).2 ∧ (lvI rs j).2 ≤ 72 := by
          rcases HAS.out j hj with e | ⟨e1, e2, e3⟩
          · rw [e]; exact ⟨Int.le_refl _, by decide⟩
          · rw [e3]
            have := tip_range (ks := (lvI rs j).1) ⟨by omega, fun x hx => by have := e2.2 x hx; omega⟩
            omega
        have hPL : Places rs[j]! := ⟨by omega, fun x hx => by have := hM.2.2 x hx; omega⟩
        have hkl := Lib.hid hM.1
        generalize rs[j]! = ks at HU1 hPL hkl hLI
        generalize lvI rs j = r at hLI hcs HR ⊢
        obtain ⟨bst, ls⟩ := r
        replace hcs : -1 ≤ ls ∧ ls ≤ 72 := hcs
        replace HR : Hid (rowOf wo g2 = some (cc (spread bst bs bst.length)).toArray) := HR
        replace hLI : Hid (lvI rs (j + 1) = if (decide (ls < 0) || decide (tipN ks < ls)) = true then (ks, tipN ks) else (bst, ls)) := hLI
        have hbd := hPL.bound
        have htr := tip_range hPL
        obtain ⟨A9, c9, rfl, hc9, HRD⟩ := HU1.rd
        rw [fl_iv] at HRD
        replace HRD := Lib.hid HRD
        have hA9 : Hid (∀ a, A9 = some a → vi ks ≠ [] → a.block ≠ g2) := fun a ha _ => by
          have h1 := own_base HU1 a.block (by rw [ha]; rfl)
          omega
        have hTP := fun W (hW : Below wo.heap.size wo W) => tip_any A9 c9 ks W (HRD.out.below hW) hPL
        have hTD : tipN ks = max (eastI ks) (-eastI ks) + max (southI ks) (-southI ks) := rfl
        replace hPL := Lib.hid hPL
        clear hM HU HU1 X0
        generalize eastI ks = ee at hTP hbd hTD
        generalize southI ks = ss at hTP hbd hTD
        have hS1 := fun W => size_any ee W (by omega) (by omega)
        have hS2 := fun W => size_any ss W (by omega) (by omega)
        generalize max ee (-ee) = ea at hTD hS1
        generalize max ss (-ss) = sa at hTD hS2
        have hwT : IntKind.i64.wrap (ea + sa) = tipN ks := by rw [IntKind.wrap_i64, ← hTD]; omega
        replace hTD := Lib.hid hTD
        generalize tipN ks = T at hLI hwT htr
        have H := Below.refl wo.heap.size wo
        by_cases htk : ls < 0 ∨ T < ls
        · have HE := Lib.hid (show lvI rs (j + 1) = (ks, T) by rw [hLI.out, if_pos (by simpa using htk)])
          clear hLI
          rcases (by omega : ls < 0 ∨ (¬ ls < 0 ∧ T < ls)) with hneg | ⟨hneg, hlss⟩
          all_goals
            clear htk
            go_upto_region 10 with (first | (go_at_call 71; with_reducible refine (hTP _ H).mono ?_; rintro e w2 ⟨rfl, rfl⟩) | (go_at_call 72; with_reducible refine (hS1 _).mono ?_; rintro e w2 ⟨rfl, rfl⟩) | (go_at_call 72; with_reducible refine (hS2 _).mono ?_; rintro e w2 ⟨rfl, rfl⟩))
            go_upto_region 11 with (with_reducible refine wp_store_zeroW rfl rfl _ _ rfl _ rfl rfl (spread bst bs bst.length) HR.out ?_)
            have HB2 : Hid (Below w.heap.size w (wo.setRow g2 (cc zC).toArray)) := bsetRow HB.out (by omega) _
            have HQ2 : Hid (ButV (.slice (some ⟨g2, 0, none⟩) 0 0) wi (wo.setRow g2 (cc zC).toArray)) := HQ.out.trans ⟨bsetRow (Below.refl 0 wo) (Nat.zero_le _) _, fun b _ hv => setRow_other wo g2 b _ (fun e => hv (by subst e; rfl))⟩
            have HQW0 : Hid (ButV (.slice (some ⟨g2, 0, none⟩) 0 0) wo (wo.setRow g2 (cc zC).toArray)) := ⟨bsetRow (Below.refl 0 wo) (Nat.zero_le _) _, fun b _ hv => setRow_other wo g2 b _ (fun e => hv (by subst e; rfl))⟩
            have HR2 : Hid (rowOf (wo.setRow g2 (cc zC).toArray) g2 = some (cc zC).toArray) := by rw [Hid, rowOf_setRow, if_pos rfl, HR.out]; rfl
            replace HR := HR2
            clear HR2 hTP hS1 hS2
            generalize wo.setRow g2 (cc zC).toArray = W3 at HB2 HQ2 HQW0 HR ⊢
            replace HR : Hid (rowOf W3 g2 = some (cc (spread ks bs 0)).toArray) := HR
            have HQW : Hid (ButV (.slice (some ⟨g2, 0, none⟩) 0 0) wo W3) := HQW0
            go_wp2
            go_loopw [50] (fun x wr => ∃ k : Nat, k ≤ ks.length ∧ x = .int .i64 k ∧ Hid (Below w.heap.size w wr) ∧ Hid (ButV (.slice (some ⟨g2, 0, none⟩) 0 0) wi wr) ∧ Hid (ButV (.slice (some ⟨g2, 0, none⟩) 0 0) wo wr) ∧ Hid (rowOf wr g2 = some (cc (spread ks bs k)).toArray)) (fun x _ => ks.length - (intOf x).toNat)
            case atStart => exact ⟨0, Nat.zero_le _, rfl, HB2.out, HQ2.out, HQW.out, HR.out⟩
            case round =>
              clear HB2 HQ2 HR HQW
              obtain ⟨k, hk, rfl, HB2, HQ2, HQW, HR⟩ := hrel
              by_cases hltk : k < ks.length
              · obtain ⟨p, hp12, hpe⟩ := spread_place hPL.out hltk
                have hkb : k < bs.length := by rw [← hkl.out]; exact hltk
                obtain ⟨g9, o9, rfl, hg9, hC9⟩ := (RdA_but HRD.out HQW.out hA9.out).some (by rw [vi_length]; omega)
                obtain ⟨g4, o4, rfl, hg4, hC4⟩ := (RdA_but HI.out.2.2.2 HQ2.out hA4.out).some (by rw [fl_length bc_length]; omega)
                have z1 := rd_at hC9 hltk
                rw [hpe] at z1
                have hX := hC4.el bc_length hkb
                rw [getB hkb, ← rB_lt hkb] at hX
                have HSP : Hid (spread ks bs (k + 1) = setC (spread ks bs k) p (rB bs k)) := by
                  show setC (spread ks bs k) (ks.getD k 0).toNat (rB bs k) = _
                  rw [hpe]
                  rfl
                clear hpe hC9 hC4
                generalize spread ks bs k = PA at HSP HR
                generalize rB bs k = b at hX HSP
                have x0 : wr.cell? ⟨g4, o4 + k * 2, none⟩ = some (.int .u8 b.k) := hX 0 _ rfl
                have x1 : wr.cell? ⟨g4, o4 + k * 2 + 1, none⟩ = some (.int .i16 b.y) := hX 1 _ rfl
                have hml : p < PA.toList.length := by rw [Vector.length_toList]; exact hp12
                have y0 := row0 HR.out hml
                have y1 := row1 HR.out hml
                have f0 := rowOf_frozen HR.out (p * 2)
                have f1 := rowOf_frozen HR.out (p * 2 + 1)
                have HS := Lib.hid (row_put b HR.out hml)
                clear hml hX
                generalize rB PA.toList p = b' at y0 y1
                have hlk2 : (k : Int) < (ks.length : Int) := by omega
                have hlk3 : (k : Int) < (bs.length : Int) := by omega
                have hp2 : (p : Int) < 12 := by omega
                have hp3 : (p : Int) ≤ 11 := by omega
                go_wp2
                go_roundw
                case rel =>
                  refine ⟨k + 1, by omega, by go_num, (HB2.out.setCell (by show _ ≤ g2; omega) _).setCell (by show _ ≤ g2; omega) _, (HQ2.out.trans ButV.set).trans ButV.set, (HQW.out.trans ButV.set).trans ButV.set, ?_⟩
                  rw [HSP.out]
                  exact HS.out
                case measure => simp [intOf]; omega
              · obtain rfl : k = ks.length := by omega
                go_wp2
                go_roundw
                case rel => exact ⟨j + 1, by omega, by go_num, by rw [HE.out], HB2.out, HQ2.out, by rw [HE.out]; exact HR.out⟩
                case measure => exact hms.out
        · have HE := Lib.hid (show lvI rs (j + 1) = (bst, ls) by rw [hLI.out, if_neg (by simpa using htk)])
          have hneg : ¬ ls < 0 := fun h => htk (.inl h)
          have hlss : ¬ T < ls := fun h => htk (.inr h)
          clear hLI htk
          go_wp2_with (first | (go_at_call 71; with_reducible refine (hTP _ H).mono ?_; rintro e w2 ⟨rfl, rfl⟩) | (go_at_call 72; with_reducible refine (hS1 _).mono ?_; rintro e w2 ⟨rfl, rfl⟩) | (go_at_call 72; with_reducible refine (hS2 _).mono ?_; rintro e w2 ⟨rfl, rfl⟩))
          go_roundw
          case rel => exact ⟨j + 1, by omega, by go_num, by rw [HE.out], HB.out, HQ.out, by rw [HE.out]; exact HR.out⟩
          case measure => exact hms.out
      · obtain rfl : j = rs.length := by omega
        rw [HLE.out, HLL.out] at HR
        have r0 := row_but HI.out.1 HQ.out (fun q => by have q1 : g2 = g0 := by simpa [Value.ownBlock] using q
                                                        omega)
        have r1 := row_but HI.out.2.1 HQ.out (fun q => by have q1 : g2 = g1 := by simpa [Value.ownBlock] using q
                                                          omega)
        have r2 := HR.out
        have H0 := HB.out
        have H := Below.refl wo.heap.size wo
        clear HR HB HQ
        generalize spread (level bs.length) bs bs.length = X at HF r2
        go_wp2_with (first | ((with_reducible refine wp_load_rowBg H ?_ _ _ rfl _ rfl _ r2 _ Tryz.underlying28 rfl (infoC X) ?_); rfl) | (with_reducible refine wp_store_rowB H rfl rfl _ _ _ rfl _ rfl _ rfl _ r1 (cc_size2 _ _) (infoC _) (cc_one _) ?_))
        rw [HF.out]
        refine bodyPost_ret (results_ct rfl rfl (loadVar_rowOf (cc X).toArray (by rw [rowOf_setRow, if_pos rfl, rowOf_below H (rowOf_lt r1), r1]; rfl) _ Tryz.underlying28 rfl (infoC _))) rfl ⟨rfl, bsetRow (bstep H0 H) (by omega) _⟩
end Go.Proofs.YtbngpcghognojaaGreatDoor
