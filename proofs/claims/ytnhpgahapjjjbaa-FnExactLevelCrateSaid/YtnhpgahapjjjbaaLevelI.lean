/- Contract of the program's LevelCrate. -/
import Derived.Test.YtnhpgahapjjjbaaLevel
namespace Go.Proofs.Ytnhpgahapjjjbaa
open Go Go.RowKit
set_option linter.unusedVariables false
set_option linter.unusedSimpArgs false
set_option maxRecDepth 100000
set_option maxHeartbeats 4000000
attribute [local go_sem] Oper.qB
theorem RdA_but {w w' : World} {A : Option Addr} {vs : List Value} {g n c : Nat} (h : RdA w A vs) (hb : ButV (.slice (some ⟨g, 0, none⟩) n c) w w') (hne : ∀ a, A = some a → vs ≠ [] → a.block ≠ g) : RdA w' A vs := by
  rcases h with h | ⟨b, off, hA, hl, hC⟩
  · exact .inl h
  · by_cases h0 : vs = []
    · exact .inl h0
    · have hbg : b ≠ g := hne _ hA h0
      exact .inr ⟨b, off, hA, Nat.lt_of_lt_of_le hl hb.1.size, fun i v hv => cell_but hb (hC i v hv) hbg⟩
theorem RdA_down {B : Nat} {w w' : World} {A : Option Addr} {vs : List Value} (h : RdA w A vs) (hb : Below B w w') (hB : ∀ a, A = some a → vs ≠ [] → a.block < B) : RdA w' A vs := by
  rcases h with h | ⟨b, off, hA, hl, hC⟩
  · exact .inl h
  · by_cases h0 : vs = []
    · exact .inl h0
    · have hbg : b < B := hB _ hA h0
      exact .inr ⟨b, off, hA, Nat.lt_of_lt_of_le hl hb.size, hC.below hb hbg⟩
theorem LevelCrate_any (c : Cr) (w : World) : Calls Try.prog 17 #[cv c] w fun e w' => e = .returned (.tuple #[cv (levelR c).1, .int .i64 (levelR c).2]) ∧ Below w.heap.size w w' := by
  go_enter Try.func17, Try.ntmps17
  go_upto_region 1 with fail
  generalize hW : World.alloc _ _ = W
  have H0 : Below w.heap.size w W := by rw [← hW]; go_grown
  have r0 : rowOf W (w.heap.size) = some ((cc c).toArray) := (by (try rw [← hW]); simp only [rowOf_alloc, World.size_alloc, ↓reduceIte]; all_goals ((repeat' split) <;> first | omega | (exfalso; omega) | rfl))
  have r1 : rowOf W (w.heap.size + 1) = some ((cc zC).toArray) := (by (try rw [← hW]); simp only [rowOf_alloc, World.size_alloc, ↓reduceIte]; all_goals ((repeat' split) <;> first | omega | (exfalso; omega) | rfl))
  clear hW
  have q0 : w.heap.size < w.heap.size + 1 := by omega
  have l0 : w.heap.size ≤ w.heap.size := Nat.le_refl _
  generalize w.heap.size + 1 = g1 at r1 q0 ⊢
  generalize h0 : w.heap.size = g0 at r0 q0 ⊢
  replace l0 : w.heap.size ≤ g0 := Nat.le_of_eq h0
  clear h0
  have b0 := rowOf_lt r0
  have b1 := rowOf_lt r1
  have H := Below.refl W.heap.size W
  cases e1 : c.ok with
  | false =>
    have HF := Lib.hid (show levelR c = (zC, 1) by simp [levelR, e1])
    go_wp2_with (first | ((with_reducible refine wp_load_rowBg H ?_ _ _ rfl _ rfl _ r0 _ Try.underlying28 rfl (infoC c) ?_); rfl) | (go_at_call 68; with_reducible refine (ValidCrate_any c _).mono ?_; rintro e w' ⟨rfl, hb⟩; replace H := bstep H hb; clear hb; have hc := bcell H) | (with_reducible refine wp_store_zeroB H rfl rfl _ _ rfl _ rfl rfl _ r1 ?_))
    rw [HF.out]
    refine bodyPost_ret (results_ct rfl rfl (loadVar_rowOf (cc zC).toArray (by rw [rowOf_setRow, if_pos rfl, rowOf_below H (rowOf_lt r1), r1]; rfl) _ Try.underlying28 rfl (infoC _))) rfl ⟨rfl, bsetRow (bstep H0 H) (by omega) _⟩
  | true =>
    have hall := allB_le c
    have HF := Lib.hid (show levelR c = (spread (level (allB c).length) (allB c) (allB c).length, 0) by simp [levelR, e1])
    have HLE := Lib.hid (level_eq hall)
    have HLL := Lib.hid (level_len hall)
    have HAS := Lib.hid (fun j => @lvI_asc (allB c).length j)
    have HMM := Lib.hid (fun q => (chF_mem (allB c).length 0 12 q).1)
    have hch := fun W => choices_any (allB c).length 0 12 W (by decide) (by decide) (by decide) hall
    have hrl := chF_le (allB c).length 0 12
    rw [show (2 : Nat) ^ 12 = 4096 by rfl] at hrl
    rw [show (0 : Int) + ((12 : Nat) : Int) - 1 = 11 by rfl] at hch
    generalize chF (allB c).length 0 12 = rs at hch hrl HLE HAS HMM
    replace hch := Lib.hid hch
    go_upto_region 3 with (first | ((with_reducible refine wp_load_rowBg H ?_ _ _ rfl _ rfl _ r0 _ Try.underlying28 rfl (infoC c) ?_); rfl) | (go_at_call 68; with_reducible refine (ValidCrate_any c _).mono ?_; rintro e w' ⟨rfl, hb⟩; replace H := bstep H hb; clear hb; have hc := bcell H))
    clear hc
    go_upto_region 4 with (first | ((with_reducible refine wp_load_rowBg H ?_ _ _ rfl _ rfl _ r0 _ Try.underlying28 rfl (infoC c) ?_); rfl) | (go_at_call 69; refine (bottles_any c _).mono ?_; rintro e w4 ⟨v4, rfl, O4, hb⟩; obtain ⟨A4, c4, rfl, -, O4⟩ := OwnN.rd (l := allB c) O4; replace O4 := Lib.hid O4; replace H := bstep H hb; replace r0 := row_kept r0 H; replace r1 := row_kept r1 H; replace H0 := bstep H0 H; replace H := below_self H; clear hb) | ((with_reducible refine wp_store_rowOf rfl rfl _ _ _ rfl _ rfl (cc zC).toArray rfl (cc zC).toArray ?hr (cc_size2 _ _) (infoC _) (cc_one _) ?_); (case hr => rw [rowOf_alloc, if_pos rfl]; rfl)))
    have hA4 : ∀ a, A4 = some a → fl bc (allB c) ≠ [] → a.block < w4.heap.size := fun a ha hl => by
      obtain ⟨g, off, hA, hg, -⟩ := O4.out.some (List.length_pos_iff.2 hl)
      rw [ha] at hA
      obtain rfl := Option.some.inj hA
      exact hg
    generalize hW2 : World.setRow _ _ _ = W2
    obtain ⟨HB, r2, b2⟩ := laid_row H hW2
    clear hW2
    have qr02 := Nat.lt_of_lt_of_le (rowOf_lt r0) H.size
    replace r0 := row_kept r0 HB
    have qr12 := Nat.lt_of_lt_of_le (rowOf_lt r1) H.size
    replace r1 := row_kept r1 HB
    replace H0 := bstep H0 HB
    replace H := below_self HB
    generalize w4.heap.size = g2 at *
    have HC4 := Lib.hid (RdA_down O4.out HB hA4)
    replace hA4 : Hid (∀ a, A4 = some a → fl bc (allB c) ≠ [] → a.block ≠ g2) := fun a ha hl => Nat.ne_of_lt (hA4 a ha hl)
    clear O4
    have b2 := rowOf_lt r2
    generalize allB c = bs at *
    replace H0 := Lib.hid H0
    go_wp2_with (go_at_call 70; with_reducible refine (hch.out _).mono ?_; rintro e wi ⟨v6, rfl, R6, hb6⟩; obtain ⟨g6, p6, rfl, hg6, hB6, HEL⟩ := R6.lies)
    replace HEL := Lib.hid HEL
    have HI := Lib.hid (⟨row_kept r0 hb6, row_kept r1 hb6, row_kept r2 hb6, HC4.out.below hb6⟩ : _ ∧ _ ∧ _ ∧ _)
    have H1 := Lib.hid (bstep H0.out hb6)
    have hn6 : g6 ≠ g2 := by omega
    generalize W2.heap.size = B6 at *
    have hg26 : g2 < B6 := b2
    clear hb6 HC4 r0 r1 r2 H HB
    go_loopw [6, 25] (fun ls x wr => ∃ j : Nat, j ≤ rs.length ∧ x = .int .i64 j ∧ ls = .int .i64 (lvI rs j).2 ∧ Hid (Below w.heap.size w wr) ∧ Hid (ButV (.slice (some ⟨g2, 0, none⟩) 0 0) wi wr) ∧ Hid (rowOf wr g2 = some (cc (spread (lvI rs j).1 bs (lvI rs j).1.length)).toArray)) (fun _ x _ => rs.length - (intOf x).toNat)
    case atStart => exact ⟨0, Nat.zero_le _, rfl, rfl, H1.out, ButV.refl, HI.out.2.2.1⟩
    case round =>
      obtain ⟨j, hj, rfl, rfl, HB, HQ, HR⟩ := hrel
      obtain ⟨wo, hwo⟩ : ∃ wo, wo = wr := ⟨_, rfl⟩
      subst hwo
      by_cases hlt : j < rs.length
      · have hLI : Hid (lvI rs (j + 1) = if (decide ((lvI rs j).2 < 0) || decide (tipN rs[j]! < (lvI rs j).2)) = true then (rs[j]!, tipN rs[j]!) else lvI rs j) := rfl
        have hms : Hid (rs.length - ((j : Int) + 1).toNat < rs.length - (j : Int).toNat) := by show _ < _; omega
        have hlt2 : (j : Int) < (rs.length : Int) := by omega
        obtain ⟨u, X0, HU⟩ := HEL.out j hlt
        have x0 := cell_but HQ.out X0 hn6
        have hM := HMM.out rs[j]! (by rw [getB hlt]; exact List.getElem_mem hlt)
        have HU1 := HU.but HQ.out (fun b hb hb' => by
          have h1 := own_base HU b hb'
          have h2 : g2 = b := by simpa [Value.ownBlock] using hb
          omega)
        have hcs : -1 ≤ (lvI rs j).2 ∧ (lvI rs j).2 ≤ 72 := by
          rcases HAS.out j hj with e | ⟨e1, e2, e3⟩
          · rw [e]; exact ⟨Int.le_refl _, by decide⟩
          · rw [e3]
            have := tip_range (ks := (lvI rs j).1) ⟨by omega, fun x hx => by have := e2.2 x hx; omega⟩
            omega
        have hPL : Places rs[j]! := ⟨by omega, fun x hx => by have := hM.2.2 x hx; omega⟩
        have hkl := Lib.hid hM.1
        generalize rs[j]! = ks at HU1 hPL hkl hLI
        generalize lvI rs j = r at hLI hcs HR ⊢
        obtain ⟨bst, ls⟩ := r
        replace hcs : -1 ≤ ls ∧ ls ≤ 72 := hcs
        replace HR : Hid (rowOf wo g2 = some (cc (spread bst bs bst.length)).toArray) := HR
        replace hLI : Hid (lvI rs (j + 1) = if (decide (ls < 0) || decide (tipN ks < ls)) = true then (ks, tipN ks) else (bst, ls)) := hLI
        have hbd := hPL.bound
        have htr := tip_range hPL
        obtain ⟨A9, c9, rfl, hc9, HRD⟩ := HU1.rd
        rw [fl_iv] at HRD
        replace HRD := Lib.hid HRD
        have hA9 : Hid (∀ a, A9 = some a → vi ks ≠ [] → a.block ≠ g2) := fun a ha _ => by
          have h1 := own_base HU1 a.block (by rw [ha]; rfl)
          omega
        have hTP := fun W (hW : Below wo.heap.size wo W) => tip_any A9 c9 ks W (HRD.out.below hW) hPL
        have hTD : tipN ks = max (eastI ks) (-eastI ks) + max (southI ks) (-southI ks) := rfl
        replace hPL := Lib.hid hPL
        clear hM HU HU1 X0
        generalize eastI ks = ee at hTP hbd hTD
        generalize southI ks = ss at hTP hbd hTD
        have hS1 := fun W => size_any ee W (by omega) (by omega)
        have hS2 := fun W => size_any ss W (by omega) (by omega)
        generalize max ee (-ee) = ea at hTD hS1
        generalize max ss (-ss) = sa at hTD hS2
        have hwT : IntKind.i64.wrap (ea + sa) = tipN ks := by rw [IntKind.wrap_i64, ← hTD]; omega
        replace hTD := Lib.hid hTD
        generalize tipN ks = T at hLI hwT htr
        have H := Below.refl wo.heap.size wo
        by_cases htk : ls < 0 ∨ T < ls
        · have HE := Lib.hid (show lvI rs (j + 1) = (ks, T) by rw [hLI.out, if_pos (by simpa using htk)])
          clear hLI
          rcases (by omega : ls < 0 ∨ (¬ ls < 0 ∧ T < ls)) with hneg | ⟨hneg, hlss⟩
          all_goals
            clear htk
            go_upto_region 10 with (first | (go_at_call 71; with_reducible refine (hTP _ H).mono ?_; rintro e w2 ⟨rfl, rfl⟩) | (go_at_call 72; with_reducible refine (hS1 _).mono ?_; rintro e w2 ⟨rfl, rfl⟩) | (go_at_call 72; with_reducible refine (hS2 _).mono ?_; rintro e w2 ⟨rfl, rfl⟩))
            go_upto_region 11 with (with_reducible refine wp_store_zeroW rfl rfl _ _ rfl _ rfl rfl (spread bst bs bst.length) HR.out ?_)
            have HB2 : Hid (Below w.heap.size w (wo.setRow g2 (cc zC).toArray)) := bsetRow HB.out (by omega) _
            have HQ2 : Hid (ButV (.slice (some ⟨g2, 0, none⟩) 0 0) wi (wo.setRow g2 (cc zC).toArray)) := HQ.out.trans ⟨bsetRow (Below.refl 0 wo) (Nat.zero_le _) _, fun b _ hv => setRow_other wo g2 b _ (fun e => hv (by subst e; rfl))⟩
            have HQW0 : Hid (ButV (.slice (some ⟨g2, 0, none⟩) 0 0) wo (wo.setRow g2 (cc zC).toArray)) := ⟨bsetRow (Below.refl 0 wo) (Nat.zero_le _) _, fun b _ hv => setRow_other wo g2 b _ (fun e => hv (by subst e; rfl))⟩
            have HR2 : Hid (rowOf (wo.setRow g2 (cc zC).toArray) g2 = some (cc zC).toArray) := by rw [Hid, rowOf_setRow, if_pos rfl, HR.out]; rfl
            replace HR := HR2
            clear HR2 hTP hS1 hS2
            generalize wo.setRow g2 (cc zC).toArray = W3 at HB2 HQ2 HQW0 HR ⊢
            replace HR : Hid (rowOf W3 g2 = some (cc (spread ks bs 0)).toArray) := HR
            have HQW : Hid (ButV (.slice (some ⟨g2, 0, none⟩) 0 0) wo W3) := HQW0
            go_wp2
            go_loopw [50] (fun x wr => ∃ k : Nat, k ≤ ks.length ∧ x = .int .i64 k ∧ Hid (Below w.heap.size w wr) ∧ Hid (ButV (.slice (some ⟨g2, 0, none⟩) 0 0) wi wr) ∧ Hid (ButV (.slice (some ⟨g2, 0, none⟩) 0 0) wo wr) ∧ Hid (rowOf wr g2 = some (cc (spread ks bs k)).toArray)) (fun x _ => ks.length - (intOf x).toNat)
            case atStart => exact ⟨0, Nat.zero_le _, rfl, HB2.out, HQ2.out, HQW.out, HR.out⟩
            case round =>
              clear HB2 HQ2 HR HQW
              obtain ⟨k, hk, rfl, HB2, HQ2, HQW, HR⟩ := hrel
              by_cases hltk : k < ks.length
              · obtain ⟨p, hp12, hpe⟩ := spread_place hPL.out hltk
                have hkb : k < bs.length := by rw [← hkl.out]; exact hltk
                obtain ⟨g9, o9, rfl, hg9, hC9⟩ := (RdA_but HRD.out HQW.out hA9.out).some (by rw [vi_length]; omega)
                obtain ⟨g4, o4, rfl, hg4, hC4⟩ := (RdA_but HI.out.2.2.2 HQ2.out hA4.out).some (by rw [fl_length bc_length]; omega)
                have z1 := rd_at hC9 hltk
                rw [hpe] at z1
                have hX := hC4.el bc_length hkb
                rw [getB hkb, ← rB_lt hkb] at hX
                have HSP : Hid (spread ks bs (k + 1) = setC (spread ks bs k) p (rB bs k)) := by
                  show setC (spread ks bs k) (ks.getD k 0).toNat (rB bs k) = _
                  rw [hpe]
                  rfl
                clear hpe hC9 hC4
                generalize spread ks bs k = PA at HSP HR
                generalize rB bs k = b at hX HSP
                have x0 : wr.cell? ⟨g4, o4 + k * 2, none⟩ = some (.int .u8 b.k) := hX 0 _ rfl
                have x1 : wr.cell? ⟨g4, o4 + k * 2 + 1, none⟩ = some (.int .i16 b.y) := hX 1 _ rfl
                have hml : p < PA.toList.length := by rw [Vector.length_toList]; exact hp12
                have y0 := row0 HR.out hml
                have y1 := row1 HR.out hml
                have f0 := rowOf_frozen HR.out (p * 2)
                have f1 := rowOf_frozen HR.out (p * 2 + 1)
                have HS := Lib.hid (row_put b HR.out hml)
                clear hml hX
                generalize rB PA.toList p = b' at y0 y1
                have hlk2 : (k : Int) < (ks.length : Int) := by omega
                have hlk3 : (k : Int) < (bs.length : Int) := by omega
                have hp2 : (p : Int) < 12 := by omega
                have hp3 : (p : Int) ≤ 11 := by omega
                go_wp2
                go_roundw
                case rel =>
                  refine ⟨k + 1, by omega, by go_num, (HB2.out.setCell (by show _ ≤ g2; omega) _).setCell (by show _ ≤ g2; omega) _, (HQ2.out.trans ButV.set).trans ButV.set, (HQW.out.trans ButV.set).trans ButV.set, ?_⟩
                  rw [HSP.out]
                  exact HS.out
                case measure => simp [intOf]; omega
              · obtain rfl : k = ks.length := by omega
                go_wp2
                go_roundw
                case rel => exact ⟨j + 1, by omega, by go_num, by rw [HE.out], HB2.out, HQ2.out, by rw [HE.out]; exact HR.out⟩
                case measure => exact hms.out
        · have HE := Lib.hid (show lvI rs (j + 1) = (bst, ls) by rw [hLI.out, if_neg (by simpa using htk)])
          have hneg : ¬ ls < 0 := fun h => htk (.inl h)
          have hlss : ¬ T < ls := fun h => htk (.inr h)
          clear hLI htk
          go_wp2_with (first | (go_at_call 71; with_reducible refine (hTP _ H).mono ?_; rintro e w2 ⟨rfl, rfl⟩) | (go_at_call 72; with_reducible refine (hS1 _).mono ?_; rintro e w2 ⟨rfl, rfl⟩) | (go_at_call 72; with_reducible refine (hS2 _).mono ?_; rintro e w2 ⟨rfl, rfl⟩))
          go_roundw
          case rel => exact ⟨j + 1, by omega, by go_num, by rw [HE.out], HB.out, HQ.out, by rw [HE.out]; exact HR.out⟩
          case measure => exact hms.out
      · obtain rfl : j = rs.length := by omega
        rw [HLE.out, HLL.out] at HR
        have r0 := row_but HI.out.1 HQ.out (fun q => by have q1 : g2 = g0 := by simpa [Value.ownBlock] using q
                                                        omega)
        have r1 := row_but HI.out.2.1 HQ.out (fun q => by have q1 : g2 = g1 := by simpa [Value.ownBlock] using q
                                                          omega)
        have r2 := HR.out
        have H0 := HB.out
        have H := Below.refl wo.heap.size wo
        clear HR HB HQ
        generalize spread (level bs.length) bs bs.length = X at HF r2
        go_wp2_with (first | ((with_reducible refine wp_load_rowBg H ?_ _ _ rfl _ rfl _ r2 _ Try.underlying28 rfl (infoC X) ?_); rfl) | (with_reducible refine wp_store_rowB H rfl rfl _ _ _ rfl _ rfl _ rfl _ r1 (cc_size2 _ _) (infoC _) (cc_one _) ?_))
        rw [HF.out]
        refine bodyPost_ret (results_ct rfl rfl (loadVar_rowOf (cc X).toArray (by rw [rowOf_setRow, if_pos rfl, rowOf_below H (rowOf_lt r1), r1]; rfl) _ Try.underlying28 rfl (infoC _))) rfl ⟨rfl, bsetRow (bstep H0 H) (by omega) _⟩
end Go.Proofs.Ytnhpgahapjjjbaa
