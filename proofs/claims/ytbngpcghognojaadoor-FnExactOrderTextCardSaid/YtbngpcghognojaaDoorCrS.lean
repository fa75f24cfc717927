/- Contracts of the texts of crates: the reference's. -/
import Derived.Test.YtbngpcghognojaaDoorCrT
namespace Go.Proofs.YtbngpcghognojaaDoor
open Go Go.Sort Go.RowKit
set_option linter.unusedVariables false
set_option linter.unusedSimpArgs false
set_option maxRecDepth 100000
set_option maxHeartbeats 1000000
attribute [local go_sem] Oper.qB
theorem str_app (a b : List UInt8) : (⟨a.toArray⟩ : ByteArray) ++ ⟨b.toArray⟩ = ⟨(a ++ b).toArray⟩ := by
  refine ByteArray.ext ?_
  simp [ByteArray.data_append]
theorem l01Text_any (g o : Nat) (c : Cr) (w : World) (hc : CAt w g o (cc c)) (hg : g < w.heap.size) (hok : c.ok = true) : Calls Tryd.prog 35 #[.pointer (some ⟨g, o, none⟩)] w fun e w' => e = .returned (.string ⟨(crT c).toArray⟩) ∧ Below w.heap.size w w' := by
  have HC := Lib.hid hc
  have HOK := Lib.hid (ok_at.1 hok)
  have HLN := Lib.hid (crK_len hok)
  clear hc hok
  have HL := Lib.hid (Vector.length_toList (xs := c))
  go_enter Tryd.func35, Tryd.ntmps35
  go_wp2
  go_loopw [3, 4] (fun s i wr => ∃ (k : Nat) (S : ByteArray), k ≤ 12 ∧ i = .int .i64 k ∧ s = .string S ∧ Hid (S = ⟨(crK c k).toArray⟩) ∧ Below w.heap.size w wr) (fun _ i _ => 12 - (intOf i).toNat)
  case atStart => exact ⟨0, _, by omega, rfl, rfl, rfl, Below.refl _ _⟩
  case round =>
    obtain ⟨k, S, hk, rfl, rfl, HS, hb⟩ := hrel
    have hsz : S.size ≤ 40000 := by
      rw [HS.out, size_text]
      have := HLN.out k hk
      omega
    by_cases hlt : k < 12
    · have hr := HC.out.below hb hg
      have hkl : k < c.toList.length := by rw [HL.out]; exact hlt
      have x0 := hr.bot0 hkl
      have x1 := hr.bot1 hkl
      have hK := crK_succ c k
      have hfine := HOK.out k hlt
      clear hr hkl
      generalize rB c.toList k = b at x0 x1 hK hfine
      replace hK := Lib.hid hK
      have htm : (k : Int).tmod 4 = (k : Int) % 4 := Int.tmod_eq_emod_of_nonneg (by omega)
      have hwm : IntKind.i64.wrap ((k : Int) % 4) = (k : Int) % 4 := by rw [IntKind.wrap_i64]; omega
      cases e3 : b.em with
      | true =>
        have hWT : Hid (wordT b = [45]) := if_pos e3
        have f1 : ¬ (9223372036854775807 < S.size + 1) := by omega
        have f2 : ¬ (9223372036854775807 < S.size + 1 + 1) := by omega
        have e4 := Lib.hid e3
        clear e3 hfine hsz
        cases hm : decide (k % 4 = 3) with
        | true =>
          have hm1 := of_decide_eq_true hm
          have hm2 : (k : Int) % 4 = 3 := by omega
          have hE2 : Hid (endT k = 10) := if_pos hm1
          clear hm hm1
          go_wp2_with (go_at_call 58; go_loud (refine (l01Free_any b _).mono ?_; rintro e w1 ⟨rfl, hb1⟩; rw [e4.out]))
          go_roundw
          case rel => exact ⟨k + 1, _, by omega, by go_num, rfl, by rw [Hid, hK.out, hWT.out, hE2.out, HS.out, ← List.append_assoc, ← str_app, ← str_app], bstep hb hb1⟩
          case measure => simp [intOf]; omega
        | false =>
          have hm1 := of_decide_eq_false hm
          have hm2 : ¬ (k : Int) % 4 = 3 := by omega
          have hE2 : Hid (endT k = 32) := if_neg hm1
          clear hm hm1
          go_wp2_with (go_at_call 58; go_loud (refine (l01Free_any b _).mono ?_; rintro e w1 ⟨rfl, hb1⟩; rw [e4.out]))
          go_roundw
          case rel => exact ⟨k + 1, _, by omega, by go_num, rfl, by rw [Hid, hK.out, hWT.out, hE2.out, HS.out, ← List.append_assoc, ← str_app, ← str_app], bstep hb hb1⟩
          case measure => simp [intOf]; omega
      | false =>
        have hok : b.ok = true := by
          unfold Bt.fine at hfine
          rw [e3, Bool.false_or] at hfine
          exact hfine
        have hWT : Hid (wordT b = botT b) := if_neg (by rw [e3]; simp)
        have htx := fun W => l01BottleText_any b hok W
        have hlb := botT_len hok
        have hts := size_text (botT b)
        obtain ⟨T, HTT⟩ : ∃ T : ByteArray, T = ⟨(botT b).toArray⟩ := ⟨_, rfl⟩
        rw [← HTT] at hts
        simp only [← HTT] at htx
        replace HTT := Lib.hid HTT
        have f1 : ¬ (9223372036854775807 < S.size + T.size) := by omega
        have f2 : ¬ (9223372036854775807 < S.size + T.size + 1) := by omega
        replace htx := Lib.hid htx
        have e4 := Lib.hid e3
        clear e3 hfine hsz hts hlb hok
        cases hm : decide (k % 4 = 3) with
        | true =>
          have hm1 := of_decide_eq_true hm
          have hm2 : (k : Int) % 4 = 3 := by omega
          have hE2 : Hid (endT k = 10) := if_pos hm1
          clear hm hm1
          go_wp2_with (first | (go_at_call 58; go_loud (refine (l01Free_any b _).mono ?_; rintro e w1 ⟨rfl, hb1⟩; rw [e4.out]; have x0' := (hb1.cell (World.block_lt_of_cell? _ _ x0)).trans x0; have x1' := (hb1.cell (World.block_lt_of_cell? _ _ x1)).trans x1)) | (go_at_call 31; go_loud (refine (htx.out _).mono ?_; rintro e w2 ⟨rfl, hb2⟩)))
          go_roundw
          case rel => exact ⟨k + 1, _, by omega, by go_num, rfl, by rw [Hid, hK.out, hWT.out, hE2.out, HS.out, HTT.out, ← List.append_assoc, ← str_app, ← str_app], bstep (bstep hb hb1) hb2⟩
          case measure => simp [intOf]; omega
        | false =>
          have hm1 := of_decide_eq_false hm
          have hm2 : ¬ (k : Int) % 4 = 3 := by omega
          have hE2 : Hid (endT k = 32) := if_neg hm1
          clear hm hm1
          go_wp2_with (first | (go_at_call 58; go_loud (refine (l01Free_any b _).mono ?_; rintro e w1 ⟨rfl, hb1⟩; rw [e4.out]; have x0' := (hb1.cell (World.block_lt_of_cell? _ _ x0)).trans x0; have x1' := (hb1.cell (World.block_lt_of_cell? _ _ x1)).trans x1)) | (go_at_call 31; go_loud (refine (htx.out _).mono ?_; rintro e w2 ⟨rfl, hb2⟩)))
          go_roundw
          case rel => exact ⟨k + 1, _, by omega, by go_num, rfl, by rw [Hid, hK.out, hWT.out, hE2.out, HS.out, HTT.out, ← List.append_assoc, ← str_app, ← str_app], bstep (bstep hb hb1) hb2⟩
          case measure => simp [intOf]; omega
    · obtain rfl : k = 12 := by omega
      go_wp2
      go_ret
      exact ⟨by rw [HS.out]; rfl, hb⟩
theorem sCrateText_any (c : Cr) (w : World) : Calls Tryd.prog 12 #[cv c] w fun e w' => e = .returned (.string ⟨(if c.ok = true then crT c else []).toArray⟩) ∧ Below w.heap.size w w' := by
  generalize hT : (if c.ok = true then crT c else []) = t
  go_enter Tryd.func12, Tryd.ntmps12
  go_upto_region 1 with fail
  generalize hW : World.alloc _ _ = W
  have H0 : Below w.heap.size w W := by rw [← hW]; go_grown
  have r0 : rowOf W (w.heap.size) = some ((cc c).toArray) := (by (try rw [← hW]); simp only [rowOf_alloc, World.size_alloc, ↓reduceIte]; all_goals ((repeat' split) <;> first | omega | (exfalso; omega) | rfl))
  clear hW
  have l0 : w.heap.size ≤ w.heap.size := Nat.le_refl _
  generalize h0 : w.heap.size = g0 at r0 ⊢
  replace l0 : w.heap.size ≤ g0 := Nat.le_of_eq h0
  clear h0
  have b0 := rowOf_lt r0
  have H := Below.refl W.heap.size W
  cases e1 : c.ok with
  | false =>
    have e2 := Lib.hid e1
    obtain rfl : t = [] := by rw [← hT, e1]; rfl
    clear hT e1
    go_wp2_with (go_at_call 34; go_loud (refine (l01Ok_row H r0).mono ?_; rintro e w' ⟨rfl, hb⟩; rw [e2.out]; replace H := bstep H hb; clear hb))
    go_ret
    exact ⟨rfl, bstep H0 H⟩
  | true =>
    have e2 := Lib.hid e1
    obtain rfl : t = crT c := by rw [← hT, e1]; rfl
    clear hT e1
    go_wp2_with (first | (go_at_call 34; go_loud (refine (l01Ok_row H r0).mono ?_; rintro e w' ⟨rfl, hb⟩; rw [e2.out]; replace H := bstep H hb; clear hb)) | (go_at_call 35; go_loud (refine (l01Text_any g0 0 c _ (CAt.of_row (row_kept r0 H)) (Nat.lt_of_lt_of_le b0 H.size) e2.out).mono ?_; rintro e w2 ⟨rfl, hb⟩; replace H := bstep H hb; clear hb)))
    go_ret
    exact ⟨rfl, bstep H0 H⟩
end Go.Proofs.YtbngpcghognojaaDoor
