/- Contracts of the reference's reading of a bottle. -/
import Derived.Test.YtbngpcghognojaaDoorSplT
namespace Go.Proofs.YtbngpcghognojaaDoor
open Go Go.Sort Go.RowKit
set_option linter.unusedVariables false
set_option linter.unusedSimpArgs false
set_option maxRecDepth 100000
set_option maxHeartbeats 1000000
attribute [local go_sem] Oper.qB
theorem numR_pos (l : List UInt8) : 0 ≤ (numR l).1 := by
  unfold numR
  split
  · exact Int.natCast_nonneg _
  · exact Int.le_refl _
theorem rdR_num {lo hi : Nat} (hh : hi < 1000000) (l : List UInt8) : rdR lo hi l = ((numR l).2 && (decide ((lo : Int) ≤ (numR l).1) && decide ((numR l).1 ≤ (hi : Int)))) := by
  unfold rdR numR
  cases hc : canon l with
  | false => simp
  | true =>
    by_cases h9 : l.length ≤ 9
    · simp [h9]
    · have : ¬ valD l < 1000000000 := fun h => h9 (canon_len hc h)
      simp [h9]
      omega
theorem rdB_not2 {l : List UInt8} (h : (spl 58 l).length ≠ 2) : rdB l = none := by
  unfold rdB
  split
  · rename_i a b hs
    rw [hs] at h
    exact absurd rfl h
  · rfl
theorem rdB_none {l a b : List UInt8} (h : spl 58 l = [a, b]) (hr : (rdR 1 20 a && rdR 1900 2099 b) = false) : rdB l = none := by
  unfold rdB
  rw [h]
  simp [hr]
theorem rdB_yes {l a b : List UInt8} (h : spl 58 l = [a, b]) (t : Bt) (h1 : canon a = true) (h2 : canon b = true) (hk : t.k = (valD a : Int)) (hy : t.y = (valD b : Int)) : rdB l = if t.ok = true then some t else none := by
  have e : (rdR 1 20 a && rdR 1900 2099 b) = t.ok := by
    rw [Bool.eq_iff_iff]
    simp only [rdR, h1, h2, Bool.true_and, Bool.and_eq_true, decide_eq_true_iff, Bt.ok, hk, hy]
    omega
  cases ho : t.ok with
  | false =>
    rw [ho] at e
    rw [rdB_none h e]
    rfl
  | true =>
    rw [ho] at e
    unfold rdB
    rw [h]
    simp only [e, dif_pos]
    rw [if_pos trivial]
    congr 1
    exact Bt.ext2 hk.symm hy.symm
theorem numR_true {l : List UInt8} {n : Int} (h : numR l = (n, true)) : canon l = true ∧ n = (valD l : Int) := by
  unfold numR at h
  split at h
  · rename_i hc
    rw [Bool.and_eq_true] at hc
    exact ⟨hc.1, (congrArg Prod.fst h).symm⟩
  · cases h
theorem l01Read_any (l : List UInt8) (hl : l.length ≤ 1048576) (w : World) :
    Calls Tryd.prog 46 #[.string ⟨l.toArray⟩] w fun e w' => ∃ b : Bt, e = .returned (.tuple #[bv b, .bool (rdB l).isSome]) ∧ (∀ b0, rdB l = some b0 → b = b0) ∧ Below w.heap.size w w' := by
  have HS := fun W => l01Split_any l 58 W hl
  have e58 : ((58 : UInt8).toNat : Int) = 58 := rfl
  rw [e58] at HS
  clear e58
  by_cases h2 : (spl 58 l).length = 2
  · obtain ⟨a, b, hab⟩ : ∃ a b, spl 58 l = [a, b] := by
      match hs : spl 58 l, h2 with
      | [a, b], _ => exact ⟨a, b, rfl⟩
    have hle : a.length ≤ 1048576 ∧ b.length ≤ 1048576 := by
      have := intc_spl 58 l
      rw [hab] at this
      have h3 := congrArg List.length this
      simp only [intc, List.length_append, List.length_cons] at h3
      omega
    have HN1 := fun W => l01Number_any a W (by omega)
    have HN2 := fun W => l01Number_any b W (by omega)
    have hp1 := numR_pos a
    have hp2 := numR_pos b
    have HA := Lib.hid (fun n => @numR_true a n)
    have HB := Lib.hid (fun n => @numR_true b n)
    have HR1 := Lib.hid (rdR_num (lo := 1) (hi := 20) (by omega) a)
    have HR2 := Lib.hid (rdR_num (lo := 1900) (hi := 2099) (by omega) b)
    have HY := Lib.hid (@rdB_yes l a b hab)
    have HZ := Lib.hid (@rdB_none l a b hab)
    rw [hab] at HS
    replace HS := Lib.hid HS
    replace hab := Lib.hid hab
    clear h2
    generalize hz1 : numR a = z1 at HN1 hp1 HA HR1
    generalize hz2 : numR b = z2 at HN2 hp2 HB HR2
    obtain ⟨n1, q1⟩ := z1
    obtain ⟨n2, q2⟩ := z2
    replace hz1 := Lib.hid hz1
    replace hz2 := Lib.hid hz2
    simp only at hp1 hp2 HN1 HN2
    replace HN1 := Lib.hid HN1
    replace HN2 := Lib.hid HN2
    go_enter Tryd.func46, Tryd.ntmps46
    go_upto_region 1 with fail
    generalize hW : World.alloc _ _ = W
    have H0 : Below w.heap.size w W := by rw [← hW]; go_grown
    have r0 : rowOf W (w.heap.size) = some (#[.int .u8 0, .int .i16 0]) := (by (try rw [← hW]); simp only [rowOf_alloc, World.size_alloc, ↓reduceIte]; all_goals ((repeat' split) <;> first | omega | (exfalso; omega) | rfl))
    clear hW
    have l0 : w.heap.size ≤ w.heap.size := Nat.le_refl _
    generalize h0 : w.heap.size = g0 at r0 ⊢
    replace l0 : w.heap.size ≤ g0 := Nat.le_of_eq h0
    clear h0
    have b0 := rowOf_lt r0
    have H := Below.refl W.heap.size W
    go_upto_region 4 with (first | (go_at_call 49; go_loud (refine (HS.out _).mono ?_; rintro e w1 ⟨v, rfl, HO, hb⟩; obtain ⟨gs, cs, rfl, HL, hB, hgs, hcap⟩ := HO.lies; replace H := bstep H hb; clear hb; have x0 : w1.cell? ⟨gs, 0, none⟩ = some (.string ⟨a.toArray⟩) := HL.1 0 _ rfl; have x1 : w1.cell? ⟨gs, 1, none⟩ = some (.string ⟨b.toArray⟩) := HL.1 1 _ rfl)))
    clear HO HL hB hgs hcap
    go_upto_region 6 with (first | (go_at_call 52; with_reducible refine (HN1.out _).mono ?_; rintro e w2 ⟨rfl, rfl⟩) | (go_at_call 52; with_reducible refine (HN2.out _).mono ?_; rintro e w2 ⟨rfl, rfl⟩))
    cases q1 with
    | false =>
      have HF := Lib.hid (HZ.out (by rw [HR1.out]; rfl))
      clear HA HB HR1 HR2 HY HZ hp1 hp2 x0 x1
      go_wp2_with ((with_reducible refine wp_store_rowOf rfl rfl _ _ _ rfl _ rfl #[.int .u8 0, .int .i16 0] rfl #[.int .u8 0, .int .i16 0] (row_kept r0 H) rfl (infoB _ _) (bv_one _ _) ?_))
      exact bodyPost_ret (results_ct rfl rfl (loadVar_rowOf #[.int .u8 0, .int .i16 0] (by rw [rowOf_setRow, if_pos rfl, row_kept r0 H]; rfl) _ Tryd.underlying26 rfl (infoB _ _))) rfl ⟨zB, by rw [HF.out]; rfl, fun b0 h => (by rw [HF.out] at h; cases h), bsetRow (bstep H0 H) (by omega) _⟩
    | true =>
      cases q2 with
      | false =>
        have HF := Lib.hid (HZ.out (by rw [HR2.out, Bool.false_and, Bool.and_false]))
        clear HA HB HR1 HR2 HY HZ hp1 hp2 x0 x1
        go_wp2_with ((with_reducible refine wp_store_rowOf rfl rfl _ _ _ rfl _ rfl #[.int .u8 0, .int .i16 0] rfl #[.int .u8 0, .int .i16 0] (row_kept r0 H) rfl (infoB _ _) (bv_one _ _) ?_))
        exact bodyPost_ret (results_ct rfl rfl (loadVar_rowOf #[.int .u8 0, .int .i16 0] (by rw [rowOf_setRow, if_pos rfl, row_kept r0 H]; rfl) _ Tryd.underlying26 rfl (infoB _ _))) rfl ⟨zB, by rw [HF.out]; rfl, fun b0 h => (by rw [HF.out] at h; cases h), bsetRow (bstep H0 H) (by omega) _⟩
      | true =>
        by_cases c1 : 20 < n1
        · have HF := Lib.hid (HZ.out (by rw [HR1.out, Bool.true_and, show decide (n1 ≤ ((20 : Nat) : Int)) = false from decide_eq_false (by omega), Bool.and_false, Bool.false_and]))
          clear HA HB HR1 HR2 HY HZ hp1 hp2 x0 x1
          go_wp2_with ((with_reducible refine wp_store_rowOf rfl rfl _ _ _ rfl _ rfl #[.int .u8 0, .int .i16 0] rfl #[.int .u8 0, .int .i16 0] (row_kept r0 H) rfl (infoB _ _) (bv_one _ _) ?_))
          exact bodyPost_ret (results_ct rfl rfl (loadVar_rowOf #[.int .u8 0, .int .i16 0] (by rw [rowOf_setRow, if_pos rfl, row_kept r0 H]; rfl) _ Tryd.underlying26 rfl (infoB _ _))) rfl ⟨zB, by rw [HF.out]; rfl, fun b0 h => (by rw [HF.out] at h; cases h), bsetRow (bstep H0 H) (by omega) _⟩
        by_cases c2 : 2099 < n2
        · have HF := Lib.hid (HZ.out (by rw [HR2.out, Bool.true_and, show decide (n2 ≤ ((2099 : Nat) : Int)) = false from decide_eq_false (by omega), Bool.and_false, Bool.and_false]))
          clear HA HB HR1 HR2 HY HZ hp1 hp2 x0 x1
          go_wp2_with ((with_reducible refine wp_store_rowOf rfl rfl _ _ _ rfl _ rfl #[.int .u8 0, .int .i16 0] rfl #[.int .u8 0, .int .i16 0] (row_kept r0 H) rfl (infoB _ _) (bv_one _ _) ?_))
          exact bodyPost_ret (results_ct rfl rfl (loadVar_rowOf #[.int .u8 0, .int .i16 0] (by rw [rowOf_setRow, if_pos rfl, row_kept r0 H]; rfl) _ Tryd.underlying26 rfl (infoB _ _))) rfl ⟨zB, by rw [HF.out]; rfl, fun b0 h => (by rw [HF.out] at h; cases h), bsetRow (bstep H0 H) (by omega) _⟩
        obtain ⟨t, rfl, rfl⟩ : ∃ t : Bt, n1 = t.k ∧ n2 = t.y := ⟨⟨n1, n2, by omega, by omega⟩, rfl, rfl⟩
        have HF := Lib.hid (HY.out t (HA.out _ rfl).1 (HB.out _ rfl).1 (HA.out _ rfl).2 (HB.out _ rfl).2)
        have w1k : IntKind.u8.wrap t.k = t.k := by rw [IntKind.wrap_u8]; have := t.hk; omega
        have w1y : IntKind.i16.wrap t.y = t.y := wrap16_id t.hy
        clear HA HB HR1 HR2 HY HZ hp1 hp2 x0 x1
        go_upto_region 9 with (first | ((with_reducible refine wp_store_rowOf rfl rfl _ _ _ rfl _ rfl (#[.int .u8 t.k, .int .i16 t.y] : Array Value) rfl #[.int .u8 0, .int .i16 0] ?hr rfl (infoB _ _) (bv_one _ _) ?_); (case hr => rw [rowOf_alloc, if_pos rfl])))
        generalize hW1 : World.setRow _ _ _ = W1
        obtain ⟨HB, r1, b1⟩ := laid_row H hW1
        clear hW1
        have qr01 := Nat.lt_of_lt_of_le (rowOf_lt r0) H.size
        replace r0 := row_kept r0 HB
        replace H0 := bstep H0 HB
        replace H := below_self HB
        generalize w1.heap.size = g1 at *
        have r2 : ∀ X ∈ [W1, W1.setRow g0 (#[.int .u8 t.k, .int .i16 t.y] : Array Value)], rowOf X g1 = some (#[.int .u8 t.k, .int .i16 t.y] : Array Value) := two_worlds r1 (by rw [rowOf_setRow, if_neg (by omega)]; exact r1)
        refine b_start 5 [W1, W1.setRow g0 (#[.int .u8 t.k, .int .i16 t.y] : Array Value)] rfl rfl (by kernel_rfl) ?_
        refine b_row 0 (by kernel_rfl) rfl rfl _ _ rfl g1 rfl _ r2 _ Tryd.underlying26 rfl (infoB _ _) ?_
        refine b_row 1 (by kernel_rfl) rfl rfl _ _ rfl g1 rfl _ r2 _ Tryd.underlying26 rfl (infoB _ _) ?_
        refine b_quiet 2 (by kernel_rfl) rfl rfl (.bool t.ok) (fun X hX p => ?_) ?_
        · go_simp
          exact l01Bottle_any t _
        refine b_store 3 1 (by kernel_rfl) rfl rfl rfl W1 g0 (#[.int .u8 t.k, .int .i16 t.y] : Array Value) _ rfl rfl _ _ _ rfl rfl rfl r0 rfl (infoB _ _) (bv_one _ _) ?_
        refine b_quiet 4 (by kernel_rfl) rfl rfl (.bool t.ok) (fun X hX p => ?_) ?_
        · go_simp
        refine b_done _ rfl (by kernel_rfl) ?_
        rintro w2 hw2
        go_wp2
        refine bodyPost_ret (results_ct rfl rfl (loadVar_rowOf #[.int .u8 t.k, .int .i16 t.y] (row_kept (by rw [rowOf_setRow, if_pos rfl, r0]; rfl) hw2) _ Tryd.underlying26 rfl (infoB _ _))) rfl ⟨t, ?_, ?_, ?_⟩
        · rw [HF.out]
          cases t.ok <;> rfl
        · intro b0 h
          rw [HF.out] at h
          split at h
          · exact Option.some.inj h
          · cases h
        · exact (bsetRow H0 (by omega) _).trans (hw2.mono (by rw [show (W1.setRow g0 (#[.int .u8 t.k, .int .i16 t.y] : Array Value)).heap.size = W1.heap.size by simp [World.setRow]]; exact H0.size))
  · have HF := Lib.hid (rdB_not2 h2)
    have h3 : ¬ ((spl 58 l).length : Int) = 2 := by omega
    generalize spl 58 l = ps at HS h2 h3
    replace HS := Lib.hid HS
    replace h2 := Lib.hid h2
    go_enter Tryd.func46, Tryd.ntmps46
    go_upto_region 1 with fail
    generalize hW : World.alloc _ _ = W
    have H0 : Below w.heap.size w W := by rw [← hW]; go_grown
    have r0 : rowOf W (w.heap.size) = some (#[.int .u8 0, .int .i16 0]) := (by (try rw [← hW]); simp only [rowOf_alloc, World.size_alloc, ↓reduceIte]; all_goals ((repeat' split) <;> first | omega | (exfalso; omega) | rfl))
    clear hW
    have l0 : w.heap.size ≤ w.heap.size := Nat.le_refl _
    generalize h0 : w.heap.size = g0 at r0 ⊢
    replace l0 : w.heap.size ≤ g0 := Nat.le_of_eq h0
    clear h0
    have b0 := rowOf_lt r0
    have H := Below.refl W.heap.size W
    go_wp2_with (first | (go_at_call 49; go_loud (refine (HS.out _).mono ?_; rintro e w1 ⟨v, rfl, HO, hb⟩; obtain ⟨gs, cs, rfl, HL, hB, hgs, hcap⟩ := HO.lies; replace H := bstep H hb; clear hb)) | ((with_reducible refine wp_store_rowOf rfl rfl _ _ _ rfl _ rfl #[.int .u8 0, .int .i16 0] rfl #[.int .u8 0, .int .i16 0] (row_kept r0 H) rfl (infoB _ _) (bv_one _ _) ?_)))
    exact bodyPost_ret (results_ct rfl rfl (loadVar_rowOf #[.int .u8 0, .int .i16 0] (by rw [rowOf_setRow, if_pos rfl, row_kept r0 H]; rfl) _ Tryd.underlying26 rfl (infoB _ _))) rfl ⟨zB, by rw [HF.out]; rfl, fun b0 h => (by rw [HF.out] at h; cases h), bsetRow (bstep H0 H) (by omega) _⟩
end Go.Proofs.YtbngpcghognojaaDoor
