/- Contracts of FillFrom: free places of one crate filled with bottles of another one. -/
import Derived.Test.YtkpaijbjbbgpmaaSwap
import Derived.Test.YtkpaijbjbbgpmaaTip
import Derived.Test.YtkpaijbjbbgpmaaFree
namespace Go.Proofs.Ytkpaijbjbbgpmaa
open Go.RowKit
set_option linter.unusedVariables false
set_option linter.unusedSimpArgs false
set_option maxRecDepth 100000
set_option maxHeartbeats 1000000
attribute [local go_sem] Oper.qB
theorem pl_at {p : Bt → Bool} {l : List Bt} {n k : Nat} (h : k < (pl p l n).length) : ∃ i : Nat, i < n ∧ (pl p l n).getD k 0 = (i : Int) := by
  have hm : (pl p l n)[k] ∈ pl p l n := List.getElem_mem h
  rw [List.getD_eq_getElem?_getD, List.getElem?_eq_getElem h]
  generalize (pl p l n)[k] = x at hm
  simp only [pl, List.mem_map, List.mem_filter, List.mem_range] at hm
  obtain ⟨i, ⟨hi, _⟩, rfl⟩ := hm
  exact ⟨i, hi, rfl⟩
/-- The two crates behind k steps. -/
def fillS (fs us : List Int) (a b : Cr) : Nat → Cr × Cr
  | 0 => (a, b)
  | k + 1 =>
    let q := fillS fs us a b k
    (setC q.1 (fs.getD k 0).toNat (rB q.2.toList (us.getD k 0).toNat), setC q.2 (us.getD k 0).toNat zB)
def fillN (a b : Cr) : Nat := min (freeI a).length (usedI b).length
def fillR (a b : Cr) : Cr × Cr × Int :=
  if (a.ok && b.ok) = true then ((fillS (freeI a) (usedI b) a b (fillN a b)).1, (fillS (freeI a) (usedI b) a b (fillN a b)).2, 0) else (zC, zC, 1)
theorem own_setRow {w : World} {B e size n : Nat} {v : Value} {xs : List Value} (h : w.ownsRow B e size v n xs) {g : Nat} (hg : g < B) (c : Array Value) : (w.setRow g c).ownsRow B e size v n xs := by
  obtain ⟨hl, h | ⟨g', cap, cur, hv, hb, hh, r⟩⟩ := h
  · exact ⟨hl, .inl h⟩
  · exact ⟨hl, .inr ⟨g', cap, cur, hv, hb, by rw [setRow_other w g g' c (by omega)]; exact hh, r⟩⟩
theorem own_setCell {w : World} {B e size n : Nat} {v : Value} {xs : List Value} (h : w.ownsRow B e size v n xs) {g o : Nat} (hg : g < B) (u : Value) : (w.setCell ⟨g, o, none⟩ u).ownsRow B e size v n xs := by
  obtain ⟨hl, h | ⟨g', cap, cur, hv, hb, hh, r⟩⟩ := h
  · exact ⟨hl, .inl h⟩
  · exact ⟨hl, .inr ⟨g', cap, cur, hv, hb, by rw [Below.heap_setCell w _ u g' (by show g' ≠ g; omega)]; exact hh, r⟩⟩
theorem own_drew {w : World} {B e size n : Nat} {v : Value} {xs : List Value} (h : w.ownsRow B e size v n xs) : w.drew.ownsRow B e size v n xs := h
/-- Two crates stored into the result's cells, from two worlds on. -/
theorem two_crates {w W : World} {g1 g2 : Nat} {A0 B0 A B : Array Value} (H : Below w.heap.size w W) (h1 : rowOf W g1 = some A0) (h2 : rowOf W g2 = some B0) (l1 : w.heap.size ≤ g1) (hlt : g1 < g2) :
    rowOf ((W.setRow g1 A).setRow g2 B) g1 = some A ∧ rowOf ((W.setRow g1 A).setRow g2 B) g2 = some B ∧ Below w.heap.size w ((W.setRow g1 A).setRow g2 B) := by
  refine ⟨?_, ?_, bsetRow (bsetRow H l1 _) (by omega) _⟩
  · rw [rowOf_setRow, if_neg (by omega), rowOf_setRow, if_pos rfl, h1]
    rfl
  · rw [rowOf_setRow, if_pos rfl, rowOf_setRow, if_neg (by omega), h2]
    rfl
section
variable {ops : Array Oper} {rest : List Oper} {o : Oper} {a : Act} {w : World} {Q : Exit → Act → World → Prop}
/-- The empty crate stored. -/
theorem wp_store_zeroW (hgd : o.guard = none) (hdst : o.dst = none) (x y : Operand) (ho : o.op = .store 34 x y) (g : Nat) (hx : a.eval x = .pointer (some ⟨g, 0, none⟩))
    (hy : a.eval y = .agg #[.int .u8 0, .int .i16 0, .int .u8 0, .int .i16 0, .int .u8 0, .int .i16 0, .int .u8 0, .int .i16 0, .int .u8 0, .int .i16 0, .int .u8 0, .int .i16 0, .int .u8 0, .int .i16 0, .int .u8 0, .int .i16 0, .int .u8 0, .int .i16 0, .int .u8 0, .int .i16 0, .int .u8 0, .int .i16 0, .int .u8 0, .int .i16 0])
    (c : Cr) (hr : rowOf w g = some (cc c).toArray) (h : wpList Try.prog ops Q rest a (w.setRow g (cc zC).toArray)) : wpList Try.prog ops Q (o :: rest) a w :=
  wp_store_rowOf hgd hdst 34 x y ho g hx (cc zC).toArray hy (cc c).toArray hr (cc_size2 _ _) (infoC zC) zC_one h
end
theorem FillFrom_any (a b : Cr) (w : World) : Calls Try.prog 43 #[cv a, cv b] w fun e w' => e = .returned (.tuple #[cv (fillR a b).1, cv (fillR a b).2.1, .int .i64 (fillR a b).2.2]) ∧ Below w.heap.size w w' := by
  go_enter Try.func43, Try.ntmps43
  go_upto_region 1 with fail
  generalize hW : World.alloc _ _ = W
  have H0 : Below w.heap.size w W := by rw [← hW]; go_grown
  have r0 : rowOf W (w.heap.size) = some ((cc a).toArray) := (by (try rw [← hW]); simp only [rowOf_alloc, World.size_alloc, ↓reduceIte]; all_goals ((repeat' split) <;> first | omega | (exfalso; omega) | rfl))
  have r1 : rowOf W (w.heap.size + 1) = some ((cc b).toArray) := (by (try rw [← hW]); simp only [rowOf_alloc, World.size_alloc, ↓reduceIte]; all_goals ((repeat' split) <;> first | omega | (exfalso; omega) | rfl))
  have r2 : rowOf W (w.heap.size + 1 + 1) = some ((cc zC).toArray) := (by (try rw [← hW]); simp only [rowOf_alloc, World.size_alloc, ↓reduceIte]; all_goals ((repeat' split) <;> first | omega | (exfalso; omega) | rfl))
  have r3 : rowOf W (w.heap.size + 1 + 1 + 1) = some ((cc zC).toArray) := (by (try rw [← hW]); simp only [rowOf_alloc, World.size_alloc, ↓reduceIte]; all_goals ((repeat' split) <;> first | omega | (exfalso; omega) | rfl))
  clear hW
  have q0 : w.heap.size < w.heap.size + 1 := by omega
  have q1 : w.heap.size + 1 < w.heap.size + 1 + 1 := by omega
  have q2 : w.heap.size + 1 + 1 < w.heap.size + 1 + 1 + 1 := by omega
  have l0 : w.heap.size ≤ w.heap.size := Nat.le_refl _
  generalize w.heap.size + 1 + 1 + 1 = g3 at r3 q2 ⊢
  generalize w.heap.size + 1 + 1 = g2 at r2 q1 q2 ⊢
  generalize w.heap.size + 1 = g1 at r1 q0 q1 ⊢
  generalize h0 : w.heap.size = g0 at r0 q0 ⊢
  replace l0 : w.heap.size ≤ g0 := Nat.le_of_eq h0
  clear h0
  have b0 := rowOf_lt r0
  have b1 := rowOf_lt r1
  have b2 := rowOf_lt r2
  have b3 := rowOf_lt r3
  have H := Below.refl W.heap.size W
  cases e1 : a.ok with
  | false =>
    have HF := Lib.hid (show fillR a b = (zC, zC, 1) by simp [fillR, e1])
    go_wp2_with (first | ((with_reducible refine wp_load_rowBg H ?_ _ _ rfl _ rfl _ r0 _ Try.underlying34 rfl (infoC a) ?_); rfl) | ((with_reducible refine wp_load_rowBg H ?_ _ _ rfl _ rfl _ r1 _ Try.underlying34 rfl (infoC b) ?_); rfl) | (go_at_call 61; with_reducible refine (ValidCrate_any a _).mono ?_; rintro e w' ⟨rfl, hb⟩; replace H := bstep H hb; clear hb; have hc := bcell H) | (go_at_call 61; with_reducible refine (ValidCrate_any b _).mono ?_; rintro e w' ⟨rfl, hb⟩; replace H := bstep H hb; clear hb; have hc := bcell H) | (with_reducible refine wp_store_zeroB H rfl rfl _ _ rfl _ rfl rfl _ r2 ?_) | (with_reducible refine wp_store_zeroW rfl rfl _ _ rfl _ rfl rfl zC (by rw [rowOf_setRow, if_neg (by omega)]; exact row_kept r3 H) ?_))
    rw [HF.out]
    obtain ⟨t1, t2, t3⟩ := two_crates (A := (cc zC).toArray) (B := (cc zC).toArray) (bstep H0 H) (row_kept r2 H) (row_kept r3 H) (by omega) (by omega)
    exact bodyPost_ret (results_cct rfl rfl rfl (loadVar_rowOf _ t1 _ Try.underlying34 rfl (infoC _)) (loadVar_rowOf _ t2 _ Try.underlying34 rfl (infoC _))) rfl ⟨rfl, t3⟩
  | true =>
    cases e2 : b.ok with
    | false =>
      have HF := Lib.hid (show fillR a b = (zC, zC, 1) by simp [fillR, e1, e2])
      go_wp2_with (first | ((with_reducible refine wp_load_rowBg H ?_ _ _ rfl _ rfl _ r0 _ Try.underlying34 rfl (infoC a) ?_); rfl) | ((with_reducible refine wp_load_rowBg H ?_ _ _ rfl _ rfl _ r1 _ Try.underlying34 rfl (infoC b) ?_); rfl) | (go_at_call 61; with_reducible refine (ValidCrate_any a _).mono ?_; rintro e w' ⟨rfl, hb⟩; replace H := bstep H hb; clear hb; have hc := bcell H) | (go_at_call 61; with_reducible refine (ValidCrate_any b _).mono ?_; rintro e w' ⟨rfl, hb⟩; replace H := bstep H hb; clear hb; have hc := bcell H) | (with_reducible refine wp_store_zeroB H rfl rfl _ _ rfl _ rfl rfl _ r2 ?_) | (with_reducible refine wp_store_zeroW rfl rfl _ _ rfl _ rfl rfl zC (by rw [rowOf_setRow, if_neg (by omega)]; exact row_kept r3 H) ?_))
      rw [HF.out]
      obtain ⟨t1, t2, t3⟩ := two_crates (A := (cc zC).toArray) (B := (cc zC).toArray) (bstep H0 H) (row_kept r2 H) (row_kept r3 H) (by omega) (by omega)
      exact bodyPost_ret (results_cct rfl rfl rfl (loadVar_rowOf _ t1 _ Try.underlying34 rfl (infoC _)) (loadVar_rowOf _ t2 _ Try.underlying34 rfl (infoC _))) rfl ⟨rfl, t3⟩
    | true =>
      have HF := Lib.hid (show fillR a b = ((fillS (freeI a) (usedI b) a b (fillN a b)).1, (fillS (freeI a) (usedI b) a b (fillN a b)).2, 0) by simp [fillR, e1, e2])
      go_upto_region 3 with (first | ((with_reducible refine wp_load_rowBg H ?_ _ _ rfl _ rfl _ r0 _ Try.underlying34 rfl (infoC a) ?_); rfl) | ((with_reducible refine wp_load_rowBg H ?_ _ _ rfl _ rfl _ r1 _ Try.underlying34 rfl (infoC b) ?_); rfl) | (go_at_call 61; with_reducible refine (ValidCrate_any a _).mono ?_; rintro e w' ⟨rfl, hb⟩; replace H := bstep H hb; clear hb; have hc := bcell H) | (go_at_call 61; with_reducible refine (ValidCrate_any b _).mono ?_; rintro e w' ⟨rfl, hb⟩; replace H := bstep H hb; clear hb; have hc := bcell H))
      clear hc
      replace r0 := row_kept r0 H
      replace r1 := row_kept r1 H
      replace r2 := row_kept r2 H
      replace r3 := row_kept r3 H
      replace H0 := bstep H0 H
      replace H := below_self H
      have h1 := free_any a
      have h2 := full_any b
      refine g_start 6 rfl (by kernel_rfl) ?_
      (refine g_quiet 0 (by kernel_rfl) rfl (fun K hK => ?_); first | ((first | (refine qB_rowK H rfl _ _ rfl _ rfl _ r0 _ Try.underlying34 rfl (infoC a) (hK _ ?_)) | (refine qB_rowK H rfl _ _ rfl _ rfl _ r1 _ Try.underlying34 rfl (infoC b) (hK _ ?_))); clear hK K) | (go_simp; first | (refine hK _ ?_; clear hK K) | (apply Exists.intro; refine ⟨fun _ => ?_, hK _ ?_⟩; (first | fail); clear hK K)))
      (refine g_quiet 2 (by kernel_rfl) rfl (fun K hK => ?_); first | ((first | (refine qB_rowK H rfl _ _ rfl _ rfl _ r0 _ Try.underlying34 rfl (infoC a) (hK _ ?_)) | (refine qB_rowK H rfl _ _ rfl _ rfl _ r1 _ Try.underlying34 rfl (infoC b) (hK _ ?_))); clear hK K) | (go_simp; first | (refine hK _ ?_; clear hK K) | (apply Exists.intro; refine ⟨fun _ => ?_, hK _ ?_⟩; (first | fail); clear hK K)))
      refine g_alone 1 (by kernel_rfl) rfl rfl (fun K hK wx hwx hfx => ?_)
      go_simp
      refine found_call (G := fun v => v) (Φ := fun v w => w.ownsRow w'.heap.size 2 1 v ((freeI a).length) (vi (freeI a))) (fun v w w' h hb => own_kept h hb) hwx hfx ((h1 _).mono ?_) (fun v1 => hK _ _ ?_)
      · rintro e w' ⟨v, rfl, O, hb⟩
        exact ⟨v, rfl, own_down O hwx.size, hb⟩
      clear hfx hwx wx hK K
      refine g_alone 3 (by kernel_rfl) rfl rfl (fun K hK wx hwx hfx => ?_)
      go_simp
      refine found_call (G := fun v => v) (Φ := fun v w => w.ownsRow w'.heap.size 2 1 v ((usedI b).length) (vi (usedI b))) (fun v w w' h hb => own_kept h hb) hwx hfx ((h2 _).mono ?_) (fun v2 => hK _ _ ?_)
      · rintro e w' ⟨v, rfl, O, hb⟩
        exact ⟨v, rfl, own_down O hwx.size, hb⟩
      clear hfx hwx wx hK K
      (refine g_quiet 4 (by kernel_rfl) rfl (fun K hK => ?_); first | ((first | fail); clear hK K) | (go_simp; first | (refine hK _ ?_; clear hK K) | (apply Exists.intro; refine ⟨fun _ => ?_, hK _ ?_⟩; (first | fail); clear hK K)))
      (refine g_quiet 5 (by kernel_rfl) rfl (fun K hK => ?_); first | ((first | fail); clear hK K) | (go_simp; first | (refine hK _ ?_; clear hK K) | (apply Exists.intro; refine ⟨fun _ => ?_, hK _ ?_⟩; (first | fail); clear hK K)))
      refine g_done (by kernel_rfl) ?_
      rintro w5 hw5 ⟨⟨-, O1⟩, O2⟩
      have b0 := rowOf_lt r0
      have b1 := rowOf_lt r1
      have b2 := rowOf_lt r2
      have b3 := rowOf_lt r3
      replace H := hw5
      clear hw5
      obtain ⟨A1, p1, rfl, hp1, -, -⟩ := own_rdA O1
      obtain ⟨A2, p2, rfl, hp2, -, -⟩ := own_rdA O2
      have PF : Hid (∀ k, k < (freeI a).length → ∃ i : Nat, i < 12 ∧ (freeI a).getD k 0 = (i : Int)) := fun k h => pl_at h
      have PU : Hid (∀ k, k < (usedI b).length → ∃ i : Nat, i < 12 ∧ (usedI b).getD k 0 = (i : Int)) := fun k h => pl_at h
      have hf12 : (freeI a).length ≤ 12 := pl_le _ _ _
      have hu12 : (usedI b).length ≤ 12 := pl_le _ _ _
      replace HF : Hid (fillR a b = ((fillS (freeI a) (usedI b) a b (min (freeI a).length (usedI b).length)).1, (fillS (freeI a) (usedI b) a b (min (freeI a).length (usedI b).length)).2, 0)) := HF.out
      have HI := Lib.hid (⟨row_kept r0 H, row_kept r1 H, row_kept r2 H, row_kept r3 H, O1, O2⟩ : rowOf w5 g0 = some (cc a).toArray ∧ rowOf w5 g1 = some (cc b).toArray ∧ rowOf w5 g2 = some (cc zC).toArray ∧ rowOf w5 g3 = some (cc zC).toArray ∧ w5.ownsRow w'.heap.size 2 1 (.slice A1 (freeI a).length p1) (freeI a).length (vi (freeI a)) ∧ w5.ownsRow w'.heap.size 2 1 (.slice A2 (usedI b).length p2) (usedI b).length (vi (usedI b)))
      have HB := bstep H0 H
      clear O1 O2 r0 r1 r2 r3 H H0 h1 h2 hc e1 e2
      generalize freeI a = fs at *
      generalize usedI b = us at *
      generalize w'.heap.size = B at *
      go_wp2
      go_loopw [29] (fun i wr => ∃ k : Nat, k ≤ min fs.length us.length ∧ i = .int .i64 k ∧ Below w.heap.size w wr ∧ Hid (rowOf wr g0 = some (cc (fillS fs us a b k).1).toArray ∧ rowOf wr g1 = some (cc (fillS fs us a b k).2).toArray ∧ rowOf wr g2 = some (cc zC).toArray ∧ rowOf wr g3 = some (cc zC).toArray ∧ wr.ownsRow B 2 1 (.slice A1 fs.length p1) fs.length (vi fs) ∧ wr.ownsRow B 2 1 (.slice A2 us.length p2) us.length (vi us))) (fun i _ => min fs.length us.length - (intOf i).toNat)
      case atStart => exact ⟨0, Nat.zero_le _, rfl, HB, HI⟩
      case round =>
        clear HI HB
        obtain ⟨k, hk, rfl, hb, HR⟩ := hrel
        by_cases hlt : k < min fs.length us.length
        · obtain ⟨i, hi, hfi⟩ := PF.out k (by omega)
          obtain ⟨j, hj, huj⟩ := PU.out k (by omega)
          obtain ⟨R0, R1, R2, R3, O1, O2⟩ := HR.out
          obtain ⟨f1, c1, hv1⟩ := own_form O1 (by omega)
          obtain ⟨f2, c2, hv2⟩ := own_form O2 (by omega)
          simp only [Value.slice.injEq, true_and] at hv1 hv2
          obtain ⟨rfl, rfl⟩ := hv1
          obtain ⟨rfl, rfl⟩ := hv2
          have hf1 : B ≤ f1 := own_base O1 f1 rfl
          have hf2 : B ≤ f2 := own_base O2 f2 rfl
          have z1 : wr.cell? ⟨f1, k, none⟩ = some (.int .i64 i) := by rw [O1.cellAt k (by omega), vi_at _ _ (by omega), hfi]
          have z2 : wr.cell? ⟨f2, k, none⟩ = some (.int .i64 j) := by rw [O2.cellAt k (by omega), vi_at _ _ (by omega), huj]
          have HN : Hid (fillS fs us a b (k + 1) = (setC (fillS fs us a b k).1 i (rB (fillS fs us a b k).2.toList j), setC (fillS fs us a b k).2 j zB)) := by
            show (setC (fillS fs us a b k).1 (fs.getD k 0).toNat (rB (fillS fs us a b k).2.toList (us.getD k 0).toNat), setC (fillS fs us a b k).2 (us.getD k 0).toNat zB) = _
            rw [hfi, huj]
            rfl
          have hlt1 : (k : Int) < (fs.length : Int) := by omega
          have hlt2 : (k : Int) < (us.length : Int) := by omega
          have hi2 : (i : Int) < 12 := by omega
          have hj2 : (j : Int) < 12 := by omega
          have hi3 : (i : Int) ≤ 11 := by omega
          have hj3 : (j : Int) ≤ 11 := by omega
          clear hfi huj HR
          generalize fillS fs us a b k = P at *
          obtain ⟨PA, PB⟩ := P
          replace R0 : rowOf wr g0 = some (cc PA).toArray := R0
          replace R1 : rowOf wr g1 = some (cc PB).toArray := R1
          replace HN : Hid (fillS fs us a b (k + 1) = (setC PA i (rB PB.toList j), setC PB j zB)) := HN
          have HI := Lib.hid (show i < PA.toList.length by rw [Vector.length_toList]; exact hi)
          have HJ := Lib.hid (show j < PB.toList.length by rw [Vector.length_toList]; exact hj)
          have y0 := row0 R1 HJ.out
          have y1 := row1 R1 HJ.out
          generalize rB PB.toList j = y at y0 y1 HN
          go_upto_region 7 with fail
          have HB : Below w.heap.size w (World.drew wr) := bdrewN hb 1
          have HO := Lib.hid (⟨O1, O2⟩ : (World.drew wr).ownsRow B 2 1 (.slice (some ⟨f1, 0, none⟩) fs.length p1) fs.length (vi fs) ∧ (World.drew wr).ownsRow B 2 1 (.slice (some ⟨f2, 0, none⟩) us.length p2) us.length (vi us))
          have HR := Lib.hid (⟨R0, R1, R2, R3⟩ : rowOf (World.drew wr) g0 = some (cc PA).toArray ∧ rowOf (World.drew wr) g1 = some (cc PB).toArray ∧ rowOf (World.drew wr) g2 = some (cc zC).toArray ∧ rowOf (World.drew wr) g3 = some (cc zC).toArray)
          replace z1 : (World.drew wr).cell? ⟨f1, k, none⟩ = some (.int .i64 i) := z1
          replace z2 : (World.drew wr).cell? ⟨f2, k, none⟩ = some (.int .i64 j) := z2
          replace y0 : (World.drew wr).cell? ⟨g1, j * 2, none⟩ = some (.int .u8 y.k) := y0
          replace y1 : (World.drew wr).cell? ⟨g1, j * 2 + 1, none⟩ = some (.int .i16 y.y) := y1
          clear R0 R1 R2 R3 O1 O2
          generalize hW0 : World.drew wr = W0 at HB HO HR z1 z2 y0 y1
          obtain ⟨W1, hW1⟩ : ∃ x', x' = W0.setRow g0 (bcs (PA.toList.set i y)).toArray := ⟨_, rfl⟩
          obtain ⟨W2, hW2⟩ : ∃ x', x' = W1.setRow g1 (bcs (PB.toList.set j zB)).toArray := ⟨_, rfl⟩
          have u1 : W1.cell? ⟨f1, k, none⟩ = some (.int .i64 i) := by rw [hW1, cell_setRow_ne (by omega)]; exact z1
          have u2 : W1.cell? ⟨f2, k, none⟩ = some (.int .i64 j) := by rw [hW1, cell_setRow_ne (by omega)]; exact z2
          have v1 : W2.cell? ⟨f1, k, none⟩ = some (.int .i64 i) := by rw [hW2, cell_setRow_ne (by omega)]; exact u1
          have v2 : W2.cell? ⟨f2, k, none⟩ = some (.int .i64 j) := by rw [hW2, cell_setRow_ne (by omega)]; exact u2
          have S1 : rowOf W1 g1 = some (bcs PB.toList).toArray := by rw [hW1, rowOf_setRow_ne (by omega)]; exact HR.out.2.1
          have S0 : rowOf W0 g0 = some (bcs PA.toList).toArray := HR.out.1
          have HI2 := Lib.hid (⟨by rw [hW2, rowOf_setRow_ne (by omega), hW1, rowOf_setRow, if_pos rfl, HR.out.1]; rfl, by rw [hW2, rowOf_setRow, if_pos rfl, S1]; rfl, by rw [hW2, rowOf_setRow_ne (by omega), hW1, rowOf_setRow_ne (by omega)]; exact HR.out.2.2.1, by rw [hW2, rowOf_setRow_ne (by omega), hW1, rowOf_setRow_ne (by omega)]; exact HR.out.2.2.2,
            by rw [hW2, hW1]; exact own_setRow (own_setRow HO.out.1 (by omega) _) (by omega) _, by rw [hW2, hW1]; exact own_setRow (own_setRow HO.out.2 (by omega) _) (by omega) _⟩ :
            rowOf W2 g0 = some (cc (setC PA i y)).toArray ∧ rowOf W2 g1 = some (cc (setC PB j zB)).toArray ∧ rowOf W2 g2 = some (cc zC).toArray ∧ rowOf W2 g3 = some (cc zC).toArray ∧ W2.ownsRow B 2 1 (.slice (some ⟨f1, 0, none⟩) fs.length p1) fs.length (vi fs) ∧ W2.ownsRow B 2 1 (.slice (some ⟨f2, 0, none⟩) us.length p2) us.length (vi us))
          have HB2 : Below w.heap.size w W2 := by rw [hW2, hW1]; exact bsetRow (bsetRow HB (by omega) _) (by omega) _
          replace hW0 := Lib.hid hW0
          replace hW1 := Lib.hid hW1
          replace hW2 := Lib.hid hW2
          refine d_start 19 [W0, W1, W2] (by rw [hW0.out]; rfl) rfl (by kernel_rfl) ?_
          (refine d_quiet 0 (by kernel_rfl) rfl (fun K hK => ?_); go_simp; refine hK _ ?_; clear hK K)
          (refine d_quiet 1 (by kernel_rfl) rfl (fun K hK => ?_); go_simp; refine hK _ ?_; clear hK K)
          (refine d_quiet 2 (by kernel_rfl) rfl (fun K hK => ?_); go_simp; refine hK _ ?_; clear hK K)
          (refine d_quiet 3 (by kernel_rfl) rfl (fun K hK => ?_); go_simp; refine hK _ ?_; clear hK K)
          (refine d_quiet 4 (by kernel_rfl) rfl (fun K hK => ?_); go_simp; refine hK _ ?_; clear hK K)
          (refine d_quiet 5 (by kernel_rfl) rfl (fun K hK => ?_); go_simp; refine hK _ ?_; clear hK K)
          (refine d_quiet 6 (by kernel_rfl) rfl (fun K hK => ?_); go_simp; refine hK _ ?_; clear hK K)
          (refine d_quiet 7 (by kernel_rfl) rfl (fun K hK => ?_); go_simp; refine hK _ ?_; clear hK K)
          (refine d_quiet 8 (by kernel_rfl) rfl (fun K hK => ?_); go_simp; refine hK _ ?_; clear hK K)
          (refine d_quiet 9 (by kernel_rfl) rfl (fun K hK => ?_); go_simp; refine hK _ ?_; clear hK K)
          (refine d_quiet 10 (by kernel_rfl) rfl (fun K hK => ?_); go_simp; refine hK _ ?_; clear hK K)
          (refine d_quiet 11 (by kernel_rfl) rfl (fun K hK => ?_); go_simp; refine hK _ ?_; clear hK K)
          (refine d_quiet 12 (by kernel_rfl) rfl (fun K hK => ?_); go_simp; refine hK _ ?_; clear hK K)
          (refine d_quiet 14 (by kernel_rfl) rfl (fun K hK => ?_); go_simp; refine hK _ ?_; clear hK K)
          refine d_step 13 0 W0 W0 rfl rfl (by kernel_rfl) rfl rfl (fun K hK => ?_)
          unfold Goes
          go_simp
          refine hK _ ?_
          clear hK K
          (refine d_quiet 15 (by kernel_rfl) rfl (fun K hK => ?_); go_simp; refine hK _ ?_; clear hK K)
          refine d_step 16 1 W0 W1 rfl rfl (by kernel_rfl) rfl rfl (fun K hK => Goes.to hW1.out (Goes.place rfl _ _ _ rfl _ _ rfl _ rfl _ S0 HI.out (infoB _ _) (hK _ ?_)))
          (refine d_quiet 17 (by kernel_rfl) rfl (fun K hK => ?_); go_simp; refine hK _ ?_; clear hK K)
          refine d_step 18 2 W1 W2 rfl rfl (by kernel_rfl) rfl rfl (fun K hK => Goes.to hW2.out (Goes.place0 rfl _ _ _ rfl _ _ rfl rfl _ S1 HJ.out (infoB _ _) (hK _ ?_)))
          refine d_done (w := W2) rfl (by kernel_rfl) ?_
          clear z1 z2 u1 u2 v1 v2 y0 y1 S0 S1
          go_wp2
          go_roundw
          case rel => exact ⟨k + 1, by omega, by go_num, HB2, by rw [HN.out]; exact HI2.out⟩
          case measure => simp [intOf]; omega
        · obtain rfl : k = min fs.length us.length := by omega
          obtain ⟨R0, R1, R2, R3, -, -⟩ := HR.out
          clear HR
          generalize fillS fs us a b (min fs.length us.length) = P at *
          obtain ⟨PA, PB⟩ := P
          replace R0 : rowOf wr g0 = some (cc PA).toArray := R0
          replace R1 : rowOf wr g1 = some (cc PB).toArray := R1
          replace HF : Hid (fillR a b = (PA, PB, 0)) := HF
          go_upto_region 9 with fail
          have HB : Below w.heap.size w (World.drew wr) := bdrewN hb 1
          replace R0 : rowOf (World.drew wr) g0 = some (cc PA).toArray := R0
          replace R1 : rowOf (World.drew wr) g1 = some (cc PB).toArray := R1
          replace R2 : rowOf (World.drew wr) g2 = some (cc zC).toArray := R2
          replace R3 : rowOf (World.drew wr) g3 = some (cc zC).toArray := R3
          generalize hW0 : World.drew wr = W0 at HB R0 R1 R2 R3
          obtain ⟨W1, hW1⟩ : ∃ x', x' = W0.setRow g2 (cc PA).toArray := ⟨_, rfl⟩
          obtain ⟨W2, hW2⟩ : ∃ x', x' = W1.setRow g3 (cc PB).toArray := ⟨_, rfl⟩
          have t0 : ∀ w ∈ [W0, W1, W2], rowOf w g0 = some (cc PA).toArray := three_worlds R0 (by rw [hW1, rowOf_setRow_ne (by omega)]; exact R0) (by rw [hW2, rowOf_setRow_ne (by omega), hW1, rowOf_setRow_ne (by omega)]; exact R0)
          have t1 : ∀ w ∈ [W0, W1, W2], rowOf w g1 = some (cc PB).toArray := three_worlds R1 (by rw [hW1, rowOf_setRow_ne (by omega)]; exact R1) (by rw [hW2, rowOf_setRow_ne (by omega), hW1, rowOf_setRow_ne (by omega)]; exact R1)
          have S3 : rowOf W1 g3 = some (cc zC).toArray := by rw [hW1, rowOf_setRow_ne (by omega)]; exact R3
          have T2 : rowOf W2 g2 = some (cc PA).toArray := by rw [hW2, rowOf_setRow_ne (by omega), hW1, rowOf_setRow, if_pos rfl, R2]; rfl
          have T3 : rowOf W2 g3 = some (cc PB).toArray := by rw [hW2, rowOf_setRow, if_pos rfl, S3]; rfl
          have HB2 : Below w.heap.size w W2 := by rw [hW2, hW1]; exact bsetRow (bsetRow HB (by omega) _) (by omega) _
          replace hW0 := Lib.hid hW0
          replace hW1 := Lib.hid hW1
          replace hW2 := Lib.hid hW2
          refine d_start 5 [W0, W1, W2] (by rw [hW0.out]; rfl) rfl (by kernel_rfl) ?_
          (refine d_quiet 0 (by kernel_rfl) rfl (fun K hK => ?_); refine d_rowK rfl _ _ rfl _ rfl _ t0 _ Try.underlying34 rfl (infoC PA) (hK _ ?_); clear hK K)
          (refine d_quiet 1 (by kernel_rfl) rfl (fun K hK => ?_); refine d_rowK rfl _ _ rfl _ rfl _ t1 _ Try.underlying34 rfl (infoC PB) (hK _ ?_); clear hK K)
          refine d_step 2 1 W0 W1 rfl rfl (by kernel_rfl) rfl rfl (fun K hK => Goes.to hW1.out (Goes.row rfl _ _ _ rfl _ rfl (cc PA).toArray rfl _ R2 (cc_size2 _ _) (infoC _) (cc_one _) (hK _ ?_)))
          refine d_step 3 2 W1 W2 rfl rfl (by kernel_rfl) rfl rfl (fun K hK => Goes.to hW2.out (Goes.row rfl _ _ _ rfl _ rfl (cc PB).toArray rfl _ S3 (cc_size2 _ _) (infoC _) (cc_one _) (hK _ ?_)))
          (refine d_quiet 4 (by kernel_rfl) rfl (fun K hK => ?_); go_simp; refine hK _ ?_; clear hK K)
          refine d_done (w := W2) rfl (by kernel_rfl) ?_
          go_wp2
          rw [HF.out]
          exact bodyPost_ret (results_cct rfl rfl rfl (loadVar_rowOf _ T2 _ Try.underlying34 rfl (infoC _)) (loadVar_rowOf _ T3 _ Try.underlying34 rfl (infoC _))) rfl ⟨rfl, HB2⟩
theorem sFillFrom_any (a b : Cr) (w : World) : Calls Try.prog 42 #[cv a, cv b] w fun e w' => e = .returned (.tuple #[cv (fillR a b).1, cv (fillR a b).2.1, .int .i64 (fillR a b).2.2]) ∧ Below w.heap.size w w' := by
  go_enter Try.func42, Try.ntmps42
  go_upto_region 1 with fail
  generalize hW : World.alloc _ _ = W
  have H0 : Below w.heap.size w W := by rw [← hW]; go_grown
  have r0 : rowOf W (w.heap.size) = some ((cc a).toArray) := (by (try rw [← hW]); simp only [rowOf_alloc, World.size_alloc, ↓reduceIte]; all_goals ((repeat' split) <;> first | omega | (exfalso; omega) | rfl))
  have r1 : rowOf W (w.heap.size + 1) = some ((cc b).toArray) := (by (try rw [← hW]); simp only [rowOf_alloc, World.size_alloc, ↓reduceIte]; all_goals ((repeat' split) <;> first | omega | (exfalso; omega) | rfl))
  have r2 : rowOf W (w.heap.size + 1 + 1) = some ((cc zC).toArray) := (by (try rw [← hW]); simp only [rowOf_alloc, World.size_alloc, ↓reduceIte]; all_goals ((repeat' split) <;> first | omega | (exfalso; omega) | rfl))
  have r3 : rowOf W (w.heap.size + 1 + 1 + 1) = some ((cc zC).toArray) := (by (try rw [← hW]); simp only [rowOf_alloc, World.size_alloc, ↓reduceIte]; all_goals ((repeat' split) <;> first | omega | (exfalso; omega) | rfl))
  clear hW
  have q0 : w.heap.size < w.heap.size + 1 := by omega
  have q1 : w.heap.size + 1 < w.heap.size + 1 + 1 := by omega
  have q2 : w.heap.size + 1 + 1 < w.heap.size + 1 + 1 + 1 := by omega
  have l0 : w.heap.size ≤ w.heap.size := Nat.le_refl _
  generalize w.heap.size + 1 + 1 + 1 = g3 at r3 q2 ⊢
  generalize w.heap.size + 1 + 1 = g2 at r2 q1 q2 ⊢
  generalize w.heap.size + 1 = g1 at r1 q0 q1 ⊢
  generalize h0 : w.heap.size = g0 at r0 q0 ⊢
  replace l0 : w.heap.size ≤ g0 := Nat.le_of_eq h0
  clear h0
  have b0 := rowOf_lt r0
  have b1 := rowOf_lt r1
  have b2 := rowOf_lt r2
  have b3 := rowOf_lt r3
  have H := Below.refl W.heap.size W
  cases e1 : a.ok with
  | false =>
    have HF := Lib.hid (show fillR a b = (zC, zC, 1) by simp [fillR, e1])
    go_wp2_with (first | (go_at_call 57; with_reducible refine (l01Ok_row H r0).mono ?_; rintro e w' ⟨rfl, hb⟩; replace H := bstep H hb; clear hb; have hc := bcell H) | (go_at_call 57; with_reducible refine (l01Ok_row H r1).mono ?_; rintro e w' ⟨rfl, hb⟩; replace H := bstep H hb; clear hb; have hc := bcell H) | (with_reducible refine wp_store_zeroB H rfl rfl _ _ rfl _ rfl rfl _ r2 ?_) | (with_reducible refine wp_store_zeroW rfl rfl _ _ rfl _ rfl rfl zC (by rw [rowOf_setRow, if_neg (by omega)]; exact row_kept r3 H) ?_))
    rw [HF.out]
    obtain ⟨t1, t2, t3⟩ := two_crates (A := (cc zC).toArray) (B := (cc zC).toArray) (bstep H0 H) (row_kept r2 H) (row_kept r3 H) (by omega) (by omega)
    exact bodyPost_ret (results_cct rfl rfl rfl (loadVar_rowOf _ t1 _ Try.underlying34 rfl (infoC _)) (loadVar_rowOf _ t2 _ Try.underlying34 rfl (infoC _))) rfl ⟨rfl, t3⟩
  | true =>
    cases e2 : b.ok with
    | false =>
      have HF := Lib.hid (show fillR a b = (zC, zC, 1) by simp [fillR, e1, e2])
      go_wp2_with (first | (go_at_call 57; with_reducible refine (l01Ok_row H r0).mono ?_; rintro e w' ⟨rfl, hb⟩; replace H := bstep H hb; clear hb; have hc := bcell H) | (go_at_call 57; with_reducible refine (l01Ok_row H r1).mono ?_; rintro e w' ⟨rfl, hb⟩; replace H := bstep H hb; clear hb; have hc := bcell H) | (with_reducible refine wp_store_zeroB H rfl rfl _ _ rfl _ rfl rfl _ r2 ?_) | (with_reducible refine wp_store_zeroW rfl rfl _ _ rfl _ rfl rfl zC (by rw [rowOf_setRow, if_neg (by omega)]; exact row_kept r3 H) ?_))
      rw [HF.out]
      obtain ⟨t1, t2, t3⟩ := two_crates (A := (cc zC).toArray) (B := (cc zC).toArray) (bstep H0 H) (row_kept r2 H) (row_kept r3 H) (by omega) (by omega)
      exact bodyPost_ret (results_cct rfl rfl rfl (loadVar_rowOf _ t1 _ Try.underlying34 rfl (infoC _)) (loadVar_rowOf _ t2 _ Try.underlying34 rfl (infoC _))) rfl ⟨rfl, t3⟩
    | true =>
      have HF := Lib.hid (show fillR a b = ((fillS (freeI a) (usedI b) a b (fillN a b)).1, (fillS (freeI a) (usedI b) a b (fillN a b)).2, 0) by simp [fillR, e1, e2])
      go_upto_region 3 with (first | (go_at_call 57; with_reducible refine (l01Ok_row H r0).mono ?_; rintro e w' ⟨rfl, hb⟩; replace H := bstep H hb; clear hb; have hc := bcell H) | (go_at_call 57; with_reducible refine (l01Ok_row H r1).mono ?_; rintro e w' ⟨rfl, hb⟩; replace H := bstep H hb; clear hb; have hc := bcell H))
      clear hc
      replace r0 := row_kept r0 H
      replace r1 := row_kept r1 H
      replace r2 := row_kept r2 H
      replace r3 := row_kept r3 H
      replace H0 := bstep H0 H
      replace H := below_self H
      have b0 := rowOf_lt r0
      have b1 := rowOf_lt r1
      have b2 := rowOf_lt r2
      have b3 := rowOf_lt r3
      go_upto_region 5 with (first | (go_at_call 72; refine (l01Empty_row H r0).mono ?_; rintro e w4 ⟨v1, rfl, O1, hb4⟩; replace H := bstep H hb4) | (go_at_call 79; refine (l01Used_row H r1).mono ?_; rintro e w5 ⟨v2, rfl, O2, hb5⟩; replace O2 := own_down O2 H.size; replace O1 := own_kept O1 hb5; replace H := bstep H hb5))
      clear hb4 hb5
      obtain ⟨A1, p1, rfl, hp1, -, -⟩ := own_rdA O1
      obtain ⟨A2, p2, rfl, hp2, -, -⟩ := own_rdA O2
      have PF : Hid (∀ k, k < (freeI a).length → ∃ i : Nat, i < 12 ∧ (freeI a).getD k 0 = (i : Int)) := fun k h => pl_at h
      have PU : Hid (∀ k, k < (usedI b).length → ∃ i : Nat, i < 12 ∧ (usedI b).getD k 0 = (i : Int)) := fun k h => pl_at h
      have hf12 : (freeI a).length ≤ 12 := pl_le _ _ _
      have hu12 : (usedI b).length ≤ 12 := pl_le _ _ _
      replace HF : Hid (fillR a b = ((fillS (freeI a) (usedI b) a b (min (freeI a).length (usedI b).length)).1, (fillS (freeI a) (usedI b) a b (min (freeI a).length (usedI b).length)).2, 0)) := HF.out
      have HI := Lib.hid (⟨row_kept r0 H, row_kept r1 H, row_kept r2 H, row_kept r3 H, O1, O2⟩ : rowOf w5 g0 = some (cc a).toArray ∧ rowOf w5 g1 = some (cc b).toArray ∧ rowOf w5 g2 = some (cc zC).toArray ∧ rowOf w5 g3 = some (cc zC).toArray ∧ w5.ownsRow w'.heap.size 2 1 (.slice A1 (freeI a).length p1) (freeI a).length (vi (freeI a)) ∧ w5.ownsRow w'.heap.size 2 1 (.slice A2 (usedI b).length p2) (usedI b).length (vi (usedI b)))
      have HB := bstep H0 H
      clear O1 O2 r0 r1 r2 r3 H H0 e1 e2
      generalize freeI a = fs at *
      generalize usedI b = us at *
      generalize w'.heap.size = B at *
      go_wp2
      go_loopw [9] (fun i wr => ∃ k : Nat, k ≤ min fs.length us.length ∧ i = .int .i64 k ∧ Below w.heap.size w wr ∧ Hid (rowOf wr g0 = some (cc (fillS fs us a b k).1).toArray ∧ rowOf wr g1 = some (cc (fillS fs us a b k).2).toArray ∧ rowOf wr g2 = some (cc zC).toArray ∧ rowOf wr g3 = some (cc zC).toArray ∧ wr.ownsRow B 2 1 (.slice A1 fs.length p1) fs.length (vi fs) ∧ wr.ownsRow B 2 1 (.slice A2 us.length p2) us.length (vi us))) (fun i _ => min fs.length us.length - (intOf i).toNat)
      case atStart => exact ⟨0, Nat.zero_le _, rfl, HB, HI⟩
      case round =>
        clear HI HB
        obtain ⟨k, hk, rfl, hb, HR⟩ := hrel
        by_cases hlt : k < min fs.length us.length
        · obtain ⟨i, hi, hfi⟩ := PF.out k (by omega)
          obtain ⟨j, hj, huj⟩ := PU.out k (by omega)
          obtain ⟨R0, R1, R2, R3, O1, O2⟩ := HR.out
          obtain ⟨f1, c1, hv1⟩ := own_form O1 (by omega)
          obtain ⟨f2, c2, hv2⟩ := own_form O2 (by omega)
          simp only [Value.slice.injEq, true_and] at hv1 hv2
          obtain ⟨rfl, rfl⟩ := hv1
          obtain ⟨rfl, rfl⟩ := hv2
          have hf1 : B ≤ f1 := own_base O1 f1 rfl
          have hf2 : B ≤ f2 := own_base O2 f2 rfl
          have z1 : wr.cell? ⟨f1, k, none⟩ = some (.int .i64 i) := by rw [O1.cellAt k (by omega), vi_at _ _ (by omega), hfi]
          have z2 : wr.cell? ⟨f2, k, none⟩ = some (.int .i64 j) := by rw [O2.cellAt k (by omega), vi_at _ _ (by omega), huj]
          have HN : Hid (fillS fs us a b (k + 1) = (setC (fillS fs us a b k).1 i (rB (fillS fs us a b k).2.toList j), setC (fillS fs us a b k).2 j zB)) := by
            show (setC (fillS fs us a b k).1 (fs.getD k 0).toNat (rB (fillS fs us a b k).2.toList (us.getD k 0).toNat), setC (fillS fs us a b k).2 (us.getD k 0).toNat zB) = _
            rw [hfi, huj]
            rfl
          have hlt1 : (k : Int) < (fs.length : Int) := by omega
          have hlt2 : (k : Int) < (us.length : Int) := by omega
          have hi2 : (i : Int) < 12 := by omega
          have hj2 : (j : Int) < 12 := by omega
          have hi3 : (i : Int) ≤ 11 := by omega
          have hj3 : (j : Int) ≤ 11 := by omega
          clear hfi huj HR
          generalize fillS fs us a b k = P at *
          obtain ⟨PA, PB⟩ := P
          replace R0 : rowOf wr g0 = some (cc PA).toArray := R0
          replace R1 : rowOf wr g1 = some (cc PB).toArray := R1
          replace HN : Hid (fillS fs us a b (k + 1) = (setC PA i (rB PB.toList j), setC PB j zB)) := HN
          have HI := Lib.hid (show i < PA.toList.length by rw [Vector.length_toList]; exact hi)
          have HJ := Lib.hid (show j < PB.toList.length by rw [Vector.length_toList]; exact hj)
          have y0 := row0 R1 HJ.out
          have y1 := row1 R1 HJ.out
          generalize rB PB.toList j = y at y0 y1 HN
          go_upto_region 8 with fail
          have HB : Below w.heap.size w (World.drew wr) := bdrewN hb 1
          have HO := Lib.hid (⟨O1, O2⟩ : (World.drew wr).ownsRow B 2 1 (.slice (some ⟨f1, 0, none⟩) fs.length p1) fs.length (vi fs) ∧ (World.drew wr).ownsRow B 2 1 (.slice (some ⟨f2, 0, none⟩) us.length p2) us.length (vi us))
          have HR := Lib.hid (⟨R0, R1, R2, R3⟩ : rowOf (World.drew wr) g0 = some (cc PA).toArray ∧ rowOf (World.drew wr) g1 = some (cc PB).toArray ∧ rowOf (World.drew wr) g2 = some (cc zC).toArray ∧ rowOf (World.drew wr) g3 = some (cc zC).toArray)
          replace z1 : (World.drew wr).cell? ⟨f1, k, none⟩ = some (.int .i64 i) := z1
          replace z2 : (World.drew wr).cell? ⟨f2, k, none⟩ = some (.int .i64 j) := z2
          replace y0 : (World.drew wr).cell? ⟨g1, j * 2, none⟩ = some (.int .u8 y.k) := y0
          replace y1 : (World.drew wr).cell? ⟨g1, j * 2 + 1, none⟩ = some (.int .i16 y.y) := y1
          clear R0 R1 R2 R3 O1 O2
          generalize hW0 : World.drew wr = W0 at HB HO HR z1 z2 y0 y1
          obtain ⟨W1, hW1⟩ : ∃ x', x' = W0.setRow g0 (bcs (PA.toList.set i y)).toArray := ⟨_, rfl⟩
          have u1 : W1.cell? ⟨f1, k, none⟩ = some (.int .i64 i) := by rw [hW1, cell_setRow_ne (by omega)]; exact z1
          have u2 : W1.cell? ⟨f2, k, none⟩ = some (.int .i64 j) := by rw [hW1, cell_setRow_ne (by omega)]; exact z2
          have v0 : W1.cell? ⟨g1, j * 2, none⟩ = some (.int .u8 y.k) := by rw [hW1, cell_setRow_ne (by omega)]; exact y0
          have v1 : W1.cell? ⟨g1, j * 2 + 1, none⟩ = some (.int .i16 y.y) := by rw [hW1, cell_setRow_ne (by omega)]; exact y1
          have S0 : rowOf W0 g0 = some (bcs PA.toList).toArray := HR.out.1
          have S1 : rowOf W1 g1 = some (bcs PB.toList).toArray := by rw [hW1, rowOf_setRow_ne (by omega)]; exact HR.out.2.1
          have HI2 := Lib.hid (⟨by rw [hW1, rowOf_setRow, if_pos rfl, HR.out.1]; rfl, S1, by rw [hW1, rowOf_setRow_ne (by omega)]; exact HR.out.2.2.1, by rw [hW1, rowOf_setRow_ne (by omega)]; exact HR.out.2.2.2, by rw [hW1]; exact own_setRow HO.out.1 (by omega) _, by rw [hW1]; exact own_setRow HO.out.2 (by omega) _⟩ :
            rowOf W1 g0 = some (cc (setC PA i y)).toArray ∧ rowOf W1 g1 = some (bcs PB.toList).toArray ∧ rowOf W1 g2 = some (cc zC).toArray ∧ rowOf W1 g3 = some (cc zC).toArray ∧ W1.ownsRow B 2 1 (.slice (some ⟨f1, 0, none⟩) fs.length p1) fs.length (vi fs) ∧ W1.ownsRow B 2 1 (.slice (some ⟨f2, 0, none⟩) us.length p2) us.length (vi us))
          have HB2 : Below w.heap.size w W1 := by rw [hW1]; exact bsetRow HB (by omega) _
          have k0 := rowOf_frozen S1 (j * 2)
          have k1 := rowOf_frozen S1 (j * 2 + 1)
          replace hW0 := Lib.hid hW0
          replace hW1 := Lib.hid hW1
          refine d_start 12 [W0, W1] (by rw [hW0.out]; rfl) rfl (by kernel_rfl) ?_
          (refine d_quiet 0 (by kernel_rfl) rfl (fun K hK => ?_); go_simp; refine hK _ ?_; clear hK K)
          (refine d_quiet 1 (by kernel_rfl) rfl (fun K hK => ?_); go_simp; refine hK _ ?_; clear hK K)
          (refine d_quiet 2 (by kernel_rfl) rfl (fun K hK => ?_); go_simp; refine hK _ ?_; clear hK K)
          (refine d_quiet 3 (by kernel_rfl) rfl (fun K hK => ?_); go_simp; refine hK _ ?_; clear hK K)
          (refine d_quiet 4 (by kernel_rfl) rfl (fun K hK => ?_); go_simp; refine hK _ ?_; clear hK K)
          (refine d_quiet 5 (by kernel_rfl) rfl (fun K hK => ?_); go_simp; refine hK _ ?_; clear hK K)
          (refine d_quiet 6 (by kernel_rfl) rfl (fun K hK => ?_); go_simp; refine hK _ ?_; clear hK K)
          (refine d_quiet 7 (by kernel_rfl) rfl (fun K hK => ?_); go_simp; refine hK _ ?_; clear hK K)
          (refine d_quiet 8 (by kernel_rfl) rfl (fun K hK => ?_); go_simp; refine hK _ ?_; clear hK K)
          (refine d_quiet 9 (by kernel_rfl) rfl (fun K hK => ?_); go_simp; refine hK _ ?_; clear hK K)
          (refine d_quiet 10 (by kernel_rfl) rfl (fun K hK => ?_); go_simp; refine hK _ ?_; clear hK K)
          refine d_step 11 1 W0 W1 rfl rfl (by kernel_rfl) rfl rfl (fun K hK => Goes.to hW1.out (Goes.place rfl _ _ _ rfl _ _ rfl _ rfl _ S0 HI.out (infoB _ _) (hK _ ?_)))
          refine d_done (w := W1) rfl (by kernel_rfl) ?_
          clear z1 z2 u1 y0 y1 S0 S1
          go_wp2
          go_roundw
          case rel =>
            refine ⟨k + 1, by omega, by go_num, (HB2.setCell (by show _ ≤ g1; omega) _).setCell (by show _ ≤ g1; omega) _, ?_⟩
            rw [HN.out]
            refine ⟨?_, row_put zB HI2.out.2.1 HJ.out, ?_, ?_, own_setCell (own_setCell HI2.out.2.2.2.2.1 (by omega) _) (by omega) _, own_setCell (own_setCell HI2.out.2.2.2.2.2 (by omega) _) (by omega) _⟩
            · rw [row_far (by omega), row_far (by omega)]; exact HI2.out.1
            · rw [row_far (by omega), row_far (by omega)]; exact HI2.out.2.2.1
            · rw [row_far (by omega), row_far (by omega)]; exact HI2.out.2.2.2.1
          case measure => simp [intOf]; omega
        · obtain rfl : k = min fs.length us.length := by omega
          obtain ⟨R0, R1, R2, R3, -, -⟩ := HR.out
          clear HR
          generalize fillS fs us a b (min fs.length us.length) = P at *
          obtain ⟨PA, PB⟩ := P
          replace R0 : rowOf wr g0 = some (cc PA).toArray := R0
          replace R1 : rowOf wr g1 = some (cc PB).toArray := R1
          replace HF : Hid (fillR a b = (PA, PB, 0)) := HF
          go_upto_region 10 with fail
          all_goals
            have HB : Below w.heap.size w (World.drew wr) := bdrewN hb 1
            replace R0 : rowOf (World.drew wr) g0 = some (cc PA).toArray := R0
            replace R1 : rowOf (World.drew wr) g1 = some (cc PB).toArray := R1
            replace R2 : rowOf (World.drew wr) g2 = some (cc zC).toArray := R2
            replace R3 : rowOf (World.drew wr) g3 = some (cc zC).toArray := R3
            generalize hW0 : World.drew wr = W0 at HB R0 R1 R2 R3
            obtain ⟨W1, hW1⟩ : ∃ x', x' = W0.setRow g2 (cc PA).toArray := ⟨_, rfl⟩
            obtain ⟨W2, hW2⟩ : ∃ x', x' = W1.setRow g3 (cc PB).toArray := ⟨_, rfl⟩
            have t0 : ∀ w ∈ [W0, W1, W2], rowOf w g0 = some (cc PA).toArray := three_worlds R0 (by rw [hW1, rowOf_setRow_ne (by omega)]; exact R0) (by rw [hW2, rowOf_setRow_ne (by omega), hW1, rowOf_setRow_ne (by omega)]; exact R0)
            have t1 : ∀ w ∈ [W0, W1, W2], rowOf w g1 = some (cc PB).toArray := three_worlds R1 (by rw [hW1, rowOf_setRow_ne (by omega)]; exact R1) (by rw [hW2, rowOf_setRow_ne (by omega), hW1, rowOf_setRow_ne (by omega)]; exact R1)
            have S3 : rowOf W1 g3 = some (cc zC).toArray := by rw [hW1, rowOf_setRow_ne (by omega)]; exact R3
            have T2 : rowOf W2 g2 = some (cc PA).toArray := by rw [hW2, rowOf_setRow_ne (by omega), hW1, rowOf_setRow, if_pos rfl, R2]; rfl
            have T3 : rowOf W2 g3 = some (cc PB).toArray := by rw [hW2, rowOf_setRow, if_pos rfl, S3]; rfl
            have HB2 : Below w.heap.size w W2 := by rw [hW2, hW1]; exact bsetRow (bsetRow HB (by omega) _) (by omega) _
            replace hW0 := Lib.hid hW0
            replace hW1 := Lib.hid hW1
            replace hW2 := Lib.hid hW2
            refine d_start 5 [W0, W1, W2] (by rw [hW0.out]; rfl) rfl (by kernel_rfl) ?_
            (refine d_quiet 0 (by kernel_rfl) rfl (fun K hK => ?_); refine d_rowK rfl _ _ rfl _ rfl _ t0 _ Try.underlying34 rfl (infoC PA) (hK _ ?_); clear hK K)
            (refine d_quiet 1 (by kernel_rfl) rfl (fun K hK => ?_); refine d_rowK rfl _ _ rfl _ rfl _ t1 _ Try.underlying34 rfl (infoC PB) (hK _ ?_); clear hK K)
            refine d_step 2 1 W0 W1 rfl rfl (by kernel_rfl) rfl rfl (fun K hK => Goes.to hW1.out (Goes.row rfl _ _ _ rfl _ rfl (cc PA).toArray rfl _ R2 (cc_size2 _ _) (infoC _) (cc_one _) (hK _ ?_)))
            refine d_step 3 2 W1 W2 rfl rfl (by kernel_rfl) rfl rfl (fun K hK => Goes.to hW2.out (Goes.row rfl _ _ _ rfl _ rfl (cc PB).toArray rfl _ S3 (cc_size2 _ _) (infoC _) (cc_one _) (hK _ ?_)))
            (refine d_quiet 4 (by kernel_rfl) rfl (fun K hK => ?_); go_simp; refine hK _ ?_; clear hK K)
            refine d_done (w := W2) rfl (by kernel_rfl) ?_
            go_wp2
            rw [HF.out]
            exact bodyPost_ret (results_cct rfl rfl rfl (loadVar_rowOf _ T2 _ Try.underlying34 rfl (infoC _)) (loadVar_rowOf _ T3 _ Try.underlying34 rfl (infoC _))) rfl ⟨rfl, HB2⟩
end Go.Proofs.Ytkpaijbjbbgpmaa
