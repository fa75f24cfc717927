/- Contracts of the functions on lists of swaps: SwapAll, CheckSwaps. -/
import Derived.Test.YthjfaggbkmchkaaSwapS
import Derived.Test.YthjfaggbkmchkaaKnow
namespace Go.Proofs.Ythjfaggbkmchkaa
open Go.RowKit
set_option linter.unusedVariables false
set_option linter.unusedSimpArgs false
set_option maxRecDepth 100000
set_option maxHeartbeats 1000000
attribute [local go_sem] Oper.qB Oper.qK
/-- A crate behind swaps; the code of swaps; what SwapAll and CheckSwaps come to. -/
def swL (c : Cr) (l : List Sw) : Cr := l.foldl swC c
def swapQ (v : Bool) (l : List Sw) : Int := if v = false then 1 else if 60 < l.length then 3 else if l.all Sw.ok = false then 2 else 0
def swAllR (c : Cr) (l : List Sw) : Cr × Int := if swapQ c.ok l = 0 then (swL c l, 0) else (zC, swapQ c.ok l)
def checkR (a b : Cr) (l : List Sw) : Bool × Int := if swapQ (a.ok && b.ok) l = 0 then (decide (swL a l = b), 0) else (false, swapQ (a.ok && b.ok) l)
theorem swL_step {c : Cr} {l : List Sw} {k : Nat} (hk : k < l.length) : swL c (l.take (k + 1)) = swC (swL c (l.take k)) l[k]! := by
  unfold swL
  rw [List.take_succ_eq_append_getElem hk, List.foldl_append, getB hk]
  rfl
theorem swapQ_ok {v : Bool} {l : List Sw} (h : swapQ v l = 0) : v = true ∧ l.length ≤ 60 ∧ l.all Sw.ok = true := by
  unfold swapQ at h
  split at h
  · simp at h
  · split at h
    · simp at h
    · split at h
      · simp at h
      · exact ⟨by simp_all, by omega, by simp_all⟩
theorem all_at {l : List Sw} (h : l.all Sw.ok = true) {k : Nat} (hk : k < l.length) : l[k]!.ok = true := by
  rw [List.all_eq_true] at h
  rw [getB hk]
  exact h _ (List.getElem_mem hk)
theorem swapCode1_any (s : Sw) (w : World) : Calls Try.prog 108 #[sv s] w fun e w' => e = .returned (.bool (!s.ok)) ∧ Below w.heap.size w w' := by
  go_enter Try.func108, Try.ntmps108
  go_upto_region 1 with fail
  generalize hW : World.alloc _ _ = W
  have H0 : Below w.heap.size w W := by rw [← hW]; go_grown
  have r0 : rowOf W (w.heap.size) = some (#[.int .i8 s.f, .int .i8 s.t]) := (by (try rw [← hW]); simp only [rowOf_alloc, World.size_alloc, ↓reduceIte]; all_goals ((repeat' split) <;> first | omega | (exfalso; omega) | rfl))
  clear hW
  have l0 : w.heap.size ≤ w.heap.size := Nat.le_refl _
  generalize h0 : w.heap.size = g0 at r0 ⊢
  replace l0 : w.heap.size ≤ g0 := Nat.le_of_eq h0
  clear h0
  have b0 := rowOf_lt r0
  have H := Below.refl W.heap.size W
  go_wp2_with (first | ((with_reducible refine wp_load_rowBg H ?_ _ _ rfl _ rfl _ r0 _ Try.underlying92 rfl (infoS _ _) ?_); rfl) | (go_at_call 109; with_reducible refine (isSwap_any s _).mono ?_; rintro e w' ⟨rfl, hb⟩; replace H := bstep H hb; clear hb; have hc := bcell H))
  go_ret
  exact ⟨rfl, bstep H0 H⟩
theorem swapOk_pays (w : World) : PredBelow Try.prog 108 #[] (fun x : Sw => .agg (sc x).toArray) (fun x => !x.ok) w :=
  fun W x hb => (swapCode1_any x W).mono fun _ _ ⟨he, h⟩ => ⟨he, hb.trans (h.mono hb.size)⟩
theorem ContainsFunc_swap (b off c : Nat) (l : List Sw) (w : World) (hm : l.length ≤ 1000000000) (hC : CAt w b off (fl sc l)) (hb : b < w.heap.size) :
    Calls Try.prog 107 #[.slice (some ⟨b, off, none⟩) l.length c, .func (.func 108) #[] #[]] w fun e w' => e = .returned (.bool (!l.all Sw.ok)) ∧ Below w.heap.size w w' := by
  have := AnyQ.slices_ContainsFunc Try.lx107 2 Try.isAgg92 Try.sizeOf92 sc sc_length (fun x => !x.ok) 108 #[] (enters_of Try.func108 (by kernel_rfl) rfl) b off l.length c l w (swapOk_pays w) (Nat.le_refl _) (by omega) hb (fun j hj i v hv => by have := hC.el sc_length hj i v hv; rwa [Nat.add_assoc] at this ⊢)
  rw [List.take_length] at this
  rwa [show (l.any fun x => !x.ok) = !l.all Sw.ok by rw [List.not_all_eq_any_not]] at this
theorem swapCode_any (v : Bool) (b off c : Nat) (l : List Sw) (w : World) (hm : l.length ≤ 1000000000) (hC : CAt w b off (fl sc l)) (hb : b < w.heap.size) :
    Calls Try.prog 70 #[.bool v, .slice (some ⟨b, off, none⟩) l.length c] w fun e w' => e = .returned (.int .i64 (swapQ v l)) ∧ Below w.heap.size w w' := by
  have hF := ContainsFunc_swap b off c l w hm hC hb
  cases v with
  | false =>
    have HF := Lib.hid (show swapQ false l = 1 by simp [swapQ])
    go_enter Try.func70, Try.ntmps70
    go_wp2
    go_ret
    exact ⟨ret_int HF.out.symm, Below.refl _ _⟩
  | true =>
    by_cases h1 : 60 < l.length
    · have HF := Lib.hid (show swapQ true l = 3 by simp [swapQ, h1])
      have h2 : (60 : Int) < (l.length : Int) := by omega
      go_enter Try.func70, Try.ntmps70
      go_wp2
      go_ret
      exact ⟨ret_int HF.out.symm, Below.refl _ _⟩
    · have HF := Lib.hid (show swapQ true l = if l.all Sw.ok = false then 2 else 0 by simp [swapQ, h1])
      have h2 : ¬ (60 : Int) < (l.length : Int) := by omega
      generalize l.all Sw.ok = r at hF HF
      cases r
      all_goals
        go_enter Try.func70, Try.ntmps70
        go_wp2_with (go_at_call 107; refine hF.mono ?_; rintro e w' ⟨rfl, hb1⟩)
        go_ret
        exact ⟨ret_int HF.out.symm, hb1⟩
theorem swappedAll_any (c : Cr) (b off cp : Nat) (l : List Sw) (w : World) (hm : l.length ≤ 1048576) (hC : CAt w b off (fl sc l)) (hb : b < w.heap.size) (hall : l.all Sw.ok = true) :
    Calls Try.prog 72 #[cv c, .slice (some ⟨b, off, none⟩) l.length cp] w fun e w' => e = .returned (cv (swL c l)) ∧ Below w.heap.size w w' := by
  have HC := Lib.hid (⟨hC, hb⟩ : _ ∧ _)
  replace hall := Lib.hid hall
  clear hC hb
  go_enter Try.func72, Try.ntmps72
  go_upto_region 1 with fail
  generalize hW : World.alloc _ _ = W
  have H0 : Below w.heap.size w W := by rw [← hW]; go_grown
  have r0 : rowOf W (w.heap.size) = some ((cc c).toArray) := (by (try rw [← hW]); simp only [rowOf_alloc, World.size_alloc, ↓reduceIte]; all_goals ((repeat' split) <;> first | omega | (exfalso; omega) | rfl))
  have r1 : rowOf W (w.heap.size + 1) = some ((cc zC).toArray) := (by (try rw [← hW]); simp only [rowOf_alloc, World.size_alloc, ↓reduceIte]; all_goals ((repeat' split) <;> first | omega | (exfalso; omega) | rfl))
  clear hW
  have q0 : w.heap.size < w.heap.size + 1 := by omega
  have l0 : w.heap.size ≤ w.heap.size := Nat.le_refl _
  generalize w.heap.size + 1 = g1 at r1 q0 ⊢
  generalize h0 : w.heap.size = g0 at r0 q0 ⊢
  replace l0 : w.heap.size ≤ g0 := Nat.le_of_eq h0
  clear h0
  have b0 := rowOf_lt r0
  have b1 := rowOf_lt r1
  have H := Below.refl W.heap.size W
  clear H
  go_wp2
  go_loopw [9] (fun i wr => ∃ k : Nat, k ≤ l.length ∧ i = .int .i64 k ∧ Below w.heap.size w wr ∧ Hid (rowOf wr g0 = some (cc (swL c (l.take k))).toArray ∧ rowOf wr g1 = some (cc zC).toArray)) (fun i _ => l.length - (intOf i).toNat)
  case atStart => exact ⟨0, Nat.zero_le _, rfl, H0, r0, r1⟩
  case round =>
    clear r0 r1 H0
    obtain ⟨k, hk, rfl, hb, HR⟩ := hrel
    by_cases hlt : k < l.length
    · have HX := (HC.out.1.below hb HC.out.2).el sc_length hlt
      have HS := Lib.hid (@swL_step c l k hlt)
      have hok := all_at hall.out hlt
      have hlt2 : (k : Int) < (l.length : Int) := by omega
      generalize l[k]! = x at HX HS hok
      have p0 : wr.cell? ⟨b, off + k * 2, none⟩ = some (.int .i8 x.f) := HX 0 _ rfl
      have p1 : wr.cell? ⟨b, off + k * 2 + 1, none⟩ = some (.int .i8 x.t) := HX 1 _ rfl
      clear HX
      go_upto_region 4 with fail
      generalize hW1 : World.alloc _ _ = W1
      have hg : Below wr.heap.size wr W1 := by rw [← hW1]; go_grown
      have r6 : rowOf W1 wr.heap.size = some (#[.int .i8 x.f, .int .i8 x.t] : Array Value) := by rw [← hW1, rowOf_alloc, if_pos rfl]
      have r0 := row_kept HR.out.1 hg
      have r1 := row_kept HR.out.2 hg
      have hb1 := bstep hb hg
      clear hW1 p0 p1 HR hb hg
      generalize wr.heap.size = g6 at r6 ⊢
      have H := Below.refl W1.heap.size W1
      generalize swL c (l.take k) = X at r0 HS
      go_wp2_with (first | ((with_reducible refine wp_load_rowBg H ?_ _ _ rfl _ rfl _ r0 _ Try.underlying39 rfl (infoC X) ?_); rfl) | ((with_reducible refine wp_load_rowBg H ?_ _ _ rfl _ rfl _ r6 _ Try.underlying92 rfl (infoS _ _) ?_); rfl) | (go_at_call 78; with_reducible refine (swapped_any X x hok _).mono ?_; rintro e w' ⟨rfl, hb⟩; replace H := bstep H hb; clear hb; have hc := bcell H) | (with_reducible refine wp_store_rowB H rfl rfl _ _ _ rfl _ rfl _ rfl _ r0 (cc_size2 _ _) (infoC _) (cc_one _) ?_))
      go_roundw
      case rel =>
        refine ⟨k + 1, by omega, by go_num, bsetRow (bstep hb1 H) (by omega) _, ?_⟩
        rw [HS.out]
        exact ⟨by rw [rowOf_setRow, if_pos rfl, row_kept r0 H]; rfl, (rowOf_setRow_ne (by omega)).trans (row_kept r1 H)⟩
      case measure => simp [intOf]; omega
    · obtain rfl : k = l.length := by omega
      rw [List.take_length] at HR
      have r0 := HR.out.1
      have r1 := HR.out.2
      clear HR
      have H := Below.refl wr.heap.size wr
      generalize hX : swL c l = X at r0
      replace hX := Lib.hid hX
      go_wp2_with (first | ((with_reducible refine wp_load_rowBg H ?_ _ _ rfl _ rfl _ r0 _ Try.underlying39 rfl (infoC X) ?_); rfl) | (with_reducible refine wp_store_rowB H rfl rfl _ _ _ rfl _ rfl _ rfl _ r1 (cc_size2 _ _) (infoC _) (cc_one _) ?_))
      rw [hX.out]
      exact bodyPost_ret (results_c rfl rfl (loadVar_rowOf (cc X).toArray (by rw [rowOf_setRow, if_pos rfl, r1]; rfl) _ Try.underlying39 rfl (infoC _))) rfl ⟨rfl, bsetRow hb (by omega) _⟩
/-- The first one that is no swap. -/
theorem first_bad (l : List Sw) (h : l.all Sw.ok = false) : ∃ k, k < l.length ∧ l[k]!.ok = false ∧ ∀ j, j < k → l[j]!.ok = true := by
  induction l with
  | nil => simp at h
  | cons x l ih =>
    cases hx : x.ok with
    | false => exact ⟨0, by simp, by simpa using hx, fun j hj => absurd hj (Nat.not_lt_zero _)⟩
    | true =>
      obtain ⟨k, hk, h1, h2⟩ := ih (by simpa [hx] using h)
      refine ⟨k + 1, by simpa using hk, by simpa using h1, fun j hj => ?_⟩
      cases j with
      | zero => simpa using hx
      | succ j => simpa using h2 j (by omega)
theorem l03All_any (c : Cr) (b off cp : Nat) (l : List Sw) (w : World) (hm : l.length ≤ 1048576) (hC : CAt w b off (fl sc l)) (hb : b < w.heap.size) :
    Calls Try.prog 67 #[cv c, .slice (some ⟨b, off, none⟩) l.length cp] w fun e w' => e = .returned (.tuple #[cv (swAllR c l).1, .int .i64 (swAllR c l).2]) ∧ Below w.heap.size w w' := by
  have HC := Lib.hid (⟨hC, hb⟩ : _ ∧ _)
  clear hC hb
  go_enter Try.func67, Try.ntmps67
  go_upto_region 1 with fail
  generalize hW : World.alloc _ _ = W
  have H0 : Below w.heap.size w W := by rw [← hW]; go_grown
  have r0 : rowOf W (w.heap.size) = some ((cc c).toArray) := (by (try rw [← hW]); simp only [rowOf_alloc, World.size_alloc, ↓reduceIte]; all_goals ((repeat' split) <;> first | omega | (exfalso; omega) | rfl))
  have r1 : rowOf W (w.heap.size + 1) = some ((cc zC).toArray) := (by (try rw [← hW]); simp only [rowOf_alloc, World.size_alloc, ↓reduceIte]; all_goals ((repeat' split) <;> first | omega | (exfalso; omega) | rfl))
  clear hW
  have q0 : w.heap.size < w.heap.size + 1 := by omega
  have l0 : w.heap.size ≤ w.heap.size := Nat.le_refl _
  generalize w.heap.size + 1 = g1 at r1 q0 ⊢
  generalize h0 : w.heap.size = g0 at r0 q0 ⊢
  replace l0 : w.heap.size ≤ g0 := Nat.le_of_eq h0
  clear h0
  have b0 := rowOf_lt r0
  have b1 := rowOf_lt r1
  have H := Below.refl W.heap.size W
  cases e1 : c.ok with
  | false =>
    have HF := Lib.hid (show swAllR c l = (zC, 1) by simp [swAllR, swapQ, e1])
    go_wp2_with (first | (go_at_call 75; with_reducible refine (l01Ok_row H r0).mono ?_; rintro e w' ⟨rfl, hb⟩; replace H := bstep H hb; clear hb; have hc := bcell H) | (with_reducible refine wp_store_zeroB H rfl rfl _ _ rfl _ rfl rfl _ r1 ?_))
    rw [HF.out]
    refine bodyPost_ret (results_ct rfl rfl (loadVar_rowOf (cc zC).toArray (by rw [rowOf_setRow, if_pos rfl, rowOf_below H (rowOf_lt r1), r1]; rfl) _ Try.underlying39 rfl (infoC _))) rfl ⟨rfl, bsetRow (bstep H0 H) (by omega) _⟩
  | true =>
    by_cases h60 : 60 < l.length
    · have HF := Lib.hid (show swAllR c l = (zC, 3) by simp [swAllR, swapQ, e1, h60])
      have h61 : (60 : Int) < (l.length : Int) := by omega
      go_wp2_with (first | (go_at_call 75; with_reducible refine (l01Ok_row H r0).mono ?_; rintro e w' ⟨rfl, hb⟩; replace H := bstep H hb; clear hb; have hc := bcell H) | (with_reducible refine wp_store_zeroB H rfl rfl _ _ rfl _ rfl rfl _ r1 ?_))
      rw [HF.out]
      refine bodyPost_ret (results_ct rfl rfl (loadVar_rowOf (cc zC).toArray (by rw [rowOf_setRow, if_pos rfl, rowOf_below H (rowOf_lt r1), r1]; rfl) _ Try.underlying39 rfl (infoC _))) rfl ⟨rfl, bsetRow (bstep H0 H) (by omega) _⟩
    · have HF := Lib.hid (show swAllR c l = if l.all Sw.ok = true then (swL c l, 0) else (zC, 2) by cases h : l.all Sw.ok <;> simp [swAllR, swapQ, e1, h60, h])
      have h61 : ¬ (60 : Int) < (l.length : Int) := by omega
      go_upto_region 5 with (go_at_call 75; with_reducible refine (l01Ok_row H r0).mono ?_; rintro e w' ⟨rfl, hb⟩; replace H := bstep H hb; clear hb; have hc := bcell H)
      clear hc
      replace r0 := row_kept r0 H
      replace r1 := row_kept r1 H
      replace H0 := bstep H0 H
      replace H := below_self H
      clear H e1
      go_wp2
      go_loopw [6] (fun i wr => ∃ k : Nat, k ≤ l.length ∧ i = .int .i64 k ∧ Below w.heap.size w wr ∧ Hid ((∀ j, j < k → l[j]!.ok = true) ∧ rowOf wr g0 = some (cc (swL c (l.take k))).toArray ∧ rowOf wr g1 = some (cc zC).toArray)) (fun i _ => l.length - (intOf i).toNat)
      case atStart => exact ⟨0, Nat.zero_le _, rfl, H0, fun j hj => absurd hj (Nat.not_lt_zero _), r0, r1⟩
      case round =>
        clear r0 r1 H0
        obtain ⟨k, hk, rfl, hb, HR⟩ := hrel
        by_cases hlt : k < l.length
        · have HX := (HC.out.1.below hb HC.out.2).el sc_length hlt
          have HG := Lib.hid (Nat.lt_of_lt_of_le HC.out.2 hb.size)
          have HS := Lib.hid (@swL_step c l k hlt)
          have HN : Hid (l[k]!.ok = true → ∀ j, j < k + 1 → l[j]!.ok = true) := fun h j hj => by
            rcases Nat.lt_or_ge j k with h' | h'
            · exact HR.out.1 j h'
            · rwa [show j = k by omega]
          have HZ : Hid (l[k]!.ok = false → l.all Sw.ok = false) := fun h => by
            rw [List.all_eq_false]
            exact ⟨_, List.getElem_mem hlt, by rw [← getB hlt, h]; simp⟩
          have hlt2 : (k : Int) < (l.length : Int) := by omega
          generalize l[k]! = x at HX HS HN HZ
          replace HX := Lib.hid HX
          have p0 : wr.cell? ⟨b, off + k * 2, none⟩ = some (.int .i8 x.f) := HX.out 0 _ rfl
          have p1 : wr.cell? ⟨b, off + k * 2 + 1, none⟩ = some (.int .i8 x.t) := HX.out 1 _ rfl
          cases hok : x.ok with
          | false =>
            have HF' := Lib.hid (HF.out.trans (if_neg (by rw [HZ.out hok]; simp)))
            have r1 := HR.out.2.2
            have H := Below.refl wr.heap.size wr
            have H0 := hb
            go_wp2_with (first | (go_at_call 105; with_reducible refine (l03Can_any x _).mono ?_; rintro e w' ⟨rfl, hb⟩; replace H := bstep H hb; clear hb; have hc := bcell H) | (with_reducible refine wp_store_zeroB H rfl rfl _ _ rfl _ rfl rfl _ r1 ?_))
            rw [HF'.out]
            refine bodyPost_ret (results_ct rfl rfl (loadVar_rowOf (cc zC).toArray (by rw [rowOf_setRow, if_pos rfl, rowOf_below H (rowOf_lt r1), r1]; rfl) _ Try.underlying39 rfl (infoC _))) rfl ⟨rfl, bsetRow (bstep H0 H) (by omega) _⟩
          | true =>
            have HN' := Lib.hid (HN.out hok)
            have r0 := HR.out.2.1
            have r1 := HR.out.2.2
            have H := Below.refl wr.heap.size wr
            clear HN HZ HR
            generalize swL c (l.take k) = X at r0 HS
            go_upto_region 10 with (go_at_call 105; with_reducible refine (l03Can_any x _).mono ?_; rintro e w' ⟨rfl, hb⟩; replace H := bstep H hb; clear hb; have hc := bcell H)
            clear hc p0 p1
            have C := HX.out.below H HG.out
            replace r0 := row_kept r0 H
            replace r1 := row_kept r1 H
            have hb1 := bstep hb H
            have hgb := Nat.lt_of_lt_of_le HG.out H.size
            clear H HX HG hb
            have hq0 := (Below.refl w'.heap.size w').drew
            refine k_start (fun j => j == 6) ⟨fun w => Below w'.heap.size w' w, fun w w' h hb => bstep h hb⟩ hq0 7 rfl (by kernel_rfl) ?_
            haveI : Nonempty {w : World // Fact.p ⟨fun w => Below w'.heap.size w' w, fun w w' h hb => bstep h hb⟩ w} := ⟨⟨_, hq0⟩⟩
            have q0 : ∀ p : {w : World // Fact.p ⟨fun w => Below w'.heap.size w' w, fun w w' h hb => bstep h hb⟩ w}, p.1.cell? ⟨b, off + k * 2, none⟩ = some (.int .i8 x.f) := fun p => (p.2.cell (p := ⟨b, off + k * 2, none⟩) hgb).trans (C 0 _ rfl)
            have q1 : ∀ p : {w : World // Fact.p ⟨fun w => Below w'.heap.size w' w, fun w w' h hb => bstep h hb⟩ w}, p.1.cell? ⟨b, off + k * 2 + 1, none⟩ = some (.int .i8 x.t) := fun p => (p.2.cell (p := ⟨b, off + k * 2 + 1, none⟩) hgb).trans (C 1 _ rfl)
            (refine k_quiet 0 (by kernel_rfl) rfl (fun K hK => ?_); first | ((first | (refine qK_row rfl _ _ rfl _ rfl _ (fun w h => row_kept r0 h) _ Try.underlying39 rfl (infoC X) (hK _ ?_))); clear hK K) | (go_simp; first | (refine hK _ ?_; clear hK K) | (apply Exists.intro; refine ⟨?_, hK _ ?_⟩; (intros; first | (go_at_call 106 <;> exact l03Swapped_any X x hok _)); clear hK K)))
            (refine k_quiet 1 (by kernel_rfl) rfl (fun K hK => ?_); first | ((first | (refine qK_row rfl _ _ rfl _ rfl _ (fun w h => row_kept r0 h) _ Try.underlying39 rfl (infoC X) (hK _ ?_))); clear hK K) | (go_simp; first | (refine hK _ ?_; clear hK K) | (apply Exists.intro; refine ⟨?_, hK _ ?_⟩; (intros; first | (go_at_call 106 <;> exact l03Swapped_any X x hok _)); clear hK K)))
            (refine k_quiet 2 (by kernel_rfl) rfl (fun K hK => ?_); first | ((first | (refine qK_row rfl _ _ rfl _ rfl _ (fun w h => row_kept r0 h) _ Try.underlying39 rfl (infoC X) (hK _ ?_))); clear hK K) | (go_simp; first | (refine hK _ ?_; clear hK K) | (apply Exists.intro; refine ⟨?_, hK _ ?_⟩; (intros; first | (go_at_call 106 <;> exact l03Swapped_any X x hok _)); clear hK K)))
            (refine k_quiet 3 (by kernel_rfl) rfl (fun K hK => ?_); first | ((first | (refine qK_row rfl _ _ rfl _ rfl _ (fun w h => row_kept r0 h) _ Try.underlying39 rfl (infoC X) (hK _ ?_))); clear hK K) | (go_simp; first | (refine hK _ ?_; clear hK K) | (apply Exists.intro; refine ⟨?_, hK _ ?_⟩; (intros; first | (go_at_call 106 <;> exact l03Swapped_any X x hok _)); clear hK K)))
            (refine k_quiet 4 (by kernel_rfl) rfl (fun K hK => ?_); first | ((first | (refine qK_row rfl _ _ rfl _ rfl _ (fun w h => row_kept r0 h) _ Try.underlying39 rfl (infoC X) (hK _ ?_))); clear hK K) | (go_simp; first | (refine hK _ ?_; clear hK K) | (apply Exists.intro; refine ⟨?_, hK _ ?_⟩; (intros; first | (go_at_call 106 <;> exact l03Swapped_any X x hok _)); clear hK K)))
            (refine k_quiet 5 (by kernel_rfl) rfl (fun K hK => ?_); first | ((first | (refine qK_row rfl _ _ rfl _ rfl _ (fun w h => row_kept r0 h) _ Try.underlying39 rfl (infoC X) (hK _ ?_))); clear hK K) | (go_simp; first | (refine hK _ ?_; clear hK K) | (apply Exists.intro; refine ⟨?_, hK _ ?_⟩; (intros; first | (go_at_call 106 <;> exact l03Swapped_any X x hok _)); clear hK K)))
            refine k_alone 6 (by kernel_rfl) rfl rfl (fun K hK wx hwx => ?_)
            refine k_store_row ⟨fun w1 => Below w.heap.size w w1 ∧ rowOf w1 g0 = some (cc (swC X x)).toArray ∧ rowOf w1 g1 = some (cc zC).toArray, fun w1 w2 h hb => ⟨bstep h.1 hb, row_kept h.2.1 hb, row_kept h.2.2 hb⟩⟩ hwx rfl _ _ _ rfl _ rfl (cc (swC X x)).toArray rfl (infoC _) (fun w1 h => ⟨_, row_kept r0 h, cc_size2 _ _⟩) (cc_one _) (fun w1 h => ⟨bsetRow (bstep hb1 h) (by omega) _, by rw [rowOf_setRow, if_pos rfl, row_kept r0 h]; rfl, (rowOf_setRow_ne (by omega)).trans (row_kept r1 h)⟩) (hK _ _ ?_)
            refine k_done (by kernel_rfl) ?_
            rintro w3 ⟨h1, h2, h3⟩
            go_wp2
            go_roundw
            case rel =>
              refine ⟨k + 1, by omega, by go_num, h1, HN'.out, ?_, h3⟩
              rw [HS.out]
              exact h2
            case measure => simp [intOf]; omega
        · obtain rfl : k = l.length := by omega
          have hall : l.all Sw.ok = true := by
            cases h : l.all Sw.ok with
            | true => rfl
            | false =>
              obtain ⟨j, hj, h1, -⟩ := first_bad l h
              have := HR.out.1 j hj
              rw [h1] at this
              cases this
          have HF' := Lib.hid (HF.out.trans (if_pos hall))
          rw [List.take_length] at HR
          have r0 := HR.out.2.1
          have r1 := HR.out.2.2
          clear HR hall
          have H := Below.refl wr.heap.size wr
          have H0 := hb
          generalize swL c l = X at *
          go_wp2_with (first | ((with_reducible refine wp_load_rowBg H ?_ _ _ rfl _ rfl _ r0 _ Try.underlying39 rfl (infoC X) ?_); rfl) | (with_reducible refine wp_store_rowB H rfl rfl _ _ _ rfl _ rfl _ rfl _ r1 (cc_size2 _ _) (infoC _) (cc_one _) ?_))
          rw [HF'.out]
          refine bodyPost_ret (results_ct rfl rfl (loadVar_rowOf (cc X).toArray (by rw [rowOf_setRow, if_pos rfl, rowOf_below H (rowOf_lt r1), r1]; rfl) _ Try.underlying39 rfl (infoC _))) rfl ⟨rfl, bsetRow (bstep H0 H) (by omega) _⟩
theorem SwapAll_any (c : Cr) (gl off cp : Nat) (l : List Sw) (w : World) (hm : l.length ≤ 1048576) (hC : CAt w gl off (fl sc l)) (hb : gl < w.heap.size) :
    Calls Try.prog 26 #[cv c, .slice (some ⟨gl, off, none⟩) l.length cp] w fun e w' => e = .returned (.tuple #[cv (swAllR c l).1, .int .i64 (swAllR c l).2]) ∧ Below w.heap.size w w' := by
  go_enter Try.func26, Try.ntmps26
  go_upto_region 1 with fail
  generalize hW : World.alloc _ _ = W
  have H0 : Below w.heap.size w W := by rw [← hW]; go_grown
  have r0 : rowOf W (w.heap.size) = some ((cc c).toArray) := (by (try rw [← hW]); simp only [rowOf_alloc, World.size_alloc, ↓reduceIte]; all_goals ((repeat' split) <;> first | omega | (exfalso; omega) | rfl))
  have r1 : rowOf W (w.heap.size + 1) = some ((cc zC).toArray) := (by (try rw [← hW]); simp only [rowOf_alloc, World.size_alloc, ↓reduceIte]; all_goals ((repeat' split) <;> first | omega | (exfalso; omega) | rfl))
  clear hW
  have q0 : w.heap.size < w.heap.size + 1 := by omega
  have l0 : w.heap.size ≤ w.heap.size := Nat.le_refl _
  generalize w.heap.size + 1 = g1 at r1 q0 ⊢
  generalize h0 : w.heap.size = g0 at r0 q0 ⊢
  replace l0 : w.heap.size ≤ g0 := Nat.le_of_eq h0
  clear h0
  have b0 := rowOf_lt r0
  have b1 := rowOf_lt r1
  have H := Below.refl W.heap.size W
  have HC := Lib.hid (⟨hC.below H0 hb, Nat.lt_of_lt_of_le hb H0.size⟩ : CAt W gl off (fl sc l) ∧ gl < W.heap.size)
  clear hC hb
  have HG := Lib.hid (show swAllR c l = if swapQ c.ok l = 0 then (swL c l, 0) else (zC, swapQ c.ok l) from rfl)
  generalize hv : c.ok = v at HG
  replace hv := Lib.hid hv
  by_cases hq : swapQ v l = 0
  · have HF := Lib.hid (HG.out.trans (if_pos hq))
    go_upto_region 4 with (first | ((with_reducible refine wp_load_rowBg H ?_ _ _ rfl _ rfl _ r0 _ Try.underlying39 rfl (infoC c) ?_); rfl) | (go_at_call 71; refine (ValidCrate_any c _).mono ?_; rintro e w' ⟨rfl, hb⟩; rw [hv.out]; replace H := bstep H hb; clear hb) | (go_at_call 70; refine (swapCode_any v gl off cp l _ (by omega) (HC.out.1.below H HC.out.2) (Nat.lt_of_lt_of_le HC.out.2 H.size)).mono ?_; rintro e w1 ⟨rfl, hb⟩; rw [hq]; replace H := bstep H hb; clear hb))
    go_wp2_with (first | ((with_reducible refine wp_load_rowBg H ?_ _ _ rfl _ rfl _ r0 _ Try.underlying39 rfl (infoC c) ?_); rfl) | (go_at_call 72; with_reducible refine (swappedAll_any c gl off cp l _ hm (HC.out.1.below H HC.out.2) (Nat.lt_of_lt_of_le HC.out.2 H.size) (swapQ_ok hq).2.2).mono ?_; rintro e w' ⟨rfl, hb⟩; replace H := bstep H hb; clear hb; have hc := bcell H) | (with_reducible refine wp_store_rowB H rfl rfl _ _ _ rfl _ rfl _ rfl _ r1 (cc_size2 _ _) (infoC _) (cc_one _) ?_))
    rw [HF.out]
    refine bodyPost_ret (results_ct rfl rfl (loadVar_rowOf (cc (swL c l)).toArray (by rw [rowOf_setRow, if_pos rfl, rowOf_below H (rowOf_lt r1), r1]; rfl) _ Try.underlying39 rfl (infoC _))) rfl ⟨rfl, bsetRow (bstep H0 H) (by omega) _⟩
  · have HF := Lib.hid (HG.out.trans (if_neg hq))
    go_wp2_with (first | ((with_reducible refine wp_load_rowBg H ?_ _ _ rfl _ rfl _ r0 _ Try.underlying39 rfl (infoC c) ?_); rfl) | (go_at_call 71; refine (ValidCrate_any c _).mono ?_; rintro e w' ⟨rfl, hb⟩; rw [hv.out]; replace H := bstep H hb; clear hb) | (go_at_call 70; refine (swapCode_any v gl off cp l _ (by omega) (HC.out.1.below H HC.out.2) (Nat.lt_of_lt_of_le HC.out.2 H.size)).mono ?_; rintro e w1 ⟨rfl, hb⟩; replace H := bstep H hb; clear hb) | (with_reducible refine wp_store_zeroB H rfl rfl _ _ rfl _ rfl rfl _ r1 ?_))
    rw [HF.out]
    refine bodyPost_ret (results_ct rfl rfl (loadVar_rowOf (cc zC).toArray (by rw [rowOf_setRow, if_pos rfl, rowOf_below H (rowOf_lt r1), r1]; rfl) _ Try.underlying39 rfl (infoC _))) rfl ⟨rfl, bsetRow (bstep H0 H) (by omega) _⟩
theorem sSwapAll_any (c : Cr) (gl off cp : Nat) (l : List Sw) (w : World) (hm : l.length ≤ 1048576) (hC : CAt w gl off (fl sc l)) (hb : gl < w.heap.size) :
    Calls Try.prog 23 #[cv c, .slice (some ⟨gl, off, none⟩) l.length cp] w fun e w' => e = .returned (.tuple #[cv (swAllR c l).1, .int .i64 (swAllR c l).2]) ∧ Below w.heap.size w w' := by
  have hA := fun W h1 h2 => l03All_any c gl off cp l W hm h1 h2
  generalize swAllR c l = z at hA ⊢
  obtain ⟨X, n⟩ := z
  go_enter Try.func23, Try.ntmps23
  go_upto_region 1 with fail
  generalize hW : World.alloc _ _ = W
  have H0 : Below w.heap.size w W := by rw [← hW]; go_grown
  have r0 : rowOf W (w.heap.size) = some ((cc c).toArray) := (by (try rw [← hW]); simp only [rowOf_alloc, World.size_alloc, ↓reduceIte]; all_goals ((repeat' split) <;> first | omega | (exfalso; omega) | rfl))
  have r1 : rowOf W (w.heap.size + 1) = some ((cc zC).toArray) := (by (try rw [← hW]); simp only [rowOf_alloc, World.size_alloc, ↓reduceIte]; all_goals ((repeat' split) <;> first | omega | (exfalso; omega) | rfl))
  clear hW
  have q0 : w.heap.size < w.heap.size + 1 := by omega
  have l0 : w.heap.size ≤ w.heap.size := Nat.le_refl _
  generalize w.heap.size + 1 = g1 at r1 q0 ⊢
  generalize h0 : w.heap.size = g0 at r0 q0 ⊢
  replace l0 : w.heap.size ≤ g0 := Nat.le_of_eq h0
  clear h0
  have b0 := rowOf_lt r0
  have b1 := rowOf_lt r1
  have H := Below.refl W.heap.size W
  replace hA := hA W (hC.below H0 hb) (Nat.lt_of_lt_of_le hb H0.size)
  go_wp2_with (first | ((with_reducible refine wp_load_rowBg H ?_ _ _ rfl _ rfl _ r0 _ Try.underlying39 rfl (infoC c) ?_); rfl) | (go_at_call 67; refine hA.mono ?_; rintro e w1 ⟨rfl, hb1⟩; replace H := bstep H hb1; clear hb1) | (with_reducible refine wp_store_rowB H rfl rfl _ _ _ rfl _ rfl _ rfl _ r1 (cc_size2 _ _) (infoC _) (cc_one _) ?_))
  refine bodyPost_ret (results_ct rfl rfl (loadVar_rowOf (cc X).toArray (by rw [rowOf_setRow, if_pos rfl, rowOf_below H (rowOf_lt r1), r1]; rfl) _ Try.underlying39 rfl (infoC _))) rfl ⟨rfl, bsetRow (bstep H0 H) (by omega) _⟩
end Go.Proofs.Ythjfaggbkmchkaa
