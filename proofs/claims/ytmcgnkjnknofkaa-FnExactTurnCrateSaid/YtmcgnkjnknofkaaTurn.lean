/- Contracts of TurnCrate: a crate backwards. -/
import Derived.Test.YtmcgnkjnknofkaaFunc
import Derived.Test.YtmcgnkjnknofkaaTail
namespace Go.Proofs.Ytmcgnkjnknofkaa
open Go.RowKit
set_option linter.unusedVariables false
set_option linter.unusedSimpArgs false
set_option maxRecDepth 100000
set_option maxHeartbeats 1000000
/-- A crate backwards. -/
def revC (c : Cr) : Cr := ⟨c.toList.reverse.toArray, by simp⟩
theorem revC_toList (c : Cr) : (revC c).toList = c.toList.reverse := rfl
/-- The first k bottles, from the last place back. -/
def backs (l : List Bt) (k : Nat) : List Bt := List.replicate (12 - k) zB ++ (l.take k).reverse
theorem backs_zero (l : List Bt) : backs l 0 = zC.toList := by simp [backs, zC]
theorem backs_full {l : List Bt} (h : l.length = 12) : backs l 12 = l.reverse := by simp [backs, List.take_of_length_le (Nat.le_of_eq h)]
theorem backs_length {l : List Bt} {k : Nat} (h : k ≤ l.length) (h12 : k ≤ 12) : (backs l k).length = 12 := by simp [backs]; omega
theorem backs_set {l : List Bt} {k : Nat} (h : k < l.length) (h12 : k < 12) : (backs l k).set (11 - k) (rB l k) = backs l (k + 1) := by
  have e : 12 - k = (11 - k) + 1 := by omega
  unfold backs
  rw [e, List.replicate_succ', List.take_succ_eq_append_getElem h, ← rB_lt h, List.reverse_append, List.append_assoc]
  rw [List.set_append_right _ _ (by simp), List.length_replicate, Nat.sub_self, show 12 - (k + 1) = 11 - k by omega]
  simp
theorem rowOf_put {w : World} {g n : Nat} {cs F : Array Value} (h : rowOf w g = some cs) (hs : cs.size = F.size) :
    rowOf (Sort.putRow id (Sort.ahead w n) g 0 F) g = some F ∧ (∀ B, B ≤ g → Below B w (Sort.putRow id (Sort.ahead w n) g 0 F)) ∧ ∀ k, k ≠ g → rowOf (Sort.putRow id (Sort.ahead w n) g 0 F) k = rowOf w k := by
  obtain ⟨t, ht⟩ := rowOf_some h
  have e : Sort.putCells id 0 F cs = F := by
    apply Array.ext
    · simp [Sort.putCells, hs]
    · intro i h1 h2
      simp [Sort.putCells, h2]
  refine ⟨?_, ?_, ?_⟩
  · refine rowOf_of (t := t) ?_
    simp only [Sort.putRow, Sort.mapBlock, Sort.ahead, Array.getElem?_modify, if_true, ht, Option.map_some, Sort.onCells, e]
  · intro B hB
    refine ⟨rfl, rfl, rfl, by simp [Sort.putRow, Sort.mapBlock, Sort.ahead], fun k hk => ?_⟩
    simp only [Sort.putRow, Sort.mapBlock, Sort.ahead, Array.getElem?_modify]
    rw [if_neg (by omega)]
  · intro k hk
    unfold rowOf
    simp only [Sort.putRow, Sort.mapBlock, Sort.ahead, Array.getElem?_modify]
    rw [if_neg (Ne.symm hk)]
theorem flat_bcs (l : List Bt) : Sort.flatK bc 2 l.toArray = (bcs l).toArray := by
  apply Array.ext
  · simp [bcs_length]; omega
  · intro i h1 h2
    simp only [List.size_toArray, bcs_length] at h2
    have hi : i / 2 < l.length := by omega
    obtain ⟨a0, a1⟩ := bcs_at l (i / 2) hi
    have hg : l.toArray[i / 2]! = rB l (i / 2) := by rw [rB_lt hi]; simp [hi]
    have h0 := Sort.get_flatK bc 2 l.toArray i (by simp; omega)
    rw [getElem!_pos _ i h1, hg] at h0
    rw [h0]
    rcases Nat.mod_two_eq_zero_or_one i with h | h
    · rw [h]
      have : i = i / 2 * 2 := by omega
      have e : (bcs l)[i]? = some (.int .u8 (rB l (i / 2)).k) := by rw [← a0]; congr 1
      simp only [List.getElem_toArray]
      rw [List.getElem?_eq_getElem (by rw [bcs_length]; omega)] at e
      simp only [Option.some.injEq] at e
      rw [e]
      rfl
    · rw [h]
      have : i = i / 2 * 2 + 1 := by omega
      have e : (bcs l)[i]? = some (.int .i16 (rB l (i / 2)).y) := by rw [← a1]; congr 1
      simp only [List.getElem_toArray]
      rw [List.getElem?_eq_getElem (by rw [bcs_length]; omega)] at e
      simp only [Option.some.injEq] at e
      rw [e]
      rfl
def turnR (c : Cr) : Cr × Int := if c.ok = true then (revC c, 0) else (zC, 1)
theorem Reverse_row {w : World} {g cap : Nat} {c : Cr} (hr : rowOf w g = some (cc c).toArray) :
    Calls Try.prog 57 #[.slice (some ⟨g, 0, none⟩) 12 cap] w fun e w' => e = .returned (.tuple #[]) ∧ rowOf w' g = some (cc (revC c)).toArray ∧ (∀ B, B ≤ g → Below B w w') ∧ ∀ k, k ≠ g → rowOf w' k = rowOf w k := by
  have hl : c.toList.length = 12 := Vector.length_toList
  have hF : Sort.flatK bc 2 c.toList.toArray = (cc c).toArray := flat_bcs c.toList
  have hH : Sort.HoldsK bc 2 w g 0 c.toList.toArray := by
    unfold Sort.HoldsK
    rw [hF]
    intro j hj
    rw [Nat.zero_add, rowOf_cell hr, rowOf_frozen hr, getElem!_pos _ j hj, Array.getElem?_eq_getElem hj]
    exact ⟨rfl, rfl⟩
  have hz : c.toList.toArray.size = 12 := by simp [hl]
  have := AnyQ.slices_Reverse Try.lx57 2 Try.isAgg33 Try.sizeOf33 bc (fun _ => rfl) (fun x v hv => by simp [bc] at hv; rcases hv with rfl | rfl <;> rfl) g 0 cap c.toList.toArray w hH (by omega)
  rw [hz] at this
  refine this.mono ?_
  rintro e w' ⟨rfl, n, rfl⟩
  have hR : Sort.flatK bc 2 c.toList.toArray.reverse = (cc (revC c)).toArray := by
    rw [show c.toList.toArray.reverse = c.toList.reverse.toArray by simp]
    exact flat_bcs _
  unfold Sort.putRowK
  rw [hR]
  obtain ⟨h1, h2, h3⟩ := rowOf_put (n := n) (F := (cc (revC c)).toArray) hr (cc_size2 _ _)
  exact ⟨rfl, h1, h2, h3⟩
theorem TurnCrate_any (c : Cr) (w : World) : Calls Try.prog 37 #[cv c] w fun e w' => e = .returned (.tuple #[cv (turnR c).1, .int .i64 (turnR c).2]) ∧ Below w.heap.size w w' := by
  go_enter Try.func37, Try.ntmps37
  go_upto_region 1 with fail
  generalize hW : World.alloc _ _ = W
  have H0 : Below w.heap.size w W := by rw [← hW]; go_grown
  have r0 : rowOf W (w.heap.size) = some ((cc c).toArray) := (by (try rw [← hW]); simp only [rowOf_alloc, World.size_alloc, ↓reduceIte]; all_goals ((repeat' split) <;> first | omega | (exfalso; omega) | rfl))
  have r1 : rowOf W (w.heap.size + 1) = some ((cc zC).toArray) := (by (try rw [← hW]); simp only [rowOf_alloc, World.size_alloc, ↓reduceIte]; all_goals ((repeat' split) <;> first | omega | (exfalso; omega) | rfl))
  clear hW
  have q0 : w.heap.size < w.heap.size + 1 := by omega
  have l0 : w.heap.size ≤ w.heap.size := Nat.le_refl _
  generalize w.heap.size + 1 = g1 at r1 q0 ⊢
  generalize h0 : w.heap.size = g0 at r0 q0 ⊢
  replace l0 : w.heap.size ≤ g0 := Nat.le_of_eq h0
  clear h0
  have b0 := rowOf_lt r0
  have b1 := rowOf_lt r1
  have H := Below.refl W.heap.size W
  cases e1 : c.ok with
  | false =>
    have HF := Lib.hid (show turnR c = (zC, 1) by simp [turnR, e1])
    go_wp2_with (first | ((with_reducible refine wp_load_rowBg H ?_ _ _ rfl _ rfl _ r0 _ Try.underlying39 rfl (infoC c) ?_); rfl) | (go_at_call 26; refine (ValidCrate_any c _).mono ?_; rintro e w' ⟨rfl, hb⟩; replace H := bstep H hb; clear hb; have hc := bcell H) | (with_reducible refine wp_store_zeroB H rfl rfl _ _ rfl _ rfl rfl _ r1 ?_) | (with_reducible refine wp_store_rowB H rfl rfl _ _ _ rfl _ rfl _ rfl _ r1 (cc_size2 _ _) (infoC _) (cc_one _) ?_))
    rw [HF.out]
    refine bodyPost_ret (results_ct rfl rfl (loadVar_rowOf (cc zC).toArray (by rw [rowOf_setRow, if_pos rfl, rowOf_below H (rowOf_lt r1), r1]; rfl) _ Try.underlying39 rfl (infoC _))) rfl ⟨rfl, bsetRow (bstep H0 H) (by omega) _⟩
  | true =>
    have HF := Lib.hid (show turnR c = (revC c, 0) by simp [turnR, e1])
    go_wp2_with (first | ((with_reducible refine wp_load_rowBg H ?_ _ _ rfl _ rfl _ r0 _ Try.underlying39 rfl (infoC c) ?_); rfl) | (go_at_call 26; refine (ValidCrate_any c _).mono ?_; rintro e w' ⟨rfl, hb⟩; replace H := bstep H hb; clear hb; have hc := bcell H))
    refine (Reverse_row (row_kept r0 H)).mono ?_
    rintro e w2 ⟨rfl, s0, hB, hK⟩
    have s1 : rowOf w2 g1 = some (cc zC).toArray := (hK g1 (by omega)).trans (row_kept r1 H)
    replace H0 := (bstep H0 H).trans (hB _ l0)
    clear hc H hB hK r0 r1
    have H := Below.refl w2.heap.size w2
    go_wp2_with (first | ((with_reducible refine wp_load_rowBg H ?_ _ _ rfl _ rfl _ s0 _ Try.underlying39 rfl (infoC (revC c)) ?_); rfl) | (with_reducible refine wp_store_rowB H rfl rfl _ _ _ rfl _ rfl _ rfl _ s1 (cc_size2 _ _) (infoC _) (cc_one _) ?_))
    rw [HF.out]
    refine bodyPost_ret (results_ct rfl rfl (loadVar_rowOf (cc (revC c)).toArray (by rw [rowOf_setRow, if_pos rfl, rowOf_below H (rowOf_lt s1), s1]; rfl) _ Try.underlying39 rfl (infoC _))) rfl ⟨rfl, bsetRow (bstep H0 H) (by omega) _⟩
theorem sTurnCrate_any (c : Cr) (w : World) : Calls Try.prog 36 #[cv c] w fun e w' => e = .returned (.tuple #[cv (turnR c).1, .int .i64 (turnR c).2]) ∧ Below w.heap.size w w' := by
  have HL := Lib.hid (Vector.length_toList (xs := c))
  go_enter Try.func36, Try.ntmps36
  go_upto_region 1 with fail
  generalize hW : World.alloc _ _ = W
  have H0 : Below w.heap.size w W := by rw [← hW]; go_grown
  have r0 : rowOf W (w.heap.size) = some ((cc c).toArray) := (by (try rw [← hW]); simp only [rowOf_alloc, World.size_alloc, ↓reduceIte]; all_goals ((repeat' split) <;> first | omega | (exfalso; omega) | rfl))
  have r1 : rowOf W (w.heap.size + 1) = some ((cc zC).toArray) := (by (try rw [← hW]); simp only [rowOf_alloc, World.size_alloc, ↓reduceIte]; all_goals ((repeat' split) <;> first | omega | (exfalso; omega) | rfl))
  clear hW
  have q0 : w.heap.size < w.heap.size + 1 := by omega
  have l0 : w.heap.size ≤ w.heap.size := Nat.le_refl _
  generalize w.heap.size + 1 = g1 at r1 q0 ⊢
  generalize h0 : w.heap.size = g0 at r0 q0 ⊢
  replace l0 : w.heap.size ≤ g0 := Nat.le_of_eq h0
  clear h0
  have b0 := rowOf_lt r0
  have b1 := rowOf_lt r1
  have H := Below.refl W.heap.size W
  cases e1 : c.ok with
  | false =>
    have HF := Lib.hid (show turnR c = (zC, 1) by simp [turnR, e1])
    go_wp2_with (first | ((with_reducible refine wp_load_rowBg H ?_ _ _ rfl _ rfl _ r0 _ Try.underlying39 rfl (infoC c) ?_); rfl) | (go_at_call 47; refine (l01Ok_row H r0).mono ?_; rintro e w' ⟨rfl, hb⟩; replace H := bstep H hb; clear hb; have hc := bcell H) | (with_reducible refine wp_store_zeroB H rfl rfl _ _ rfl _ rfl rfl _ r1 ?_) | (with_reducible refine wp_store_rowB H rfl rfl _ _ _ rfl _ rfl _ rfl _ r1 (cc_size2 _ _) (infoC _) (cc_one _) ?_))
    rw [HF.out]
    refine bodyPost_ret (results_ct rfl rfl (loadVar_rowOf (cc zC).toArray (by rw [rowOf_setRow, if_pos rfl, rowOf_below H (rowOf_lt r1), r1]; rfl) _ Try.underlying39 rfl (infoC _))) rfl ⟨rfl, bsetRow (bstep H0 H) (by omega) _⟩
  | true =>
    have HF := Lib.hid (show turnR c = (revC c, 0) by simp [turnR, e1])
    go_upto_region 4 with (first | (go_at_call 47; refine (l01Ok_row H r0).mono ?_; rintro e w' ⟨rfl, hb⟩; replace H := bstep H hb; clear hb; have hc := bcell H) | ((with_reducible refine wp_store_rowOf rfl rfl _ _ _ rfl _ rfl (cc zC).toArray rfl (cc zC).toArray ?hr (cc_size2 _ _) (infoC _) (cc_one _) ?_); (case hr => rw [rowOf_alloc, if_pos rfl]; rfl)))
    clear hc
    generalize hW2 : World.setRow _ _ _ = W2
    obtain ⟨HB, r2, b2⟩ := laid_row H hW2
    clear hW2
    have qr02 := Nat.lt_of_lt_of_le (rowOf_lt r0) H.size
    replace r0 := row_kept r0 HB
    have qr12 := Nat.lt_of_lt_of_le (rowOf_lt r1) H.size
    replace r1 := row_kept r1 HB
    replace H0 := bstep H0 HB
    replace H := below_self HB
    generalize w'.heap.size = g2 at *
    have HI := Lib.hid (And.intro r0 (And.intro r1 r2))
    clear r0 r1 r2 H
    go_wp2
    go_loopw [5] (fun i wr => ∃ k : Nat, k ≤ 12 ∧ i = .int .i64 k ∧ Below w.heap.size w wr ∧ Hid (rowOf wr g0 = some (cc c).toArray ∧ rowOf wr g1 = some (cc zC).toArray ∧ rowOf wr g2 = some (bcs (backs c.toList k)).toArray)) (fun i _ => 12 - (intOf i).toNat)
    case atStart => exact ⟨0, by omega, rfl, H0, HI.out.1, HI.out.2.1, by rw [backs_zero]; exact HI.out.2.2⟩
    case round =>
      clear HI H0
      obtain ⟨k, hk, rfl, hb, HR⟩ := hrel
      by_cases hlt : k < 12
      · have hkl : k < c.toList.length := by rw [HL.out]; exact hlt
        obtain ⟨m, hm⟩ : ∃ m : Nat, m = 11 - k := ⟨_, rfl⟩
        have hm1 : (11 : Int) - (k : Int) = (m : Int) := by omega
        have hm2 : m < 12 := by omega
        have hml : m < (backs c.toList k).length := by rw [backs_length (by omega) hk]; exact hm2
        have x0 := row0 HR.out.1 hkl
        have x1 := row1 HR.out.1 hkl
        have y0 := row0 HR.out.2.2 hml
        have y1 := row1 HR.out.2.2 hml
        have f0 := rowOf_frozen HR.out.2.2 (m * 2)
        have f1 := rowOf_frozen HR.out.2.2 (m * 2 + 1)
        have HP := Lib.hid (backs_set hkl hlt)
        rw [← hm] at HP
        have HS := Lib.hid (fun b => row_put b HR.out.2.2 hml)
        clear hkl hml hm
        generalize rB c.toList k = b at x0 x1 HP
        generalize rB (backs c.toList k) m = b' at y0 y1
        go_wp2
        go_roundw
        case rel =>
          refine ⟨k + 1, by omega, by go_num, (hb.setCell (by show _ ≤ g2; omega) _).setCell (by show _ ≤ g2; omega) _, ?_, ?_, ?_⟩
          · rw [row_far (by omega), row_far (by omega), HR.out.1]
          · rw [row_far (by omega), row_far (by omega), HR.out.2.1]
          · rw [HS.out b, HP.out]
        case measure => simp [intOf]; omega
      · obtain rfl : k = 12 := by omega
        have r0 := HR.out.1
        have r1 := HR.out.2.1
        have r2 : rowOf wr g2 = some (cc (revC c)).toArray := by
          have := HR.out.2.2
          rwa [backs_full HL.out] at this
        have H0 := hb
        have H := Below.refl wr.heap.size wr
        clear HR hb
        go_wp2_with (first | ((with_reducible refine wp_load_rowBg H ?_ _ _ rfl _ rfl _ r2 _ Try.underlying39 rfl (infoC (revC c)) ?_); rfl) | (with_reducible refine wp_store_rowB H rfl rfl _ _ _ rfl _ rfl _ rfl _ r1 (cc_size2 _ _) (infoC _) (cc_one _) ?_))
        rw [HF.out]
        refine bodyPost_ret (results_ct rfl rfl (loadVar_rowOf (cc (revC c)).toArray (by rw [rowOf_setRow, if_pos rfl, rowOf_below H (rowOf_lt r1), r1]; rfl) _ Try.underlying39 rfl (infoC _))) rfl ⟨rfl, bsetRow (bstep H0 H) (by omega) _⟩
end Go.Proofs.Ytmcgnkjnknofkaa
