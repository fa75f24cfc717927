/- Bottles in order: the reference's insertion. -/
import Derived.Test.YtnhpgahapjjjbaaSort
import Derived.Test.YtnhpgahapjjjbaaCases
namespace Go.Proofs.Ytnhpgahapjjjbaa
open Go Go.Sort Go.RowKit
set_option linter.unusedVariables false
set_option linter.unusedSimpArgs false
set_option maxRecDepth 100000
set_option maxHeartbeats 1000000
attribute [local go_sem] Oper.qB
theorem OwnS.cat {α : Type} {f : α → List Value} {k : Nat} {w : World} {B e g n cap : Nat} {l : List α} (h : OwnS f w B e k (.slice (some ⟨g, 0, none⟩) n cap) l) : n = l.length ∧ Lies f w g l := by
  obtain ⟨h1, g', cap', hv⟩ := h
  simp only [Value.slice.injEq] at hv
  obtain ⟨_, rfl, _⟩ := hv
  exact ⟨rfl, own_lies h1⟩
theorem OwnS.setEl {α : Type} {f : α → List Value} {k : Nat} (hf : ∀ x, (f x).length = k) {w : World} {B e g n cap i : Nat} {l : List α} (x : α) (h : OwnS f w B e k (.slice (some ⟨g, 0, none⟩) n cap) l) (hi : i < l.length) :
    OwnS f (putEl w g (i * k) (f x).toArray) B e k (.slice (some ⟨g, 0, none⟩) n cap) (l.set i x) := by
  obtain rfl := h.cat.1
  have := putEl_own h.1 hi (vs := (f x).toArray) (by simp [hf])
  refine ⟨?_, g, cap, by rw [List.length_set]⟩
  rw [List.length_set, fl_set hf l i x hi]
  exact this
theorem OwnS.room {α : Type} {f : α → List Value} {k : Nat} {w : World} {B e g n cap i : Nat} {l : List α} {vs : Array Value} (h : OwnS f w B e k (.slice (some ⟨g, 0, none⟩) n cap) l) (hi : i < l.length) (hs : vs.size = k) : ∃ cur, rowOf w g = some cur ∧ i * k + vs.size ≤ cur.size := by
  obtain rfl := h.cat.1
  exact own_room h.1 hi hs
theorem rowOf_putEl_ne {w : World} {g g' o : Nat} {vs : Array Value} (h : g' ≠ g) : rowOf (putEl w g o vs) g' = rowOf w g' := by
  unfold putEl
  split
  · exact rowOf_setRow_ne h
  · rfl
/-- Sorted elements with a hole at k, others behind. -/
def holeL (S R : List Bt) (k : Nat) (h : Bt) : List Bt := S.take k ++ h :: (S.drop k ++ R)
theorem holeL_length {S R : List Bt} {k : Nat} {h : Bt} : (holeL S R k h).length = S.length + 1 + R.length := by
  simp only [holeL, List.length_append, List.length_take, List.length_cons, List.length_drop]
  omega
theorem holeL_end {S R : List Bt} {h : Bt} : holeL S R S.length h = S ++ h :: R := by simp [holeL]
theorem holeL_at {S R : List Bt} {k : Nat} {h : Bt} (hk : k < S.length) : (holeL S R (k + 1) h)[k]! = S[k] := by
  have hl : k < (holeL S R (k + 1) h).length := by rw [holeL_length]; omega
  have e : (holeL S R (k + 1) h)[k]? = some S[k] := by
    unfold holeL
    rw [List.getElem?_append_left (by simp; omega), List.getElem?_take_of_lt (by omega), List.getElem?_eq_getElem hk]
  rw [getB hl]
  rw [List.getElem?_eq_getElem hl] at e
  exact Option.some.inj e
theorem holeL_set {S R : List Bt} {k : Nat} {h x : Bt} (hk : k ≤ S.length) : (holeL S R k h).set k x = holeL S R k x := by
  unfold holeL
  have : (S.take k).length = k := by simp; omega
  rw [List.set_append_right _ _ (by omega), this, Nat.sub_self]
  rfl
theorem holeL_down {S R : List Bt} {k : Nat} (hk : k < S.length) : holeL S R (k + 1) S[k] = holeL S R k S[k] := by
  unfold holeL
  rw [List.take_succ_eq_append_getElem hk, List.drop_eq_getElem_cons hk]
  simp only [List.append_assoc, List.cons_append, List.nil_append]
/-- S, into which x has been put at k. -/
def putS (S : List Bt) (k : Nat) (x : Bt) : List Bt := S.take k ++ x :: S.drop k
theorem holeL_put {S R : List Bt} {k : Nat} {x : Bt} : holeL S R k x = putS S k x ++ R := by simp [holeL, putS]
theorem putS_perm {S : List Bt} {k : Nat} {x : Bt} {T : List Bt} (h : S.Perm T) : (putS S k x).Perm (T ++ [x]) := by
  unfold putS
  refine List.perm_middle.trans ?_
  rw [List.take_append_drop]
  exact (List.Perm.cons x h).trans (List.perm_append_singleton x T).symm
theorem putS_sorted {S : List Bt} {k : Nat} {x : Bt} (hS : S.Pairwise fun a b => leB a b = true) (h1 : ∀ y ∈ S.drop k, leB x y = true) (h2 : ∀ y ∈ S.take k, leB y x = true) : (putS S k x).Pairwise fun a b => leB a b = true := by
  unfold putS
  rw [List.pairwise_append]
  refine ⟨hS.sublist (List.take_sublist _ _), ?_, ?_⟩
  · rw [List.pairwise_cons]
    exact ⟨h1, hS.sublist (List.drop_sublist _ _)⟩
  · intro a ha b hb
    rcases List.mem_cons.1 hb with rfl | hb
    · exact h2 a ha
    · have hS' := hS
      rw [← List.take_append_drop k S, List.pairwise_append] at hS'
      exact hS'.2.2 a ha b hb
theorem le_of_lt {a b : Bt} (h : a.cmp b < 0) : leB a b = true := by
  rw [leB_iff, cmp_neg]
  rw [cmp_neg] at h
  omega
theorem take_le {S : List Bt} {k : Nat} {x : Bt} (hS : S.Pairwise fun a b => leB a b = true) (hk : k < S.length) (h : ¬ x.cmp S[k] < 0) : ∀ y ∈ S.take (k + 1), leB y x = true := by
  intro y hy
  rw [List.take_succ_eq_append_getElem hk, List.mem_append] at hy
  rcases hy with hy | hy
  · have hS' := hS
    rw [← List.take_append_drop k S, List.pairwise_append] at hS'
    have h3 := hS'.2.2 y hy S[k] (by rw [List.drop_eq_getElem_cons hk]; exact List.mem_cons_self)
    exact leB_trans _ _ _ h3 (leB_iff.2 h)
  · obtain rfl : y = S[k] := by simpa using hy
    exact leB_iff.2 h
theorem l01Sorted_any (g c : Nat) (l : List Bt) (w : World) (K : Lies bc w g l) (hn : l.length ≤ 1000000) :
    Calls Try.prog 102 #[.slice (some ⟨g, 0, none⟩) l.length c] w fun e w' => ∃ v, e = .returned v ∧ OwnS bc w' w.heap.size 26 2 v (sortB l) ∧ Below w.heap.size w w' := by
  replace K := Lib.hid K
  go_enter Try.func102, Try.ntmps102
  go_upto_region 2 with (at_builtin; refine wp_app_el (f := bc) w.heap.size rfl _ _ 54 26 rfl (.agg #[.int .u8 0, .int .i16 0]) 2 4 Try.underlying54 infoBt rfl (by decide) bc_length bc_one _ [] rfl g c l rfl (OwnS.lit (Nat.le_refl _)) (K.out.below (by go_grown)) (by simp) (by simp; omega) (by decide) ?_; intro v1 w1 HO hb)
  rw [List.nil_append] at HO
  have hb1 : Below w.heap.size w w1 := (show Below w.heap.size w _ by go_grown).trans hb.1
  clear hb
  obtain ⟨g1, cap, rfl, -, hB1, hg1, -⟩ := HO.lies
  go_upto_region 3 with fail
  go_loopw [4] (fun i wr => ∃ k : Nat, 1 ≤ k ∧ k ≤ l.length + 1 ∧ i = .int .i64 k ∧ Hid (∃ S : List Bt, S.length = min k l.length ∧ S.Perm (l.take k) ∧ (S.Pairwise fun a b => leB a b = true) ∧ OwnS bc wr w.heap.size 26 2 (.slice (some ⟨g1, 0, none⟩) l.length cap) (S ++ l.drop k)) ∧ Below w.heap.size w wr) (fun i _ => l.length + 1 - (intOf i).toNat)
  case atStart =>
    refine ⟨1, Nat.le_refl _, by omega, rfl, ⟨l.take 1, by simp, List.Perm.refl _, ?_, by rw [List.take_append_drop]; exact HO⟩, hb1⟩
    cases l with
    | nil => simp
    | cons x l => simp
  case round =>
    clear HO hb1
    obtain ⟨i, hi1, hi2, rfl, HS, hb⟩ := hrel
    obtain ⟨wo, hwo⟩ : ∃ wo, wo = wr := ⟨_, rfl⟩
    subst hwo
    by_cases hlt : i < l.length
    · obtain ⟨S, hSl, hSp, hSs, HO⟩ := HS.out
      replace hSl : S.length = i := by omega
      have hlen : (S ++ l.drop i).length = l.length := by simp; omega
      have hxi : (S ++ l.drop i)[i]! = l[i] := by
        rw [getB (by omega), List.getElem_append_right (by omega)]
        simp [hSl]
      have hX : CAt wo g1 (0 + i * 2) (bc l[i]) := by
        rw [← hxi]
        exact HO.cat.2.c.el bc_length (by omega)
      have HT := Lib.hid (List.take_succ_eq_append_getElem hlt)
      have HO0 : Hid (OwnS bc wo w.heap.size 26 2 (.slice (some ⟨g1, 0, none⟩) l.length cap) (holeL S (l.drop (i + 1)) i l[i])) := by
        have e : holeL S (l.drop (i + 1)) i l[i] = S ++ l.drop i := by
          have h := holeL_end (S := S) (R := l.drop (i + 1)) (h := l[i])
          rw [hSl] at h
          rw [h, List.drop_eq_getElem_cons hlt]
        rw [Hid, e]
        exact HO
      clear hxi HO
      rw [Nat.zero_add] at hX
      generalize l[i] = x at hX HT HO0
      generalize hR : l.drop (i + 1) = R at HO0
      have hlR : S.length + 1 + R.length = l.length := by rw [← hR]; simp; omega
      replace hR := Lib.hid hR
      replace hlen := Lib.hid hlen
      replace hSp := Lib.hid hSp
      replace hSs := Lib.hid hSs
      replace hlR := Lib.hid hlR
      replace hSl := Lib.hid hSl
      have x0 : wo.cell? ⟨g1, i * 2, none⟩ = some (.int .u8 x.k) := hX 0 _ rfl
      have x1 : wo.cell? ⟨g1, i * 2 + 1, none⟩ = some (.int .i16 x.y) := hX 1 _ rfl
      have hi3 : (i : Int) < (l.length : Int) := by omega
      have hi4 : (i : Int) ≤ 1000000 := by omega
      clear hX
      go_upto_region 7 with fail
      generalize hW1 : World.alloc _ _ = W1
      have hgr : Below wo.heap.size wo W1 := by rw [← hW1]; go_grown
      have r5 : rowOf W1 wo.heap.size = some (#[.int .u8 x.k, .int .i16 x.y] : Array Value) := by rw [← hW1, rowOf_alloc, if_pos rfl]
      have HO1 := Lib.hid (HO0.out.kept hgr)
      have hb1 := bstep hb hgr
      have hlt1 := own_lt HO0.out.1 g1 rfl
      have hgne : wo.heap.size ≠ g1 := by omega
      have hgB : w.heap.size ≤ wo.heap.size := hb.size
      clear hW1 x0 x1 hgr HO0 hlt1 HS
      generalize wo.heap.size = g5 at r5 hgne hgB ⊢
      have HEND : Hid (∀ k W, k ≤ i → (∀ y ∈ S.drop k, x.cmp y < 0) → (∀ y ∈ S.take k, leB y x = true) → OwnS bc W w.heap.size 26 2 (.slice (some ⟨g1, 0, none⟩) l.length cap) (holeL S R k x) → ∃ S' : List Bt, S'.length = min (i + 1) l.length ∧ S'.Perm (l.take (i + 1)) ∧ (S'.Pairwise fun a b => leB a b = true) ∧ OwnS bc W w.heap.size 26 2 (.slice (some ⟨g1, 0, none⟩) l.length cap) (S' ++ l.drop (i + 1))) := by
        intro k W hk h1 h2 hO
        refine ⟨putS S k x, ?_, ?_, putS_sorted hSs.out (fun y hy => le_of_lt (h1 y hy)) h2, ?_⟩
        · have := hSl.out
          simp only [putS, List.length_append, List.length_take, List.length_cons, List.length_drop]
          omega
        · rw [HT.out]
          exact putS_perm hSp.out
        · rw [hR.out, ← holeL_put]
          exact hO
      go_loopw [6] (fun t wr => ∃ k : Nat, k ≤ i ∧ t = .int .i64 k ∧ Hid (∃ h, OwnS bc wr w.heap.size 26 2 (.slice (some ⟨g1, 0, none⟩) l.length cap) (holeL S R k h)) ∧ Hid (∀ y ∈ S.drop k, x.cmp y < 0) ∧ Hid (rowOf wr g5 = some (#[.int .u8 x.k, .int .i16 x.y] : Array Value)) ∧ Below w.heap.size w wr) (fun t _ => (intOf t).toNat)
      case atStart => exact ⟨i, Nat.le_refl _, rfl, ⟨x, HO1.out⟩, (by rw [Hid, List.drop_eq_nil_of_le (by rw [hSl.out]; exact Nat.le_refl _)]; intro y hy; cases hy), r5, hb1⟩
      case round =>
        clear HO1 hb1 r5 hb
        obtain ⟨k, hk, rfl, HH, HL, HR5, hb⟩ := hrel
        obtain ⟨h, HO⟩ := HH.out
        clear HH
        have H := Below.refl wr.heap.size wr
        have hki : (k : Int) ≤ 1000000 := by omega
        have hlen2 : (holeL S R k h).length = l.length := by rw [holeL_length]; exact hlR.out
        rcases Nat.eq_zero_or_pos k with hz | hpos
        · have HE := fun W hO => HEND.out k W hk HL.out (by rw [hz]; intro y hy; simp at hy) hO
          have hz7 : ((0 : Int) < (k : Int)) = False := eq_false (by omega)
          have hz8 : (0 < k) = False := eq_false (by omega)
          have hkl : k < l.length := by omega
          have hkl2 : (k : Int) < (l.length : Int) := by omega
          replace hz := Lib.hid hz
          replace HO := Lib.hid HO
          replace HE := Lib.hid HE
          replace hlen2 := Lib.hid hlen2
          clear HL HEND
          go_upto_region 7 with fail
          refine wp_region_qB (by kernel_rfl) (by kernel_rfl) ?_
          (repeat (first | fail | (apply qB_step; intro K hK; go_simp; first | (refine hK _ ?_; clear hK K) | (apply Exists.intro; refine ⟨fun _ => ?_, hK _ ?_⟩; (first | fail); clear hK K))))
          refine qB_nil ?_
          intro w1 hw1
          replace H := bstep H hw1
          clear hw1
          have R5 := row_kept HR5.out H
          have z0 : w1.cell? ⟨g5, 0, none⟩ = some (.int .u8 x.k) := rowOf_cell R5 0
          have z1 : w1.cell? ⟨g5, 1, none⟩ = some (.int .i16 x.y) := rowOf_cell R5 1
          have HO2 := Lib.hid (HO.out.kept H)
          have hkL := Lib.hid (show k < (holeL S R k h).length by rw [hlen2.out]; exact hkl)
          go_wp2_with (refine wp_store_el rfl rfl _ _ _ rfl _ _ rfl #[.int .u8 x.k, .int .i16 x.y] rfl (HO2.out.room hkL.out rfl) (infoB _ _) (bv_one _ _) ?_)
          go_roundw
          case rel => exact ⟨i + 1, by omega, by omega, by go_num, HE.out _ (by have := HO2.out.setEl bc_length x hkL.out; rw [holeL_set (by rw [hSl.out]; exact hk)] at this; exact this), (bstep hb H).trans (putEl_below hB1 _ _)⟩
          case measure => simp [intOf]; omega
        · obtain ⟨k, rfl⟩ : ∃ k', k = k' + 1 := ⟨k - 1, by omega⟩
          have hkS : k < S.length := by rw [hSl.out]; omega
          have hY : CAt wr g1 (0 + k * 2) (bc S[k]) := by
            rw [← holeL_at (R := R) (h := h) hkS]
            exact HO.cat.2.c.el bc_length (by omega)
          rw [Nat.zero_add] at hY
          have hkl : k + 1 < l.length := by omega
          have hkl2 : (k : Int) + 1 < (l.length : Int) := by omega
          have hkl3 : (k : Int) < (l.length : Int) := by omega
          have hk1 : (0 : Int) < (k : Int) + 1 := by omega
          have hk0 : (0 : Int) < ((k + 1 : Nat) : Int) := by omega
          have hwk : IntKind.i64.wrap (k : Int) = (k : Int) := by rw [IntKind.wrap_i64]; omega
          have HD := Lib.hid (holeL_down (R := R) hkS)
          have HSS := Lib.hid (holeL_set (S := S) (R := R) (k := k + 1) (h := h) (x := S[k]) (by omega))
          have HLT : Hid (x.cmp S[k] < 0 → ∀ y ∈ S.drop k, x.cmp y < 0) := fun hc y hy => by
            rw [List.drop_eq_getElem_cons hkS, List.mem_cons] at hy
            rcases hy with rfl | hy
            · exact hc
            · exact HL.out y hy
          have HE := fun (hc : ¬ x.cmp S[k] < 0) W hO => HEND.out (k + 1) W hk HL.out (take_le hSs.out hkS hc) hO
          generalize S[k] = y at hY HD HSS HLT HE
          have Y0 := Lib.hid hY
          have y0 := cell_regrown (hY 0 _ rfl)
          have y1 := cell_regrown (hY 1 _ rfl)
          rw [Nat.add_zero] at y0
          have z0 := cell_regrown (show wr.cell? ⟨g5, 0, none⟩ = some (.int .u8 x.k) from rowOf_cell HR5.out 0)
          have z1 := cell_regrown (show wr.cell? ⟨g5, 1, none⟩ = some (.int .i16 x.y) from rowOf_cell HR5.out 1)
          replace HO := Lib.hid HO
          replace HE := Lib.hid HE
          replace hlen2 := Lib.hid hlen2
          have hg1w := Lib.hid HO.out.cat.2.lt
          clear hY HL HEND
          by_cases hcmp : x.cmp y < 0
          · go_upto_region 7 with fail
            refine wp_region_qB (by kernel_rfl) (by kernel_rfl) ?_
            (repeat (first | fail | (apply qB_step; intro K hK; go_simp; first | (refine hK _ ?_; clear hK K) | (apply Exists.intro; refine ⟨fun _ => ?_, hK _ ?_⟩; (first | (go_at_call 139; with_reducible exact sCompareBottles_any x y _)); clear hK K))))
            refine qB_nil ?_
            intro w1 hw1
            replace H := bstep H hw1
            clear hw1
            have HLT2 := Lib.hid (HLT.out hcmp)
            have hY := Y0.out.below H hg1w.out
            clear y0 y1 z0 z1 hcmp HLT HE
            have y0 : w1.cell? ⟨g1, k * 2, none⟩ = some (.int .u8 y.k) := hY 0 _ rfl
            have y1 : w1.cell? ⟨g1, k * 2 + 1, none⟩ = some (.int .i16 y.y) := hY 1 _ rfl
            have HO2 := Lib.hid (HO.out.kept H)
            have hkL := Lib.hid (show k + 1 < (holeL S R (k + 1) h).length by rw [hlen2.out]; exact hkl)
            have R5 := Lib.hid ((rowOf_putEl_ne (vs := #[.int .u8 y.k, .int .i16 y.y]) (o := (k + 1) * 2) hgne).trans (row_kept HR5.out H))
            clear hY
            go_wp2_with (refine wp_store_el rfl rfl _ _ _ rfl _ _ rfl #[.int .u8 y.k, .int .i16 y.y] rfl (HO2.out.room hkL.out rfl) (infoB _ _) (bv_one _ _) ?_)
            go_roundw
            case rel => exact ⟨k, by omega, by go_num, ⟨y, by have := HO2.out.setEl bc_length y hkL.out; rw [HSS.out, HD.out] at this; exact this⟩, HLT2, R5, (bstep hb H).trans (putEl_below hB1 _ _)⟩
            case measure => simp [intOf]
          · have HE2 := Lib.hid (HE.out hcmp)
            have hcmp2 : 0 ≤ x.cmp y := by omega
            go_upto_region 7 with fail
            refine wp_region_qB (by kernel_rfl) (by kernel_rfl) ?_
            (repeat (first | fail | (apply qB_step; intro K hK; go_simp; first | (refine hK _ ?_; clear hK K) | (apply Exists.intro; refine ⟨fun _ => ?_, hK _ ?_⟩; (first | (go_at_call 139; with_reducible exact sCompareBottles_any x y _)); clear hK K))))
            refine qB_nil ?_
            intro w1 hw1
            replace H := bstep H hw1
            clear hw1
            clear y0 y1 z0 z1 hcmp hcmp2 HLT HE
            have R5 := row_kept HR5.out H
            have z0 : w1.cell? ⟨g5, 0, none⟩ = some (.int .u8 x.k) := rowOf_cell R5 0
            have z1 : w1.cell? ⟨g5, 1, none⟩ = some (.int .i16 x.y) := rowOf_cell R5 1
            have HO2 := Lib.hid (HO.out.kept H)
            have hkL := Lib.hid (show k + 1 < (holeL S R (k + 1) h).length by rw [hlen2.out]; exact hkl)
            go_wp2_with (refine wp_store_el rfl rfl _ _ _ rfl _ _ rfl #[.int .u8 x.k, .int .i16 x.y] rfl (HO2.out.room hkL.out rfl) (infoB _ _) (bv_one _ _) ?_)
            go_roundw
            case rel => exact ⟨i + 1, by omega, by omega, by go_num, HE2.out _ (by have := HO2.out.setEl bc_length x hkL.out; rw [holeL_set (by rw [hSl.out]; exact hk)] at this; exact this), (bstep hb H).trans (putEl_below hB1 _ _)⟩
            case measure => simp [intOf]; omega
    · have HO2 : Hid (OwnS bc wo w.heap.size 26 2 (.slice (some ⟨g1, 0, none⟩) l.length cap) (sortB l)) := by
        obtain ⟨S, hSl, hSp, hSs, HO⟩ := HS.out
        rw [List.take_of_length_le (by omega)] at hSp
        rw [List.drop_eq_nil_of_le (by omega), List.append_nil, sortB_of hSp hSs] at HO
        exact HO
      clear HS
      have hi3 : ¬ (i : Int) < (l.length : Int) := by omega
      go_wp2
      go_ret
      exact ⟨_, rfl, HO2.out, hb⟩
end Go.Proofs.Ytnhpgahapjjjbaa
