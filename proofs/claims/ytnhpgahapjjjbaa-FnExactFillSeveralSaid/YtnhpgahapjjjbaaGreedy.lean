/- Contracts of GreedyOpen: the crate that is most useful, again and again. -/
import Derived.Test.YtnhpgahapjjjbaaFilled
namespace Go.Proofs.Ytnhpgahapjjjbaa
open Go.RowKit
set_option linter.unusedVariables false
set_option linter.unusedSimpArgs false
set_option maxRecDepth 100000
set_option maxHeartbeats 1000000
attribute [local go_sem] Oper.qB
/-- The best of the first crates, and its use. -/
def bestK (lc : List Cr) (left : List Wt) (out : List Int) : Nat → Int × Int
  | 0 => (-1, 0)
  | k + 1 => if (!out.contains (k : Int) && (decide ((bestK lc left out k).1 < 0) || decide ((bestK lc left out k).2 < useW lc[k]! left))) = true then ((k : Int), useW lc[k]! left) else bestK lc left out k
def leftL (lc : List Cr) (l : List Wt) (out : List Int) : List Wt := lackL (cntL (opL lc out)) l
def greedy (lc : List Cr) (l : List Wt) : Nat → List Int → List Int
  | 0, out => out
  | n + 1, out => if leftL lc l out = [] then out else greedy lc l n (out ++ [(bestK lc (leftL lc l out) out lc.length).1])
def finG (lc : List Cr) (l : List Wt) (out : List Int) : List Int := greedy lc l (lc.length + 1 - out.length) out
def greedyR (lc : List Cr) (l : List Wt) : List Int × Int := if fillI lc l = 0 then (finG lc l [], 0) else ([], fillI lc l)
theorem bestK_cases (lc : List Cr) (left : List Wt) (out : List Int) : ∀ k, ((bestK lc left out k).1 = -1 ∧ ∀ i, i < k → (i : Int) ∈ out) ∨ (0 ≤ (bestK lc left out k).1 ∧ (bestK lc left out k).1 < k ∧ (bestK lc left out k).1 ∉ out)
  | 0 => .inl ⟨rfl, fun i hi => absurd hi (Nat.not_lt_zero _)⟩
  | k + 1 => by
    have ih := bestK_cases lc left out k
    rw [bestK]
    split
    · rename_i h
      simp only [Bool.and_eq_true, Bool.not_eq_true', ← Bool.not_eq_true, List.contains_eq_mem, decide_eq_true_iff] at h
      exact .inr ⟨Int.natCast_nonneg k, by show (k : Int) < ((k + 1 : Nat) : Int); omega, h.1⟩
    · rename_i h
      rcases ih with ⟨i1, i2⟩ | ⟨i1, i2, i3⟩
      · refine .inl ⟨i1, fun i hi => ?_⟩
        rcases Nat.lt_or_ge i k with q | q
        · exact i2 i q
        · obtain rfl : i = k := by omega
          apply Classical.byContradiction
          intro hm
          apply h
          have e : decide ((bestK lc left out i).1 < 0) = true := by rw [i1]; rfl
          simp [e, hm]
      · exact .inr ⟨i1, by omega, i3⟩
theorem Good.snoc {n : Nat} {ks : List Int} {x : Int} (h : Good n ks) (h0 : 0 ≤ x) (h1 : x < n) (h2 : x ∉ ks) : Good n (ks ++ [x]) :=
  ⟨List.nodup_append.2 ⟨h.nd, List.pairwise_singleton _ _, fun a ha b hb => by rintro rfl; rw [List.mem_singleton] at hb; exact h2 (hb ▸ ha)⟩, fun y hy => by
    rcases List.mem_append.1 hy with q | q
    · exact h.inn y q
    · obtain rfl := List.mem_singleton.1 q
      exact ⟨h0, h1⟩⟩
/-- There is a crate that is not yet opened. -/
theorem best_good {lc : List Cr} {l : List Wt} {out : List Int} (h : Good lc.length out) (hf : lackL (cntL lc) l = []) (hl : leftL lc l out ≠ []) : Good lc.length (out ++ [(bestK lc (leftL lc l out) out lc.length).1]) := by
  rcases bestK_cases lc (leftL lc l out) out lc.length with ⟨_, q⟩ | ⟨q1, q2, q3⟩
  · exact absurd (by rw [leftL, show cntL (opL lc out) = cntL lc from funext fun b => h.all q b, hf]) hl
  · exact h.snoc q1 q2 q3
theorem finG_stop {lc : List Cr} {l : List Wt} {out : List Int} (h : Good lc.length out) (hl : leftL lc l out = []) : finG lc l out = out := by
  have := h.le
  rw [finG, show lc.length + 1 - out.length = (lc.length - out.length) + 1 by omega, greedy, if_pos hl]
theorem finG_step {lc : List Cr} {l : List Wt} {out : List Int} (h : Good lc.length out) (hl : leftL lc l out ≠ []) : finG lc l out = finG lc l (out ++ [(bestK lc (leftL lc l out) out lc.length).1]) := by
  have := h.le
  rw [finG, show lc.length + 1 - out.length = (lc.length - out.length) + 1 by omega, greedy, if_neg hl, finG, List.length_append, List.length_singleton, show lc.length + 1 - (out.length + 1) = lc.length - out.length by omega]
theorem Good.nil (n : Nat) : Good n [] := ⟨List.nodup_nil, fun x hx => absurd hx (List.not_mem_nil)⟩
theorem finG_le {lc : List Cr} {l : List Wt} (hf : lackL (cntL lc) l = []) : ∀ (m : Nat) (out : List Int), Good lc.length out → lc.length - out.length = m → (finG lc l out).length ≤ lc.length
  | m, out, h, hm => by
    have hle := h.le
    by_cases hl : leftL lc l out = []
    · rw [finG_stop h hl]; exact hle
    · have h2 := best_good h hf hl
      have h3 := h2.le
      rw [List.length_append, List.length_singleton] at h3
      rw [finG_step h hl]
      match m with
      | 0 => omega
      | m + 1 => exact finG_le hf m _ h2 (by rw [List.length_append, List.length_singleton]; omega)
theorem greedyR_le (lc : List Cr) (l : List Wt) : (greedyR lc l).1.length ≤ 12 := by
  unfold greedyR
  split
  · rename_i h
    rcases fillI_cases lc l with ⟨_, h1, h2⟩ | e | e
    · have := finG_le h2 _ [] (Good.nil _) rfl
      have := (ask_le h1).1
      show (finG lc l []).length ≤ 12
      omega
    · rw [e] at h; cases h
    · rw [e] at h; cases h
  · simp
def lenOf : Value → Nat
  | .slice _ n _ => n
  | _ => 0
theorem GreedyOpen_any (g0 c0 : Nat) (lc : List Cr) (g1 c1 : Nat) (l : List Wt) (w : World) (K0 : Lies cc w g0 lc) (K1 : Lies wc w g1 l) (hn : lc.length ≤ 1048576) (hl : l.length ≤ 1048576) :
    Calls Try.prog 35 #[.slice (some ⟨g0, 0, none⟩) lc.length c0, .slice (some ⟨g1, 0, none⟩) l.length c1] w fun e w' => ∃ v, e = .returned (.tuple #[v, .int .i64 (greedyR lc l).2]) ∧ OwnN iv w' w.heap.size 2 1 v (greedyR lc l).1 ∧ Below w.heap.size w w' := by
  have H := Below.refl w.heap.size w
  replace K0 := Lib.hid K0
  replace K1 := Lib.hid K1
  rcases fillI_cases lc l with ⟨e, ha, hf⟩ | e | e
  rotate_left
  all_goals try (
    have HF := Lib.hid (show greedyR lc l = ([], fillI lc l) by rw [greedyR, if_neg (by rw [e]; decide)])
    have HI := Lib.hid e
    rw [HI.out] at HF
    clear e
    go_enter Try.func35, Try.ntmps35
    go_wp2_with (go_at_call 78; with_reducible refine (fillCode_any g0 c0 lc g1 c1 l _ (K0.out.below H) (K1.out.below H) hn hl).mono ?_; rintro e w' ⟨rfl, hb⟩; rw [HI.out]; replace H := bstep H hb; clear hb)
    rw [HF.out]
    exact bodyPost_ret (results_tt rfl) rfl ⟨_, rfl, OwnN.nil, H⟩)
  have HF := Lib.hid (show greedyR lc l = (finG lc l [], 0) by rw [greedyR, if_pos e])
  have HI := Lib.hid e
  have HZ := Lib.hid hf
  have h8 := ask_le ha
  clear e ha hf
  go_enter Try.func35, Try.ntmps35
  go_wp2_with (go_at_call 78; with_reducible refine (fillCode_any g0 c0 lc g1 c1 l _ (K0.out.below H) (K1.out.below H) hn hl).mono ?_; rintro e w' ⟨rfl, hb⟩; rw [HI.out]; replace H := bstep H hb; clear hb)
  go_loopw [7] (fun v wr => ∃ out : List Int, Hid (Good lc.length out ∧ finG lc l out = finG lc l []) ∧ Hid (OwnS iv wr w.heap.size 2 1 v out) ∧ Below w.heap.size w wr) (fun v _ => lc.length - lenOf v)
  case atStart => exact ⟨[], ⟨Good.nil _, rfl⟩, OwnS.lit H.size, H.alloc H.size _⟩
  case round =>
    clear H
    obtain ⟨out, HG, HO, hb⟩ := hrel
    obtain ⟨wo, hwo⟩ : ∃ wo, wo = wr := ⟨_, rfl⟩
    subst hwo
    obtain ⟨g, cap, rfl, L, _, hg, hc⟩ := HO.out.lies
    replace L := Lib.hid L
    have K0' := Lib.hid (K0.out.below hb)
    have K1' := Lib.hid (K1.out.below hb)
    have HOP := Lib.hid (opened_any (some ⟨g0, 0, none⟩) c0 lc (some ⟨g, 0, none⟩) cap out wo K0'.out.rd (by rw [← fl_iv]; exact L.out.rd) HG.out.1.inn hc hn (by have := HG.out.1.le; omega))
    have HOL : (opL lc out).length ≤ 1048576 := Nat.le_trans (opK_le lc out out.length) (by have := HG.out.1.le; omega)
    have H := Below.refl wo.heap.size wo
    have HLE := lackL_le (cntL (opL lc out)) l
    have HS := Lib.hid (finG_stop (l := l) HG.out.1)
    have HP := Lib.hid (finG_step (l := l) HG.out.1)
    have HB := Lib.hid (best_good (l := l) HG.out.1 HZ.out)
    have HX : Hid (leftL lc l out = lackL (cntL (opL lc out)) l) := rfl
    have hgl := HG.out.1.le
    have HLK := fun A c W h b hb1 => lack_any A c (opL lc out) g1 0 c1 l W h b hb1 HOL (by omega)
    generalize lackL (cntL (opL lc out)) l = ll at HLE HX HLK
    replace HLK := Lib.hid HLK
    rw [HX.out] at HS HP HB
    rcases Nat.eq_zero_or_pos ll.length with h0 | h0
    · have HS2 := Lib.hid (HS.out (List.length_eq_zero_iff.1 h0))
      go_wp2_with (first | (go_at_call 85; with_reducible refine HOP.out.mono ?_; rintro e w2 ⟨v2, rfl, O2, hb2⟩; obtain ⟨g3, p3, rfl, KO, -⟩ := O2.lies; replace KO := Lib.hid KO; replace H := bstep H hb2; clear hb2 O2) | (go_at_call 84; with_reducible refine (HLK.out _ p3 _ KO.out.rd (K1'.out.below H).c (K1'.out.below H).lt).mono ?_; rintro e w3 ⟨v3, rfl, O3, hb3⟩; obtain ⟨g4, p4, rfl, KL, -⟩ := O3.lies; replace H := bstep H hb3; clear hb3 O3))
      rw [HF.out]
      exact bodyPost_ret (results_tt rfl) rfl ⟨_, rfl, by rw [← HG.out.2, HS2.out]; exact (HO.out.kept H).n, bstep hb H⟩
    · have hne : ll ≠ [] := fun q => by simp [q] at h0
      have HP2 := Lib.hid (HP.out hne)
      have HB2 := Lib.hid (HB.out hne)
      have hz : ((ll.length : Int) == 0) = false := by rw [beq_eq_false_iff_ne]; omega
      clear HP HB hne
      go_wp2_with (first | (go_at_call 85; with_reducible refine HOP.out.mono ?_; rintro e w2 ⟨v2, rfl, O2, hb2⟩; obtain ⟨g3, p3, rfl, KO, -⟩ := O2.lies; replace KO := Lib.hid KO; replace H := bstep H hb2; clear hb2 O2) | (go_at_call 84; with_reducible refine (HLK.out _ p3 _ KO.out.rd (K1'.out.below H).c (K1'.out.below H).lt).mono ?_; rintro e w3 ⟨v3, rfl, O3, hb3⟩; obtain ⟨g4, p4, rfl, KL, -⟩ := O3.lies; replace H := bstep H hb3; clear hb3 O3))
      replace KL := Lib.hid KL
      have K0i := Lib.hid (K0'.out.below H)
      have Lo := Lib.hid (L.out.below H)
      have HH := Lib.hid H
      clear H
      go_loopw [9, 10, 32] (fun b m i wr => ∃ k : Nat, k ≤ lc.length ∧ i = .int .i64 k ∧ b = .int .i64 (bestK lc ll out k).1 ∧ m = .int .i64 (bestK lc ll out k).2 ∧ Hid (Below w3.heap.size w3 wr)) (fun _ _ i _ => lc.length - (intOf i).toNat)
      case atStart => exact ⟨0, Nat.zero_le _, rfl, rfl, rfl, Below.refl _ _⟩
      case round =>
        obtain ⟨k, hk, rfl, rfl, rfl, HQ⟩ := hrel
        by_cases hlt : k < lc.length
        · have HXc := (K0i.out.below HQ.out).c.el cc_length hlt
          rw [Nat.zero_add] at HXc
          replace HXc := Lib.hid HXc
          have HKL := Lib.hid (KL.out.below HQ.out)
          have HLo := Lib.hid (Lo.out.below HQ.out)
          have HBK : Hid (bestK lc ll out (k + 1) = if (!out.contains (k : Int) && (decide ((bestK lc ll out k).1 < 0) || decide ((bestK lc ll out k).2 < useW lc[k]! ll))) = true then ((k : Int), useW lc[k]! ll) else bestK lc ll out k) := rfl
          have hlt2 : (k : Int) < (lc.length : Int) := by omega
          generalize lc[k]! = c at HXc HBK
          generalize bestK lc ll out k = p at HBK ⊢
          obtain ⟨bk, mk⟩ := p
          go_upto_region 12 with (first | (with_reducible refine wp_load_CAt rfl _ _ rfl _ _ rfl (cc c) HXc.out _ Try.underlying28 rfl (infoCl c) ?_) | ((with_reducible refine wp_store_rowOf rfl rfl _ _ _ rfl _ rfl (cc c).toArray rfl (cc zC).toArray ?hr (cc_size2 _ _) (infoC _) (cc_one _) ?_); (case hr => rw [rowOf_alloc, if_pos rfl]; rfl)))
          generalize hW1 : World.setRow _ _ _ = W1
          obtain ⟨HBx, r1, b1⟩ := laid_row (Below.refl wr.heap.size wr) hW1
          clear hW1
          have HQ1 := Lib.hid (bstep HQ.out HBx)
          have HKL1 := Lib.hid (HKL.out.below HBx)
          have HLo1 := Lib.hid (HLo.out.below HBx)
          generalize wr.heap.size = g9 at r1 b1 ⊢
          clear HXc HBx HKL HLo HQ
          have H := Below.refl W1.heap.size W1
          have hus := fun W h b => useful_any g4 0 p4 c ll W h b (by omega)
          have hcn := fun W h => Contains_int g 0 out.length cap out (k : Int) W h (Nat.le_refl _) (by omega)
          rw [List.take_length] at hcn
          generalize useW c ll = u at hus HBK
          generalize out.contains (k : Int) = r at hcn HBK
          cases r with
          | true =>
            have HBK2 := Lib.hid (show bestK lc ll out (k + 1) = (bk, mk) by rw [HBK.out]; rfl)
            clear HBK
            go_wp2_with (first | ((with_reducible refine wp_load_rowBg H ?_ _ _ rfl _ rfl _ r1 _ Try.underlying28 rfl (infoC c) ?_); rfl) | (go_at_call 86; with_reducible refine (hus _ (HKL1.out.below H).c (HKL1.out.below H).lt).mono ?_; rintro e w2 ⟨rfl, hb2⟩; replace H := bstep H hb2; clear hb2) | (go_at_call 87; with_reducible refine (hcn _ (by rw [← fl_iv]; exact (HLo1.out.below H).c)).mono ?_; rintro e w2 ⟨rfl, rfl⟩))
            go_roundw
            case rel => exact ⟨k + 1, by omega, by go_num, by rw [HBK2.out], by rw [HBK2.out], bstep HQ1.out H⟩
            case measure => simp [intOf]; omega
          | false =>
            by_cases hneg : bk < 0
            · have HBK2 := Lib.hid (show bestK lc ll out (k + 1) = ((k : Int), u) by rw [HBK.out]; simp [hneg])
              clear HBK
              go_wp2_with (first | ((with_reducible refine wp_load_rowBg H ?_ _ _ rfl _ rfl _ r1 _ Try.underlying28 rfl (infoC c) ?_); rfl) | (go_at_call 86; with_reducible refine (hus _ (HKL1.out.below H).c (HKL1.out.below H).lt).mono ?_; rintro e w2 ⟨rfl, hb2⟩; replace H := bstep H hb2; clear hb2) | (go_at_call 87; with_reducible refine (hcn _ (by rw [← fl_iv]; exact (HLo1.out.below H).c)).mono ?_; rintro e w2 ⟨rfl, rfl⟩))
              go_roundw
              case rel => exact ⟨k + 1, by omega, by go_num, by rw [HBK2.out], by rw [HBK2.out], bstep HQ1.out H⟩
              case measure => simp [intOf]; omega
            · by_cases hgt : mk < u
              · have HBK2 := Lib.hid (show bestK lc ll out (k + 1) = ((k : Int), u) by rw [HBK.out]; simp [hgt])
                clear HBK
                go_wp2_with (first | ((with_reducible refine wp_load_rowBg H ?_ _ _ rfl _ rfl _ r1 _ Try.underlying28 rfl (infoC c) ?_); rfl) | (go_at_call 86; with_reducible refine (hus _ (HKL1.out.below H).c (HKL1.out.below H).lt).mono ?_; rintro e w2 ⟨rfl, hb2⟩; replace H := bstep H hb2; clear hb2) | (go_at_call 87; with_reducible refine (hcn _ (by rw [← fl_iv]; exact (HLo1.out.below H).c)).mono ?_; rintro e w2 ⟨rfl, rfl⟩))
                go_roundw
                case rel => exact ⟨k + 1, by omega, by go_num, by rw [HBK2.out], by rw [HBK2.out], bstep HQ1.out H⟩
                case measure => simp [intOf]; omega
              · have HBK2 := Lib.hid (show bestK lc ll out (k + 1) = (bk, mk) by rw [HBK.out]; simp [hgt, hneg])
                clear HBK
                go_wp2_with (first | ((with_reducible refine wp_load_rowBg H ?_ _ _ rfl _ rfl _ r1 _ Try.underlying28 rfl (infoC c) ?_); rfl) | (go_at_call 86; with_reducible refine (hus _ (HKL1.out.below H).c (HKL1.out.below H).lt).mono ?_; rintro e w2 ⟨rfl, hb2⟩; replace H := bstep H hb2; clear hb2) | (go_at_call 87; with_reducible refine (hcn _ (by rw [← fl_iv]; exact (HLo1.out.below H).c)).mono ?_; rintro e w2 ⟨rfl, rfl⟩))
                go_roundw
                case rel => exact ⟨k + 1, by omega, by go_num, by rw [HBK2.out], by rw [HBK2.out], bstep HQ1.out H⟩
                case measure => simp [intOf]; omega
        · obtain rfl : k = lc.length := by omega
          have HO2 := Lib.hid (HO.out.kept (bstep HH.out HQ.out))
          have hb2 := Lib.hid (bstep hb (bstep HH.out HQ.out))
          have hB2 := HB2.out.le
          rw [List.length_append, List.length_singleton] at hB2
          have hG2 := HG.out.2
          replace HP2 := Lib.hid (HP2.out.symm.trans hG2)
          clear hG2
          generalize (bestK lc ll out lc.length).1 = bk at HP2 HB2 ⊢
          generalize (bestK lc ll out lc.length).2 = mk
          go_wp2_with (at_builtin; refine wp_app_num w.heap.size rfl _ _ rfl _ out bk rfl _ rfl ?hg ?HO ?hB ?hn ?_; (case hg => simp); (case HO => exact HO2.out); (case hB => exact hb2.out.size); (case hn => omega); intro v1 w1 hown hb3)
          obtain ⟨g8, cap8, rfl, -⟩ := hown.lies
          go_roundw
          case rel => exact ⟨out ++ [bk], ⟨HB2.out, HP2.out⟩, hown, hb2.out.trans hb3⟩
          case measure => show lc.length - (out ++ [bk]).length < lc.length - out.length; rw [List.length_append, List.length_singleton]; omega
theorem sGreedyOpen_any (g0 c0 : Nat) (lc : List Cr) (g1 c1 : Nat) (l : List Wt) (w : World) (K0 : Lies cc w g0 lc) (K1 : Lies wc w g1 l) (hn : lc.length ≤ 1048576) (hl : l.length ≤ 1048576) :
    Calls Try.prog 34 #[.slice (some ⟨g0, 0, none⟩) lc.length c0, .slice (some ⟨g1, 0, none⟩) l.length c1] w fun e w' => ∃ v, e = .returned (.tuple #[v, .int .i64 (greedyR lc l).2]) ∧ OwnN iv w' w.heap.size 2 1 v (greedyR lc l).1 ∧ Below w.heap.size w w' := by
  have H := Below.refl w.heap.size w
  replace K0 := Lib.hid K0
  replace K1 := Lib.hid K1
  rcases fillI_cases lc l with ⟨e, ha, hf⟩ | e | e
  rotate_left
  all_goals try (
    have HF := Lib.hid (show greedyR lc l = ([], fillI lc l) by rw [greedyR, if_neg (by rw [e]; decide)])
    have HI := Lib.hid e
    rw [HI.out] at HF
    clear e
    go_enter Try.func34, Try.ntmps34
    go_wp2_with (go_at_call 74; with_reducible refine (l02Filled_any g0 c0 lc g1 c1 l _ (K0.out.below H) (K1.out.below H) hn hl).mono ?_; rintro e w' ⟨rfl, hb⟩; rw [HI.out]; replace H := bstep H hb; clear hb)
    rw [HF.out]
    exact bodyPost_ret (results_tt rfl) rfl ⟨_, rfl, (OwnS.lit (f := iv) H.size).n, H.alloc H.size _⟩)
  have HF := Lib.hid (show greedyR lc l = (finG lc l [], 0) by rw [greedyR, if_pos e])
  have HI := Lib.hid e
  have HZ := Lib.hid hf
  have h8 := ask_le ha
  clear e ha hf
  go_enter Try.func34, Try.ntmps34
  go_wp2_with (go_at_call 74; with_reducible refine (l02Filled_any g0 c0 lc g1 c1 l _ (K0.out.below H) (K1.out.below H) hn hl).mono ?_; rintro e w' ⟨rfl, hb⟩; rw [HI.out]; replace H := bstep H hb; clear hb)
  go_loopw [7] (fun v wr => ∃ out : List Int, Hid (Good lc.length out ∧ finG lc l out = finG lc l []) ∧ Hid (OwnS iv wr w.heap.size 2 1 v out) ∧ Below w.heap.size w wr) (fun v _ => lc.length - lenOf v)
  case atStart => exact ⟨[], ⟨Good.nil _, rfl⟩, OwnS.lit H.size, H.alloc H.size _⟩
  case round =>
    clear H
    obtain ⟨out, HG, HO, hb⟩ := hrel
    obtain ⟨wo, hwo⟩ : ∃ wo, wo = wr := ⟨_, rfl⟩
    subst hwo
    obtain ⟨g, cap, rfl, L, _, hg, hc⟩ := HO.out.lies
    replace L := Lib.hid L
    have K0' := Lib.hid (K0.out.below hb)
    have K1' := Lib.hid (K1.out.below hb)
    have HOL : (opL lc out).length ≤ 1048576 := Nat.le_trans (opK_le lc out out.length) (by have := HG.out.1.le; omega)
    have H := Below.refl wo.heap.size wo
    have HLE := lackL_le (cntL (opL lc out)) l
    have HS := Lib.hid (finG_stop (l := l) HG.out.1)
    have HP := Lib.hid (finG_step (l := l) HG.out.1)
    have HB := Lib.hid (best_good (l := l) HG.out.1 HZ.out)
    have HX : Hid (leftL lc l out = lackL (cntL (opL lc out)) l) := rfl
    have hgl := HG.out.1.le
    have HLK := l02Lack_any (some ⟨g0, 0, none⟩) c0 lc g1 0 c1 l (some ⟨g, 0, none⟩) cap out wo K0'.out.rd K1'.out.c K1'.out.lt (by rw [← fl_iv]; exact L.out.rd) HG.out.1.inn hc hn (by omega) (by have := HG.out.1.le; omega)
    generalize lackL (cntL (opL lc out)) l = ll at HLE HX HLK
    replace HLK := Lib.hid HLK
    rw [HX.out] at HS HP HB
    rcases Nat.eq_zero_or_pos ll.length with h0 | h0
    · have HS2 := Lib.hid (HS.out (List.length_eq_zero_iff.1 h0))
      go_wp2_with (go_at_call 81; with_reducible refine HLK.out.mono ?_; rintro e w3 ⟨v3, rfl, O3, hb3⟩; obtain ⟨g4, p4, rfl, KL, -⟩ := O3.lies; replace H := bstep H hb3; clear hb3 O3)
      rw [HF.out]
      exact bodyPost_ret (results_tt rfl) rfl ⟨_, rfl, by rw [← HG.out.2, HS2.out]; exact (HO.out.kept H).n, bstep hb H⟩
    · have hne : ll ≠ [] := fun q => by simp [q] at h0
      have HP2 := Lib.hid (HP.out hne)
      have HB2 := Lib.hid (HB.out hne)
      have hz : ((ll.length : Int) == 0) = false := by rw [beq_eq_false_iff_ne]; omega
      clear HP HB hne
      go_wp2_with (go_at_call 81; with_reducible refine HLK.out.mono ?_; rintro e w3 ⟨v3, rfl, O3, hb3⟩; obtain ⟨g4, p4, rfl, KL, -⟩ := O3.lies; replace H := bstep H hb3; clear hb3 O3)
      replace KL := Lib.hid KL
      have K0i := Lib.hid (K0'.out.below H)
      have Lo := Lib.hid (L.out.below H)
      have HH := Lib.hid H
      clear H
      go_loopw [9, 10, 11] (fun b m i wr => ∃ k : Nat, k ≤ lc.length ∧ i = .int .i64 k ∧ b = .int .i64 (bestK lc ll out k).1 ∧ m = .int .i64 (bestK lc ll out k).2 ∧ Hid (Below w3.heap.size w3 wr)) (fun _ _ i _ => lc.length - (intOf i).toNat)
      case atStart => exact ⟨0, Nat.zero_le _, rfl, rfl, rfl, Below.refl _ _⟩
      case round =>
        obtain ⟨k, hk, rfl, rfl, rfl, HQ⟩ := hrel
        by_cases hlt : k < lc.length
        · have HXc := (K0i.out.below HQ.out).c.el cc_length hlt
          rw [Nat.zero_add] at HXc
          replace HXc := Lib.hid (⟨HXc, (K0i.out.below HQ.out).lt⟩ : _ ∧ _)
          have HKL := Lib.hid (KL.out.below HQ.out)
          have HLo := Lib.hid (Lo.out.below HQ.out)
          have HBK : Hid (bestK lc ll out (k + 1) = if (!out.contains (k : Int) && (decide ((bestK lc ll out k).1 < 0) || decide ((bestK lc ll out k).2 < useW lc[k]! ll))) = true then ((k : Int), useW lc[k]! ll) else bestK lc ll out k) := rfl
          have hlt2 : (k : Int) < (lc.length : Int) := by omega
          generalize lc[k]! = c at HXc HBK
          generalize bestK lc ll out k = p at HBK ⊢
          obtain ⟨bk, mk⟩ := p
          have H := Below.refl wr.heap.size wr
          have hus := fun W h h1 b b1 => l02Useful_any g0 (k * 24) g4 0 p4 c ll W h h1 b b1 (by omega)
          have hcn := fun W h => l00Has_rd (some ⟨g, 0, none⟩) cap out.length out (k : Int) W h rfl (by omega)
          generalize useW c ll = u at hus HBK
          generalize out.contains (k : Int) = r at hcn HBK
          cases r with
          | true =>
            have HBK2 := Lib.hid (show bestK lc ll out (k + 1) = (bk, mk) by rw [HBK.out]; rfl)
            clear HBK
            go_wp2_with (first | (go_at_call 83; with_reducible refine (hus _ (HXc.out.1.below H HXc.out.2) (Nat.lt_of_lt_of_le HXc.out.2 H.size) (HKL.out.below H).c (HKL.out.below H).lt).mono ?_; rintro e w2 ⟨rfl, hb2⟩; replace H := bstep H hb2; clear hb2) | (go_at_call 82; with_reducible refine (hcn _ (by rw [← fl_iv]; exact (HLo.out.below H).rd)).mono ?_; rintro e w2 ⟨rfl, rfl⟩))
            go_roundw
            case rel => exact ⟨k + 1, by omega, by go_num, by rw [HBK2.out], by rw [HBK2.out], bstep HQ.out H⟩
            case measure => simp [intOf]; omega
          | false =>
            by_cases hneg : bk < 0
            · have HBK2 := Lib.hid (show bestK lc ll out (k + 1) = ((k : Int), u) by rw [HBK.out]; simp [hneg])
              clear HBK
              go_wp2_with (first | (go_at_call 83; with_reducible refine (hus _ (HXc.out.1.below H HXc.out.2) (Nat.lt_of_lt_of_le HXc.out.2 H.size) (HKL.out.below H).c (HKL.out.below H).lt).mono ?_; rintro e w2 ⟨rfl, hb2⟩; replace H := bstep H hb2; clear hb2) | (go_at_call 82; with_reducible refine (hcn _ (by rw [← fl_iv]; exact (HLo.out.below H).rd)).mono ?_; rintro e w2 ⟨rfl, rfl⟩))
              go_roundw
              case rel => exact ⟨k + 1, by omega, by go_num, by rw [HBK2.out], by rw [HBK2.out], bstep HQ.out H⟩
              case measure => simp [intOf]; omega
            · by_cases hgt : mk < u
              · have HBK2 := Lib.hid (show bestK lc ll out (k + 1) = ((k : Int), u) by rw [HBK.out]; simp [hgt])
                clear HBK
                go_wp2_with (first | (go_at_call 83; with_reducible refine (hus _ (HXc.out.1.below H HXc.out.2) (Nat.lt_of_lt_of_le HXc.out.2 H.size) (HKL.out.below H).c (HKL.out.below H).lt).mono ?_; rintro e w2 ⟨rfl, hb2⟩; replace H := bstep H hb2; clear hb2) | (go_at_call 82; with_reducible refine (hcn _ (by rw [← fl_iv]; exact (HLo.out.below H).rd)).mono ?_; rintro e w2 ⟨rfl, rfl⟩))
                go_roundw
                case rel => exact ⟨k + 1, by omega, by go_num, by rw [HBK2.out], by rw [HBK2.out], bstep HQ.out H⟩
                case measure => simp [intOf]; omega
              · have HBK2 := Lib.hid (show bestK lc ll out (k + 1) = (bk, mk) by rw [HBK.out]; simp [hgt, hneg])
                clear HBK
                go_wp2_with (first | (go_at_call 83; with_reducible refine (hus _ (HXc.out.1.below H HXc.out.2) (Nat.lt_of_lt_of_le HXc.out.2 H.size) (HKL.out.below H).c (HKL.out.below H).lt).mono ?_; rintro e w2 ⟨rfl, hb2⟩; replace H := bstep H hb2; clear hb2) | (go_at_call 82; with_reducible refine (hcn _ (by rw [← fl_iv]; exact (HLo.out.below H).rd)).mono ?_; rintro e w2 ⟨rfl, rfl⟩))
                go_roundw
                case rel => exact ⟨k + 1, by omega, by go_num, by rw [HBK2.out], by rw [HBK2.out], bstep HQ.out H⟩
                case measure => simp [intOf]; omega
        · obtain rfl : k = lc.length := by omega
          have HO2 := Lib.hid (HO.out.kept (bstep HH.out HQ.out))
          have hb2 := Lib.hid (bstep hb (bstep HH.out HQ.out))
          have hB2 := HB2.out.le
          rw [List.length_append, List.length_singleton] at hB2
          have hG2 := HG.out.2
          replace HP2 := Lib.hid (HP2.out.symm.trans hG2)
          clear hG2
          generalize (bestK lc ll out lc.length).1 = bk at HP2 HB2 ⊢
          generalize (bestK lc ll out lc.length).2 = mk
          go_wp2_with (at_builtin; refine wp_app_num w.heap.size rfl _ _ rfl _ out bk rfl _ rfl ?hg ?HO ?hB ?hn ?_; (case hg => simp); (case HO => exact HO2.out); (case hB => exact hb2.out.size); (case hn => omega); intro v1 w1 hown hb3)
          obtain ⟨g8, cap8, rfl, -⟩ := hown.lies
          go_roundw
          case rel => exact ⟨out ++ [bk], ⟨HB2.out, HP2.out⟩, hown, hb2.out.trans hb3⟩
          case measure => show lc.length - (out ++ [bk]).length < lc.length - out.length; rw [List.length_append, List.length_singleton]; omega
end Go.Proofs.Ytnhpgahapjjjbaa
