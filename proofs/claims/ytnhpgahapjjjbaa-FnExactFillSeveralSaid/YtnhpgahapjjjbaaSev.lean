/- Contracts of FillSeveral. -/
import Derived.Test.YtnhpgahapjjjbaaSevP
import Derived.Test.YtnhpgahapjjjbaaNestW
import Derived.Test.YtnhpgahapjjjbaaFillO
namespace Go.Proofs.Ytnhpgahapjjjbaa
open Go.RowKit
set_option linter.unusedVariables false
set_option linter.unusedSimpArgs false
set_option maxRecDepth 100000
set_option maxHeartbeats 4000000
attribute [local go_sem] Oper.qB
theorem wp_app_num3 {ops : Array Oper} {rest : List Oper} {o : Oper} {a : Act} {Q : Exit → Act → World → Prop} {W : World} (B : Nat) (hgd : o.guard = none) (s x : Operand) (ho : o.op = .call { callee := .builtin .append, args := #[s, x], argTypes := #[47, 47] })
    (v : Value) (l : List Int) (y : Int) (hs : a.eval s = v) (g : Nat) (hx : a.eval x = .slice (some ⟨g, 0, none⟩) 1 1) (hg : g = W.heap.size)
    (HO : OwnS iv W B 2 1 v l) (hB : B ≤ W.heap.size) (hn : l.length ≤ 100000000)
    (h : ∀ v1 w1, OwnS iv w1 B 2 1 v1 (l ++ [y]) → (Below B W w1 ∧ ButV v W w1 ∧ Away v v1 W) → wpList Try.prog ops Q rest (a.put o.dst v1) w1) : wpList Try.prog ops Q (o :: rest) a (W.alloc (.cells #[.int .i64 y] 2)) :=
  wp_app3 (P := Try.prog) B hgd s x 47 2 ho (.int .i64 0) 1 8 Try.underlying47 info64 rfl (by decide) v l.length (fl iv l) [.int .i64 y] hs g hx hg rfl (by simp [Value.oneCell']) HO.1 hB (by omega) (by decide)
    (fun v1 w1 h1 h2 => h v1 w1 (OwnS.grown (by rw [List.length_append, fl_append, fl_one]; exact h1)) h2)
theorem Sev1_any (g1 c1 : Nat) (l : List Wt) (w : World) (K : Lies wc w g1 l) (hl : l.length ≤ 1048576) : Calls Try.prog 99 #[.slice (some ⟨g1, 0, none⟩) l.length c1] w fun e w' => e = .returned (.bool (!ordOk l)) ∧ Below w.heap.size w w' := by
  have H := Below.refl w.heap.size w
  replace K := Lib.hid K
  go_enter Try.func99, Try.ntmps99
  go_wp2_with (go_at_call 100; with_reducible refine (ValidOrder_any g1 0 c1 l _ (K.out.below H).c (K.out.below H).lt (by omega)).mono ?_; rintro e w' ⟨rfl, hb⟩; replace H := bstep H hb; clear hb; have hc := bcell H)
  go_ret
  exact ⟨rfl, H⟩
theorem IndexFunc_wss (B T : Nat) (v : Value) (os : List (List Wt)) (w : World) (KO : OwnA wc 3 100 42 w B T v os) (hl : os.length ≤ 1048576) (ht : tot os ≤ 1048576) :
    Calls Try.prog 136 #[v, .func (.func 99) #[] #[]] w fun e w' => (∃ r : Int, e = .returned (.int .i64 r) ∧ decide (0 ≤ r) = !(os.all ordOk) ∧ -1 ≤ r ∧ r ≤ 1048576) ∧ Below w.heap.size w w' := by
  obtain ⟨g, c, rfl⟩ := KO.form
  replace KO := Lib.hid KO
  go_enter Try.func136, Try.ntmps136
  go_wp2
  go_loopw [8] (fun i wr => ∃ k : Nat, k ≤ os.length ∧ i = .int .i64 k ∧ Hid (∀ i, i < k → ordOk os[i]! = true) ∧ Below w.heap.size w wr) (fun i _ => os.length - (intOf i).toNat)
  case atStart => exact ⟨0, Nat.zero_le _, rfl, fun i hi => absurd hi (Nat.not_lt_zero _), Below.refl _ _⟩
  case round =>
    obtain ⟨k, hk, rfl, HA, hb⟩ := hrel
    by_cases hlt : k < os.length
    · obtain ⟨hg, g1, c1, X0, L0, -⟩ := (KO.out.kept hb).el hlt
      have hel := tot_el hlt
      have hlt2 : (k : Int) < (os.length : Int) := by omega
      have hmem : Hid (os[k]! ∈ os) := by rw [Hid, getB hlt]; exact List.getElem_mem hlt
      generalize hle : os[k]! = l at *
      replace hle := Lib.hid hle
      have HS1 := fun W hW => Sev1_any g1 c1 l W (L0.below hW) (by omega)
      replace HS1 := Lib.hid HS1
      have H := Below.refl wr.heap.size wr
      cases e1 : ordOk l with
      | true =>
        have e2 := Lib.hid (show (!ordOk l) = false by rw [e1]; rfl)
        go_wp2_with (go_at_call 99; with_reducible refine (HS1.out _ H).mono ?_; rintro e w1 ⟨rfl, hb1⟩; rw [e2.out])
        go_roundw
        case rel => exact ⟨k + 1, by omega, by go_num, fun i hi => by
          rcases Nat.lt_or_ge i k with q | q
          · exact HA.out i q
          · obtain rfl : i = k := by omega
            rw [hle.out]
            exact e1, bstep hb hb1⟩
        case measure => simp [intOf]; omega
      | false =>
        have e2 := Lib.hid (show (!ordOk l) = true by rw [e1]; rfl)
        have HN := Lib.hid (show os.all ordOk = false from List.all_eq_false.2 ⟨l, hmem.out, by simp [e1]⟩)
        clear e1
        go_wp2_with (go_at_call 99; with_reducible refine (HS1.out _ H).mono ?_; rintro e w1 ⟨rfl, hb1⟩; rw [e2.out])
        go_ret
        exact ⟨⟨(k : Int), rfl, by rw [HN.out]; simp, by omega, by omega⟩, bstep hb hb1⟩
    · obtain rfl : k = os.length := by omega
      have HN := Lib.hid (show os.all ordOk = true from List.all_eq_true.2 fun x hx => by
        obtain ⟨i, hi, rfl⟩ := List.getElem_of_mem hx
        rw [← getB hi]
        exact HA.out i hi)
      go_wp2
      go_ret
      exact ⟨⟨-1, rfl, by rw [HN.out]; rfl, by omega, by omega⟩, hb⟩
theorem ContainsFunc_wss (B T : Nat) (v : Value) (os : List (List Wt)) (w : World) (KO : OwnA wc 3 100 42 w B T v os) (hl : os.length ≤ 1048576) (ht : tot os ≤ 1048576) :
    Calls Try.prog 98 #[v, .func (.func 99) #[] #[]] w fun e w' => e = .returned (.bool (!(os.all ordOk))) ∧ Below w.heap.size w w' := by
  have HI := Lib.hid (fun W hW => IndexFunc_wss B T v os W (KO.kept hW) hl ht)
  have H := Below.refl w.heap.size w
  go_enter Try.func98, Try.ntmps98
  go_wp2_with (go_at_call 136; with_reducible refine (HI.out _ H).mono ?_; rintro e w1 ⟨⟨r, rfl, hr, -, -⟩, hb⟩; replace hr := Lib.hid hr)
  go_ret
  exact ⟨ret_bool hr.out, hb⟩
theorem FillSeveral_any (g0 c0 : Nat) (lc : List Cr) (B T : Nat) (v : Value) (os : List (List Wt)) (w : World) (K0 : Lies cc w g0 lc) (KO : OwnA wc 3 100 42 w B T v os) (hn : lc.length ≤ 1048576) (hl : os.length ≤ 1048576) (ht : tot os ≤ 1048576) :
    Calls Try.prog 50 #[.slice (some ⟨g0, 0, none⟩) lc.length c0, v] w fun e w' => ∃ v u, e = .returned (.tuple #[v, u, .int .i64 (sevR lc os).2.2]) ∧ OwnN cc w' w.heap.size 28 24 v (sevR lc os).1 ∧ OwnN iv w' w.heap.size 2 1 u (sevR lc os).2.1 ∧ Below w.heap.size w w' := by
  obtain ⟨g1, c1, rfl⟩ := KO.form
  have H := Below.refl w.heap.size w
  replace K0 := Lib.hid K0
  replace KO := Lib.hid KO
  have HCF := Lib.hid (fun W hW => ContainsFunc_wss B T _ os W (KO.out.kept hW) hl ht)
  have HVS := Lib.hid (fun W (hW : Below w.heap.size w W) => ValidStack_any g0 0 c0 lc W (K0.out.below hW).c (K0.out.below hW).lt (by omega))
  cases e1 : stackOk lc with
  | false =>
    have HF := Lib.hid (show sevR lc os = ([], [], 1) by simp [sevR, sevI, e1])
    have e2 := Lib.hid e1
    clear e1
    go_enter Try.func50, Try.ntmps50
    go_wp2_with (go_at_call 97; with_reducible refine (HVS.out _ H).mono ?_; rintro e w' ⟨rfl, hb⟩; rw [e2.out]; replace H := bstep H hb; clear hb)
    rw [HF.out]
    exact bodyPost_ret (results_ttt rfl) rfl ⟨_, _, rfl, OwnN.nil, OwnN.nil, H⟩
  | true =>
    cases e2 : os.all ordOk with
    | false =>
      have HF := Lib.hid (show sevR lc os = ([], [], 1) by simp [sevR, sevI, e1, e2])
      have e3 := Lib.hid e1
      have e4 := Lib.hid (show (!(os.all ordOk)) = true by rw [e2]; rfl)
      clear e1 e2
      go_enter Try.func50, Try.ntmps50
      go_wp2_with (first | (go_at_call 97; with_reducible refine (HVS.out _ H).mono ?_; rintro e w' ⟨rfl, hb⟩; rw [e3.out]; replace H := bstep H hb; clear hb) | (go_at_call 98; with_reducible refine (HCF.out _ H).mono ?_; rintro e w' ⟨rfl, hb⟩; rw [e4.out]; replace H := bstep H hb; clear hb))
      rw [HF.out]
      exact bodyPost_ret (results_ttt rfl) rfl ⟨_, _, rfl, OwnN.nil, OwnN.nil, H⟩
    | true =>
      have e3 := Lib.hid e1
      have e4 := Lib.hid (show (!(os.all ordOk)) = false by rw [e2]; rfl)
      have e5 := Lib.hid e2
      by_cases h20 : 20 < os.length
      · have HF := Lib.hid (show sevR lc os = ([], [], 3) by simp [sevR, sevI, e1, e2, h20])
        have h20i : (20 : Int) < (os.length : Int) := by omega
        clear e1 e2
        go_enter Try.func50, Try.ntmps50
        go_wp2_with (first | (go_at_call 97; with_reducible refine (HVS.out _ H).mono ?_; rintro e w' ⟨rfl, hb⟩; rw [e3.out]; replace H := bstep H hb; clear hb) | (go_at_call 98; with_reducible refine (HCF.out _ H).mono ?_; rintro e w' ⟨rfl, hb⟩; rw [e4.out]; replace H := bstep H hb; clear hb))
        rw [HF.out]
        exact bodyPost_ret (results_ttt rfl) rfl ⟨_, _, rfl, OwnN.nil, OwnN.nil, H⟩
      · have HF := Lib.hid (show sevR lc os = ((sevK lc os os.length).1, (sevK lc os os.length).2, 0) by simp [sevR, sevI, e1, e2, h20])
        have h20i : ¬ (20 : Int) < (os.length : Int) := by omega
        have h12 : lc.length ≤ 12 := by simp only [stackOk, Bool.and_eq_true, decide_eq_true_iff] at e1; exact e1.1
        have HCL := Lib.hid (fun W (hW : Below w.heap.size w W) => Clone_cr g0 0 c0 lc W (K0.out.below hW).c (by omega))
        clear e1 e2
        go_enter Try.func50, Try.ntmps50
        go_wp2_with (first | (go_at_call 97; with_reducible refine (HVS.out _ H).mono ?_; rintro e w' ⟨rfl, hb⟩; rw [e3.out]; replace H := bstep H hb; clear hb) | (go_at_call 98; with_reducible refine (HCF.out _ H).mono ?_; rintro e w' ⟨rfl, hb⟩; rw [e4.out]; replace H := bstep H hb; clear hb) | (go_at_call 101; with_reducible refine (HCL.out _ H).mono ?_; rintro e w1 ⟨v1, rfl, O1, hb⟩; replace O1 := Lib.hid (O1.down H.size); replace H := bstep H hb; clear hb))
        go_loopw [7, 8, 28] (fun s f i wr => ∃ k : Nat, k ≤ os.length ∧ i = .int .i64 k ∧ Hid (OwnS cc wr w.heap.size 28 24 s (sevK lc os k).1) ∧ Hid (OwnS iv wr w.heap.size 2 1 f (sevK lc os k).2) ∧ Below w.heap.size w wr) (fun _ _ i _ => os.length - (intOf i).toNat)
        case atStart => exact ⟨0, Nat.zero_le _, rfl, O1.out.kept ((Below.refl _ _).alloc (Nat.le_refl _) _), OwnS.lit H.size, H.alloc H.size _⟩
        case round =>
          clear O1 H HCL HCF HVS
          obtain ⟨k, hk, rfl, HS, HT, hb⟩ := hrel
          obtain ⟨wo, hwo⟩ : ∃ wo, wo = wr := ⟨_, rfl⟩
          subst hwo
          by_cases hlt : k < os.length
          · obtain ⟨hg1, g2, c2, x0, L2, -⟩ := (KO.out.kept hb).el hlt
            have HSV : Hid (sevK lc os (k + 1) = if (fewS (sevK lc os k).1 os[k]!).2 = true then ((outL (sevK lc os k).1 os[k]! (fewS (sevK lc os k).1 os[k]!).1).1, (sevK lc os k).2 ++ [(k : Int)]) else sevK lc os k) := rfl
            have hok : ordOk os[k]! = true := List.all_eq_true.1 e5.out _ (by rw [getB hlt]; exact List.getElem_mem hlt)
            have hst := sevK_ok os e3.out k
            have hsl := sevK_len lc os k
            have hfl := sevK_le lc os k
            have hlt2 : (k : Int) < (os.length : Int) := by omega
            generalize os[k]! = l at x0 L2 HSV hok
            generalize sevK lc os k = r at HSV HS HT hst hsl hfl ⊢
            obtain ⟨st, fd⟩ := r
            replace HS : Hid (OwnS cc wo w.heap.size 28 24 u7 st) := HS
            replace HT : Hid (OwnS iv wo w.heap.size 2 1 u8 fd) := HT
            replace hst : stackOk st = true := hst
            replace hsl : st.length = lc.length := hsl
            replace hfl : fd.length ≤ k := hfl
            replace HSV : Hid (sevK lc os (k + 1) = if (fewS st l).2 = true then ((outL st l (fewS st l).1).1, fd ++ [(k : Int)]) else (st, fd)) := HSV
            have h8 := ask_le (show askOk st l = true by simp [askOk, hst, hok])
            have HN := Lib.hid (ok_nonneg hok)
            have HG := Lib.hid (fewS_good (lc := st) (l := l))
            have HFL := Lib.hid (fewS_le st l)
            obtain ⟨gs, ps, hv7, LS, hBs, hgs, hcs⟩ := HS.out.lies
            subst hv7
            replace LS := Lib.hid LS
            replace L2 := Lib.hid L2
            have H := Below.refl wo.heap.size wo
            have HFI : fillI st l = if lackL (cntL st) l = [] then 0 else 6 := by simp [fillI, askOk, hst, hok]
            have HFC := Lib.hid (fun W (hW : Below wo.heap.size wo W) => fillCode_any gs ps st g2 c2 l W (LS.out.below hW) (L2.out.below hW) (by omega) (by omega))
            replace hsl := Lib.hid hsl
            replace hst := Lib.hid hst
            replace hok := Lib.hid hok
            cases hfd : (fewS st l).2 with
            | false =>
              have HE := Lib.hid (show sevK lc os (k + 1) = (st, fd) by rw [HSV.out, if_neg (by rw [hfd]; decide)])
              have HI := Lib.hid (show fillI st l = 6 by rw [HFI, if_neg (fun q => by rw [fewS_found q] at hfd; cases hfd)])
              clear HSV HFI hfd
              go_wp2_with (go_at_call 78; with_reducible refine (HFC.out _ H).mono ?_; rintro e w' ⟨rfl, hb2⟩; rw [HI.out]; replace H := bstep H hb2; clear hb2)
              go_roundw
              case rel => exact ⟨k + 1, by omega, by go_num, by rw [HE.out]; exact HS.out.kept H, by rw [HE.out]; exact HT.out.kept H, bstep hb H⟩
              case measure => simp [intOf]; omega
            | true =>
              have hlk := fewS_none hfd
              have HE := Lib.hid (show sevK lc os (k + 1) = ((outL st l (fewS st l).1).1, fd ++ [(k : Int)]) by rw [HSV.out, if_pos hfd])
              have HI := Lib.hid (show fillI st l = 0 by rw [HFI, if_pos hlk])
              have HFW := fun W (hW : Below wo.heap.size wo W) => fewest_any (some ⟨gs, 0, none⟩) ps st g2 0 c2 l W (LS.out.below hW).rd (L2.out.below hW).c (L2.out.below hW).lt h8.1 h8.2 hlk
              clear HSV HFI hfd hlk
              generalize (fewS st l).1 = ks at HE HFW HG HFL
              have HTO := Lib.hid (fun A c W (hW : Below wo.heap.size wo W) hr => takeOut_any gs ps st g2 0 c2 l A c ks W (LS.out.below hW) (L2.out.below hW).c (L2.out.below hW).lt hr HG.out.inn h8.1 h8.2 HN.out (by have := HFL.out; omega))
              replace HFW := Lib.hid HFW
              go_upto_region 11 with (first | (go_at_call 78; with_reducible refine (HFC.out _ H).mono ?_; rintro e w' ⟨rfl, hb2⟩; rw [HI.out]; replace H := bstep H hb2; clear hb2) | (go_at_call 79; with_reducible refine (HFW.out _ H).mono ?_; rintro e w2 ⟨v2, rfl, O2, hb2⟩; obtain ⟨A2, p2, rfl, -, hrd⟩ := O2.rd; rw [fl_iv] at hrd; replace hrd := Lib.hid hrd; replace H := bstep H hb2; clear hb2 O2) | (go_at_call 91; with_reducible refine (HTO.out _ _ _ H hrd.out).mono ?_; rintro e w3 ⟨v3, u3, rfl, O3, P3, hb2⟩; replace O3 := Lib.hid (O3.down (Nat.le_trans hb.size H.size)); replace H := bstep H hb2; clear hb2 P3))
              have HT3 := Lib.hid (HT.out.kept H)
              have hb3 := bstep hb H
              have hfn : fd.length ≤ 1000 := by omega
              go_wp2_with (at_builtin; refine wp_app_num3 w.heap.size rfl _ _ rfl _ fd (k : Int) rfl _ rfl ?hg ?HO ?hB ?hn ?_; (case hg => simp); (case HO => exact HT3.out); (case hB => exact hb3.size); (case hn => omega); intro v5 w5 hown hb5)
              go_roundw
              case rel => exact ⟨k + 1, by omega, by go_num, by rw [HE.out]; exact ⟨O3.out.n.but hb5.2.1 (apart_types HT3.out.n O3.out.n (by decide)), O3.out.2⟩, by rw [HE.out]; exact hown, hb3.trans hb5.1⟩
              case measure => simp [intOf]; omega
          · obtain rfl : k = os.length := by omega
            go_wp2
            rw [HF.out]
            exact bodyPost_ret (results_ttt rfl) rfl ⟨_, _, rfl, HS.out.n, HT.out.n, hb⟩
def askT (lc : List Cr) (os : List (List Wt)) (k : Nat) : Int := if (stackOk lc && (os.take k).all ordOk) = true then 0 else 1
theorem ordOk_nil : ordOk [] = true := by simp [ordOk, okK]
theorem take_all {os : List (List Wt)} {k : Nat} (h : k < os.length) : (os.take (k + 1)).all ordOk = ((os.take k).all ordOk && ordOk os[k]!) := by
  rw [List.take_succ_eq_append_getElem h, List.all_append, getB h]
  simp
theorem take_all_no {os : List (List Wt)} {k : Nat} (h : (os.take k).all ordOk = false) : os.all ordOk = false := by
  rw [← Bool.not_eq_true, List.all_eq_true] at h ⊢
  exact fun q => h fun x hx => q x (List.mem_of_mem_take hx)
theorem sFillSeveral_any (g0 c0 : Nat) (lc : List Cr) (B T : Nat) (v : Value) (os : List (List Wt)) (w : World) (K0 : Lies cc w g0 lc) (KO : OwnA wc 3 100 42 w B T v os) (hn : lc.length ≤ 1048576) (hl : os.length ≤ 1048576) (ht : tot os ≤ 1048576) :
    Calls Try.prog 48 #[.slice (some ⟨g0, 0, none⟩) lc.length c0, v] w fun e w' => ∃ v u, e = .returned (.tuple #[v, u, .int .i64 (sevR lc os).2.2]) ∧ OwnN cc w' w.heap.size 28 24 v (sevR lc os).1 ∧ OwnN iv w' w.heap.size 2 1 u (sevR lc os).2.1 ∧ Below w.heap.size w w' := by
  obtain ⟨g1, c1, rfl⟩ := KO.form
  have H := Below.refl w.heap.size w
  replace K0 := Lib.hid K0
  replace KO := Lib.hid KO
  have HA0 : Hid (∀ W b, Below w.heap.size w W → b < W.heap.size → Calls Try.prog 96 #[.slice (some ⟨g0, 0, none⟩) lc.length c0, .slice (some ⟨b, 0, none⟩) 0 0] W fun e w' => e = .returned (.int .i64 (askT lc os 0)) ∧ Below W.heap.size W w') := fun W b hW hb => by
    have := l02Asked_any g0 c0 lc b 0 0 [] W (K0.out.below hW) (fun i v h => by simp [fl] at h) hb hn (by simp)
    rw [show askI lc [] = askT lc os 0 by simp [askI, askOk, ordOk_nil, askT]] at this
    exact this
  go_enter Try.func48, Try.ntmps48
  go_wp2_with (go_at_call 96; with_reducible refine (HA0.out _ _ (H.alloc H.size _) (by simp)).mono ?_; rintro e w' ⟨rfl, hb⟩; replace H := bstep (H.alloc H.size _) hb; clear hb)
  go_loopw [7, 8] (fun cd i wr => ∃ k : Nat, k ≤ os.length ∧ i = .int .i64 k ∧ cd = .int .i64 (askT lc os k) ∧ Hid (Below w.heap.size w wr)) (fun _ i _ => os.length - (intOf i).toNat)
  case atStart => exact ⟨0, Nat.zero_le _, rfl, rfl, H⟩
  case round =>
    clear H HA0
    obtain ⟨k, hk, rfl, rfl, HQ⟩ := hrel
    cases hc : (stackOk lc && (os.take k).all ordOk) with
    | false =>
      have h1 : askT lc os k = 1 := by simp [askT, hc]
      have HF := Lib.hid (show sevR lc os = ([], [], 1) by
        have hno : (stackOk lc && os.all ordOk) = false := by
          rw [Bool.and_eq_false_iff] at hc ⊢
          exact hc.imp id take_all_no
        simp [sevR, sevI, hno])
      rw [h1]
      clear hc h1
      have H := HQ.out
      by_cases hlt : k < os.length
      · have hlt2 : (k : Int) < (os.length : Int) := by omega
        go_wp2
        rw [HF.out]
        have o1 := ((OwnS.lit (f := cc) (e := 28) (size := 24) H.size).n).below ((Below.refl _ _).alloc (Nat.le_refl _) (.cells #[] 2))
        have o2 := (OwnS.lit (f := iv) (e := 2) (size := 1) (H.alloc H.size (.cells #[] 28)).size).n
        rw [World.size_alloc] at o2
        have hz := (H.alloc H.size (.cells #[] 28)).alloc (H.alloc H.size (.cells #[] 28)).size (.cells #[] 2)
        exact bodyPost_ret (results_ttt rfl) rfl ⟨_, _, rfl, o1, o2, hz⟩
      · have hlt2 : ¬ (k : Int) < (os.length : Int) := by omega
        go_wp2
        rw [HF.out]
        have o1 := ((OwnS.lit (f := cc) (e := 28) (size := 24) H.size).n).below ((Below.refl _ _).alloc (Nat.le_refl _) (.cells #[] 2))
        have o2 := (OwnS.lit (f := iv) (e := 2) (size := 1) (H.alloc H.size (.cells #[] 28)).size).n
        rw [World.size_alloc] at o2
        have hz := (H.alloc H.size (.cells #[] 28)).alloc (H.alloc H.size (.cells #[] 28)).size (.cells #[] 2)
        exact bodyPost_ret (results_ttt rfl) rfl ⟨_, _, rfl, o1, o2, hz⟩
    | true =>
      have h1 : askT lc os k = 0 := by simp [askT, hc]
      rw [Bool.and_eq_true] at hc
      have e3 := Lib.hid hc.1
      by_cases hlt : k < os.length
      · obtain ⟨hg1, g2, c2, x0, L2, -⟩ := (KO.out.kept HQ.out).el hlt
        have hel := tot_el hlt
        have HNX : Hid (askT lc os (k + 1) = askI lc os[k]!) := by
          show askT lc os (k + 1) = askI lc os[k]!
          unfold askT askI askOk
          rw [take_all hlt, hc.1, hc.2]
          simp
        have hlt2 : (k : Int) < (os.length : Int) := by omega
        generalize os[k]! = l at x0 L2 hel HNX
        have HA := Lib.hid (fun W hW => l02Asked_any g0 c0 lc g2 0 c2 l W ((K0.out.below HQ.out).below hW) (L2.below hW).c (L2.below hW).lt hn (by omega))
        have H := Below.refl wr.heap.size wr
        clear hc L2
        rw [h1]
        clear h1
        go_wp2_with (go_at_call 96; with_reducible refine (HA.out _ H).mono ?_; rintro e w' ⟨rfl, hb⟩; rw [← HNX.out]; replace H := bstep H hb; clear hb)
        go_roundw
        case rel => exact ⟨k + 1, by omega, by go_num, rfl, bstep HQ.out H⟩
        case measure => simp [intOf]; omega
      · obtain rfl : k = os.length := by omega
        have hal : os.all ordOk = true := by
          have := hc.2
          rwa [List.take_length] at this
        have e5 := Lib.hid hal
        have h12 : lc.length ≤ 12 := by have := hc.1; simp only [stackOk, Bool.and_eq_true, decide_eq_true_iff] at this; exact this.1
        have hc1 := hc.1
        have H := HQ.out
        by_cases h20 : 20 < os.length
        · have HF := Lib.hid (show sevR lc os = ([], [], 3) by simp [sevR, sevI, hc1, hal, h20])
          have h20i : (20 : Int) < (os.length : Int) := by omega
          clear hc hc1 hal
          rw [h1]
          clear h1
          go_wp2
          rw [HF.out]
          have o1 := ((OwnS.lit (f := cc) (e := 28) (size := 24) H.size).n).below ((Below.refl _ _).alloc (Nat.le_refl _) (.cells #[] 2))
          have o2 := (OwnS.lit (f := iv) (e := 2) (size := 1) (H.alloc H.size (.cells #[] 28)).size).n
          rw [World.size_alloc] at o2
          have hz := (H.alloc H.size (.cells #[] 28)).alloc (H.alloc H.size (.cells #[] 28)).size (.cells #[] 2)
          exact bodyPost_ret (results_ttt rfl) rfl ⟨_, _, rfl, o1, o2, hz⟩
        · have HF := Lib.hid (show sevR lc os = ((sevK lc os os.length).1, (sevK lc os os.length).2, 0) by simp [sevR, sevI, hc1, hal, h20])
          have h20i : ¬ (20 : Int) < (os.length : Int) := by omega
          have KW := Lib.hid (K0.out.below H)
          clear hc hc1 hal
          rw [h1]
          clear h1
          go_upto_region 11 with (at_builtin; refine wp_app_el (f := cc) wr.heap.size rfl _ _ 40 28 rfl (.agg (cc zC).toArray) 24 48 Try.underlying40 infoCrS (cc_size2 zC zC) (by decide) cc_length (fun c u hu => cc_one c u (by simpa using hu)) _ [] rfl g0 c0 lc rfl ?hO ?hY ?hB ?hn (by decide) ?_; (case hO => exact OwnS.lit (Nat.le_refl _)); (case hY => exact KW.out.below ((Below.refl _ wr).alloc (Nat.le_refl _) _)); (case hB => simp); (case hn => simp; omega); intro v1 w1 O1 hb0)
          rw [List.nil_append] at O1
          replace O1 := Lib.hid (O1.down H.size)
          have hb1 := bstep H (((Below.refl wr.heap.size wr).alloc (Nat.le_refl _) _).trans hb0.1)
          clear hb0 KW H
          go_wp2
          go_loopw [9, 10, 11] (fun s f i wr => ∃ k : Nat, k ≤ os.length ∧ i = .int .i64 k ∧ Hid (OwnS cc wr w.heap.size 28 24 s (sevK lc os k).1) ∧ Hid (OwnS iv wr w.heap.size 2 1 f (sevK lc os k).2) ∧ Below w.heap.size w wr) (fun _ _ i _ => os.length - (intOf i).toNat)
          case atStart => exact ⟨0, Nat.zero_le _, rfl, O1.out.kept ((Below.refl _ _).alloc (Nat.le_refl _) _), OwnS.lit hb1.size, hb1.alloc hb1.size _⟩
          case round =>
            clear O1 hb1 HQ
            obtain ⟨k, hk, rfl, HS, HT, hb⟩ := hrel
            obtain ⟨wo, hwo⟩ : ∃ wo, wo = wr := ⟨_, rfl⟩
            subst hwo
            by_cases hlt : k < os.length
            · obtain ⟨hg1, g2, c2, x0, L2, -⟩ := (KO.out.kept hb).el hlt
              have HSV : Hid (sevK lc os (k + 1) = if (fewS (sevK lc os k).1 os[k]!).2 = true then ((outL (sevK lc os k).1 os[k]! (fewS (sevK lc os k).1 os[k]!).1).1, (sevK lc os k).2 ++ [(k : Int)]) else sevK lc os k) := rfl
              have hok : ordOk os[k]! = true := List.all_eq_true.1 e5.out _ (by rw [getB hlt]; exact List.getElem_mem hlt)
              have hst := sevK_ok os e3.out k
              have hsl := sevK_len lc os k
              have hfl := sevK_le lc os k
              have hlt2 : (k : Int) < (os.length : Int) := by omega
              generalize os[k]! = l at x0 L2 HSV hok
              generalize sevK lc os k = r at HSV HS HT hst hsl hfl ⊢
              obtain ⟨st, fd⟩ := r
              replace HS : Hid (OwnS cc wo w.heap.size 28 24 u9 st) := HS
              replace HT : Hid (OwnS iv wo w.heap.size 2 1 u10 fd) := HT
              replace hst : stackOk st = true := hst
              replace hsl : st.length = lc.length := hsl
              replace hfl : fd.length ≤ k := hfl
              replace HSV : Hid (sevK lc os (k + 1) = if (fewS st l).2 = true then ((outL st l (fewS st l).1).1, fd ++ [(k : Int)]) else (st, fd)) := HSV
              have h8 := ask_le (show askOk st l = true by simp [askOk, hst, hok])
              have HN := Lib.hid (ok_nonneg hok)
              have HG := Lib.hid (fewS_good (lc := st) (l := l))
              have HFL := Lib.hid (fewS_le st l)
              obtain ⟨gs, ps, hv7, LS, hBs, hgs, hcs⟩ := HS.out.lies
              subst hv7
              replace LS := Lib.hid LS
              replace L2 := Lib.hid L2
              have H := Below.refl wo.heap.size wo
              have HFW := fun W (hW : Below wo.heap.size wo W) => l02Fewest_any (some ⟨gs, 0, none⟩) ps st g2 0 c2 l W (LS.out.below hW).rd (L2.out.below hW).c (L2.out.below hW).lt h8.1 h8.2
              replace hsl := Lib.hid hsl
              replace hst := Lib.hid hst
              replace hok := Lib.hid hok
              generalize (fewS st l).1 = ks at HSV HFW HG HFL
              generalize (fewS st l).2 = fdb at HSV HFW
              have HTO := Lib.hid (fun A c W (hW : Below wo.heap.size wo W) hr => l02Out_any gs ps st g2 0 c2 l A c ks W (LS.out.below hW) (L2.out.below hW).c (L2.out.below hW).lt hr HG.out.inn h8.1 h8.2 HN.out (by have := HFL.out; omega))
              replace HFW := Lib.hid HFW
              cases fdb with
              | false =>
                have HE := Lib.hid (show sevK lc os (k + 1) = (st, fd) by rw [HSV.out, if_neg (by decide)])
                clear HSV
                go_wp2_with (go_at_call 75; with_reducible refine (HFW.out _ H).mono ?_; rintro e w2 ⟨v2, rfl, O2, hb2⟩; obtain ⟨g5, c5, rfl, L5, -⟩ := O2.lies; replace H := bstep H hb2; clear hb2 O2)
                go_roundw
                case rel => exact ⟨k + 1, by omega, by go_num, by rw [HE.out]; exact HS.out.kept H, by rw [HE.out]; exact HT.out.kept H, bstep hb H⟩
                case measure => simp [intOf]; omega
              | true =>
                have HE := Lib.hid (show sevK lc os (k + 1) = ((outL st l ks).1, fd ++ [(k : Int)]) by rw [HSV.out, if_pos rfl])
                clear HSV
                go_upto_region 18 with (first | (go_at_call 75; with_reducible refine (HFW.out _ H).mono ?_; rintro e w2 ⟨v2, rfl, O2, hb2⟩; obtain ⟨g5, c5, rfl, L5, -⟩ := O2.lies; replace L5 := Lib.hid L5; replace H := bstep H hb2; clear hb2 O2; have x1 := (H.cell hg1).trans x0) | (go_at_call 89; with_reducible refine (HTO.out _ _ _ H (by rw [← fl_iv]; exact L5.out.rd)).mono ?_; rintro e w3 ⟨v3, u3, rfl, O3, P3, hb2⟩; replace O3 := Lib.hid (O3.down (Nat.le_trans hb.size H.size)); replace H := bstep H hb2; clear hb2 P3))
                have HT3 := Lib.hid (HT.out.kept H)
                have hb3 := bstep hb H
                have hfn : fd.length ≤ 1000 := by omega
                go_wp2_with (at_builtin; refine wp_app_num3 w.heap.size rfl _ _ rfl _ fd (k : Int) rfl _ rfl ?hg ?HO ?hB ?hn ?_; (case hg => simp); (case HO => exact HT3.out); (case hB => exact hb3.size); (case hn => omega); intro v5 w5 hown hb5)
                go_roundw
                case rel => exact ⟨k + 1, by omega, by go_num, by rw [HE.out]; exact ⟨O3.out.n.but hb5.2.1 (apart_types HT3.out.n O3.out.n (by decide)), O3.out.2⟩, by rw [HE.out]; exact hown, hb3.trans hb5.1⟩
                case measure => simp [intOf]; omega
            · obtain rfl : k = os.length := by omega
              go_wp2
              rw [HF.out]
              exact bodyPost_ret (results_ttt rfl) rfl ⟨_, _, rfl, HS.out.n, HT.out.n, hb⟩
end Go.Proofs.Ytnhpgahapjjjbaa
