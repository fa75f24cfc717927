/- Texts of the claim, joined (9 of 19): Short, Cases, Ins. -/
import Derived.Test.YtbngpcghognojaaGreatDoorBC5
import Derived.Test.YtbngpcghognojaaGreatDoorBC7
import Derived.Test.YtbngpcghognojaaGreatDoorBC8
namespace Go.Proofs.YtbngpcghognojaaGreatDoor
open Go.RowKit
set_option linter.unusedVariables false
set_option linter.unusedSimpArgs false
set_option maxRecDepth 100000
set_option maxHeartbeats 1000000
attribute [local go_sem] Oper.qB
/-- All numbers of crates. -/
def everyL (n : Nat) : List Int := (List.range n).map Int.ofNat
theorem everyL_length (n : Nat) : (everyL n).length = n := by simp [everyL]
theorem everyL_succ (n : Nat) : everyL (n + 1) = everyL n ++ [(n : Int)] := by simp [everyL, List.range_succ]
theorem everyL_at {n i : Nat} (h : i < n) : (everyL n).getD i 0 = (i : Int) := by simp [everyL, List.getD_eq_getElem?_getD, h]
theorem everyL_take {n i : Nat} (h : i ≤ n) : (everyL n).take i = everyL i := by simp [everyL, ← List.map_take, List.take_range, Nat.min_eq_left h]
theorem everyL_in {n : Nat} {x : Int} (h : x ∈ everyL n) : 0 ≤ x ∧ x < n := by
  simp only [everyL, List.mem_map, List.mem_range] at h
  obtain ⟨i, hi, rfl⟩ := h
  exact ⟨Int.natCast_nonneg i, by show (i : Int) < n; omega⟩
theorem opK_every (lc : List Cr) : ∀ j, j ≤ lc.length → opK lc (everyL lc.length) j = lc.take j
  | 0, _ => by simp [opK]
  | j + 1, h => by
    have hf : fresh (everyL lc.length) j = true := by
      unfold fresh
      rw [everyL_at (by omega), everyL_take (by omega), Bool.not_eq_true', ← Bool.not_eq_true, List.contains_eq_mem, decide_eq_true_iff]
      intro hm
      have := (everyL_in hm).2
      omega
    rw [opK_yes hf, opK_every lc j (by omega), everyL_at (by omega), Int.toNat_natCast, List.take_succ_eq_append_getElem (by omega), getB (by omega)]
theorem opL_every (lc : List Cr) : opL lc (everyL lc.length) = lc := by
  unfold opL
  rw [everyL_length, opK_every lc _ (Nat.le_refl _), List.take_length]
def askOk (lc : List Cr) (l : List Wt) : Bool := stackOk lc && ordOk l
theorem ask_le {lc : List Cr} {l : List Wt} (h : askOk lc l = true) : lc.length ≤ 12 ∧ l.length ≤ 8 := by
  simp [askOk, stackOk, ordOk] at h
  omega
def askI (lc : List Cr) (l : List Wt) : Int := if askOk lc l = true then 0 else 1
def shortR (lc : List Cr) (l : List Wt) : List Wt × Int := if askOk lc l = true then (lackL (cntL lc) l, 0) else ([], 1)
def canR (lc : List Cr) (l : List Wt) : Bool × Int := if askOk lc l = true then ((lackL (cntL lc) l).isEmpty, 0) else (false, 1)
theorem shortR_le (lc : List Cr) (l : List Wt) : (shortR lc l).1.length ≤ 8 := by
  unfold shortR
  split
  · rename_i h
    have := lackL_le (cntL lc) l
    have := ask_le h
    show (lackL (cntL lc) l).length ≤ 8
    omega
  · simp
theorem OwnS.n {α : Type} {f : α → List Value} {w : World} {B e size : Nat} {v : Value} {l : List α} (h : OwnS f w B e size v l) : OwnN f w B e size v l := h.1
theorem OwnN.nil {α : Type} {f : α → List Value} {w : World} {B e size : Nat} : OwnN f w B e size (.slice none 0 0) ([] : List α) := own_nil
theorem len_none (n : Nat) {α : Type} (l : List α) (h : l.length = n) : ((n : Int) == 0) = l.isEmpty := by
  subst h
  cases l with
  | nil => rfl
  | cons x l =>
    simp only [List.isEmpty_cons, beq_eq_false_iff_ne, List.length_cons]
    omega
theorem l02Every_any (A0 : Option Addr) (n c0 : Nat) (w : World) (hn : n ≤ 1048576) :
    Calls Tryz.prog 107 #[.slice A0 n c0] w fun e w' => ∃ v, e = .returned v ∧ OwnS iv w' w.heap.size 2 1 v (everyL n) ∧ Below w.heap.size w w' := by
  go_enter Tryz.func107, Tryz.ntmps107
  go_wp2
  go_loopw [3, 4] (fun v i wr => ∃ k : Nat, k ≤ n ∧ i = .int .i64 k ∧ Hid (OwnS iv wr w.heap.size 2 1 v (everyL k)) ∧ Below w.heap.size w wr) (fun _ i _ => n - (intOf i).toNat)
  case atStart => exact ⟨0, Nat.zero_le _, rfl, OwnS.lit (Nat.le_refl _), by go_grown⟩
  case round =>
    obtain ⟨k, hk, rfl, HO, hb⟩ := hrel
    by_cases hlt : k < n
    · have hlt2 : (k : Int) < (n : Int) := by omega
      have HL := Lib.hid (everyL_length k)
      have HE := Lib.hid (everyL_succ k)
      go_wp2_with (at_builtin; refine wp_app_num w.heap.size rfl _ _ rfl _ (everyL k) (k : Int) rfl _ rfl ?hg ?HO ?hB ?hn ?_; (case hg => simp); (case HO => exact HO.out); (case hB => exact hb.size); (case hn => rw [HL.out]; omega); intro v1 w1 hown hb2)
      go_roundw
      case rel => exact ⟨k + 1, by omega, by go_num, by rw [HE.out]; exact hown, hb.trans hb2⟩
      case measure => simp [intOf]; omega
    · obtain rfl : k = n := by omega
      go_wp2
      go_ret
      exact ⟨_, rfl, HO.out, hb⟩
theorem l02Asked_any (g0 c0 : Nat) (lc : List Cr) (b off c1 : Nat) (l : List Wt) (w : World) (K0 : Lies cc w g0 lc) (hC : CAt w b off (fl wc l)) (hb1 : b < w.heap.size) (hn : lc.length ≤ 1048576) (hl : l.length ≤ 1048576) :
    Calls Tryz.prog 105 #[.slice (some ⟨g0, 0, none⟩) lc.length c0, .slice (some ⟨b, off, none⟩) l.length c1] w fun e w' => e = .returned (.int .i64 (askI lc l)) ∧ Below w.heap.size w w' := by
  have HC := Lib.hid (⟨hC, hb1⟩ : _ ∧ _)
  have H := Below.refl w.heap.size w
  clear hC hb1
  replace K0 := Lib.hid K0
  cases e1 : stackOk lc with
  | false =>
    have HF := Lib.hid (show askI lc l = 1 by simp [askI, askOk, e1])
    go_enter Tryz.func105, Tryz.ntmps105
    go_wp2_with (go_at_call 140; with_reducible refine (l01Stack_any g0 0 c0 lc _ (K0.out.below H).c (K0.out.below H).lt (by omega)).mono ?_; rintro e w' ⟨rfl, hb⟩; replace H := bstep H hb; clear hb; have hc := bcell H)
    go_ret
    exact ⟨ret_int HF.out.symm, H⟩
  | true =>
    cases e2 : ordOk l with
    | false =>
      have HF := Lib.hid (show askI lc l = 1 by simp [askI, askOk, e1, e2])
      go_enter Tryz.func105, Tryz.ntmps105
      go_wp2_with (first | (go_at_call 140; with_reducible refine (l01Stack_any g0 0 c0 lc _ (K0.out.below H).c (K0.out.below H).lt (by omega)).mono ?_; rintro e w' ⟨rfl, hb⟩; replace H := bstep H hb; clear hb; have hc := bcell H) | (go_at_call 99; with_reducible refine (l02Ok_any b off c1 l _ (HC.out.1.below H HC.out.2) (Nat.lt_of_lt_of_le HC.out.2 H.size) (by omega)).mono ?_; rintro e w' ⟨rfl, hb⟩; replace H := bstep H hb; clear hb; have hc := bcell H))
      go_ret
      exact ⟨ret_int HF.out.symm, H⟩
    | true =>
      have HF := Lib.hid (show askI lc l = 0 by simp [askI, askOk, e1, e2])
      go_enter Tryz.func105, Tryz.ntmps105
      go_wp2_with (first | (go_at_call 140; with_reducible refine (l01Stack_any g0 0 c0 lc _ (K0.out.below H).c (K0.out.below H).lt (by omega)).mono ?_; rintro e w' ⟨rfl, hb⟩; replace H := bstep H hb; clear hb; have hc := bcell H) | (go_at_call 99; with_reducible refine (l02Ok_any b off c1 l _ (HC.out.1.below H HC.out.2) (Nat.lt_of_lt_of_le HC.out.2 H.size) (by omega)).mono ?_; rintro e w' ⟨rfl, hb⟩; replace H := bstep H hb; clear hb; have hc := bcell H))
      go_ret
      exact ⟨ret_int HF.out.symm, H⟩
/-- What is lacking behind all crates. -/
theorem l02LackAll_any (g0 c0 : Nat) (lc : List Cr) (b off c1 : Nat) (l : List Wt) (v : Value) (B : Nat) (w : World) (K0 : Lies cc w g0 lc) (hC : CAt w b off (fl wc l)) (hb1 : b < w.heap.size) (O : OwnS iv w B 2 1 v (everyL lc.length)) (hn : lc.length ≤ 1048576) (hl : l.length ≤ 1000000) :
    Calls Tryz.prog 106 #[.slice (some ⟨g0, 0, none⟩) lc.length c0, .slice (some ⟨b, off, none⟩) l.length c1, v] w fun e w' => ∃ v, e = .returned v ∧ OwnS wc w' w.heap.size 81 3 v (lackL (cntL lc) l) ∧ Below w.heap.size w w' := by
  obtain ⟨g, cap, rfl, L, _, _, hc⟩ := O.lies
  have := l02Lack_any (some ⟨g0, 0, none⟩) c0 lc b off c1 l (some ⟨g, 0, none⟩) cap (everyL lc.length) w K0.rd hC hb1 (by rw [← fl_iv]; exact L.rd) (fun x hx => everyL_in hx) hc hn hl (by rw [everyL_length]; exact hn)
  rwa [opL_every] at this
theorem sShortIn_any (g0 c0 : Nat) (lc : List Cr) (g1 c1 : Nat) (l : List Wt) (w : World) (K0 : Lies cc w g0 lc) (K1 : Lies wc w g1 l) (hn : lc.length ≤ 1048576) (hl : l.length ≤ 1048576) :
    Calls Tryz.prog 46 #[.slice (some ⟨g0, 0, none⟩) lc.length c0, .slice (some ⟨g1, 0, none⟩) l.length c1] w fun e w' => ∃ v, e = .returned (.tuple #[v, .int .i64 (shortR lc l).2]) ∧ OwnN wc w' w.heap.size 81 3 v (shortR lc l).1 ∧ Below w.heap.size w w' := by
  have H := Below.refl w.heap.size w
  replace K0 := Lib.hid K0
  replace K1 := Lib.hid K1
  cases e1 : askOk lc l with
  | false =>
    have HF := Lib.hid (show shortR lc l = ([], 1) by simp [shortR, e1])
    have HA := Lib.hid (show askI lc l = 1 by simp [askI, e1])
    go_enter Tryz.func46, Tryz.ntmps46
    go_wp2_with (go_at_call 105; with_reducible refine (l02Asked_any g0 c0 lc g1 0 c1 l _ (K0.out.below H) (K1.out.below H).c (K1.out.below H).lt hn hl).mono ?_; rintro e w' ⟨rfl, hb⟩; rw [HA.out]; replace H := bstep H hb; clear hb)
    rw [HF.out]
    exact bodyPost_ret (results_tt rfl) rfl ⟨_, rfl, (OwnS.lit (f := wc) H.size).n, H.alloc H.size _⟩
  | true =>
    have h8 := ask_le e1
    have HF := Lib.hid (show shortR lc l = (lackL (cntL lc) l, 0) by simp [shortR, e1])
    have HA := Lib.hid (show askI lc l = 0 by simp [askI, e1])
    go_enter Tryz.func46, Tryz.ntmps46
    go_wp2_with (first | (go_at_call 105; with_reducible refine (l02Asked_any g0 c0 lc g1 0 c1 l _ (K0.out.below H) (K1.out.below H).c (K1.out.below H).lt hn hl).mono ?_; rintro e w' ⟨rfl, hb⟩; rw [HA.out]; replace H := bstep H hb; clear hb) | (go_at_call 107; with_reducible refine (l02Every_any _ lc.length c0 _ hn).mono ?_; rintro e w2 ⟨v2, rfl, O2, hb⟩; replace H := bstep H hb; clear hb) | (go_at_call 106; with_reducible refine (l02LackAll_any g0 c0 lc g1 0 c1 l v2 _ _ (K0.out.below H) (K1.out.below H).c (K1.out.below H).lt O2 hn (by omega)).mono ?_; rintro e w3 ⟨v3, rfl, O3, hb⟩; replace O3 := O3.down H.size; replace H := bstep H hb; clear hb))
    rw [HF.out]
    exact bodyPost_ret (results_tt rfl) rfl ⟨_, rfl, O3.n, H⟩
theorem ShortIn_any (g0 c0 : Nat) (lc : List Cr) (g1 c1 : Nat) (l : List Wt) (w : World) (K0 : Lies cc w g0 lc) (K1 : Lies wc w g1 l) (hn : lc.length ≤ 1048576) (hl : l.length ≤ 1048576) :
    Calls Tryz.prog 45 #[.slice (some ⟨g0, 0, none⟩) lc.length c0, .slice (some ⟨g1, 0, none⟩) l.length c1] w fun e w' => ∃ v, e = .returned (.tuple #[v, .int .i64 (shortR lc l).2]) ∧ OwnN wc w' w.heap.size 81 3 v (shortR lc l).1 ∧ Below w.heap.size w w' := by
  have H := Below.refl w.heap.size w
  replace K0 := Lib.hid K0
  replace K1 := Lib.hid K1
  cases e1 : stackOk lc with
  | false =>
    have HF := Lib.hid (show shortR lc l = ([], 1) by simp [shortR, askOk, e1])
    go_enter Tryz.func45, Tryz.ntmps45
    go_wp2_with (go_at_call 103; with_reducible refine (ValidStack_any g0 0 c0 lc _ (K0.out.below H).c (K0.out.below H).lt (by omega)).mono ?_; rintro e w' ⟨rfl, hb⟩; replace H := bstep H hb; clear hb; have hc := bcell H)
    rw [HF.out]
    exact bodyPost_ret (results_tt rfl) rfl ⟨_, rfl, OwnN.nil, H⟩
  | true =>
    cases e2 : ordOk l with
    | false =>
      have HF := Lib.hid (show shortR lc l = ([], 1) by simp [shortR, askOk, e1, e2])
      go_enter Tryz.func45, Tryz.ntmps45
      go_wp2_with (first | (go_at_call 103; with_reducible refine (ValidStack_any g0 0 c0 lc _ (K0.out.below H).c (K0.out.below H).lt (by omega)).mono ?_; rintro e w' ⟨rfl, hb⟩; replace H := bstep H hb; clear hb; have hc := bcell H) | (go_at_call 50; with_reducible refine (ValidOrder_any g1 0 c1 l _ (K1.out.below H).c (K1.out.below H).lt (by omega)).mono ?_; rintro e w' ⟨rfl, hb⟩; replace H := bstep H hb; clear hb; have hc := bcell H))
      rw [HF.out]
      exact bodyPost_ret (results_tt rfl) rfl ⟨_, rfl, OwnN.nil, H⟩
    | true =>
      have ea : askOk lc l = true := by simp [askOk, e1, e2]
      have h8 := ask_le ea
      have HF := Lib.hid (show shortR lc l = (lackL (cntL lc) l, 0) by simp [shortR, ea])
      replace ea := Lib.hid ea
      go_enter Tryz.func45, Tryz.ntmps45
      go_wp2_with (first | (go_at_call 103; with_reducible refine (ValidStack_any g0 0 c0 lc _ (K0.out.below H).c (K0.out.below H).lt (by omega)).mono ?_; rintro e w' ⟨rfl, hb⟩; replace H := bstep H hb; clear hb; have hc := bcell H) | (go_at_call 50; with_reducible refine (ValidOrder_any g1 0 c1 l _ (K1.out.below H).c (K1.out.below H).lt (by omega)).mono ?_; rintro e w' ⟨rfl, hb⟩; replace H := bstep H hb; clear hb; have hc := bcell H) | (go_at_call 104; with_reducible refine (lack_any _ c0 lc g1 0 c1 l _ (K0.out.below H).rd (K1.out.below H).c (K1.out.below H).lt hn (by omega)).mono ?_; rintro e w3 ⟨v3, rfl, O3, hb⟩; replace O3 := O3.down H.size; replace H := bstep H hb; clear hb))
      rw [HF.out]
      exact bodyPost_ret (results_tt rfl) rfl ⟨_, rfl, O3.n, H⟩
theorem CanFill_any (g0 c0 : Nat) (lc : List Cr) (g1 c1 : Nat) (l : List Wt) (w : World) (K0 : Lies cc w g0 lc) (K1 : Lies wc w g1 l) (hn : lc.length ≤ 1048576) (hl : l.length ≤ 1048576) :
    Calls Tryz.prog 47 #[.slice (some ⟨g0, 0, none⟩) lc.length c0, .slice (some ⟨g1, 0, none⟩) l.length c1] w fun e w' => e = .returned (.tuple #[.bool (canR lc l).1, .int .i64 (canR lc l).2]) ∧ Below w.heap.size w w' := by
  have H := Below.refl w.heap.size w
  replace K0 := Lib.hid K0
  replace K1 := Lib.hid K1
  cases e1 : stackOk lc with
  | false =>
    have HF := Lib.hid (show canR lc l = (false, 1) by simp [canR, askOk, e1])
    go_enter Tryz.func47, Tryz.ntmps47
    go_wp2_with (go_at_call 103; with_reducible refine (ValidStack_any g0 0 c0 lc _ (K0.out.below H).c (K0.out.below H).lt (by omega)).mono ?_; rintro e w' ⟨rfl, hb⟩; replace H := bstep H hb; clear hb; have hc := bcell H)
    rw [HF.out]
    exact bodyPost_ret (results_tt rfl) rfl ⟨rfl, H⟩
  | true =>
    cases e2 : ordOk l with
    | false =>
      have HF := Lib.hid (show canR lc l = (false, 1) by simp [canR, askOk, e1, e2])
      go_enter Tryz.func47, Tryz.ntmps47
      go_wp2_with (first | (go_at_call 103; with_reducible refine (ValidStack_any g0 0 c0 lc _ (K0.out.below H).c (K0.out.below H).lt (by omega)).mono ?_; rintro e w' ⟨rfl, hb⟩; replace H := bstep H hb; clear hb; have hc := bcell H) | (go_at_call 50; with_reducible refine (ValidOrder_any g1 0 c1 l _ (K1.out.below H).c (K1.out.below H).lt (by omega)).mono ?_; rintro e w' ⟨rfl, hb⟩; replace H := bstep H hb; clear hb; have hc := bcell H))
      rw [HF.out]
      exact bodyPost_ret (results_tt rfl) rfl ⟨rfl, H⟩
    | true =>
      have ea : askOk lc l = true := by simp [askOk, e1, e2]
      have h8 := ask_le ea
      have HF := Lib.hid (show canR lc l = ((lackL (cntL lc) l).isEmpty, 0) by simp [canR, ea])
      have HL := Lib.hid (len_none _ (lackL (cntL lc) l) rfl)
      have HLE := lackL_le (cntL lc) l
      replace ea := Lib.hid ea
      go_enter Tryz.func47, Tryz.ntmps47
      go_wp2_with (first | (go_at_call 103; with_reducible refine (ValidStack_any g0 0 c0 lc _ (K0.out.below H).c (K0.out.below H).lt (by omega)).mono ?_; rintro e w' ⟨rfl, hb⟩; replace H := bstep H hb; clear hb; have hc := bcell H) | (go_at_call 50; with_reducible refine (ValidOrder_any g1 0 c1 l _ (K1.out.below H).c (K1.out.below H).lt (by omega)).mono ?_; rintro e w' ⟨rfl, hb⟩; replace H := bstep H hb; clear hb; have hc := bcell H) | (go_at_call 104; with_reducible refine (lack_any _ c0 lc g1 0 c1 l _ (K0.out.below H).rd (K1.out.below H).c (K1.out.below H).lt hn (by omega)).mono ?_; rintro e w3 ⟨v3, rfl, O3, hb⟩; obtain ⟨g3, p3, rfl, -⟩ := O3.lies; replace H := bstep H hb; clear hb O3))
      rw [HF.out]
      exact bodyPost_ret (results_tt rfl) rfl ⟨congrArg (fun b => Ending.returned (.tuple #[.bool b, .int .i64 0])) HL.out, H⟩
end Go.Proofs.YtbngpcghognojaaGreatDoor
namespace Go.Proofs.YtbngpcghognojaaGreatDoor
open Go.RowKit
set_option linter.unusedVariables false
set_option linter.unusedSimpArgs false
set_option maxRecDepth 100000
set_option maxHeartbeats 1000000
attribute [local go_sem] Oper.qB
section
variable {α : Type} {f : α → List Value} {P : Program} {ops : Array Oper} {rest : List Oper} {o : Oper} {a : Act} {Q : Exit → Act → World → Prop} {W : World}
/-- append(v, ys...) -/
theorem wp_app_el (B : Nat) (hgd : o.guard = none) (s x : Operand) (t e : TypeId) (ho : o.op = .call { callee := .builtin .append, args := #[s, x], argTypes := #[t, t] })
    (z : Value) (size bytes : Nat) (ht : P.underlying t = some (.slice e)) (hinfo : (P.info? e).map (fun i => (i.zero, i.size, i.bytes)) = some (some z, size, bytes)) (hzs : z.cells.size = size) (hsz : 0 < size)
    (hf : ∀ x, (f x).length = size) (h1 : ∀ x, ∀ u ∈ f x, u.oneCell' = true)
    (v : Value) (l : List α) (hs : a.eval s = v) (g mc : Nat) (ys : List α) (hx : a.eval x = .slice (some ⟨g, 0, none⟩) ys.length mc)
    (HO : OwnS f W B e size v l) (HY : Lies f W g ys) (hB : B ≤ W.heap.size) (hn : l.length + ys.length ≤ 100000000) (hby : bytes ≤ 1000)
    (h : ∀ v1 w1, OwnS f w1 B e size v1 (l ++ ys) → Below B W w1 ∧ ButV v W w1 → wpList P ops Q rest (a.put o.dst v1) w1) : wpList P ops Q (o :: rest) a W := by
  obtain ⟨i0, hi, hzz⟩ := Option.map_eq_some_iff.1 hinfo
  simp only [Prod.mk.injEq] at hzz
  obtain ⟨hz0, hz1, hz2⟩ := hzz
  refine wpList_append_own W hgd s x t ho B e i0 z size bytes ht hi hz0 hz1 hz2 hzs hsz v l.length (fl f l) hs HO.1 ⟨g, 0, none⟩ ys.length mc (fl f ys) hx (fl_length hf ys) (fun j u hj => ?_) (fl_ones h1 ys) (by simp only [maxLen]; omega) ?_ hB ?_
  · rw [addr_at]
    have := HY.c j u hj
    rwa [Nat.zero_add] at this
  · calc (l.length + ys.length) * bytes ≤ 100000000 * 1000 := Nat.mul_le_mul hn hby
      _ ≤ 140737488355328 := by decide
  intro v1 w1 hown hg hnil
  have hb : Below B W w1 := (Below.refl B W).grown hg hB (fun k hk => own_base HO.1 k hk)
  have hO1 : w1.ownsRow B e size v1 (l ++ ys).length (fl f (l ++ ys)) := by rw [List.length_append, fl_append]; exact hown
  refine h v1 w1 ⟨hO1, ?_⟩ ⟨hb, ⟨hb.os, hb.tape, hb.output, hb.size, fun k hk => absurd hk (Nat.not_lt_zero _)⟩, fun b hb1 hv => hg.block b hb1 (fun e => hv e.symm)⟩
  rcases hO1.2 with ⟨h0, _⟩ | ⟨g', cap', cur, hv, _⟩
  · obtain ⟨_, g0, cap0, rfl⟩ := HO
    have := (hnil.1 h0).1
    cases this
  · exact ⟨g', cap', hv⟩
end
def casesR (l : List Wt) : List Cr × Int := if ordOk l = true then (packL (botsL l), 0) else ([], 1)
theorem casesR_le (l : List Wt) : (casesR l).1.length ≤ 30000 := by
  unfold casesR
  split
  · rename_i h
    have h8 : l.length ≤ 8 := by simp [ordOk] at h; exact h.2
    have := botsL_le l
    show (packK _ _).length ≤ 30000
    rw [packK_length]
    omega
  · simp
theorem ok_nonneg {l : List Wt} (h : ordOk l = true) : ∀ x ∈ l, 0 ≤ x.n := fun x hx => by
  have h1 : okK l l.length := by simp [ordOk] at h; exact h.1
  obtain ⟨i, hi, rfl⟩ := List.getElem_of_mem hx
  have := (h1 i hi).1
  rw [getB hi] at this
  simp [Wt.ok] at this
  omega
theorem casesFor_any (b off c1 : Nat) (l : List Wt) (w : World) (hC : CAt w b off (fl wc l)) (hb1 : b < w.heap.size) (hl : l.length ≤ 8) (hp : ∀ x ∈ l, 0 ≤ x.n) :
    Calls Tryz.prog 112 #[.slice (some ⟨b, off, none⟩) l.length c1] w fun e w' => ∃ v, e = .returned v ∧ OwnS cc w' w.heap.size 28 24 v (packL (botsL l)) ∧ Below w.heap.size w w' := by
  have HC := Lib.hid (⟨hC, hb1⟩ : _ ∧ _)
  have HPos := Lib.hid hp
  clear hC hb1 hp
  go_enter Tryz.func112, Tryz.ntmps112
  go_wp2
  go_loopw [3, 9] (fun v i wr => ∃ k : Nat, k ≤ l.length ∧ i = .int .i64 k ∧ Hid (OwnS bc wr w.heap.size 26 2 v (botsL (l.take k))) ∧ Below w.heap.size w wr) (fun _ i _ => l.length - (intOf i).toNat)
  case atStart => exact ⟨0, Nat.zero_le _, rfl, OwnS.lit (Nat.le_refl _), by go_grown⟩
  case round =>
    obtain ⟨k, hk, rfl, HO, hb⟩ := hrel
    by_cases hlt : k < l.length
    · have HX := (HC.out.1.below hb HC.out.2).el wc_length hlt
      have HL := Lib.hid (@botsL_step l k hlt)
      have HP := botsL_le (l.take k)
      have hcl : (l.take k).length ≤ k := by simp; omega
      have hPn : (botsL (l.take k)).length ≤ 1000000 := by omega
      have hn0 := HPos.out l[k]! (by rw [getB hlt]; exact List.getElem_mem hlt)
      clear HP hcl
      have hlt2 : (k : Int) < (l.length : Int) := by omega
      generalize l[k]! = x at HX HL hn0
      generalize botsL (l.take k) = lk at HO HL hPn
      obtain ⟨hn1, hn2⟩ := x.hn
      obtain ⟨m, hm⟩ : ∃ m : Nat, x.n = (m : Int) := ⟨x.n.toNat, by omega⟩
      have x0 : wr.cell? ⟨b, off + k * 3, none⟩ = some (.int .u8 x.b.k) := HX 0 _ rfl
      have x1 : wr.cell? ⟨b, off + k * 3 + 1, none⟩ = some (.int .i16 x.b.y) := HX 1 _ rfl
      have x2 : wr.cell? ⟨b, off + k * 3 + 2, none⟩ = some (.int .i16 (m : Int)) := by rw [← hm]; exact HX 2 _ rfl
      have hmm : m ≤ 32767 := by omega
      have hmi : (m : Int) ≤ 32767 := by omega
      have HL2 : Hid (botsL (l.take (k + 1)) = lk ++ List.replicate m x.b) := by rw [Hid, HL.out, hm, Int.toNat_natCast]
      replace hm := Lib.hid hm
      clear HX HL
      go_wp2_with (first | (go_at_call 141; refine (Repeat_bot _ x.b m _ ?hR ?hG hmm).mono ?_; (case hR => exact CAt.of_row (by rw [rowOf_alloc, if_pos (by simp)]; rfl)); (case hG => simp); rintro e w2 ⟨g2, rfl, O2, hb2⟩; have hb3 := bstepB (show Below wr.heap.size wr _ by go_grown) (by simp; omega) hb2; have K2 : Lies bc w2 g2 (List.replicate m x.b) := own_lies (n := m) (by have h := O2; unfold OwnN at h; rwa [List.length_replicate] at h); clear O2 hb2; replace HO := Lib.hid (HO.out.kept hb3); replace hb := bstep hb hb3) | (at_builtin; refine wp_app_el (f := bc) w.heap.size rfl _ _ 38 26 rfl (.agg #[.int .u8 0, .int .i16 0]) 2 4 Tryz.underlying38 infoBt rfl (by decide) bc_length bc_one _ lk rfl g2 m (List.replicate m x.b) (by rw [List.length_replicate]; rfl) HO.out K2 hb.size (by rw [List.length_replicate]; omega) (by decide) ?_; intro v1 w1 HO1 hb4))
      go_roundw
      case rel => exact ⟨k + 1, by omega, by go_num, by rw [HL2.out]; exact HO1, hb.trans hb4.1⟩
      case measure => simp [intOf]; omega
    · obtain rfl : k = l.length := by omega
      rw [List.take_length] at HO
      have HP := botsL_le l
      obtain ⟨gv, cap, rfl, KO, -⟩ := HO.out.lies
      have HPk := fun W h => packed_any (some ⟨gv, 0, none⟩) cap (botsL l) W h (by omega)
      generalize hbl : botsL l = bl at HPk KO
      replace hbl := Lib.hid hbl
      have KO2 := Lib.hid KO
      clear KO HO HP
      go_wp2_with (go_at_call 142; with_reducible refine (HPk _ KO2.out.rd).mono ?_; rintro e w2 ⟨v2, rfl, O2, hb2⟩; replace O2 := O2.down hb.size; replace hb := bstep hb hb2)
      go_ret
      exact ⟨_, rfl, by rw [hbl.out]; exact O2, hb⟩
theorem sCasesFor_any (g0 c0 : Nat) (l : List Wt) (w : World) (K0 : Lies wc w g0 l) (hl : l.length ≤ 1048576) :
    Calls Tryz.prog 54 #[.slice (some ⟨g0, 0, none⟩) l.length c0] w fun e w' => ∃ v, e = .returned (.tuple #[v, .int .i64 (casesR l).2]) ∧ OwnN cc w' w.heap.size 28 24 v (casesR l).1 ∧ Below w.heap.size w w' := by
  have H := Below.refl w.heap.size w
  replace K0 := Lib.hid K0
  cases e1 : ordOk l with
  | false =>
    have HF := Lib.hid (show casesR l = ([], 1) by simp [casesR, e1])
    go_enter Tryz.func54, Tryz.ntmps54
    go_wp2_with (go_at_call 99; with_reducible refine (l02Ok_any g0 0 c0 l _ (K0.out.below H).c (K0.out.below H).lt (by omega)).mono ?_; rintro e w' ⟨rfl, hb⟩; replace H := bstep H hb; clear hb; have hc := bcell H)
    rw [HF.out]
    exact bodyPost_ret (results_tt rfl) rfl ⟨_, rfl, (OwnS.lit (f := cc) H.size).n, H.alloc H.size _⟩
  | true =>
    have h8 : l.length ≤ 8 := by simp [ordOk] at e1; exact e1.2
    have HF := Lib.hid (show casesR l = (packL (botsL l), 0) by simp [casesR, e1])
    have HP := botsL_le l
    have HPk := fun A c W h => l01Packed_any A c (botsL l) W h (by omega)
    generalize hbl : botsL l = bl at HPk
    replace hbl := Lib.hid hbl
    clear HP
    go_enter Tryz.func54, Tryz.ntmps54
    go_wp2_with (first | (go_at_call 99; with_reducible refine (l02Ok_any g0 0 c0 l _ (K0.out.below H).c (K0.out.below H).lt (by omega)).mono ?_; rintro e w' ⟨rfl, hb⟩; replace H := bstep H hb; clear hb; have hc := bcell H) | (go_at_call 114; with_reducible refine (l02Bottles_any g0 0 c0 l _ (K0.out.below H).c (K0.out.below H).lt h8).mono ?_; rintro e w2 ⟨v2, rfl, O2, hb⟩; rw [hbl.out] at O2; obtain ⟨g2, cap, rfl, KO, -⟩ := O2.lies; have KO2 := Lib.hid KO; clear KO O2; replace H := bstep H hb; clear hb) | (go_at_call 113; with_reducible refine (HPk _ _ _ KO2.out.rd).mono ?_; rintro e w3 ⟨v3, rfl, O3, hb⟩; replace O3 := O3.down H.size; replace H := bstep H hb; clear hb))
    rw [HF.out]
    exact bodyPost_ret (results_tt rfl) rfl ⟨_, rfl, by rw [hbl.out]; exact O3.n, H⟩
theorem CasesFor_any (g0 c0 : Nat) (l : List Wt) (w : World) (K0 : Lies wc w g0 l) (hl : l.length ≤ 1048576) :
    Calls Tryz.prog 53 #[.slice (some ⟨g0, 0, none⟩) l.length c0] w fun e w' => ∃ v, e = .returned (.tuple #[v, .int .i64 (casesR l).2]) ∧ OwnN cc w' w.heap.size 28 24 v (casesR l).1 ∧ Below w.heap.size w w' := by
  have H := Below.refl w.heap.size w
  replace K0 := Lib.hid K0
  cases e1 : ordOk l with
  | false =>
    have HF := Lib.hid (show casesR l = ([], 1) by simp [casesR, e1])
    go_enter Tryz.func53, Tryz.ntmps53
    go_wp2_with (go_at_call 50; with_reducible refine (ValidOrder_any g0 0 c0 l _ (K0.out.below H).c (K0.out.below H).lt (by omega)).mono ?_; rintro e w' ⟨rfl, hb⟩; replace H := bstep H hb; clear hb; have hc := bcell H)
    rw [HF.out]
    exact bodyPost_ret (results_tt rfl) rfl ⟨_, rfl, OwnN.nil, H⟩
  | true =>
    have h8 : l.length ≤ 8 := by simp [ordOk] at e1; exact e1.2
    have HF := Lib.hid (show casesR l = (packL (botsL l), 0) by simp [casesR, e1])
    have HN := Lib.hid (ok_nonneg e1)
    go_enter Tryz.func53, Tryz.ntmps53
    go_wp2_with (first | (go_at_call 50; with_reducible refine (ValidOrder_any g0 0 c0 l _ (K0.out.below H).c (K0.out.below H).lt (by omega)).mono ?_; rintro e w' ⟨rfl, hb⟩; replace H := bstep H hb; clear hb; have hc := bcell H) | (go_at_call 112; with_reducible refine (casesFor_any g0 0 c0 l _ (K0.out.below H).c (K0.out.below H).lt h8 HN.out).mono ?_; rintro e w3 ⟨v3, rfl, O3, hb⟩; replace O3 := O3.down H.size; replace H := bstep H hb; clear hb))
    rw [HF.out]
    exact bodyPost_ret (results_tt rfl) rfl ⟨_, rfl, O3.n, H⟩
end Go.Proofs.YtbngpcghognojaaGreatDoor
namespace Go.Proofs.YtbngpcghognojaaGreatDoor
open Go Go.Sort Go.RowKit
set_option linter.unusedVariables false
set_option linter.unusedSimpArgs false
set_option maxRecDepth 100000
set_option maxHeartbeats 1000000
attribute [local go_sem] Oper.qB
theorem OwnS.cat {α : Type} {f : α → List Value} {k : Nat} {w : World} {B e g n cap : Nat} {l : List α} (h : OwnS f w B e k (.slice (some ⟨g, 0, none⟩) n cap) l) : n = l.length ∧ Lies f w g l := by
  obtain ⟨h1, g', cap', hv⟩ := h
  simp only [Value.slice.injEq] at hv
  obtain ⟨_, rfl, _⟩ := hv
  exact ⟨rfl, own_lies h1⟩
theorem OwnS.setEl {α : Type} {f : α → List Value} {k : Nat} (hf : ∀ x, (f x).length = k) {w : World} {B e g n cap i : Nat} {l : List α} (x : α) (h : OwnS f w B e k (.slice (some ⟨g, 0, none⟩) n cap) l) (hi : i < l.length) :
    OwnS f (putEl w g (i * k) (f x).toArray) B e k (.slice (some ⟨g, 0, none⟩) n cap) (l.set i x) := by
  obtain rfl := h.cat.1
  have := putEl_own h.1 hi (vs := (f x).toArray) (by simp [hf])
  refine ⟨?_, g, cap, by rw [List.length_set]⟩
  rw [List.length_set, fl_set hf l i x hi]
  exact this
theorem OwnS.room {α : Type} {f : α → List Value} {k : Nat} {w : World} {B e g n cap i : Nat} {l : List α} {vs : Array Value} (h : OwnS f w B e k (.slice (some ⟨g, 0, none⟩) n cap) l) (hi : i < l.length) (hs : vs.size = k) : ∃ cur, rowOf w g = some cur ∧ i * k + vs.size ≤ cur.size := by
  obtain rfl := h.cat.1
  exact own_room h.1 hi hs
theorem rowOf_putEl_ne {w : World} {g g' o : Nat} {vs : Array Value} (h : g' ≠ g) : rowOf (putEl w g o vs) g' = rowOf w g' := by
  unfold putEl
  split
  · exact rowOf_setRow_ne h
  · rfl
/-- Sorted elements with a hole at k, others behind. -/
def holeL (S R : List Bt) (k : Nat) (h : Bt) : List Bt := S.take k ++ h :: (S.drop k ++ R)
theorem holeL_length {S R : List Bt} {k : Nat} {h : Bt} : (holeL S R k h).length = S.length + 1 + R.length := by
  simp only [holeL, List.length_append, List.length_take, List.length_cons, List.length_drop]
  omega
theorem holeL_end {S R : List Bt} {h : Bt} : holeL S R S.length h = S ++ h :: R := by simp [holeL]
theorem holeL_at {S R : List Bt} {k : Nat} {h : Bt} (hk : k < S.length) : (holeL S R (k + 1) h)[k]! = S[k] := by
  have hl : k < (holeL S R (k + 1) h).length := by rw [holeL_length]; omega
  have e : (holeL S R (k + 1) h)[k]? = some S[k] := by
    unfold holeL
    rw [List.getElem?_append_left (by simp; omega), List.getElem?_take_of_lt (by omega), List.getElem?_eq_getElem hk]
  rw [getB hl]
  rw [List.getElem?_eq_getElem hl] at e
  exact Option.some.inj e
theorem holeL_set {S R : List Bt} {k : Nat} {h x : Bt} (hk : k ≤ S.length) : (holeL S R k h).set k x = holeL S R k x := by
  unfold holeL
  have : (S.take k).length = k := by simp; omega
  rw [List.set_append_right _ _ (by omega), this, Nat.sub_self]
  rfl
theorem holeL_down {S R : List Bt} {k : Nat} (hk : k < S.length) : holeL S R (k + 1) S[k] = holeL S R k S[k] := by
  unfold holeL
  rw [List.take_succ_eq_append_getElem hk, List.drop_eq_getElem_cons hk]
  simp only [List.append_assoc, List.cons_append, List.nil_append]
/-- S, into which x has been put at k. -/
def putS (S : List Bt) (k : Nat) (x : Bt) : List Bt := S.take k ++ x :: S.drop k
theorem holeL_put {S R : List Bt} {k : Nat} {x : Bt} : holeL S R k x = putS S k x ++ R := by simp [holeL, putS]
theorem putS_perm {S : List Bt} {k : Nat} {x : Bt} {T : List Bt} (h : S.Perm T) : (putS S k x).Perm (T ++ [x]) := by
  unfold putS
  refine List.perm_middle.trans ?_
  rw [List.take_append_drop]
  exact (List.Perm.cons x h).trans (List.perm_append_singleton x T).symm
theorem putS_sorted {S : List Bt} {k : Nat} {x : Bt} (hS : S.Pairwise fun a b => leB a b = true) (h1 : ∀ y ∈ S.drop k, leB x y = true) (h2 : ∀ y ∈ S.take k, leB y x = true) : (putS S k x).Pairwise fun a b => leB a b = true := by
  unfold putS
  rw [List.pairwise_append]
  refine ⟨hS.sublist (List.take_sublist _ _), ?_, ?_⟩
  · rw [List.pairwise_cons]
    exact ⟨h1, hS.sublist (List.drop_sublist _ _)⟩
  · intro a ha b hb
    rcases List.mem_cons.1 hb with rfl | hb
    · exact h2 a ha
    · have hS' := hS
      rw [← List.take_append_drop k S, List.pairwise_append] at hS'
      exact hS'.2.2 a ha b hb
theorem le_of_lt {a b : Bt} (h : a.cmp b < 0) : leB a b = true := by
  rw [leB_iff, cmp_neg]
  rw [cmp_neg] at h
  omega
theorem take_le {S : List Bt} {k : Nat} {x : Bt} (hS : S.Pairwise fun a b => leB a b = true) (hk : k < S.length) (h : ¬ x.cmp S[k] < 0) : ∀ y ∈ S.take (k + 1), leB y x = true := by
  intro y hy
  rw [List.take_succ_eq_append_getElem hk, List.mem_append] at hy
  rcases hy with hy | hy
  · have hS' := hS
    rw [← List.take_append_drop k S, List.pairwise_append] at hS'
    have h3 := hS'.2.2 y hy S[k] (by rw [List.drop_eq_getElem_cons hk]; exact List.mem_cons_self)
    exact leB_trans _ _ _ h3 (leB_iff.2 h)
  · obtain rfl : y = S[k] := by simpa using hy
    exact leB_iff.2 h
theorem l01Sorted_any (g c : Nat) (l : List Bt) (w : World) (K : Lies bc w g l) (hn : l.length ≤ 1000000) :
    Calls Tryz.prog 88 #[.slice (some ⟨g, 0, none⟩) l.length c] w fun e w' => ∃ v, e = .returned v ∧ OwnS bc w' w.heap.size 26 2 v (sortB l) ∧ Below w.heap.size w w' := by
  replace K := Lib.hid K
  go_enter Tryz.func88, Tryz.ntmps88
  go_upto_region 2 with (at_builtin; refine wp_app_el (f := bc) w.heap.size rfl _ _ 38 26 rfl (.agg #[.int .u8 0, .int .i16 0]) 2 4 Tryz.underlying38 infoBt rfl (by decide) bc_length bc_one _ [] rfl g c l rfl (OwnS.lit (Nat.le_refl _)) (K.out.below (by go_grown)) (by simp) (by simp; omega) (by decide) ?_; intro v1 w1 HO hb)
  rw [List.nil_append] at HO
  have hb1 : Below w.heap.size w w1 := (show Below w.heap.size w _ by go_grown).trans hb.1
  clear hb
  obtain ⟨g1, cap, rfl, -, hB1, hg1, -⟩ := HO.lies
  go_upto_region 3 with fail
  go_loopw [4] (fun i wr => ∃ k : Nat, 1 ≤ k ∧ k ≤ l.length + 1 ∧ i = .int .i64 k ∧ Hid (∃ S : List Bt, S.length = min k l.length ∧ S.Perm (l.take k) ∧ (S.Pairwise fun a b => leB a b = true) ∧ OwnS bc wr w.heap.size 26 2 (.slice (some ⟨g1, 0, none⟩) l.length cap) (S ++ l.drop k)) ∧ Below w.heap.size w wr) (fun i _ => l.length + 1 - (intOf i).toNat)
  case atStart =>
    refine ⟨1, Nat.le_refl _, by omega, rfl, ⟨l.take 1, by simp, List.Perm.refl _, ?_, by rw [List.take_append_drop]; exact HO⟩, hb1⟩
    cases l with
    | nil => simp
    | cons x l => simp
  case round =>
    clear HO hb1
    obtain ⟨i, hi1, hi2, rfl, HS, hb⟩ := hrel
    obtain ⟨wo, hwo⟩ : ∃ wo, wo = wr := ⟨_, rfl⟩
    subst hwo
    by_cases hlt : i < l.length
    · obtain ⟨S, hSl, hSp, hSs, HO⟩ := HS.out
      replace hSl : S.length = i := by omega
      have hlen : (S ++ l.drop i).length = l.length := by simp; omega
      have hxi : (S ++ l.drop i)[i]! = l[i] := by
        rw [getB (by omega), List.getElem_append_right (by omega)]
        simp [hSl]
      have hX : CAt wo g1 (0 + i * 2) (bc l[i]) := by
        rw [← hxi]
        exact HO.cat.2.c.el bc_length (by omega)
      have HT := Lib.hid (List.take_succ_eq_append_getElem hlt)
      have HO0 : Hid (OwnS bc wo w.heap.size 26 2 (.slice (some ⟨g1, 0, none⟩) l.length cap) (holeL S (l.drop (i + 1)) i l[i])) := by
        have e : holeL S (l.drop (i + 1)) i l[i] = S ++ l.drop i := by
          have h := holeL_end (S := S) (R := l.drop (i + 1)) (h := l[i])
          rw [hSl] at h
          rw [h, List.drop_eq_getElem_cons hlt]
        rw [Hid, e]
        exact HO
      clear hxi HO
      rw [Nat.zero_add] at hX
      generalize l[i] = x at hX HT HO0
      generalize hR : l.drop (i + 1) = R at HO0
      have hlR : S.length + 1 + R.length = l.length := by rw [← hR]; simp; omega
      replace hR := Lib.hid hR
      replace hlen := Lib.hid hlen
      replace hSp := Lib.hid hSp
      replace hSs := Lib.hid hSs
      replace hlR := Lib.hid hlR
      replace hSl := Lib.hid hSl
      have x0 : wo.cell? ⟨g1, i * 2, none⟩ = some (.int .u8 x.k) := hX 0 _ rfl
      have x1 : wo.cell? ⟨g1, i * 2 + 1, none⟩ = some (.int .i16 x.y) := hX 1 _ rfl
      have hi3 : (i : Int) < (l.length : Int) := by omega
      have hi4 : (i : Int) ≤ 1000000 := by omega
      clear hX
      go_upto_region 7 with fail
      generalize hW1 : World.alloc _ _ = W1
      have hgr : Below wo.heap.size wo W1 := by rw [← hW1]; go_grown
      have r5 : rowOf W1 wo.heap.size = some (#[.int .u8 x.k, .int .i16 x.y] : Array Value) := by rw [← hW1, rowOf_alloc, if_pos rfl]
      have HO1 := Lib.hid (HO0.out.kept hgr)
      have hb1 := bstep hb hgr
      have hlt1 := own_lt HO0.out.1 g1 rfl
      have hgne : wo.heap.size ≠ g1 := by omega
      have hgB : w.heap.size ≤ wo.heap.size := hb.size
      clear hW1 x0 x1 hgr HO0 hlt1 HS
      generalize wo.heap.size = g5 at r5 hgne hgB ⊢
      have HEND : Hid (∀ k W, k ≤ i → (∀ y ∈ S.drop k, x.cmp y < 0) → (∀ y ∈ S.take k, leB y x = true) → OwnS bc W w.heap.size 26 2 (.slice (some ⟨g1, 0, none⟩) l.length cap) (holeL S R k x) → ∃ S' : List Bt, S'.length = min (i + 1) l.length ∧ S'.Perm (l.take (i + 1)) ∧ (S'.Pairwise fun a b => leB a b = true) ∧ OwnS bc W w.heap.size 26 2 (.slice (some ⟨g1, 0, none⟩) l.length cap) (S' ++ l.drop (i + 1))) := by
        intro k W hk h1 h2 hO
        refine ⟨putS S k x, ?_, ?_, putS_sorted hSs.out (fun y hy => le_of_lt (h1 y hy)) h2, ?_⟩
        · have := hSl.out
          simp only [putS, List.length_append, List.length_take, List.length_cons, List.length_drop]
          omega
        · rw [HT.out]
          exact putS_perm hSp.out
        · rw [hR.out, ← holeL_put]
          exact hO
      go_loopw [6] (fun t wr => ∃ k : Nat, k ≤ i ∧ t = .int .i64 k ∧ Hid (∃ h, OwnS bc wr w.heap.size 26 2 (.slice (some ⟨g1, 0, none⟩) l.length cap) (holeL S R k h)) ∧ Hid (∀ y ∈ S.drop k, x.cmp y < 0) ∧ Hid (rowOf wr g5 = some (#[.int .u8 x.k, .int .i16 x.y] : Array Value)) ∧ Below w.heap.size w wr) (fun t _ => (intOf t).toNat)
      case atStart => exact ⟨i, Nat.le_refl _, rfl, ⟨x, HO1.out⟩, (by rw [Hid, List.drop_eq_nil_of_le (by rw [hSl.out]; exact Nat.le_refl _)]; intro y hy; cases hy), r5, hb1⟩
      case round =>
        clear HO1 hb1 r5 hb
        obtain ⟨k, hk, rfl, HH, HL, HR5, hb⟩ := hrel
        obtain ⟨h, HO⟩ := HH.out
        clear HH
        have H := Below.refl wr.heap.size wr
        have hki : (k : Int) ≤ 1000000 := by omega
        have hlen2 : (holeL S R k h).length = l.length := by rw [holeL_length]; exact hlR.out
        rcases Nat.eq_zero_or_pos k with hz | hpos
        · have HE := fun W hO => HEND.out k W hk HL.out (by rw [hz]; intro y hy; simp at hy) hO
          have hz7 : ((0 : Int) < (k : Int)) = False := eq_false (by omega)
          have hz8 : (0 < k) = False := eq_false (by omega)
          have hkl : k < l.length := by omega
          have hkl2 : (k : Int) < (l.length : Int) := by omega
          replace hz := Lib.hid hz
          replace HO := Lib.hid HO
          replace HE := Lib.hid HE
          replace hlen2 := Lib.hid hlen2
          clear HL HEND
          go_upto_region 7 with fail
          refine wp_region_qB (by kernel_rfl) (by kernel_rfl) ?_
          (repeat (first | fail | (apply qB_step; intro K hK; go_simp; first | (refine hK _ ?_; clear hK K) | (apply Exists.intro; refine ⟨fun _ => ?_, hK _ ?_⟩; (first | fail); clear hK K))))
          refine qB_nil ?_
          intro w1 hw1
          replace H := bstep H hw1
          clear hw1
          have R5 := row_kept HR5.out H
          have z0 : w1.cell? ⟨g5, 0, none⟩ = some (.int .u8 x.k) := rowOf_cell R5 0
          have z1 : w1.cell? ⟨g5, 1, none⟩ = some (.int .i16 x.y) := rowOf_cell R5 1
          have HO2 := Lib.hid (HO.out.kept H)
          have hkL := Lib.hid (show k < (holeL S R k h).length by rw [hlen2.out]; exact hkl)
          go_wp2_with (refine wp_store_el rfl rfl _ _ _ rfl _ _ rfl #[.int .u8 x.k, .int .i16 x.y] rfl (HO2.out.room hkL.out rfl) (infoB _ _) (bv_one _ _) ?_)
          go_roundw
          case rel => exact ⟨i + 1, by omega, by omega, by go_num, HE.out _ (by have := HO2.out.setEl bc_length x hkL.out; rw [holeL_set (by rw [hSl.out]; exact hk)] at this; exact this), (bstep hb H).trans (putEl_below hB1 _ _)⟩
          case measure => simp [intOf]; omega
        · obtain ⟨k, rfl⟩ : ∃ k', k = k' + 1 := ⟨k - 1, by omega⟩
          have hkS : k < S.length := by rw [hSl.out]; omega
          have hY : CAt wr g1 (0 + k * 2) (bc S[k]) := by
            rw [← holeL_at (R := R) (h := h) hkS]
            exact HO.cat.2.c.el bc_length (by omega)
          rw [Nat.zero_add] at hY
          have hkl : k + 1 < l.length := by omega
          have hkl2 : (k : Int) + 1 < (l.length : Int) := by omega
          have hkl3 : (k : Int) < (l.length : Int) := by omega
          have hk1 : (0 : Int) < (k : Int) + 1 := by omega
          have hk0 : (0 : Int) < ((k + 1 : Nat) : Int) := by omega
          have hwk : IntKind.i64.wrap (k : Int) = (k : Int) := by rw [IntKind.wrap_i64]; omega
          have HD := Lib.hid (holeL_down (R := R) hkS)
          have HSS := Lib.hid (holeL_set (S := S) (R := R) (k := k + 1) (h := h) (x := S[k]) (by omega))
          have HLT : Hid (x.cmp S[k] < 0 → ∀ y ∈ S.drop k, x.cmp y < 0) := fun hc y hy => by
            rw [List.drop_eq_getElem_cons hkS, List.mem_cons] at hy
            rcases hy with rfl | hy
            · exact hc
            · exact HL.out y hy
          have HE := fun (hc : ¬ x.cmp S[k] < 0) W hO => HEND.out (k + 1) W hk HL.out (take_le hSs.out hkS hc) hO
          generalize S[k] = y at hY HD HSS HLT HE
          have Y0 := Lib.hid hY
          have y0 := cell_regrown (hY 0 _ rfl)
          have y1 := cell_regrown (hY 1 _ rfl)
          rw [Nat.add_zero] at y0
          have z0 := cell_regrown (show wr.cell? ⟨g5, 0, none⟩ = some (.int .u8 x.k) from rowOf_cell HR5.out 0)
          have z1 := cell_regrown (show wr.cell? ⟨g5, 1, none⟩ = some (.int .i16 x.y) from rowOf_cell HR5.out 1)
          replace HO := Lib.hid HO
          replace HE := Lib.hid HE
          replace hlen2 := Lib.hid hlen2
          have hg1w := Lib.hid HO.out.cat.2.lt
          clear hY HL HEND
          by_cases hcmp : x.cmp y < 0
          · go_upto_region 7 with fail
            refine wp_region_qB (by kernel_rfl) (by kernel_rfl) ?_
            (repeat (first | fail | (apply qB_step; intro K hK; go_simp; first | (refine hK _ ?_; clear hK K) | (apply Exists.intro; refine ⟨fun _ => ?_, hK _ ?_⟩; (first | (go_at_call 100; with_reducible exact sCompareBottles_any x y _)); clear hK K))))
            refine qB_nil ?_
            intro w1 hw1
            replace H := bstep H hw1
            clear hw1
            have HLT2 := Lib.hid (HLT.out hcmp)
            have hY := Y0.out.below H hg1w.out
            clear y0 y1 z0 z1 hcmp HLT HE
            have y0 : w1.cell? ⟨g1, k * 2, none⟩ = some (.int .u8 y.k) := hY 0 _ rfl
            have y1 : w1.cell? ⟨g1, k * 2 + 1, none⟩ = some (.int .i16 y.y) := hY 1 _ rfl
            have HO2 := Lib.hid (HO.out.kept H)
            have hkL := Lib.hid (show k + 1 < (holeL S R (k + 1) h).length by rw [hlen2.out]; exact hkl)
            have R5 := Lib.hid ((rowOf_putEl_ne (vs := #[.int .u8 y.k, .int .i16 y.y]) (o := (k + 1) * 2) hgne).trans (row_kept HR5.out H))
            clear hY
            go_wp2_with (refine wp_store_el rfl rfl _ _ _ rfl _ _ rfl #[.int .u8 y.k, .int .i16 y.y] rfl (HO2.out.room hkL.out rfl) (infoB _ _) (bv_one _ _) ?_)
            go_roundw
            case rel => exact ⟨k, by omega, by go_num, ⟨y, by have := HO2.out.setEl bc_length y hkL.out; rw [HSS.out, HD.out] at this; exact this⟩, HLT2, R5, (bstep hb H).trans (putEl_below hB1 _ _)⟩
            case measure => simp [intOf]
          · have HE2 := Lib.hid (HE.out hcmp)
            have hcmp2 : 0 ≤ x.cmp y := by omega
            go_upto_region 7 with fail
            refine wp_region_qB (by kernel_rfl) (by kernel_rfl) ?_
            (repeat (first | fail | (apply qB_step; intro K hK; go_simp; first | (refine hK _ ?_; clear hK K) | (apply Exists.intro; refine ⟨fun _ => ?_, hK _ ?_⟩; (first | (go_at_call 100; with_reducible exact sCompareBottles_any x y _)); clear hK K))))
            refine qB_nil ?_
            intro w1 hw1
            replace H := bstep H hw1
            clear hw1
            clear y0 y1 z0 z1 hcmp hcmp2 HLT HE
            have R5 := row_kept HR5.out H
            have z0 : w1.cell? ⟨g5, 0, none⟩ = some (.int .u8 x.k) := rowOf_cell R5 0
            have z1 : w1.cell? ⟨g5, 1, none⟩ = some (.int .i16 x.y) := rowOf_cell R5 1
            have HO2 := Lib.hid (HO.out.kept H)
            have hkL := Lib.hid (show k + 1 < (holeL S R (k + 1) h).length by rw [hlen2.out]; exact hkl)
            go_wp2_with (refine wp_store_el rfl rfl _ _ _ rfl _ _ rfl #[.int .u8 x.k, .int .i16 x.y] rfl (HO2.out.room hkL.out rfl) (infoB _ _) (bv_one _ _) ?_)
            go_roundw
            case rel => exact ⟨i + 1, by omega, by omega, by go_num, HE2.out _ (by have := HO2.out.setEl bc_length x hkL.out; rw [holeL_set (by rw [hSl.out]; exact hk)] at this; exact this), (bstep hb H).trans (putEl_below hB1 _ _)⟩
            case measure => simp [intOf]; omega
    · have HO2 : Hid (OwnS bc wo w.heap.size 26 2 (.slice (some ⟨g1, 0, none⟩) l.length cap) (sortB l)) := by
        obtain ⟨S, hSl, hSp, hSs, HO⟩ := HS.out
        rw [List.take_of_length_le (by omega)] at hSp
        rw [List.drop_eq_nil_of_le (by omega), List.append_nil, sortB_of hSp hSs] at HO
        exact HO
      clear HS
      have hi3 : ¬ (i : Int) < (l.length : Int) := by omega
      go_wp2
      go_ret
      exact ⟨_, rfl, HO2.out, hb⟩
end Go.Proofs.YtbngpcghognojaaGreatDoor
