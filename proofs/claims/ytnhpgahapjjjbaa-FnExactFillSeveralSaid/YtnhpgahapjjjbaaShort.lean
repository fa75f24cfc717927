/- Contracts of ShortIn and CanFill: what an order lacks in a stack. -/
import Derived.Test.YtnhpgahapjjjbaaOpen
import Derived.Test.YtnhpgahapjjjbaaMarkW
namespace Go.Proofs.Ytnhpgahapjjjbaa
open Go.RowKit
set_option linter.unusedVariables false
set_option linter.unusedSimpArgs false
set_option maxRecDepth 100000
set_option maxHeartbeats 1000000
attribute [local go_sem] Oper.qB
/-- All numbers of crates. -/
def everyL (n : Nat) : List Int := (List.range n).map Int.ofNat
theorem everyL_length (n : Nat) : (everyL n).length = n := by simp [everyL]
theorem everyL_succ (n : Nat) : everyL (n + 1) = everyL n ++ [(n : Int)] := by simp [everyL, List.range_succ]
theorem everyL_at {n i : Nat} (h : i < n) : (everyL n).getD i 0 = (i : Int) := by simp [everyL, List.getD_eq_getElem?_getD, h]
theorem everyL_take {n i : Nat} (h : i ≤ n) : (everyL n).take i = everyL i := by simp [everyL, ← List.map_take, List.take_range, Nat.min_eq_left h]
theorem everyL_in {n : Nat} {x : Int} (h : x ∈ everyL n) : 0 ≤ x ∧ x < n := by
  simp only [everyL, List.mem_map, List.mem_range] at h
  obtain ⟨i, hi, rfl⟩ := h
  exact ⟨Int.natCast_nonneg i, by show (i : Int) < n; omega⟩
theorem opK_every (lc : List Cr) : ∀ j, j ≤ lc.length → opK lc (everyL lc.length) j = lc.take j
  | 0, _ => by simp [opK]
  | j + 1, h => by
    have hf : fresh (everyL lc.length) j = true := by
      unfold fresh
      rw [everyL_at (by omega), everyL_take (by omega), Bool.not_eq_true', ← Bool.not_eq_true, List.contains_eq_mem, decide_eq_true_iff]
      intro hm
      have := (everyL_in hm).2
      omega
    rw [opK_yes hf, opK_every lc j (by omega), everyL_at (by omega), Int.toNat_natCast, List.take_succ_eq_append_getElem (by omega), getB (by omega)]
theorem opL_every (lc : List Cr) : opL lc (everyL lc.length) = lc := by
  unfold opL
  rw [everyL_length, opK_every lc _ (Nat.le_refl _), List.take_length]
def askOk (lc : List Cr) (l : List Wt) : Bool := stackOk lc && ordOk l
theorem ask_le {lc : List Cr} {l : List Wt} (h : askOk lc l = true) : lc.length ≤ 12 ∧ l.length ≤ 8 := by
  simp [askOk, stackOk, ordOk] at h
  omega
def askI (lc : List Cr) (l : List Wt) : Int := if askOk lc l = true then 0 else 1
def shortR (lc : List Cr) (l : List Wt) : List Wt × Int := if askOk lc l = true then (lackL (cntL lc) l, 0) else ([], 1)
def canR (lc : List Cr) (l : List Wt) : Bool × Int := if askOk lc l = true then ((lackL (cntL lc) l).isEmpty, 0) else (false, 1)
theorem shortR_le (lc : List Cr) (l : List Wt) : (shortR lc l).1.length ≤ 8 := by
  unfold shortR
  split
  · rename_i h
    have := lackL_le (cntL lc) l
    have := ask_le h
    show (lackL (cntL lc) l).length ≤ 8
    omega
  · simp
theorem OwnS.n {α : Type} {f : α → List Value} {w : World} {B e size : Nat} {v : Value} {l : List α} (h : OwnS f w B e size v l) : OwnN f w B e size v l := h.1
theorem OwnN.nil {α : Type} {f : α → List Value} {w : World} {B e size : Nat} : OwnN f w B e size (.slice none 0 0) ([] : List α) := own_nil
theorem len_none (n : Nat) {α : Type} (l : List α) (h : l.length = n) : ((n : Int) == 0) = l.isEmpty := by
  subst h
  cases l with
  | nil => rfl
  | cons x l =>
    simp only [List.isEmpty_cons, beq_eq_false_iff_ne, List.length_cons]
    omega
theorem l02Every_any (A0 : Option Addr) (n c0 : Nat) (w : World) (hn : n ≤ 1048576) :
    Calls Try.prog 123 #[.slice A0 n c0] w fun e w' => ∃ v, e = .returned v ∧ OwnS iv w' w.heap.size 2 1 v (everyL n) ∧ Below w.heap.size w w' := by
  go_enter Try.func123, Try.ntmps123
  go_wp2
  go_loopw [3, 4] (fun v i wr => ∃ k : Nat, k ≤ n ∧ i = .int .i64 k ∧ Hid (OwnS iv wr w.heap.size 2 1 v (everyL k)) ∧ Below w.heap.size w wr) (fun _ i _ => n - (intOf i).toNat)
  case atStart => exact ⟨0, Nat.zero_le _, rfl, OwnS.lit (Nat.le_refl _), by go_grown⟩
  case round =>
    obtain ⟨k, hk, rfl, HO, hb⟩ := hrel
    by_cases hlt : k < n
    · have hlt2 : (k : Int) < (n : Int) := by omega
      have HL := Lib.hid (everyL_length k)
      have HE := Lib.hid (everyL_succ k)
      go_wp2_with (at_builtin; refine wp_app_num w.heap.size rfl _ _ rfl _ (everyL k) (k : Int) rfl _ rfl ?hg ?HO ?hB ?hn ?_; (case hg => simp); (case HO => exact HO.out); (case hB => exact hb.size); (case hn => rw [HL.out]; omega); intro v1 w1 hown hb2)
      go_roundw
      case rel => exact ⟨k + 1, by omega, by go_num, by rw [HE.out]; exact hown, hb.trans hb2⟩
      case measure => simp [intOf]; omega
    · obtain rfl : k = n := by omega
      go_wp2
      go_ret
      exact ⟨_, rfl, HO.out, hb⟩
theorem l02Asked_any (g0 c0 : Nat) (lc : List Cr) (b off c1 : Nat) (l : List Wt) (w : World) (K0 : Lies cc w g0 lc) (hC : CAt w b off (fl wc l)) (hb1 : b < w.heap.size) (hn : lc.length ≤ 1048576) (hl : l.length ≤ 1048576) :
    Calls Try.prog 96 #[.slice (some ⟨g0, 0, none⟩) lc.length c0, .slice (some ⟨b, off, none⟩) l.length c1] w fun e w' => e = .returned (.int .i64 (askI lc l)) ∧ Below w.heap.size w w' := by
  have HC := Lib.hid (⟨hC, hb1⟩ : _ ∧ _)
  have H := Below.refl w.heap.size w
  clear hC hb1
  replace K0 := Lib.hid K0
  cases e1 : stackOk lc with
  | false =>
    have HF := Lib.hid (show askI lc l = 1 by simp [askI, askOk, e1])
    go_enter Try.func96, Try.ntmps96
    go_wp2_with (go_at_call 104; with_reducible refine (l01Stack_any g0 0 c0 lc _ (K0.out.below H).c (K0.out.below H).lt (by omega)).mono ?_; rintro e w' ⟨rfl, hb⟩; replace H := bstep H hb; clear hb; have hc := bcell H)
    go_ret
    exact ⟨ret_int HF.out.symm, H⟩
  | true =>
    cases e2 : ordOk l with
    | false =>
      have HF := Lib.hid (show askI lc l = 1 by simp [askI, askOk, e1, e2])
      go_enter Try.func96, Try.ntmps96
      go_wp2_with (first | (go_at_call 104; with_reducible refine (l01Stack_any g0 0 c0 lc _ (K0.out.below H).c (K0.out.below H).lt (by omega)).mono ?_; rintro e w' ⟨rfl, hb⟩; replace H := bstep H hb; clear hb; have hc := bcell H) | (go_at_call 133; with_reducible refine (l02Ok_any b off c1 l _ (HC.out.1.below H HC.out.2) (Nat.lt_of_lt_of_le HC.out.2 H.size) (by omega)).mono ?_; rintro e w' ⟨rfl, hb⟩; replace H := bstep H hb; clear hb; have hc := bcell H))
      go_ret
      exact ⟨ret_int HF.out.symm, H⟩
    | true =>
      have HF := Lib.hid (show askI lc l = 0 by simp [askI, askOk, e1, e2])
      go_enter Try.func96, Try.ntmps96
      go_wp2_with (first | (go_at_call 104; with_reducible refine (l01Stack_any g0 0 c0 lc _ (K0.out.below H).c (K0.out.below H).lt (by omega)).mono ?_; rintro e w' ⟨rfl, hb⟩; replace H := bstep H hb; clear hb; have hc := bcell H) | (go_at_call 133; with_reducible refine (l02Ok_any b off c1 l _ (HC.out.1.below H HC.out.2) (Nat.lt_of_lt_of_le HC.out.2 H.size) (by omega)).mono ?_; rintro e w' ⟨rfl, hb⟩; replace H := bstep H hb; clear hb; have hc := bcell H))
      go_ret
      exact ⟨ret_int HF.out.symm, H⟩
/-- What is lacking behind all crates. -/
theorem l02LackAll_any (g0 c0 : Nat) (lc : List Cr) (b off c1 : Nat) (l : List Wt) (v : Value) (B : Nat) (w : World) (K0 : Lies cc w g0 lc) (hC : CAt w b off (fl wc l)) (hb1 : b < w.heap.size) (O : OwnS iv w B 2 1 v (everyL lc.length)) (hn : lc.length ≤ 1048576) (hl : l.length ≤ 1000000) :
    Calls Try.prog 81 #[.slice (some ⟨g0, 0, none⟩) lc.length c0, .slice (some ⟨b, off, none⟩) l.length c1, v] w fun e w' => ∃ v, e = .returned v ∧ OwnS wc w' w.heap.size 100 3 v (lackL (cntL lc) l) ∧ Below w.heap.size w w' := by
  obtain ⟨g, cap, rfl, L, _, _, hc⟩ := O.lies
  have := l02Lack_any (some ⟨g0, 0, none⟩) c0 lc b off c1 l (some ⟨g, 0, none⟩) cap (everyL lc.length) w K0.rd hC hb1 (by rw [← fl_iv]; exact L.rd) (fun x hx => everyL_in hx) hc hn hl (by rw [everyL_length]; exact hn)
  rwa [opL_every] at this
end Go.Proofs.Ytnhpgahapjjjbaa
