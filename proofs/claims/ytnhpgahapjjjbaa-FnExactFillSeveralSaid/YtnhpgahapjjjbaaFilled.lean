/- Contracts of the code of an order that can be filled. -/
import Derived.Test.YtnhpgahapjjjbaaOpened
import Derived.Test.YtnhpgahapjjjbaaPack
namespace Go.Proofs.Ytnhpgahapjjjbaa
open Go.RowKit
set_option linter.unusedVariables false
set_option linter.unusedSimpArgs false
set_option maxRecDepth 100000
set_option maxHeartbeats 1000000
attribute [local go_sem] Oper.qB
/-- The code of a stack and an order that can be filled. -/
def fillI (lc : List Cr) (l : List Wt) : Int := if askOk lc l = true then (if lackL (cntL lc) l = [] then 0 else 6) else 1
theorem fillI_cases (lc : List Cr) (l : List Wt) : (fillI lc l = 0 ∧ askOk lc l = true ∧ lackL (cntL lc) l = []) ∨ fillI lc l = 1 ∨ fillI lc l = 6 := by
  unfold fillI
  split
  · split
    · exact .inl ⟨rfl, ‹_›, ‹_›⟩
    · exact .inr (.inr rfl)
  · exact .inr (.inl rfl)
theorem fresh_nodup {ks : List Int} (h : ks.Nodup) {i : Nat} (hi : i < ks.length) : fresh ks i = true := by
  unfold fresh
  have e : ks.getD i 0 = ks[i] := by simp [List.getD_eq_getElem?_getD, hi]
  rw [e, Bool.not_eq_true', ← Bool.not_eq_true, List.contains_eq_mem, decide_eq_true_iff]
  intro hm
  obtain ⟨j, hj, hj2⟩ := List.getElem_of_mem hm
  rw [List.length_take] at hj
  rw [List.getElem_take] at hj2
  have := (List.getElem_inj h).1 hj2
  omega
theorem opL_nodup (lc : List Cr) {ks : List Int} (h : ks.Nodup) : opL lc ks = ks.map fun y => lc[y.toNat]! := by
  unfold opL opK
  rw [List.filter_eq_self.2 (fun i hi => fresh_nodup h (List.mem_range.1 hi))]
  apply List.ext_getElem
  · simp
  · intro i h1 h2
    have hi : i < ks.length := by simpa using h1
    simp [List.getD_eq_getElem?_getD, hi]
theorem cntL_perm {l l' : List Cr} (h : l.Perm l') (b : Bt) : cntL l b = cntL l' b := (h.map _).sum_nat
theorem everyL_nodup (n : Nat) : (everyL n).Nodup := List.pairwise_map.2 (List.Pairwise.imp (fun h q => h (Int.ofNat.inj q)) List.nodup_range)
theorem everyL_mem {n : Nat} {x : Int} (h0 : 0 ≤ x) (h : x < n) : x ∈ everyL n := by
  simp only [everyL, List.mem_map, List.mem_range]
  exact ⟨x.toNat, by omega, by show (x.toNat : Int) = x; omega⟩
/-- Numbers of crates, each once. -/
structure Good (n : Nat) (ks : List Int) : Prop where
  nd : ks.Nodup
  inn : ∀ x ∈ ks, 0 ≤ x ∧ x < n
theorem Good.le {n : Nat} {ks : List Int} (h : Good n ks) : ks.length ≤ n := by
  have := h.nd.length_le_of_subset (l₂ := everyL n) fun x hx => everyL_mem (h.inn x hx).1 (h.inn x hx).2
  rwa [everyL_length] at this
/-- All crates are told: nothing more is lacking than in all. -/
theorem Good.all {lc : List Cr} {ks : List Int} (h : Good lc.length ks) (ha : ∀ i, i < lc.length → (i : Int) ∈ ks) (b : Bt) : cntL (opL lc ks) b = cntL lc b := by
  have hp : ks.Perm (everyL lc.length) := (List.perm_ext_iff_of_nodup h.nd (everyL_nodup _)).2 fun x => ⟨fun hx => everyL_mem (h.inn x hx).1 (h.inn x hx).2, fun hx => by
    have := everyL_in hx
    have := ha x.toNat (by omega)
    rwa [show ((x.toNat : Nat) : Int) = x by omega] at this⟩
  have e := opL_every lc
  rw [opL_nodup lc (everyL_nodup _)] at e
  rw [opL_nodup lc h.nd]
  conv => rhs; rw [← e]
  exact cntL_perm (hp.map _) b
theorem fillCode_any (g0 c0 : Nat) (lc : List Cr) (g1 c1 : Nat) (l : List Wt) (w : World) (K0 : Lies cc w g0 lc) (K1 : Lies wc w g1 l) (hn : lc.length ≤ 1048576) (hl : l.length ≤ 1048576) :
    Calls Try.prog 78 #[.slice (some ⟨g0, 0, none⟩) lc.length c0, .slice (some ⟨g1, 0, none⟩) l.length c1] w fun e w' => e = .returned (.int .i64 (fillI lc l)) ∧ Below w.heap.size w w' := by
  have H := Below.refl w.heap.size w
  replace K0 := Lib.hid K0
  replace K1 := Lib.hid K1
  cases e1 : stackOk lc with
  | false =>
    have HF := Lib.hid (show fillI lc l = 1 by simp [fillI, askOk, e1])
    go_enter Try.func78, Try.ntmps78
    go_wp2_with (go_at_call 97; with_reducible refine (ValidStack_any g0 0 c0 lc _ (K0.out.below H).c (K0.out.below H).lt (by omega)).mono ?_; rintro e w' ⟨rfl, hb⟩; replace H := bstep H hb; clear hb; have hc := bcell H)
    go_ret
    exact ⟨ret_int HF.out.symm, H⟩
  | true =>
    cases e2 : ordOk l with
    | false =>
      have HF := Lib.hid (show fillI lc l = 1 by simp [fillI, askOk, e1, e2])
      go_enter Try.func78, Try.ntmps78
      go_wp2_with (first | (go_at_call 97; with_reducible refine (ValidStack_any g0 0 c0 lc _ (K0.out.below H).c (K0.out.below H).lt (by omega)).mono ?_; rintro e w' ⟨rfl, hb⟩; replace H := bstep H hb; clear hb; have hc := bcell H) | (go_at_call 100; with_reducible refine (ValidOrder_any g1 0 c1 l _ (K1.out.below H).c (K1.out.below H).lt (by omega)).mono ?_; rintro e w' ⟨rfl, hb⟩; replace H := bstep H hb; clear hb; have hc := bcell H))
      go_ret
      exact ⟨ret_int HF.out.symm, H⟩
    | true =>
      have ea : askOk lc l = true := by simp [askOk, e1, e2]
      have h8 := ask_le ea
      have HF : Hid (fillI lc l = if lackL (cntL lc) l = [] then 0 else 6) := by rw [Hid, fillI, if_pos ea]
      have HLE := lackL_le (cntL lc) l
      have HK := fun A c W h b hb1 => lack_any A c lc g1 0 c1 l W h b hb1 hn (by omega)
      clear ea
      generalize lackL (cntL lc) l = ll at HF HLE HK
      rcases Nat.eq_zero_or_pos ll.length with h0 | h0
      · have HF2 := Lib.hid (show fillI lc l = 0 by rw [HF.out, if_pos (List.length_eq_zero_iff.1 h0)])
        go_enter Try.func78, Try.ntmps78
        go_wp2_with (first | (go_at_call 97; with_reducible refine (ValidStack_any g0 0 c0 lc _ (K0.out.below H).c (K0.out.below H).lt (by omega)).mono ?_; rintro e w' ⟨rfl, hb⟩; replace H := bstep H hb; clear hb; have hc := bcell H) | (go_at_call 100; with_reducible refine (ValidOrder_any g1 0 c1 l _ (K1.out.below H).c (K1.out.below H).lt (by omega)).mono ?_; rintro e w' ⟨rfl, hb⟩; replace H := bstep H hb; clear hb; have hc := bcell H) | (go_at_call 84; with_reducible refine (HK _ c0 _ (K0.out.below H).rd (K1.out.below H).c (K1.out.below H).lt).mono ?_; rintro e w3 ⟨v3, rfl, O3, hb⟩; obtain ⟨g3, p3, rfl, -⟩ := O3.lies; replace H := bstep H hb; clear hb O3))
        go_ret
        exact ⟨ret_int HF2.out.symm, H⟩
      · have HF2 := Lib.hid (show fillI lc l = 6 by rw [HF.out, if_neg (fun q => by simp [q] at h0)])
        go_enter Try.func78, Try.ntmps78
        go_wp2_with (first | (go_at_call 97; with_reducible refine (ValidStack_any g0 0 c0 lc _ (K0.out.below H).c (K0.out.below H).lt (by omega)).mono ?_; rintro e w' ⟨rfl, hb⟩; replace H := bstep H hb; clear hb; have hc := bcell H) | (go_at_call 100; with_reducible refine (ValidOrder_any g1 0 c1 l _ (K1.out.below H).c (K1.out.below H).lt (by omega)).mono ?_; rintro e w' ⟨rfl, hb⟩; replace H := bstep H hb; clear hb; have hc := bcell H) | (go_at_call 84; with_reducible refine (HK _ c0 _ (K0.out.below H).rd (K1.out.below H).c (K1.out.below H).lt).mono ?_; rintro e w3 ⟨v3, rfl, O3, hb⟩; obtain ⟨g3, p3, rfl, -⟩ := O3.lies; replace H := bstep H hb; clear hb O3))
        go_ret
        exact ⟨ret_int HF2.out.symm, H⟩
theorem l02Filled_any (g0 c0 : Nat) (lc : List Cr) (g1 c1 : Nat) (l : List Wt) (w : World) (K0 : Lies cc w g0 lc) (K1 : Lies wc w g1 l) (hn : lc.length ≤ 1048576) (hl : l.length ≤ 1048576) :
    Calls Try.prog 74 #[.slice (some ⟨g0, 0, none⟩) lc.length c0, .slice (some ⟨g1, 0, none⟩) l.length c1] w fun e w' => e = .returned (.int .i64 (fillI lc l)) ∧ Below w.heap.size w w' := by
  have H := Below.refl w.heap.size w
  replace K0 := Lib.hid K0
  replace K1 := Lib.hid K1
  cases e1 : askOk lc l with
  | false =>
    have HF := Lib.hid (show fillI lc l = 1 by simp [fillI, e1])
    have HA := Lib.hid (show askI lc l = 1 by simp [askI, e1])
    go_enter Try.func74, Try.ntmps74
    go_wp2_with (go_at_call 96; with_reducible refine (l02Asked_any g0 c0 lc g1 0 c1 l _ (K0.out.below H) (K1.out.below H).c (K1.out.below H).lt hn hl).mono ?_; rintro e w' ⟨rfl, hb⟩; rw [HA.out]; replace H := bstep H hb; clear hb)
    go_ret
    exact ⟨ret_int HF.out.symm, H⟩
  | true =>
    have h8 := ask_le e1
    have HF : Hid (fillI lc l = if lackL (cntL lc) l = [] then 0 else 6) := by rw [Hid, fillI, if_pos e1]
    have HA := Lib.hid (show askI lc l = 0 by simp [askI, e1])
    have HLE := lackL_le (cntL lc) l
    have HK := fun v B W k0 h hb1 O => l02LackAll_any g0 c0 lc g1 0 c1 l v B W k0 h hb1 O hn (by omega)
    clear e1
    generalize lackL (cntL lc) l = ll at HF HLE HK
    rcases Nat.eq_zero_or_pos ll.length with h0 | h0
    · have HF2 := Lib.hid (show fillI lc l = 0 by rw [HF.out, if_pos (List.length_eq_zero_iff.1 h0)])
      go_enter Try.func74, Try.ntmps74
      go_wp2_with (first | (go_at_call 96; with_reducible refine (l02Asked_any g0 c0 lc g1 0 c1 l _ (K0.out.below H) (K1.out.below H).c (K1.out.below H).lt hn hl).mono ?_; rintro e w' ⟨rfl, hb⟩; rw [HA.out]; replace H := bstep H hb; clear hb) | (go_at_call 123; with_reducible refine (l02Every_any _ lc.length c0 _ hn).mono ?_; rintro e w2 ⟨v2, rfl, O2, hb⟩; replace H := bstep H hb; clear hb) | (go_at_call 81; with_reducible refine (HK v2 _ _ (K0.out.below H) (K1.out.below H).c (K1.out.below H).lt O2).mono ?_; rintro e w3 ⟨v3, rfl, O3, hb⟩; obtain ⟨g3, p3, rfl, -⟩ := O3.lies; replace H := bstep H hb; clear hb O3))
      go_ret
      exact ⟨ret_int HF2.out.symm, H⟩
    · have HF2 := Lib.hid (show fillI lc l = 6 by rw [HF.out, if_neg (fun q => by simp [q] at h0)])
      go_enter Try.func74, Try.ntmps74
      go_wp2_with (first | (go_at_call 96; with_reducible refine (l02Asked_any g0 c0 lc g1 0 c1 l _ (K0.out.below H) (K1.out.below H).c (K1.out.below H).lt hn hl).mono ?_; rintro e w' ⟨rfl, hb⟩; rw [HA.out]; replace H := bstep H hb; clear hb) | (go_at_call 123; with_reducible refine (l02Every_any _ lc.length c0 _ hn).mono ?_; rintro e w2 ⟨v2, rfl, O2, hb⟩; replace H := bstep H hb; clear hb) | (go_at_call 81; with_reducible refine (HK v2 _ _ (K0.out.below H) (K1.out.below H).c (K1.out.below H).lt O2).mono ?_; rintro e w3 ⟨v3, rfl, O3, hb⟩; obtain ⟨g3, p3, rfl, -⟩ := O3.lies; replace H := bstep H hb; clear hb O3))
      go_ret
      exact ⟨ret_int HF2.out.symm, H⟩
end Go.Proofs.Ytnhpgahapjjjbaa
