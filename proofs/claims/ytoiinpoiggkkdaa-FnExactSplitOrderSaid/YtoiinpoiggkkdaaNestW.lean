/- Slices of orders: read as data, copied, measured, compared, marked, held. -/
import Derived.Test.YtoiinpoiggkkdaaNest
import Derived.Test.YtoiinpoiggkkdaaMarkW
import Derived.Test.YtoiinpoiggkkdaaRead
namespace Go.Proofs.Ytoiinpoiggkkdaa
open Go.RowKit Go.ChangeShapes Go.WideShapes Go.ChangeAt
set_option linter.unusedVariables false
set_option linter.unusedSimpArgs false
set_option maxRecDepth 100000
set_option maxHeartbeats 4000000
attribute [local go_sem] Oper.qB
section
variable {α : Type} {f : α → List Value} {w w' : World} {B k e E : Nat} {v : Value} {ls : List (List α)}
/-- Slices of elements, each owned and apart from the others, their blocks below T, in an owned slice. -/
def OwnA (f : α → List Value) (k e E : Nat) (w : World) (B T : Nat) (v : Value) (ls : List (List α)) : Prop :=
  ∃ vs : List Value, vs.length = ls.length ∧ OwnS slv w B E 1 v vs ∧ (∀ i, i < ls.length → OwnS f w B e k vs[i]! ls[i]! ∧ ∀ b, vs[i]!.ownBlock = some b → b < T) ∧ ∀ i j, i < j → j < ls.length → Apart vs[i]! vs[j]!
theorem OwnA.kept {T : Nat} (h : OwnA f k e E w B T v ls) (hb : Below w.heap.size w w') : OwnA f k e E w' B T v ls := by
  obtain ⟨vs, h1, h2, h3, h4⟩ := h
  exact ⟨vs, h1, h2.kept hb, fun i hi => ⟨(h3 i hi).1.kept hb, (h3 i hi).2⟩, h4⟩
theorem OwnA.down {T b : Nat} (h : OwnA f k e E w B T v ls) (hb : b ≤ B) : OwnA f k e E w b T v ls := by
  obtain ⟨vs, h1, h2, h3, h4⟩ := h
  exact ⟨vs, h1, h2.down hb, fun i hi => ⟨(h3 i hi).1.down hb, (h3 i hi).2⟩, h4⟩
theorem OwnA.form {T : Nat} (h : OwnA f k e E w B T v ls) : ∃ g cap, v = .slice (some ⟨g, 0, none⟩) ls.length cap := by
  obtain ⟨vs, h1, h2, h3, h4⟩ := h
  obtain ⟨g, cap, hv, _⟩ := h2.lies
  exact ⟨g, cap, by rw [← h1]; exact hv⟩
theorem OwnA.el {T g cap : Nat} (h : OwnA f k e E w B T (.slice (some ⟨g, 0, none⟩) ls.length cap) ls) {i : Nat} (hi : i < ls.length) : g < w.heap.size ∧ ∃ g1 c1, w.cell? ⟨g, i, none⟩ = some (.slice (some ⟨g1, 0, none⟩) ls[i]!.length c1) ∧ Lies f w g1 ls[i]! ∧ ls[i]!.length ≤ c1 := by
  obtain ⟨vs, h1, h2, h3, h4⟩ := h
  obtain ⟨g', cap', hv, K, hB, hg, _⟩ := h2.lies
  obtain ⟨rfl, -⟩ : g = g' ∧ cap = cap' := by
    simp only [Value.slice.injEq, Option.some.injEq, Addr.mk.injEq, and_true, true_and] at hv
    exact ⟨hv.1, hv.2.2⟩
  obtain ⟨g1, c1, hu, KU, -, -, hc⟩ := (h3 i hi).1.lies
  refine ⟨hg, g1, c1, ?_, KU, hc⟩
  have := K.c.el slv_length (i := i) (by omega) 0 vs[i]! rfl
  rw [← hu]
  simpa using this
/-- How many elements there are in all. -/
def tot (ls : List (List α)) : Nat := (ls.map List.length).sum
theorem tot_step {i : Nat} (h : i < ls.length) : tot (ls.take (i + 1)) = tot (ls.take i) + ls[i]!.length := by
  unfold tot
  rw [List.take_succ_eq_append_getElem h, List.map_append, List.sum_append, getB h]
  simp
theorem tot_take_le (i : Nat) : tot (ls.take i) ≤ tot ls := by
  have e : tot ls = tot (ls.take i) + tot (ls.drop i) := by
    unfold tot
    rw [← List.sum_append, ← List.map_append, List.take_append_drop]
  omega
theorem tot_el {i : Nat} (h : i < ls.length) : ls[i]!.length ≤ tot ls := by
  have := tot_step h
  have := tot_take_le (ls := ls) (i + 1)
  omega
/-- Slices of elements that are read. -/
def RdSS (f : α → List Value) (w : World) (A : Option Addr) (ls : List (List α)) : Prop :=
  ls = [] ∨ ∃ g off, A = some ⟨g, off, none⟩ ∧ g < w.heap.size ∧ ∀ i, i < ls.length → ∃ A' c', w.cell? ⟨g, off + i, none⟩ = some (.slice A' ls[i]!.length c') ∧ ls[i]!.length ≤ maxLen ∧ RdA w A' (fl f ls[i]!)
theorem RdSS.below {A : Option Addr} (h : RdSS f w A ls) (hb : Below w.heap.size w w') : RdSS f w' A ls := by
  rcases h with h | ⟨g, off, hA, hg, h⟩
  · exact .inl h
  · refine .inr ⟨g, off, hA, Nat.lt_of_lt_of_le hg hb.size, fun i hi => ?_⟩
    obtain ⟨A', c', h1, h2, h3⟩ := h i hi
    exact ⟨A', c', (hb.cell hg).trans h1, h2, h3.below hb⟩
theorem RdSS.some {A : Option Addr} (h : RdSS f w A ls) (hn : 0 < ls.length) : ∃ g off, A = Option.some ⟨g, off, none⟩ ∧ g < w.heap.size ∧ ∀ i, i < ls.length → ∃ A' c', w.cell? ⟨g, off + i, none⟩ = Option.some (.slice A' ls[i]!.length c') ∧ ls[i]!.length ≤ maxLen ∧ RdA w A' (fl f ls[i]!) := by
  rcases h with h | h
  · rw [h] at hn
    exact absurd hn (Nat.not_lt_zero _)
  · exact h
/-- The marks: nothing but blocks from B to T has changed. -/
def ButR (B T : Nat) (w w' : World) : Prop := Below 0 w w' ∧ ∀ b, b < w.heap.size → ¬ (B ≤ b ∧ b < T) → w'.heap[b]? = w.heap[b]?
theorem ButR.refl {B T : Nat} : ButR B T w w := ⟨Below.refl _ _, fun _ _ _ => rfl⟩
theorem ButR.trans {B T : Nat} {w1 : World} (h : ButR B T w w1) (h' : ButR B T w1 w') : ButR B T w w' :=
  ⟨h.1.trans h'.1, fun b hb hv => (h'.2 b (Nat.lt_of_lt_of_le hb h.1.size) hv).trans (h.2 b hb hv)⟩
theorem ButR.of {T : Nat} (hb : ButV v w w') (hv : ∀ b, v.ownBlock = Option.some b → B ≤ b ∧ b < T) : ButR B T w w' := ⟨hb.1, fun b hl h => hb.2 b hl fun q => h (hv b q)⟩
theorem OwnN.butR {B' T : Nat} {l : List α} (h : OwnN f w B e k v l) (hb : ButR B' T w w') (ha : ∀ b, v.ownBlock = Option.some b → ¬ (B' ≤ b ∧ b < T)) : OwnN f w' B e k v l :=
  ⟨h.1, h.2.imp (fun h => h) fun ⟨g, cap, cur, hv, hg, hh, hr⟩ => ⟨g, cap, cur, hv, hg, by
    rw [hb.2 g (Array.getElem?_eq_some_iff.1 hh).1 (ha g (by rw [hv]; rfl))]
    exact hh, hr⟩⟩
theorem OwnN.lt {l : List α} (h : OwnN f w B e k v l) : ∀ b, v.ownBlock = Option.some b → b < w.heap.size := own_lt h
theorem OwnN.base {l : List α} (h : OwnN f w B e k v l) : ∀ b, v.ownBlock = Option.some b → B ≤ b := own_base h
end
theorem set_fill {vs : List Value} {n k : Nat} (hk : k < n) (hl : vs.length = k) (v z : Value) : (vs ++ List.replicate (n - k) z).set k v = (vs ++ [v]) ++ List.replicate (n - (k + 1)) z := by
  rw [show n - k = (n - (k + 1)) + 1 by omega, List.replicate_succ, List.set_append_right _ _ (by omega), hl, Nat.sub_self, List.set_cons_zero, List.append_assoc]
  rfl
theorem at_old {vs : List Value} {v : Value} {i : Nat} (h : i < vs.length) : (vs ++ [v])[i]! = vs[i]! := by
  rw [getB (by simp; omega), getB h, List.getElem_append_left h]
theorem at_new {vs : List Value} {v : Value} {i : Nat} (h : i = vs.length) : (vs ++ [v])[i]! = v := by
  subst h
  rw [getB (by simp)]
  simp
theorem fill_slot {w : World} {B E n g k cap : Nat} {vs : List Value} {z : Value} (h : w.ownsRow B E 1 (.slice (some ⟨g, 0, none⟩) n cap) n (fl slv (vs ++ List.replicate (n - k) z))) (hk : k < n) (hl : vs.length = k) :
    w.cell? ⟨g, k, none⟩ = some z ∧ ∀ v, (w.setCell ⟨g, k, none⟩ v).ownsRow B E 1 (.slice (some ⟨g, 0, none⟩) n cap) n (fl slv ((vs ++ [v]) ++ List.replicate (n - (k + 1)) z)) := by
  rw [fl_slv] at h
  constructor
  · have := h.cellAt k (by omega)
    rw [List.getElem?_append_right (by omega), hl, Nat.sub_self, List.getElem?_replicate, if_pos (by omega)] at this
    exact this
  · intro v
    have := (h.stored k v).1
    rw [set_fill hk hl] at this
    rw [fl_slv]
    exact this
theorem eqWantSS_own {B T B' T' : Nat} {v v' : Value} (ls : List (List Wt)) (w : World) (h : OwnA wc 3 43 27 w B T v ls) (h' : OwnA wc 3 43 27 w B' T' v' ls) (hn : ls.length ≤ 1048576) (hl : tot ls ≤ 1048576) :
    Calls Try.prog 9 #[v, v'] w fun e w' => e = .returned (.bool true) ∧ Below w.heap.size w w' := by
  obtain ⟨g, c, rfl⟩ := h.form
  obtain ⟨g', c', rfl⟩ := h'.form
  have H0 := Lib.hid h
  have H1 := Lib.hid h'
  clear h h'
  go_enter Try.func9, Try.ntmps9
  go_wp2
  go_loopw [5] (fun i wr => ∃ k : Nat, k ≤ ls.length ∧ i = .int .i64 k ∧ Below w.heap.size w wr) (fun i _ => ls.length - (intOf i).toNat)
  case atStart => exact ⟨0, Nat.zero_le _, rfl, Below.refl _ _⟩
  case round =>
    obtain ⟨k, hk, rfl, hb⟩ := hrel
    by_cases hlt : k < ls.length
    · obtain ⟨-, g1, c1, X0, L0, -⟩ := (H0.out.kept hb).el hlt
      obtain ⟨-, g2, c2, X1, L1, -⟩ := (H1.out.kept hb).el hlt
      have hel := tot_el hlt
      have hlt2 : (k : Int) < (ls.length : Int) := by omega
      generalize ls[k]! = l at X0 L0 X1 L1 hel
      have R0 := Lib.hid L0.rd
      have R1 := Lib.hid L1.rd
      have hl1 : l.length ≤ 1000000000 := by omega
      have x0 := cell_regrown X0
      have x1 := cell_regrown X1
      clear L0 L1 X0 X1
      go_upto_region 6 with fail
      have H := Below.refl wr.heap.size wr
      refine g_start 10 rfl (by kernel_rfl) ?_
      (refine g_quiet 0 (by kernel_rfl) rfl (fun K hK => ?_); first | ((first | fail); clear hK K) | (go_simp; first | (refine hK _ ?_; clear hK K) | (apply Exists.intro; refine ⟨fun _ => ?_, hK _ ?_⟩; (first | (go_at_call 10 <;> exact eqWantS_refl _ _ _ _ l _ (R0.out.below (below_regrown _ _ _)) (R1.out.below (below_regrown _ _ _)) hl1)); clear hK K)))
      (refine g_quiet 1 (by kernel_rfl) rfl (fun K hK => ?_); first | ((first | fail); clear hK K) | (go_simp; first | (refine hK _ ?_; clear hK K) | (apply Exists.intro; refine ⟨fun _ => ?_, hK _ ?_⟩; (first | (go_at_call 10 <;> exact eqWantS_refl _ _ _ _ l _ (R0.out.below (below_regrown _ _ _)) (R1.out.below (below_regrown _ _ _)) hl1)); clear hK K)))
      (refine g_quiet 2 (by kernel_rfl) rfl (fun K hK => ?_); first | ((first | fail); clear hK K) | (go_simp; first | (refine hK _ ?_; clear hK K) | (apply Exists.intro; refine ⟨fun _ => ?_, hK _ ?_⟩; (first | (go_at_call 10 <;> exact eqWantS_refl _ _ _ _ l _ (R0.out.below (below_regrown _ _ _)) (R1.out.below (below_regrown _ _ _)) hl1)); clear hK K)))
      (refine g_quiet 3 (by kernel_rfl) rfl (fun K hK => ?_); first | ((first | fail); clear hK K) | (go_simp; first | (refine hK _ ?_; clear hK K) | (apply Exists.intro; refine ⟨fun _ => ?_, hK _ ?_⟩; (first | (go_at_call 10 <;> exact eqWantS_refl _ _ _ _ l _ (R0.out.below (below_regrown _ _ _)) (R1.out.below (below_regrown _ _ _)) hl1)); clear hK K)))
      (refine g_quiet 4 (by kernel_rfl) rfl (fun K hK => ?_); first | ((first | fail); clear hK K) | (go_simp; first | (refine hK _ ?_; clear hK K) | (apply Exists.intro; refine ⟨fun _ => ?_, hK _ ?_⟩; (first | (go_at_call 10 <;> exact eqWantS_refl _ _ _ _ l _ (R0.out.below (below_regrown _ _ _)) (R1.out.below (below_regrown _ _ _)) hl1)); clear hK K)))
      (refine g_quiet 5 (by kernel_rfl) rfl (fun K hK => ?_); first | ((first | fail); clear hK K) | (go_simp; first | (refine hK _ ?_; clear hK K) | (apply Exists.intro; refine ⟨fun _ => ?_, hK _ ?_⟩; (first | (go_at_call 10 <;> exact eqWantS_refl _ _ _ _ l _ (R0.out.below (below_regrown _ _ _)) (R1.out.below (below_regrown _ _ _)) hl1)); clear hK K)))
      (refine g_quiet 6 (by kernel_rfl) rfl (fun K hK => ?_); first | ((first | fail); clear hK K) | (go_simp; first | (refine hK _ ?_; clear hK K) | (apply Exists.intro; refine ⟨fun _ => ?_, hK _ ?_⟩; (first | (go_at_call 10 <;> exact eqWantS_refl _ _ _ _ l _ (R0.out.below (below_regrown _ _ _)) (R1.out.below (below_regrown _ _ _)) hl1)); clear hK K)))
      (refine g_quiet 7 (by kernel_rfl) rfl (fun K hK => ?_); first | ((first | fail); clear hK K) | (go_simp; first | (refine hK _ ?_; clear hK K) | (apply Exists.intro; refine ⟨fun _ => ?_, hK _ ?_⟩; (first | (go_at_call 10 <;> exact eqWantS_refl _ _ _ _ l _ (R0.out.below (below_regrown _ _ _)) (R1.out.below (below_regrown _ _ _)) hl1)); clear hK K)))
      (refine g_quiet 8 (by kernel_rfl) rfl (fun K hK => ?_); first | ((first | fail); clear hK K) | (go_simp; first | (refine hK _ ?_; clear hK K) | (apply Exists.intro; refine ⟨fun _ => ?_, hK _ ?_⟩; (first | (go_at_call 10 <;> exact eqWantS_refl _ _ _ _ l _ (R0.out.below (below_regrown _ _ _)) (R1.out.below (below_regrown _ _ _)) hl1)); clear hK K)))
      (refine g_quiet 9 (by kernel_rfl) rfl (fun K hK => ?_); first | ((first | fail); clear hK K) | (go_simp; first | (refine hK _ ?_; clear hK K) | (apply Exists.intro; refine ⟨fun _ => ?_, hK _ ?_⟩; (first | (go_at_call 10 <;> exact eqWantS_refl _ _ _ _ l _ (R0.out.below (below_regrown _ _ _)) (R1.out.below (below_regrown _ _ _)) hl1)); clear hK K)))
      refine g_done (by kernel_rfl) ?_
      rintro w1 hw1 -
      clear x0 x1
      go_wp2
      go_roundw
      case rel => exact ⟨k + 1, by omega, by go_num, bstep hb hw1⟩
      case measure => simp [intOf]; omega
    · obtain rfl : k = ls.length := by omega
      go_wp2
      go_ret
      exact ⟨rfl, hb⟩
/-- Marked orders. -/
def OwnM (k0 : Int) (w : World) (B : Nat) (v : Value) (ls : List (List Wt)) : Prop :=
  ∃ vs : List Value, vs.length = ls.length ∧ OwnS slv w B 27 1 v vs ∧ ∀ i, i < ls.length → OwnN (mkw (k0 + 3 * (tot (ls.take i) : Int))) w B 43 3 vs[i]! (List.range ls[i]!.length)
theorem OwnM.below {k0 : Int} {w w' : World} {B : Nat} {v : Value} {ls : List (List Wt)} (h : OwnM k0 w B v ls) (hb : Below w.heap.size w w') : OwnM k0 w' B v ls := by
  obtain ⟨vs, h1, h2, h3⟩ := h
  exact ⟨vs, h1, h2.kept hb, fun i hi => (h3 i hi).below hb⟩
theorem slv_at {w : World} {B E g cap : Nat} {vs : List Value} (h : OwnS slv w B E 1 (.slice (some ⟨g, 0, none⟩) vs.length cap) vs) {i : Nat} (hi : i < vs.length) : w.cell? ⟨g, i, none⟩ = some vs[i]! := by
  have := (own_cells h.1).el slv_length hi 0 vs[i]! rfl
  simpa using this
theorem markWantSS_own (B T : Nat) (v : Value) (ls : List (List Wt)) (k0 : Int) (w : World) (h : OwnA wc 3 43 27 w B T v ls) (h0 : 0 ≤ k0) (h1 : k0 ≤ 1000000) (hn : ls.length ≤ 1048576) (hl : tot ls ≤ 1048576) :
    Calls Try.prog 12 #[v, .int .i64 k0] w fun e w' => e = .returned (.int .i64 (k0 + 3 * (tot ls : Int))) ∧ OwnM k0 w' B v ls ∧ ButR B T w w' := by
  obtain ⟨g, c, rfl⟩ := h.form
  obtain ⟨vs, hvl, hS, hE, hA⟩ := h
  replace hE := Lib.hid hE
  replace hA := Lib.hid hA
  have HT : Hid (tot (ls.take ls.length) = tot ls) := by rw [Hid, List.take_length]
  rw [← hvl] at hS
  replace hS := Lib.hid hS
  go_enter Try.func12, Try.ntmps12
  go_wp2
  go_loopw [1, 5] (fun m i wr => ∃ k : Nat, k ≤ ls.length ∧ i = .int .i64 k ∧ m = .int .i64 (k0 + 3 * (tot (ls.take k) : Int)) ∧ Hid (OwnS slv wr B 27 1 (.slice (some ⟨g, 0, none⟩) vs.length c) vs) ∧ Hid (∀ i, i < k → OwnN (mkw (k0 + 3 * (tot (ls.take i) : Int))) wr B 43 3 vs[i]! (List.range ls[i]!.length)) ∧ Hid (∀ i, k ≤ i → i < ls.length → OwnN wc wr B 43 3 vs[i]! ls[i]!) ∧ Hid (ButR B T w wr)) (fun _ i _ => ls.length - (intOf i).toNat)
  case atStart => exact ⟨0, Nat.zero_le _, rfl, by simp [tot], hS.out, fun i hi => absurd hi (Nat.not_lt_zero _), fun i _ hi => (hE.out i hi).1.n, ButR.refl⟩
  case round =>
    clear hS
    obtain ⟨k, hk, rfl, rfl, hS, hM, hU, hB⟩ := hrel
    by_cases hlt : k < ls.length
    · have x0 := slv_at hS.out (i := k) (by omega)
      have hst := Lib.hid (tot_step hlt)
      have htl := tot_take_le (ls := ls) k
      have hel := tot_el hlt
      have HK := hU.out k (Nat.le_refl _) hlt
      have hE2 := Lib.hid (hE.out k hlt).2
      have hA1 := Lib.hid (fun i (hi : i < k) => (hA.out i k hi hlt).symm)
      have hA2 := Lib.hid (fun j (hi : k < j) (hj : j < ls.length) => hA.out k j hi hj)
      have hlt2 : (k : Int) < (ls.length : Int) := by omega
      have hbase := Lib.hid HK.base
      have hAU := Lib.hid (apart_types HK hS.out.n (by decide))
      generalize hme : k0 + 3 * (tot (ls.take k) : Int) = m at *
      replace hme := Lib.hid hme
      have hMK := Lib.hid (fun W hW => markWantS_own B vs[k]! ls[k]! m W (HK.below hW) (by have := hme.out; omega) (by have := hme.out; omega) (by omega))
      clear HK
      generalize hue : vs[k]! = u at *
      generalize hle : ls[k]! = l at *
      replace hue := Lib.hid hue
      replace hle := Lib.hid hle
      have H := Below.refl wr.heap.size wr
      go_wp2_with (go_at_call 11; with_reducible refine (hMK.out _ H).mono ?_; rintro e w1 ⟨rfl, O1, hb1⟩; replace O1 := Lib.hid O1; replace hb1 := Lib.hid hb1)
      go_roundw
      case rel =>
        refine ⟨k + 1, by omega, by go_num, congrArg (Value.int .i64) (by have := hst.out; have := hme.out; omega), ?_, fun i hi => ?_, fun i hi hil => ?_, hB.out.trans (ButR.of hb1.out fun b hb => ⟨hbase.out b hb, hE2.out b hb⟩)⟩
        · exact ⟨hS.out.n.but hb1.out hAU.out, hS.out.2⟩
        · rcases Nat.lt_or_ge i k with q | q
          · exact (hM.out i q).but hb1.out (hA1.out i q)
          · obtain rfl : i = k := by omega
            rw [hue.out, hle.out, hme.out]
            exact O1.out
        · exact (hU.out i (by omega) hil).but hb1.out (hA2.out i (by omega) hil)
      case measure => simp [intOf]; omega
    · obtain rfl : k = ls.length := by omega
      rw [HT.out]
      go_wp2
      go_ret
      exact ⟨rfl, ⟨vs, hvl, by rw [← hvl]; exact hS.out, hM.out⟩, hB.out⟩
theorem heldWantSS_own (B : Nat) (v : Value) (ls : List (List Wt)) (k0 : Int) (w : World) (h : OwnM k0 w B v ls) (h0 : 0 ≤ k0) (h1 : k0 ≤ 1000000) (hn : ls.length ≤ 1048576) (hl : tot ls ≤ 1048576) :
    Calls Try.prog 13 #[v, .int .i64 k0] w fun e w' => e = .returned (.int .i64 (k0 + 3 * (tot ls : Int))) ∧ Below w.heap.size w w' := by
  obtain ⟨vs, hvl, hS, hM⟩ := h
  obtain ⟨g, c, rfl, -, -, hg, -⟩ := hS.lies
  replace hM := Lib.hid hM
  have HT : Hid (tot (ls.take ls.length) = tot ls) := by rw [Hid, List.take_length]
  replace hS := Lib.hid hS
  replace hvl := Lib.hid hvl
  go_enter Try.func13, Try.ntmps13
  go_wp2
  go_loopw [1, 5] (fun m i wr => ∃ k : Nat, k ≤ ls.length ∧ i = .int .i64 k ∧ m = .int .i64 (k0 + 3 * (tot (ls.take k) : Int)) ∧ Below w.heap.size w wr) (fun _ i _ => ls.length - (intOf i).toNat)
  case atStart => exact ⟨0, Nat.zero_le _, rfl, by simp [tot], Below.refl _ _⟩
  case round =>
    obtain ⟨k, hk, rfl, rfl, hb⟩ := hrel
    have hvl2 := hvl.out
    by_cases hlt : k < ls.length
    · have x0 := (hb.cell hg).trans (slv_at hS.out (i := k) (by omega))
      have hst := Lib.hid (tot_step hlt)
      have htl := tot_take_le (ls := ls) k
      have hel := tot_el hlt
      have HK := (hM.out k hlt).below hb
      have hlt2 : (k : Int) < (vs.length : Int) := by omega
      clear hvl2
      generalize hme : k0 + 3 * (tot (ls.take k) : Int) = m at *
      replace hme := Lib.hid hme
      have hMK := Lib.hid (fun W hW => heldWantS_own B vs[k]! ls[k]!.length m W (HK.below hW) (by have := hme.out; omega) (by have := hme.out; omega) (by omega))
      clear HK
      have hm0 : 0 ≤ m := by have := hme.out; omega
      generalize vs[k]! = u at *
      generalize ls[k]!.length = n at *
      have hneg : ¬ m + 3 * (n : Int) < 0 := by omega
      have H := Below.refl wr.heap.size wr
      go_wp2_with (go_at_call 16; with_reducible refine (hMK.out _ H).mono ?_; rintro e w1 ⟨rfl, hb1⟩)
      go_roundw
      case rel => exact ⟨k + 1, by omega, by go_num, congrArg (Value.int .i64) (by have := hst.out; have := hme.out; omega), bstep hb hb1⟩
      case measure => simp [intOf]; omega
    · obtain rfl : k = ls.length := by omega
      have hlt2 : ¬ (ls.length : Int) < (vs.length : Int) := by omega
      rw [HT.out]
      clear hvl2
      go_wp2
      go_ret
      exact ⟨rfl, hb⟩
end Go.Proofs.Ytoiinpoiggkkdaa
