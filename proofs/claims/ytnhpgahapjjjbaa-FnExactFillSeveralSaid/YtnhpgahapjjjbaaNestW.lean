/- Slices of orders: read as data, copied, measured, compared, marked, held. -/
import Derived.Test.YtnhpgahapjjjbaaNest
import Derived.Test.YtnhpgahapjjjbaaMarkW
import Derived.Test.YtnhpgahapjjjbaaRead
namespace Go.Proofs.Ytnhpgahapjjjbaa
open Go.RowKit Go.ChangeShapes Go.WideShapes Go.ChangeAt
set_option linter.unusedVariables false
set_option linter.unusedSimpArgs false
set_option maxRecDepth 100000
set_option maxHeartbeats 4000000
attribute [local go_sem] Oper.qB
section
variable {α : Type} {f : α → List Value} {w w' : World} {B k e E : Nat} {v : Value} {ls : List (List α)}
/-- Slices of elements, each owned and apart from the others, their blocks below T, in an owned slice. -/
def OwnA (f : α → List Value) (k e E : Nat) (w : World) (B T : Nat) (v : Value) (ls : List (List α)) : Prop :=
  ∃ vs : List Value, vs.length = ls.length ∧ OwnS slv w B E 1 v vs ∧ (∀ i, i < ls.length → OwnS f w B e k vs[i]! ls[i]! ∧ ∀ b, vs[i]!.ownBlock = some b → b < T) ∧ ∀ i j, i < j → j < ls.length → Apart vs[i]! vs[j]!
theorem OwnA.kept {T : Nat} (h : OwnA f k e E w B T v ls) (hb : Below w.heap.size w w') : OwnA f k e E w' B T v ls := by
  obtain ⟨vs, h1, h2, h3, h4⟩ := h
  exact ⟨vs, h1, h2.kept hb, fun i hi => ⟨(h3 i hi).1.kept hb, (h3 i hi).2⟩, h4⟩
theorem OwnA.down {T b : Nat} (h : OwnA f k e E w B T v ls) (hb : b ≤ B) : OwnA f k e E w b T v ls := by
  obtain ⟨vs, h1, h2, h3, h4⟩ := h
  exact ⟨vs, h1, h2.down hb, fun i hi => ⟨(h3 i hi).1.down hb, (h3 i hi).2⟩, h4⟩
theorem OwnA.form {T : Nat} (h : OwnA f k e E w B T v ls) : ∃ g cap, v = .slice (some ⟨g, 0, none⟩) ls.length cap := by
  obtain ⟨vs, h1, h2, h3, h4⟩ := h
  obtain ⟨g, cap, hv, _⟩ := h2.lies
  exact ⟨g, cap, by rw [← h1]; exact hv⟩
theorem OwnA.el {T g cap : Nat} (h : OwnA f k e E w B T (.slice (some ⟨g, 0, none⟩) ls.length cap) ls) {i : Nat} (hi : i < ls.length) : g < w.heap.size ∧ ∃ g1 c1, w.cell? ⟨g, i, none⟩ = some (.slice (some ⟨g1, 0, none⟩) ls[i]!.length c1) ∧ Lies f w g1 ls[i]! ∧ ls[i]!.length ≤ c1 := by
  obtain ⟨vs, h1, h2, h3, h4⟩ := h
  obtain ⟨g', cap', hv, K, hB, hg, _⟩ := h2.lies
  obtain ⟨rfl, -⟩ : g = g' ∧ cap = cap' := by
    simp only [Value.slice.injEq, Option.some.injEq, Addr.mk.injEq, and_true, true_and] at hv
    exact ⟨hv.1, hv.2.2⟩
  obtain ⟨g1, c1, hu, KU, -, -, hc⟩ := (h3 i hi).1.lies
  refine ⟨hg, g1, c1, ?_, KU, hc⟩
  have := K.c.el slv_length (i := i) (by omega) 0 vs[i]! rfl
  rw [← hu]
  simpa using this
/-- How many elements there are in all. -/
def tot (ls : List (List α)) : Nat := (ls.map List.length).sum
theorem tot_step {i : Nat} (h : i < ls.length) : tot (ls.take (i + 1)) = tot (ls.take i) + ls[i]!.length := by
  unfold tot
  rw [List.take_succ_eq_append_getElem h, List.map_append, List.sum_append, getB h]
  simp
theorem tot_take_le (i : Nat) : tot (ls.take i) ≤ tot ls := by
  have e : tot ls = tot (ls.take i) + tot (ls.drop i) := by
    unfold tot
    rw [← List.sum_append, ← List.map_append, List.take_append_drop]
  omega
theorem tot_el {i : Nat} (h : i < ls.length) : ls[i]!.length ≤ tot ls := by
  have := tot_step h
  have := tot_take_le (ls := ls) (i + 1)
  omega
/-- Slices of elements that are read. -/
def RdSS (f : α → List Value) (w : World) (A : Option Addr) (ls : List (List α)) : Prop :=
  ls = [] ∨ ∃ g off, A = some ⟨g, off, none⟩ ∧ g < w.heap.size ∧ ∀ i, i < ls.length → ∃ A' c', w.cell? ⟨g, off + i, none⟩ = some (.slice A' ls[i]!.length c') ∧ ls[i]!.length ≤ maxLen ∧ RdA w A' (fl f ls[i]!)
theorem RdSS.below {A : Option Addr} (h : RdSS f w A ls) (hb : Below w.heap.size w w') : RdSS f w' A ls := by
  rcases h with h | ⟨g, off, hA, hg, h⟩
  · exact .inl h
  · refine .inr ⟨g, off, hA, Nat.lt_of_lt_of_le hg hb.size, fun i hi => ?_⟩
    obtain ⟨A', c', h1, h2, h3⟩ := h i hi
    exact ⟨A', c', (hb.cell hg).trans h1, h2, h3.below hb⟩
theorem RdSS.some {A : Option Addr} (h : RdSS f w A ls) (hn : 0 < ls.length) : ∃ g off, A = Option.some ⟨g, off, none⟩ ∧ g < w.heap.size ∧ ∀ i, i < ls.length → ∃ A' c', w.cell? ⟨g, off + i, none⟩ = Option.some (.slice A' ls[i]!.length c') ∧ ls[i]!.length ≤ maxLen ∧ RdA w A' (fl f ls[i]!) := by
  rcases h with h | h
  · rw [h] at hn
    exact absurd hn (Nat.not_lt_zero _)
  · exact h
/-- The marks: nothing but blocks from B to T has changed. -/
def ButR (B T : Nat) (w w' : World) : Prop := Below 0 w w' ∧ ∀ b, b < w.heap.size → ¬ (B ≤ b ∧ b < T) → w'.heap[b]? = w.heap[b]?
theorem ButR.refl {B T : Nat} : ButR B T w w := ⟨Below.refl _ _, fun _ _ _ => rfl⟩
theorem ButR.trans {B T : Nat} {w1 : World} (h : ButR B T w w1) (h' : ButR B T w1 w') : ButR B T w w' :=
  ⟨h.1.trans h'.1, fun b hb hv => (h'.2 b (Nat.lt_of_lt_of_le hb h.1.size) hv).trans (h.2 b hb hv)⟩
theorem ButR.of {T : Nat} (hb : ButV v w w') (hv : ∀ b, v.ownBlock = Option.some b → B ≤ b ∧ b < T) : ButR B T w w' := ⟨hb.1, fun b hl h => hb.2 b hl fun q => h (hv b q)⟩
theorem OwnN.butR {B' T : Nat} {l : List α} (h : OwnN f w B e k v l) (hb : ButR B' T w w') (ha : ∀ b, v.ownBlock = Option.some b → ¬ (B' ≤ b ∧ b < T)) : OwnN f w' B e k v l :=
  ⟨h.1, h.2.imp (fun h => h) fun ⟨g, cap, cur, hv, hg, hh, hr⟩ => ⟨g, cap, cur, hv, hg, by
    rw [hb.2 g (Array.getElem?_eq_some_iff.1 hh).1 (ha g (by rw [hv]; rfl))]
    exact hh, hr⟩⟩
theorem OwnN.lt {l : List α} (h : OwnN f w B e k v l) : ∀ b, v.ownBlock = Option.some b → b < w.heap.size := own_lt h
theorem OwnN.base {l : List α} (h : OwnN f w B e k v l) : ∀ b, v.ownBlock = Option.some b → B ≤ b := own_base h
end
section
variable {H : Type} {enc : TypeId × Value → H} {w : World} {base : Nat} {spare : Nat → Bool} {held : Bool}
theorem read_slice0 {P : Program} {α : Type} [Inhabited α] {f : α → List Value} {k : Nat} {t e : TypeId} (ht : P.underlying t = some (.slice e)) (hk : P.cellsOf e = k) (hk0 : 0 < k) (hf : ∀ x, (f x).length = k)
    (hE : ∀ n cs x, DataW.trod enc P w base spare held n e cs = some x → ∃ b : α, cs = f b) {A : Option Addr} {len cap : Nat} {d : DataW H} {ps : List MemPlace} (h : DataW.Trod enc P w base spare held t (.slice A len cap) d ps) :
    ∃ (A' : Option Addr) (c : Nat) (l : List α), Value.slice A len cap = .slice A' l.length c ∧ l.length ≤ maxLen ∧ RdA w A' (fl f l) := by
  obtain ⟨n, hn⟩ := h
  rcases Go.Deep.open_slice ht hn with ⟨hcs, _⟩ | ⟨a, len', cap', m, n', D, Pl, hcs, hb, hle, hm, hmm, hx, hel⟩
  · obtain ⟨rfl, rfl, rfl⟩ : A = none ∧ len = 0 ∧ cap = 0 := by simpa [Value.cells] using hcs
    exact ⟨none, 0, [], rfl, by simp, .inl rfl⟩
  · obtain ⟨rfl, rfl, rfl⟩ : A = some a ∧ len = len' ∧ cap = cap' := by simpa [Value.cells] using hcs
    have hlm : len ≤ m := by rw [hmm]; split <;> omega
    have hall : ∀ i, i < len → ∃ b : α, ∀ j v, (f b)[j]? = some v → w.cell? ((a.add (i * k)).add j) = some v := by
      intro i hi
      obtain ⟨cs', hc, hd⟩ := hel i (by omega)
      obtain ⟨b, rfl⟩ := hE _ _ _ hd
      rw [hk] at hc
      have := (World.cells?_some hc).2.2
      refine ⟨b, fun j v hv => ?_⟩
      have hj := (List.getElem?_eq_some_iff.1 hv).1
      rw [hf] at hj
      rw [this j hj, hv]
    obtain ⟨F, hF⟩ := Go.Deep.choose_lt hall
    have hgt : ∀ i, i < len → ((List.range len).map F)[i]! = F i := by
      intro i hi
      rw [getB (by simpa using hi)]
      simp
    refine ⟨some a, cap, (List.range len).map F, by simp, by simp; omega, ?_⟩
    by_cases h0 : len = 0
    · subst h0
      exact .inl rfl
    · right
      have hsp : a.spot = none := by
        have h1 : 0 < (f (F 0)).length := by rw [hf]; exact hk0
        have := hF 0 (by omega) 0 _ (List.getElem?_eq_getElem h1)
        rw [Nat.zero_mul, Go.Deep.add_add] at this
        simp only [Addr.add, World.cell?, Nat.add_zero, ↓reduceIte] at this
        split at this
        · split at this
          · cases this
          · rename_i h2
            cases hs : a.spot with
            | none => rfl
            | some _ => simp [hs] at h2
        · cases this
      obtain ⟨g, off, sp⟩ := a
      replace hsp : sp = none := hsp
      subst hsp
      have hcell : ∀ i, i < len → ∀ j v, (f (F i))[j]? = some v → w.cell? ⟨g, off + (i * k + j), none⟩ = some v := by
        intro i hi j v hv
        have := hF i hi j v hv
        rw [Go.Deep.add_add] at this
        have e : (⟨g, off, none⟩ : Addr).add (i * k + j) = ⟨g, off + (i * k + j), none⟩ := by unfold Addr.add; split <;> simp_all
        rwa [e] at this
      refine ⟨g, off, rfl, ?_, ?_⟩
      · have h1 : 0 < (f (F 0)).length := by rw [hf]; exact hk0
        exact World.block_lt_of_cell? _ _ (hcell 0 (by omega) 0 _ (List.getElem?_eq_getElem h1))
      · intro i v hi
        have hi' := (List.getElem?_eq_some_iff.1 hi).1
        rw [fl_length hf] at hi'
        simp only [List.length_map, List.length_range] at hi'
        have hq : i / k < len := by rw [Nat.div_lt_iff_lt_mul hk0]; exact hi'
        have hr : i % k < (f (F (i / k))).length := by rw [hf]; exact Nat.mod_lt _ hk0
        have e : i / k * k + i % k = i := Nat.div_add_mod' i k
        have h1 := hcell (i / k) hq (i % k) _ (List.getElem?_eq_getElem hr)
        have h2 := fl_at hf ((List.range len).map F) (i / k) (by simpa using hq) (i % k) _ (by rw [hgt _ hq]; exact List.getElem?_eq_getElem hr)
        rw [e] at h1 h2
        rw [h1, ← h2, hi]
/-- A slice of wants, out of its cell. -/
theorem trod_wants {n : Nat} {cs : List Value} {x : DataW H × List MemPlace} (hn : DataW.trod enc Try.prog w base spare held n 35 cs = some x) :
    ∃ (A : Option Addr) (c : Nat) (l : List Wt), cs = [.slice A l.length c] ∧ l.length ≤ maxLen ∧ RdA w A (fl wc l) := by
  have ht := Try.underlying35
  rcases Go.Deep.open_slice ht hn with ⟨hcs, _⟩ | ⟨a, len, cap, m, n', D, Pl, hcs, hb, hle, hm, hmm, hx, hel⟩
  · exact ⟨none, 0, [], hcs, by simp, .inl rfl⟩
  · have hd : DataW.Trod enc Try.prog w base spare held 35 (.slice (some a) len cap) x.1 x.2 := ⟨n, by rw [show (Value.slice (some a) len cap).cells.toList = cs by rw [hcs]; rfl]; exact hn⟩
    obtain ⟨A', c, l, hv, hm, hr⟩ := read_slice0 ht (by kernel_rfl) (by decide) wc_length (fun n cs x h => trod_want h) hd
    exact ⟨A', c, l, by rw [hcs, hv], hm, hr⟩
/-- A slice of orders. -/
theorem read_wantss {v : Value} {d : DataW H} {ps : List MemPlace} (hv : Value.okWide Try.prog w .any 0 65 v) (h : DataW.Trod enc Try.prog w base spare held 65 v d ps) :
    ∃ (A : Option Addr) (c : Nat) (ls : List (List Wt)), v = .slice A ls.length c ∧ ls.length ≤ maxLen ∧ RdSS wc w A ls := by
  let α := {p : Value × List Wt // ∃ A' c', p.1 = .slice A' p.2.length c' ∧ p.2.length ≤ maxLen ∧ RdA w A' (fl wc p.2)}
  haveI : Inhabited α := ⟨⟨(.slice none 0 0, []), none, 0, rfl, by simp, .inl rfl⟩⟩
  obtain ⟨A, c, L, hv, hm, hr⟩ := read_slice (α := α) (f := fun p => [p.1.1]) Try.underlying65 (by kernel_rfl) (by decide) (k := 1) (fun _ => rfl) (fun n cs x h => by
    obtain ⟨A', c', l, hcs, hm, hr⟩ := trod_wants h
    exact ⟨⟨(.slice A' l.length c', l), A', c', rfl, hm, hr⟩, hcs⟩) hv h
  refine ⟨A, c, L.map fun p => p.1.2, by rw [List.length_map]; exact hv, by rw [List.length_map]; exact hm, ?_⟩
  rcases hr with h0 | ⟨g, off, hA, hg, hC⟩
  · left
    have hl := congrArg List.length h0
    rw [fl_length (k := 1) (fun _ => rfl)] at hl
    have : L = [] := List.length_eq_zero_iff.1 (by simpa using hl)
    rw [this]
    rfl
  · refine .inr ⟨g, off, hA, hg, fun i hi => ?_⟩
    rw [List.length_map] at hi
    obtain ⟨A', c', h1, h2, h3⟩ := L[i]!.2
    have e : (L.map fun p => p.1.2)[i]! = L[i]!.1.2 := by
      rw [getB (by rw [List.length_map]; exact hi), getB hi, List.getElem_map]
    rw [e]
    refine ⟨A', c', ?_, h2, h3⟩
    have := hC.el (k := 1) (fun _ => rfl) hi 0 L[i]!.1.1 rfl
    rw [← h1]
    simpa using this
end
theorem set_fill {vs : List Value} {n k : Nat} (hk : k < n) (hl : vs.length = k) (v z : Value) : (vs ++ List.replicate (n - k) z).set k v = (vs ++ [v]) ++ List.replicate (n - (k + 1)) z := by
  rw [show n - k = (n - (k + 1)) + 1 by omega, List.replicate_succ, List.set_append_right _ _ (by omega), hl, Nat.sub_self, List.set_cons_zero, List.append_assoc]
  rfl
theorem at_old {vs : List Value} {v : Value} {i : Nat} (h : i < vs.length) : (vs ++ [v])[i]! = vs[i]! := by
  rw [getB (by simp; omega), getB h, List.getElem_append_left h]
theorem at_new {vs : List Value} {v : Value} {i : Nat} (h : i = vs.length) : (vs ++ [v])[i]! = v := by
  subst h
  rw [getB (by simp)]
  simp
theorem fill_slot {w : World} {B E n g k cap : Nat} {vs : List Value} {z : Value} (h : w.ownsRow B E 1 (.slice (some ⟨g, 0, none⟩) n cap) n (fl slv (vs ++ List.replicate (n - k) z))) (hk : k < n) (hl : vs.length = k) :
    w.cell? ⟨g, k, none⟩ = some z ∧ ∀ v, (w.setCell ⟨g, k, none⟩ v).ownsRow B E 1 (.slice (some ⟨g, 0, none⟩) n cap) n (fl slv ((vs ++ [v]) ++ List.replicate (n - (k + 1)) z)) := by
  rw [fl_slv] at h
  constructor
  · have := h.cellAt k (by omega)
    rw [List.getElem?_append_right (by omega), hl, Nat.sub_self, List.getElem?_replicate, if_pos (by omega)] at this
    exact this
  · intro v
    have := (h.stored k v).1
    rw [set_fill hk hl] at this
    rw [fl_slv]
    exact this
theorem szWantSS_any (A : Option Addr) (c : Nat) (ls : List (List Wt)) (left : Int) (w : World) (h : RdSS wc w A ls) (h0 : 0 ≤ left) (h1 : left ≤ 1048576) (hm : ls.length ≤ maxLen) :
    Calls Try.prog 47 #[.slice A ls.length c, .int .i64 left] w fun e w' => (∃ r : Int, e = .returned (.int .i64 r) ∧ (r = -1 ∨ (0 ≤ r ∧ (ls.length : Int) ≤ left ∧ (tot ls : Int) ≤ left))) ∧ Below w.heap.size w w' := by
  have hq : ls.length ≤ 9223372036854775807 := by simpa [maxLen] using hm
  have HR := Lib.hid h
  have HT : Hid (tot (ls.take ls.length) = tot ls) := by rw [Hid, List.take_length]
  clear h
  by_cases hlt0 : left < (ls.length : Int)
  · have h2 : left - (ls.length : Int) < 0 := by omega
    go_enter Try.func47, Try.ntmps47
    go_wp2
    go_ret
    exact ⟨⟨_, rfl, .inl rfl⟩, Below.refl _ _⟩
  · have h2 : ¬ left - (ls.length : Int) < 0 := by omega
    go_enter Try.func47, Try.ntmps47
    go_wp2
    go_loopw [1, 5] (fun m i wr => ∃ (k : Nat) (r : Int), k ≤ ls.length ∧ i = .int .i64 k ∧ m = .int .i64 r ∧ 0 ≤ r ∧ r + tot (ls.take k) + ls.length ≤ left ∧ Below w.heap.size w wr) (fun _ i _ => ls.length - (intOf i).toNat)
    case atStart => exact ⟨0, left - ls.length, Nat.zero_le _, rfl, rfl, by omega, by simp [tot], Below.refl _ _⟩
    case round =>
      obtain ⟨k, r, hk, rfl, rfl, hr0, hr1, hb⟩ := hrel
      by_cases hlt : k < ls.length
      · obtain ⟨g, off, rfl, hg, HEL⟩ := (HR.out.below hb).some (by omega)
        obtain ⟨A', c', x0, hml, hrd⟩ := HEL k hlt
        have hst := Lib.hid (tot_step hlt)
        have hlt2 : (k : Int) < (ls.length : Int) := by omega
        have hsz := fun W => szWantS_any A' ls[k]!.length c' r W hr0 (by omega) hml
        clear HEL hrd
        generalize ls[k]!.length = m at x0 hml hst hsz
        by_cases hrm : r < (m : Int)
        · have hif : (if r < (m : Int) then (-1 : Int) else r - m) = -1 := if_pos hrm
          rw [hif] at hsz
          clear hif
          go_wp2_with (go_at_call 20; with_reducible refine (hsz _).mono ?_; rintro e w1 ⟨rfl, hb1⟩; replace hb := bstep hb hb1; clear hb1)
          go_ret
          exact ⟨⟨_, rfl, .inl rfl⟩, hb⟩
        · have hif : (if r < (m : Int) then (-1 : Int) else r - m) = r - m := if_neg hrm
          rw [hif] at hsz
          clear hif
          have hneg : ¬ r - (m : Int) < 0 := by omega
          go_wp2_with (go_at_call 20; with_reducible refine (hsz _).mono ?_; rintro e w1 ⟨rfl, hb1⟩; replace hb := bstep hb hb1; clear hb1)
          go_roundw
          case rel => exact ⟨k + 1, r - m, by omega, by go_num, rfl, by omega, by have := hst.out; omega, hb⟩
          case measure => simp [intOf]; omega
      · obtain rfl : k = ls.length := by omega
        have hh := HT.out
        go_wp2
        go_ret
        exact ⟨⟨_, rfl, .inr ⟨hr0, by omega, by omega⟩⟩, hb⟩
theorem infoWSS : (Try.prog.info? 42).map (fun i => (i.zero, i.size, i.bytes)) = some (some (.slice none 0 0), 1, 24) := by kernel_rfl
theorem toWantSS_any (A : Option Addr) (c : Nat) (ls : List (List Wt)) (w : World) (h : RdSS wc w A ls) (hn : ls.length ≤ 1048576) (hl : tot ls ≤ 1048576) :
    Calls Try.prog 49 #[.slice A ls.length c] w fun e w' => ∃ g, e = .returned (.slice (some ⟨g, 0, none⟩) ls.length ls.length) ∧ OwnA wc 3 100 42 w' w.heap.size w'.heap.size (.slice (some ⟨g, 0, none⟩) ls.length ls.length) ls ∧ Below w.heap.size w w' := by
  have HR := Lib.hid h
  clear h
  have hmk := run_make_el (P := Try.prog) Try.underlying69 infoWSS rfl ls.length (by omega) (by omega)
  go_enter Try.func49, Try.ntmps49
  go_wp2
  have hO := World.ownsRow_full (base := w.heap.size) w (madeCells #[.slice none 0 0] (ls.length * 1)) 42 1 ls.length (Nat.le_refl _) (by simp [maxLen]; omega) (size_madeCells _ _)
  rw [made_fl slv_length (by decide) (.slice none 0 0) #[.slice none 0 0] rfl ls.length] at hO
  go_loopw [4] (fun i wr => ∃ k : Nat, k ≤ ls.length ∧ i = .int .i64 k ∧ Hid (∃ vs : List Value, vs.length = k ∧ wr.ownsRow w.heap.size 42 1 (.slice (some ⟨w.heap.size, 0, none⟩) ls.length ls.length) ls.length (fl slv (vs ++ List.replicate (ls.length - k) (.slice none 0 0))) ∧ (∀ i, i < k → OwnS wc wr w.heap.size 100 3 vs[i]! ls[i]!) ∧ ∀ i j, i < j → j < k → Apart vs[i]! vs[j]!) ∧ Below w.heap.size w wr) (fun i _ => ls.length - (intOf i).toNat)
  case atStart => exact ⟨0, Nat.zero_le _, rfl, Lib.hid ⟨[], rfl, by simpa using hO, fun i hi => absurd hi (Nat.not_lt_zero _), fun i j _ hj => absurd hj (Nat.not_lt_zero _)⟩, by go_grown⟩
  case round =>
    clear hO hmk
    obtain ⟨k, hk, rfl, HO, hb⟩ := hrel
    by_cases hlt : k < ls.length
    · obtain ⟨g, off, rfl, hg, HEL⟩ := (HR.out.below hb).some (by omega)
      obtain ⟨A', c', x0, hml, hrd⟩ := HEL k hlt
      have hel := tot_el hlt
      have HTO := Lib.hid (fun W hW => toWantS_own A' c' ls[k]! W (hrd.below hW) (by omega))
      have hlt2 : (k : Int) < (ls.length : Int) := by omega
      obtain ⟨vs, hvl, HO1, HO2, HO3⟩ := HO.out
      have HO1' := Lib.hid HO1
      clear HEL hrd HO1
      have H := Below.refl wr.heap.size wr
      generalize hle : ls[k]! = l at x0 HTO hel hml
      replace hle := Lib.hid hle
      replace hvl := Lib.hid hvl
      go_wp2_with (go_at_call 23; go_loud (with_reducible refine (HTO.out _ H).mono ?_; rintro e w1 ⟨g1, rfl, O1, hb1⟩; have P1 := own_kept HO1'.out hb1; have HS := fill_slot P1 hlt hvl.out; have y0 := HS.1; replace HS := Lib.hid HS.2; have f0 := P1.frozenAt k; replace P1 := Lib.hid P1; replace O1 := Lib.hid O1))
      have hvl := hvl.out
      have hON : OwnN slv w1 w.heap.size 42 1 (.slice (some ⟨w.heap.size, 0, none⟩) ls.length ls.length) (vs ++ List.replicate (ls.length - k) (.slice none 0 0)) := by
        unfold OwnN
        rw [show (vs ++ List.replicate (ls.length - k) (Value.slice none 0 0)).length = ls.length by simp; omega]
        exact P1.out
      have hO1 := (O1.out).down hb.size
      go_roundw
      case rel =>
        refine ⟨k + 1, by omega, by go_num, ⟨vs ++ [.slice (some ⟨g1, 0, none⟩) l.length l.length], by simp [hvl], HS.out _, fun i hi => ?_, fun i j hij hj => ?_⟩, (bstep hb hb1).setCell (Nat.le_refl _) _⟩
        · rcases Nat.lt_or_ge i k with q | q
          · rw [at_old (by omega)]
            have h2 := (HO2 i q).kept hb1
            exact ⟨h2.n.but ButV.set (apart_types hON h2.n (by decide)), h2.2⟩
          · obtain rfl : i = k := by omega
            rw [at_new hvl.symm]
            rw [hle.out]
            exact ⟨hO1.but ButV.set (apart_types hON hO1 (by decide)), _, _, rfl⟩
        · rcases Nat.lt_or_ge j k with q | q
          · rw [at_old (by omega), at_old (by omega)]
            exact HO3 i j hij q
          · obtain rfl : j = k := by omega
            rw [at_old (by omega), at_new hvl.symm]
            exact OwnN.apart (HO2 i hij).n O1.out (Nat.le_refl _)
      case measure => simp [intOf]; omega
    · obtain rfl : k = ls.length := by omega
      obtain ⟨vs, hvl, HO1, HO2, HO3⟩ := HO.out
      rw [Nat.sub_self, List.replicate_zero, List.append_nil] at HO1
      have hS : OwnS slv wr w.heap.size 42 1 (.slice (some ⟨w.heap.size, 0, none⟩) ls.length ls.length) vs := ⟨by rw [hvl]; exact HO1, _, _, by rw [hvl]⟩
      replace hS := Lib.hid hS
      replace HO2 := Lib.hid HO2
      replace HO3 := Lib.hid HO3
      replace hvl := Lib.hid hvl
      clear HO1
      go_wp2
      go_ret
      exact ⟨_, rfl, ⟨vs, hvl.out, hS.out, fun i hi => ⟨HO2.out i hi, (HO2.out i hi).n.lt⟩, HO3.out⟩, hb⟩
theorem eqWantSS_own {B T B' T' : Nat} {v v' : Value} (ls : List (List Wt)) (w : World) (h : OwnA wc 3 100 42 w B T v ls) (h' : OwnA wc 3 100 42 w B' T' v' ls) (hn : ls.length ≤ 1048576) (hl : tot ls ≤ 1048576) :
    Calls Try.prog 51 #[v, v'] w fun e w' => e = .returned (.bool true) ∧ Below w.heap.size w w' := by
  obtain ⟨g, c, rfl⟩ := h.form
  obtain ⟨g', c', rfl⟩ := h'.form
  have H0 := Lib.hid h
  have H1 := Lib.hid h'
  clear h h'
  go_enter Try.func51, Try.ntmps51
  go_wp2
  go_loopw [5] (fun i wr => ∃ k : Nat, k ≤ ls.length ∧ i = .int .i64 k ∧ Below w.heap.size w wr) (fun i _ => ls.length - (intOf i).toNat)
  case atStart => exact ⟨0, Nat.zero_le _, rfl, Below.refl _ _⟩
  case round =>
    obtain ⟨k, hk, rfl, hb⟩ := hrel
    by_cases hlt : k < ls.length
    · obtain ⟨-, g1, c1, X0, L0, -⟩ := (H0.out.kept hb).el hlt
      obtain ⟨-, g2, c2, X1, L1, -⟩ := (H1.out.kept hb).el hlt
      have hel := tot_el hlt
      have hlt2 : (k : Int) < (ls.length : Int) := by omega
      generalize ls[k]! = l at X0 L0 X1 L1 hel
      have R0 := Lib.hid L0.rd
      have R1 := Lib.hid L1.rd
      have hl1 : l.length ≤ 1000000000 := by omega
      have x0 := cell_regrown X0
      have x1 := cell_regrown X1
      clear L0 L1 X0 X1
      go_upto_region 6 with fail
      have H := Below.refl wr.heap.size wr
      refine g_start 10 rfl (by kernel_rfl) ?_
      (refine g_quiet 0 (by kernel_rfl) rfl (fun K hK => ?_); first | ((first | fail); clear hK K) | (go_simp; first | (refine hK _ ?_; clear hK K) | (apply Exists.intro; refine ⟨fun _ => ?_, hK _ ?_⟩; (first | (go_at_call 26 <;> exact eqWantS_refl _ _ _ _ l _ (R0.out.below (below_regrown _ _ _)) (R1.out.below (below_regrown _ _ _)) hl1)); clear hK K)))
      (refine g_quiet 1 (by kernel_rfl) rfl (fun K hK => ?_); first | ((first | fail); clear hK K) | (go_simp; first | (refine hK _ ?_; clear hK K) | (apply Exists.intro; refine ⟨fun _ => ?_, hK _ ?_⟩; (first | (go_at_call 26 <;> exact eqWantS_refl _ _ _ _ l _ (R0.out.below (below_regrown _ _ _)) (R1.out.below (below_regrown _ _ _)) hl1)); clear hK K)))
      (refine g_quiet 2 (by kernel_rfl) rfl (fun K hK => ?_); first | ((first | fail); clear hK K) | (go_simp; first | (refine hK _ ?_; clear hK K) | (apply Exists.intro; refine ⟨fun _ => ?_, hK _ ?_⟩; (first | (go_at_call 26 <;> exact eqWantS_refl _ _ _ _ l _ (R0.out.below (below_regrown _ _ _)) (R1.out.below (below_regrown _ _ _)) hl1)); clear hK K)))
      (refine g_quiet 3 (by kernel_rfl) rfl (fun K hK => ?_); first | ((first | fail); clear hK K) | (go_simp; first | (refine hK _ ?_; clear hK K) | (apply Exists.intro; refine ⟨fun _ => ?_, hK _ ?_⟩; (first | (go_at_call 26 <;> exact eqWantS_refl _ _ _ _ l _ (R0.out.below (below_regrown _ _ _)) (R1.out.below (below_regrown _ _ _)) hl1)); clear hK K)))
      (refine g_quiet 4 (by kernel_rfl) rfl (fun K hK => ?_); first | ((first | fail); clear hK K) | (go_simp; first | (refine hK _ ?_; clear hK K) | (apply Exists.intro; refine ⟨fun _ => ?_, hK _ ?_⟩; (first | (go_at_call 26 <;> exact eqWantS_refl _ _ _ _ l _ (R0.out.below (below_regrown _ _ _)) (R1.out.below (below_regrown _ _ _)) hl1)); clear hK K)))
      (refine g_quiet 5 (by kernel_rfl) rfl (fun K hK => ?_); first | ((first | fail); clear hK K) | (go_simp; first | (refine hK _ ?_; clear hK K) | (apply Exists.intro; refine ⟨fun _ => ?_, hK _ ?_⟩; (first | (go_at_call 26 <;> exact eqWantS_refl _ _ _ _ l _ (R0.out.below (below_regrown _ _ _)) (R1.out.below (below_regrown _ _ _)) hl1)); clear hK K)))
      (refine g_quiet 6 (by kernel_rfl) rfl (fun K hK => ?_); first | ((first | fail); clear hK K) | (go_simp; first | (refine hK _ ?_; clear hK K) | (apply Exists.intro; refine ⟨fun _ => ?_, hK _ ?_⟩; (first | (go_at_call 26 <;> exact eqWantS_refl _ _ _ _ l _ (R0.out.below (below_regrown _ _ _)) (R1.out.below (below_regrown _ _ _)) hl1)); clear hK K)))
      (refine g_quiet 7 (by kernel_rfl) rfl (fun K hK => ?_); first | ((first | fail); clear hK K) | (go_simp; first | (refine hK _ ?_; clear hK K) | (apply Exists.intro; refine ⟨fun _ => ?_, hK _ ?_⟩; (first | (go_at_call 26 <;> exact eqWantS_refl _ _ _ _ l _ (R0.out.below (below_regrown _ _ _)) (R1.out.below (below_regrown _ _ _)) hl1)); clear hK K)))
      (refine g_quiet 8 (by kernel_rfl) rfl (fun K hK => ?_); first | ((first | fail); clear hK K) | (go_simp; first | (refine hK _ ?_; clear hK K) | (apply Exists.intro; refine ⟨fun _ => ?_, hK _ ?_⟩; (first | (go_at_call 26 <;> exact eqWantS_refl _ _ _ _ l _ (R0.out.below (below_regrown _ _ _)) (R1.out.below (below_regrown _ _ _)) hl1)); clear hK K)))
      (refine g_quiet 9 (by kernel_rfl) rfl (fun K hK => ?_); first | ((first | fail); clear hK K) | (go_simp; first | (refine hK _ ?_; clear hK K) | (apply Exists.intro; refine ⟨fun _ => ?_, hK _ ?_⟩; (first | (go_at_call 26 <;> exact eqWantS_refl _ _ _ _ l _ (R0.out.below (below_regrown _ _ _)) (R1.out.below (below_regrown _ _ _)) hl1)); clear hK K)))
      refine g_done (by kernel_rfl) ?_
      rintro w1 hw1 -
      clear x0 x1
      go_wp2
      go_roundw
      case rel => exact ⟨k + 1, by omega, by go_num, bstep hb hw1⟩
      case measure => simp [intOf]; omega
    · obtain rfl : k = ls.length := by omega
      go_wp2
      go_ret
      exact ⟨rfl, hb⟩
/-- Marked orders. -/
def OwnM (k0 : Int) (w : World) (B : Nat) (v : Value) (ls : List (List Wt)) : Prop :=
  ∃ vs : List Value, vs.length = ls.length ∧ OwnS slv w B 42 1 v vs ∧ ∀ i, i < ls.length → OwnN (mkw (k0 + 3 * (tot (ls.take i) : Int))) w B 100 3 vs[i]! (List.range ls[i]!.length)
theorem OwnM.below {k0 : Int} {w w' : World} {B : Nat} {v : Value} {ls : List (List Wt)} (h : OwnM k0 w B v ls) (hb : Below w.heap.size w w') : OwnM k0 w' B v ls := by
  obtain ⟨vs, h1, h2, h3⟩ := h
  exact ⟨vs, h1, h2.kept hb, fun i hi => (h3 i hi).below hb⟩
theorem slv_at {w : World} {B E g cap : Nat} {vs : List Value} (h : OwnS slv w B E 1 (.slice (some ⟨g, 0, none⟩) vs.length cap) vs) {i : Nat} (hi : i < vs.length) : w.cell? ⟨g, i, none⟩ = some vs[i]! := by
  have := (own_cells h.1).el slv_length hi 0 vs[i]! rfl
  simpa using this
theorem markWantSS_own (B T : Nat) (v : Value) (ls : List (List Wt)) (k0 : Int) (w : World) (h : OwnA wc 3 100 42 w B T v ls) (h0 : 0 ≤ k0) (h1 : k0 ≤ 1000000) (hn : ls.length ≤ 1048576) (hl : tot ls ≤ 1048576) :
    Calls Try.prog 52 #[v, .int .i64 k0] w fun e w' => e = .returned (.int .i64 (k0 + 3 * (tot ls : Int))) ∧ OwnM k0 w' B v ls ∧ ButR B T w w' := by
  obtain ⟨g, c, rfl⟩ := h.form
  obtain ⟨vs, hvl, hS, hE, hA⟩ := h
  replace hE := Lib.hid hE
  replace hA := Lib.hid hA
  have HT : Hid (tot (ls.take ls.length) = tot ls) := by rw [Hid, List.take_length]
  rw [← hvl] at hS
  replace hS := Lib.hid hS
  go_enter Try.func52, Try.ntmps52
  go_wp2
  go_loopw [1, 5] (fun m i wr => ∃ k : Nat, k ≤ ls.length ∧ i = .int .i64 k ∧ m = .int .i64 (k0 + 3 * (tot (ls.take k) : Int)) ∧ Hid (OwnS slv wr B 42 1 (.slice (some ⟨g, 0, none⟩) vs.length c) vs) ∧ Hid (∀ i, i < k → OwnN (mkw (k0 + 3 * (tot (ls.take i) : Int))) wr B 100 3 vs[i]! (List.range ls[i]!.length)) ∧ Hid (∀ i, k ≤ i → i < ls.length → OwnN wc wr B 100 3 vs[i]! ls[i]!) ∧ Hid (ButR B T w wr)) (fun _ i _ => ls.length - (intOf i).toNat)
  case atStart => exact ⟨0, Nat.zero_le _, rfl, by simp [tot], hS.out, fun i hi => absurd hi (Nat.not_lt_zero _), fun i _ hi => (hE.out i hi).1.n, ButR.refl⟩
  case round =>
    clear hS
    obtain ⟨k, hk, rfl, rfl, hS, hM, hU, hB⟩ := hrel
    by_cases hlt : k < ls.length
    · have x0 := slv_at hS.out (i := k) (by omega)
      have hst := Lib.hid (tot_step hlt)
      have htl := tot_take_le (ls := ls) k
      have hel := tot_el hlt
      have HK := hU.out k (Nat.le_refl _) hlt
      have hE2 := Lib.hid (hE.out k hlt).2
      have hA1 := Lib.hid (fun i (hi : i < k) => (hA.out i k hi hlt).symm)
      have hA2 := Lib.hid (fun j (hi : k < j) (hj : j < ls.length) => hA.out k j hi hj)
      have hlt2 : (k : Int) < (ls.length : Int) := by omega
      have hbase := Lib.hid HK.base
      have hAU := Lib.hid (apart_types HK hS.out.n (by decide))
      generalize hme : k0 + 3 * (tot (ls.take k) : Int) = m at *
      replace hme := Lib.hid hme
      have hMK := Lib.hid (fun W hW => markWantS_own B vs[k]! ls[k]! m W (HK.below hW) (by have := hme.out; omega) (by have := hme.out; omega) (by omega))
      clear HK
      generalize hue : vs[k]! = u at *
      generalize hle : ls[k]! = l at *
      replace hue := Lib.hid hue
      replace hle := Lib.hid hle
      have H := Below.refl wr.heap.size wr
      go_wp2_with (go_at_call 31; with_reducible refine (hMK.out _ H).mono ?_; rintro e w1 ⟨rfl, O1, hb1⟩; replace O1 := Lib.hid O1; replace hb1 := Lib.hid hb1)
      go_roundw
      case rel =>
        refine ⟨k + 1, by omega, by go_num, congrArg (Value.int .i64) (by have := hst.out; have := hme.out; omega), ?_, fun i hi => ?_, fun i hi hil => ?_, hB.out.trans (ButR.of hb1.out fun b hb => ⟨hbase.out b hb, hE2.out b hb⟩)⟩
        · exact ⟨hS.out.n.but hb1.out hAU.out, hS.out.2⟩
        · rcases Nat.lt_or_ge i k with q | q
          · exact (hM.out i q).but hb1.out (hA1.out i q)
          · obtain rfl : i = k := by omega
            rw [hue.out, hle.out, hme.out]
            exact O1.out
        · exact (hU.out i (by omega) hil).but hb1.out (hA2.out i (by omega) hil)
      case measure => simp [intOf]; omega
    · obtain rfl : k = ls.length := by omega
      rw [HT.out]
      go_wp2
      go_ret
      exact ⟨rfl, ⟨vs, hvl, by rw [← hvl]; exact hS.out, hM.out⟩, hB.out⟩
end Go.Proofs.Ytnhpgahapjjjbaa
