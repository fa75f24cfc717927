/- How the arguments of the laws read as data: bottles and crates by value. -/
import Derived.Test.YtbngpcghognojaaDoorKinds
import Derived.ProofKit
import Derived.OpenShut
import Derived.ShutString
import Derived.ChangeOld
import Derived.SizedLaws
import Derived.Carry
import Derived.Deep.Slices
namespace Go.Proofs.YtbngpcghognojaaDoor
open Go.RowKit Go.ChangeShapes Go.WideShapes Go.ChangeAt
set_option linter.unusedVariables false
set_option linter.unusedSimpArgs false
set_option maxRecDepth 100000
set_option maxHeartbeats 1000000
section
variable {H : Type} {enc : TypeId × Value → H} {w : World} {base : Nat} {spare : Nat → Bool} {held : Bool}
theorem own : ownKnob Tryd.prog.godebug = none := by kernel_rfl
theorem laidOut : laidOutB Tryd.prog = true := by kernel_rfl
theorem trod_bot {n : Nat} {cs : List Value} {x : DataW H × List MemPlace} (h : DataW.trod enc Tryd.prog w base spare held n 24 cs = some x) : ∃ b : Bt, cs = bc b := by
  obtain ⟨ys, m, _, _, hl, _, hf⟩ := DataW.trod_struct Tryd.underlying24 h
  have hC : Tryd.prog.cellsOf 24 = 2 := by kernel_rfl
  have hC5 : Tryd.prog.cellsOf 5 = 1 := by kernel_rfl
  have hC29 : Tryd.prog.cellsOf 22 = 1 := by kernel_rfl
  rw [hC] at hl
  match cs, hl with
  | [c0, c1], _ =>
    have g0 := hf 0 _ rfl
    have g1 := hf 1 _ rfl
    simp [hC5, hC29] at g0 g1
    cases h0 : ys[0]? with
    | none =>
      rename_i hyl _
      exact absurd h0 (by simp [hyl])
    | some y0 =>
      cases h1 : ys[1]? with
      | none =>
        rename_i hyl _
        exact absurd h1 (by simp [hyl])
      | some y1 =>
        rw [h0] at g0
        rw [h1] at g1
        obtain ⟨k, e0, _, w0⟩ := DataW.trod_int Tryd.underlying5 g0
        obtain ⟨y, e1, _, w1⟩ := DataW.trod_int Tryd.underlying22 g1
        simp only [List.cons.injEq, and_true] at e0 e1
        subst e0 e1
        exact ⟨⟨k, y, bounds_u8 w0, bounds_i16 w1⟩, rfl⟩
theorem read_bot {v : Value} {d : DataW H} {ps : List MemPlace} (hv : Value.okWide Tryd.prog w .any 0 24 v) (h : DataW.Trod enc Tryd.prog w base spare held 24 v d ps) : ∃ b : Bt, v = bv b := by
  obtain ⟨cs, rfl, _⟩ := okWide_struct Tryd.underlying24 hv
  obtain ⟨n, hn⟩ := h
  obtain ⟨b, hb⟩ := trod_bot hn
  refine ⟨b, ?_⟩
  have : cs = (bc b).toArray := by
    rw [← hb]
    rfl
  rw [this]
  rfl
theorem trod_crate {n : Nat} {cs : List Value} {x : DataW H × List MemPlace} (h : DataW.trod enc Tryd.prog w base spare held n 29 cs = some x) : ∃ c : Cr, cs = cc c := by
  obtain ⟨xs, m, _, _, hl, hxl, hf⟩ := DataW.trod_array Tryd.underlying29 h
  have hC : Tryd.prog.cellsOf 29 = 24 := by kernel_rfl
  have hB : Tryd.prog.cellsOf 24 = 2 := by kernel_rfl
  rw [hC] at hl
  have hall : ∀ k, k ≤ 12 → ∃ l : List Bt, l.length = k ∧ cs.take (k * 2) = bcs l := by
    intro k
    induction k with
    | zero => exact fun _ => ⟨[], rfl, by simp [bcs]⟩
    | succ k ih =>
      intro hk
      obtain ⟨l, hll, hlt⟩ := ih (by omega)
      have hi := hf k (by omega)
      rw [hB] at hi
      cases hx : xs[k]? with
      | none => exact absurd hx (by simp; omega)
      | some y =>
        rw [hx] at hi
        obtain ⟨b, hb⟩ := trod_bot hi
        refine ⟨l ++ [b], by simp [hll], ?_⟩
        rw [bcs_append, ← hlt, show bcs [b] = bc b from rfl, ← hb, show (k + 1) * 2 = k * 2 + 2 by omega, List.take_add]
  obtain ⟨l, hll, hlt⟩ := hall 12 (Nat.le_refl _)
  rw [List.take_of_length_le (by omega)] at hlt
  exact ⟨⟨l.toArray, by simp [hll]⟩, hlt⟩
theorem okWide_array {t : TypeId} {n : Nat} {e : TypeId} {v : Value} {P : Program} {r : Reach} {b : Nat} (ht : P.underlying t = some (.array n e)) (h : Value.okWide P w r b t v) : ∃ cs, v = .agg cs ∧ cs.size = P.cellsOf t := by
  simp only [Value.okWide, ht] at h
  obtain ⟨cs, h1, h2, _⟩ := h
  exact ⟨cs, h1, h2⟩
theorem read_crate {v : Value} {d : DataW H} {ps : List MemPlace} (hv : Value.okWide Tryd.prog w .any 0 29 v) (h : DataW.Trod enc Tryd.prog w base spare held 29 v d ps) : ∃ c : Cr, v = cv c := by
  obtain ⟨cs, rfl, _⟩ := okWide_array Tryd.underlying29 hv
  obtain ⟨n, hn⟩ := h
  obtain ⟨c, hc⟩ := trod_crate hn
  refine ⟨c, ?_⟩
  have : cs = (cc c).toArray := by
    rw [← hc]
    rfl
  rw [this]
theorem trod_want {n : Nat} {cs : List Value} {x : DataW H × List MemPlace} (h : DataW.trod enc Tryd.prog w base spare held n 73 cs = some x) : ∃ b : Wt, cs = wc b := by
  obtain ⟨ys, m, _, _, hl, _, hf⟩ := DataW.trod_struct Tryd.underlying73 h
  have hC : Tryd.prog.cellsOf 73 = 3 := by kernel_rfl
  have hC5 : Tryd.prog.cellsOf 24 = 2 := by kernel_rfl
  have hC29 : Tryd.prog.cellsOf 22 = 1 := by kernel_rfl
  rw [hC] at hl
  match cs, hl with
  | [c0, c1, c2], _ =>
    have g0 := hf 0 _ rfl
    have g1 := hf 1 _ rfl
    simp [hC5, hC29] at g0 g1
    cases h0 : ys[0]? with
    | none =>
      rename_i hyl _
      exact absurd h0 (by simp [hyl])
    | some y0 =>
      cases h1 : ys[1]? with
      | none =>
        rename_i hyl _
        exact absurd h1 (by simp [hyl])
      | some y1 =>
        rw [h0] at g0
        rw [h1] at g1
        obtain ⟨b, e0⟩ := trod_bot g0
        obtain ⟨y, e1, _, w1⟩ := DataW.trod_int Tryd.underlying22 g1
        simp only [bc, List.cons.injEq, and_true] at e0 e1
        obtain ⟨rfl, rfl⟩ := e0
        subst e1
        exact ⟨⟨b, y, bounds_i16 w1⟩, rfl⟩
end
end Go.Proofs.YtbngpcghognojaaDoor
