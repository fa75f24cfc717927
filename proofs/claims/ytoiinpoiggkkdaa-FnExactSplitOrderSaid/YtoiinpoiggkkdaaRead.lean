/- How the arguments of the laws read as data: bottles and crates by value. -/
import Derived.Test.YtoiinpoiggkkdaaKinds
import Derived.ProofKit
import Derived.OpenShut
import Derived.ShutString
import Derived.ChangeOld
import Derived.SizedLaws
import Derived.Carry
import Derived.Deep.Slices
namespace Go.Proofs.Ytoiinpoiggkkdaa
open Go.RowKit Go.ChangeShapes Go.WideShapes Go.ChangeAt
set_option linter.unusedVariables false
set_option linter.unusedSimpArgs false
set_option maxRecDepth 100000
set_option maxHeartbeats 1000000
section
variable {H : Type} {enc : TypeId × Value → H} {w : World} {base : Nat} {spare : Nat → Bool} {held : Bool}
theorem own : ownKnob Try.prog.godebug = none := by kernel_rfl
theorem laidOut : laidOutB Try.prog = true := by kernel_rfl
theorem trod_bot {n : Nat} {cs : List Value} {x : DataW H × List MemPlace} (h : DataW.trod enc Try.prog w base spare held n 46 cs = some x) : ∃ b : Bt, cs = bc b := by
  obtain ⟨ys, m, _, _, hl, _, hf⟩ := DataW.trod_struct Try.underlying46 h
  have hC : Try.prog.cellsOf 46 = 2 := by kernel_rfl
  have hC5 : Try.prog.cellsOf 5 = 1 := by kernel_rfl
  have hC29 : Try.prog.cellsOf 39 = 1 := by kernel_rfl
  rw [hC] at hl
  match cs, hl with
  | [c0, c1], _ =>
    have g0 := hf 0 _ rfl
    have g1 := hf 1 _ rfl
    simp [hC5, hC29] at g0 g1
    cases h0 : ys[0]? with
    | none =>
      rename_i hyl _
      exact absurd h0 (by simp [hyl])
    | some y0 =>
      cases h1 : ys[1]? with
      | none =>
        rename_i hyl _
        exact absurd h1 (by simp [hyl])
      | some y1 =>
        rw [h0] at g0
        rw [h1] at g1
        obtain ⟨k, e0, _, w0⟩ := DataW.trod_int Try.underlying5 g0
        obtain ⟨y, e1, _, w1⟩ := DataW.trod_int Try.underlying39 g1
        simp only [List.cons.injEq, and_true] at e0 e1
        subst e0 e1
        exact ⟨⟨k, y, bounds_u8 w0, bounds_i16 w1⟩, rfl⟩
theorem read_bot {v : Value} {d : DataW H} {ps : List MemPlace} (hv : Value.okWide Try.prog w .any 0 46 v) (h : DataW.Trod enc Try.prog w base spare held 46 v d ps) : ∃ b : Bt, v = bv b := by
  obtain ⟨cs, rfl, _⟩ := okWide_struct Try.underlying46 hv
  obtain ⟨n, hn⟩ := h
  obtain ⟨b, hb⟩ := trod_bot hn
  refine ⟨b, ?_⟩
  have : cs = (bc b).toArray := by
    rw [← hb]
    rfl
  rw [this]
  rfl
theorem trod_want {n : Nat} {cs : List Value} {x : DataW H × List MemPlace} (h : DataW.trod enc Try.prog w base spare held n 48 cs = some x) : ∃ b : Wt, cs = wc b := by
  obtain ⟨ys, m, _, _, hl, _, hf⟩ := DataW.trod_struct Try.underlying48 h
  have hC : Try.prog.cellsOf 48 = 3 := by kernel_rfl
  have hC5 : Try.prog.cellsOf 46 = 2 := by kernel_rfl
  have hC29 : Try.prog.cellsOf 39 = 1 := by kernel_rfl
  rw [hC] at hl
  match cs, hl with
  | [c0, c1, c2], _ =>
    have g0 := hf 0 _ rfl
    have g1 := hf 1 _ rfl
    simp [hC5, hC29] at g0 g1
    cases h0 : ys[0]? with
    | none =>
      rename_i hyl _
      exact absurd h0 (by simp [hyl])
    | some y0 =>
      cases h1 : ys[1]? with
      | none =>
        rename_i hyl _
        exact absurd h1 (by simp [hyl])
      | some y1 =>
        rw [h0] at g0
        rw [h1] at g1
        obtain ⟨b, e0⟩ := trod_bot g0
        obtain ⟨y, e1, _, w1⟩ := DataW.trod_int Try.underlying39 g1
        simp only [bc, List.cons.injEq, and_true] at e0 e1
        obtain ⟨rfl, rfl⟩ := e0
        subst e1
        exact ⟨⟨b, y, bounds_i16 w1⟩, rfl⟩
end
end Go.Proofs.Ytoiinpoiggkkdaa
