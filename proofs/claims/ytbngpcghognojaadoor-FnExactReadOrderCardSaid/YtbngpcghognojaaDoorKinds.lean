/- Other kinds of values: swaps, wants. -/
import Derived.Test.YtbngpcghognojaaDoorBase
namespace Go.Proofs.YtbngpcghognojaaDoor
open Go.RowKit
set_option linter.unusedVariables false
set_option linter.unusedSimpArgs false
set_option maxRecDepth 100000
set_option maxHeartbeats 1000000
structure Sw where
  f : Int
  t : Int
  hf : -128 ≤ f ∧ f ≤ 127
  ht : -128 ≤ t ∧ t ≤ 127
def zS : Sw := ⟨0, 0, by decide, by decide⟩
instance : Inhabited Sw := ⟨zS⟩
def sc (s : Sw) : List Value := [.int .i8 s.f, .int .i8 s.t]
abbrev sv (s : Sw) : Value := .agg #[.int .i8 s.f, .int .i8 s.t]
theorem sc_length (s : Sw) : (sc s).length = 2 := rfl
theorem sv_one (f t : Int) : ∀ v ∈ (#[.int .i8 f, .int .i8 t] : Array Value).toList, v.oneCell' = true := by
  intro v hv
  simp at hv
  rcases hv with rfl | rfl <;> rfl
/-- A bottle wanted, and how many. -/
structure Wt where
  b : Bt
  n : Int
  hn : -32768 ≤ n ∧ n ≤ 32767
def zW : Wt := ⟨zB, 0, by decide⟩
instance : Inhabited Wt := ⟨zW⟩
def wc (x : Wt) : List Value := [.int .u8 x.b.k, .int .i16 x.b.y, .int .i16 x.n]
abbrev wv (x : Wt) : Value := .agg #[.int .u8 x.b.k, .int .i16 x.b.y, .int .i16 x.n]
theorem wc_length (x : Wt) : (wc x).length = 3 := rfl
theorem Wt.eq_iff {a b : Wt} : a = b ↔ a.b = b.b ∧ a.n = b.n := by
  constructor
  · rintro rfl
    exact ⟨rfl, rfl⟩
  · intro h
    cases a
    cases b
    simp at h
    obtain ⟨rfl, rfl⟩ := h
    rfl
instance : DecidableEq Wt := fun a b => if h : a.b = b.b ∧ a.n = b.n then isTrue (Wt.eq_iff.2 h) else isFalse (fun e => h (Wt.eq_iff.1 e))
def Wt.like (a b : Wt) : Bool := a.b.like b.b && a.n == b.n
theorem Wt.like_iff {a b : Wt} : a.like b = true ↔ a = b := by
  rw [Wt.eq_iff]
  simp [Wt.like, Bt.like_iff]
end Go.Proofs.YtbngpcghognojaaDoor
