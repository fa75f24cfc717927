/- Contracts of the laws' helpers on slices of whole numbers: compared, marked, held. -/
import Derived.Test.YtbngpcghognojaaDoorApp
namespace Go.Proofs.YtbngpcghognojaaDoor
open Go.RowKit
set_option linter.unusedVariables false
set_option linter.unusedSimpArgs false
set_option maxRecDepth 100000
set_option maxHeartbeats 1000000
/-- What a slice's address leads to: nothing, or cells. -/
def RdA (w : World) (A : Option Addr) (vs : List Value) : Prop := vs = [] ∨ ∃ g off, A = some ⟨g, off, none⟩ ∧ g < w.heap.size ∧ CAt w g off vs
theorem RdA.below {w w' : World} {A : Option Addr} {vs : List Value} (h : RdA w A vs) (hb : Below w.heap.size w w') : RdA w' A vs := by
  rcases h with h | ⟨g, off, hA, hg, hC⟩
  · exact .inl h
  · exact .inr ⟨g, off, hA, Nat.lt_of_lt_of_le hg hb.size, hC.below hb hg⟩
theorem RdA.belowB {B : Nat} {w w' : World} {A : Option Addr} {vs : List Value} (h : RdA w A vs) (hb : Below B w w') (hB : ∀ a, A = some a → a.block < B) : RdA w' A vs := by
  rcases h with h | ⟨g, off, hA, hg, hC⟩
  · exact .inl h
  · exact .inr ⟨g, off, hA, Nat.lt_of_lt_of_le hg hb.size, hC.below hb (hB _ hA)⟩
theorem RdA.some {w : World} {A : Option Addr} {vs : List Value} (h : RdA w A vs) (hn : 0 < vs.length) : ∃ g off, A = some ⟨g, off, none⟩ ∧ g < w.heap.size ∧ CAt w g off vs := by
  rcases h with rfl | h
  · simp at hn
  · exact h
theorem own_rdA {w : World} {B : Nat} {e : TypeId} {size n : Nat} {v : Value} {xs : List Value} (h : w.ownsRow B e size v n xs) : ∃ A c, v = .slice A n c ∧ n ≤ c ∧ RdA w A xs ∧ ∀ a, A = Option.some a → B ≤ a.block ∧ a.block < w.heap.size := by
  obtain ⟨hl, ⟨rfl, rfl⟩ | ⟨g, cap, cur, rfl, hg, hh, hn, hm, hc, ht⟩⟩ := h
  · exact ⟨none, 0, rfl, Nat.le_refl _, .inl (List.eq_nil_of_length_eq_zero (by simpa using hl)), by simp⟩
  · have hlt := (Array.getElem?_eq_some_iff.1 hh).1
    refine ⟨_, cap, rfl, hn, .inr ⟨g, 0, rfl, hlt, fun i u hi => ?_⟩, fun a ha => by cases ha; exact ⟨hg, hlt⟩⟩
    rw [Nat.zero_add, cell_of_row w g i cur e (0, 0) hh]
    rw [← ht, List.getElem?_take] at hi
    split at hi
    · simpa using hi
    · cases hi
theorem own_form {w : World} {base size n : Nat} {e : TypeId} {v : Value} {xs : List Value} (h : w.ownsRow base e size v n xs) (hn : 0 < n) : ∃ g cap, v = .slice (Option.some ⟨g, 0, none⟩) n cap := by
  rcases h.2 with ⟨_, h0⟩ | ⟨g, cap, _, hv, _⟩
  · omega
  · exact ⟨g, cap, hv⟩
/-- k, k + 1, .. -/
def seqI (k : Int) (n : Nat) : List Int := (List.range n).map fun (i : Nat) => k + (i : Int)
theorem seqI_length (k : Int) (n : Nat) : (seqI k n).length = n := by simp [seqI]
theorem seqI_succ (k : Int) (n : Nat) : seqI k (n + 1) = seqI k n ++ [k + (n : Int)] := by simp [seqI, List.range_succ]
theorem seqI_at (k : Int) (n i : Nat) (h : i < n) : (seqI k n).getD i 0 = k + (i : Int) := by simp [seqI, List.getD_eq_getElem?_getD, h]
end Go.Proofs.YtbngpcghognojaaDoor
