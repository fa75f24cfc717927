/- Contracts of what an order lacks. -/
import Derived.Test.YtoiinpoiggkkdaaOwn
import Derived.Test.YtoiinpoiggkkdaaUse
namespace Go.Proofs.Ytoiinpoiggkkdaa
open Go.RowKit
set_option linter.unusedVariables false
set_option linter.unusedSimpArgs false
set_option maxRecDepth 100000
set_option maxHeartbeats 1000000
attribute [local go_sem] Oper.qB
/-- What is wanted beyond so many. -/
def lack1 (x : Wt) (m : Nat) : List Wt := if h : 0 < x.n - (m : Int) then [⟨x.b, x.n - m, by have := x.hn; omega⟩] else []
def lackL (f : Bt → Nat) (l : List Wt) : List Wt := l.flatMap fun x => lack1 x (f x.b)
theorem lackL_step {f : Bt → Nat} {l : List Wt} {k : Nat} (hk : k < l.length) : lackL f (l.take (k + 1)) = lackL f (l.take k) ++ lack1 l[k]! (f l[k]!.b) := by
  unfold lackL
  rw [List.take_succ_eq_append_getElem hk, getB hk, List.flatMap_append]
  simp
theorem lack1_le (x : Wt) (m : Nat) : (lack1 x m).length ≤ 1 := by
  unfold lack1
  split <;> simp
theorem lackL_le (f : Bt → Nat) : ∀ l : List Wt, (lackL f l).length ≤ l.length
  | [] => by simp [lackL]
  | x :: l => by
    have h := lackL_le f l
    have h1 := lack1_le x (f x.b)
    have e : lackL f (x :: l) = lack1 x (f x.b) ++ lackL f l := by simp [lackL]
    rw [e, List.length_append, List.length_cons]
    omega
theorem lack1_yes {x : Wt} {m : Nat} (h : 0 < x.n - (m : Int)) : lack1 x m = [⟨x.b, x.n - m, by have := x.hn; omega⟩] := dif_pos h
theorem lack1_no {x : Wt} {m : Nat} (h : ¬ 0 < x.n - (m : Int)) : lack1 x m = [] := dif_neg h
end Go.Proofs.Ytoiinpoiggkkdaa
