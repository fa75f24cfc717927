/- Contracts of CountOf: how many bottles of crates are alike one. -/
import Derived.Test.YtoiinpoiggkkdaaStack
namespace Go.Proofs.Ytoiinpoiggkkdaa
open Go.RowKit
set_option linter.unusedVariables false
set_option linter.unusedSimpArgs false
set_option maxRecDepth 100000
set_option maxHeartbeats 1000000
/-- How many among the first k places; in a crate; in crates. -/
def cntK (c : Cr) (b : Bt) (k : Nat) : Nat := (c.toList.take k).countP fun x => x.like b
def cntC (c : Cr) (b : Bt) : Nat := cntK c b 12
def cntL (l : List Cr) (b : Bt) : Nat := (l.map fun c => cntC c b).sum
def countR (l : List Cr) (b : Bt) : Int × Int := if (stackOk l && b.ok) = true then ((cntL l b : Int), 0) else (0, 1)
theorem cntK_le (c : Cr) (b : Bt) (k : Nat) : cntK c b k ≤ 12 := by
  refine Nat.le_trans List.countP_le_length ?_
  rw [List.length_take, Vector.length_toList]
  omega
theorem cntL_le : ∀ (l : List Cr) (b : Bt), cntL l b ≤ l.length * 12
  | [], _ => Nat.le_refl _
  | c :: l, b => by
    have h1 := cntK_le c b 12
    have h2 := cntL_le l b
    have e : cntL (c :: l) b = cntK c b 12 + cntL l b := by simp [cntL, cntC]
    rw [e, List.length_cons, Nat.add_mul]
    omega
theorem cntK_yes {c : Cr} {b : Bt} {k : Nat} (hk : k < 12) (h : (rB c.toList k).like b = true) : cntK c b (k + 1) = cntK c b k + 1 := by
  have hl : k < c.toList.length := by rw [Vector.length_toList]; exact hk
  unfold cntK
  rw [List.take_succ_eq_append_getElem hl, List.countP_append, ← rB_lt hl]
  simp [h]
theorem cntK_no {c : Cr} {b : Bt} {k : Nat} (hk : k < 12) (h : (rB c.toList k).like b = false) : cntK c b (k + 1) = cntK c b k := by
  have hl : k < c.toList.length := by rw [Vector.length_toList]; exact hk
  unfold cntK
  rw [List.take_succ_eq_append_getElem hl, List.countP_append, ← rB_lt hl]
  simp [h]
theorem cntL_step {l : List Cr} {b : Bt} {k : Nat} (hk : k < l.length) : cntL (l.take (k + 1)) b = cntL (l.take k) b + cntC l[k]! b := by
  unfold cntL
  rw [List.take_succ_eq_append_getElem hk, getB hk, List.map_append, List.sum_append]
  simp
end Go.Proofs.Ytoiinpoiggkkdaa
