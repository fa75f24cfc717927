/- Contracts of what an order lacks behind some crates (the reference's). -/
import Derived.Test.YtoiinpoiggkkdaaLack
import Derived.Test.YtoiinpoiggkkdaaInts
namespace Go.Proofs.Ytoiinpoiggkkdaa
open Go.RowKit
set_option linter.unusedVariables false
set_option linter.unusedSimpArgs false
set_option maxRecDepth 100000
set_option maxHeartbeats 1000000
attribute [local go_sem] Oper.qB
/-- Number i is told there for the first time. -/
def fresh (ks : List Int) (i : Nat) : Bool := !(ks.take i).contains (ks.getD i 0)
def opK (lc : List Cr) (ks : List Int) (j : Nat) : List Cr := ((List.range j).filter (fresh ks)).map fun i => lc[(ks.getD i 0).toNat]!
/-- Some crates, each once. -/
def opL (lc : List Cr) (ks : List Int) : List Cr := opK lc ks ks.length
theorem opK_yes {lc : List Cr} {ks : List Int} {j : Nat} (h : fresh ks j = true) : opK lc ks (j + 1) = opK lc ks j ++ [lc[(ks.getD j 0).toNat]!] := by
  unfold opK
  rw [List.range_succ, List.filter_append, List.map_append]
  simp [h]
theorem opK_no {lc : List Cr} {ks : List Int} {j : Nat} (h : fresh ks j = false) : opK lc ks (j + 1) = opK lc ks j := by
  unfold opK
  rw [List.range_succ, List.filter_append, List.map_append]
  simp [h]
theorem opK_le (lc : List Cr) (ks : List Int) (j : Nat) : (opK lc ks j).length ≤ j := by
  unfold opK
  rw [List.length_map]
  exact Nat.le_trans (List.length_filter_le _ _) (by simp)
theorem cntL_snoc (l : List Cr) (c : Cr) (b : Bt) : cntL (l ++ [c]) b = cntL l b + cntC c b := by simp [cntL]
theorem RdA.take {w : World} {A : Option Addr} {vs : List Value} (h : RdA w A vs) (k : Nat) : RdA w A (vs.take k) := by
  rcases h with rfl | ⟨g, off, rfl, hg, hC⟩
  · exact .inl (by simp)
  · exact .inr ⟨g, off, rfl, hg, hC.take k⟩
theorem vi_take (l : List Int) (k : Nat) : vi (l.take k) = (vi l).take k := by simp [vi, List.map_take]
theorem has_step {l : List Int} {k : Nat} {x : Int} (hk : k < l.length) (h : (l.take k).contains x = false) : (l.take (k + 1)).contains x = (l.getD k 0 == x) := by
  have e : l[k] = l.getD k 0 := by simp [List.getD_eq_getElem?_getD, hk]
  rw [List.take_succ_eq_append_getElem hk, e]
  simp only [List.contains_eq_mem, List.mem_append, List.mem_singleton, decide_eq_false_iff_not] at h ⊢
  rw [Bool.eq_iff_iff, decide_eq_true_iff, beq_iff_eq]
  exact ⟨fun q => (q.resolve_left h).symm, fun q => .inr q.symm⟩
theorem has_hit {l : List Int} {k : Nat} (hk : k < l.length) : l.contains (l.getD k 0) = true := by
  have e : l[k] = l.getD k 0 := by simp [List.getD_eq_getElem?_getD, hk]
  rw [← e]
  simp
end Go.Proofs.Ytoiinpoiggkkdaa
