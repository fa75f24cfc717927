/- A text cut at its first ':': what a bottle's text reads as. -/
import Derived.Test.YtbngpcghognojaaDoorTextP
namespace Go.Proofs.YtbngpcghognojaaDoor
open Go Go.Lib
set_option linter.unusedVariables false
set_option linter.unusedSimpArgs false
theorem index_app {s : UInt8} : ∀ {a : List UInt8} (b : List UInt8), s ∉ a → index (a ++ s :: b) [s] = (a.length : Int)
  | [], b, _ => by simp [index]
  | c :: a, b, h => by
    have h1 : c ≠ s := fun e => h (by rw [e]; exact List.mem_cons_self ..)
    have ih := index_app (s := s) (a := a) b (fun q => h (List.mem_cons_of_mem _ q))
    have h2 : (s == c) = false := by simpa using Ne.symm h1
    have hp : [s].isPrefixOf (c :: (a ++ s :: b)) = false := by simp [List.isPrefixOf, h2]
    rw [List.cons_append, index, hp, ih]
    have h3 : ((a.length : Int) == -1) = false := by simp
    rw [h3]
    simp
theorem index_not {s : UInt8} : ∀ {a : List UInt8}, s ∉ a → index a [s] = -1
  | [], _ => rfl
  | c :: a, h => by
    have h1 : c ≠ s := fun e => h (by rw [e]; exact List.mem_cons_self ..)
    have ih := index_not (s := s) (a := a) (fun q => h (List.mem_cons_of_mem _ q))
    have h2 : (s == c) = false := by simpa using Ne.symm h1
    have hp : [s].isPrefixOf (c :: a) = false := by simp [List.isPrefixOf, h2]
    rw [index, hp, ih]
    rfl
theorem cut_app {s : UInt8} {a b : List UInt8} (h : s ∉ a) : cut (a ++ s :: b) [s] = (a, b, true) := by
  unfold cut
  rw [index_app b h, if_pos (by omega), Int.toNat_natCast]
  have e1 : (a ++ s :: b).take a.length = a := List.take_left
  have e2 : (a ++ s :: b).drop (a.length + [s].length) = b := by
    rw [List.drop_append, List.drop_eq_nil_of_le (by simp)]
    simp
  rw [e1, e2]
theorem cut_not {s : UInt8} {a : List UInt8} (h : s ∉ a) : cut a [s] = (a, [], false) := by
  unfold cut
  rw [index_not h, if_neg (by omega)]
theorem spl_two {s : UInt8} {a b : List UInt8} (h : s ∉ a) (h' : s ∉ b) : spl s (a ++ s :: b) = [a, b] := by rw [spl_app b h, spl_one h']
theorem rdR_not {lo hi : Nat} {l : List UInt8} {c : UInt8} (h : rdR lo hi l = true) (hc : isD c = false) : c ∉ l := by
  simp only [rdR, Bool.and_eq_true] at h
  exact notD (canon_iff.1 h.1).2.1 hc
/-- What the cut says of the bottle. -/
theorem rdB_cut {l : List UInt8} : (∃ b, rdB l = some b ∧ (cut l [58]).2.2 = true ∧ rdR 1 20 (cut l [58]).1 = true ∧ rdR 1900 2099 (cut l [58]).2.1 = true ∧ b.k = (valD (cut l [58]).1 : Int) ∧ b.y = (valD (cut l [58]).2.1 : Int)) ∨
    (rdB l = none ∧ ((cut l [58]).2.2 && (rdR 1 20 (cut l [58]).1 && rdR 1900 2099 (cut l [58]).2.1)) = false) := by
  by_cases h : (58 : UInt8) ∈ l
  · obtain ⟨a, b, rfl, ha⟩ := List.eq_append_cons_of_mem h
    rw [cut_app ha]
    cases hr : rdR 1 20 a && rdR 1900 2099 b with
    | true =>
      left
      have hr2 := hr
      rw [Bool.and_eq_true] at hr2
      have hb : (58 : UInt8) ∉ b := rdR_not hr2.2 (by decide)
      have hk : 0 ≤ (valD a : Int) ∧ (valD a : Int) ≤ 255 := by
        have := hr2.1
        simp only [rdR, Bool.and_eq_true, decide_eq_true_iff] at this
        omega
      have hy : -32768 ≤ (valD b : Int) ∧ (valD b : Int) ≤ 32767 := by
        have := hr2.2
        simp only [rdR, Bool.and_eq_true, decide_eq_true_iff] at this
        omega
      refine ⟨⟨(valD a : Int), (valD b : Int), hk, hy⟩, ?_, rfl, hr2.1, hr2.2, rfl, rfl⟩
      unfold rdB
      rw [spl_two ha hb]
      simp only [hr, dif_pos]
    | false =>
      right
      refine ⟨?_, rfl⟩
      by_cases hb : (58 : UInt8) ∈ b
      · obtain ⟨b1, b2, rfl, hb1⟩ := List.eq_append_cons_of_mem hb
        unfold rdB
        rw [spl_app _ ha, spl_app _ hb1]
        cases hs : spl 58 b2 with
        | nil => exact absurd hs (spl_ne _ _)
        | cons p ps => rfl
      · unfold rdB
        rw [spl_two ha hb]
        simp [hr]
  · right
    have hs : spl 58 l = [l] := spl_one h
    refine ⟨by unfold rdB; rw [hs], by rw [cut_not h]; rfl⟩
end Go.Proofs.YtbngpcghognojaaDoor
