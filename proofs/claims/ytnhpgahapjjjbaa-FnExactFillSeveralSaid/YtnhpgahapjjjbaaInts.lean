/- Contracts of the laws' helpers on slices of whole numbers: compared, marked, held. -/
import Derived.Test.YtnhpgahapjjjbaaApp
namespace Go.Proofs.Ytnhpgahapjjjbaa
open Go.RowKit
set_option linter.unusedVariables false
set_option linter.unusedSimpArgs false
set_option maxRecDepth 100000
set_option maxHeartbeats 1000000
/-- What a slice's address leads to: nothing, or cells. -/
def RdA (w : World) (A : Option Addr) (vs : List Value) : Prop := vs = [] ∨ ∃ g off, A = some ⟨g, off, none⟩ ∧ g < w.heap.size ∧ CAt w g off vs
theorem RdA.below {w w' : World} {A : Option Addr} {vs : List Value} (h : RdA w A vs) (hb : Below w.heap.size w w') : RdA w' A vs := by
  rcases h with h | ⟨g, off, hA, hg, hC⟩
  · exact .inl h
  · exact .inr ⟨g, off, hA, Nat.lt_of_lt_of_le hg hb.size, hC.below hb hg⟩
theorem RdA.belowB {B : Nat} {w w' : World} {A : Option Addr} {vs : List Value} (h : RdA w A vs) (hb : Below B w w') (hB : ∀ a, A = some a → a.block < B) : RdA w' A vs := by
  rcases h with h | ⟨g, off, hA, hg, hC⟩
  · exact .inl h
  · exact .inr ⟨g, off, hA, Nat.lt_of_lt_of_le hg hb.size, hC.below hb (hB _ hA)⟩
theorem RdA.some {w : World} {A : Option Addr} {vs : List Value} (h : RdA w A vs) (hn : 0 < vs.length) : ∃ g off, A = some ⟨g, off, none⟩ ∧ g < w.heap.size ∧ CAt w g off vs := by
  rcases h with rfl | h
  · simp at hn
  · exact h
theorem own_rdA {w : World} {B : Nat} {e : TypeId} {size n : Nat} {v : Value} {xs : List Value} (h : w.ownsRow B e size v n xs) : ∃ A c, v = .slice A n c ∧ n ≤ c ∧ RdA w A xs ∧ ∀ a, A = Option.some a → B ≤ a.block ∧ a.block < w.heap.size := by
  obtain ⟨hl, ⟨rfl, rfl⟩ | ⟨g, cap, cur, rfl, hg, hh, hn, hm, hc, ht⟩⟩ := h
  · exact ⟨none, 0, rfl, Nat.le_refl _, .inl (List.eq_nil_of_length_eq_zero (by simpa using hl)), by simp⟩
  · have hlt := (Array.getElem?_eq_some_iff.1 hh).1
    refine ⟨_, cap, rfl, hn, .inr ⟨g, 0, rfl, hlt, fun i u hi => ?_⟩, fun a ha => by cases ha; exact ⟨hg, hlt⟩⟩
    rw [Nat.zero_add, cell_of_row w g i cur e (0, 0) hh]
    rw [← ht, List.getElem?_take] at hi
    split at hi
    · simpa using hi
    · cases hi
theorem own_form {w : World} {base size n : Nat} {e : TypeId} {v : Value} {xs : List Value} (h : w.ownsRow base e size v n xs) (hn : 0 < n) : ∃ g cap, v = .slice (Option.some ⟨g, 0, none⟩) n cap := by
  rcases h.2 with ⟨_, h0⟩ | ⟨g, cap, _, hv, _⟩
  · omega
  · exact ⟨g, cap, hv⟩
/-- k, k + 1, .. -/
def seqI (k : Int) (n : Nat) : List Int := (List.range n).map fun (i : Nat) => k + (i : Int)
theorem seqI_length (k : Int) (n : Nat) : (seqI k n).length = n := by simp [seqI]
theorem seqI_succ (k : Int) (n : Nat) : seqI k (n + 1) = seqI k n ++ [k + (n : Int)] := by simp [seqI, List.range_succ]
theorem seqI_at (k : Int) (n i : Nat) (h : i < n) : (seqI k n).getD i 0 = k + (i : Int) := by simp [seqI, List.getD_eq_getElem?_getD, h]
theorem eqInt64S_refl (A A' : Option Addr) (c c' : Nat) (l : List Int) (w : World) (h : RdA w A (vi l)) (h' : RdA w A' (vi l)) (hm : l.length ≤ 1000000000) :
    Calls Try.prog 29 #[.slice A l.length c, .slice A' l.length c'] w fun e w' => e = .returned (.bool true) ∧ Below w.heap.size w w' := by
  have HR := Lib.hid h
  have HR' := Lib.hid h'
  clear h h'
  go_enter Try.func29, Try.ntmps29
  go_wp2
  go_loopw [5] (fun i wr => ∃ k : Nat, k ≤ l.length ∧ i = .int .i64 k ∧ Below w.heap.size w wr) (fun i _ => l.length - (intOf i).toNat)
  case atStart => exact ⟨0, Nat.zero_le _, rfl, Below.refl _ _⟩
  case round =>
    obtain ⟨k, hk, rfl, hb⟩ := hrel
    by_cases hlt : k < l.length
    · obtain ⟨g, off, rfl, hg, hC⟩ := HR.out.some (by rw [vi_length]; omega)
      obtain ⟨g', off', rfl, hg', hC'⟩ := HR'.out.some (by rw [vi_length]; omega)
      have x0 := (hb.cell (p := ⟨g, off + k, none⟩) hg).trans (hC k _ (vi_at l k hlt))
      have x1 := (hb.cell (p := ⟨g', off' + k, none⟩) hg').trans (hC' k _ (vi_at l k hlt))
      clear hC hC'
      generalize l.getD k 0 = x at x0 x1
      go_wp2
      go_quiet (fail)
      go_wp2
      go_roundw
      case rel => exact ⟨k + 1, by omega, by go_num, bdrewN hb _⟩
      case measure => simp [intOf]; omega
    · obtain rfl : k = l.length := by omega
      go_wp2
      go_ret
      exact ⟨rfl, hb⟩
theorem markInt64S_any (B : Nat) (v : Value) (l : List Int) (k0 : Int) (w : World) (h : w.ownsRow B 2 1 v l.length (vi l)) (hB : B ≤ w.heap.size) (h0 : 0 ≤ k0) (h1 : k0 ≤ 1000000000000) (hm : l.length ≤ 1000000000) :
    Calls Try.prog 32 #[v, .int .i64 k0] w fun e w' => e = .returned (.int .i64 (k0 + (l.length : Int))) ∧ w'.ownsRow B 2 1 v l.length (vi (seqI k0 l.length)) ∧ Below B w w' := by
  have HO := Lib.hid h
  obtain ⟨A, c, rfl, hc, _⟩ := own_rdA h
  clear h
  go_enter Try.func32, Try.ntmps32
  go_wp2
  go_loopw [1, 5] (fun kk i wr => ∃ k : Nat, k ≤ l.length ∧ i = .int .i64 k ∧ kk = .int .i64 (k0 + (k : Int)) ∧ Hid (wr.ownsRow B 2 1 (.slice A l.length c) l.length (vi (seqI k0 k ++ l.drop k))) ∧ Below B w wr) (fun _ i _ => l.length - (intOf i).toNat)
  case atStart => exact ⟨0, Nat.zero_le _, rfl, by simp, Lib.hid (by simpa [seqI] using HO.out), Below.refl _ _⟩
  case round =>
    clear HO
    obtain ⟨k, hk, rfl, rfl, HO, hb⟩ := hrel
    by_cases hlt : k < l.length
    · obtain ⟨g, cap, hv⟩ := own_form HO.out (by omega)
      simp only [Value.slice.injEq] at hv
      obtain ⟨rfl, _, rfl⟩ := hv
      have hlen : k < (vi (seqI k0 k ++ l.drop k)).length := by simp [vi_length, seqI_length]; omega
      have x0 := HO.out.cellAt k (by omega)
      rw [List.getElem?_eq_getElem hlen] at x0
      have f0 := HO.out.frozenAt k
      have HS := Lib.hid (HO.out.stored k (.int .i64 (k0 + (k : Int))))
      have hgB : B ≤ g := own_base HO.out g rfl
      have HE : Hid ((vi (seqI k0 k ++ l.drop k)).set k (.int .i64 (k0 + (k : Int))) = vi (seqI k0 (k + 1) ++ l.drop (k + 1))) := by
        show _ = _
        rw [vi_append, List.set_append_right _ _ (by simp [vi_length, seqI_length]), vi_length, seqI_length, Nat.sub_self, seqI_succ, List.drop_eq_getElem_cons hlt]
        simp only [vi, List.map_cons, List.set_cons_zero, List.map_append, List.map_nil, List.append_assoc, List.cons_append, List.nil_append]
      generalize (vi (seqI k0 k ++ l.drop k))[k] = y at x0
      clear hlen
      go_wp2
      go_roundw
      case rel => exact ⟨k + 1, by omega, by go_num, congrArg (Value.int .i64) (by omega), by rw [← HE.out]; exact HS.out.1, hb.setCell hgB _⟩
      case measure => simp [intOf]; omega
    · obtain rfl : k = l.length := by omega
      go_wp2
      go_ret
      exact ⟨rfl, by simpa using HO.out, hb⟩
theorem heldInt64S_any (A : Option Addr) (c n : Nat) (k0 : Int) (w : World) (h : RdA w A (vi (seqI k0 n))) (h0 : 0 ≤ k0) (h1 : k0 ≤ 1000000000000) (hm : n ≤ 1000000000) :
    Calls Try.prog 33 #[.slice A n c, .int .i64 k0] w fun e w' => e = .returned (.int .i64 (k0 + (n : Int))) ∧ Below w.heap.size w w' := by
  have HR := Lib.hid h
  clear h
  go_enter Try.func33, Try.ntmps33
  go_wp2
  go_loopw [1, 5] (fun kk i wr => ∃ k : Nat, k ≤ n ∧ i = .int .i64 k ∧ kk = .int .i64 (k0 + (k : Int)) ∧ Below w.heap.size w wr) (fun _ i _ => n - (intOf i).toNat)
  case atStart => exact ⟨0, Nat.zero_le _, rfl, by simp, Below.refl _ _⟩
  case round =>
    obtain ⟨k, hk, rfl, rfl, hb⟩ := hrel
    by_cases hlt : k < n
    · obtain ⟨g, off, rfl, hg, hC⟩ := HR.out.some (by rw [vi_length, seqI_length]; omega)
      have x0 := (hb.cell (p := ⟨g, off + k, none⟩) hg).trans (hC k _ (vi_at _ k (by rw [seqI_length]; exact hlt)))
      rw [seqI_at _ _ _ hlt] at x0
      clear hC
      go_wp2
      go_roundw
      case rel => exact ⟨k + 1, by omega, by go_num, congrArg (Value.int .i64) (by omega), hb⟩
      case measure => simp [intOf]; omega
    · obtain rfl : k = n := by omega
      go_wp2
      go_ret
      exact ⟨rfl, hb⟩
end Go.Proofs.Ytnhpgahapjjjbaa
