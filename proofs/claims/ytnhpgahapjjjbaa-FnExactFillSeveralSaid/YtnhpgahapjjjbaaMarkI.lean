/- Contracts of the laws' helpers on slices of numbers: read, copied, compared, marked, held. -/
import Derived.Test.YtnhpgahapjjjbaaMarkW
import Derived.Test.YtnhpgahapjjjbaaInts
namespace Go.Proofs.Ytnhpgahapjjjbaa
open Go.RowKit
set_option linter.unusedVariables false
set_option linter.unusedSimpArgs false
set_option maxRecDepth 100000
set_option maxHeartbeats 1000000
theorem iv_len (x : Int) : (iv x).length = 1 := rfl
theorem trod_num {H : Type} {enc : TypeId × Value → H} {w : World} {base : Nat} {spare : Nat → Bool} {held : Bool} {n : Nat} {cs : List Value} {x : DataW H × List MemPlace} (h : DataW.trod enc Try.prog w base spare held n 2 cs = some x) : ∃ b : Int, cs = iv b := by
  obtain ⟨d, m⟩ := x
  obtain ⟨y, e1, _, w1⟩ := DataW.trod_int Try.underlying2 h
  exact ⟨y, e1⟩
theorem read_ints {H : Type} {enc : TypeId × Value → H} {w : World} {base : Nat} {spare : Nat → Bool} {held : Bool} {v : Value} {d : DataW H} {ps : List MemPlace} (hv : Value.okWide Try.prog w .any 0 47 v) (h : DataW.Trod enc Try.prog w base spare held 47 v d ps) :
    ∃ (A : Option Addr) (c : Nat) (l : List Int), v = .slice A l.length c ∧ l.length ≤ maxLen ∧ RdA w A (fl iv l) :=
  read_slice Try.underlying47 (by kernel_rfl) (by decide) iv_len (fun n cs x h => trod_num h) hv h
theorem toInt64S_own (A : Option Addr) (c : Nat) (l : List Int) (w : World) (h : RdA w A (fl iv l)) (hn : l.length ≤ 1048576) :
    Calls Try.prog 37 #[.slice A l.length c] w fun e w' => ∃ g, e = .returned (.slice (some ⟨g, 0, none⟩) l.length l.length) ∧ OwnN iv w' w.heap.size 2 1 (.slice (some ⟨g, 0, none⟩) l.length l.length) l ∧ Below w.heap.size w w' := by
  rw [fl_iv] at h
  have HR := Lib.hid h
  clear h
  have hmk := run_make_el (P := Try.prog) (a := #[.int .i64 0]) Try.underlying47 info64 rfl l.length (by omega) (by omega)
  go_enter Try.func37, Try.ntmps37
  go_wp2
  have hO := World.ownsRow_full (base := w.heap.size) w (madeCells #[.int .i64 0] (l.length * 1)) 2 1 l.length (Nat.le_refl _) (by simp [maxLen]; omega) (size_madeCells _ _)
  rw [made_fl iv_len (by decide) (0 : Int) #[.int .i64 0] rfl l.length, fl_iv] at hO
  go_loopw [4] (fun i wr => ∃ k : Nat, k ≤ l.length ∧ i = .int .i64 k ∧ Hid (wr.ownsRow w.heap.size 2 1 (.slice (some ⟨w.heap.size, 0, none⟩) l.length l.length) l.length (vi (l.take k ++ List.replicate (l.length - k) 0))) ∧ Below w.heap.size w wr) (fun i _ => l.length - (intOf i).toNat)
  case atStart => exact ⟨0, Nat.zero_le _, rfl, Lib.hid (by simpa using hO), by go_grown⟩
  case round =>
    clear hO hmk
    obtain ⟨k, hk, rfl, HO, hb⟩ := hrel
    by_cases hlt : k < l.length
    · obtain ⟨g, off, rfl, hg, hC⟩ := (HR.out.below hb).some (by rw [vi_length]; omega)
      have y0 := hC k _ (vi_at l k hlt)
      have hlen : k < (vi (l.take k ++ List.replicate (l.length - k) 0)).length := by simp [vi_length]; omega
      have x0 := HO.out.cellAt k (by omega)
      rw [List.getElem?_eq_getElem hlen] at x0
      have f0 := HO.out.frozenAt k
      have HS := Lib.hid (HO.out.stored k (.int .i64 (l.getD k 0)))
      have HE : Hid ((vi (l.take k ++ List.replicate (l.length - k) 0)).set k (.int .i64 (l.getD k 0)) = vi (l.take (k + 1) ++ List.replicate (l.length - (k + 1)) 0)) := by
        have e : l[k] = l.getD k 0 := by simp [List.getD_eq_getElem?_getD, hlt]
        have hl : (l.take k).length = k := by simp; omega
        rw [Hid, vi_append, List.set_append_right _ _ (by rw [vi_length, hl]; exact Nat.le_refl _), vi_length, hl, Nat.sub_self, show l.length - k = (l.length - (k + 1)) + 1 by omega, List.replicate_succ, List.take_succ_eq_append_getElem hlt, e]
        simp only [vi, List.map_cons, List.set_cons_zero, List.map_append, List.map_nil, List.append_assoc, List.cons_append, List.nil_append]
      generalize (vi (l.take k ++ List.replicate (l.length - k) 0))[k] = y at x0
      clear hC hlen
      generalize l.getD k 0 = x at y0 HS HE
      have hlt2 : (k : Int) < (l.length : Int) := by omega
      go_wp2
      go_roundw
      case rel => exact ⟨k + 1, by omega, by go_num, by rw [← HE.out]; exact HS.out.1, hb.setCell (Nat.le_refl _) _⟩
      case measure => simp [intOf]; omega
    · obtain rfl : k = l.length := by omega
      have HO2 : Hid (OwnN iv wr w.heap.size 2 1 (.slice (some ⟨w.heap.size, 0, none⟩) l.length l.length) l) := by
        have := HO.out
        rw [List.take_length, Nat.sub_self, List.replicate_zero, List.append_nil, ← fl_iv] at this
        exact this
      go_wp2
      go_ret
      exact ⟨_, rfl, HO2.out, hb⟩
theorem eqInt64S_own {B B' : Nat} {v v' : Value} (l : List Int) (w : World) (h : OwnN iv w B 2 1 v l) (h' : OwnN iv w B' 2 1 v' l) (hm : l.length ≤ 1000000000) :
    Calls Try.prog 29 #[v, v'] w fun e w' => e = .returned (.bool true) ∧ Below w.heap.size w w' := by
  obtain ⟨A, c, rfl, _, hr⟩ := h.rd
  obtain ⟨A', c', rfl, _, hr'⟩ := h'.rd
  rw [fl_iv] at hr hr'
  exact eqInt64S_refl A A' c c' l w hr hr' hm
def mki (k0 : Int) (i : Nat) : List Value := [.int .i64 (k0 + (i : Int))]
theorem mki_length (k0 : Int) (i : Nat) : (mki k0 i).length = 1 := rfl
theorem mki_step {k0 : Int} {l : List Int} {k : Nat} (hk : k < l.length) :
    (fl (mki k0) (List.range k) ++ fl iv (l.drop k)).set k (.int .i64 (k0 + (k : Int))) = fl (mki k0) (List.range (k + 1)) ++ fl iv (l.drop (k + 1)) := by
  have hl : (fl (mki k0) (List.range k)).length = k := by rw [fl_length (mki_length k0), List.length_range]; omega
  rw [List.set_append_right _ _ (by omega), hl, Nat.sub_self, List.range_succ, fl_append, fl_one, List.drop_eq_getElem_cons hk, fl_cons]
  simp [iv, mki]
theorem markInt64S_own (B : Nat) (v : Value) (l : List Int) (k0 : Int) (w : World) (h : OwnN iv w B 2 1 v l) (h0 : 0 ≤ k0) (h1 : k0 ≤ 1000000000000) (hm : l.length ≤ 1000000000) :
    Calls Try.prog 32 #[v, .int .i64 k0] w fun e w' => e = .returned (.int .i64 (k0 + 1 * (l.length : Int))) ∧ OwnN (mki k0) w' B 2 1 v (List.range l.length) ∧ ButV v w w' := by
  have HO := Lib.hid h
  obtain ⟨A, c, rfl, hc, _⟩ := own_rdA h
  clear h
  rw [Int.one_mul]
  go_enter Try.func32, Try.ntmps32
  go_wp2
  go_loopw [1, 5] (fun kk i wr => ∃ k : Nat, k ≤ l.length ∧ i = .int .i64 k ∧ kk = .int .i64 (k0 + (k : Int)) ∧ Hid (wr.ownsRow B 2 1 (.slice A l.length c) l.length (fl (mki k0) (List.range k) ++ fl iv (l.drop k))) ∧ Hid (ButV (.slice A l.length c) w wr)) (fun _ i _ => l.length - (intOf i).toNat)
  case atStart => exact ⟨0, Nat.zero_le _, rfl, by simp, Lib.hid (by simpa [fl, OwnN] using HO.out), ButV.refl⟩
  case round =>
    clear HO
    obtain ⟨k, hk, rfl, rfl, HO, hb⟩ := hrel
    by_cases hlt : k < l.length
    · obtain ⟨g, cap, hv⟩ := own_form HO.out (by omega)
      simp only [Value.slice.injEq] at hv
      obtain ⟨rfl, _, rfl⟩ := hv
      have hlen : (fl (mki k0) (List.range k) ++ fl iv (l.drop k)).length = l.length * 1 := HO.out.1
      have x0 := HO.out.cellAt k (by omega)
      rw [List.getElem?_eq_getElem (by omega)] at x0
      have f0 := HO.out.frozenAt k
      have HS := Lib.hid (HO.out.stored k (.int .i64 (k0 + (k : Int)))).1
      rw [mki_step hlt] at HS
      have hlt2 : (k : Int) < (l.length : Int) := by omega
      have q0 : 0 ≤ k0 + (k : Int) := by omega
      generalize (fl (mki k0) (List.range k) ++ fl iv (l.drop k))[k] = y0 at x0
      clear hlen
      go_wp2
      go_roundw
      case rel => exact ⟨k + 1, by omega, by go_num, congrArg (Value.int .i64) (by omega), HS.out, hb.out.trans ButV.set⟩
      case measure => simp [intOf]; omega
    · obtain rfl : k = l.length := by omega
      go_wp2
      go_ret
      exact ⟨rfl, by simpa [fl, OwnN] using HO.out, hb.out⟩
theorem heldInt64S_own (B : Nat) (v : Value) (n : Nat) (k0 : Int) (w : World) (h : OwnN (mki k0) w B 2 1 v (List.range n)) (h0 : 0 ≤ k0) (h1 : k0 ≤ 1000000000000) (hm : n ≤ 1000000000) :
    Calls Try.prog 33 #[v, .int .i64 k0] w fun e w' => e = .returned (.int .i64 (k0 + 1 * (n : Int))) ∧ Below w.heap.size w w' := by
  obtain ⟨A, c, rfl, hc, hr⟩ := h.rd
  rw [List.length_range, Int.one_mul]
  have HR := Lib.hid hr
  clear h hr hc
  go_enter Try.func33, Try.ntmps33
  go_wp2
  go_loopw [1, 5] (fun kk i wr => ∃ k : Nat, k ≤ n ∧ i = .int .i64 k ∧ kk = .int .i64 (k0 + (k : Int)) ∧ Below w.heap.size w wr) (fun _ i _ => n - (intOf i).toNat)
  case atStart => exact ⟨0, Nat.zero_le _, rfl, by simp, Below.refl _ _⟩
  case round =>
    obtain ⟨k, hk, rfl, rfl, hb⟩ := hrel
    by_cases hlt : k < n
    · obtain ⟨g, off, rfl, hg, hC⟩ := HR.out.some (by rw [fl_length (mki_length k0), List.length_range]; omega)
      have hX := (hC.below hb hg).el (mki_length k0) (i := k) (by simpa using hlt)
      rw [show (List.range n)[k]! = k by rw [getB (by simpa using hlt)]; simp, Nat.mul_one] at hX
      have x0 : wr.cell? ⟨g, off + k, none⟩ = some (.int .i64 (k0 + (k : Int))) := hX 0 _ rfl
      have hlt2 : (k : Int) < (n : Int) := by omega
      have q0 : 0 ≤ k0 + (k : Int) := by omega
      clear hC hX
      go_wp2
      go_roundw
      case rel => exact ⟨k + 1, by omega, by go_num, congrArg (Value.int .i64) (by omega), hb⟩
      case measure => simp [intOf]; omega
    · obtain rfl : k = n := by omega
      go_wp2
      go_ret
      exact ⟨rfl, hb⟩
end Go.Proofs.Ytnhpgahapjjjbaa
