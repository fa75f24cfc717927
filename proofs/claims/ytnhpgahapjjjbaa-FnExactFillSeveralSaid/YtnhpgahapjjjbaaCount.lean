/- Contracts of CountOf: how many bottles of crates are alike one. -/
import Derived.Test.YtnhpgahapjjjbaaStack
namespace Go.Proofs.Ytnhpgahapjjjbaa
open Go.RowKit
set_option linter.unusedVariables false
set_option linter.unusedSimpArgs false
set_option maxRecDepth 100000
set_option maxHeartbeats 1000000
/-- How many among the first k places; in a crate; in crates. -/
def cntK (c : Cr) (b : Bt) (k : Nat) : Nat := (c.toList.take k).countP fun x => x.like b
def cntC (c : Cr) (b : Bt) : Nat := cntK c b 12
def cntL (l : List Cr) (b : Bt) : Nat := (l.map fun c => cntC c b).sum
def countR (l : List Cr) (b : Bt) : Int × Int := if (stackOk l && b.ok) = true then ((cntL l b : Int), 0) else (0, 1)
theorem cntK_le (c : Cr) (b : Bt) (k : Nat) : cntK c b k ≤ 12 := by
  refine Nat.le_trans List.countP_le_length ?_
  rw [List.length_take, Vector.length_toList]
  omega
theorem cntL_le : ∀ (l : List Cr) (b : Bt), cntL l b ≤ l.length * 12
  | [], _ => Nat.le_refl _
  | c :: l, b => by
    have h1 := cntK_le c b 12
    have h2 := cntL_le l b
    have e : cntL (c :: l) b = cntK c b 12 + cntL l b := by simp [cntL, cntC]
    rw [e, List.length_cons, Nat.add_mul]
    omega
theorem cntK_yes {c : Cr} {b : Bt} {k : Nat} (hk : k < 12) (h : (rB c.toList k).like b = true) : cntK c b (k + 1) = cntK c b k + 1 := by
  have hl : k < c.toList.length := by rw [Vector.length_toList]; exact hk
  unfold cntK
  rw [List.take_succ_eq_append_getElem hl, List.countP_append, ← rB_lt hl]
  simp [h]
theorem cntK_no {c : Cr} {b : Bt} {k : Nat} (hk : k < 12) (h : (rB c.toList k).like b = false) : cntK c b (k + 1) = cntK c b k := by
  have hl : k < c.toList.length := by rw [Vector.length_toList]; exact hk
  unfold cntK
  rw [List.take_succ_eq_append_getElem hl, List.countP_append, ← rB_lt hl]
  simp [h]
theorem cntL_step {l : List Cr} {b : Bt} {k : Nat} (hk : k < l.length) : cntL (l.take (k + 1)) b = cntL (l.take k) b + cntC l[k]! b := by
  unfold cntL
  rw [List.take_succ_eq_append_getElem hk, getB hk, List.map_append, List.sum_append]
  simp
attribute [local go_sem high] eqB
theorem countOf_rd (A0 : Option Addr) (c0 : Nat) (l : List Cr) (b : Bt) (w : World) (hr : RdA w A0 (fl cc l)) (hn : l.length ≤ 1048576) :
    Calls Try.prog 126 #[.slice A0 l.length c0, bv b] w fun e w' => e = .returned (.int .i64 (cntL l b)) ∧ Below w.heap.size w w' := by
  have hu := Try.underlying26
  have HR := Lib.hid hr
  clear hr
  go_enter Try.func126, Try.ntmps126
  go_upto_region 1 with fail
  generalize hW : World.alloc _ _ = W
  have H0 : Below w.heap.size w W := by rw [← hW]; go_grown
  have r0 : rowOf W (w.heap.size) = some (#[.int .u8 b.k, .int .i16 b.y]) := (by (try rw [← hW]); simp only [rowOf_alloc, World.size_alloc, ↓reduceIte]; all_goals ((repeat' split) <;> first | omega | (exfalso; omega) | rfl))
  clear hW
  have l0 : w.heap.size ≤ w.heap.size := Nat.le_refl _
  generalize h0 : w.heap.size = g0 at r0 ⊢
  replace l0 : w.heap.size ≤ g0 := Nat.le_of_eq h0
  clear h0
  have b0 := rowOf_lt r0
  have H := Below.refl W.heap.size W
  clear H
  go_wp2
  go_loopw [5, 12] (fun n i wr => ∃ k : Nat, k ≤ l.length ∧ i = .int .i64 k ∧ n = .int .i64 (cntL (l.take k) b) ∧ Below w.heap.size w wr ∧ Hid (Below W.heap.size W wr)) (fun _ i _ => l.length - (intOf i).toNat)
  case atStart => exact ⟨0, Nat.zero_le _, rfl, by simp [cntL], H0, Below.refl _ _⟩
  case round =>
    obtain ⟨k, hk, rfl, rfl, hb, HW⟩ := hrel
    by_cases hlt : k < l.length
    · obtain ⟨gl, off, rfl, hg, hC⟩ := HR.out.some (by rw [fl_length cc_length]; omega)
      have HX := Lib.hid ((hC.below hb hg).el cc_length hlt)
      replace hg := Lib.hid hg
      replace hC := Lib.hid hC
      have HL := Lib.hid (@cntL_step l b k hlt)
      have hcn := cntL_le (l.take k) b
      have hcl : (l.take k).length ≤ k := by simp; omega
      have hlt2 : (k : Int) < (l.length : Int) := by omega
      generalize l[k]! = c at HX HL
      generalize cntL (l.take k) b = n at HL hcn ⊢
      have hn2 : n ≤ 12582912 := by omega
      go_upto_region 5 with (first | (with_reducible refine wp_load_CAt rfl _ _ rfl _ _ rfl (cc c) HX.out _ Try.underlying28 rfl (infoCl c) ?_) | ((with_reducible refine wp_store_rowOf rfl rfl _ _ _ rfl _ rfl (cc c).toArray rfl (cc zC).toArray ?hr (cc_size2 _ _) (infoC _) (cc_one _) ?_); (case hr => rw [rowOf_alloc, if_pos rfl]; rfl)))
      generalize hW1 : World.setRow _ _ _ = W1
      obtain ⟨HB, r1, b1⟩ := laid_row (Below.refl wr.heap.size wr) hW1
      clear hW1
      have hb1 := bstep hb HB
      have HW1 := Lib.hid (bstep HW.out HB)
      generalize wr.heap.size = g1 at r1 ⊢
      clear HX HB HW hb
      have H := Below.refl W1.heap.size W1
      go_wp2_with ((with_reducible refine wp_load_rowBg H ?_ _ _ rfl _ rfl _ r1 _ Try.underlying28 rfl (infoC c) ?_); rfl)
      clear H
      go_loopw [5, 17] (fun n' i wr' => ∃ j : Nat, j ≤ 12 ∧ i = .int .i64 j ∧ n' = .int .i64 ((n : Int) + (cntK c b j : Int)) ∧ Below w.heap.size w wr' ∧ Hid (Below W.heap.size W wr')) (fun _ i _ => 12 - (intOf i).toNat)
      case atStart => exact ⟨0, Nat.zero_le _, rfl, by simp [cntK], hb1, HW1⟩
      case round =>
        obtain ⟨j, hj, rfl, rfl, hb2, HW2⟩ := hrel
        by_cases hlt : j < 12
        · have hE := run_indexC c j hlt
          have HY := Lib.hid (@cntK_yes c b j hlt)
          have HN := Lib.hid (@cntK_no c b j hlt)
          have hcj := cntK_le c b j
          have R0 := row_kept r0 HW2.out
          have hg := rowOf_lt R0
          have y0 : wr.cell? ⟨g0, 0, none⟩ = some (.int .u8 b.k) := rowOf_cell R0 0
          have y1 : wr.cell? ⟨g0, 1, none⟩ = some (.int .i16 b.y) := rowOf_cell R0 1
          generalize rB c.toList j = x at hE HY HN
          generalize cntK c b j = m at HY HN hcj ⊢
          cases e1 : x.like b with
          | true =>
            have e2 : (x.k == b.k && x.y == b.y) = true := e1
            have HY' := Lib.hid (HY.out e1)
            clear e1 HN HY
            go_wp2
            go_roundw
            case rel => exact ⟨j + 1, by omega, by go_num, by rw [HY'.out]; exact congrArg (Value.int .i64) (by omega), bstep hb2 (by go_grown), bstep HW2.out (by go_grown)⟩
            case measure => simp [intOf]; omega
          | false =>
            have e2 : (x.k == b.k && x.y == b.y) = false := e1
            have HN' := Lib.hid (HN.out e1)
            clear e1 HN HY
            go_wp2
            go_roundw
            case rel => exact ⟨j + 1, by omega, by go_num, by rw [HN'.out], bstep hb2 (by go_grown), bstep HW2.out (by go_grown)⟩
            case measure => simp [intOf]; omega
        · obtain rfl : j = 12 := by omega
          go_wp2
          go_roundw
          case rel => exact ⟨k + 1, by omega, by go_num, by rw [HL.out]; exact congrArg (Value.int .i64) (by simp [cntC]), hb2, HW2.out⟩
          case measure => simp [intOf]; omega
    · obtain rfl : k = l.length := by omega
      rw [List.take_length]
      go_wp2
      go_ret
      exact ⟨rfl, hb⟩
theorem countOf_any (gl off c0 : Nat) (l : List Cr) (b : Bt) (w : World) (hC : CAt w gl off (fl cc l)) (hb0 : gl < w.heap.size) (hn : l.length ≤ 1048576) :
    Calls Try.prog 126 #[.slice (some ⟨gl, off, none⟩) l.length c0, bv b] w fun e w' => e = .returned (.int .i64 (cntL l b)) ∧ Below w.heap.size w w' :=
  countOf_rd _ c0 l b w (.inr ⟨gl, off, rfl, hb0, hC⟩) hn
end Go.Proofs.Ytnhpgahapjjjbaa
