/- Contracts of what an order lacks. -/
import Derived.Test.YtnhpgahapjjjbaaOwn
import Derived.Test.YtnhpgahapjjjbaaUse
namespace Go.Proofs.Ytnhpgahapjjjbaa
open Go.RowKit
set_option linter.unusedVariables false
set_option linter.unusedSimpArgs false
set_option maxRecDepth 100000
set_option maxHeartbeats 1000000
attribute [local go_sem] Oper.qB
/-- What is wanted beyond so many. -/
def lack1 (x : Wt) (m : Nat) : List Wt := if h : 0 < x.n - (m : Int) then [⟨x.b, x.n - m, by have := x.hn; omega⟩] else []
def lackL (f : Bt → Nat) (l : List Wt) : List Wt := l.flatMap fun x => lack1 x (f x.b)
theorem lackL_step {f : Bt → Nat} {l : List Wt} {k : Nat} (hk : k < l.length) : lackL f (l.take (k + 1)) = lackL f (l.take k) ++ lack1 l[k]! (f l[k]!.b) := by
  unfold lackL
  rw [List.take_succ_eq_append_getElem hk, getB hk, List.flatMap_append]
  simp
theorem lack1_le (x : Wt) (m : Nat) : (lack1 x m).length ≤ 1 := by
  unfold lack1
  split <;> simp
theorem lackL_le (f : Bt → Nat) : ∀ l : List Wt, (lackL f l).length ≤ l.length
  | [] => by simp [lackL]
  | x :: l => by
    have h := lackL_le f l
    have h1 := lack1_le x (f x.b)
    have e : lackL f (x :: l) = lack1 x (f x.b) ++ lackL f l := by simp [lackL]
    rw [e, List.length_append, List.length_cons]
    omega
theorem lack1_yes {x : Wt} {m : Nat} (h : 0 < x.n - (m : Int)) : lack1 x m = [⟨x.b, x.n - m, by have := x.hn; omega⟩] := dif_pos h
theorem lack1_no {x : Wt} {m : Nat} (h : ¬ 0 < x.n - (m : Int)) : lack1 x m = [] := dif_neg h
theorem lack_any (A0 : Option Addr) (c0 : Nat) (lc : List Cr) (b off c1 : Nat) (l : List Wt) (w : World) (hr : RdA w A0 (fl cc lc)) (hC : CAt w b off (fl wc l)) (hb1 : b < w.heap.size) (hn : lc.length ≤ 1048576) (hl : l.length ≤ 1000000) :
    Calls Try.prog 84 #[.slice A0 lc.length c0, .slice (some ⟨b, off, none⟩) l.length c1] w fun e w' => ∃ v, e = .returned v ∧ OwnS wc w' w.heap.size 100 3 v (lackL (cntL lc) l) ∧ Below w.heap.size w w' := by
  have HC := Lib.hid (⟨hC, hb1⟩ : _ ∧ _)
  have HR := Lib.hid hr
  clear hC hb1 hr
  go_enter Try.func84, Try.ntmps84
  go_wp2
  go_loopw [5, 12] (fun v i wr => ∃ k : Nat, k ≤ l.length ∧ i = .int .i64 k ∧ Hid (OwnS wc wr w.heap.size 100 3 v (lackL (cntL lc) (l.take k))) ∧ Below w.heap.size w wr) (fun _ i _ => l.length - (intOf i).toNat)
  case atStart => exact ⟨0, Nat.zero_le _, rfl, OwnS.lit (Nat.le_refl _), by go_grown⟩
  case round =>
    obtain ⟨k, hk, rfl, HO, hb⟩ := hrel
    by_cases hlt : k < l.length
    · have HX := (HC.out.1.below hb HC.out.2).el wc_length hlt
      have R0 := Lib.hid (HR.out.below hb)
      have HL := Lib.hid (@lackL_step (cntL lc) l k hlt)
      have HP := Lib.hid (lackL_le (cntL lc) (l.take k))
      have hcl : (l.take k).length ≤ k := by simp; omega
      have hlt2 : (k : Int) < (l.length : Int) := by omega
      generalize l[k]! = x at HX HL
      generalize lackL (cntL lc) (l.take k) = lk at HO HL HP
      have hxn := x.hn
      have hxc := cntL_le lc x.b
      have x0 : wr.cell? ⟨b, off + k * 3, none⟩ = some (.int .u8 x.b.k) := HX 0 _ rfl
      have x1 : wr.cell? ⟨b, off + k * 3 + 1, none⟩ = some (.int .i16 x.b.y) := HX 1 _ rfl
      have x2 : wr.cell? ⟨b, off + k * 3 + 2, none⟩ = some (.int .i16 x.n) := HX 2 _ rfl
      go_upto_region 5 with fail
      generalize hW1 : World.alloc _ _ = W1
      have hg : Below wr.heap.size wr W1 := by rw [← hW1]; go_grown
      have r4 : rowOf W1 wr.heap.size = some (wc x).toArray := by rw [← hW1, rowOf_alloc, if_pos rfl]; rfl
      have R1 := R0.out.below hg
      have HO1 := Lib.hid (HO.out.kept hg)
      have hb2 := Lib.hid (bstep hb hg)
      clear hW1 x0 x1 x2 hb hg R0 HX HO
      generalize wr.heap.size = g4 at r4 ⊢
      have z0 := cell_regrown (show W1.cell? ⟨g4, 0, none⟩ = some (.int .u8 x.b.k) from rowOf_cell r4 0)
      have z1 := cell_regrown (show W1.cell? ⟨g4, 1, none⟩ = some (.int .i16 x.b.y) from rowOf_cell r4 1)
      have z2 := cell_regrown (show W1.cell? ⟨g4, 2, none⟩ = some (.int .i16 x.n) from rowOf_cell r4 2)
      have hwx : IntKind.i64.wrap x.n = x.n := by rw [IntKind.wrap_i64]; omega
      have hwm : IntKind.i64.wrap (x.n - (cntL lc x.b : Int)) = x.n - (cntL lc x.b : Int) := by rw [IntKind.wrap_i64]; omega
      have H := Below.refl W1.heap.size W1
      refine g_start 9 rfl (by kernel_rfl) ?_
      (refine g_quiet 0 (by kernel_rfl) rfl (fun K hK => ?_); first | ((first | fail); clear hK K) | (go_simp; first | (refine hK _ ?_; clear hK K) | (apply Exists.intro; refine ⟨fun _ => ?_, hK _ ?_⟩; (first | fail); clear hK K)))
      (refine g_quiet 1 (by kernel_rfl) rfl (fun K hK => ?_); first | ((first | fail); clear hK K) | (go_simp; first | (refine hK _ ?_; clear hK K) | (apply Exists.intro; refine ⟨fun _ => ?_, hK _ ?_⟩; (first | fail); clear hK K)))
      (refine g_quiet 2 (by kernel_rfl) rfl (fun K hK => ?_); first | ((first | fail); clear hK K) | (go_simp; first | (refine hK _ ?_; clear hK K) | (apply Exists.intro; refine ⟨fun _ => ?_, hK _ ?_⟩; (first | fail); clear hK K)))
      (refine g_quiet 3 (by kernel_rfl) rfl (fun K hK => ?_); first | ((first | fail); clear hK K) | (go_simp; first | (refine hK _ ?_; clear hK K) | (apply Exists.intro; refine ⟨fun _ => ?_, hK _ ?_⟩; (first | fail); clear hK K)))
      (refine g_quiet 4 (by kernel_rfl) rfl (fun K hK => ?_); first | ((first | fail); clear hK K) | (go_simp; first | (refine hK _ ?_; clear hK K) | (apply Exists.intro; refine ⟨fun _ => ?_, hK _ ?_⟩; (first | fail); clear hK K)))
      (refine g_quiet 5 (by kernel_rfl) rfl (fun K hK => ?_); first | ((first | fail); clear hK K) | (go_simp; first | (refine hK _ ?_; clear hK K) | (apply Exists.intro; refine ⟨fun _ => ?_, hK _ ?_⟩; (first | fail); clear hK K)))
      refine g_alone 6 (by kernel_rfl) rfl rfl (fun K hK wx hwx hfx => ?_)
      have hfy := hfx
      obtain _ := hfy
      go_simp
      refine plain_call hwx hfx (countOf_rd A0 c0 lc x.b _ (R1.below (by assumption)) hn) (hK _ _ ?_)
      clear hfx hwx hK K
      (refine g_quiet 7 (by kernel_rfl) rfl (fun K hK => ?_); first | ((first | fail); clear hK K) | (go_simp; first | (refine hK _ ?_; clear hK K) | (apply Exists.intro; refine ⟨fun _ => ?_, hK _ ?_⟩; (first | fail); clear hK K)))
      (refine g_quiet 8 (by kernel_rfl) rfl (fun K hK => ?_); first | ((first | fail); clear hK K) | (go_simp; first | (refine hK _ ?_; clear hK K) | (apply Exists.intro; refine ⟨fun _ => ?_, hK _ ?_⟩; (first | fail); clear hK K)))
      refine g_done (by kernel_rfl) ?_
      rintro w2 hw2 -
      have y0 : w2.cell? ⟨g4, 0, none⟩ = some (.int .u8 x.b.k) := rowOf_cell (row_kept r4 hw2) 0
      have y1 : w2.cell? ⟨g4, 1, none⟩ = some (.int .i16 x.b.y) := rowOf_cell (row_kept r4 hw2) 1
      have HB := Lib.hid (bstep hb2.out hw2)
      have HO2 := Lib.hid (HO1.out.kept hw2)
      clear z0 z1 z2 R1 H
      by_cases hp : 0 < x.n - (cntL lc x.b : Int)
      · have HY := Lib.hid (lack1_yes hp)
        have hwn : IntKind.i16.wrap (x.n - (cntL lc x.b : Int)) = x.n - (cntL lc x.b : Int) := wrap_i16 (by omega)
        go_wp2_with (at_builtin; refine wp_app_want w.heap.size rfl _ _ rfl _ lk ⟨x.b, x.n - (cntL lc x.b : Int), by omega⟩ rfl _ rfl ?hg ?HO ?hB ?hn ?_; (case hg => simp); (case HO => exact HO2.out); (case hB => exact HB.out.size); (case hn => have := HP.out; omega); intro v1 w1 hown hb1)
        go_roundw
        case rel => exact ⟨k + 1, by omega, by go_num, by rw [HL.out, HY.out]; exact hown, HB.out.trans hb1⟩
        case measure => simp [intOf]; omega
      · have HY := Lib.hid (lack1_no hp)
        go_wp2
        go_roundw
        case rel => exact ⟨k + 1, by omega, by go_num, by rw [HL.out, HY.out, List.append_nil]; exact HO2.out, HB.out⟩
        case measure => simp [intOf]; omega
    · obtain rfl : k = l.length := by omega
      rw [List.take_length] at HO
      go_wp2
      go_ret
      exact ⟨_, rfl, HO.out, hb⟩
end Go.Proofs.Ytnhpgahapjjjbaa
