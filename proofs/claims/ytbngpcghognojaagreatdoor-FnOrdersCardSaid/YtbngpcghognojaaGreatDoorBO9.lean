/- Texts of the claim, joined (9 of 22): Use, Lack, Open, Short, Cases. -/
import Derived.Test.YtbngpcghognojaaGreatDoorBO1
import Derived.Test.YtbngpcghognojaaGreatDoorBO3
import Derived.Test.YtbngpcghognojaaGreatDoorBO5
import Derived.Test.YtbngpcghognojaaGreatDoorBO6
import Derived.Test.YtbngpcghognojaaGreatDoorBO8
namespace Go.Proofs.YtbngpcghognojaaGreatDoor
open Go.RowKit
set_option linter.unusedVariables false
set_option linter.unusedSimpArgs false
set_option maxRecDepth 100000
set_option maxHeartbeats 1000000
def use1 (c : Cr) (x : Wt) : Int := min x.n (cntC c x.b)
def useW (c : Cr) (l : List Wt) : Int := (l.map (use1 c)).sum
theorem useW_step {c : Cr} {l : List Wt} {k : Nat} (hk : k < l.length) : useW c (l.take (k + 1)) = useW c (l.take k) + use1 c l[k]! := by
  unfold useW
  rw [List.take_succ_eq_append_getElem hk, getB hk, List.map_append, List.sum_append]
  simp
theorem cntC_le (c : Cr) (b : Bt) : cntC c b ≤ 12 := cntK_le c b 12
theorem useW_le (c : Cr) : ∀ l : List Wt, -(32768 * (l.length : Int)) ≤ useW c l ∧ useW c l ≤ 32768 * (l.length : Int)
  | [] => by simp [useW]
  | x :: l => by
    have h := useW_le c l
    have hx := x.hn
    have hc := cntC_le c x.b
    have e : useW c (x :: l) = use1 c x + useW c l := by simp [useW]
    rw [e, List.length_cons]
    unfold use1
    omega
def usefulR (c : Cr) (l : List Wt) : Int × Int := if (c.ok && ordOk l) = true then (useW c l, 0) else (0, 1)
section
variable {P : Program} {ops : Array Oper} {W : World}
/-- A step that yields a value and lays something new that is known. -/
theorem found_val {P : Program} {W w w' : World} {γ : Fact} {u : Value} {k : Value → Fact → Prop} {Φ : World → Prop} (hΦ : ∀ w w', Φ w → BelowOf w w' → Φ w') (H : Below W.heap.size W w) (hγ : γ.p w) (hb : Below w.heap.size w w') (hv : Φ w')
    (h : k u (γ.and Φ hΦ)) : gUpon (CF W) P k (.ok (.value u) w') := ⟨γ.and Φ hΦ, ⟨bstep H hb, γ.s _ _ hγ hb, hv⟩, h⟩
end
attribute [local go_sem high] eqB
theorem l02Has_any (gl off : Nat) (c : Cr) (b : Bt) (w : World) (hC : CAt w gl off (cc c)) (hb0 : gl < w.heap.size) :
    Calls Tryz.prog 111 #[.pointer (some ⟨gl, off, none⟩), bv b] w fun e w' => e = .returned (.int .i64 (cntC c b)) ∧ Below w.heap.size w w' := by
  have hu := Tryz.underlying26
  go_enter Tryz.func111, Tryz.ntmps111
  go_upto_region 1 with fail
  generalize hW : World.alloc _ _ = W
  have H0 : Below w.heap.size w W := by rw [← hW]; go_grown
  have r0 : rowOf W (w.heap.size) = some (#[.int .u8 b.k, .int .i16 b.y]) := (by (try rw [← hW]); simp only [rowOf_alloc, World.size_alloc, ↓reduceIte]; all_goals ((repeat' split) <;> first | omega | (exfalso; omega) | rfl))
  clear hW
  have l0 : w.heap.size ≤ w.heap.size := Nat.le_refl _
  generalize h0 : w.heap.size = g0 at r0 ⊢
  replace l0 : w.heap.size ≤ g0 := Nat.le_of_eq h0
  clear h0
  have b0 := rowOf_lt r0
  have H := Below.refl W.heap.size W
  have HC := Lib.hid (⟨hC.below H0 hb0, Nat.lt_of_lt_of_le hb0 H0.size⟩ : CAt W gl off (cc c) ∧ gl < W.heap.size)
  clear hC hb0
  go_wp2
  go_loopw [5, 6] (fun n i wr => ∃ j : Nat, j ≤ 12 ∧ i = .int .i64 j ∧ n = .int .i64 (cntK c b j) ∧ Hid (Below W.heap.size W wr)) (fun _ i _ => 12 - (intOf i).toNat)
  case atStart => exact ⟨0, Nat.zero_le _, rfl, by simp [cntK], H⟩
  case round =>
    clear H
    obtain ⟨j, hj, rfl, rfl, HW⟩ := hrel
    by_cases hlt : j < 12
    · have hjl : j < c.toList.length := by rw [Vector.length_toList]; exact hlt
      have HY := Lib.hid (@cntK_yes c b j hlt)
      have HN := Lib.hid (@cntK_no c b j hlt)
      have hcj := cntK_le c b j
      have R0 := row_kept r0 HW.out
      have y0 : wr.cell? ⟨g0, 0, none⟩ = some (.int .u8 b.k) := rowOf_cell R0 0
      have y1 : wr.cell? ⟨g0, 1, none⟩ = some (.int .i16 b.y) := rowOf_cell R0 1
      have x0 : wr.cell? ⟨gl, off + j * 2, none⟩ = some (.int .u8 (rB c.toList j).k) := (HC.out.1.below HW.out HC.out.2).bot0 hjl
      have x1 : wr.cell? ⟨gl, off + j * 2 + 1, none⟩ = some (.int .i16 (rB c.toList j).y) := (HC.out.1.below HW.out HC.out.2).bot1 hjl
      have hj2 : (j : Int) < 12 := by omega
      clear hjl R0
      generalize rB c.toList j = x at x0 x1 HY HN
      generalize cntK c b j = m at HY HN hcj ⊢
      go_upto_region 5 with fail
      cases e1 : x.like b with
      | true =>
        have e2 : (x.k == b.k && x.y == b.y) = true := e1
        have HY' := Lib.hid (HY.out e1)
        clear e1 HN HY
        go_quiet (fail)
        have hq := bdrewN (Below.refl wr.heap.size wr) nq
        generalize wr.drewN nq = wq at hq ⊢
        go_wp2
        go_roundw
        case rel => exact ⟨j + 1, by omega, by go_num, by rw [HY'.out]; exact congrArg (Value.int .i64) (by omega), bstep HW.out hq⟩
        case measure => simp [intOf]; omega
      | false =>
        have e2 : (x.k == b.k && x.y == b.y) = false := e1
        have HN' := Lib.hid (HN.out e1)
        clear e1 HN HY
        go_quiet (fail)
        have hq := bdrewN (Below.refl wr.heap.size wr) nq
        generalize wr.drewN nq = wq at hq ⊢
        go_wp2
        go_roundw
        case rel => exact ⟨j + 1, by omega, by go_num, by rw [HN'.out], bstep HW.out hq⟩
        case measure => simp [intOf]; omega
    · obtain rfl : j = 12 := by omega
      go_wp2
      go_ret
      exact ⟨rfl, bstep H0 HW.out⟩
theorem l00Min_any (a b : Int) (w : World) : Calls Tryz.prog 102 #[.int .i64 a, .int .i64 b] w fun e w' => e = .returned (.int .i64 (min a b)) ∧ w = w' := by
  rcases (by omega : a < b ∨ b ≤ a) with h | h
  · have HF := Lib.hid (show min a b = a by omega)
    go_enter Tryz.func102, Tryz.ntmps102
    go_wp2
    go_ret
    exact ⟨by rw [HF.out]; rfl, rfl⟩
  · have HF := Lib.hid (show min a b = b by omega)
    have h2 : ¬ a < b := by omega
    go_enter Tryz.func102, Tryz.ntmps102
    go_wp2
    go_ret
    exact ⟨by rw [HF.out]; rfl, rfl⟩
end Go.Proofs.YtbngpcghognojaaGreatDoor
namespace Go.Proofs.YtbngpcghognojaaGreatDoor
open Go.RowKit
set_option linter.unusedVariables false
set_option linter.unusedSimpArgs false
set_option maxRecDepth 100000
set_option maxHeartbeats 1000000
attribute [local go_sem] Oper.qB
/-- What is wanted beyond so many. -/
def lack1 (x : Wt) (m : Nat) : List Wt := if h : 0 < x.n - (m : Int) then [⟨x.b, x.n - m, by have := x.hn; omega⟩] else []
def lackL (f : Bt → Nat) (l : List Wt) : List Wt := l.flatMap fun x => lack1 x (f x.b)
theorem lackL_step {f : Bt → Nat} {l : List Wt} {k : Nat} (hk : k < l.length) : lackL f (l.take (k + 1)) = lackL f (l.take k) ++ lack1 l[k]! (f l[k]!.b) := by
  unfold lackL
  rw [List.take_succ_eq_append_getElem hk, getB hk, List.flatMap_append]
  simp
theorem lack1_le (x : Wt) (m : Nat) : (lack1 x m).length ≤ 1 := by
  unfold lack1
  split <;> simp
theorem lackL_le (f : Bt → Nat) : ∀ l : List Wt, (lackL f l).length ≤ l.length
  | [] => by simp [lackL]
  | x :: l => by
    have h := lackL_le f l
    have h1 := lack1_le x (f x.b)
    have e : lackL f (x :: l) = lack1 x (f x.b) ++ lackL f l := by simp [lackL]
    rw [e, List.length_append, List.length_cons]
    omega
theorem lack1_yes {x : Wt} {m : Nat} (h : 0 < x.n - (m : Int)) : lack1 x m = [⟨x.b, x.n - m, by have := x.hn; omega⟩] := dif_pos h
theorem lack1_no {x : Wt} {m : Nat} (h : ¬ 0 < x.n - (m : Int)) : lack1 x m = [] := dif_neg h
theorem lack_any (A0 : Option Addr) (c0 : Nat) (lc : List Cr) (b off c1 : Nat) (l : List Wt) (w : World) (hr : RdA w A0 (fl cc lc)) (hC : CAt w b off (fl wc l)) (hb1 : b < w.heap.size) (hn : lc.length ≤ 1048576) (hl : l.length ≤ 1000000) :
    Calls Tryz.prog 104 #[.slice A0 lc.length c0, .slice (some ⟨b, off, none⟩) l.length c1] w fun e w' => ∃ v, e = .returned v ∧ OwnS wc w' w.heap.size 81 3 v (lackL (cntL lc) l) ∧ Below w.heap.size w w' := by
  have HC := Lib.hid (⟨hC, hb1⟩ : _ ∧ _)
  have HR := Lib.hid hr
  clear hC hb1 hr
  go_enter Tryz.func104, Tryz.ntmps104
  go_wp2
  go_loopw [5, 12] (fun v i wr => ∃ k : Nat, k ≤ l.length ∧ i = .int .i64 k ∧ Hid (OwnS wc wr w.heap.size 81 3 v (lackL (cntL lc) (l.take k))) ∧ Below w.heap.size w wr) (fun _ i _ => l.length - (intOf i).toNat)
  case atStart => exact ⟨0, Nat.zero_le _, rfl, OwnS.lit (Nat.le_refl _), by go_grown⟩
  case round =>
    obtain ⟨k, hk, rfl, HO, hb⟩ := hrel
    by_cases hlt : k < l.length
    · have HX := (HC.out.1.below hb HC.out.2).el wc_length hlt
      have R0 := Lib.hid (HR.out.below hb)
      have HL := Lib.hid (@lackL_step (cntL lc) l k hlt)
      have HP := Lib.hid (lackL_le (cntL lc) (l.take k))
      have hcl : (l.take k).length ≤ k := by simp; omega
      have hlt2 : (k : Int) < (l.length : Int) := by omega
      generalize l[k]! = x at HX HL
      generalize lackL (cntL lc) (l.take k) = lk at HO HL HP
      have hxn := x.hn
      have hxc := cntL_le lc x.b
      have x0 : wr.cell? ⟨b, off + k * 3, none⟩ = some (.int .u8 x.b.k) := HX 0 _ rfl
      have x1 : wr.cell? ⟨b, off + k * 3 + 1, none⟩ = some (.int .i16 x.b.y) := HX 1 _ rfl
      have x2 : wr.cell? ⟨b, off + k * 3 + 2, none⟩ = some (.int .i16 x.n) := HX 2 _ rfl
      go_upto_region 5 with fail
      generalize hW1 : World.alloc _ _ = W1
      have hg : Below wr.heap.size wr W1 := by rw [← hW1]; go_grown
      have r4 : rowOf W1 wr.heap.size = some (wc x).toArray := by rw [← hW1, rowOf_alloc, if_pos rfl]; rfl
      have R1 := R0.out.below hg
      have HO1 := Lib.hid (HO.out.kept hg)
      have hb2 := Lib.hid (bstep hb hg)
      clear hW1 x0 x1 x2 hb hg R0 HX HO
      generalize wr.heap.size = g4 at r4 ⊢
      have z0 := cell_regrown (show W1.cell? ⟨g4, 0, none⟩ = some (.int .u8 x.b.k) from rowOf_cell r4 0)
      have z1 := cell_regrown (show W1.cell? ⟨g4, 1, none⟩ = some (.int .i16 x.b.y) from rowOf_cell r4 1)
      have z2 := cell_regrown (show W1.cell? ⟨g4, 2, none⟩ = some (.int .i16 x.n) from rowOf_cell r4 2)
      have hwx : IntKind.i64.wrap x.n = x.n := by rw [IntKind.wrap_i64]; omega
      have hwm : IntKind.i64.wrap (x.n - (cntL lc x.b : Int)) = x.n - (cntL lc x.b : Int) := by rw [IntKind.wrap_i64]; omega
      have H := Below.refl W1.heap.size W1
      refine g_start 9 rfl (by kernel_rfl) ?_
      (refine g_quiet 0 (by kernel_rfl) rfl (fun K hK => ?_); first | ((first | fail); clear hK K) | (go_simp; first | (refine hK _ ?_; clear hK K) | (apply Exists.intro; refine ⟨fun _ => ?_, hK _ ?_⟩; (first | fail); clear hK K)))
      (refine g_quiet 1 (by kernel_rfl) rfl (fun K hK => ?_); first | ((first | fail); clear hK K) | (go_simp; first | (refine hK _ ?_; clear hK K) | (apply Exists.intro; refine ⟨fun _ => ?_, hK _ ?_⟩; (first | fail); clear hK K)))
      (refine g_quiet 2 (by kernel_rfl) rfl (fun K hK => ?_); first | ((first | fail); clear hK K) | (go_simp; first | (refine hK _ ?_; clear hK K) | (apply Exists.intro; refine ⟨fun _ => ?_, hK _ ?_⟩; (first | fail); clear hK K)))
      (refine g_quiet 3 (by kernel_rfl) rfl (fun K hK => ?_); first | ((first | fail); clear hK K) | (go_simp; first | (refine hK _ ?_; clear hK K) | (apply Exists.intro; refine ⟨fun _ => ?_, hK _ ?_⟩; (first | fail); clear hK K)))
      (refine g_quiet 4 (by kernel_rfl) rfl (fun K hK => ?_); first | ((first | fail); clear hK K) | (go_simp; first | (refine hK _ ?_; clear hK K) | (apply Exists.intro; refine ⟨fun _ => ?_, hK _ ?_⟩; (first | fail); clear hK K)))
      (refine g_quiet 5 (by kernel_rfl) rfl (fun K hK => ?_); first | ((first | fail); clear hK K) | (go_simp; first | (refine hK _ ?_; clear hK K) | (apply Exists.intro; refine ⟨fun _ => ?_, hK _ ?_⟩; (first | fail); clear hK K)))
      refine g_alone 6 (by kernel_rfl) rfl rfl (fun K hK wx hwx hfx => ?_)
      have hfy := hfx
      obtain _ := hfy
      go_simp
      refine plain_call hwx hfx (countOf_rd A0 c0 lc x.b _ (R1.below (by assumption)) hn) (hK _ _ ?_)
      clear hfx hwx hK K
      (refine g_quiet 7 (by kernel_rfl) rfl (fun K hK => ?_); first | ((first | fail); clear hK K) | (go_simp; first | (refine hK _ ?_; clear hK K) | (apply Exists.intro; refine ⟨fun _ => ?_, hK _ ?_⟩; (first | fail); clear hK K)))
      (refine g_quiet 8 (by kernel_rfl) rfl (fun K hK => ?_); first | ((first | fail); clear hK K) | (go_simp; first | (refine hK _ ?_; clear hK K) | (apply Exists.intro; refine ⟨fun _ => ?_, hK _ ?_⟩; (first | fail); clear hK K)))
      refine g_done (by kernel_rfl) ?_
      rintro w2 hw2 -
      have y0 : w2.cell? ⟨g4, 0, none⟩ = some (.int .u8 x.b.k) := rowOf_cell (row_kept r4 hw2) 0
      have y1 : w2.cell? ⟨g4, 1, none⟩ = some (.int .i16 x.b.y) := rowOf_cell (row_kept r4 hw2) 1
      have HB := Lib.hid (bstep hb2.out hw2)
      have HO2 := Lib.hid (HO1.out.kept hw2)
      clear z0 z1 z2 R1 H
      by_cases hp : 0 < x.n - (cntL lc x.b : Int)
      · have HY := Lib.hid (lack1_yes hp)
        have hwn : IntKind.i16.wrap (x.n - (cntL lc x.b : Int)) = x.n - (cntL lc x.b : Int) := wrap_i16 (by omega)
        go_wp2_with (at_builtin; refine wp_app_want w.heap.size rfl _ _ rfl _ lk ⟨x.b, x.n - (cntL lc x.b : Int), by omega⟩ rfl _ rfl ?hg ?HO ?hB ?hn ?_; (case hg => simp); (case HO => exact HO2.out); (case hB => exact HB.out.size); (case hn => have := HP.out; omega); intro v1 w1 hown hb1)
        go_roundw
        case rel => exact ⟨k + 1, by omega, by go_num, by rw [HL.out, HY.out]; exact hown, HB.out.trans hb1⟩
        case measure => simp [intOf]; omega
      · have HY := Lib.hid (lack1_no hp)
        go_wp2
        go_roundw
        case rel => exact ⟨k + 1, by omega, by go_num, by rw [HL.out, HY.out, List.append_nil]; exact HO2.out, HB.out⟩
        case measure => simp [intOf]; omega
    · obtain rfl : k = l.length := by omega
      rw [List.take_length] at HO
      go_wp2
      go_ret
      exact ⟨_, rfl, HO.out, hb⟩
end Go.Proofs.YtbngpcghognojaaGreatDoor
namespace Go.Proofs.YtbngpcghognojaaGreatDoor
open Go.RowKit
set_option linter.unusedVariables false
set_option linter.unusedSimpArgs false
set_option maxRecDepth 100000
set_option maxHeartbeats 1000000
attribute [local go_sem] Oper.qB
/-- Number i is told there for the first time. -/
def fresh (ks : List Int) (i : Nat) : Bool := !(ks.take i).contains (ks.getD i 0)
def opK (lc : List Cr) (ks : List Int) (j : Nat) : List Cr := ((List.range j).filter (fresh ks)).map fun i => lc[(ks.getD i 0).toNat]!
/-- Some crates, each once. -/
def opL (lc : List Cr) (ks : List Int) : List Cr := opK lc ks ks.length
theorem opK_yes {lc : List Cr} {ks : List Int} {j : Nat} (h : fresh ks j = true) : opK lc ks (j + 1) = opK lc ks j ++ [lc[(ks.getD j 0).toNat]!] := by
  unfold opK
  rw [List.range_succ, List.filter_append, List.map_append]
  simp [h]
theorem opK_no {lc : List Cr} {ks : List Int} {j : Nat} (h : fresh ks j = false) : opK lc ks (j + 1) = opK lc ks j := by
  unfold opK
  rw [List.range_succ, List.filter_append, List.map_append]
  simp [h]
theorem opK_le (lc : List Cr) (ks : List Int) (j : Nat) : (opK lc ks j).length ≤ j := by
  unfold opK
  rw [List.length_map]
  exact Nat.le_trans (List.length_filter_le _ _) (by simp)
theorem cntL_snoc (l : List Cr) (c : Cr) (b : Bt) : cntL (l ++ [c]) b = cntL l b + cntC c b := by simp [cntL]
theorem RdA.take {w : World} {A : Option Addr} {vs : List Value} (h : RdA w A vs) (k : Nat) : RdA w A (vs.take k) := by
  rcases h with rfl | ⟨g, off, rfl, hg, hC⟩
  · exact .inl (by simp)
  · exact .inr ⟨g, off, rfl, hg, hC.take k⟩
theorem vi_take (l : List Int) (k : Nat) : vi (l.take k) = (vi l).take k := by simp [vi, List.map_take]
theorem has_step {l : List Int} {k : Nat} {x : Int} (hk : k < l.length) (h : (l.take k).contains x = false) : (l.take (k + 1)).contains x = (l.getD k 0 == x) := by
  have e : l[k] = l.getD k 0 := by simp [List.getD_eq_getElem?_getD, hk]
  rw [List.take_succ_eq_append_getElem hk, e]
  simp only [List.contains_eq_mem, List.mem_append, List.mem_singleton, decide_eq_false_iff_not] at h ⊢
  rw [Bool.eq_iff_iff, decide_eq_true_iff, beq_iff_eq]
  exact ⟨fun q => (q.resolve_left h).symm, fun q => .inr q.symm⟩
theorem has_hit {l : List Int} {k : Nat} (hk : k < l.length) : l.contains (l.getD k 0) = true := by
  have e : l[k] = l.getD k 0 := by simp [List.getD_eq_getElem?_getD, hk]
  rw [← e]
  simp
theorem l00Has_rd (A : Option Addr) (c n : Nat) (l : List Int) (x : Int) (w : World) (h : RdA w A (vi l)) (hn : l.length = n) (hm : n ≤ 1000000000) :
    Calls Tryz.prog 83 #[.slice A n c, .int .i64 x] w fun e w' => e = .returned (.bool (l.contains x)) ∧ w = w' := by
  subst hn
  have HR := Lib.hid h
  clear h
  go_enter Tryz.func83, Tryz.ntmps83
  go_wp2
  go_loopw [5] (fun i wr => ∃ k : Nat, k ≤ l.length ∧ i = .int .i64 k ∧ Hid ((l.take k).contains x = false) ∧ wr = w) (fun i _ => l.length - (intOf i).toNat)
  case atStart => exact ⟨0, Nat.zero_le _, rfl, rfl, rfl⟩
  case round =>
    obtain ⟨k, hk, rfl, HN, rfl⟩ := hrel
    by_cases hlt : k < l.length
    · obtain ⟨g, off, rfl, hg, hC⟩ := HR.out.some (by rw [vi_length]; omega)
      have x0 := hC k _ (vi_at l k hlt)
      have HS := Lib.hid (has_step hlt HN.out)
      have HT := Lib.hid (has_hit hlt)
      clear hC HN
      generalize l.getD k 0 = y at x0 HS HT
      by_cases he : y = x
      · subst he
        have HT2 := Lib.hid HT.out
        go_wp2
        go_ret
        exact ⟨ret_bool HT2.out.symm, rfl⟩
      · have HS2 : Hid ((l.take (k + 1)).contains x = false) := by
          rw [Hid, HS.out]
          simpa using he
        go_wp2
        go_roundw
        case rel => exact ⟨k + 1, by omega, by go_num, HS2, trivial⟩
        case measure => simp [intOf]; omega
    · obtain rfl : k = l.length := by omega
      rw [List.take_length] at HN
      go_wp2
      go_ret
      exact ⟨ret_bool HN.out.symm, rfl⟩
theorem l02Lack_any (A0 : Option Addr) (c0 : Nat) (lc : List Cr) (b off c1 : Nat) (l : List Wt) (A2 : Option Addr) (c2 : Nat) (ks : List Int) (w : World) (hr : RdA w A0 (fl cc lc)) (hC : CAt w b off (fl wc l)) (hb1 : b < w.heap.size) (h2 : RdA w A2 (vi ks))
    (hk : ∀ x ∈ ks, 0 ≤ x ∧ x < lc.length) (hc2 : ks.length ≤ c2) (hn : lc.length ≤ 1048576) (hl : l.length ≤ 1000000) (hkn : ks.length ≤ 1048576) :
    Calls Tryz.prog 106 #[.slice A0 lc.length c0, .slice (some ⟨b, off, none⟩) l.length c1, .slice A2 ks.length c2] w fun e w' => ∃ v, e = .returned v ∧ OwnS wc w' w.heap.size 81 3 v (lackL (cntL (opL lc ks)) l) ∧ Below w.heap.size w w' := by
  have HC := Lib.hid (⟨hC, hb1⟩ : _ ∧ _)
  have HR := Lib.hid hr
  have H2 := Lib.hid h2
  have HK := Lib.hid hk
  clear hC hb1 hr h2 hk
  go_enter Tryz.func106, Tryz.ntmps106
  go_wp2
  go_loopw [7, 8] (fun v i wr => ∃ k : Nat, k ≤ l.length ∧ i = .int .i64 k ∧ Hid (OwnS wc wr w.heap.size 81 3 v (lackL (cntL (opL lc ks)) (l.take k))) ∧ Below w.heap.size w wr) (fun _ i _ => l.length - (intOf i).toNat)
  case atStart => exact ⟨0, Nat.zero_le _, rfl, OwnS.lit (Nat.le_refl _), by go_grown⟩
  case round =>
    obtain ⟨k, hk, rfl, HO, hb⟩ := hrel
    obtain ⟨wo, hwo⟩ : ∃ wo, wo = wr := ⟨_, rfl⟩
    subst hwo
    by_cases hlt : k < l.length
    · have HX := Lib.hid ((HC.out.1.below hb HC.out.2).el wc_length hlt)
      have HW := Lib.hid (Nat.lt_of_lt_of_le HC.out.2 hb.size)
      have R0 := Lib.hid (HR.out.below hb)
      have R2 := Lib.hid (H2.out.below hb)
      have HL := Lib.hid (@lackL_step (cntL (opL lc ks)) l k hlt)
      have HP := Lib.hid (lackL_le (cntL (opL lc ks)) (l.take k))
      have hcl : (l.take k).length ≤ k := by simp; omega
      have hlt2 : (k : Int) < (l.length : Int) := by omega
      generalize l[k]! = x at HX HL
      generalize lackL (cntL (opL lc ks)) (l.take k) = lk at HO HL HP
      obtain ⟨hn1, hn2⟩ := x.hn
      have x2 : wo.cell? ⟨b, off + k * 3 + 2, none⟩ = some (.int .i16 x.n) := HX.out 2 _ rfl
      have hwx : IntKind.i64.wrap x.n = x.n := by rw [IntKind.wrap_i64]; omega
      go_wp2
      go_loopw [9, 10] (fun n i wr => ∃ j : Nat, j ≤ ks.length ∧ i = .int .i64 j ∧ n = .int .i64 (x.n - (cntL (opK lc ks j) x.b : Int)) ∧ Hid (Below wo.heap.size wo wr)) (fun _ i _ => ks.length - (intOf i).toNat)
      case atStart => exact ⟨0, Nat.zero_le _, rfl, by simp [opK, cntL], Below.refl _ _⟩
      case round =>
        obtain ⟨j, hj, rfl, rfl, HQ⟩ := hrel
        by_cases hltj : j < ks.length
        · obtain ⟨g2, off2, rfl, hg2, hC2⟩ := R2.out.some (by rw [vi_length]; omega)
          obtain ⟨hy1, hy2⟩ := HK.out (ks.getD j 0) (by rw [List.getD_eq_getElem?_getD, List.getElem?_eq_getElem hltj]; exact List.getElem_mem hltj)
          obtain ⟨g0, off0, rfl, hg0, hC0⟩ := R0.out.some (by rw [fl_length cc_length]; omega)
          have HY := Lib.hid (@opK_yes lc ks j)
          have HN := Lib.hid (@opK_no lc ks j)
          have HF : Hid (fresh ks j = !(ks.take j).contains (ks.getD j 0)) := rfl
          have hle := opK_le lc ks j
          have hcn := cntL_le (opK lc ks j) x.b
          have Y0 := Lib.hid ((HQ.out.cell hg2).trans (hC2 j _ (vi_at ks j hltj)))
          have G2 := Lib.hid (Nat.lt_of_lt_of_le hg2 HQ.out.size)
          have HG2 : Hid (RdA wr (some ⟨g2, off2, none⟩) (vi (ks.take j))) := by rw [vi_take]; exact (R2.out.below HQ.out).take j
          have HCX := Lib.hid ((hC0.below HQ.out hg0).el cc_length (i := (ks.getD j 0).toNat) (by omega))
          have hg0' := Lib.hid (Nat.lt_of_lt_of_le hg0 HQ.out.size)
          have ZX := Lib.hid (HX.out.below HQ.out HW.out)
          have ZW := Lib.hid (Nat.lt_of_lt_of_le HW.out HQ.out.size)
          clear hC2 hC0 hg2 hg0 R0 R2
          have hlj : (ks.take j).length = j := by simp; omega
          generalize ks.getD j 0 = y at Y0 HF HY HN HCX hy1 hy2
          obtain ⟨i, rfl⟩ : ∃ i : Nat, y = (i : Int) := ⟨y.toNat, by omega⟩
          rw [Int.toNat_natCast] at HY HCX
          have hi2 : i < lc.length := by omega
          generalize lc[i]! = c at HY HCX
          have hcc := cntC_le c x.b
          have hsn := Lib.hid (cntL_snoc (opK lc ks j) c x.b)
          generalize hm : cntL (opK lc ks j) x.b = m at hcn hsn ⊢
          replace hm := Lib.hid hm
          have hHas := fun (W : World) (h : Below wr.heap.size wr W) => below_of_same (l00Has_rd (some ⟨g2, off2, none⟩) c2 j (ks.take j) (i : Int) W (HG2.out.below h) hlj (by omega))
          generalize (ks.take j).contains (i : Int) = r at hHas HF
          have hj2 : (j : Int) < (ks.length : Int) := by omega
          have hmb : m ≤ 12582912 := by omega
          have hw0 : IntKind.i64.wrap (x.n - (m : Int)) = x.n - (m : Int) := by rw [IntKind.wrap_i64]; omega
          have hw1 : IntKind.i64.wrap (x.n - (m : Int) - (cntC c x.b : Int)) = x.n - (m : Int) - (cntC c x.b : Int) := by rw [IntKind.wrap_i64]; omega
          have hjc : j ≤ c2 := by omega
          have hjc2 : (j : Int) ≤ (c2 : Int) := by omega
          have y0 := cell_regrown Y0.out
          go_upto_region 9 with fail
          have H := Below.refl wr.heap.size wr
          cases r with
          | true =>
            have HE := Lib.hid (HN.out HF.out)
            refine wp_region_qB (by kernel_rfl) (by kernel_rfl) ?_
            (repeat (first | fail | (apply qB_step; intro K hK; go_simp; first | (refine hK _ ?_; clear hK K) | (apply Exists.intro; refine ⟨fun _ => ?_, hK _ ?_⟩; (first | (go_at_call 83 <;> exact hHas _ (below_regrown _ _ _))); clear hK K))))
            refine qB_nil ?_
            intro w1 hw1
            replace H := bstep H hw1
            clear hw1
            go_wp2
            go_roundw
            case rel => exact ⟨j + 1, by omega, by go_num, by rw [HE.out, hm.out], bstep HQ.out H⟩
            case measure => simp [intOf]; omega
          | false =>
            have HE := Lib.hid (HY.out HF.out)
            refine wp_region_qB (by kernel_rfl) (by kernel_rfl) ?_
            (repeat (first | fail | (apply qB_step; intro K hK; go_simp; first | (refine hK _ ?_; clear hK K) | (apply Exists.intro; refine ⟨fun _ => ?_, hK _ ?_⟩; (first | (go_at_call 83 <;> exact hHas _ (below_regrown _ _ _))); clear hK K))))
            refine qB_nil ?_
            intro w1 hw1
            replace H := bstep H hw1
            clear hw1
            clear y0 hHas
            have y0 := cell_regrown ((H.cell G2.out).trans Y0.out)
            have z0 := cell_regrown ((H.cell ZW.out).trans (ZX.out 0 _ rfl))
            have z1 := cell_regrown ((H.cell ZW.out).trans (ZX.out 1 _ rfl))
            rw [Nat.add_zero] at z0
            have HC1 := Lib.hid (⟨HCX.out.below H hg0'.out, Nat.lt_of_lt_of_le hg0'.out H.size⟩ : CAt w1 g0 _ (cc c) ∧ g0 < w1.heap.size)
            go_upto_region 10 with fail
            have HH := Lib.hid H
            clear H
            have H := Below.refl w1.heap.size w1
            refine wp_region_qB (by kernel_rfl) (by kernel_rfl) ?_
            (repeat (first | fail | (apply qB_step; intro K hK; go_simp; first | (refine hK _ ?_; clear hK K) | (apply Exists.intro; refine ⟨fun _ => ?_, hK _ ?_⟩; (first | (go_at_call 111 <;> exact l02Has_any g0 _ c x.b _ (HC1.out.1.below (below_regrown _ _ _) HC1.out.2) (Nat.lt_of_lt_of_le HC1.out.2 (below_regrown _ _ _).size))); clear hK K))))
            refine qB_nil ?_
            intro w1 hw1
            replace H := bstep H hw1
            clear hw1
            go_wp2
            go_roundw
            case rel => exact ⟨j + 1, by omega, by go_num, by rw [HE.out, hsn.out]; exact congrArg (Value.int .i64) (by omega), bstep (bstep HQ.out HH.out) H⟩
            case measure => simp [intOf]; omega
        · obtain rfl : j = ks.length := by omega
          have HO1 := Lib.hid (HO.out.kept HQ.out)
          have hb1 := bstep hb HQ.out
          have HD : Hid (cntL (opL lc ks) x.b = cntL (opK lc ks ks.length) x.b) := rfl
          have hle := opK_le lc ks ks.length
          have hcn := cntL_le (opK lc ks ks.length) x.b
          have x0 : wr.cell? ⟨b, off + k * 3, none⟩ = some (.int .u8 x.b.k) := (HQ.out.cell HW.out).trans (HX.out 0 _ rfl)
          have x1 : wr.cell? ⟨b, off + k * 3 + 1, none⟩ = some (.int .i16 x.b.y) := (HQ.out.cell HW.out).trans (HX.out 1 _ rfl)
          have hp2 := HP.out
          clear x2
          rw [HD.out] at HL
          generalize cntL (opK lc ks ks.length) x.b = m at hcn HL ⊢
          have hmb : m ≤ 12582912 := by omega
          have hw0 : IntKind.i64.wrap (x.n - (m : Int)) = x.n - (m : Int) := by rw [IntKind.wrap_i64]; omega
          by_cases hp : 0 < x.n - (m : Int)
          · have HY := Lib.hid (lack1_yes hp)
            have hwn : IntKind.i16.wrap (x.n - (m : Int)) = x.n - (m : Int) := wrap_i16 (by omega)
            go_wp2_with (at_builtin; refine wp_app_want w.heap.size rfl _ _ rfl _ lk ⟨x.b, x.n - (m : Int), by omega⟩ rfl _ rfl ?hg ?HO ?hB ?hn ?_; (case hg => simp); (case HO => exact HO1.out); (case hB => exact hb1.size); (case hn => omega); intro v1 w1 hown hb2)
            go_roundw
            case rel => exact ⟨k + 1, by omega, by go_num, by rw [HL.out, HY.out]; exact hown, hb1.trans hb2⟩
            case measure => simp [intOf]; omega
          · have HY := Lib.hid (lack1_no hp)
            go_wp2
            go_roundw
            case rel => exact ⟨k + 1, by omega, by go_num, by rw [HL.out, HY.out, List.append_nil]; exact HO1.out, hb1⟩
            case measure => simp [intOf]; omega
    · obtain rfl : k = l.length := by omega
      rw [List.take_length] at HO
      go_wp2
      go_ret
      exact ⟨_, rfl, HO.out, hb⟩
end Go.Proofs.YtbngpcghognojaaGreatDoor
namespace Go.Proofs.YtbngpcghognojaaGreatDoor
open Go.RowKit
set_option linter.unusedVariables false
set_option linter.unusedSimpArgs false
set_option maxRecDepth 100000
set_option maxHeartbeats 1000000
attribute [local go_sem] Oper.qB
/-- All numbers of crates. -/
def everyL (n : Nat) : List Int := (List.range n).map Int.ofNat
theorem everyL_length (n : Nat) : (everyL n).length = n := by simp [everyL]
theorem everyL_succ (n : Nat) : everyL (n + 1) = everyL n ++ [(n : Int)] := by simp [everyL, List.range_succ]
theorem everyL_at {n i : Nat} (h : i < n) : (everyL n).getD i 0 = (i : Int) := by simp [everyL, List.getD_eq_getElem?_getD, h]
theorem everyL_take {n i : Nat} (h : i ≤ n) : (everyL n).take i = everyL i := by simp [everyL, ← List.map_take, List.take_range, Nat.min_eq_left h]
theorem everyL_in {n : Nat} {x : Int} (h : x ∈ everyL n) : 0 ≤ x ∧ x < n := by
  simp only [everyL, List.mem_map, List.mem_range] at h
  obtain ⟨i, hi, rfl⟩ := h
  exact ⟨Int.natCast_nonneg i, by show (i : Int) < n; omega⟩
theorem opK_every (lc : List Cr) : ∀ j, j ≤ lc.length → opK lc (everyL lc.length) j = lc.take j
  | 0, _ => by simp [opK]
  | j + 1, h => by
    have hf : fresh (everyL lc.length) j = true := by
      unfold fresh
      rw [everyL_at (by omega), everyL_take (by omega), Bool.not_eq_true', ← Bool.not_eq_true, List.contains_eq_mem, decide_eq_true_iff]
      intro hm
      have := (everyL_in hm).2
      omega
    rw [opK_yes hf, opK_every lc j (by omega), everyL_at (by omega), Int.toNat_natCast, List.take_succ_eq_append_getElem (by omega), getB (by omega)]
theorem opL_every (lc : List Cr) : opL lc (everyL lc.length) = lc := by
  unfold opL
  rw [everyL_length, opK_every lc _ (Nat.le_refl _), List.take_length]
def askOk (lc : List Cr) (l : List Wt) : Bool := stackOk lc && ordOk l
theorem ask_le {lc : List Cr} {l : List Wt} (h : askOk lc l = true) : lc.length ≤ 12 ∧ l.length ≤ 8 := by
  simp [askOk, stackOk, ordOk] at h
  omega
def askI (lc : List Cr) (l : List Wt) : Int := if askOk lc l = true then 0 else 1
def shortR (lc : List Cr) (l : List Wt) : List Wt × Int := if askOk lc l = true then (lackL (cntL lc) l, 0) else ([], 1)
def canR (lc : List Cr) (l : List Wt) : Bool × Int := if askOk lc l = true then ((lackL (cntL lc) l).isEmpty, 0) else (false, 1)
theorem shortR_le (lc : List Cr) (l : List Wt) : (shortR lc l).1.length ≤ 8 := by
  unfold shortR
  split
  · rename_i h
    have := lackL_le (cntL lc) l
    have := ask_le h
    show (lackL (cntL lc) l).length ≤ 8
    omega
  · simp
theorem OwnS.n {α : Type} {f : α → List Value} {w : World} {B e size : Nat} {v : Value} {l : List α} (h : OwnS f w B e size v l) : OwnN f w B e size v l := h.1
theorem OwnN.nil {α : Type} {f : α → List Value} {w : World} {B e size : Nat} : OwnN f w B e size (.slice none 0 0) ([] : List α) := own_nil
theorem len_none (n : Nat) {α : Type} (l : List α) (h : l.length = n) : ((n : Int) == 0) = l.isEmpty := by
  subst h
  cases l with
  | nil => rfl
  | cons x l =>
    simp only [List.isEmpty_cons, beq_eq_false_iff_ne, List.length_cons]
    omega
theorem l02Every_any (A0 : Option Addr) (n c0 : Nat) (w : World) (hn : n ≤ 1048576) :
    Calls Tryz.prog 107 #[.slice A0 n c0] w fun e w' => ∃ v, e = .returned v ∧ OwnS iv w' w.heap.size 2 1 v (everyL n) ∧ Below w.heap.size w w' := by
  go_enter Tryz.func107, Tryz.ntmps107
  go_wp2
  go_loopw [3, 4] (fun v i wr => ∃ k : Nat, k ≤ n ∧ i = .int .i64 k ∧ Hid (OwnS iv wr w.heap.size 2 1 v (everyL k)) ∧ Below w.heap.size w wr) (fun _ i _ => n - (intOf i).toNat)
  case atStart => exact ⟨0, Nat.zero_le _, rfl, OwnS.lit (Nat.le_refl _), by go_grown⟩
  case round =>
    obtain ⟨k, hk, rfl, HO, hb⟩ := hrel
    by_cases hlt : k < n
    · have hlt2 : (k : Int) < (n : Int) := by omega
      have HL := Lib.hid (everyL_length k)
      have HE := Lib.hid (everyL_succ k)
      go_wp2_with (at_builtin; refine wp_app_num w.heap.size rfl _ _ rfl _ (everyL k) (k : Int) rfl _ rfl ?hg ?HO ?hB ?hn ?_; (case hg => simp); (case HO => exact HO.out); (case hB => exact hb.size); (case hn => rw [HL.out]; omega); intro v1 w1 hown hb2)
      go_roundw
      case rel => exact ⟨k + 1, by omega, by go_num, by rw [HE.out]; exact hown, hb.trans hb2⟩
      case measure => simp [intOf]; omega
    · obtain rfl : k = n := by omega
      go_wp2
      go_ret
      exact ⟨_, rfl, HO.out, hb⟩
theorem l02Asked_any (g0 c0 : Nat) (lc : List Cr) (b off c1 : Nat) (l : List Wt) (w : World) (K0 : Lies cc w g0 lc) (hC : CAt w b off (fl wc l)) (hb1 : b < w.heap.size) (hn : lc.length ≤ 1048576) (hl : l.length ≤ 1048576) :
    Calls Tryz.prog 105 #[.slice (some ⟨g0, 0, none⟩) lc.length c0, .slice (some ⟨b, off, none⟩) l.length c1] w fun e w' => e = .returned (.int .i64 (askI lc l)) ∧ Below w.heap.size w w' := by
  have HC := Lib.hid (⟨hC, hb1⟩ : _ ∧ _)
  have H := Below.refl w.heap.size w
  clear hC hb1
  replace K0 := Lib.hid K0
  cases e1 : stackOk lc with
  | false =>
    have HF := Lib.hid (show askI lc l = 1 by simp [askI, askOk, e1])
    go_enter Tryz.func105, Tryz.ntmps105
    go_wp2_with (go_at_call 140; with_reducible refine (l01Stack_any g0 0 c0 lc _ (K0.out.below H).c (K0.out.below H).lt (by omega)).mono ?_; rintro e w' ⟨rfl, hb⟩; replace H := bstep H hb; clear hb; have hc := bcell H)
    go_ret
    exact ⟨ret_int HF.out.symm, H⟩
  | true =>
    cases e2 : ordOk l with
    | false =>
      have HF := Lib.hid (show askI lc l = 1 by simp [askI, askOk, e1, e2])
      go_enter Tryz.func105, Tryz.ntmps105
      go_wp2_with (first | (go_at_call 140; with_reducible refine (l01Stack_any g0 0 c0 lc _ (K0.out.below H).c (K0.out.below H).lt (by omega)).mono ?_; rintro e w' ⟨rfl, hb⟩; replace H := bstep H hb; clear hb; have hc := bcell H) | (go_at_call 99; with_reducible refine (l02Ok_any b off c1 l _ (HC.out.1.below H HC.out.2) (Nat.lt_of_lt_of_le HC.out.2 H.size) (by omega)).mono ?_; rintro e w' ⟨rfl, hb⟩; replace H := bstep H hb; clear hb; have hc := bcell H))
      go_ret
      exact ⟨ret_int HF.out.symm, H⟩
    | true =>
      have HF := Lib.hid (show askI lc l = 0 by simp [askI, askOk, e1, e2])
      go_enter Tryz.func105, Tryz.ntmps105
      go_wp2_with (first | (go_at_call 140; with_reducible refine (l01Stack_any g0 0 c0 lc _ (K0.out.below H).c (K0.out.below H).lt (by omega)).mono ?_; rintro e w' ⟨rfl, hb⟩; replace H := bstep H hb; clear hb; have hc := bcell H) | (go_at_call 99; with_reducible refine (l02Ok_any b off c1 l _ (HC.out.1.below H HC.out.2) (Nat.lt_of_lt_of_le HC.out.2 H.size) (by omega)).mono ?_; rintro e w' ⟨rfl, hb⟩; replace H := bstep H hb; clear hb; have hc := bcell H))
      go_ret
      exact ⟨ret_int HF.out.symm, H⟩
/-- What is lacking behind all crates. -/
theorem l02LackAll_any (g0 c0 : Nat) (lc : List Cr) (b off c1 : Nat) (l : List Wt) (v : Value) (B : Nat) (w : World) (K0 : Lies cc w g0 lc) (hC : CAt w b off (fl wc l)) (hb1 : b < w.heap.size) (O : OwnS iv w B 2 1 v (everyL lc.length)) (hn : lc.length ≤ 1048576) (hl : l.length ≤ 1000000) :
    Calls Tryz.prog 106 #[.slice (some ⟨g0, 0, none⟩) lc.length c0, .slice (some ⟨b, off, none⟩) l.length c1, v] w fun e w' => ∃ v, e = .returned v ∧ OwnS wc w' w.heap.size 81 3 v (lackL (cntL lc) l) ∧ Below w.heap.size w w' := by
  obtain ⟨g, cap, rfl, L, _, _, hc⟩ := O.lies
  have := l02Lack_any (some ⟨g0, 0, none⟩) c0 lc b off c1 l (some ⟨g, 0, none⟩) cap (everyL lc.length) w K0.rd hC hb1 (by rw [← fl_iv]; exact L.rd) (fun x hx => everyL_in hx) hc hn hl (by rw [everyL_length]; exact hn)
  rwa [opL_every] at this
theorem sShortIn_any (g0 c0 : Nat) (lc : List Cr) (g1 c1 : Nat) (l : List Wt) (w : World) (K0 : Lies cc w g0 lc) (K1 : Lies wc w g1 l) (hn : lc.length ≤ 1048576) (hl : l.length ≤ 1048576) :
    Calls Tryz.prog 46 #[.slice (some ⟨g0, 0, none⟩) lc.length c0, .slice (some ⟨g1, 0, none⟩) l.length c1] w fun e w' => ∃ v, e = .returned (.tuple #[v, .int .i64 (shortR lc l).2]) ∧ OwnN wc w' w.heap.size 81 3 v (shortR lc l).1 ∧ Below w.heap.size w w' := by
  have H := Below.refl w.heap.size w
  replace K0 := Lib.hid K0
  replace K1 := Lib.hid K1
  cases e1 : askOk lc l with
  | false =>
    have HF := Lib.hid (show shortR lc l = ([], 1) by simp [shortR, e1])
    have HA := Lib.hid (show askI lc l = 1 by simp [askI, e1])
    go_enter Tryz.func46, Tryz.ntmps46
    go_wp2_with (go_at_call 105; with_reducible refine (l02Asked_any g0 c0 lc g1 0 c1 l _ (K0.out.below H) (K1.out.below H).c (K1.out.below H).lt hn hl).mono ?_; rintro e w' ⟨rfl, hb⟩; rw [HA.out]; replace H := bstep H hb; clear hb)
    rw [HF.out]
    exact bodyPost_ret (results_tt rfl) rfl ⟨_, rfl, (OwnS.lit (f := wc) H.size).n, H.alloc H.size _⟩
  | true =>
    have h8 := ask_le e1
    have HF := Lib.hid (show shortR lc l = (lackL (cntL lc) l, 0) by simp [shortR, e1])
    have HA := Lib.hid (show askI lc l = 0 by simp [askI, e1])
    go_enter Tryz.func46, Tryz.ntmps46
    go_wp2_with (first | (go_at_call 105; with_reducible refine (l02Asked_any g0 c0 lc g1 0 c1 l _ (K0.out.below H) (K1.out.below H).c (K1.out.below H).lt hn hl).mono ?_; rintro e w' ⟨rfl, hb⟩; rw [HA.out]; replace H := bstep H hb; clear hb) | (go_at_call 107; with_reducible refine (l02Every_any _ lc.length c0 _ hn).mono ?_; rintro e w2 ⟨v2, rfl, O2, hb⟩; replace H := bstep H hb; clear hb) | (go_at_call 106; with_reducible refine (l02LackAll_any g0 c0 lc g1 0 c1 l v2 _ _ (K0.out.below H) (K1.out.below H).c (K1.out.below H).lt O2 hn (by omega)).mono ?_; rintro e w3 ⟨v3, rfl, O3, hb⟩; replace O3 := O3.down H.size; replace H := bstep H hb; clear hb))
    rw [HF.out]
    exact bodyPost_ret (results_tt rfl) rfl ⟨_, rfl, O3.n, H⟩
theorem ShortIn_any (g0 c0 : Nat) (lc : List Cr) (g1 c1 : Nat) (l : List Wt) (w : World) (K0 : Lies cc w g0 lc) (K1 : Lies wc w g1 l) (hn : lc.length ≤ 1048576) (hl : l.length ≤ 1048576) :
    Calls Tryz.prog 45 #[.slice (some ⟨g0, 0, none⟩) lc.length c0, .slice (some ⟨g1, 0, none⟩) l.length c1] w fun e w' => ∃ v, e = .returned (.tuple #[v, .int .i64 (shortR lc l).2]) ∧ OwnN wc w' w.heap.size 81 3 v (shortR lc l).1 ∧ Below w.heap.size w w' := by
  have H := Below.refl w.heap.size w
  replace K0 := Lib.hid K0
  replace K1 := Lib.hid K1
  cases e1 : stackOk lc with
  | false =>
    have HF := Lib.hid (show shortR lc l = ([], 1) by simp [shortR, askOk, e1])
    go_enter Tryz.func45, Tryz.ntmps45
    go_wp2_with (go_at_call 103; with_reducible refine (ValidStack_any g0 0 c0 lc _ (K0.out.below H).c (K0.out.below H).lt (by omega)).mono ?_; rintro e w' ⟨rfl, hb⟩; replace H := bstep H hb; clear hb; have hc := bcell H)
    rw [HF.out]
    exact bodyPost_ret (results_tt rfl) rfl ⟨_, rfl, OwnN.nil, H⟩
  | true =>
    cases e2 : ordOk l with
    | false =>
      have HF := Lib.hid (show shortR lc l = ([], 1) by simp [shortR, askOk, e1, e2])
      go_enter Tryz.func45, Tryz.ntmps45
      go_wp2_with (first | (go_at_call 103; with_reducible refine (ValidStack_any g0 0 c0 lc _ (K0.out.below H).c (K0.out.below H).lt (by omega)).mono ?_; rintro e w' ⟨rfl, hb⟩; replace H := bstep H hb; clear hb; have hc := bcell H) | (go_at_call 50; with_reducible refine (ValidOrder_any g1 0 c1 l _ (K1.out.below H).c (K1.out.below H).lt (by omega)).mono ?_; rintro e w' ⟨rfl, hb⟩; replace H := bstep H hb; clear hb; have hc := bcell H))
      rw [HF.out]
      exact bodyPost_ret (results_tt rfl) rfl ⟨_, rfl, OwnN.nil, H⟩
    | true =>
      have ea : askOk lc l = true := by simp [askOk, e1, e2]
      have h8 := ask_le ea
      have HF := Lib.hid (show shortR lc l = (lackL (cntL lc) l, 0) by simp [shortR, ea])
      replace ea := Lib.hid ea
      go_enter Tryz.func45, Tryz.ntmps45
      go_wp2_with (first | (go_at_call 103; with_reducible refine (ValidStack_any g0 0 c0 lc _ (K0.out.below H).c (K0.out.below H).lt (by omega)).mono ?_; rintro e w' ⟨rfl, hb⟩; replace H := bstep H hb; clear hb; have hc := bcell H) | (go_at_call 50; with_reducible refine (ValidOrder_any g1 0 c1 l _ (K1.out.below H).c (K1.out.below H).lt (by omega)).mono ?_; rintro e w' ⟨rfl, hb⟩; replace H := bstep H hb; clear hb; have hc := bcell H) | (go_at_call 104; with_reducible refine (lack_any _ c0 lc g1 0 c1 l _ (K0.out.below H).rd (K1.out.below H).c (K1.out.below H).lt hn (by omega)).mono ?_; rintro e w3 ⟨v3, rfl, O3, hb⟩; replace O3 := O3.down H.size; replace H := bstep H hb; clear hb))
      rw [HF.out]
      exact bodyPost_ret (results_tt rfl) rfl ⟨_, rfl, O3.n, H⟩
theorem CanFill_any (g0 c0 : Nat) (lc : List Cr) (g1 c1 : Nat) (l : List Wt) (w : World) (K0 : Lies cc w g0 lc) (K1 : Lies wc w g1 l) (hn : lc.length ≤ 1048576) (hl : l.length ≤ 1048576) :
    Calls Tryz.prog 47 #[.slice (some ⟨g0, 0, none⟩) lc.length c0, .slice (some ⟨g1, 0, none⟩) l.length c1] w fun e w' => e = .returned (.tuple #[.bool (canR lc l).1, .int .i64 (canR lc l).2]) ∧ Below w.heap.size w w' := by
  have H := Below.refl w.heap.size w
  replace K0 := Lib.hid K0
  replace K1 := Lib.hid K1
  cases e1 : stackOk lc with
  | false =>
    have HF := Lib.hid (show canR lc l = (false, 1) by simp [canR, askOk, e1])
    go_enter Tryz.func47, Tryz.ntmps47
    go_wp2_with (go_at_call 103; with_reducible refine (ValidStack_any g0 0 c0 lc _ (K0.out.below H).c (K0.out.below H).lt (by omega)).mono ?_; rintro e w' ⟨rfl, hb⟩; replace H := bstep H hb; clear hb; have hc := bcell H)
    rw [HF.out]
    exact bodyPost_ret (results_tt rfl) rfl ⟨rfl, H⟩
  | true =>
    cases e2 : ordOk l with
    | false =>
      have HF := Lib.hid (show canR lc l = (false, 1) by simp [canR, askOk, e1, e2])
      go_enter Tryz.func47, Tryz.ntmps47
      go_wp2_with (first | (go_at_call 103; with_reducible refine (ValidStack_any g0 0 c0 lc _ (K0.out.below H).c (K0.out.below H).lt (by omega)).mono ?_; rintro e w' ⟨rfl, hb⟩; replace H := bstep H hb; clear hb; have hc := bcell H) | (go_at_call 50; with_reducible refine (ValidOrder_any g1 0 c1 l _ (K1.out.below H).c (K1.out.below H).lt (by omega)).mono ?_; rintro e w' ⟨rfl, hb⟩; replace H := bstep H hb; clear hb; have hc := bcell H))
      rw [HF.out]
      exact bodyPost_ret (results_tt rfl) rfl ⟨rfl, H⟩
    | true =>
      have ea : askOk lc l = true := by simp [askOk, e1, e2]
      have h8 := ask_le ea
      have HF := Lib.hid (show canR lc l = ((lackL (cntL lc) l).isEmpty, 0) by simp [canR, ea])
      have HL := Lib.hid (len_none _ (lackL (cntL lc) l) rfl)
      have HLE := lackL_le (cntL lc) l
      replace ea := Lib.hid ea
      go_enter Tryz.func47, Tryz.ntmps47
      go_wp2_with (first | (go_at_call 103; with_reducible refine (ValidStack_any g0 0 c0 lc _ (K0.out.below H).c (K0.out.below H).lt (by omega)).mono ?_; rintro e w' ⟨rfl, hb⟩; replace H := bstep H hb; clear hb; have hc := bcell H) | (go_at_call 50; with_reducible refine (ValidOrder_any g1 0 c1 l _ (K1.out.below H).c (K1.out.below H).lt (by omega)).mono ?_; rintro e w' ⟨rfl, hb⟩; replace H := bstep H hb; clear hb; have hc := bcell H) | (go_at_call 104; with_reducible refine (lack_any _ c0 lc g1 0 c1 l _ (K0.out.below H).rd (K1.out.below H).c (K1.out.below H).lt hn (by omega)).mono ?_; rintro e w3 ⟨v3, rfl, O3, hb⟩; obtain ⟨g3, p3, rfl, -⟩ := O3.lies; replace H := bstep H hb; clear hb O3))
      rw [HF.out]
      exact bodyPost_ret (results_tt rfl) rfl ⟨congrArg (fun b => Ending.returned (.tuple #[.bool b, .int .i64 0])) HL.out, H⟩
end Go.Proofs.YtbngpcghognojaaGreatDoor
namespace Go.Proofs.YtbngpcghognojaaGreatDoor
open Go.RowKit
set_option linter.unusedVariables false
set_option linter.unusedSimpArgs false
set_option maxRecDepth 100000
set_option maxHeartbeats 1000000
attribute [local go_sem] Oper.qB
section
variable {α : Type} {f : α → List Value} {P : Program} {ops : Array Oper} {rest : List Oper} {o : Oper} {a : Act} {Q : Exit → Act → World → Prop} {W : World}
/-- append(v, ys...) -/
theorem wp_app_el (B : Nat) (hgd : o.guard = none) (s x : Operand) (t e : TypeId) (ho : o.op = .call { callee := .builtin .append, args := #[s, x], argTypes := #[t, t] })
    (z : Value) (size bytes : Nat) (ht : P.underlying t = some (.slice e)) (hinfo : (P.info? e).map (fun i => (i.zero, i.size, i.bytes)) = some (some z, size, bytes)) (hzs : z.cells.size = size) (hsz : 0 < size)
    (hf : ∀ x, (f x).length = size) (h1 : ∀ x, ∀ u ∈ f x, u.oneCell' = true)
    (v : Value) (l : List α) (hs : a.eval s = v) (g mc : Nat) (ys : List α) (hx : a.eval x = .slice (some ⟨g, 0, none⟩) ys.length mc)
    (HO : OwnS f W B e size v l) (HY : Lies f W g ys) (hB : B ≤ W.heap.size) (hn : l.length + ys.length ≤ 100000000) (hby : bytes ≤ 1000)
    (h : ∀ v1 w1, OwnS f w1 B e size v1 (l ++ ys) → Below B W w1 ∧ ButV v W w1 → wpList P ops Q rest (a.put o.dst v1) w1) : wpList P ops Q (o :: rest) a W := by
  obtain ⟨i0, hi, hzz⟩ := Option.map_eq_some_iff.1 hinfo
  simp only [Prod.mk.injEq] at hzz
  obtain ⟨hz0, hz1, hz2⟩ := hzz
  refine wpList_append_own W hgd s x t ho B e i0 z size bytes ht hi hz0 hz1 hz2 hzs hsz v l.length (fl f l) hs HO.1 ⟨g, 0, none⟩ ys.length mc (fl f ys) hx (fl_length hf ys) (fun j u hj => ?_) (fl_ones h1 ys) (by simp only [maxLen]; omega) ?_ hB ?_
  · rw [addr_at]
    have := HY.c j u hj
    rwa [Nat.zero_add] at this
  · calc (l.length + ys.length) * bytes ≤ 100000000 * 1000 := Nat.mul_le_mul hn hby
      _ ≤ 140737488355328 := by decide
  intro v1 w1 hown hg hnil
  have hb : Below B W w1 := (Below.refl B W).grown hg hB (fun k hk => own_base HO.1 k hk)
  have hO1 : w1.ownsRow B e size v1 (l ++ ys).length (fl f (l ++ ys)) := by rw [List.length_append, fl_append]; exact hown
  refine h v1 w1 ⟨hO1, ?_⟩ ⟨hb, ⟨hb.os, hb.tape, hb.output, hb.size, fun k hk => absurd hk (Nat.not_lt_zero _)⟩, fun b hb1 hv => hg.block b hb1 (fun e => hv e.symm)⟩
  rcases hO1.2 with ⟨h0, _⟩ | ⟨g', cap', cur, hv, _⟩
  · obtain ⟨_, g0, cap0, rfl⟩ := HO
    have := (hnil.1 h0).1
    cases this
  · exact ⟨g', cap', hv⟩
end
def casesR (l : List Wt) : List Cr × Int := if ordOk l = true then (packL (botsL l), 0) else ([], 1)
theorem casesR_le (l : List Wt) : (casesR l).1.length ≤ 30000 := by
  unfold casesR
  split
  · rename_i h
    have h8 : l.length ≤ 8 := by simp [ordOk] at h; exact h.2
    have := botsL_le l
    show (packK _ _).length ≤ 30000
    rw [packK_length]
    omega
  · simp
theorem ok_nonneg {l : List Wt} (h : ordOk l = true) : ∀ x ∈ l, 0 ≤ x.n := fun x hx => by
  have h1 : okK l l.length := by simp [ordOk] at h; exact h.1
  obtain ⟨i, hi, rfl⟩ := List.getElem_of_mem hx
  have := (h1 i hi).1
  rw [getB hi] at this
  simp [Wt.ok] at this
  omega
theorem casesFor_any (b off c1 : Nat) (l : List Wt) (w : World) (hC : CAt w b off (fl wc l)) (hb1 : b < w.heap.size) (hl : l.length ≤ 8) (hp : ∀ x ∈ l, 0 ≤ x.n) :
    Calls Tryz.prog 112 #[.slice (some ⟨b, off, none⟩) l.length c1] w fun e w' => ∃ v, e = .returned v ∧ OwnS cc w' w.heap.size 28 24 v (packL (botsL l)) ∧ Below w.heap.size w w' := by
  have HC := Lib.hid (⟨hC, hb1⟩ : _ ∧ _)
  have HPos := Lib.hid hp
  clear hC hb1 hp
  go_enter Tryz.func112, Tryz.ntmps112
  go_wp2
  go_loopw [3, 9] (fun v i wr => ∃ k : Nat, k ≤ l.length ∧ i = .int .i64 k ∧ Hid (OwnS bc wr w.heap.size 26 2 v (botsL (l.take k))) ∧ Below w.heap.size w wr) (fun _ i _ => l.length - (intOf i).toNat)
  case atStart => exact ⟨0, Nat.zero_le _, rfl, OwnS.lit (Nat.le_refl _), by go_grown⟩
  case round =>
    obtain ⟨k, hk, rfl, HO, hb⟩ := hrel
    by_cases hlt : k < l.length
    · have HX := (HC.out.1.below hb HC.out.2).el wc_length hlt
      have HL := Lib.hid (@botsL_step l k hlt)
      have HP := botsL_le (l.take k)
      have hcl : (l.take k).length ≤ k := by simp; omega
      have hPn : (botsL (l.take k)).length ≤ 1000000 := by omega
      have hn0 := HPos.out l[k]! (by rw [getB hlt]; exact List.getElem_mem hlt)
      clear HP hcl
      have hlt2 : (k : Int) < (l.length : Int) := by omega
      generalize l[k]! = x at HX HL hn0
      generalize botsL (l.take k) = lk at HO HL hPn
      obtain ⟨hn1, hn2⟩ := x.hn
      obtain ⟨m, hm⟩ : ∃ m : Nat, x.n = (m : Int) := ⟨x.n.toNat, by omega⟩
      have x0 : wr.cell? ⟨b, off + k * 3, none⟩ = some (.int .u8 x.b.k) := HX 0 _ rfl
      have x1 : wr.cell? ⟨b, off + k * 3 + 1, none⟩ = some (.int .i16 x.b.y) := HX 1 _ rfl
      have x2 : wr.cell? ⟨b, off + k * 3 + 2, none⟩ = some (.int .i16 (m : Int)) := by rw [← hm]; exact HX 2 _ rfl
      have hmm : m ≤ 32767 := by omega
      have hmi : (m : Int) ≤ 32767 := by omega
      have HL2 : Hid (botsL (l.take (k + 1)) = lk ++ List.replicate m x.b) := by rw [Hid, HL.out, hm, Int.toNat_natCast]
      replace hm := Lib.hid hm
      clear HX HL
      go_wp2_with (first | (go_at_call 141; refine (Repeat_bot _ x.b m _ ?hR ?hG hmm).mono ?_; (case hR => exact CAt.of_row (by rw [rowOf_alloc, if_pos (by simp)]; rfl)); (case hG => simp); rintro e w2 ⟨g2, rfl, O2, hb2⟩; have hb3 := bstepB (show Below wr.heap.size wr _ by go_grown) (by simp; omega) hb2; have K2 : Lies bc w2 g2 (List.replicate m x.b) := own_lies (n := m) (by have h := O2; unfold OwnN at h; rwa [List.length_replicate] at h); clear O2 hb2; replace HO := Lib.hid (HO.out.kept hb3); replace hb := bstep hb hb3) | (at_builtin; refine wp_app_el (f := bc) w.heap.size rfl _ _ 38 26 rfl (.agg #[.int .u8 0, .int .i16 0]) 2 4 Tryz.underlying38 infoBt rfl (by decide) bc_length bc_one _ lk rfl g2 m (List.replicate m x.b) (by rw [List.length_replicate]; rfl) HO.out K2 hb.size (by rw [List.length_replicate]; omega) (by decide) ?_; intro v1 w1 HO1 hb4))
      go_roundw
      case rel => exact ⟨k + 1, by omega, by go_num, by rw [HL2.out]; exact HO1, hb.trans hb4.1⟩
      case measure => simp [intOf]; omega
    · obtain rfl : k = l.length := by omega
      rw [List.take_length] at HO
      have HP := botsL_le l
      obtain ⟨gv, cap, rfl, KO, -⟩ := HO.out.lies
      have HPk := fun W h => packed_any (some ⟨gv, 0, none⟩) cap (botsL l) W h (by omega)
      generalize hbl : botsL l = bl at HPk KO
      replace hbl := Lib.hid hbl
      have KO2 := Lib.hid KO
      clear KO HO HP
      go_wp2_with (go_at_call 142; with_reducible refine (HPk _ KO2.out.rd).mono ?_; rintro e w2 ⟨v2, rfl, O2, hb2⟩; replace O2 := O2.down hb.size; replace hb := bstep hb hb2)
      go_ret
      exact ⟨_, rfl, by rw [hbl.out]; exact O2, hb⟩
theorem sCasesFor_any (g0 c0 : Nat) (l : List Wt) (w : World) (K0 : Lies wc w g0 l) (hl : l.length ≤ 1048576) :
    Calls Tryz.prog 54 #[.slice (some ⟨g0, 0, none⟩) l.length c0] w fun e w' => ∃ v, e = .returned (.tuple #[v, .int .i64 (casesR l).2]) ∧ OwnN cc w' w.heap.size 28 24 v (casesR l).1 ∧ Below w.heap.size w w' := by
  have H := Below.refl w.heap.size w
  replace K0 := Lib.hid K0
  cases e1 : ordOk l with
  | false =>
    have HF := Lib.hid (show casesR l = ([], 1) by simp [casesR, e1])
    go_enter Tryz.func54, Tryz.ntmps54
    go_wp2_with (go_at_call 99; with_reducible refine (l02Ok_any g0 0 c0 l _ (K0.out.below H).c (K0.out.below H).lt (by omega)).mono ?_; rintro e w' ⟨rfl, hb⟩; replace H := bstep H hb; clear hb; have hc := bcell H)
    rw [HF.out]
    exact bodyPost_ret (results_tt rfl) rfl ⟨_, rfl, (OwnS.lit (f := cc) H.size).n, H.alloc H.size _⟩
  | true =>
    have h8 : l.length ≤ 8 := by simp [ordOk] at e1; exact e1.2
    have HF := Lib.hid (show casesR l = (packL (botsL l), 0) by simp [casesR, e1])
    have HP := botsL_le l
    have HPk := fun A c W h => l01Packed_any A c (botsL l) W h (by omega)
    generalize hbl : botsL l = bl at HPk
    replace hbl := Lib.hid hbl
    clear HP
    go_enter Tryz.func54, Tryz.ntmps54
    go_wp2_with (first | (go_at_call 99; with_reducible refine (l02Ok_any g0 0 c0 l _ (K0.out.below H).c (K0.out.below H).lt (by omega)).mono ?_; rintro e w' ⟨rfl, hb⟩; replace H := bstep H hb; clear hb; have hc := bcell H) | (go_at_call 114; with_reducible refine (l02Bottles_any g0 0 c0 l _ (K0.out.below H).c (K0.out.below H).lt h8).mono ?_; rintro e w2 ⟨v2, rfl, O2, hb⟩; rw [hbl.out] at O2; obtain ⟨g2, cap, rfl, KO, -⟩ := O2.lies; have KO2 := Lib.hid KO; clear KO O2; replace H := bstep H hb; clear hb) | (go_at_call 113; with_reducible refine (HPk _ _ _ KO2.out.rd).mono ?_; rintro e w3 ⟨v3, rfl, O3, hb⟩; replace O3 := O3.down H.size; replace H := bstep H hb; clear hb))
    rw [HF.out]
    exact bodyPost_ret (results_tt rfl) rfl ⟨_, rfl, by rw [hbl.out]; exact O3.n, H⟩
theorem CasesFor_any (g0 c0 : Nat) (l : List Wt) (w : World) (K0 : Lies wc w g0 l) (hl : l.length ≤ 1048576) :
    Calls Tryz.prog 53 #[.slice (some ⟨g0, 0, none⟩) l.length c0] w fun e w' => ∃ v, e = .returned (.tuple #[v, .int .i64 (casesR l).2]) ∧ OwnN cc w' w.heap.size 28 24 v (casesR l).1 ∧ Below w.heap.size w w' := by
  have H := Below.refl w.heap.size w
  replace K0 := Lib.hid K0
  cases e1 : ordOk l with
  | false =>
    have HF := Lib.hid (show casesR l = ([], 1) by simp [casesR, e1])
    go_enter Tryz.func53, Tryz.ntmps53
    go_wp2_with (go_at_call 50; with_reducible refine (ValidOrder_any g0 0 c0 l _ (K0.out.below H).c (K0.out.below H).lt (by omega)).mono ?_; rintro e w' ⟨rfl, hb⟩; replace H := bstep H hb; clear hb; have hc := bcell H)
    rw [HF.out]
    exact bodyPost_ret (results_tt rfl) rfl ⟨_, rfl, OwnN.nil, H⟩
  | true =>
    have h8 : l.length ≤ 8 := by simp [ordOk] at e1; exact e1.2
    have HF := Lib.hid (show casesR l = (packL (botsL l), 0) by simp [casesR, e1])
    have HN := Lib.hid (ok_nonneg e1)
    go_enter Tryz.func53, Tryz.ntmps53
    go_wp2_with (first | (go_at_call 50; with_reducible refine (ValidOrder_any g0 0 c0 l _ (K0.out.below H).c (K0.out.below H).lt (by omega)).mono ?_; rintro e w' ⟨rfl, hb⟩; replace H := bstep H hb; clear hb; have hc := bcell H) | (go_at_call 112; with_reducible refine (casesFor_any g0 0 c0 l _ (K0.out.below H).c (K0.out.below H).lt h8 HN.out).mono ?_; rintro e w3 ⟨v3, rfl, O3, hb⟩; replace O3 := O3.down H.size; replace H := bstep H hb; clear hb))
    rw [HF.out]
    exact bodyPost_ret (results_tt rfl) rfl ⟨_, rfl, O3.n, H⟩
end Go.Proofs.YtbngpcghognojaaGreatDoor
