/- Contracts of PackStack: all bottles of a stack, in order, packed. -/
import Derived.Test.YtnhpgahapjjjbaaPure
import Derived.Laws.AppendOwnNone
namespace Go.Proofs.Ytnhpgahapjjjbaa
open Go Go.RowKit
set_option linter.unusedVariables false
set_option linter.unusedSimpArgs false
set_option maxRecDepth 100000
set_option maxHeartbeats 1000000
attribute [local go_sem] Oper.qB
section
variable {α : Type} {f : α → List Value} {P : Program} {ops : Array Oper} {rest : List Oper} {o : Oper} {a : Act} {Q : Exit → Act → World → Prop} {W : World}
/-- append(v, ys...), the second one nil or not. -/
theorem wp_app_any (B : Nat) (hgd : o.guard = none) (s x : Operand) (t e : TypeId) (ho : o.op = .call { callee := .builtin .append, args := #[s, x], argTypes := #[t, t] })
    (z : Value) (size bytes : Nat) (ht : P.underlying t = some (.slice e)) (hinfo : (P.info? e).map (fun i => (i.zero, i.size, i.bytes)) = some (some z, size, bytes)) (hzs : z.cells.size = size) (hsz : 0 < size)
    (hf : ∀ x, (f x).length = size) (h1 : ∀ x, ∀ u ∈ f x, u.oneCell' = true)
    (v : Value) (l : List α) (hs : a.eval s = v) (u : Value) (B' : Nat) (ys : List α) (hx : a.eval x = u)
    (HO : OwnS f W B e size v l) (HY : OwnN f W B' e size u ys) (hB : B ≤ W.heap.size) (hn : l.length + ys.length ≤ 100000000) (hby : bytes ≤ 1000)
    (h : ∀ v1 w1, OwnS f w1 B e size v1 (l ++ ys) → Below B W w1 ∧ ButV v W w1 → wpList P ops Q rest (a.put o.dst v1) w1) : wpList P ops Q (o :: rest) a W := by
  rcases HY.cases hsz hf with ⟨rfl, rfl⟩ | ⟨g, cap, rfl⟩
  · obtain ⟨i0, hi, hzz⟩ := Option.map_eq_some_iff.1 hinfo
    refine wpList_append_own_none hgd s x t ho B e i0 size ht hi v l.length (fl f l) hs HO.1 hx ?_
    exact h v W (by rw [List.append_nil]; exact HO) ⟨Below.refl _ _, ButV.refl⟩
  · exact wp_app_el B hgd s x t e ho z size bytes ht hinfo hzs hsz hf h1 v l hs g cap ys hx HO HY.lies hB hn hby h
end
/-- All bottles of crates. -/
def wholeL (L : List Cr) : List Bt := L.flatMap allB
theorem wholeL_step {L : List Cr} {k : Nat} (hk : k < L.length) : wholeL (L.take (k + 1)) = wholeL (L.take k) ++ allB L[k]! := by
  unfold wholeL
  rw [List.take_succ_eq_append_getElem hk, getB hk, List.flatMap_append]
  simp
theorem wholeL_le : ∀ L : List Cr, (wholeL L).length ≤ 12 * L.length
  | [] => by simp [wholeL]
  | c :: L => by
    have h := wholeL_le L
    have hc := allB_le c
    have e : wholeL (c :: L) = allB c ++ wholeL L := by simp [wholeL]
    rw [e, List.length_append, List.length_cons]
    omega
def packR (L : List Cr) : List Cr × Int := if stackOk L = true then (packL (sortB (wholeL L)), 0) else ([], 1)
theorem stack_le {L : List Cr} (h : stackOk L = true) : L.length ≤ 12 := by
  simp [stackOk] at h
  exact h.1
theorem packR_le (L : List Cr) : (packR L).1.length ≤ 12 := by
  unfold packR
  split
  · rename_i h
    have := stack_le h
    have := wholeL_le L
    show (packK _ _).length ≤ 12
    rw [packK_length, sortB_length]
    omega
  · simp
theorem allOf_any (A : Option Addr) (c0 : Nat) (L : List Cr) (w : World) (hr : RdA w A (fl cc L)) (hn : L.length ≤ 12) :
    Calls Try.prog 107 #[.slice A L.length c0] w fun e w' => ∃ v, e = .returned v ∧ OwnN bc w' w.heap.size 26 2 v (sortB (wholeL L)) ∧ (∃ g cap, v = .slice (some ⟨g, 0, none⟩) (wholeL L).length cap) ∧ Below w.heap.size w w' := by
  have HR := Lib.hid hr
  clear hr
  go_enter Try.func107, Try.ntmps107
  go_wp2
  go_loopw [3, 9] (fun v i wr => ∃ k : Nat, k ≤ L.length ∧ i = .int .i64 k ∧ Hid (OwnS bc wr w.heap.size 26 2 v (wholeL (L.take k))) ∧ Below w.heap.size w wr) (fun _ i _ => L.length - (intOf i).toNat)
  case atStart => exact ⟨0, Nat.zero_le _, rfl, OwnS.lit (Nat.le_refl _), by go_grown⟩
  case round =>
    obtain ⟨k, hk, rfl, HO, hb⟩ := hrel
    by_cases hlt : k < L.length
    · obtain ⟨gl, off, rfl, hg, hC⟩ := (HR.out.below hb).some (by rw [fl_length cc_length]; omega)
      have HX := Lib.hid (hC.el cc_length hlt)
      have HL := Lib.hid (@wholeL_step L k hlt)
      have hle := wholeL_le (L.take k)
      have hcl : (L.take k).length ≤ k := by simp; omega
      have hlt2 : (k : Int) < (L.length : Int) := by omega
      clear hC hg
      generalize L[k]! = c at HX HL
      generalize wholeL (L.take k) = l at HO HL hle
      have hln : l.length ≤ 144 := by omega
      clear hle hcl
      go_upto_region 5 with (first | (with_reducible refine wp_load_CAt rfl _ _ rfl _ _ rfl (cc c) HX.out _ Try.underlying28 rfl (infoCl c) ?_) | ((with_reducible refine wp_store_rowOf rfl rfl _ _ _ rfl _ rfl (cc c).toArray rfl (cc zC).toArray ?hr (cc_size2 _ _) (infoC _) (cc_one _) ?_); (case hr => rw [rowOf_alloc, if_pos rfl]; rfl)))
      generalize hW1 : World.setRow _ _ _ = W1
      obtain ⟨HB, r1, b1⟩ := laid_row (Below.refl wr.heap.size wr) hW1
      clear hW1
      have hb1 := bstep hb HB
      have HO1 := Lib.hid (HO.out.kept HB)
      generalize wr.heap.size = g1 at r1 b1 ⊢
      clear HX HB hb HO
      have H := Below.refl W1.heap.size W1
      have hall := allB_le c
      go_wp2_with (first | ((with_reducible refine wp_load_rowBg H ?_ _ _ rfl _ rfl _ r1 _ Try.underlying28 rfl (infoC c) ?_); rfl) | (go_at_call 69; refine (bottles_any c _).mono ?_; rintro e w2 ⟨v2, rfl, O2, hb2⟩; have HY : OwnN bc w2 W1.heap.size 26 2 v2 (allB c) := O2; have HO2 := Lib.hid (HO1.out.kept hb2); have hb3 := bstep hb1 hb2) | (at_builtin; refine wp_app_any (f := bc) w.heap.size rfl _ _ 54 26 rfl (.agg #[.int .u8 0, .int .i16 0]) 2 4 Try.underlying54 infoBt rfl (by decide) bc_length bc_one _ l rfl _ _ (allB c) rfl HO2.out HY hb3.size (by omega) (by decide) ?_; intro v1 w1 HO3 hb4))
      go_roundw
      case rel => exact ⟨k + 1, by omega, by go_num, by rw [HL.out]; exact HO3, hb3.trans hb4.1⟩
      case measure => simp [intOf]; omega
    · obtain rfl : k = L.length := by omega
      rw [List.take_length] at HO
      have hle := wholeL_le L
      have hS := fun B v W h => SortFunc_own B v (wholeL L) W h (by omega)
      obtain ⟨g, cap, hv⟩ := HO.out.2
      have HO2 := Lib.hid HO.out.n
      subst hv
      go_wp2_with (go_at_call 140; refine (hS _ _ _ HO2.out).mono ?_; rintro e w3 ⟨rfl, HO3, hb3⟩)
      go_ret
      exact ⟨_, rfl, HO3, ⟨g, cap, rfl⟩, hb.trans hb3⟩
theorem l01Whole_any (g off c0 : Nat) (L : List Cr) (w : World) (hC : CAt w g off (fl cc L)) (hg : g < w.heap.size) (hn : L.length ≤ 12) :
    Calls Try.prog 105 #[.slice (some ⟨g, off, none⟩) L.length c0] w fun e w' => ∃ v, e = .returned v ∧ OwnS bc w' w.heap.size 26 2 v (sortB (wholeL L)) ∧ Below w.heap.size w w' := by
  have HC := Lib.hid (⟨hC, hg⟩ : _ ∧ _)
  clear hC hg
  go_enter Try.func105, Try.ntmps105
  go_wp2
  go_loopw [3, 4] (fun v i wr => ∃ k : Nat, k ≤ L.length ∧ i = .int .i64 k ∧ Hid (OwnS bc wr w.heap.size 26 2 v (wholeL (L.take k))) ∧ Below w.heap.size w wr) (fun _ i _ => L.length - (intOf i).toNat)
  case atStart => exact ⟨0, Nat.zero_le _, rfl, OwnS.lit (Nat.le_refl _), by go_grown⟩
  case round =>
    obtain ⟨k, hk, rfl, HO, hb⟩ := hrel
    by_cases hlt : k < L.length
    · have HX := Lib.hid (⟨(HC.out.1.below hb HC.out.2).el cc_length hlt, Nat.lt_of_lt_of_le HC.out.2 hb.size⟩ : _ ∧ _)
      have HL := Lib.hid (@wholeL_step L k hlt)
      have hle := wholeL_le (L.take k)
      have hcl : (L.take k).length ≤ k := by simp; omega
      have hlt2 : (k : Int) < (L.length : Int) := by omega
      generalize L[k]! = c at HX HL
      generalize wholeL (L.take k) = l at HO HL hle
      have hln : l.length ≤ 144 := by omega
      have hall := allB_le c
      clear hle hcl
      go_wp2_with (first | (go_at_call 65; refine (l01AllS_any g _ c _ HX.out.1 HX.out.2).mono ?_; rintro e w2 ⟨v2, rfl, O2, hb2⟩; have HY := O2.n; have HO2 := Lib.hid (HO.out.kept hb2); have hb3 := bstep hb hb2) | (at_builtin; refine wp_app_any (f := bc) w.heap.size rfl _ _ 54 26 rfl (.agg #[.int .u8 0, .int .i16 0]) 2 4 Try.underlying54 infoBt rfl (by decide) bc_length bc_one _ l rfl _ _ (allB c) rfl HO2.out HY hb3.size (by omega) (by decide) ?_; intro v1 w1 HO3 hb4))
      go_roundw
      case rel => exact ⟨k + 1, by omega, by go_num, by rw [HL.out]; exact HO3, hb3.trans hb4.1⟩
      case measure => simp [intOf]; omega
    · obtain rfl : k = L.length := by omega
      rw [List.take_length] at HO
      have hle := wholeL_le L
      have hS := fun g cp W K => l01Sorted_any g cp (wholeL L) W K (by omega)
      obtain ⟨g2, cap, rfl, K2, -⟩ := HO.out.lies
      replace K2 := Lib.hid K2
      go_wp2_with (go_at_call 102; refine (hS _ _ _ K2.out).mono ?_; rintro e w3 ⟨v3, rfl, HO3, hb3⟩; replace HO3 := HO3.down hb.size)
      go_ret
      exact ⟨_, rfl, HO3, bstep hb hb3⟩
theorem PackStack_any (g0 c0 : Nat) (L : List Cr) (w : World) (K0 : Lies cc w g0 L) (hl : L.length ≤ 1048576) :
    Calls Try.prog 56 #[.slice (some ⟨g0, 0, none⟩) L.length c0] w fun e w' => ∃ v, e = .returned (.tuple #[v, .int .i64 (packR L).2]) ∧ OwnN cc w' w.heap.size 28 24 v (packR L).1 ∧ Below w.heap.size w w' := by
  have H := Below.refl w.heap.size w
  replace K0 := Lib.hid K0
  cases e1 : stackOk L with
  | false =>
    have HF := Lib.hid (show packR L = ([], 1) by simp [packR, e1])
    go_enter Try.func56, Try.ntmps56
    go_wp2_with (go_at_call 97; with_reducible refine (ValidStack_any g0 0 c0 L _ (K0.out.below H).c (K0.out.below H).lt (by omega)).mono ?_; rintro e w' ⟨rfl, hb⟩; replace H := bstep H hb; clear hb; have hc := bcell H)
    rw [HF.out]
    exact bodyPost_ret (results_tt rfl) rfl ⟨_, rfl, OwnN.nil, H⟩
  | true =>
    have h12 := stack_le e1
    have hle := wholeL_le L
    have HF := Lib.hid (show packR L = (packL (sortB (wholeL L)), 0) by simp [packR, e1])
    have HS := Lib.hid (sortB_length (wholeL L))
    have hS := fun A c W h => packed_any A c (sortB (wholeL L)) W h (by rw [sortB_length]; omega)
    go_enter Try.func56, Try.ntmps56
    go_wp2_with (first | (go_at_call 97; with_reducible refine (ValidStack_any g0 0 c0 L _ (K0.out.below H).c (K0.out.below H).lt (by omega)).mono ?_; rintro e w' ⟨rfl, hb⟩; replace H := bstep H hb; clear hb; have hc := bcell H) | (go_at_call 107; refine (allOf_any _ c0 L _ (K0.out.below H).rd h12).mono ?_; rintro e w2 ⟨v2, rfl, O2, ⟨g2, p2, rfl⟩, hb⟩; rw [← HS.out] at O2 ⊢; have K2 := Lib.hid O2.lies.rd; clear O2; replace H := bstep H hb; clear hb) | (go_at_call 106; refine (hS _ _ _ K2.out).mono ?_; rintro e w3 ⟨v3, rfl, O3, hb⟩; replace O3 := O3.down H.size; replace H := bstep H hb; clear hb))
    rw [HF.out]
    exact bodyPost_ret (results_tt rfl) rfl ⟨_, rfl, O3.n, H⟩
theorem sPackStack_any (g0 c0 : Nat) (L : List Cr) (w : World) (K0 : Lies cc w g0 L) (hl : L.length ≤ 1048576) :
    Calls Try.prog 55 #[.slice (some ⟨g0, 0, none⟩) L.length c0] w fun e w' => ∃ v, e = .returned (.tuple #[v, .int .i64 (packR L).2]) ∧ OwnN cc w' w.heap.size 28 24 v (packR L).1 ∧ Below w.heap.size w w' := by
  have H := Below.refl w.heap.size w
  replace K0 := Lib.hid K0
  cases e1 : stackOk L with
  | false =>
    have HF := Lib.hid (show packR L = ([], 1) by simp [packR, e1])
    go_enter Try.func55, Try.ntmps55
    go_wp2_with (go_at_call 104; with_reducible refine (l01Stack_any g0 0 c0 L _ (K0.out.below H).c (K0.out.below H).lt (by omega)).mono ?_; rintro e w' ⟨rfl, hb⟩; replace H := bstep H hb; clear hb; have hc := bcell H)
    rw [HF.out]
    exact bodyPost_ret (results_tt rfl) rfl ⟨_, rfl, (OwnS.lit (f := cc) H.size).n, H.alloc H.size _⟩
  | true =>
    have h12 := stack_le e1
    have hle := wholeL_le L
    have HF := Lib.hid (show packR L = (packL (sortB (wholeL L)), 0) by simp [packR, e1])
    have hS := fun A c W h => l01Packed_any A c (sortB (wholeL L)) W h (by rw [sortB_length]; omega)
    go_enter Try.func55, Try.ntmps55
    go_wp2_with (first | (go_at_call 104; with_reducible refine (l01Stack_any g0 0 c0 L _ (K0.out.below H).c (K0.out.below H).lt (by omega)).mono ?_; rintro e w' ⟨rfl, hb⟩; replace H := bstep H hb; clear hb; have hc := bcell H) | (go_at_call 105; refine (l01Whole_any _ _ c0 L _ (K0.out.below H).c (K0.out.below H).lt h12).mono ?_; rintro e w2 ⟨v2, rfl, O2, hb⟩; obtain ⟨g2, p2, rfl, K2, -⟩ := O2.lies; replace K2 := Lib.hid K2.rd; clear O2; replace H := bstep H hb; clear hb) | (go_at_call 94; refine (hS _ _ _ K2.out).mono ?_; rintro e w3 ⟨v3, rfl, O3, hb⟩; replace O3 := O3.down H.size; replace H := bstep H hb; clear hb))
    rw [HF.out]
    exact bodyPost_ret (results_tt rfl) rfl ⟨_, rfl, O3.n, H⟩
end Go.Proofs.Ytnhpgahapjjjbaa
