/- Contracts of the texts of orders: the reference's. -/
import Derived.Test.YtbngpcghognojaaDoorOrT
import Derived.Test.YtbngpcghognojaaDoorCrS
namespace Go.Proofs.YtbngpcghognojaaDoor
open Go Go.Sort Go.RowKit
set_option linter.unusedVariables false
set_option linter.unusedSimpArgs false
set_option maxRecDepth 100000
set_option maxHeartbeats 1000000
attribute [local go_sem] Oper.qB
theorem intc_snoc (s : UInt8) (p : List UInt8) : ∀ ls : List (List UInt8), ls ≠ [] → intc s (ls ++ [p]) = intc s ls ++ s :: p
  | [], h => absurd rfl h
  | [q], _ => rfl
  | q :: r :: ls, _ => by
    have ih := intc_snoc s p (r :: ls) (by simp)
    show q ++ s :: intc s (r :: ls ++ [p]) = q ++ s :: intc s (r :: ls) ++ s :: p
    rw [ih]
    simp
theorem ordK_len {l : List Wt} (h : ordOk l = true) {k : Nat} (hk : k ≤ l.length) : (intc 32 ((l.take k).map wantT)).length ≤ 8 * 4001 := by
  have h8 : l.length ≤ 8 := by
    simp only [ordOk, Bool.and_eq_true, decide_eq_true_iff] at h
    exact h.2
  have := intc_len 32 4000 ((l.take k).map wantT) fun p hp => by
    obtain ⟨x, hx, rfl⟩ := List.mem_map.1 hp
    obtain ⟨i, hi, rfl⟩ := List.getElem_of_mem (List.mem_of_mem_take hx)
    have h2 := ordOk_at h hi
    rw [getB hi] at h2
    exact wantT_len h2.1 h2.2.1 h2.2.2
  rw [List.length_map, List.length_take] at this
  have h3 : (min k l.length) * (4000 + 1) ≤ 8 * 4001 := Nat.mul_le_mul_right _ (by omega)
  omega
theorem l02Text_any (b off c : Nat) (l : List Wt) (w : World) (hC : CAt w b off (fl wc l)) (hb : b < w.heap.size) (hok : ordOk l = true) :
    Calls Tryd.prog 41 #[.slice (some ⟨b, off, none⟩) l.length c] w fun e w' => e = .returned (.string ⟨(ordT l).toArray⟩) ∧ Below w.heap.size w w' := by
  have HC := Lib.hid (⟨hC, hb⟩ : _ ∧ _)
  clear hC hb
  have HOK := Lib.hid (fun k hk => @ordOk_at l hok k hk)
  have HLN := Lib.hid (fun k hk => @ordK_len l hok k hk)
  have h8 : l.length ≤ 8 := by
    simp only [ordOk, Bool.and_eq_true, decide_eq_true_iff] at hok
    exact hok.2
  clear hok
  go_enter Tryd.func41, Tryd.ntmps41
  go_wp2
  go_loopw [3, 4] (fun s i wr => ∃ (k : Nat) (S : ByteArray), k ≤ l.length ∧ i = .int .i64 k ∧ s = .string S ∧ Hid (S = ⟨(intc 32 ((l.take k).map wantT)).toArray⟩) ∧ Below w.heap.size w wr) (fun _ i _ => l.length - (intOf i).toNat)
  case atStart => exact ⟨0, _, Nat.zero_le _, rfl, rfl, rfl, Below.refl _ _⟩
  case round =>
    obtain ⟨k, S, hk, rfl, rfl, HS, hb⟩ := hrel
    have hsz : S.size ≤ 40000 := by
      rw [HS.out, size_text]
      have := HLN.out k hk
      omega
    by_cases hlt : k < l.length
    · have HX := (HC.out.1.below hb HC.out.2).el wc_length hlt
      have hbl := Nat.lt_of_lt_of_le HC.out.2 hb.size
      have hok := HOK.out k hlt
      have hlt2 : (k : Int) < (l.length : Int) := by omega
      have HTK : Hid ((l.take (k + 1)).map wantT = (l.take k).map wantT ++ [wantT l[k]!]) := by
        rw [Hid, List.take_succ_eq_append_getElem hlt, List.map_append, getB hlt]
        rfl
      have hnn : Hid (0 < k → (l.take k).map wantT ≠ []) := fun h0 h => by
        have := congrArg List.length h
        rw [List.length_map, List.length_take, List.length_nil] at this
        omega
      generalize l[k]! = x at HX hok HTK
      have CB : CAt wr b (off + k * 3) (bc x.b) := fun i v hi => by
        match i, hi with
        | 0, hi => exact HX 0 _ hi
        | 1, hi => exact HX 1 _ hi
        | i + 2, hi => simp [bc] at hi
      have x2 : wr.cell? ⟨b, off + k * 3 + 2, none⟩ = some (.int .i16 x.n) := HX 2 _ rfl
      have z2 := cell_regrown x2
      replace CB := Lib.hid CB
      clear HX x2
      have HBT := fun W => l01BottleText_any x.b hok.1 W
      have HDT := sDecimal_any x.n.toNat (by omega)
      rw [Int.toNat_of_nonneg (by omega)] at HDT
      have hs1 := size_text (botT x.b)
      have hs2 := size_text (Lib.decDigits x.n.toNat)
      have hl1 := botT_len hok.1
      have hl2 := dec_short x.n.toNat
      have hwl := Lib.hid (show (⟨(wantT x).toArray⟩ : ByteArray) = (⟨(botT x.b).toArray⟩ : ByteArray) ++ ⟨#[120]⟩ ++ ⟨(Lib.decDigits x.n.toNat).toArray⟩ by
        unfold wantT
        refine ByteArray.ext ?_
        simp [ByteArray.data_append])
      generalize (⟨(botT x.b).toArray⟩ : ByteArray) = SA at HBT hs1 hwl
      generalize (⟨(Lib.decDigits x.n.toNat).toArray⟩ : ByteArray) = SB at HDT hs2 hwl
      have f0 : ¬ (9223372036854775807 < S.size + 1) := by omega
      have f1 : ¬ (9223372036854775807 < SA.size + 1) := by omega
      have f2 : ¬ (9223372036854775807 < SA.size + 1 + SB.size) := by omega
      have f3 : ¬ (9223372036854775807 < S.size + 1 + (SA.size + 1 + SB.size)) := by omega
      have f4 : ¬ (9223372036854775807 < S.size + (SA.size + 1 + SB.size)) := by omega
      have hwn : IntKind.i64.wrap x.n = x.n := by rw [IntKind.wrap_i64]; omega
      clear hs1 hs2 hl1 hl2 hsz
      replace HBT := Lib.hid HBT
      replace HDT := Lib.hid HDT
      have H := Below.refl wr.heap.size wr
      by_cases h0 : 0 < k
      · have h0i : (0 : Int) < (k : Int) := by omega
        have HE : Hid (S ++ ⟨#[32]⟩ ++ (SA ++ ⟨#[120]⟩ ++ SB) = ⟨(intc 32 ((l.take (k + 1)).map wantT)).toArray⟩) := by
          rw [Hid, HTK.out, intc_snoc _ _ _ (hnn.out h0), ← hwl.out, HS.out]
          refine ByteArray.ext ?_
          simp [ByteArray.data_append]
        replace h0 := Lib.hid h0
        go_upto_region 7 with fail
        refine g_start 18 rfl (by kernel_rfl) ?_
        (refine g_quiet 0 (by kernel_rfl) rfl (fun K hK => ?_); first | ((first | (refine qB_CAtK H rfl _ _ rfl _ _ rfl (bc x.b) CB.out hbl _ Tryd.underlying26 rfl (sziBot2 x.b) (hK _ ?_))); clear hK K) | (go_simp; first | (refine hK _ ?_; clear hK K) | (apply Exists.intro; refine ⟨fun _ => ?_, hK _ ?_⟩; (first | (first | (go_at_call 31 <;> exact HBT.out _) | (go_at_call 55 <;> exact HDT.out _))); clear hK K)))
        (refine g_quiet 1 (by kernel_rfl) rfl (fun K hK => ?_); first | ((first | (refine qB_CAtK H rfl _ _ rfl _ _ rfl (bc x.b) CB.out hbl _ Tryd.underlying26 rfl (sziBot2 x.b) (hK _ ?_))); clear hK K) | (go_simp; first | (refine hK _ ?_; clear hK K) | (apply Exists.intro; refine ⟨fun _ => ?_, hK _ ?_⟩; (first | (first | (go_at_call 31 <;> exact HBT.out _) | (go_at_call 55 <;> exact HDT.out _))); clear hK K)))
        (refine g_quiet 2 (by kernel_rfl) rfl (fun K hK => ?_); first | ((first | (refine qB_CAtK H rfl _ _ rfl _ _ rfl (bc x.b) CB.out hbl _ Tryd.underlying26 rfl (sziBot2 x.b) (hK _ ?_))); clear hK K) | (go_simp; first | (refine hK _ ?_; clear hK K) | (apply Exists.intro; refine ⟨fun _ => ?_, hK _ ?_⟩; (first | (first | (go_at_call 31 <;> exact HBT.out _) | (go_at_call 55 <;> exact HDT.out _))); clear hK K)))
        (refine g_quiet 3 (by kernel_rfl) rfl (fun K hK => ?_); first | ((first | (refine qB_CAtK H rfl _ _ rfl _ _ rfl (bc x.b) CB.out hbl _ Tryd.underlying26 rfl (sziBot2 x.b) (hK _ ?_))); clear hK K) | (go_simp; first | (refine hK _ ?_; clear hK K) | (apply Exists.intro; refine ⟨fun _ => ?_, hK _ ?_⟩; (first | (first | (go_at_call 31 <;> exact HBT.out _) | (go_at_call 55 <;> exact HDT.out _))); clear hK K)))
        (refine g_quiet 4 (by kernel_rfl) rfl (fun K hK => ?_); first | ((first | (refine qB_CAtK H rfl _ _ rfl _ _ rfl (bc x.b) CB.out hbl _ Tryd.underlying26 rfl (sziBot2 x.b) (hK _ ?_))); clear hK K) | (go_simp; first | (refine hK _ ?_; clear hK K) | (apply Exists.intro; refine ⟨fun _ => ?_, hK _ ?_⟩; (first | (first | (go_at_call 31 <;> exact HBT.out _) | (go_at_call 55 <;> exact HDT.out _))); clear hK K)))
        (refine g_quiet 5 (by kernel_rfl) rfl (fun K hK => ?_); first | ((first | (refine qB_CAtK H rfl _ _ rfl _ _ rfl (bc x.b) CB.out hbl _ Tryd.underlying26 rfl (sziBot2 x.b) (hK _ ?_))); clear hK K) | (go_simp; first | (refine hK _ ?_; clear hK K) | (apply Exists.intro; refine ⟨fun _ => ?_, hK _ ?_⟩; (first | (first | (go_at_call 31 <;> exact HBT.out _) | (go_at_call 55 <;> exact HDT.out _))); clear hK K)))
        (refine g_quiet 6 (by kernel_rfl) rfl (fun K hK => ?_); first | ((first | (refine qB_CAtK H rfl _ _ rfl _ _ rfl (bc x.b) CB.out hbl _ Tryd.underlying26 rfl (sziBot2 x.b) (hK _ ?_))); clear hK K) | (go_simp; first | (refine hK _ ?_; clear hK K) | (apply Exists.intro; refine ⟨fun _ => ?_, hK _ ?_⟩; (first | (first | (go_at_call 31 <;> exact HBT.out _) | (go_at_call 55 <;> exact HDT.out _))); clear hK K)))
        (refine g_quiet 7 (by kernel_rfl) rfl (fun K hK => ?_); first | ((first | (refine qB_CAtK H rfl _ _ rfl _ _ rfl (bc x.b) CB.out hbl _ Tryd.underlying26 rfl (sziBot2 x.b) (hK _ ?_))); clear hK K) | (go_simp; first | (refine hK _ ?_; clear hK K) | (apply Exists.intro; refine ⟨fun _ => ?_, hK _ ?_⟩; (first | (first | (go_at_call 31 <;> exact HBT.out _) | (go_at_call 55 <;> exact HDT.out _))); clear hK K)))
        (refine g_quiet 8 (by kernel_rfl) rfl (fun K hK => ?_); first | ((first | (refine qB_CAtK H rfl _ _ rfl _ _ rfl (bc x.b) CB.out hbl _ Tryd.underlying26 rfl (sziBot2 x.b) (hK _ ?_))); clear hK K) | (go_simp; first | (refine hK _ ?_; clear hK K) | (apply Exists.intro; refine ⟨fun _ => ?_, hK _ ?_⟩; (first | (first | (go_at_call 31 <;> exact HBT.out _) | (go_at_call 55 <;> exact HDT.out _))); clear hK K)))
        (refine g_quiet 9 (by kernel_rfl) rfl (fun K hK => ?_); first | ((first | (refine qB_CAtK H rfl _ _ rfl _ _ rfl (bc x.b) CB.out hbl _ Tryd.underlying26 rfl (sziBot2 x.b) (hK _ ?_))); clear hK K) | (go_simp; first | (refine hK _ ?_; clear hK K) | (apply Exists.intro; refine ⟨fun _ => ?_, hK _ ?_⟩; (first | (first | (go_at_call 31 <;> exact HBT.out _) | (go_at_call 55 <;> exact HDT.out _))); clear hK K)))
        (refine g_quiet 10 (by kernel_rfl) rfl (fun K hK => ?_); first | ((first | (refine qB_CAtK H rfl _ _ rfl _ _ rfl (bc x.b) CB.out hbl _ Tryd.underlying26 rfl (sziBot2 x.b) (hK _ ?_))); clear hK K) | (go_simp; first | (refine hK _ ?_; clear hK K) | (apply Exists.intro; refine ⟨fun _ => ?_, hK _ ?_⟩; (first | (first | (go_at_call 31 <;> exact HBT.out _) | (go_at_call 55 <;> exact HDT.out _))); clear hK K)))
        (refine g_quiet 11 (by kernel_rfl) rfl (fun K hK => ?_); first | ((first | (refine qB_CAtK H rfl _ _ rfl _ _ rfl (bc x.b) CB.out hbl _ Tryd.underlying26 rfl (sziBot2 x.b) (hK _ ?_))); clear hK K) | (go_simp; first | (refine hK _ ?_; clear hK K) | (apply Exists.intro; refine ⟨fun _ => ?_, hK _ ?_⟩; (first | (first | (go_at_call 31 <;> exact HBT.out _) | (go_at_call 55 <;> exact HDT.out _))); clear hK K)))
        (refine g_quiet 12 (by kernel_rfl) rfl (fun K hK => ?_); first | ((first | (refine qB_CAtK H rfl _ _ rfl _ _ rfl (bc x.b) CB.out hbl _ Tryd.underlying26 rfl (sziBot2 x.b) (hK _ ?_))); clear hK K) | (go_simp; first | (refine hK _ ?_; clear hK K) | (apply Exists.intro; refine ⟨fun _ => ?_, hK _ ?_⟩; (first | (first | (go_at_call 31 <;> exact HBT.out _) | (go_at_call 55 <;> exact HDT.out _))); clear hK K)))
        (refine g_quiet 13 (by kernel_rfl) rfl (fun K hK => ?_); first | ((first | (refine qB_CAtK H rfl _ _ rfl _ _ rfl (bc x.b) CB.out hbl _ Tryd.underlying26 rfl (sziBot2 x.b) (hK _ ?_))); clear hK K) | (go_simp; first | (refine hK _ ?_; clear hK K) | (apply Exists.intro; refine ⟨fun _ => ?_, hK _ ?_⟩; (first | (first | (go_at_call 31 <;> exact HBT.out _) | (go_at_call 55 <;> exact HDT.out _))); clear hK K)))
        (refine g_quiet 14 (by kernel_rfl) rfl (fun K hK => ?_); first | ((first | (refine qB_CAtK H rfl _ _ rfl _ _ rfl (bc x.b) CB.out hbl _ Tryd.underlying26 rfl (sziBot2 x.b) (hK _ ?_))); clear hK K) | (go_simp; first | (refine hK _ ?_; clear hK K) | (apply Exists.intro; refine ⟨fun _ => ?_, hK _ ?_⟩; (first | (first | (go_at_call 31 <;> exact HBT.out _) | (go_at_call 55 <;> exact HDT.out _))); clear hK K)))
        (refine g_quiet 15 (by kernel_rfl) rfl (fun K hK => ?_); first | ((first | (refine qB_CAtK H rfl _ _ rfl _ _ rfl (bc x.b) CB.out hbl _ Tryd.underlying26 rfl (sziBot2 x.b) (hK _ ?_))); clear hK K) | (go_simp; first | (refine hK _ ?_; clear hK K) | (apply Exists.intro; refine ⟨fun _ => ?_, hK _ ?_⟩; (first | (first | (go_at_call 31 <;> exact HBT.out _) | (go_at_call 55 <;> exact HDT.out _))); clear hK K)))
        (refine g_quiet 16 (by kernel_rfl) rfl (fun K hK => ?_); first | ((first | (refine qB_CAtK H rfl _ _ rfl _ _ rfl (bc x.b) CB.out hbl _ Tryd.underlying26 rfl (sziBot2 x.b) (hK _ ?_))); clear hK K) | (go_simp; first | (refine hK _ ?_; clear hK K) | (apply Exists.intro; refine ⟨fun _ => ?_, hK _ ?_⟩; (first | (first | (go_at_call 31 <;> exact HBT.out _) | (go_at_call 55 <;> exact HDT.out _))); clear hK K)))
        (refine g_quiet 17 (by kernel_rfl) rfl (fun K hK => ?_); first | ((first | (refine qB_CAtK H rfl _ _ rfl _ _ rfl (bc x.b) CB.out hbl _ Tryd.underlying26 rfl (sziBot2 x.b) (hK _ ?_))); clear hK K) | (go_simp; first | (refine hK _ ?_; clear hK K) | (apply Exists.intro; refine ⟨fun _ => ?_, hK _ ?_⟩; (first | (first | (go_at_call 31 <;> exact HBT.out _) | (go_at_call 55 <;> exact HDT.out _))); clear hK K)))
        refine g_done (by kernel_rfl) ?_
        rintro w1 hw1 -
        go_wp2
        go_roundw
        case rel => exact ⟨k + 1, _, by omega, by go_num, rfl, HE.out, bstep hb hw1⟩
        case measure => simp [intOf]; omega
      · have h0i : ¬ (0 : Int) < (k : Int) := by omega
        have HE : Hid (S ++ (SA ++ ⟨#[120]⟩ ++ SB) = ⟨(intc 32 ((l.take (k + 1)).map wantT)).toArray⟩) := by
          rw [Hid, HTK.out, ← hwl.out, HS.out]
          obtain rfl : k = 0 := by omega
          refine ByteArray.ext ?_
          simp [intc, ByteArray.data_append]
        replace h0 := Lib.hid h0
        go_upto_region 7 with fail
        refine g_start 18 rfl (by kernel_rfl) ?_
        (refine g_quiet 0 (by kernel_rfl) rfl (fun K hK => ?_); first | ((first | (refine qB_CAtK H rfl _ _ rfl _ _ rfl (bc x.b) CB.out hbl _ Tryd.underlying26 rfl (sziBot2 x.b) (hK _ ?_))); clear hK K) | (go_simp; first | (refine hK _ ?_; clear hK K) | (apply Exists.intro; refine ⟨fun _ => ?_, hK _ ?_⟩; (first | (first | (go_at_call 31 <;> exact HBT.out _) | (go_at_call 55 <;> exact HDT.out _))); clear hK K)))
        (refine g_quiet 1 (by kernel_rfl) rfl (fun K hK => ?_); first | ((first | (refine qB_CAtK H rfl _ _ rfl _ _ rfl (bc x.b) CB.out hbl _ Tryd.underlying26 rfl (sziBot2 x.b) (hK _ ?_))); clear hK K) | (go_simp; first | (refine hK _ ?_; clear hK K) | (apply Exists.intro; refine ⟨fun _ => ?_, hK _ ?_⟩; (first | (first | (go_at_call 31 <;> exact HBT.out _) | (go_at_call 55 <;> exact HDT.out _))); clear hK K)))
        (refine g_quiet 2 (by kernel_rfl) rfl (fun K hK => ?_); first | ((first | (refine qB_CAtK H rfl _ _ rfl _ _ rfl (bc x.b) CB.out hbl _ Tryd.underlying26 rfl (sziBot2 x.b) (hK _ ?_))); clear hK K) | (go_simp; first | (refine hK _ ?_; clear hK K) | (apply Exists.intro; refine ⟨fun _ => ?_, hK _ ?_⟩; (first | (first | (go_at_call 31 <;> exact HBT.out _) | (go_at_call 55 <;> exact HDT.out _))); clear hK K)))
        (refine g_quiet 3 (by kernel_rfl) rfl (fun K hK => ?_); first | ((first | (refine qB_CAtK H rfl _ _ rfl _ _ rfl (bc x.b) CB.out hbl _ Tryd.underlying26 rfl (sziBot2 x.b) (hK _ ?_))); clear hK K) | (go_simp; first | (refine hK _ ?_; clear hK K) | (apply Exists.intro; refine ⟨fun _ => ?_, hK _ ?_⟩; (first | (first | (go_at_call 31 <;> exact HBT.out _) | (go_at_call 55 <;> exact HDT.out _))); clear hK K)))
        (refine g_quiet 4 (by kernel_rfl) rfl (fun K hK => ?_); first | ((first | (refine qB_CAtK H rfl _ _ rfl _ _ rfl (bc x.b) CB.out hbl _ Tryd.underlying26 rfl (sziBot2 x.b) (hK _ ?_))); clear hK K) | (go_simp; first | (refine hK _ ?_; clear hK K) | (apply Exists.intro; refine ⟨fun _ => ?_, hK _ ?_⟩; (first | (first | (go_at_call 31 <;> exact HBT.out _) | (go_at_call 55 <;> exact HDT.out _))); clear hK K)))
        (refine g_quiet 5 (by kernel_rfl) rfl (fun K hK => ?_); first | ((first | (refine qB_CAtK H rfl _ _ rfl _ _ rfl (bc x.b) CB.out hbl _ Tryd.underlying26 rfl (sziBot2 x.b) (hK _ ?_))); clear hK K) | (go_simp; first | (refine hK _ ?_; clear hK K) | (apply Exists.intro; refine ⟨fun _ => ?_, hK _ ?_⟩; (first | (first | (go_at_call 31 <;> exact HBT.out _) | (go_at_call 55 <;> exact HDT.out _))); clear hK K)))
        (refine g_quiet 6 (by kernel_rfl) rfl (fun K hK => ?_); first | ((first | (refine qB_CAtK H rfl _ _ rfl _ _ rfl (bc x.b) CB.out hbl _ Tryd.underlying26 rfl (sziBot2 x.b) (hK _ ?_))); clear hK K) | (go_simp; first | (refine hK _ ?_; clear hK K) | (apply Exists.intro; refine ⟨fun _ => ?_, hK _ ?_⟩; (first | (first | (go_at_call 31 <;> exact HBT.out _) | (go_at_call 55 <;> exact HDT.out _))); clear hK K)))
        (refine g_quiet 7 (by kernel_rfl) rfl (fun K hK => ?_); first | ((first | (refine qB_CAtK H rfl _ _ rfl _ _ rfl (bc x.b) CB.out hbl _ Tryd.underlying26 rfl (sziBot2 x.b) (hK _ ?_))); clear hK K) | (go_simp; first | (refine hK _ ?_; clear hK K) | (apply Exists.intro; refine ⟨fun _ => ?_, hK _ ?_⟩; (first | (first | (go_at_call 31 <;> exact HBT.out _) | (go_at_call 55 <;> exact HDT.out _))); clear hK K)))
        (refine g_quiet 8 (by kernel_rfl) rfl (fun K hK => ?_); first | ((first | (refine qB_CAtK H rfl _ _ rfl _ _ rfl (bc x.b) CB.out hbl _ Tryd.underlying26 rfl (sziBot2 x.b) (hK _ ?_))); clear hK K) | (go_simp; first | (refine hK _ ?_; clear hK K) | (apply Exists.intro; refine ⟨fun _ => ?_, hK _ ?_⟩; (first | (first | (go_at_call 31 <;> exact HBT.out _) | (go_at_call 55 <;> exact HDT.out _))); clear hK K)))
        (refine g_quiet 9 (by kernel_rfl) rfl (fun K hK => ?_); first | ((first | (refine qB_CAtK H rfl _ _ rfl _ _ rfl (bc x.b) CB.out hbl _ Tryd.underlying26 rfl (sziBot2 x.b) (hK _ ?_))); clear hK K) | (go_simp; first | (refine hK _ ?_; clear hK K) | (apply Exists.intro; refine ⟨fun _ => ?_, hK _ ?_⟩; (first | (first | (go_at_call 31 <;> exact HBT.out _) | (go_at_call 55 <;> exact HDT.out _))); clear hK K)))
        (refine g_quiet 10 (by kernel_rfl) rfl (fun K hK => ?_); first | ((first | (refine qB_CAtK H rfl _ _ rfl _ _ rfl (bc x.b) CB.out hbl _ Tryd.underlying26 rfl (sziBot2 x.b) (hK _ ?_))); clear hK K) | (go_simp; first | (refine hK _ ?_; clear hK K) | (apply Exists.intro; refine ⟨fun _ => ?_, hK _ ?_⟩; (first | (first | (go_at_call 31 <;> exact HBT.out _) | (go_at_call 55 <;> exact HDT.out _))); clear hK K)))
        (refine g_quiet 11 (by kernel_rfl) rfl (fun K hK => ?_); first | ((first | (refine qB_CAtK H rfl _ _ rfl _ _ rfl (bc x.b) CB.out hbl _ Tryd.underlying26 rfl (sziBot2 x.b) (hK _ ?_))); clear hK K) | (go_simp; first | (refine hK _ ?_; clear hK K) | (apply Exists.intro; refine ⟨fun _ => ?_, hK _ ?_⟩; (first | (first | (go_at_call 31 <;> exact HBT.out _) | (go_at_call 55 <;> exact HDT.out _))); clear hK K)))
        (refine g_quiet 12 (by kernel_rfl) rfl (fun K hK => ?_); first | ((first | (refine qB_CAtK H rfl _ _ rfl _ _ rfl (bc x.b) CB.out hbl _ Tryd.underlying26 rfl (sziBot2 x.b) (hK _ ?_))); clear hK K) | (go_simp; first | (refine hK _ ?_; clear hK K) | (apply Exists.intro; refine ⟨fun _ => ?_, hK _ ?_⟩; (first | (first | (go_at_call 31 <;> exact HBT.out _) | (go_at_call 55 <;> exact HDT.out _))); clear hK K)))
        (refine g_quiet 13 (by kernel_rfl) rfl (fun K hK => ?_); first | ((first | (refine qB_CAtK H rfl _ _ rfl _ _ rfl (bc x.b) CB.out hbl _ Tryd.underlying26 rfl (sziBot2 x.b) (hK _ ?_))); clear hK K) | (go_simp; first | (refine hK _ ?_; clear hK K) | (apply Exists.intro; refine ⟨fun _ => ?_, hK _ ?_⟩; (first | (first | (go_at_call 31 <;> exact HBT.out _) | (go_at_call 55 <;> exact HDT.out _))); clear hK K)))
        (refine g_quiet 14 (by kernel_rfl) rfl (fun K hK => ?_); first | ((first | (refine qB_CAtK H rfl _ _ rfl _ _ rfl (bc x.b) CB.out hbl _ Tryd.underlying26 rfl (sziBot2 x.b) (hK _ ?_))); clear hK K) | (go_simp; first | (refine hK _ ?_; clear hK K) | (apply Exists.intro; refine ⟨fun _ => ?_, hK _ ?_⟩; (first | (first | (go_at_call 31 <;> exact HBT.out _) | (go_at_call 55 <;> exact HDT.out _))); clear hK K)))
        (refine g_quiet 15 (by kernel_rfl) rfl (fun K hK => ?_); first | ((first | (refine qB_CAtK H rfl _ _ rfl _ _ rfl (bc x.b) CB.out hbl _ Tryd.underlying26 rfl (sziBot2 x.b) (hK _ ?_))); clear hK K) | (go_simp; first | (refine hK _ ?_; clear hK K) | (apply Exists.intro; refine ⟨fun _ => ?_, hK _ ?_⟩; (first | (first | (go_at_call 31 <;> exact HBT.out _) | (go_at_call 55 <;> exact HDT.out _))); clear hK K)))
        (refine g_quiet 16 (by kernel_rfl) rfl (fun K hK => ?_); first | ((first | (refine qB_CAtK H rfl _ _ rfl _ _ rfl (bc x.b) CB.out hbl _ Tryd.underlying26 rfl (sziBot2 x.b) (hK _ ?_))); clear hK K) | (go_simp; first | (refine hK _ ?_; clear hK K) | (apply Exists.intro; refine ⟨fun _ => ?_, hK _ ?_⟩; (first | (first | (go_at_call 31 <;> exact HBT.out _) | (go_at_call 55 <;> exact HDT.out _))); clear hK K)))
        (refine g_quiet 17 (by kernel_rfl) rfl (fun K hK => ?_); first | ((first | (refine qB_CAtK H rfl _ _ rfl _ _ rfl (bc x.b) CB.out hbl _ Tryd.underlying26 rfl (sziBot2 x.b) (hK _ ?_))); clear hK K) | (go_simp; first | (refine hK _ ?_; clear hK K) | (apply Exists.intro; refine ⟨fun _ => ?_, hK _ ?_⟩; (first | (first | (go_at_call 31 <;> exact HBT.out _) | (go_at_call 55 <;> exact HDT.out _))); clear hK K)))
        refine g_done (by kernel_rfl) ?_
        rintro w1 hw1 -
        go_wp2
        go_roundw
        case rel => exact ⟨k + 1, _, by omega, by go_num, rfl, HE.out, bstep hb hw1⟩
        case measure => simp [intOf]; omega
    · obtain rfl : k = l.length := by omega
      go_wp2
      go_ret
      exact ⟨by rw [HS.out, List.take_length]; rfl, hb⟩
theorem sOrderText_any (b off c : Nat) (l : List Wt) (w : World) (hC : CAt w b off (fl wc l)) (hb : b < w.heap.size) (hn : l.length ≤ 1048576) :
    Calls Tryd.prog 16 #[.slice (some ⟨b, off, none⟩) l.length c] w fun e w' => e = .returned (.string ⟨(if ordOk l = true then ordT l else []).toArray⟩) ∧ Below w.heap.size w w' := by
  have HV := Lib.hid (l02Ok_any b off c l w hC hb (by omega))
  have HT := Lib.hid (fun h W (hW : Below w.heap.size w W) => l02Text_any b off c l W (hC.below hW hb) (Nat.lt_of_lt_of_le hb hW.size) h)
  clear hC hb
  generalize hT : (if ordOk l = true then ordT l else []) = t
  have H := Below.refl w.heap.size w
  cases e1 : ordOk l with
  | false =>
    have e2 := Lib.hid e1
    obtain rfl : t = [] := by rw [← hT, e1]; rfl
    clear hT e1
    go_enter Tryd.func16, Tryd.ntmps16
    go_wp2_with (go_at_call 40; go_loud (refine HV.out.mono ?_; rintro e w' ⟨rfl, hb⟩; rw [e2.out]; replace H := bstep H hb; clear hb))
    go_ret
    exact ⟨rfl, H⟩
  | true =>
    have e2 := Lib.hid e1
    obtain rfl : t = ordT l := by rw [← hT, e1]; rfl
    clear hT e1
    go_enter Tryd.func16, Tryd.ntmps16
    go_wp2_with (first | (go_at_call 40; go_loud (refine HV.out.mono ?_; rintro e w' ⟨rfl, hb⟩; rw [e2.out]; replace H := bstep H hb; clear hb)) | (go_at_call 41; go_loud (refine (HT.out e2.out _ H).mono ?_; rintro e w2 ⟨rfl, hb⟩; replace H := bstep H hb; clear hb)))
    go_ret
    exact ⟨rfl, H⟩
end Go.Proofs.YtbngpcghognojaaDoor
