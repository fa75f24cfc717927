/- Contracts of the readings of numbers: the reference's l01Number. -/
import Derived.Test.YtbngpcghognojaaDoorTextB
namespace Go.Proofs.YtbngpcghognojaaDoor
open Go Go.Sort Go.RowKit
set_option linter.unusedVariables false
set_option linter.unusedSimpArgs false
set_option maxRecDepth 100000
set_option maxHeartbeats 1000000
attribute [local go_sem] Oper.qB
theorem numR_none {l : List UInt8} (h : canon l = false ∨ 9 < l.length) : numR l = (0, false) := by
  unfold numR
  rw [if_neg]
  rw [Bool.and_eq_true, decide_eq_true_iff]
  rintro ⟨h1, h2⟩
  rcases h with h | h
  · rw [h] at h1
    cases h1
  · omega
theorem valF_lt : ∀ (l : List UInt8) (a : Nat), (∀ c ∈ l, isD c = true) → valF a l < (a + 1) * 10 ^ l.length
  | [], a, _ => by simp [valF]
  | c :: l, a, h => by
    have hc := isD_iff.1 (h c (List.mem_cons_self ..))
    have := valF_lt l (a * 10 + (c.toNat - 48)) (fun d hd => h d (List.mem_cons_of_mem _ hd))
    rw [valF_cons, List.length_cons, Nat.pow_succ]
    have h2 : (a * 10 + (c.toNat - 48) + 1) * 10 ^ l.length ≤ ((a + 1) * 10) * 10 ^ l.length := Nat.mul_le_mul_right _ (by omega)
    calc _ < _ := this
      _ ≤ _ := h2
      _ = _ := by rw [Nat.mul_assoc, Nat.mul_comm 10]
theorem size_text (l : List UInt8) : (⟨l.toArray⟩ : ByteArray).size = l.length := by show l.toArray.size = _; simp
theorem get_text (l : List UInt8) (i : Nat) (h : i < (⟨l.toArray⟩ : ByteArray).size) : (⟨l.toArray⟩ : ByteArray)[i] = l[i]! := by
  have hi : i < l.length := by rw [size_text] at h; exact h
  rw [getElem!_pos l i hi]
  show l.toArray[i] = _
  simp
theorem valD_step {l : List UInt8} {k : Nat} (hk : k < l.length) : valD (l.take (k + 1)) = valD (l.take k) * 10 + (l[k]!.toNat - 48) := by
  unfold valD
  rw [List.take_succ_eq_append_getElem hk, valF_snoc, getElem!_pos l k hk]
theorem l01Number_any (l : List UInt8) (w : World) (hl : l.length ≤ 1000000000) : Calls Tryd.prog 52 #[.string ⟨l.toArray⟩] w fun e w' => e = .returned (.tuple #[.int .i64 (numR l).1, .bool (numR l).2]) ∧ w = w' := by
  have hsz := size_text l
  have htl : (⟨l.toArray⟩ : ByteArray).toList = l := by simp
  have hget := get_text l
  by_cases h9 : 9 < l.length
  · have HF := Lib.hid (numR_none (.inr h9))
    have h9i : (9 : Int) < (l.length : Int) := by omega
    have hne : (l == []) = false := by cases l with | nil => simp at h9 | cons c r => rfl
    clear hget
    generalize (⟨l.toArray⟩ : ByteArray) = S at hsz htl ⊢
    go_enter Tryd.func52, Tryd.ntmps52
    go_wp2
    rw [HF.out]
    exact bodyPost_ret (results_tt rfl) rfl ⟨rfl, rfl⟩
  by_cases hnil : l = []
  · have HF : Hid (numR l = (0, false)) := numR_none (.inl (by rw [hnil]; rfl))
    have hne : (l == []) = true := by rw [hnil]; rfl
    clear hget
    generalize (⟨l.toArray⟩ : ByteArray) = S at hsz htl ⊢
    replace hnil := Lib.hid hnil
    go_enter Tryd.func52, Tryd.ntmps52
    go_wp2
    rw [HF.out]
    exact bodyPost_ret (results_tt rfl) rfl ⟨rfl, rfl⟩
  have hpos : 0 < l.length := List.length_pos_iff.2 hnil
  have hne : (l == []) = false := by cases l with | nil => exact absurd rfl hnil | cons c r => rfl
  have h9i : ¬ (9 : Int) < (l.length : Int) := by omega
  have hpi : (0 : Int) < (l.length : Int) := by omega
  replace hget := Lib.hid hget
  generalize hS : (⟨l.toArray⟩ : ByteArray) = S at hsz htl hget ⊢
  replace hS := Lib.hid hS
  have h0 : ∀ h : 0 < S.size, S[0] = l[0]! := fun h => hget.out 0 h
  have hhd : Hid (l.head? = some l[0]!) := by
    rw [Hid]
    cases l with
    | nil => exact absurd rfl hnil
    | cons c r => rfl
  replace hnil := Lib.hid hnil
  generalize l[0]! = c0 at h0 hhd
  by_cases hz : c0.toNat = 48
  · have e1 : (c0.toNat : Int) = 48 := by omega
    have hc48 : c0 = 48 := UInt8.toNat_inj.1 (by rw [hz]; rfl)
    replace hz := Lib.hid hz
    by_cases h1 : 1 < l.length
    · have HF := Lib.hid (numR_none (l := l) (.inl (by
        rw [← Bool.not_eq_true, canon_iff]
        rintro ⟨_, _, h | h⟩
        · omega
        · exact h (by rw [hhd.out, hc48]))))
      have e2 : (1 : Int) < (l.length : Int) := by omega
      replace hc48 := Lib.hid hc48
      go_enter Tryd.func52, Tryd.ntmps52
      go_wp2
      rw [HF.out]
      exact bodyPost_ret (results_tt rfl) rfl ⟨rfl, rfl⟩
    have HZ : Hid (l.length = 1 ∨ l.head? ≠ some 48) := .inl (by omega)
    have e2 : ¬ (1 : Int) < (l.length : Int) := by omega
    replace hc48 := Lib.hid hc48
    go_enter Tryd.func52, Tryd.ntmps52
    go_wp2
    go_loopw [4, 5] (fun n i wr => ∃ k : Nat, k ≤ l.length ∧ i = .int .i64 k ∧ n = .int .i64 (valD (l.take k) : Nat) ∧ Hid (∀ c ∈ l.take k, isD c = true) ∧ w = wr) (fun _ i _ => l.length - (intOf i).toNat)
    case atStart => exact ⟨0, Nat.zero_le _, rfl, rfl, fun c hc => by simp at hc, rfl⟩
    case round =>
      obtain ⟨k, hk, rfl, rfl, HD, rfl⟩ := hrel
      by_cases hlt : k < l.length
      · have hk2 : (k : Int) < (l.length : Int) := by omega
        have hgk : ∀ h : k < S.size, S[k] = l[k]! := fun h => hget.out k h
        have HV := Lib.hid (valD_step hlt)
        have HT : Hid (l.take (k + 1) = l.take k ++ [l[k]!]) := by rw [Hid, List.take_succ_eq_append_getElem hlt, getElem!_pos l k hlt]
        have HM : Hid (l[k]! ∈ l) := by rw [Hid, getElem!_pos l k hlt]; exact List.getElem_mem hlt
        have hvl := valF_lt (l.take k) 0 HD.out
        have hpw : 10 ^ (l.take k).length ≤ 10 ^ 9 := Nat.pow_le_pow_right (by decide) (by simp; omega)
        have hv9 : valD (l.take k) < 1000000000 := by
          unfold valD
          rw [Nat.zero_add, Nat.one_mul] at hvl
          omega
        clear hvl hpw
        generalize l[k]! = c at hgk HV HT HM
        generalize valD (l.take k) = v at HV hv9
        by_cases hd : isD c = true
        · have hc := isD_iff.1 hd
          have c1 : ¬ ((c.toNat : Int) < 48) := by omega
          have c2 : ¬ ((57 : Int) < (c.toNat : Int)) := by omega
          have w1 : IntKind.i64.wrap (10 * (v : Int)) = 10 * (v : Int) := by rw [IntKind.wrap_i64]; omega
          have w2 : IntKind.u8.wrap ((c.toNat : Int) - 48) = (c.toNat : Int) - 48 := by rw [IntKind.wrap_u8]; omega
          have w3 : IntKind.i64.wrap ((c.toNat : Int) - 48) = (c.toNat : Int) - 48 := by rw [IntKind.wrap_i64]; omega
          have w4 : IntKind.i64.wrap (10 * (v : Int) + ((c.toNat : Int) - 48)) = 10 * (v : Int) + ((c.toNat : Int) - 48) := by rw [IntKind.wrap_i64]; omega
          have HDD : Hid (∀ d ∈ l.take (k + 1), isD d = true) := by
            rw [Hid, HT.out]
            intro d hd'
            rcases List.mem_append.1 hd' with q | q
            · exact HD.out d q
            · obtain rfl := List.mem_singleton.1 q
              exact hd
          replace hc := Lib.hid hc
          go_wp2
          go_roundw
          case rel => exact ⟨k + 1, by omega, by go_num, congrArg (Value.int .i64) (by rw [HV.out]; have := hc.out; omega), HDD.out, trivial⟩
          case measure => simp [intOf]; omega
        · have HF := Lib.hid (numR_none (l := l) (.inl (by
            rw [← Bool.not_eq_true, canon_iff]
            rintro ⟨_, h, _⟩
            exact hd (h c HM.out))))
          by_cases hlo : c.toNat < 48
          · have c1 : (c.toNat : Int) < 48 := by omega
            go_wp2
            rw [HF.out]
            exact bodyPost_ret (results_tt rfl) rfl ⟨rfl, rfl⟩
          · have c1 : ¬ ((c.toNat : Int) < 48) := by omega
            have c2 : (57 : Int) < (c.toNat : Int) := by
              have : ¬ (48 ≤ c.toNat ∧ c.toNat ≤ 57) := fun h => hd (isD_iff.2 h)
              omega
            go_wp2
            rw [HF.out]
            exact bodyPost_ret (results_tt rfl) rfl ⟨rfl, rfl⟩
      · obtain rfl : k = l.length := by omega
        rw [List.take_length] at HD ⊢
        have HF : Hid (numR l = ((valD l : Int), true)) := by
          unfold Hid numR
          rw [if_pos]
          rw [Bool.and_eq_true, decide_eq_true_iff, canon_iff]
          exact ⟨⟨hnil.out, HD.out, HZ.out⟩, by omega⟩
        go_wp2
        rw [HF.out]
        exact bodyPost_ret (results_tt rfl) rfl ⟨rfl, rfl⟩
  · have e1 : ¬ (c0.toNat : Int) = 48 := by omega
    have HZ : Hid (l.length = 1 ∨ l.head? ≠ some 48) := .inr (by
      rw [hhd.out]
      intro h
      exact hz (by rw [Option.some.inj h]; rfl))
    replace hz := Lib.hid hz
    go_enter Tryd.func52, Tryd.ntmps52
    go_wp2
    go_loopw [4, 5] (fun n i wr => ∃ k : Nat, k ≤ l.length ∧ i = .int .i64 k ∧ n = .int .i64 (valD (l.take k) : Nat) ∧ Hid (∀ c ∈ l.take k, isD c = true) ∧ w = wr) (fun _ i _ => l.length - (intOf i).toNat)
    case atStart => exact ⟨0, Nat.zero_le _, rfl, rfl, fun c hc => by simp at hc, rfl⟩
    case round =>
      obtain ⟨k, hk, rfl, rfl, HD, rfl⟩ := hrel
      by_cases hlt : k < l.length
      · have hk2 : (k : Int) < (l.length : Int) := by omega
        have hgk : ∀ h : k < S.size, S[k] = l[k]! := fun h => hget.out k h
        have HV := Lib.hid (valD_step hlt)
        have HT : Hid (l.take (k + 1) = l.take k ++ [l[k]!]) := by rw [Hid, List.take_succ_eq_append_getElem hlt, getElem!_pos l k hlt]
        have HM : Hid (l[k]! ∈ l) := by rw [Hid, getElem!_pos l k hlt]; exact List.getElem_mem hlt
        have hvl := valF_lt (l.take k) 0 HD.out
        have hpw : 10 ^ (l.take k).length ≤ 10 ^ 9 := Nat.pow_le_pow_right (by decide) (by simp; omega)
        have hv9 : valD (l.take k) < 1000000000 := by
          unfold valD
          rw [Nat.zero_add, Nat.one_mul] at hvl
          omega
        clear hvl hpw
        generalize l[k]! = c at hgk HV HT HM
        generalize valD (l.take k) = v at HV hv9
        by_cases hd : isD c = true
        · have hc := isD_iff.1 hd
          have c1 : ¬ ((c.toNat : Int) < 48) := by omega
          have c2 : ¬ ((57 : Int) < (c.toNat : Int)) := by omega
          have w1 : IntKind.i64.wrap (10 * (v : Int)) = 10 * (v : Int) := by rw [IntKind.wrap_i64]; omega
          have w2 : IntKind.u8.wrap ((c.toNat : Int) - 48) = (c.toNat : Int) - 48 := by rw [IntKind.wrap_u8]; omega
          have w3 : IntKind.i64.wrap ((c.toNat : Int) - 48) = (c.toNat : Int) - 48 := by rw [IntKind.wrap_i64]; omega
          have w4 : IntKind.i64.wrap (10 * (v : Int) + ((c.toNat : Int) - 48)) = 10 * (v : Int) + ((c.toNat : Int) - 48) := by rw [IntKind.wrap_i64]; omega
          have HDD : Hid (∀ d ∈ l.take (k + 1), isD d = true) := by
            rw [Hid, HT.out]
            intro d hd'
            rcases List.mem_append.1 hd' with q | q
            · exact HD.out d q
            · obtain rfl := List.mem_singleton.1 q
              exact hd
          replace hc := Lib.hid hc
          go_wp2
          go_roundw
          case rel => exact ⟨k + 1, by omega, by go_num, congrArg (Value.int .i64) (by rw [HV.out]; have := hc.out; omega), HDD.out, trivial⟩
          case measure => simp [intOf]; omega
        · have HF := Lib.hid (numR_none (l := l) (.inl (by
            rw [← Bool.not_eq_true, canon_iff]
            rintro ⟨_, h, _⟩
            exact hd (h c HM.out))))
          by_cases hlo : c.toNat < 48
          · have c1 : (c.toNat : Int) < 48 := by omega
            go_wp2
            rw [HF.out]
            exact bodyPost_ret (results_tt rfl) rfl ⟨rfl, rfl⟩
          · have c1 : ¬ ((c.toNat : Int) < 48) := by omega
            have c2 : (57 : Int) < (c.toNat : Int) := by
              have : ¬ (48 ≤ c.toNat ∧ c.toNat ≤ 57) := fun h => hd (isD_iff.2 h)
              omega
            go_wp2
            rw [HF.out]
            exact bodyPost_ret (results_tt rfl) rfl ⟨rfl, rfl⟩
      · obtain rfl : k = l.length := by omega
        rw [List.take_length] at HD ⊢
        have HF : Hid (numR l = ((valD l : Int), true)) := by
          unfold Hid numR
          rw [if_pos]
          rw [Bool.and_eq_true, decide_eq_true_iff, canon_iff]
          exact ⟨⟨hnil.out, HD.out, HZ.out⟩, by omega⟩
        go_wp2
        rw [HF.out]
        exact bodyPost_ret (results_tt rfl) rfl ⟨rfl, rfl⟩
end Go.Proofs.YtbngpcghognojaaDoor
