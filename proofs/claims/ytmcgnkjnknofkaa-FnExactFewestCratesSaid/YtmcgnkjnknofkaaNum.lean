/- Contracts of the small functions on numbers: names of codes, crates for so many bottles, grosses. -/
import Derived.Test.YtmcgnkjnknofkaaSmall
import Derived.Handy
namespace Go.Proofs.Ytmcgnkjnknofkaa
open Go.RowKit
set_option linter.unusedVariables false
set_option linter.unusedSimpArgs false
set_option maxRecDepth 100000
set_option maxHeartbeats 1000000
theorem l01Many_any (n : Int) (w : World) : Calls Try.prog 45 #[.int .i64 n] w fun e w' => e = .returned (.bool (decide (0 ≤ n) && decide (n ≤ 1000000))) ∧ w = w' := by
  go_enter Try.func45, Try.ntmps45
  go_wp2_with (go_at_call 43; refine (l00In_any _ _ _ _).mono ?_; rintro e w' ⟨rfl, rfl⟩)
  go_ret
  exact ⟨rfl, rfl⟩
def fewR (n : Int) : Value := if decide (0 ≤ n) && decide (n ≤ 1000000) then .tuple #[.int .i64 ((n + 12 - 1) / 12), .int .i64 0] else .tuple #[.int .i64 0, .int .i64 2]
theorem sFewestCrates_any (n : Int) (w : World) : Calls Try.prog 17 #[.int .i64 n] w fun e w' => e = .returned (fewR n) ∧ w = w' := by
  cases h : decide (0 ≤ n) && decide (n ≤ 1000000) with
  | false =>
    go_enter Try.func17, Try.ntmps17
    go_wp2_with (go_at_call 45; refine (l01Many_any _ _).mono ?_; rintro e w' ⟨rfl, rfl⟩)
    refine bodyPost_ret (results_tt rfl) rfl ?_
    exact ⟨by simp only [fewR, h]; rfl, rfl⟩
  | true =>
    have h0 : 0 ≤ n := by simp at h; exact h.1
    have h1 : n ≤ 1000000 := by simp at h; exact h.2
    go_enter Try.func17, Try.ntmps17
    go_wp2_with (go_at_call 45; refine (l01Many_any _ _).mono ?_; rintro e w' ⟨rfl, rfl⟩)
    refine bodyPost_ret (results_tt rfl) rfl ?_
    exact ⟨by simp only [fewR, h]; rfl, rfl⟩
theorem FewestCrates_any (n : Int) (w : World) : Calls Try.prog 18 #[.int .i64 n] w fun e w' => e = .returned (fewR n) ∧ w = w' := by
  cases h : decide (0 ≤ n) && decide (n ≤ 1000000) with
  | false =>
    go_enter Try.func18, Try.ntmps18
    go_wp2_with (go_at_call 44; refine (within_any _ _ _ _).mono ?_; rintro e w' ⟨rfl, rfl⟩)
    refine bodyPost_ret (results_tt rfl) rfl ?_
    exact ⟨by simp only [fewR, h]; rfl, rfl⟩
  | true =>
    have h0 : 0 ≤ n := by simp at h; exact h.1
    have h1 : n ≤ 1000000 := by simp at h; exact h.2
    go_enter Try.func18, Try.ntmps18
    go_wp2_with (go_at_call 44; refine (within_any _ _ _ _).mono ?_; rintro e w' ⟨rfl, rfl⟩)
    refine bodyPost_ret (results_tt rfl) rfl ?_
    exact ⟨by simp only [fewR, h]; rfl, rfl⟩
theorem fewR_two (n : Int) : ∃ a b, fewR n = .tuple #[.int .i64 a, .int .i64 b] := by
  unfold fewR
  split
  · exact ⟨_, _, rfl⟩
  · exact ⟨_, _, rfl⟩
def grossR (n : Int) : Value := if decide (0 ≤ n) && decide (n ≤ 1000000) then .tuple #[.int .i64 (n / 144), .int .i64 (n % 144 / 12), .int .i64 (n % 12), .int .i64 0] else .tuple #[.int .i64 0, .int .i64 0, .int .i64 0, .int .i64 2]
theorem sGrossOf_any (n : Int) (w : World) : Calls Try.prog 19 #[.int .i64 n] w fun e w' => e = .returned (grossR n) ∧ w = w' := by
  cases h : decide (0 ≤ n) && decide (n ≤ 1000000) with
  | false =>
    go_enter Try.func19, Try.ntmps19
    go_wp2_with (go_at_call 45; refine (l01Many_any _ _).mono ?_; rintro e w' ⟨rfl, rfl⟩)
    refine bodyPost_ret (results_tttt rfl) rfl ?_
    exact ⟨by simp only [grossR, h]; rfl, rfl⟩
  | true =>
    have h0 : 0 ≤ n := by simp at h; exact h.1
    have h1 : n ≤ 1000000 := by simp at h; exact h.2
    go_enter Try.func19, Try.ntmps19
    go_wp2_with (go_at_call 45; refine (l01Many_any _ _).mono ?_; rintro e w' ⟨rfl, rfl⟩)
    refine bodyPost_ret (results_tttt rfl) rfl ?_
    exact ⟨by simp only [grossR, h]; rfl, rfl⟩
theorem GrossOf_any (n : Int) (w : World) : Calls Try.prog 20 #[.int .i64 n] w fun e w' => e = .returned (grossR n) ∧ w = w' := by
  cases h : decide (0 ≤ n) && decide (n ≤ 1000000) with
  | false =>
    go_enter Try.func20, Try.ntmps20
    go_wp2_with (go_at_call 44; refine (within_any _ _ _ _).mono ?_; rintro e w' ⟨rfl, rfl⟩)
    refine bodyPost_ret (results_tttt rfl) rfl ?_
    exact ⟨by simp only [grossR, h]; rfl, rfl⟩
  | true =>
    have h0 : 0 ≤ n := by simp at h; exact h.1
    have h1 : n ≤ 1000000 := by simp at h; exact h.2
    go_enter Try.func20, Try.ntmps20
    go_wp2_with (go_at_call 44; refine (within_any _ _ _ _).mono ?_; rintro e w' ⟨rfl, rfl⟩)
    refine bodyPost_ret (results_tttt rfl) rfl ?_
    exact ⟨by simp only [grossR, h]; rfl, rfl⟩
theorem grossR_four (n : Int) : ∃ a b c d, grossR n = .tuple #[.int .i64 a, .int .i64 b, .int .i64 c, .int .i64 d] := by
  unfold grossR
  split
  · exact ⟨_, _, _, _, rfl⟩
  · exact ⟨_, _, _, _, rfl⟩
def nameR (n : Int) : Value :=
  if n = 0 then .string ⟨#[111, 107]⟩ else if n = 1 then .string ⟨#[105, 110, 118, 97, 108, 105, 100]⟩ else if n = 2 then .string ⟨#[114, 97, 110, 103, 101]⟩ else if n = 3 then .string ⟨#[108, 105, 109, 105, 116]⟩
  else if n = 4 then .string ⟨#[115, 116, 97, 116, 101]⟩ else if n = 5 then .string ⟨#[115, 121, 110, 116, 97, 120]⟩ else if n = 6 then .string ⟨#[110, 111, 116, 102, 111, 117, 110, 100]⟩ else if n = 7 then .string ⟨#[98, 117, 100, 103, 101, 116]⟩
  else if n = 8 then .string ⟨#[112, 114, 111, 111, 102]⟩ else .string ⟨#[]⟩
theorem nameR_string (n : Int) : ∃ s, nameR n = .string s := by
  unfold nameR
  repeat (split; exact ⟨_, rfl⟩)
  exact ⟨_, rfl⟩
theorem sCodeName_any (n : Int) (w : World) : Calls Try.prog 15 #[.int .i64 n] w fun e w' => e = .returned (nameR n) ∧ Below w.heap.size w w' := by
  cases h : decide (0 ≤ n) && decide (n ≤ 8) with
  | false =>
    have HF : Hid (nameR n = .string ⟨#[]⟩) := by
      simp at h
      show _ = _
      unfold nameR
      repeat (rw [if_neg (by omega)])
    go_enter Try.func15, Try.ntmps15
    go_wp2_with (go_at_call 43; refine (l00In_any _ _ _ _).mono ?_; rintro e w' ⟨rfl, rfl⟩)
    go_ret
    exact ⟨by rw [HF.out]; rfl, by go_grown⟩
  | true =>
    have h2 : n = 0 ∨ n = 1 ∨ n = 2 ∨ n = 3 ∨ n = 4 ∨ n = 5 ∨ n = 6 ∨ n = 7 ∨ n = 8 := by simp at h; omega
    rcases h2 with rfl | rfl | rfl | rfl | rfl | rfl | rfl | rfl | rfl
    all_goals
      go_enter Try.func15, Try.ntmps15
      go_wp2_with (go_at_call 43; refine (l00In_any _ _ _ _).mono ?_; rintro e w' ⟨rfl, rfl⟩)
      go_ret
      exact ⟨rfl, by go_grown⟩
theorem CodeName_any (n : Int) (w : World) : Calls Try.prog 16 #[.int .i64 n] w fun e w' => e = .returned (nameR n) ∧ Below w.heap.size w w' := by
  cases h : decide (0 ≤ n) && decide (n ≤ 8) with
  | false =>
    have HF : Hid (nameR n = .string ⟨#[]⟩) := by
      simp at h
      show _ = _
      unfold nameR
      repeat (rw [if_neg (by omega)])
    go_enter Try.func16, Try.ntmps16
    go_wp2_with (go_at_call 44; refine (within_any _ _ _ _).mono ?_; rintro e w' ⟨rfl, rfl⟩)
    go_ret
    exact ⟨by rw [HF.out]; rfl, by go_grown⟩
  | true =>
    have h2 : n = 0 ∨ n = 1 ∨ n = 2 ∨ n = 3 ∨ n = 4 ∨ n = 5 ∨ n = 6 ∨ n = 7 ∨ n = 8 := by simp at h; omega
    rcases h2 with rfl | rfl | rfl | rfl | rfl | rfl | rfl | rfl | rfl
    all_goals
      go_enter Try.func16, Try.ntmps16
      go_wp2_with (go_at_call 44; refine (within_any _ _ _ _).mono ?_; rintro e w' ⟨rfl, rfl⟩)
      go_ret
      exact ⟨rfl, by go_grown⟩
end Go.Proofs.Ytmcgnkjnknofkaa
