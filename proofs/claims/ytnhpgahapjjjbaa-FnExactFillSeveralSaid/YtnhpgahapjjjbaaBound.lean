/- Contracts of FewestOpen and OpenBound. -/
import Derived.Test.YtnhpgahapjjjbaaFewest
namespace Go.Proofs.Ytnhpgahapjjjbaa
open Go.RowKit
set_option linter.unusedVariables false
set_option linter.unusedSimpArgs false
set_option maxRecDepth 100000
set_option maxHeartbeats 1000000
attribute [local go_sem] Oper.qB
def fewR (lc : List Cr) (l : List Wt) : List Int × Int := if fillI lc l = 0 then ((fewS lc l).1, 0) else ([], fillI lc l)
def bndK (lc : List Cr) (l : List Wt) : Nat → Int
  | 0 => 0
  | k + 1 => max (bndK lc l k) ((fewS lc [l[k]!]).1.length : Int)
def boundR (lc : List Cr) (l : List Wt) : Int × Int := if fillI lc l = 0 then (bndK lc l l.length, 0) else (0, fillI lc l)
theorem fewS_le (lc : List Cr) (l : List Wt) : (fewS lc l).1.length ≤ lc.length := fewS_good.le
theorem fewR_le (lc : List Cr) (l : List Wt) : (fewR lc l).1.length ≤ 12 := by
  unfold fewR
  split
  · rename_i h
    rcases fillI_cases lc l with ⟨_, h1, h2⟩ | e | e
    · have := fewS_le lc l
      have := (ask_le h1).1
      show (fewS lc l).1.length ≤ 12
      omega
    · rw [e] at h; cases h
    · rw [e] at h; cases h
  · simp
theorem lack_one {f : Bt → Nat} {l : List Wt} (h : lackL f l = []) {x : Wt} (hx : x ∈ l) : lackL f [x] = [] := by
  unfold lackL at *
  rw [List.flatMap_eq_nil_iff] at h
  simp [h x hx]
theorem bndK_le (lc : List Cr) (l : List Wt) : ∀ k, 0 ≤ bndK lc l k ∧ bndK lc l k ≤ lc.length
  | 0 => by simp [bndK]
  | k + 1 => by
    have := bndK_le lc l k
    have := fewS_le lc [l[k]!]
    rw [bndK]
    omega
theorem FewestOpen_any (g0 c0 : Nat) (lc : List Cr) (g1 c1 : Nat) (l : List Wt) (w : World) (K0 : Lies cc w g0 lc) (K1 : Lies wc w g1 l) (hn : lc.length ≤ 1048576) (hl : l.length ≤ 1048576) :
    Calls Try.prog 28 #[.slice (some ⟨g0, 0, none⟩) lc.length c0, .slice (some ⟨g1, 0, none⟩) l.length c1] w fun e w' => ∃ v, e = .returned (.tuple #[v, .int .i64 (fewR lc l).2]) ∧ OwnN iv w' w.heap.size 2 1 v (fewR lc l).1 ∧ Below w.heap.size w w' := by
  have H := Below.refl w.heap.size w
  replace K0 := Lib.hid K0
  replace K1 := Lib.hid K1
  rcases fillI_cases lc l with ⟨e, ha, hf⟩ | e | e
  rotate_left
  all_goals try (
    have HF := Lib.hid (show fewR lc l = ([], fillI lc l) by rw [fewR, if_neg (by rw [e]; decide)])
    have HI := Lib.hid e
    rw [HI.out] at HF
    clear e
    go_enter Try.func28, Try.ntmps28
    go_wp2_with (go_at_call 78; with_reducible refine (fillCode_any g0 c0 lc g1 c1 l _ (K0.out.below H) (K1.out.below H) hn hl).mono ?_; rintro e w' ⟨rfl, hb⟩; rw [HI.out]; replace H := bstep H hb; clear hb)
    rw [HF.out]
    exact bodyPost_ret (results_tt rfl) rfl ⟨_, rfl, OwnN.nil, H⟩)
  have HF := Lib.hid (show fewR lc l = ((fewS lc l).1, 0) by rw [fewR, if_pos e])
  have HI := Lib.hid e
  have HZ := Lib.hid hf
  have h8 := ask_le ha
  clear e ha hf
  go_enter Try.func28, Try.ntmps28
  go_wp2_with (first | (go_at_call 78; with_reducible refine (fillCode_any g0 c0 lc g1 c1 l _ (K0.out.below H) (K1.out.below H) hn hl).mono ?_; rintro e w' ⟨rfl, hb⟩; rw [HI.out]; replace H := bstep H hb; clear hb) | (go_at_call 79; with_reducible refine (fewest_any _ c0 lc g1 0 c1 l _ (K0.out.below H).rd (K1.out.below H).c (K1.out.below H).lt h8.1 h8.2 HZ.out).mono ?_; rintro e w2 ⟨v2, rfl, O2, hb⟩; replace O2 := O2.down H.size; replace H := bstep H hb; clear hb))
  rw [HF.out]
  exact bodyPost_ret (results_tt rfl) rfl ⟨_, rfl, O2, H⟩
theorem sFewestOpen_any (g0 c0 : Nat) (lc : List Cr) (g1 c1 : Nat) (l : List Wt) (w : World) (K0 : Lies cc w g0 lc) (K1 : Lies wc w g1 l) (hn : lc.length ≤ 1048576) (hl : l.length ≤ 1048576) :
    Calls Try.prog 27 #[.slice (some ⟨g0, 0, none⟩) lc.length c0, .slice (some ⟨g1, 0, none⟩) l.length c1] w fun e w' => ∃ v, e = .returned (.tuple #[v, .int .i64 (fewR lc l).2]) ∧ OwnN iv w' w.heap.size 2 1 v (fewR lc l).1 ∧ Below w.heap.size w w' := by
  have H := Below.refl w.heap.size w
  replace K0 := Lib.hid K0
  replace K1 := Lib.hid K1
  rcases fillI_cases lc l with ⟨e, ha, hf⟩ | e | e
  rotate_left
  all_goals try (
    have HF := Lib.hid (show fewR lc l = ([], fillI lc l) by rw [fewR, if_neg (by rw [e]; decide)])
    have HI := Lib.hid e
    rw [HI.out] at HF
    clear e
    go_enter Try.func27, Try.ntmps27
    go_wp2_with (go_at_call 74; with_reducible refine (l02Filled_any g0 c0 lc g1 c1 l _ (K0.out.below H) (K1.out.below H) hn hl).mono ?_; rintro e w' ⟨rfl, hb⟩; rw [HI.out]; replace H := bstep H hb; clear hb)
    rw [HF.out]
    exact bodyPost_ret (results_tt rfl) rfl ⟨_, rfl, (OwnS.lit (f := iv) H.size).n, H.alloc H.size _⟩)
  have HF := Lib.hid (show fewR lc l = ((fewS lc l).1, 0) by rw [fewR, if_pos e])
  have HI := Lib.hid e
  have h8 := ask_le ha
  clear e ha hf
  go_enter Try.func27, Try.ntmps27
  go_wp2_with (first | (go_at_call 74; with_reducible refine (l02Filled_any g0 c0 lc g1 c1 l _ (K0.out.below H) (K1.out.below H) hn hl).mono ?_; rintro e w' ⟨rfl, hb⟩; rw [HI.out]; replace H := bstep H hb; clear hb) | (go_at_call 75; with_reducible refine (l02Fewest_any _ c0 lc g1 0 c1 l _ (K0.out.below H).rd (K1.out.below H).c (K1.out.below H).lt h8.1 h8.2).mono ?_; rintro e w2 ⟨v2, rfl, O2, hb⟩; replace O2 := O2.down H.size; replace H := bstep H hb; clear hb))
  rw [HF.out]
  exact bodyPost_ret (results_tt rfl) rfl ⟨_, rfl, O2.n, H⟩
theorem OpenBound_any (g0 c0 : Nat) (lc : List Cr) (g1 c1 : Nat) (l : List Wt) (w : World) (K0 : Lies cc w g0 lc) (K1 : Lies wc w g1 l) (hn : lc.length ≤ 1048576) (hl : l.length ≤ 1048576) :
    Calls Try.prog 24 #[.slice (some ⟨g0, 0, none⟩) lc.length c0, .slice (some ⟨g1, 0, none⟩) l.length c1] w fun e w' => e = .returned (.tuple #[.int .i64 (boundR lc l).1, .int .i64 (boundR lc l).2]) ∧ Below w.heap.size w w' := by
  have H := Below.refl w.heap.size w
  replace K0 := Lib.hid K0
  replace K1 := Lib.hid K1
  rcases fillI_cases lc l with ⟨e, ha, hf⟩ | e | e
  rotate_left
  all_goals try (
    have HF := Lib.hid (show boundR lc l = (0, fillI lc l) by rw [boundR, if_neg (by rw [e]; decide)])
    have HI := Lib.hid e
    rw [HI.out] at HF
    clear e
    go_enter Try.func24, Try.ntmps24
    go_wp2_with (go_at_call 78; with_reducible refine (fillCode_any g0 c0 lc g1 c1 l _ (K0.out.below H) (K1.out.below H) hn hl).mono ?_; rintro e w' ⟨rfl, hb⟩; rw [HI.out]; replace H := bstep H hb; clear hb)
    rw [HF.out]
    exact bodyPost_ret (results_tt rfl) rfl ⟨rfl, H⟩)
  have HF := Lib.hid (show boundR lc l = (bndK lc l l.length, 0) by rw [boundR, if_pos e])
  have HI := Lib.hid e
  have HZ := Lib.hid hf
  have h8 := ask_le ha
  clear e ha hf
  go_enter Try.func24, Try.ntmps24
  go_wp2_with (go_at_call 78; with_reducible refine (fillCode_any g0 c0 lc g1 c1 l _ (K0.out.below H) (K1.out.below H) hn hl).mono ?_; rintro e w' ⟨rfl, hb⟩; rw [HI.out]; replace H := bstep H hb; clear hb)
  go_loopw [7, 18] (fun m i wr => ∃ k : Nat, k ≤ l.length ∧ i = .int .i64 k ∧ m = .int .i64 (bndK lc l k) ∧ Hid (Below w.heap.size w wr)) (fun _ i _ => l.length - (intOf i).toNat)
  case atStart => exact ⟨0, Nat.zero_le _, rfl, rfl, H⟩
  case round =>
    clear H
    obtain ⟨k, hk, rfl, rfl, HQ⟩ := hrel
    by_cases hlt : k < l.length
    · have HX := (K1.out.below HQ.out).c.el wc_length hlt
      rw [Nat.zero_add] at HX
      have HB : Hid (bndK lc l (k + 1) = max (bndK lc l k) ((fewS lc [l[k]!]).1.length : Int)) := rfl
      have HLO := lack_one HZ.out (x := l[k]!) (by rw [getB hlt]; exact List.getElem_mem hlt)
      have hlt2 : (k : Int) < (l.length : Int) := by omega
      generalize l[k]! = x at HX HB HLO
      have hbd := bndK_le lc l k
      generalize bndK lc l k = m at HB hbd ⊢
      have x0 : wr.cell? ⟨g1, k * 3, none⟩ = some (.int .u8 x.b.k) := HX 0 _ rfl
      have x1 : wr.cell? ⟨g1, k * 3 + 1, none⟩ = some (.int .i16 x.b.y) := HX 1 _ rfl
      have x2 : wr.cell? ⟨g1, k * 3 + 2, none⟩ = some (.int .i16 x.n) := HX 2 _ rfl
      go_upto_region 8 with fail
      generalize hW1 : World.alloc _ _ = W1
      have hg : Below wr.heap.size wr W1 := by rw [← hW1]; go_grown
      have r4 : rowOf W1 wr.heap.size = some (wc x).toArray := by rw [← hW1, rowOf_alloc, if_pos rfl]; rfl
      have HQ1 := Lib.hid (bstep HQ.out hg)
      clear hW1 x0 x1 x2 hg HQ HX
      generalize wr.heap.size = g4 at r4 ⊢
      have z0 : W1.cell? ⟨g4, 0, none⟩ = some (.int .u8 x.b.k) := rowOf_cell r4 0
      have z1 : W1.cell? ⟨g4, 1, none⟩ = some (.int .i16 x.b.y) := rowOf_cell r4 1
      have z2 : W1.cell? ⟨g4, 2, none⟩ = some (.int .i16 x.n) := rowOf_cell r4 2
      have H := Below.refl W1.heap.size W1
      have K0w := Lib.hid (K0.out.below HQ1.out)
      have hle := fewS_le lc [x]
      have HFW := fun c W hr hC hb1 => fewest_any (some ⟨g0, 0, none⟩) c0 lc W1.heap.size 0 c [x] W hr hC hb1 h8.1 (by simp) HLO
      generalize (fewS lc [x]).1 = ks at HB hle HFW
      have HFW2 := Lib.hid HFW
      clear HFW HLO
      go_wp2_with (go_at_call 79; refine (HFW2.out 1 _ ?hr ?hC ?hb).mono ?_; (case hr => exact (K0w.out.below ((Below.refl _ W1).alloc (Nat.le_refl _) _)).rd); (case hC => rw [fl_one]; exact CAt.of_row (by rw [rowOf_alloc, if_pos (by simp)]; rfl)); (case hb => simp); rintro e w2 ⟨v2, rfl, O2, hb⟩; obtain ⟨A2, c2, rfl, -, -⟩ := O2.rd; have hb5 := ((Below.refl W1.heap.size W1).alloc (Nat.le_refl _) _).trans (hb.mono (by simp)); clear hb O2)
      go_roundw
      case rel => exact ⟨k + 1, by omega, by go_num, by rw [HB.out], bstep HQ1.out hb5⟩
      case measure => simp [intOf]; omega
    · obtain rfl : k = l.length := by omega
      go_wp2
      rw [HF.out]
      exact bodyPost_ret (results_tt rfl) rfl ⟨rfl, HQ.out⟩
theorem l00Max_any (a b : Int) (w : World) : Calls Try.prog 76 #[.int .i64 a, .int .i64 b] w fun e w' => e = .returned (.int .i64 (max a b)) ∧ w = w' := by
  rcases (by omega : b < a ∨ a ≤ b) with h | h
  · have HF := Lib.hid (show max a b = a by omega)
    go_enter Try.func76, Try.ntmps76
    go_wp2
    go_ret
    exact ⟨by rw [HF.out]; rfl, rfl⟩
  · have HF := Lib.hid (show max a b = b by omega)
    have h2 : ¬ b < a := by omega
    go_enter Try.func76, Try.ntmps76
    go_wp2
    go_ret
    exact ⟨by rw [HF.out]; rfl, rfl⟩
theorem sOpenBound_any (g0 c0 : Nat) (lc : List Cr) (g1 c1 : Nat) (l : List Wt) (w : World) (K0 : Lies cc w g0 lc) (K1 : Lies wc w g1 l) (hc1 : l.length ≤ c1) (hn : lc.length ≤ 1048576) (hl : l.length ≤ 1048576) :
    Calls Try.prog 21 #[.slice (some ⟨g0, 0, none⟩) lc.length c0, .slice (some ⟨g1, 0, none⟩) l.length c1] w fun e w' => e = .returned (.tuple #[.int .i64 (boundR lc l).1, .int .i64 (boundR lc l).2]) ∧ Below w.heap.size w w' := by
  have H := Below.refl w.heap.size w
  replace K0 := Lib.hid K0
  replace K1 := Lib.hid K1
  rcases fillI_cases lc l with ⟨e, ha, hf⟩ | e | e
  rotate_left
  all_goals try (
    have HF := Lib.hid (show boundR lc l = (0, fillI lc l) by rw [boundR, if_neg (by rw [e]; decide)])
    have HI := Lib.hid e
    rw [HI.out] at HF
    clear e
    go_enter Try.func21, Try.ntmps21
    go_wp2_with (go_at_call 74; with_reducible refine (l02Filled_any g0 c0 lc g1 c1 l _ (K0.out.below H) (K1.out.below H) hn hl).mono ?_; rintro e w' ⟨rfl, hb⟩; rw [HI.out]; replace H := bstep H hb; clear hb)
    rw [HF.out]
    exact bodyPost_ret (results_tt rfl) rfl ⟨rfl, H⟩)
  have HF := Lib.hid (show boundR lc l = (bndK lc l l.length, 0) by rw [boundR, if_pos e])
  have HI := Lib.hid e
  have HZ := Lib.hid hf
  have h8 := ask_le ha
  clear e ha hf
  go_enter Try.func21, Try.ntmps21
  go_wp2_with (go_at_call 74; with_reducible refine (l02Filled_any g0 c0 lc g1 c1 l _ (K0.out.below H) (K1.out.below H) hn hl).mono ?_; rintro e w' ⟨rfl, hb⟩; rw [HI.out]; replace H := bstep H hb; clear hb)
  go_loopw [7, 8] (fun m i wr => ∃ k : Nat, k ≤ l.length ∧ i = .int .i64 k ∧ m = .int .i64 (bndK lc l k) ∧ Hid (Below w.heap.size w wr)) (fun _ i _ => l.length - (intOf i).toNat)
  case atStart => exact ⟨0, Nat.zero_le _, rfl, rfl, H⟩
  case round =>
    clear H
    obtain ⟨k, hk, rfl, rfl, HQ⟩ := hrel
    by_cases hlt : k < l.length
    · have HX := (K1.out.below HQ.out).c.el wc_length hlt
      rw [Nat.zero_add] at HX
      have HB : Hid (bndK lc l (k + 1) = max (bndK lc l k) ((fewS lc [l[k]!]).1.length : Int)) := rfl
      have HLO := lack_one HZ.out (x := l[k]!) (by rw [getB hlt]; exact List.getElem_mem hlt)
      have hlt2 : (k : Int) < (l.length : Int) := by omega
      generalize l[k]! = x at HX HB HLO
      have hbd := bndK_le lc l k
      generalize bndK lc l k = m at HB hbd ⊢
      have hle := fewS_le lc [x]
      have HXw := Lib.hid (⟨HX, (K1.out.below HQ.out).lt⟩ : _ ∧ _)
      have K0w := Lib.hid (K0.out.below HQ.out)
      have HFW := fun c => l02Fewest_any (some ⟨g0, 0, none⟩) c0 lc g1 (k * 3) c [x] wr K0w.out.rd (by rw [fl_one]; exact HXw.out.1) HXw.out.2 h8.1 (by simp)
      generalize (fewS lc [x]).1 = ks at HB hle HFW
      generalize (fewS lc [x]).2 = fd at HFW
      have hxl : [x].length = 1 := rfl
      rw [hxl] at HFW
      have HFW2 := Lib.hid HFW
      have hMax := fun W => l00Max_any m (ks.length : Int) W
      have hk3 : (k : Int) + 1 ≤ c1 := by omega
      have H := Below.refl wr.heap.size wr
      clear HFW HLO HX hxl
      go_wp2_with (first | (go_at_call 75; with_reducible refine (HFW2.out _).mono ?_; rintro e w2 ⟨v2, rfl, O2, hb⟩; obtain ⟨g5, c5, rfl, -⟩ := O2.lies; replace H := bstep H hb; clear hb O2) | (go_at_call 76; with_reducible refine (hMax _).mono ?_; rintro e w2 ⟨rfl, rfl⟩))
      go_roundw
      case rel => exact ⟨k + 1, by omega, by go_num, by rw [HB.out], bstep HQ.out H⟩
      case measure => simp [intOf]; omega
    · obtain rfl : k = l.length := by omega
      go_wp2
      rw [HF.out]
      exact bodyPost_ret (results_tt rfl) rfl ⟨rfl, HQ.out⟩
end Go.Proofs.Ytnhpgahapjjjbaa
