/- Texts of the claim, joined (21 of 22): SrcO, SrcQ, SrcP, BottleS, MarkBt, TakeO, FillO, Sev, OwnR, A2. -/
import Derived.Test.YtbngpcghognojaaGreatDoorBO5
import Derived.Test.YtbngpcghognojaaGreatDoorBO6
import Derived.Test.YtbngpcghognojaaGreatDoorBO7
import Derived.Test.YtbngpcghognojaaGreatDoorBO9
import Derived.Test.YtbngpcghognojaaGreatDoorBO10
import Derived.Test.YtbngpcghognojaaGreatDoorBO11
import Derived.Test.YtbngpcghognojaaGreatDoorBO12
import Derived.Test.YtbngpcghognojaaGreatDoorBO13
import Derived.Test.YtbngpcghognojaaGreatDoorBO16
import Derived.Test.YtbngpcghognojaaGreatDoorBO17
import Derived.Test.YtbngpcghognojaaGreatDoorBO20
namespace Go.Proofs.YtbngpcghognojaaGreatDoor
open Go Go.RowKit
set_option linter.unusedVariables false
set_option linter.unusedSimpArgs false
set_option maxRecDepth 100000
set_option maxHeartbeats 4000000
attribute [local go_sem] Oper.qB Oper.qK
section
variable {w w' : World} {g c : Nat} {A : Option Addr} {l : List Int} {s : Nat × Int}
theorem Src.belowB {B : Nat} (h : Src w g A c l s) (hb : Below B w w') (hg : g < B) (hA : ∀ a, A = some a → u8v l ≠ [] → a.block < B) : Src w' g A c l s := by
  refine ⟨by rw [rowOf_below hb hg]; exact h.row, ?_, h.ne, h.byte, h.len, h.seed⟩
  by_cases h0 : u8v l = []
  · exact .inl h0
  · rcases h.rd with h1 | ⟨b, off, e, hl, hC⟩
    · exact .inl h1
    · exact .inr ⟨b, off, e, Nat.lt_of_lt_of_le hl hb.size, hC.below hb (hA _ e h0)⟩
theorem But.below {B : Nat} (h : But g w w') (hB : B ≤ g) (hw : B ≤ w.heap.size) : Below B w w' :=
  ⟨h.1.os, h.1.tape, h.1.output, h.1.size, fun k hk => h.2 k (by omega) (fun e => by
    have e1 : g = k := by simpa [Value.ownBlock] using e
    omega)⟩
theorem OwnS.buts {α : Type} {f : α → List Value} {B e size : Nat} {v : Value} {xs : List α} (h : OwnS f w B e size v xs) (hb : But g w w') (hB : g < B) : OwnS f w' B e size v xs :=
  ⟨OwnN.but h.1 hb (fun b h1 h2 => by
    have e1 : g = b := by simpa [Value.ownBlock] using h1
    have := own_base h.1 b h2
    omega), h.2⟩
end
/-- The crates that are drawn. -/
def stackI (l : List Int) (s : Nat × Int) : Nat → List Cr × (Nat × Int)
  | 0 => ([], s)
  | i + 1 => ((stackI l s i).1 ++ [drawnF l (stackI l s i).2], drawnS l (stackI l s i).2)
theorem stackI_succ (l : List Int) (s : Nat × Int) (i : Nat) : stackI l s (i + 1) = ((stackI l s i).1 ++ [drawnF l (stackI l s i).2], drawnS l (stackI l s i).2) := rfl
theorem stackI_len (l : List Int) (s : Nat × Int) : ∀ i, (stackI l s i).1.length = i
  | 0 => rfl
  | i + 1 => by rw [stackI_succ]; simp [stackI_len l s i]
theorem stackI_at (l : List Int) (s : Nat × Int) : ∀ i, (stackI l s i).2.1 ≤ s.1 + 37 * i
  | 0 => by simp [stackI]
  | i + 1 => by
    have := stackI_at l s i
    have h2 := drawnS_at l (stackI l s i).2
    rw [stackI_succ]
    simp only
    omega
theorem stackI_ok (l : List Int) (s : Nat × Int) : ∀ i, ∀ c ∈ (stackI l s i).1, c.ok = true
  | 0 => by simp [stackI]
  | i + 1 => by
    intro c hc
    rw [stackI_succ] at hc
    simp only [List.mem_append, List.mem_singleton] at hc
    rcases hc with h | h
    · exact stackI_ok l s i c h
    · rw [h]; exact drawnF_ok _ _
def stackF (l : List Int) : List Cr := (stackI l (stepF l (0, 0)) (pickF l 6 (0, 0)).toNat).1
theorem stackF_len (l : List Int) : (stackF l).length ≤ 5 := by
  have := pickF_range l 6 (0, 0) (by decide)
  unfold stackF
  rw [stackI_len]
  omega
theorem stackF_ok (l : List Int) : ∀ c ∈ stackF l, c.ok = true := stackI_ok _ _ _
theorem A2Stack_any (A : Option Addr) (c : Nat) (l : List Int) (w : World) (hr : RdA w A (u8v l)) (hb : ∀ x ∈ l, 0 ≤ x ∧ x ≤ 255) (hl : l.length ≤ 1000000) :
    Calls Tryz.prog 35 #[.slice A l.length c] w fun e w' => ∃ v, e = .returned v ∧ OwnS cc w' w.heap.size 28 24 v (stackF l) ∧ Below w.heap.size w w' := by
  have hA : ∀ a, A = some a → u8v l ≠ [] → a.block < w.heap.size := by
    intro a ha h0
    rcases hr with h1 | ⟨b, off, e, hl, _⟩
    · exact absurd h1 h0
    · have q := ha.symm.trans e
      simp only [Option.some.injEq] at q
      rw [q]; exact hl
  have HF := Lib.hid (l00From_any A c l w hr hA hb hl)
  have HSF := Lib.hid (show stackF l = (stackI l (stepF l (0, 0)) (pickF l 6 (0, 0)).toNat).1 from rfl)
  have hpr := pickF_range l 6 (0, 0) (by decide)
  clear hb
  go_enter Tryz.func35, Tryz.ntmps35
  go_upto_region 2 with (go_at_call 57; (refine HF.out.mono ?_); rintro e w1 ⟨gs, rfl, hgs, HS, HB⟩; (replace HS := Lib.hid HS); (replace HB := Lib.hid HB))
  clear HF
  have hlt := HS.out.lt
  have HA : Hid (∀ a, A = some a → u8v l ≠ [] → a.block < gs + 1) := fun a h1 h2 => by have := hA a h1 h2; omega
  clear hA hr
  have HP1 : Hid (∀ W, Src W gs A c l (0, 0) → Calls Tryz.prog 79 #[.pointer (some ⟨gs, 0, none⟩), .int .i64 6] W fun e w' => e = .returned (.int .i64 (pickF l 6 (0, 0))) ∧ Src w' gs A c l (stepF l (0, 0)) ∧ But gs W w') := fun W h => pick_any gs 6 A c l _ W h (by decide) (by decide) (by decide)
  have hs1 : (stepF l (0, 0)).1 = 1 := rfl
  generalize stepF l (0, 0) = s1 at *
  generalize pickF l 6 (0, 0) = n at *
  go_upto_region 3 with fail
  have HO : Hid (OwnS cc (w1.alloc (.cells #[] 28)) (gs + 1) 28 24 (.slice (some ⟨w1.heap.size, 0, none⟩) 0 0) []) := OwnS.lit (by omega)
  have hbb : Below w1.heap.size w1 (w1.alloc (.cells #[] 28)) := by go_grown
  generalize w1.alloc (.cells #[] 28) = w2 at *
  replace HS := Lib.hid (HS.out.below hbb)
  replace HB := Lib.hid (bstep HB.out hbb)
  have hsz := hbb.size
  clear hbb
  go_wp2_with (go_at_call 79; (refine (HP1.out _ HS.out).mono ?_); rintro e w3 ⟨rfl, HS1, HB1⟩; (have hsz3 := HB1.1.size); (replace HO := Lib.hid (HO.out.buts HB1 (by omega))); (replace HB := Lib.hid (HB.out.trans (HB1.below hgs (by omega)))); (replace HS := Lib.hid HS1); clear HS1 HB1)
  obtain ⟨m, rfl⟩ : ∃ m : Nat, n = (m : Int) := ⟨n.toNat, by omega⟩
  rw [Int.toNat_natCast] at HSF
  have hm : m ≤ 5 := by omega
  go_loopw [4, 5] (fun v i wr => ∃ j : Nat, j ≤ m ∧ i = .int .i64 ((m : Int) - (j : Int)) ∧ Hid (OwnS cc wr (gs + 1) 28 24 v (stackI l s1 j).1) ∧ Hid (Src wr gs A c l (stackI l s1 j).2) ∧ Hid (Below w.heap.size w wr)) (fun _ i _ => (intOf i).toNat)
  case atStart => exact ⟨0, Nat.zero_le _, by simp, HO, HS, HB⟩
  case round =>
    clear HO HS HB HP1
    obtain ⟨j, hj, rfl, HO, HS, HB⟩ := hrel
    by_cases hlt2 : j < m
    · have hat := stackI_at l s1 j
      have hln := stackI_len l s1 j
      have HK := Lib.hid (stackI_succ l s1 j)
      have HD : Hid (∀ W, Src W gs A c l (stackI l s1 j).2 → Calls Tryz.prog 56 #[.pointer (some ⟨gs, 0, none⟩)] W fun e w' => e = .returned (cv (drawnF l (stackI l s1 j).2)) ∧ Src w' gs A c l (drawnS l (stackI l s1 j).2) ∧ But gs W w') := fun W h => l01Drawn_any gs A c l _ W h (by omega)
      generalize drawnF l (stackI l s1 j).2 = x at *
      generalize drawnS l (stackI l s1 j).2 = t1 at *
      generalize (stackI l s1 j).2 = t0 at *
      generalize (stackI l s1 j).1 = P at *
      have hw1 : (j : Int) < (m : Int) := by omega
      have hcl := cc_len x
      have hw2 : (0 : Int) < (m : Int) - (j : Int) := by omega
      go_wp2_with (first | (go_at_call 56; (refine (HD.out _ HS.out).mono ?_); rintro e w4 ⟨rfl, HS1, HB1⟩; (have hsz4 := HB1.1.size); (replace HB := Lib.hid (HB.out.trans (HB1.below hgs (Nat.le_trans (Nat.le_trans hgs (Nat.le_of_lt HS.out.lt)) (Nat.le_refl _))))); (replace HO := Lib.hid (HO.out.buts HB1 (Nat.lt_succ_self _))); (replace HS := Lib.hid HS1); have hgw := HS1.lt; clear HS1 HB1) | (at_builtin; rw [fold_cc]; refine wp_app_crate (gs + 1) rfl _ _ rfl _ P x rfl _ rfl ?hg ?HO ?hB ?hn ?_; (case hg => simp); (case HO => exact HO.out); (case hB => exact hgw); (case hn => omega); intro v1 w5 hown hb1))
      go_roundw
      case rel => exact ⟨j + 1, by omega, by congr 1; omega, by rw [HK.out]; exact hown, by rw [HK.out]; exact HS.out.belowB hb1 (Nat.lt_succ_self _) HA.out, HB.out.trans (hb1.mono (by omega))⟩
      case measure => simp [intOf]; omega
    · obtain rfl : j = m := by omega
      rw [Int.sub_self] at *
      go_wp2
      go_ret
      exact ⟨u4, rfl, by rw [HSF.out]; exact HO.out.down (by omega), HB.out⟩
/-- The bottles that are drawn, and what is wanted of each. -/
def botsI (l : List Int) (s : Nat × Int) : Nat → List Bt × (Nat × Int)
  | 0 => ([], s)
  | i + 1 => ((botsI l s i).1 ++ [oneF l (botsI l s i).2], stepF l (stepF l (botsI l s i).2))
theorem botsI_succ (l : List Int) (s : Nat × Int) (i : Nat) : botsI l s (i + 1) = ((botsI l s i).1 ++ [oneF l (botsI l s i).2], stepF l (stepF l (botsI l s i).2)) := rfl
theorem botsI_len (l : List Int) (s : Nat × Int) : ∀ i, (botsI l s i).1.length = i
  | 0 => rfl
  | i + 1 => by rw [botsI_succ]; simp [botsI_len l s i]
theorem botsI_at (l : List Int) (s : Nat × Int) : ∀ i, (botsI l s i).2.1 = s.1 + 2 * i
  | 0 => rfl
  | i + 1 => by
    have := botsI_at l s i
    rw [botsI_succ]
    simp only [stepF]
    omega
theorem botsI_ok (l : List Int) (s : Nat × Int) : ∀ i, ∀ b ∈ (botsI l s i).1, b.ok = true
  | 0 => by simp [botsI]
  | i + 1 => by
    intro b hb
    rw [botsI_succ] at hb
    simp only [List.mem_append, List.mem_singleton] at hb
    rcases hb with h | h
    · exact botsI_ok l s i b h
    · rw [h]; exact oneF_ok _ _
def wantF (l : List Int) (s : Nat × Int) (b : Bt) : Wt := ⟨b, 1 + pickF l 5 s, by have := pickF_range l 5 s (by decide); omega⟩
def wantsI (l : List Int) (cs : List Ct) (s : Nat × Int) : Nat → List Wt × (Nat × Int)
  | 0 => ([], s)
  | i + 1 => ((wantsI l cs s i).1 ++ [wantF l (wantsI l cs s i).2 cs[i]!.b], stepF l (wantsI l cs s i).2)
theorem wantsI_succ (l : List Int) (cs : List Ct) (s : Nat × Int) (i : Nat) : wantsI l cs s (i + 1) = ((wantsI l cs s i).1 ++ [wantF l (wantsI l cs s i).2 cs[i]!.b], stepF l (wantsI l cs s i).2) := rfl
theorem wantsI_len (l : List Int) (cs : List Ct) (s : Nat × Int) : ∀ i, (wantsI l cs s i).1.length = i
  | 0 => rfl
  | i + 1 => by rw [wantsI_succ]; simp [wantsI_len l cs s i]
theorem wantsI_at (l : List Int) (cs : List Ct) (s : Nat × Int) : ∀ i, (wantsI l cs s i).2.1 = s.1 + i
  | 0 => rfl
  | i + 1 => by
    have := wantsI_at l cs s i
    rw [wantsI_succ]
    simp only [stepF]
    omega
def botsF (l : List Int) (s : Nat × Int) : List Bt × (Nat × Int) := botsI l (stepF l s) (pickF l 5 s).toNat
def ordF (l : List Int) (s : Nat × Int) : List Wt := (wantsI l (runs (sortB (botsF l s).1)) (botsF l s).2 (runs (sortB (botsF l s).1)).length).1
theorem botsF_len (l : List Int) (s : Nat × Int) : (botsF l s).1.length ≤ 4 := by
  have := pickF_range l 5 s (by decide)
  unfold botsF
  rw [botsI_len]
  omega
theorem But.app {w w1 w2 : World} {g : Nat} (h : But g w w1) (hb : Below w.heap.size w1 w2) : But g w w2 :=
  ⟨h.1.trans (hb.mono (Nat.zero_le _)), fun k hk hv => (hb.block k hk).trans (h.2 k hk hv)⟩
/-- append(v, x), run: the want x lies at the head of block g. -/
theorem app_w (B : Nat) (w : World) (v : Value) (l : List Wt) (y : Wt) (g : Nat) (HO : OwnS wc w B 81 3 v l) (hr : rowOf w g = some (wc y).toArray) (hB : B ≤ w.heap.size) (hn : l.length ≤ 100000000) (ty : TypeId) :
    ∃ v1 w1, (Builtin.append_ #[64, 64] ty #[v, .slice (some ⟨g, 0, none⟩) 1 1]).run Tryz.prog w = .ok v1 w1 ∧ OwnS wc w1 B 81 3 v1 (l ++ [y]) ∧ Below B w w1 ∧ ∀ b, b < w.heap.size → v.ownBlock ≠ some b → w1.heap[b]? = w.heap[b]? := by
  obtain ⟨i0, hi, hzz⟩ := Option.map_eq_some_iff.1 infoWantS
  simp only [Prod.mk.injEq] at hzz
  obtain ⟨hz0, hz1, hz2⟩ := hzz
  obtain ⟨v1, w1, hrun, hown, hg, -, -⟩ := run_append_own_at (P := Tryz.prog) w B 64 ty 81 i0 _ 3 6 Tryz.underlying64 hi hz0 hz1 hz2 rfl (by decide) v l.length (fl wc l) HO.1 ⟨g, 0, none⟩ 1 1 (wc y) rfl
    (fun j u hj => by
      rw [addr_at, rowOf_cell hr]
      simpa using hj) (wv_one y) (by simp only [maxLen]; omega) (by omega) hB
  have hb := (Below.refl B w).grown hg hB (fun k hk => own_base HO.1 k hk)
  exact ⟨v1, w1, hrun, OwnS.grown (by rw [List.length_append, fl_append, fl_one]; exact hown), hb, fun b hb1 hv => hg.block b hb1 (fun e => hv e.symm)⟩
theorem l02Drawn_any (gs : Nat) (A : Option Addr) (c : Nat) (l : List Int) (s : Nat × Int) (w : World) (h : Src w gs A c l s) (ha : s.1 ≤ 1000) :
    Calls Tryz.prog 91 #[.pointer (some ⟨gs, 0, none⟩)] w fun e w' => ∃ v, e = .returned v ∧ OwnS wc w' w.heap.size 81 3 v (ordF l s) ∧ But gs w w' := by
  have hgs := h.lt
  have HA := Lib.hid h.blk
  have HS := Lib.hid h
  have HOF := Lib.hid (show ordF l s = (wantsI l (runs (sortB (botsF l s).1)) (botsF l s).2 (runs (sortB (botsF l s).1)).length).1 from rfl)
  have hbl := botsF_len l s
  have hpr := pickF_range l 5 s (by decide)
  have HP1 : Hid (∀ W, Src W gs A c l s → Calls Tryz.prog 79 #[.pointer (some ⟨gs, 0, none⟩), .int .i64 5] W fun e w' => e = .returned (.int .i64 (pickF l 5 s)) ∧ Src w' gs A c l (stepF l s) ∧ But gs W w') := fun W h => pick_any gs 5 A c l _ W h (by omega) (by decide) (by decide)
  have HBF := Lib.hid (show botsF l s = botsI l (stepF l s) (pickF l 5 s).toNat from rfl)
  have hs1 : (stepF l s).1 = s.1 + 1 := rfl
  clear h
  generalize botsF l s = F at *
  generalize ordF l s = OF at *
  generalize stepF l s = s1 at *
  generalize pickF l 5 s = n at *
  go_enter Tryz.func91, Tryz.ntmps91
  go_upto_region 2 with fail
  have HO : Hid (OwnS bc (w.alloc (.cells #[] 26)) w.heap.size 26 2 (.slice (some ⟨w.heap.size, 0, none⟩) 0 0) []) := OwnS.lit (Nat.le_refl _)
  have hbb : Below w.heap.size w (w.alloc (.cells #[] 26)) := by go_grown
  generalize w.alloc (.cells #[] 26) = w2 at *
  replace HS := Lib.hid (HS.out.below hbb)
  have HB := Lib.hid (ButV.of_below (v := .slice (some ⟨gs, 0, none⟩) 0 0) hbb)
  have hsz := hbb.size
  clear hbb
  go_wp2_with (go_at_call 79; (refine (HP1.out _ HS.out).mono ?_); rintro e w3 ⟨rfl, HS1, HB1⟩; (have hsz3 := HB1.1.size); (replace HO := Lib.hid (HO.out.buts HB1 hgs)); (replace HB := Lib.hid (HB.out.trans HB1)); (replace HS := Lib.hid HS1); clear HS1 HB1)
  obtain ⟨m, rfl⟩ : ∃ m : Nat, n = (m : Int) := ⟨n.toNat, by omega⟩
  rw [Int.toNat_natCast] at HBF
  have hm : m ≤ 4 := by omega
  go_loopw [3, 4] (fun v i wr => ∃ j : Nat, j ≤ m ∧ i = .int .i64 ((m : Int) - (j : Int)) ∧ Hid (OwnS bc wr w.heap.size 26 2 v (botsI l s1 j).1) ∧ Hid (Src wr gs A c l (botsI l s1 j).2) ∧ Hid (But gs w wr)) (fun _ i _ => (intOf i).toNat)
  case atStart => exact ⟨0, Nat.zero_le _, by simp, HO, HS, HB⟩
  case round =>
    clear HO HS HB HP1
    obtain ⟨j, hj, rfl, HO, HS, HB⟩ := hrel
    by_cases hlt2 : j < m
    · have hat := botsI_at l s1 j
      have hln := botsI_len l s1 j
      have HK := Lib.hid (botsI_succ l s1 j)
      have HD : Hid (∀ W, Src W gs A c l (botsI l s1 j).2 → Calls Tryz.prog 58 #[.pointer (some ⟨gs, 0, none⟩)] W fun e w' => e = .returned (bv (oneF l (botsI l s1 j).2)) ∧ Src w' gs A c l (stepF l (stepF l (botsI l s1 j).2)) ∧ But gs W w') := fun W h => l01One_any gs A c l _ W h (by omega)
      generalize oneF l (botsI l s1 j).2 = x at *
      generalize stepF l (stepF l (botsI l s1 j).2) = t1 at *
      generalize (botsI l s1 j).2 = t0 at *
      generalize (botsI l s1 j).1 = P at *
      have hw1 : (j : Int) < (m : Int) := by omega
      have hsw := HB.out.1.size
      go_wp2_with (first | (go_at_call 58; (refine (HD.out _ HS.out).mono ?_); rintro e w4 ⟨rfl, HS1, HB1⟩; (replace HB := Lib.hid (HB.out.trans HB1)); (replace HO := Lib.hid (HO.out.buts HB1 hgs)); (replace HS := Lib.hid HS1); have hgw := HB.out.1.size; clear HS1 HB1) | (at_builtin; refine wp_app_bot w.heap.size rfl _ _ rfl _ P x rfl _ rfl ?hg ?HO ?hB ?hn ?_; (case hg => simp); (case HO => exact HO.out.1); (case hB => exact hgw); (case hn => omega); intro v1 w5 hown hb1))
      go_roundw
      case rel => exact ⟨j + 1, by omega, by congr 1; omega, by rw [HK.out]; exact OwnS.grown hown, by rw [HK.out]; exact HS.out.belowB hb1 hgs HA.out, But.app HB.out hb1⟩
      case measure => simp [intOf]; omega
    · obtain rfl : j = m := by omega
      rw [Int.sub_self] at *
      rw [← HBF.out] at HO HS
      obtain ⟨g1, c1, rfl, HL, -⟩ := HO.out.lies
      have HSO : Hid (∀ W, Below wr.heap.size wr W → Calls Tryz.prog 88 #[.slice (some ⟨g1, 0, none⟩) F.1.length c1] W fun e w' => ∃ v, e = .returned v ∧ OwnS bc w' W.heap.size 26 2 v (sortB F.1) ∧ Below W.heap.size W w') := fun W h => l01Sorted_any g1 c1 F.1 W (HL.below h) (by omega)
      clear HL
      have hSL : (sortB F.1).length ≤ 4 := by rw [sortB_length]; exact hbl
      have hRB := (runs_bound (sortB F.1) _ (Nat.le_refl _)).1
      rw [List.take_length] at hRB
      have HSC : Hid (∀ g5 c5 W, Lies bc W g5 (sortB F.1) → Calls Tryz.prog 133 #[.slice (some ⟨g5, 0, none⟩) (sortB F.1).length c5] W fun e w' => ∃ v, e = .returned v ∧ OwnS nc w' W.heap.size 166 3 v (runs (sortB F.1)) ∧ Below W.heap.size W w') := fun g5 c5 W h => l01Counts_any g5 c5 (sortB F.1) W h (by omega)
      generalize sortB F.1 = sl at *
      generalize runs sl = cs at *
      have hcs : cs.length ≤ 4 := by omega
      clear HO hRB
      have hsw := HB.out.1.size
      go_upto_region 7 with (first | (go_at_call 88; (refine (HSO.out _ (Below.refl _ _)).mono ?_); rintro e w4 ⟨v4, rfl, O4, hb4⟩; obtain ⟨g4, c4, rfl, HL4, -⟩ := O4.lies; (have HC4 := Lib.hid (HSC.out g4 c4 _ HL4)); (replace HS := Lib.hid (HS.out.below hb4)); (have hz4 := hb4.size); (replace HB := Lib.hid (But.app HB.out (hb4.mono hsw))); clear HL4 O4 hb4) | (go_at_call 133; (refine HC4.out.mono ?_); rintro e w5 ⟨v5, rfl, O5, hb5⟩; (replace HS := Lib.hid (HS.out.below hb5)); (have hz5 := hb5.size); (replace HB := Lib.hid (But.app HB.out (hb5.mono (Nat.le_trans hsw hz4)))); replace O5 := Lib.hid (O5.down (Nat.le_trans hsw hz4)); clear hb5 HC4))
      clear HSO HSC
      obtain ⟨g6, c6, rfl, HL6, hg6, hg6', hc6⟩ := O5.out.lies
      replace HL6 := Lib.hid HL6
      have hgs5 : gs < w5.heap.size := by omega
      have hw5 : w.heap.size ≤ w5.heap.size := by omega
      have HA5 : Hid (∀ a, A = some a → u8v l ≠ [] → a.block < w5.heap.size) := fun a h1 h2 => by have := HA.out a h1 h2; omega
      have hat0 : F.2.1 ≤ 1020 := by rw [HBF.out, botsI_at]; omega
      clear O5 HBF HA
      go_upto_region 8 with fail
      have HO : Hid (OwnS wc (w5.alloc (.cells #[] 81)) w5.heap.size 81 3 (.slice (some ⟨w5.heap.size, 0, none⟩) 0 0) []) := OwnS.lit (Nat.le_refl _)
      have hbb : Below w5.heap.size w5 (w5.alloc (.cells #[] 81)) := by go_grown
      replace HS := Lib.hid (HS.out.below hbb)
      replace HL6 := Lib.hid (HL6.out.below hbb)
      replace HB := Lib.hid (But.app HB.out (hbb.mono hw5))
      generalize w5.alloc (.cells #[] 81) = w7 at *
      have hz7 := hbb.size
      clear hbb
      generalize w5.heap.size = B at *
      go_wp2
      generalize F.2 = s2 at *
      go_loopw [6, 7] (fun v i wr => ∃ k : Nat, k ≤ cs.length ∧ i = .int .i64 (k : Int) ∧ Hid (OwnS wc wr B 81 3 v (wantsI l cs s2 k).1) ∧ Hid (Src wr gs A c l (wantsI l cs s2 k).2) ∧ Hid (But gs w wr) ∧ Hid (Lies nc wr g6 cs ∧ B ≤ wr.heap.size)) (fun _ i _ => cs.length - (intOf i).toNat)
      case atStart => exact ⟨0, Nat.zero_le _, rfl, HO, HS, HB, HL6.out, by omega⟩
      case round =>
        clear HO HS HB HL6
        obtain ⟨k, hk, rfl, HO, HS, HB, HL⟩ := hrel
        by_cases hlt3 : k < cs.length
        · have hat := wantsI_at l cs s2 k
          have hln := wantsI_len l cs s2 k
          have HK := Lib.hid (wantsI_succ l cs s2 k)
          have HP : Hid (∀ W, Src W gs A c l (wantsI l cs s2 k).2 → Calls Tryz.prog 79 #[.pointer (some ⟨gs, 0, none⟩), .int .i64 5] W fun e w' => e = .returned (.int .i64 (pickF l 5 (wantsI l cs s2 k).2)) ∧ Src w' gs A c l (stepF l (wantsI l cs s2 k).2) ∧ But gs W w') := fun W h => pick_any gs 5 A c l _ W h (by omega) (by decide) (by decide)
          have HWF := Lib.hid (show wc (wantF l (wantsI l cs s2 k).2 cs[k]!.b) = [.int .u8 cs[k]!.b.k, .int .i16 cs[k]!.b.y, .int .i16 (1 + pickF l 5 (wantsI l cs s2 k).2)] from rfl)
          have hp5 := pickF_range l 5 (wantsI l cs s2 k).2 (by decide)
          have HC : Hid (∀ w2, Lies nc w2 g6 cs ∧ B ≤ w2.heap.size → ∀ i v, (bc cs[k]!.b)[i]? = some v → w2.cell? ⟨g6, k * 3 + i, none⟩ = some v) := fun w2 h i v hi => by
            have hX := (h.1.c).el nc_length (i := k) hlt3
            rw [Nat.zero_add] at hX
            refine hX i v ?_
            match i, hi with
            | 0, hi => exact hi
            | 1, hi => exact hi
            | i + 2, hi => simp [bc] at hi
          generalize wantF l (wantsI l cs s2 k).2 cs[k]!.b = x at *
          generalize cs[k]!.b = b at *
          generalize pickF l 5 (wantsI l cs s2 k).2 = p at *
          generalize stepF l (wantsI l cs s2 k).2 = t1 at *
          generalize (wantsI l cs s2 k).2 = t0 at *
          generalize (wantsI l cs s2 k).1 = P at *
          have hlt4 : (k : Int) < (cs.length : Int) := by omega
          have wy : IntKind.i16.wrap (1 + p) = 1 + p := wrap_i16 (by omega)
          have w1p : IntKind.i64.wrap (1 + p) = 1 + p := by rw [IntKind.wrap_i64]; omega
          go_upto_region 11 with fail
          have hq0 : Lies nc (World.drew wr) g6 cs ∧ B ≤ (World.drew wr).heap.size := HL.out
          refine e_start ⟨fun w2 => Lies nc w2 g6 cs ∧ B ≤ w2.heap.size, fun w2 w3 h hb => ⟨h.1.below hb, Nat.le_trans h.2 hb.size⟩⟩ ⟨fun w2 => OwnS wc w2 B 81 3 u6 P ∧ Src w2 gs A c l t0 ∧ But gs w w2, fun w2 w3 h hb => ⟨h.1.kept hb, h.2.1.below hb, ButV.step h.2.2 hb⟩⟩ hq0 ⟨HO.out.kept (Below.refl _ _).drew, HS.out.below (Below.refl _ _).drew, ButV.step HB.out (Below.refl _ _).drew⟩ 14 rfl (by kernel_rfl) ?_
          haveI : Nonempty {w2 : World // Fact.p ⟨fun w2 => Lies nc w2 g6 cs ∧ B ≤ w2.heap.size, fun w2 w3 h hb => ⟨h.1.below hb, Nat.le_trans h.2 hb.size⟩⟩ w2} := ⟨⟨_, hq0⟩⟩
          (refine e_quiet 0 (by kernel_rfl) rfl (fun K hK => ?_); first | ((first | (refine qK_CAt rfl _ _ rfl _ _ rfl [.int .u8 b.k, .int .i16 b.y] HC.out _ Tryz.underlying26 rfl (infoBl b) (hK _ ?_))); clear hK K) | (go_simp; first | (refine hK _ ?_; clear hK K) | (apply Exists.intro; refine ⟨?_, hK _ ?_⟩; (intros; first | fail); clear hK K)))
          (refine e_quiet 1 (by kernel_rfl) rfl (fun K hK => ?_); first | ((first | (refine qK_CAt rfl _ _ rfl _ _ rfl [.int .u8 b.k, .int .i16 b.y] HC.out _ Tryz.underlying26 rfl (infoBl b) (hK _ ?_))); clear hK K) | (go_simp; first | (refine hK _ ?_; clear hK K) | (apply Exists.intro; refine ⟨?_, hK _ ?_⟩; (intros; first | fail); clear hK K)))
          (refine e_quiet 2 (by kernel_rfl) rfl (fun K hK => ?_); first | ((first | (refine qK_CAt rfl _ _ rfl _ _ rfl [.int .u8 b.k, .int .i16 b.y] HC.out _ Tryz.underlying26 rfl (infoBl b) (hK _ ?_))); clear hK K) | (go_simp; first | (refine hK _ ?_; clear hK K) | (apply Exists.intro; refine ⟨?_, hK _ ?_⟩; (intros; first | fail); clear hK K)))
          (refine e_quiet 3 (by kernel_rfl) rfl (fun K hK => ?_); first | ((first | (refine qK_CAt rfl _ _ rfl _ _ rfl [.int .u8 b.k, .int .i16 b.y] HC.out _ Tryz.underlying26 rfl (infoBl b) (hK _ ?_))); clear hK K) | (go_simp; first | (refine hK _ ?_; clear hK K) | (apply Exists.intro; refine ⟨?_, hK _ ?_⟩; (intros; first | fail); clear hK K)))
          (refine e_quiet 4 (by kernel_rfl) rfl (fun K hK => ?_); first | ((first | (refine qK_CAt rfl _ _ rfl _ _ rfl [.int .u8 b.k, .int .i16 b.y] HC.out _ Tryz.underlying26 rfl (infoBl b) (hK _ ?_))); clear hK K) | (go_simp; first | (refine hK _ ?_; clear hK K) | (apply Exists.intro; refine ⟨?_, hK _ ?_⟩; (intros; first | fail); clear hK K)))
          (refine e_quiet 5 (by kernel_rfl) rfl (fun K hK => ?_); first | ((first | (refine qK_CAt rfl _ _ rfl _ _ rfl [.int .u8 b.k, .int .i16 b.y] HC.out _ Tryz.underlying26 rfl (infoBl b) (hK _ ?_))); clear hK K) | (go_simp; first | (refine hK _ ?_; clear hK K) | (apply Exists.intro; refine ⟨?_, hK _ ?_⟩; (intros; first | fail); clear hK K)))
          (refine e_quiet 6 (by kernel_rfl) rfl (fun K hK => ?_); first | ((first | (refine qK_CAt rfl _ _ rfl _ _ rfl [.int .u8 b.k, .int .i16 b.y] HC.out _ Tryz.underlying26 rfl (infoBl b) (hK _ ?_))); clear hK K) | (go_simp; first | (refine hK _ ?_; clear hK K) | (apply Exists.intro; refine ⟨?_, hK _ ?_⟩; (intros; first | fail); clear hK K)))
          refine e_alone 7 (by kernel_rfl) rfl rfl (fun K hK wx hP hG => ?_)
          have hne6 : (Value.slice (some ⟨gs, 0, none⟩) 0 0).ownBlock ≠ some g6 := fun e => by
            have e1 : gs = g6 := by simpa [Value.ownBlock] using e
            omega
          have hP' : Lies nc wx g6 cs ∧ B ≤ wx.heap.size := hP
          have hG' : OwnS wc wx B 81 3 u6 P ∧ Src wx gs A c l t0 ∧ But gs w wx := hG
          have HPx := Lib.hid (HP.out wx hG'.2.1)
          go_simp
          refine HPx.out.mono ?_
          rintro e w4 ⟨rfl, HS1, HB1⟩
          refine ⟨_, ⟨fun w2 => OwnS wc w2 B 81 3 u6 P ∧ Src w2 gs A c l t1 ∧ But gs w w2, fun w2 w3 h hb => ⟨h.1.kept hb, h.2.1.below hb, ButV.step h.2.2 hb⟩⟩, rfl, ⟨⟨lies_but hP'.1 HB1 hne6, Nat.le_trans hP'.2 HB1.1.size⟩, hG'.1.buts HB1 hgs5, HS1, hG'.2.2.trans HB1⟩, hK _ _ ?_⟩
          clear hK K hP hG hP' hG' HS1 HB1 HPx wx w4
          (refine e_quiet 8 (by kernel_rfl) rfl (fun K hK => ?_); first | ((first | fail); clear hK K) | (go_simp; first | (refine hK _ ?_; clear hK K) | (apply Exists.intro; refine ⟨?_, hK _ ?_⟩; (intros; first | fail); clear hK K)))
          (refine e_quiet 9 (by kernel_rfl) rfl (fun K hK => ?_); first | ((first | fail); clear hK K) | (go_simp; first | (refine hK _ ?_; clear hK K) | (apply Exists.intro; refine ⟨?_, hK _ ?_⟩; (intros; first | fail); clear hK K)))
          (refine e_quiet 10 (by kernel_rfl) rfl (fun K hK => ?_); first | ((first | fail); clear hK K) | (go_simp; first | (refine hK _ ?_; clear hK K) | (apply Exists.intro; refine ⟨?_, hK _ ?_⟩; (intros; first | fail); clear hK K)))
          refine e_alone 11 (by kernel_rfl) rfl rfl (fun K hK wx hP hG => ?_)
          have hP' : Lies nc wx g6 cs ∧ B ≤ wx.heap.size := hP
          have hG' : OwnS wc wx B 81 3 u6 P ∧ Src wx gs A c l t1 ∧ But gs w wx := hG
          go_simp
          have hr10 : rowOf (wx.alloc (.cells #[.int .u8 b.k, .int .i16 b.y, .int .i16 (1 + p)] 81)) wx.heap.size = some (wc x).toArray := by
            rw [rowOf_alloc, if_pos rfl, HWF.out]
          have hb10 : Below wx.heap.size wx (wx.alloc (.cells #[.int .u8 b.k, .int .i16 b.y, .int .i16 (1 + p)] 81)) := by go_grown
          refine e_val ⟨fun w2 => (OwnS wc w2 B 81 3 u6 P ∧ Src w2 gs A c l t1 ∧ But gs w w2) ∧ rowOf w2 wx.heap.size = some (wc x).toArray, fun w2 w3 h hb => ⟨⟨h.1.1.kept hb, h.1.2.1.below hb, ButV.step h.1.2.2 hb⟩, row_kept h.2 hb⟩⟩ rfl ⟨hP'.1.below hb10, Nat.le_trans hP'.2 hb10.size⟩ ⟨⟨hG'.1.kept hb10, hG'.2.1.below hb10, ButV.step hG'.2.2 hb10⟩, hr10⟩ (hK _ _ ?_)
          clear hK K hP hG hP' hG' hr10 hb10
          generalize wx.heap.size = g10
          refine e_alone 12 (by kernel_rfl) rfl rfl (fun K hK wy hP hG => ?_)
          have hP' : Lies nc wy g6 cs ∧ B ≤ wy.heap.size := hP
          have hG' : (OwnS wc wy B 81 3 u6 P ∧ Src wy gs A c l t1 ∧ But gs w wy) ∧ rowOf wy g10 = some (wc x).toArray := hG
          obtain ⟨v1, w1, hrun, O1, hb1, -⟩ := app_w B wy u6 P x g10 hG'.1.1 hG'.2 hP'.2 (by omega) 64
          refine e_val ⟨fun w2 => OwnS wc w2 B 81 3 v1 (P ++ [x]) ∧ Src w2 gs A c l t1 ∧ But gs w w2, fun w2 w3 h hb => ⟨h.1.kept hb, h.2.1.below hb, ButV.step h.2.2 hb⟩⟩ (app_exec _ _ _ rfl _ _ rfl rfl v1 hrun) ⟨⟨hP'.1.c.below hb1 hg6', Nat.lt_of_lt_of_le hP'.1.lt hb1.size⟩, Nat.le_trans hP'.2 hb1.size⟩ ⟨O1, hG'.1.2.1.belowB hb1 hgs5 HA5.out, But.app hG'.1.2.2 (hb1.mono hw5)⟩ (hK _ _ ?_)
          clear hK K hP hG hP' hG' hrun O1 hb1 wx wy
          (refine e_quiet 13 (by kernel_rfl) rfl (fun K hK => ?_); first | ((first | fail); clear hK K) | (go_simp; first | (refine hK _ ?_; clear hK K) | (apply Exists.intro; refine ⟨?_, hK _ ?_⟩; (intros; first | fail); clear hK K)))
          refine e_done (by kernel_rfl) ?_
          rintro w6 hP hG
          have hP' : Lies nc w6 g6 cs ∧ B ≤ w6.heap.size := hP
          have hG' : OwnS wc w6 B 81 3 v1 (P ++ [x]) ∧ Src w6 gs A c l t1 ∧ But gs w w6 := hG
          replace hP' := Lib.hid hP'
          replace hG' := Lib.hid hG'
          clear hP hG
          go_wp2
          go_roundw
          case rel => exact ⟨k + 1, by omega, by go_num, by rw [HK.out]; exact hG'.out.1, by rw [HK.out]; exact hG'.out.2.1, hG'.out.2.2, hP'.out⟩
          case measure => simp [intOf]; omega
        · obtain rfl : k = cs.length := by omega
          go_wp2
          go_ret
          exact ⟨u6, rfl, by rw [HOF.out]; exact HO.out.down hw5, HB.out⟩
end Go.Proofs.YtbngpcghognojaaGreatDoor
namespace Go.Proofs.YtbngpcghognojaaGreatDoor
open Go Go.RowKit
set_option linter.unusedVariables false
set_option linter.unusedSimpArgs false
set_option maxRecDepth 100000
set_option maxHeartbeats 4000000
attribute [local go_sem] Oper.qB Oper.qK
theorem rdA_blk {w : World} {A : Option Addr} {vs : List Value} (h : RdA w A vs) (a : Addr) (ha : A = some a) (h0 : vs ≠ []) : a.block < w.heap.size := by
  rcases h with h1 | ⟨b, off, e, hl, _⟩
  · exact absurd h1 h0
  · have q := ha.symm.trans e
    simp only [Option.some.injEq] at q
    rw [q]; exact hl
theorem A2Order_any (A : Option Addr) (c : Nat) (l : List Int) (w : World) (hr : RdA w A (u8v l)) (hb : ∀ x ∈ l, 0 ≤ x ∧ x ≤ 255) (hl : l.length ≤ 1000000) :
    Calls Tryz.prog 36 #[.slice A l.length c] w fun e w' => ∃ v, e = .returned v ∧ OwnS wc w' w.heap.size 81 3 v (ordF l (0, 0)) ∧ Below w.heap.size w w' := by
  have HF := Lib.hid (l00From_any A c l w hr (rdA_blk hr) hb hl)
  clear hr hb
  go_enter Tryz.func36, Tryz.ntmps36
  go_wp2_with (first | (go_at_call 57; (refine HF.out.mono ?_); rintro e w1 ⟨gs, rfl, hgs, HS, HB⟩; (replace HS := Lib.hid HS); (replace HB := Lib.hid HB)) | (go_at_call 91; (refine (l02Drawn_any gs A c l (0, 0) _ HS.out (by decide)).mono ?_); rintro e w2 ⟨v2, rfl, O2, HB2⟩; (have hsz := HB.out.size); (replace HB2 := Lib.hid (HB2.below hgs hsz)); replace O2 := Lib.hid (O2.down hsz)))
  go_ret
  exact ⟨v2, rfl, O2.out, HB.out.trans HB2.out⟩
/-- What can be had of what is wanted. -/
def possN (lc : List Cr) (x : Wt) : Int := if 0 < x.n - (cntL lc x.b : Int) then (cntL lc x.b : Int) else x.n
theorem possN_in (lc : List Cr) (x : Wt) : -32768 ≤ possN lc x ∧ possN lc x ≤ 32767 := by
  have := x.hn
  unfold possN
  split <;> omega
def possW (lc : List Cr) (x : Wt) : List Wt := if 0 < possN lc x then [⟨x.b, possN lc x, possN_in lc x⟩] else []
def possL (lc : List Cr) (l : List Wt) : List Wt := l.flatMap (possW lc)
theorem possL_step {lc : List Cr} {l : List Wt} {k : Nat} (hk : k < l.length) : possL lc (l.take (k + 1)) = possL lc (l.take k) ++ possW lc l[k]! := by
  unfold possL
  rw [List.take_succ_eq_append_getElem hk, getB hk, List.flatMap_append]
  simp
theorem possW_le (lc : List Cr) (x : Wt) : (possW lc x).length ≤ 1 := by
  unfold possW
  split <;> simp
theorem possL_le (lc : List Cr) : ∀ l : List Wt, (possL lc l).length ≤ l.length
  | [] => Nat.le_refl _
  | x :: l => by
    have h1 := possW_le lc x
    have h2 := possL_le lc l
    unfold possL at *
    rw [List.flatMap_cons, List.length_append, List.length_cons]
    omega
theorem wantsI_n {l : List Int} {cs : List Ct} {s : Nat × Int} : ∀ i, ∀ x ∈ (wantsI l cs s i).1, 1 ≤ x.n ∧ x.n ≤ 5
  | 0 => by simp [wantsI]
  | i + 1 => by
    intro x hx
    rw [wantsI_succ] at hx
    simp only [List.mem_append, List.mem_singleton] at hx
    rcases hx with h | h
    · exact wantsI_n i x h
    · have := pickF_range l 5 (wantsI l cs s i).2 (by decide)
      rw [h]
      show 1 ≤ 1 + pickF l 5 (wantsI l cs s i).2 ∧ 1 + pickF l 5 (wantsI l cs s i).2 ≤ 5
      omega
theorem ordF_n {l : List Int} {s : Nat × Int} : ∀ x ∈ ordF l s, 1 ≤ x.n ∧ x.n ≤ 5 := wantsI_n _
theorem ordF_len (l : List Int) (s : Nat × Int) : (ordF l s).length ≤ 4 := by
  have h1 := botsF_len l s
  have h2 := (runs_bound (sortB (botsF l s).1) _ (Nat.le_refl _)).1
  rw [List.take_length, sortB_length] at h2
  unfold ordF
  rw [wantsI_len]
  omega
end Go.Proofs.YtbngpcghognojaaGreatDoor
namespace Go.Proofs.YtbngpcghognojaaGreatDoor
open Go Go.RowKit
set_option linter.unusedVariables false
set_option linter.unusedSimpArgs false
set_option maxRecDepth 100000
set_option maxHeartbeats 1000000
def StrC (l : List Ct) : Prop := l.Pairwise fun x y => x.b.cmp y.b < 0
theorem le_ne {a b : Bt} (h : leB a b = true) (hn : a ≠ b) : a.cmp b < 0 := by
  rw [leB_iff] at h
  by_cases h1 : a.cmp b < 0
  · exact h1
  · exact absurd (cmp_tri h1 (fun q => h (cmp_pos.1 q))) hn
theorem runs_str {l : List Bt} (hs : l.Pairwise fun a b => leB a b = true) : ∀ k, k ≤ l.length → StrC (runs (l.take k)) ∧ ∀ x ∈ runs (l.take k), x.b ∈ l.take k
  | 0, _ => by simp [runs, StrC]
  | k + 1, h => by
    obtain ⟨h1, h2⟩ := runs_str hs k (by omega)
    have hk : k < l.length := by omega
    rw [runs_step hk]
    have ht : l.take (k + 1) = l.take k ++ [l[k]!] := by rw [List.take_succ_eq_append_getElem hk, getB hk]
    have hle : ∀ y ∈ l.take k, leB y l[k]! = true := by
      rw [← List.take_length (l := l)] at hs
      have h3 := hs.sublist (List.take_sublist_take_left (l := l) (show k + 1 ≤ l.length from h))
      rw [ht, List.pairwise_append] at h3
      exact fun y hy => h3.2.2 y hy _ (by simp)
    rw [ht]
    generalize runs (l.take k) = out at h1 h2
    generalize l[k]! = b at *
    generalize l.take k = T at *
    rcases List.eq_nil_or_concat out with rfl | ⟨o, x, rfl⟩
    · rw [stepC_nil]
      exact ⟨by simp [StrC], fun x hx => by obtain rfl : x = _ := by simpa using hx
                                            simp⟩
    · rw [List.concat_eq_append] at *
      unfold StrC at h1 ⊢
      rw [List.pairwise_append] at h1
      have hxT := h2 x (by simp)
      by_cases he : x.b = b
      · rw [stepC_same o x he, List.pairwise_append]
        refine ⟨⟨h1.1, by simp, fun y hy z hz => ?_⟩, fun y hy => ?_⟩
        · obtain rfl : z = _ := by simpa using hz
          have := h1.2.2 y hy x (by simp)
          rw [he] at this
          exact this
        · rcases List.mem_append.1 hy with hy | hy
          · exact List.mem_append_left _ (h2 y (List.mem_append_left _ hy))
          · obtain rfl : y = _ := by simpa using hy
            simp
      · rw [stepC_new o x he, List.pairwise_append]
        have hlt := le_ne (hle _ hxT) he
        refine ⟨⟨List.pairwise_append.2 h1, by simp, fun y hy z hz => ?_⟩, fun y hy => ?_⟩
        · obtain rfl : z = _ := by simpa using hz
          rcases List.mem_append.1 hy with hy | hy
          · exact cmp_trans (h1.2.2 y hy x (by simp)) hlt
          · obtain rfl : y = _ := by simpa using hy
            exact hlt
        · rcases List.mem_append.1 hy with hy | hy
          · exact List.mem_append_left _ (h2 y hy)
          · obtain rfl : y = _ := by simpa using hy
            simp
theorem wantsI_b (l : List Int) (cs : List Ct) (s : Nat × Int) : ∀ i, i ≤ cs.length → (wantsI l cs s i).1.map (·.b) = (cs.take i).map (·.b)
  | 0, _ => rfl
  | i + 1, h => by
    rw [wantsI_succ, List.map_append, wantsI_b l cs s i (by omega), List.take_succ_eq_append_getElem (by omega), List.map_append, getB (by omega)]
    rfl
theorem ordF_ok (l : List Int) (s : Nat × Int) : ordOk (ordF l s) = true := by
  have h4 := ordF_len l s
  have hn := @ordF_n l s
  have hsort := sortB_sorted (botsF l s).1
  obtain ⟨h1, h2⟩ := runs_str hsort _ (Nat.le_refl _)
  rw [List.take_length] at h1 h2
  have hb := wantsI_b l (runs (sortB (botsF l s).1)) (botsF l s).2 _ (Nat.le_refl _)
  rw [List.take_length] at hb
  replace hb : (ordF l s).map (·.b) = (runs (sortB (botsF l s).1)).map (·.b) := hb
  refine ordOk_of ?_ (fun x hx => ?_) (by omega)
  · have : ((ordF l s).map (·.b)).Pairwise fun a b => a.cmp b < 0 := by
      rw [hb, List.pairwise_map]
      exact h1
    rw [List.pairwise_map] at this
    exact this
  · have hm : x.b ∈ (ordF l s).map (·.b) := List.mem_map.2 ⟨x, hx, rfl⟩
    rw [hb] at hm
    obtain ⟨y, hy, he⟩ := List.mem_map.1 hm
    have hk := botsI_ok l (stepF l s) (pickF l 5 s).toNat y.b ((sortB_perm _).mem_iff.1 (h2 y hy))
    have := hn x hx
    simp only [Wt.ok, Bool.and_eq_true, decide_eq_true_iff]
    exact ⟨by rw [← he]; exact hk, by omega, by omega⟩
theorem possW_mem {lc : List Cr} {x y : Wt} : y ∈ possW lc x ↔ 0 < possN lc x ∧ y.b = x.b ∧ y.n = possN lc x := by
  unfold possW
  split
  · rename_i h
    simp only [List.mem_singleton]
    constructor
    · rintro rfl; exact ⟨h, rfl, rfl⟩
    · rintro ⟨_, h1, h2⟩
      cases y
      simp only at h1 h2
      subst h1 h2
      rfl
  · rename_i h
    simp [h]
theorem possL_mem {lc : List Cr} {l : List Wt} {y : Wt} : y ∈ possL lc l ↔ ∃ x ∈ l, 0 < possN lc x ∧ y.b = x.b ∧ y.n = possN lc x := by
  unfold possL
  rw [List.mem_flatMap]
  exact ⟨fun ⟨x, hx, h⟩ => ⟨x, hx, possW_mem.1 h⟩, fun ⟨x, hx, h⟩ => ⟨x, hx, possW_mem.2 h⟩⟩
theorem possL_str {lc : List Cr} : ∀ {l : List Wt}, Str l → Str (possL lc l)
  | [], _ => by simp [possL, Str]
  | x :: l, h => by
    unfold Str at h
    rw [List.pairwise_cons] at h
    have ih := possL_str (lc := lc) h.2
    show List.Pairwise _ (possL lc (x :: l))
    rw [show possL lc (x :: l) = possW lc x ++ possL lc l by simp [possL], List.pairwise_append]
    refine ⟨?_, ih, fun y hy z hz => ?_⟩
    · unfold possW
      split <;> simp
    · obtain ⟨_, h1, _⟩ := possW_mem.1 hy
      obtain ⟨u, hu, _, h2, _⟩ := possL_mem.1 hz
      rw [h1, h2]
      exact h.1 u hu
theorem possN_le (lc : List Cr) (x : Wt) : possN lc x ≤ x.n ∧ possN lc x ≤ cntL lc x.b := by
  unfold possN
  split <;> omega
theorem possL_ok {lc : List Cr} {l : List Wt} (h : ordOk l = true) : ordOk (possL lc l) = true := by
  refine ordOk_of (possL_str (ordOk_str h)) (fun y hy => ?_) (Nat.le_trans (possL_le lc l) (ordOk_len h))
  obtain ⟨x, hx, hp, hb, hn⟩ := possL_mem.1 hy
  have h1 := Wt.ok_n (ordOk_all h x hx)
  have h2 := possN_le lc x
  simp only [Wt.ok, Bool.and_eq_true, decide_eq_true_iff]
  exact ⟨by rw [hb]; exact h1.2.2, by omega, by omega⟩
theorem possL_lack (lc : List Cr) (l : List Wt) : lackL (cntL lc) (possL lc l) = [] := by
  rw [lackL_nil]
  intro y hy
  obtain ⟨x, hx, hp, hb, hn⟩ := possL_mem.1 hy
  rw [hn, hb]
  exact (possN_le lc x).2
theorem stackF_stk (l : List Int) : stackOk (stackF l) = true := by
  have h1 := stackF_len l
  have h2 := stackF_ok l
  simp only [stackOk, Bool.and_eq_true, decide_eq_true_iff, List.all_eq_true]
  exact ⟨by omega, h2⟩
end Go.Proofs.YtbngpcghognojaaGreatDoor
namespace Go.Proofs.YtbngpcghognojaaGreatDoor
open Go.RowKit
set_option linter.unusedVariables false
set_option linter.unusedSimpArgs false
set_option maxRecDepth 100000
set_option maxHeartbeats 1000000
attribute [local go_sem] Oper.qB
theorem sziBottle (x : Bt) : (Tryz.prog.info? 26).map (·.size) = some (bc x).length := by rw [bc_length]; kernel_rfl
end Go.Proofs.YtbngpcghognojaaGreatDoor
namespace Go.Proofs.YtbngpcghognojaaGreatDoor
open Go.RowKit
set_option linter.unusedVariables false
set_option linter.unusedSimpArgs false
set_option maxRecDepth 100000
set_option maxHeartbeats 1000000
attribute [local go_sem] Oper.qB
/-- The marks of a bottle. -/
def mkb (k0 : Int) (i : Nat) : List Value := [.int .u8 ((k0 + 2 * (i : Int)) % 256), .int .i16 (IntKind.i16.wrap (k0 + 2 * (i : Int) + 1))]
theorem mkb_length (k0 : Int) (i : Nat) : (mkb k0 i).length = 2 := rfl
theorem mkb_step {k0 : Int} {l : List Bt} {k : Nat} (hk : k < l.length) :
    ((fl (mkb k0) (List.range k) ++ fl bc (l.drop k)).set (k * 2) (.int .u8 ((k0 + 2 * (k : Int)) % 256))).set (k * 2 + 1) (.int .i16 (IntKind.i16.wrap (k0 + 2 * (k : Int) + 1))) = fl (mkb k0) (List.range (k + 1)) ++ fl bc (l.drop (k + 1)) := by
  have hl : (fl (mkb k0) (List.range k)).length = k * 2 := by rw [fl_length (mkb_length k0), List.length_range]
  rw [List.set_append_right _ _ (by omega), hl, Nat.sub_self, List.set_append_right _ _ (by omega), hl, Nat.add_sub_cancel_left, List.range_succ, fl_append, fl_one, List.drop_eq_getElem_cons hk, fl_cons]
  simp [bc, mkb]
end Go.Proofs.YtbngpcghognojaaGreatDoor
namespace Go.Proofs.YtbngpcghognojaaGreatDoor
open Go.RowKit
set_option linter.unusedVariables false
set_option linter.unusedSimpArgs false
set_option maxRecDepth 100000
set_option maxHeartbeats 1000000
attribute [local go_sem] Oper.qB
def takeOR (lc : List Cr) (l : List Wt) (ks : List Int) : List Cr × List Bt × Int := if openI lc l ks = 0 then (if leftL lc l ks = [] then ((outL lc l ks).1, (outL lc l ks).2, 0) else ([], [], 4)) else ([], [], openI lc l ks)
theorem takeOR_le (lc : List Cr) (l : List Wt) (ks : List Int) : (takeOR lc l ks).1.length ≤ 30000 := by
  unfold takeOR
  split
  · rename_i h
    have h8 := ask_le (openI_zero h).1
    split
    · show (outL lc l ks).1.length ≤ 30000
      rw [outL, tkW_len]
      omega
    · simp
  · simp
theorem takeOR_le2 (lc : List Cr) (l : List Wt) (ks : List Int) : (takeOR lc l ks).2.1.length ≤ 300000 := by
  unfold takeOR
  split
  · rename_i h
    have ha := (openI_zero h).1
    have h8 := ask_le ha
    split
    · show (outL lc l ks).2.length ≤ 300000
      have hok : ordOk l = true := by
        unfold askOk at ha
        rw [Bool.and_eq_true] at ha
        exact ha.2
      have := tkW_le lc l ks (ok_nonneg hok) l.length (Nat.le_refl _)
      unfold outL
      omega
    · simp
  · simp
end Go.Proofs.YtbngpcghognojaaGreatDoor
namespace Go.Proofs.YtbngpcghognojaaGreatDoor
open Go.RowKit
set_option linter.unusedVariables false
set_option linter.unusedSimpArgs false
set_option maxRecDepth 100000
set_option maxHeartbeats 1000000
attribute [local go_sem] Oper.qB
def fillOR (lc : List Cr) (l : List Wt) : List Cr × List Cr × Int := if fillI lc l = 0 then ((outL lc l (fewS lc l).1).1, packL (botsL l), 0) else ([], [], fillI lc l)
theorem outL_len (lc : List Cr) (l : List Wt) (ks : List Int) : (outL lc l ks).1.length = lc.length := tkW_len lc l ks l.length
theorem fillOR_le (lc : List Cr) (l : List Wt) : (fillOR lc l).1.length ≤ 30000 := by
  unfold fillOR
  split
  · rename_i h
    rcases fillI_cases lc l with ⟨_, h1, h2⟩ | e | e
    · have := (ask_le h1).1
      show (outL lc l _).1.length ≤ 30000
      rw [outL_len]
      omega
    · rw [e] at h; cases h
    · rw [e] at h; cases h
  · simp
theorem fillOR_le2 (lc : List Cr) (l : List Wt) : (fillOR lc l).2.1.length ≤ 30000 := by
  unfold fillOR
  split
  · rename_i h
    rcases fillI_cases lc l with ⟨_, h1, h2⟩ | e | e
    · have := (ask_le h1).2
      have := botsL_le l
      show (packL (botsL l)).length ≤ 30000
      rw [packL, packK_length]
      omega
    · rw [e] at h; cases h
    · rw [e] at h; cases h
  · simp
end Go.Proofs.YtbngpcghognojaaGreatDoor
namespace Go.Proofs.YtbngpcghognojaaGreatDoor
open Go.RowKit
set_option linter.unusedVariables false
set_option linter.unusedSimpArgs false
set_option maxRecDepth 100000
set_option maxHeartbeats 4000000
attribute [local go_sem] Oper.qB
theorem wp_app_num3 {ops : Array Oper} {rest : List Oper} {o : Oper} {a : Act} {Q : Exit → Act → World → Prop} {W : World} (B : Nat) (hgd : o.guard = none) (s x : Operand) (ho : o.op = .call { callee := .builtin .append, args := #[s, x], argTypes := #[47, 47] })
    (v : Value) (l : List Int) (y : Int) (hs : a.eval s = v) (g : Nat) (hx : a.eval x = .slice (some ⟨g, 0, none⟩) 1 1) (hg : g = W.heap.size)
    (HO : OwnS iv W B 2 1 v l) (hB : B ≤ W.heap.size) (hn : l.length ≤ 100000000)
    (h : ∀ v1 w1, OwnS iv w1 B 2 1 v1 (l ++ [y]) → (Below B W w1 ∧ ButV v W w1 ∧ Away v v1 W) → wpList Tryz.prog ops Q rest (a.put o.dst v1) w1) : wpList Tryz.prog ops Q (o :: rest) a (W.alloc (.cells #[.int .i64 y] 2)) :=
  wp_app3 (P := Tryz.prog) B hgd s x 47 2 ho (.int .i64 0) 1 8 Tryz.underlying47 info64 rfl (by decide) v l.length (fl iv l) [.int .i64 y] hs g hx hg rfl (by simp [Value.oneCell']) HO.1 hB (by omega) (by decide)
    (fun v1 w1 h1 h2 => h v1 w1 (OwnS.grown (by rw [List.length_append, fl_append, fl_one]; exact h1)) h2)
def askT (lc : List Cr) (os : List (List Wt)) (k : Nat) : Int := if (stackOk lc && (os.take k).all ordOk) = true then 0 else 1
theorem ordOk_nil : ordOk [] = true := by simp [ordOk, okK]
theorem take_all {os : List (List Wt)} {k : Nat} (h : k < os.length) : (os.take (k + 1)).all ordOk = ((os.take k).all ordOk && ordOk os[k]!) := by
  rw [List.take_succ_eq_append_getElem h, List.all_append, getB h]
  simp
theorem take_all_no {os : List (List Wt)} {k : Nat} (h : (os.take k).all ordOk = false) : os.all ordOk = false := by
  rw [← Bool.not_eq_true, List.all_eq_true] at h ⊢
  exact fun q => h fun x hx => q x (List.mem_of_mem_take hx)
end Go.Proofs.YtbngpcghognojaaGreatDoor
namespace Go.Proofs.YtbngpcghognojaaGreatDoor
open Go Go.RowKit
set_option linter.unusedVariables false
set_option linter.unusedSimpArgs false
set_option maxRecDepth 100000
set_option maxHeartbeats 4000000
attribute [local go_sem] Oper.qB
/-- Slices of elements, readable, in a readable slice. -/
def LieA {α : Type} [Inhabited α] (f : α → List Value) (w : World) (v : Value) (ls : List (List α)) : Prop :=
  ∃ g cap, v = .slice (some ⟨g, 0, none⟩) ls.length cap ∧ g < w.heap.size ∧ ∀ i, i < ls.length → ∃ g1 c1, w.cell? ⟨g, i, none⟩ = some (.slice (some ⟨g1, 0, none⟩) ls[i]!.length c1) ∧ Lies f w g1 ls[i]! ∧ ls[i]!.length ≤ c1
theorem LieA.kept {α : Type} [Inhabited α] {f : α → List Value} {w w' : World} {v : Value} {ls : List (List α)} (h : LieA f w v ls) (hb : Below w.heap.size w w') : LieA f w' v ls := by
  obtain ⟨g, cap, h1, h2, h3⟩ := h
  refine ⟨g, cap, h1, Nat.lt_of_lt_of_le h2 hb.size, fun i hi => ?_⟩
  obtain ⟨g1, c1, x, K, hc⟩ := h3 i hi
  exact ⟨g1, c1, (hb.cell h2).trans x, K.below hb, hc⟩
theorem LieA.form {α : Type} [Inhabited α] {f : α → List Value} {w : World} {v : Value} {ls : List (List α)} (h : LieA f w v ls) : ∃ g cap, v = .slice (some ⟨g, 0, none⟩) ls.length cap := by
  obtain ⟨g, cap, h1, _⟩ := h
  exact ⟨g, cap, h1⟩
theorem LieA.el {α : Type} [Inhabited α] {f : α → List Value} {w : World} {g cap : Nat} {ls : List (List α)} (h : LieA f w (.slice (some ⟨g, 0, none⟩) ls.length cap) ls) {i : Nat} (hi : i < ls.length) : g < w.heap.size ∧ ∃ g1 c1, w.cell? ⟨g, i, none⟩ = some (.slice (some ⟨g1, 0, none⟩) ls[i]!.length c1) ∧ Lies f w g1 ls[i]! ∧ ls[i]!.length ≤ c1 := by
  obtain ⟨g', cap', hv, h2, h3⟩ := h
  obtain ⟨rfl, -⟩ : g = g' ∧ cap = cap' := by
    simp only [Value.slice.injEq, Option.some.injEq, Addr.mk.injEq, and_true, true_and] at hv
    exact hv
  exact ⟨h2, h3 i hi⟩
end Go.Proofs.YtbngpcghognojaaGreatDoor
namespace Go.Proofs.YtbngpcghognojaaGreatDoor
open Go Go.RowKit
set_option linter.unusedVariables false
set_option linter.unusedSimpArgs false
set_option maxRecDepth 100000
set_option maxHeartbeats 4000000
attribute [local go_sem] Oper.qB
theorem a2Long_no (A A' : Option Addr) (c c' n n' : Nat) (w : World) (h : n ≤ 3000) (h' : n' ≤ 3000) : Calls Tryz.prog 34 #[.slice A n c, .slice A' n' c'] w fun e w' => e = .returned (.bool false) ∧ w = w' := by
  have h1 : ¬ (3000 : Int) < (n : Int) := by omega
  have h2 : ¬ (3000 : Int) < (n' : Int) := by omega
  go_enter Tryz.func34, Tryz.ntmps34
  go_wp2
  go_ret
  exact ⟨by simp [h1, h2], rfl⟩
theorem a2Long_yes (A A' : Option Addr) (c c' n n' : Nat) (w : World) (h : ¬ (n ≤ 3000 ∧ n' ≤ 3000)) : Calls Tryz.prog 34 #[.slice A n c, .slice A' n' c'] w fun e w' => e = .returned (.bool true) ∧ w = w' := by
  by_cases hn : 3000 < n
  · have h1 : (3000 : Int) < (n : Int) := by omega
    go_enter Tryz.func34, Tryz.ntmps34
    go_wp2
    go_ret
    exact ⟨by simp [h1], rfl⟩
  · have h1 : ¬ (3000 : Int) < (n : Int) := by omega
    have h2 : (3000 : Int) < (n' : Int) := by omega
    go_enter Tryz.func34, Tryz.ntmps34
    go_wp2
    go_ret
    exact ⟨by simp [h1, h2], rfl⟩
theorem A2InCrates_any (A0 : Option Addr) (c0 : Nat) (l : List Cr) (b : Bt) (w : World) (hr : RdA w A0 (fl cc l)) (hn : l.length ≤ 1048576) :
    Calls Tryz.prog 52 #[.slice A0 l.length c0, bv b] w fun e w' => e = .returned (.int .i64 (cntL l b)) ∧ Below w.heap.size w w' := by
  have HR := Lib.hid hr
  clear hr
  go_enter Tryz.func52, Tryz.ntmps52
  go_upto_region 1 with fail
  generalize hW : World.alloc _ _ = W
  have H0 : Below w.heap.size w W := by rw [← hW]; go_grown
  have r0 : rowOf W (w.heap.size) = some (#[.int .u8 b.k, .int .i16 b.y]) := (by (try rw [← hW]); simp only [rowOf_alloc, World.size_alloc, ↓reduceIte]; all_goals ((repeat' split) <;> first | omega | (exfalso; omega) | rfl))
  clear hW
  have l0 : w.heap.size ≤ w.heap.size := Nat.le_refl _
  generalize h0 : w.heap.size = g0 at r0 ⊢
  replace l0 : w.heap.size ≤ g0 := Nat.le_of_eq h0
  clear h0
  have b0 := rowOf_lt r0
  have H := Below.refl W.heap.size W
  clear H
  go_wp2
  go_loopw [5, 6] (fun n i wr => ∃ k : Nat, k ≤ l.length ∧ i = .int .i64 k ∧ n = .int .i64 (cntL (l.take k) b) ∧ Below w.heap.size w wr ∧ Hid (Below W.heap.size W wr)) (fun _ i _ => l.length - (intOf i).toNat)
  case atStart => exact ⟨0, Nat.zero_le _, rfl, by simp [cntL], H0, Below.refl _ _⟩
  case round =>
    obtain ⟨k, hk, rfl, rfl, hb, HW⟩ := hrel
    by_cases hlt : k < l.length
    · obtain ⟨gl, off, rfl, hg, hC⟩ := HR.out.some (by rw [fl_length cc_length]; omega)
      have hX := (hC.below hb hg).el cc_length hlt
      have HL := Lib.hid (@cntL_step l b k hlt)
      have hcn := cntL_le (l.take k) b
      have hcl : (l.take k).length ≤ k := by simp; omega
      have hc12 := cntC_le l[k]! b
      have hlt2 : (k : Int) < (l.length : Int) := by omega
      have hgw := Nat.lt_of_lt_of_le hg hb.size
      have HHas : Hid (∀ W', Below wr.heap.size wr W' → Calls Tryz.prog 111 #[.pointer (some ⟨gl, off + k * 24, none⟩), bv b] W' fun e w' => e = .returned (.int .i64 (cntC l[k]! b)) ∧ Below W'.heap.size W' w') := fun W' hW => l02Has_any gl (off + k * 24) l[k]! b W' (hX.below hW hgw) (Nat.lt_of_lt_of_le hgw hW.size)
      have R0 := row_kept r0 HW.out
      clear hX hC
      generalize cntC l[k]! b = m at *
      generalize cntL (l.take k) b = n at HL hcn ⊢
      have hwn : IntKind.i64.wrap ((n : Int) + (m : Int)) = (n : Int) + (m : Int) := by rw [IntKind.wrap_i64]; omega
      go_upto_region 5 with fail
      have H := Below.refl wr.heap.size wr
      refine g_start 8 rfl (by kernel_rfl) ?_
      (refine g_quiet 0 (by kernel_rfl) rfl (fun K hK => ?_); first | ((first | (refine qB_rowK H rfl _ _ rfl _ rfl _ R0 _ Tryz.underlying26 rfl (infoB _ _) (hK _ ?_))); clear hK K) | (go_simp; first | (refine hK _ ?_; clear hK K) | (apply Exists.intro; refine ⟨fun _ => ?_, hK _ ?_⟩; (first | (go_at_call 111 <;> exact HHas.out _ (below_regrown _ _ _))); clear hK K)))
      (refine g_quiet 1 (by kernel_rfl) rfl (fun K hK => ?_); first | ((first | (refine qB_rowK H rfl _ _ rfl _ rfl _ R0 _ Tryz.underlying26 rfl (infoB _ _) (hK _ ?_))); clear hK K) | (go_simp; first | (refine hK _ ?_; clear hK K) | (apply Exists.intro; refine ⟨fun _ => ?_, hK _ ?_⟩; (first | (go_at_call 111 <;> exact HHas.out _ (below_regrown _ _ _))); clear hK K)))
      (refine g_quiet 2 (by kernel_rfl) rfl (fun K hK => ?_); first | ((first | (refine qB_rowK H rfl _ _ rfl _ rfl _ R0 _ Tryz.underlying26 rfl (infoB _ _) (hK _ ?_))); clear hK K) | (go_simp; first | (refine hK _ ?_; clear hK K) | (apply Exists.intro; refine ⟨fun _ => ?_, hK _ ?_⟩; (first | (go_at_call 111 <;> exact HHas.out _ (below_regrown _ _ _))); clear hK K)))
      (refine g_quiet 3 (by kernel_rfl) rfl (fun K hK => ?_); first | ((first | (refine qB_rowK H rfl _ _ rfl _ rfl _ R0 _ Tryz.underlying26 rfl (infoB _ _) (hK _ ?_))); clear hK K) | (go_simp; first | (refine hK _ ?_; clear hK K) | (apply Exists.intro; refine ⟨fun _ => ?_, hK _ ?_⟩; (first | (go_at_call 111 <;> exact HHas.out _ (below_regrown _ _ _))); clear hK K)))
      (refine g_quiet 4 (by kernel_rfl) rfl (fun K hK => ?_); first | ((first | (refine qB_rowK H rfl _ _ rfl _ rfl _ R0 _ Tryz.underlying26 rfl (infoB _ _) (hK _ ?_))); clear hK K) | (go_simp; first | (refine hK _ ?_; clear hK K) | (apply Exists.intro; refine ⟨fun _ => ?_, hK _ ?_⟩; (first | (go_at_call 111 <;> exact HHas.out _ (below_regrown _ _ _))); clear hK K)))
      (refine g_quiet 5 (by kernel_rfl) rfl (fun K hK => ?_); first | ((first | (refine qB_rowK H rfl _ _ rfl _ rfl _ R0 _ Tryz.underlying26 rfl (infoB _ _) (hK _ ?_))); clear hK K) | (go_simp; first | (refine hK _ ?_; clear hK K) | (apply Exists.intro; refine ⟨fun _ => ?_, hK _ ?_⟩; (first | (go_at_call 111 <;> exact HHas.out _ (below_regrown _ _ _))); clear hK K)))
      (refine g_quiet 6 (by kernel_rfl) rfl (fun K hK => ?_); first | ((first | (refine qB_rowK H rfl _ _ rfl _ rfl _ R0 _ Tryz.underlying26 rfl (infoB _ _) (hK _ ?_))); clear hK K) | (go_simp; first | (refine hK _ ?_; clear hK K) | (apply Exists.intro; refine ⟨fun _ => ?_, hK _ ?_⟩; (first | (go_at_call 111 <;> exact HHas.out _ (below_regrown _ _ _))); clear hK K)))
      (refine g_quiet 7 (by kernel_rfl) rfl (fun K hK => ?_); first | ((first | (refine qB_rowK H rfl _ _ rfl _ rfl _ R0 _ Tryz.underlying26 rfl (infoB _ _) (hK _ ?_))); clear hK K) | (go_simp; first | (refine hK _ ?_; clear hK K) | (apply Exists.intro; refine ⟨fun _ => ?_, hK _ ?_⟩; (first | (go_at_call 111 <;> exact HHas.out _ (below_regrown _ _ _))); clear hK K)))
      refine g_done (by kernel_rfl) ?_
      rintro w1 hw1 -
      go_wp2
      go_roundw
      case rel => exact ⟨k + 1, by omega, by go_num, by rw [HL.out]; first | rfl | (congr 1; omega), bstep hb hw1, bstep HW.out hw1⟩
      case measure => simp [intOf]; omega
    · obtain rfl : k = l.length := by omega
      rw [List.take_length]
      go_wp2
      go_ret
      exact ⟨rfl, hb⟩
end Go.Proofs.YtbngpcghognojaaGreatDoor
