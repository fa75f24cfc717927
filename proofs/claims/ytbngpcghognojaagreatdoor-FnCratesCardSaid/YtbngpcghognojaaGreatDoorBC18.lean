/- Texts of the claim, joined (18 of 19): SrcO, Last, SrcQ, BottleS, P6. -/
import Derived.Test.YtbngpcghognojaaGreatDoorBC3
import Derived.Test.YtbngpcghognojaaGreatDoorBC5
import Derived.Test.YtbngpcghognojaaGreatDoorBC6
import Derived.Test.YtbngpcghognojaaGreatDoorBC9
import Derived.Test.YtbngpcghognojaaGreatDoorBC11
import Derived.Test.YtbngpcghognojaaGreatDoorBC17
namespace Go.Proofs.YtbngpcghognojaaGreatDoor
open Go Go.RowKit
set_option linter.unusedVariables false
set_option linter.unusedSimpArgs false
set_option maxRecDepth 100000
set_option maxHeartbeats 4000000
attribute [local go_sem] Oper.qB Oper.qK
section
variable {w w' : World} {g c : Nat} {A : Option Addr} {l : List Int} {s : Nat × Int}
theorem Src.belowB {B : Nat} (h : Src w g A c l s) (hb : Below B w w') (hg : g < B) (hA : ∀ a, A = some a → u8v l ≠ [] → a.block < B) : Src w' g A c l s := by
  refine ⟨by rw [rowOf_below hb hg]; exact h.row, ?_, h.ne, h.byte, h.len, h.seed⟩
  by_cases h0 : u8v l = []
  · exact .inl h0
  · rcases h.rd with h1 | ⟨b, off, e, hl, hC⟩
    · exact .inl h1
    · exact .inr ⟨b, off, e, Nat.lt_of_lt_of_le hl hb.size, hC.below hb (hA _ e h0)⟩
theorem But.below {B : Nat} (h : But g w w') (hB : B ≤ g) (hw : B ≤ w.heap.size) : Below B w w' :=
  ⟨h.1.os, h.1.tape, h.1.output, h.1.size, fun k hk => h.2 k (by omega) (fun e => by
    have e1 : g = k := by simpa [Value.ownBlock] using e
    omega)⟩
theorem OwnS.buts {α : Type} {f : α → List Value} {B e size : Nat} {v : Value} {xs : List α} (h : OwnS f w B e size v xs) (hb : But g w w') (hB : g < B) : OwnS f w' B e size v xs :=
  ⟨OwnN.but h.1 hb (fun b h1 h2 => by
    have e1 : g = b := by simpa [Value.ownBlock] using h1
    have := own_base h.1 b h2
    omega), h.2⟩
end
/-- The crates that are drawn. -/
def stackI (l : List Int) (s : Nat × Int) : Nat → List Cr × (Nat × Int)
  | 0 => ([], s)
  | i + 1 => ((stackI l s i).1 ++ [drawnF l (stackI l s i).2], drawnS l (stackI l s i).2)
theorem stackI_succ (l : List Int) (s : Nat × Int) (i : Nat) : stackI l s (i + 1) = ((stackI l s i).1 ++ [drawnF l (stackI l s i).2], drawnS l (stackI l s i).2) := rfl
theorem stackI_len (l : List Int) (s : Nat × Int) : ∀ i, (stackI l s i).1.length = i
  | 0 => rfl
  | i + 1 => by rw [stackI_succ]; simp [stackI_len l s i]
theorem stackI_at (l : List Int) (s : Nat × Int) : ∀ i, (stackI l s i).2.1 ≤ s.1 + 37 * i
  | 0 => by simp [stackI]
  | i + 1 => by
    have := stackI_at l s i
    have h2 := drawnS_at l (stackI l s i).2
    rw [stackI_succ]
    simp only
    omega
theorem stackI_ok (l : List Int) (s : Nat × Int) : ∀ i, ∀ c ∈ (stackI l s i).1, c.ok = true
  | 0 => by simp [stackI]
  | i + 1 => by
    intro c hc
    rw [stackI_succ] at hc
    simp only [List.mem_append, List.mem_singleton] at hc
    rcases hc with h | h
    · exact stackI_ok l s i c h
    · rw [h]; exact drawnF_ok _ _
def stackF (l : List Int) : List Cr := (stackI l (stepF l (0, 0)) (pickF l 6 (0, 0)).toNat).1
theorem stackF_len (l : List Int) : (stackF l).length ≤ 5 := by
  have := pickF_range l 6 (0, 0) (by decide)
  unfold stackF
  rw [stackI_len]
  omega
theorem stackF_ok (l : List Int) : ∀ c ∈ stackF l, c.ok = true := stackI_ok _ _ _
theorem A2Stack_any (A : Option Addr) (c : Nat) (l : List Int) (w : World) (hr : RdA w A (u8v l)) (hb : ∀ x ∈ l, 0 ≤ x ∧ x ≤ 255) (hl : l.length ≤ 1000000) :
    Calls Tryz.prog 35 #[.slice A l.length c] w fun e w' => ∃ v, e = .returned v ∧ OwnS cc w' w.heap.size 28 24 v (stackF l) ∧ Below w.heap.size w w' := by
  have hA : ∀ a, A = some a → u8v l ≠ [] → a.block < w.heap.size := by
    intro a ha h0
    rcases hr with h1 | ⟨b, off, e, hl, _⟩
    · exact absurd h1 h0
    · have q := ha.symm.trans e
      simp only [Option.some.injEq] at q
      rw [q]; exact hl
  have HF := Lib.hid (l00From_any A c l w hr hA hb hl)
  have HSF := Lib.hid (show stackF l = (stackI l (stepF l (0, 0)) (pickF l 6 (0, 0)).toNat).1 from rfl)
  have hpr := pickF_range l 6 (0, 0) (by decide)
  clear hb
  go_enter Tryz.func35, Tryz.ntmps35
  go_upto_region 2 with (go_at_call 57; (refine HF.out.mono ?_); rintro e w1 ⟨gs, rfl, hgs, HS, HB⟩; (replace HS := Lib.hid HS); (replace HB := Lib.hid HB))
  clear HF
  have hlt := HS.out.lt
  have HA : Hid (∀ a, A = some a → u8v l ≠ [] → a.block < gs + 1) := fun a h1 h2 => by have := hA a h1 h2; omega
  clear hA hr
  have HP1 : Hid (∀ W, Src W gs A c l (0, 0) → Calls Tryz.prog 79 #[.pointer (some ⟨gs, 0, none⟩), .int .i64 6] W fun e w' => e = .returned (.int .i64 (pickF l 6 (0, 0))) ∧ Src w' gs A c l (stepF l (0, 0)) ∧ But gs W w') := fun W h => pick_any gs 6 A c l _ W h (by decide) (by decide) (by decide)
  have hs1 : (stepF l (0, 0)).1 = 1 := rfl
  generalize stepF l (0, 0) = s1 at *
  generalize pickF l 6 (0, 0) = n at *
  go_upto_region 3 with fail
  have HO : Hid (OwnS cc (w1.alloc (.cells #[] 28)) (gs + 1) 28 24 (.slice (some ⟨w1.heap.size, 0, none⟩) 0 0) []) := OwnS.lit (by omega)
  have hbb : Below w1.heap.size w1 (w1.alloc (.cells #[] 28)) := by go_grown
  generalize w1.alloc (.cells #[] 28) = w2 at *
  replace HS := Lib.hid (HS.out.below hbb)
  replace HB := Lib.hid (bstep HB.out hbb)
  have hsz := hbb.size
  clear hbb
  go_wp2_with (go_at_call 79; (refine (HP1.out _ HS.out).mono ?_); rintro e w3 ⟨rfl, HS1, HB1⟩; (have hsz3 := HB1.1.size); (replace HO := Lib.hid (HO.out.buts HB1 (by omega))); (replace HB := Lib.hid (HB.out.trans (HB1.below hgs (by omega)))); (replace HS := Lib.hid HS1); clear HS1 HB1)
  obtain ⟨m, rfl⟩ : ∃ m : Nat, n = (m : Int) := ⟨n.toNat, by omega⟩
  rw [Int.toNat_natCast] at HSF
  have hm : m ≤ 5 := by omega
  go_loopw [4, 5] (fun v i wr => ∃ j : Nat, j ≤ m ∧ i = .int .i64 ((m : Int) - (j : Int)) ∧ Hid (OwnS cc wr (gs + 1) 28 24 v (stackI l s1 j).1) ∧ Hid (Src wr gs A c l (stackI l s1 j).2) ∧ Hid (Below w.heap.size w wr)) (fun _ i _ => (intOf i).toNat)
  case atStart => exact ⟨0, Nat.zero_le _, by simp, HO, HS, HB⟩
  case round =>
    clear HO HS HB HP1
    obtain ⟨j, hj, rfl, HO, HS, HB⟩ := hrel
    by_cases hlt2 : j < m
    · have hat := stackI_at l s1 j
      have hln := stackI_len l s1 j
      have HK := Lib.hid (stackI_succ l s1 j)
      have HD : Hid (∀ W, Src W gs A c l (stackI l s1 j).2 → Calls Tryz.prog 56 #[.pointer (some ⟨gs, 0, none⟩)] W fun e w' => e = .returned (cv (drawnF l (stackI l s1 j).2)) ∧ Src w' gs A c l (drawnS l (stackI l s1 j).2) ∧ But gs W w') := fun W h => l01Drawn_any gs A c l _ W h (by omega)
      generalize drawnF l (stackI l s1 j).2 = x at *
      generalize drawnS l (stackI l s1 j).2 = t1 at *
      generalize (stackI l s1 j).2 = t0 at *
      generalize (stackI l s1 j).1 = P at *
      have hw1 : (j : Int) < (m : Int) := by omega
      have hcl := cc_len x
      have hw2 : (0 : Int) < (m : Int) - (j : Int) := by omega
      go_wp2_with (first | (go_at_call 56; (refine (HD.out _ HS.out).mono ?_); rintro e w4 ⟨rfl, HS1, HB1⟩; (have hsz4 := HB1.1.size); (replace HB := Lib.hid (HB.out.trans (HB1.below hgs (Nat.le_trans (Nat.le_trans hgs (Nat.le_of_lt HS.out.lt)) (Nat.le_refl _))))); (replace HO := Lib.hid (HO.out.buts HB1 (Nat.lt_succ_self _))); (replace HS := Lib.hid HS1); have hgw := HS1.lt; clear HS1 HB1) | (at_builtin; rw [fold_cc]; refine wp_app_crate (gs + 1) rfl _ _ rfl _ P x rfl _ rfl ?hg ?HO ?hB ?hn ?_; (case hg => simp); (case HO => exact HO.out); (case hB => exact hgw); (case hn => omega); intro v1 w5 hown hb1))
      go_roundw
      case rel => exact ⟨j + 1, by omega, by congr 1; omega, by rw [HK.out]; exact hown, by rw [HK.out]; exact HS.out.belowB hb1 (Nat.lt_succ_self _) HA.out, HB.out.trans (hb1.mono (by omega))⟩
      case measure => simp [intOf]; omega
    · obtain rfl : j = m := by omega
      rw [Int.sub_self] at *
      go_wp2
      go_ret
      exact ⟨u4, rfl, by rw [HSF.out]; exact HO.out.down (by omega), HB.out⟩
/-- The bottles that are drawn, and what is wanted of each. -/
def botsI (l : List Int) (s : Nat × Int) : Nat → List Bt × (Nat × Int)
  | 0 => ([], s)
  | i + 1 => ((botsI l s i).1 ++ [oneF l (botsI l s i).2], stepF l (stepF l (botsI l s i).2))
theorem botsI_succ (l : List Int) (s : Nat × Int) (i : Nat) : botsI l s (i + 1) = ((botsI l s i).1 ++ [oneF l (botsI l s i).2], stepF l (stepF l (botsI l s i).2)) := rfl
theorem botsI_len (l : List Int) (s : Nat × Int) : ∀ i, (botsI l s i).1.length = i
  | 0 => rfl
  | i + 1 => by rw [botsI_succ]; simp [botsI_len l s i]
theorem botsI_at (l : List Int) (s : Nat × Int) : ∀ i, (botsI l s i).2.1 = s.1 + 2 * i
  | 0 => rfl
  | i + 1 => by
    have := botsI_at l s i
    rw [botsI_succ]
    simp only [stepF]
    omega
theorem botsI_ok (l : List Int) (s : Nat × Int) : ∀ i, ∀ b ∈ (botsI l s i).1, b.ok = true
  | 0 => by simp [botsI]
  | i + 1 => by
    intro b hb
    rw [botsI_succ] at hb
    simp only [List.mem_append, List.mem_singleton] at hb
    rcases hb with h | h
    · exact botsI_ok l s i b h
    · rw [h]; exact oneF_ok _ _
def wantF (l : List Int) (s : Nat × Int) (b : Bt) : Wt := ⟨b, 1 + pickF l 5 s, by have := pickF_range l 5 s (by decide); omega⟩
def wantsI (l : List Int) (cs : List Ct) (s : Nat × Int) : Nat → List Wt × (Nat × Int)
  | 0 => ([], s)
  | i + 1 => ((wantsI l cs s i).1 ++ [wantF l (wantsI l cs s i).2 cs[i]!.b], stepF l (wantsI l cs s i).2)
theorem wantsI_succ (l : List Int) (cs : List Ct) (s : Nat × Int) (i : Nat) : wantsI l cs s (i + 1) = ((wantsI l cs s i).1 ++ [wantF l (wantsI l cs s i).2 cs[i]!.b], stepF l (wantsI l cs s i).2) := rfl
theorem wantsI_len (l : List Int) (cs : List Ct) (s : Nat × Int) : ∀ i, (wantsI l cs s i).1.length = i
  | 0 => rfl
  | i + 1 => by rw [wantsI_succ]; simp [wantsI_len l cs s i]
theorem wantsI_at (l : List Int) (cs : List Ct) (s : Nat × Int) : ∀ i, (wantsI l cs s i).2.1 = s.1 + i
  | 0 => rfl
  | i + 1 => by
    have := wantsI_at l cs s i
    rw [wantsI_succ]
    simp only [stepF]
    omega
def botsF (l : List Int) (s : Nat × Int) : List Bt × (Nat × Int) := botsI l (stepF l s) (pickF l 5 s).toNat
def ordF (l : List Int) (s : Nat × Int) : List Wt := (wantsI l (runs (sortB (botsF l s).1)) (botsF l s).2 (runs (sortB (botsF l s).1)).length).1
theorem botsF_len (l : List Int) (s : Nat × Int) : (botsF l s).1.length ≤ 4 := by
  have := pickF_range l 5 s (by decide)
  unfold botsF
  rw [botsI_len]
  omega
theorem But.app {w w1 w2 : World} {g : Nat} (h : But g w w1) (hb : Below w.heap.size w1 w2) : But g w w2 :=
  ⟨h.1.trans (hb.mono (Nat.zero_le _)), fun k hk hv => (hb.block k hk).trans (h.2 k hk hv)⟩
/-- append(v, x), run: the want x lies at the head of block g. -/
theorem app_w (B : Nat) (w : World) (v : Value) (l : List Wt) (y : Wt) (g : Nat) (HO : OwnS wc w B 81 3 v l) (hr : rowOf w g = some (wc y).toArray) (hB : B ≤ w.heap.size) (hn : l.length ≤ 100000000) (ty : TypeId) :
    ∃ v1 w1, (Builtin.append_ #[64, 64] ty #[v, .slice (some ⟨g, 0, none⟩) 1 1]).run Tryz.prog w = .ok v1 w1 ∧ OwnS wc w1 B 81 3 v1 (l ++ [y]) ∧ Below B w w1 ∧ ∀ b, b < w.heap.size → v.ownBlock ≠ some b → w1.heap[b]? = w.heap[b]? := by
  obtain ⟨i0, hi, hzz⟩ := Option.map_eq_some_iff.1 infoWantS
  simp only [Prod.mk.injEq] at hzz
  obtain ⟨hz0, hz1, hz2⟩ := hzz
  obtain ⟨v1, w1, hrun, hown, hg, -, -⟩ := run_append_own_at (P := Tryz.prog) w B 64 ty 81 i0 _ 3 6 Tryz.underlying64 hi hz0 hz1 hz2 rfl (by decide) v l.length (fl wc l) HO.1 ⟨g, 0, none⟩ 1 1 (wc y) rfl
    (fun j u hj => by
      rw [addr_at, rowOf_cell hr]
      simpa using hj) (wv_one y) (by simp only [maxLen]; omega) (by omega) hB
  have hb := (Below.refl B w).grown hg hB (fun k hk => own_base HO.1 k hk)
  exact ⟨v1, w1, hrun, OwnS.grown (by rw [List.length_append, fl_append, fl_one]; exact hown), hb, fun b hb1 hv => hg.block b hb1 (fun e => hv e.symm)⟩
theorem l02Drawn_any (gs : Nat) (A : Option Addr) (c : Nat) (l : List Int) (s : Nat × Int) (w : World) (h : Src w gs A c l s) (ha : s.1 ≤ 1000) :
    Calls Tryz.prog 91 #[.pointer (some ⟨gs, 0, none⟩)] w fun e w' => ∃ v, e = .returned v ∧ OwnS wc w' w.heap.size 81 3 v (ordF l s) ∧ But gs w w' := by
  have hgs := h.lt
  have HA := Lib.hid h.blk
  have HS := Lib.hid h
  have HOF := Lib.hid (show ordF l s = (wantsI l (runs (sortB (botsF l s).1)) (botsF l s).2 (runs (sortB (botsF l s).1)).length).1 from rfl)
  have hbl := botsF_len l s
  have hpr := pickF_range l 5 s (by decide)
  have HP1 : Hid (∀ W, Src W gs A c l s → Calls Tryz.prog 79 #[.pointer (some ⟨gs, 0, none⟩), .int .i64 5] W fun e w' => e = .returned (.int .i64 (pickF l 5 s)) ∧ Src w' gs A c l (stepF l s) ∧ But gs W w') := fun W h => pick_any gs 5 A c l _ W h (by omega) (by decide) (by decide)
  have HBF := Lib.hid (show botsF l s = botsI l (stepF l s) (pickF l 5 s).toNat from rfl)
  have hs1 : (stepF l s).1 = s.1 + 1 := rfl
  clear h
  generalize botsF l s = F at *
  generalize ordF l s = OF at *
  generalize stepF l s = s1 at *
  generalize pickF l 5 s = n at *
  go_enter Tryz.func91, Tryz.ntmps91
  go_upto_region 2 with fail
  have HO : Hid (OwnS bc (w.alloc (.cells #[] 26)) w.heap.size 26 2 (.slice (some ⟨w.heap.size, 0, none⟩) 0 0) []) := OwnS.lit (Nat.le_refl _)
  have hbb : Below w.heap.size w (w.alloc (.cells #[] 26)) := by go_grown
  generalize w.alloc (.cells #[] 26) = w2 at *
  replace HS := Lib.hid (HS.out.below hbb)
  have HB := Lib.hid (ButV.of_below (v := .slice (some ⟨gs, 0, none⟩) 0 0) hbb)
  have hsz := hbb.size
  clear hbb
  go_wp2_with (go_at_call 79; (refine (HP1.out _ HS.out).mono ?_); rintro e w3 ⟨rfl, HS1, HB1⟩; (have hsz3 := HB1.1.size); (replace HO := Lib.hid (HO.out.buts HB1 hgs)); (replace HB := Lib.hid (HB.out.trans HB1)); (replace HS := Lib.hid HS1); clear HS1 HB1)
  obtain ⟨m, rfl⟩ : ∃ m : Nat, n = (m : Int) := ⟨n.toNat, by omega⟩
  rw [Int.toNat_natCast] at HBF
  have hm : m ≤ 4 := by omega
  go_loopw [3, 4] (fun v i wr => ∃ j : Nat, j ≤ m ∧ i = .int .i64 ((m : Int) - (j : Int)) ∧ Hid (OwnS bc wr w.heap.size 26 2 v (botsI l s1 j).1) ∧ Hid (Src wr gs A c l (botsI l s1 j).2) ∧ Hid (But gs w wr)) (fun _ i _ => (intOf i).toNat)
  case atStart => exact ⟨0, Nat.zero_le _, by simp, HO, HS, HB⟩
  case round =>
    clear HO HS HB HP1
    obtain ⟨j, hj, rfl, HO, HS, HB⟩ := hrel
    by_cases hlt2 : j < m
    · have hat := botsI_at l s1 j
      have hln := botsI_len l s1 j
      have HK := Lib.hid (botsI_succ l s1 j)
      have HD : Hid (∀ W, Src W gs A c l (botsI l s1 j).2 → Calls Tryz.prog 58 #[.pointer (some ⟨gs, 0, none⟩)] W fun e w' => e = .returned (bv (oneF l (botsI l s1 j).2)) ∧ Src w' gs A c l (stepF l (stepF l (botsI l s1 j).2)) ∧ But gs W w') := fun W h => l01One_any gs A c l _ W h (by omega)
      generalize oneF l (botsI l s1 j).2 = x at *
      generalize stepF l (stepF l (botsI l s1 j).2) = t1 at *
      generalize (botsI l s1 j).2 = t0 at *
      generalize (botsI l s1 j).1 = P at *
      have hw1 : (j : Int) < (m : Int) := by omega
      have hsw := HB.out.1.size
      go_wp2_with (first | (go_at_call 58; (refine (HD.out _ HS.out).mono ?_); rintro e w4 ⟨rfl, HS1, HB1⟩; (replace HB := Lib.hid (HB.out.trans HB1)); (replace HO := Lib.hid (HO.out.buts HB1 hgs)); (replace HS := Lib.hid HS1); have hgw := HB.out.1.size; clear HS1 HB1) | (at_builtin; refine wp_app_bot w.heap.size rfl _ _ rfl _ P x rfl _ rfl ?hg ?HO ?hB ?hn ?_; (case hg => simp); (case HO => exact HO.out.1); (case hB => exact hgw); (case hn => omega); intro v1 w5 hown hb1))
      go_roundw
      case rel => exact ⟨j + 1, by omega, by congr 1; omega, by rw [HK.out]; exact OwnS.grown hown, by rw [HK.out]; exact HS.out.belowB hb1 hgs HA.out, But.app HB.out hb1⟩
      case measure => simp [intOf]; omega
    · obtain rfl : j = m := by omega
      rw [Int.sub_self] at *
      rw [← HBF.out] at HO HS
      obtain ⟨g1, c1, rfl, HL, -⟩ := HO.out.lies
      have HSO : Hid (∀ W, Below wr.heap.size wr W → Calls Tryz.prog 88 #[.slice (some ⟨g1, 0, none⟩) F.1.length c1] W fun e w' => ∃ v, e = .returned v ∧ OwnS bc w' W.heap.size 26 2 v (sortB F.1) ∧ Below W.heap.size W w') := fun W h => l01Sorted_any g1 c1 F.1 W (HL.below h) (by omega)
      clear HL
      have hSL : (sortB F.1).length ≤ 4 := by rw [sortB_length]; exact hbl
      have hRB := (runs_bound (sortB F.1) _ (Nat.le_refl _)).1
      rw [List.take_length] at hRB
      have HSC : Hid (∀ g5 c5 W, Lies bc W g5 (sortB F.1) → Calls Tryz.prog 133 #[.slice (some ⟨g5, 0, none⟩) (sortB F.1).length c5] W fun e w' => ∃ v, e = .returned v ∧ OwnS nc w' W.heap.size 166 3 v (runs (sortB F.1)) ∧ Below W.heap.size W w') := fun g5 c5 W h => l01Counts_any g5 c5 (sortB F.1) W h (by omega)
      generalize sortB F.1 = sl at *
      generalize runs sl = cs at *
      have hcs : cs.length ≤ 4 := by omega
      clear HO hRB
      have hsw := HB.out.1.size
      go_upto_region 7 with (first | (go_at_call 88; (refine (HSO.out _ (Below.refl _ _)).mono ?_); rintro e w4 ⟨v4, rfl, O4, hb4⟩; obtain ⟨g4, c4, rfl, HL4, -⟩ := O4.lies; (have HC4 := Lib.hid (HSC.out g4 c4 _ HL4)); (replace HS := Lib.hid (HS.out.below hb4)); (have hz4 := hb4.size); (replace HB := Lib.hid (But.app HB.out (hb4.mono hsw))); clear HL4 O4 hb4) | (go_at_call 133; (refine HC4.out.mono ?_); rintro e w5 ⟨v5, rfl, O5, hb5⟩; (replace HS := Lib.hid (HS.out.below hb5)); (have hz5 := hb5.size); (replace HB := Lib.hid (But.app HB.out (hb5.mono (Nat.le_trans hsw hz4)))); replace O5 := Lib.hid (O5.down (Nat.le_trans hsw hz4)); clear hb5 HC4))
      clear HSO HSC
      obtain ⟨g6, c6, rfl, HL6, hg6, hg6', hc6⟩ := O5.out.lies
      replace HL6 := Lib.hid HL6
      have hgs5 : gs < w5.heap.size := by omega
      have hw5 : w.heap.size ≤ w5.heap.size := by omega
      have HA5 : Hid (∀ a, A = some a → u8v l ≠ [] → a.block < w5.heap.size) := fun a h1 h2 => by have := HA.out a h1 h2; omega
      have hat0 : F.2.1 ≤ 1020 := by rw [HBF.out, botsI_at]; omega
      clear O5 HBF HA
      go_upto_region 8 with fail
      have HO : Hid (OwnS wc (w5.alloc (.cells #[] 81)) w5.heap.size 81 3 (.slice (some ⟨w5.heap.size, 0, none⟩) 0 0) []) := OwnS.lit (Nat.le_refl _)
      have hbb : Below w5.heap.size w5 (w5.alloc (.cells #[] 81)) := by go_grown
      replace HS := Lib.hid (HS.out.below hbb)
      replace HL6 := Lib.hid (HL6.out.below hbb)
      replace HB := Lib.hid (But.app HB.out (hbb.mono hw5))
      generalize w5.alloc (.cells #[] 81) = w7 at *
      have hz7 := hbb.size
      clear hbb
      generalize w5.heap.size = B at *
      go_wp2
      generalize F.2 = s2 at *
      go_loopw [6, 7] (fun v i wr => ∃ k : Nat, k ≤ cs.length ∧ i = .int .i64 (k : Int) ∧ Hid (OwnS wc wr B 81 3 v (wantsI l cs s2 k).1) ∧ Hid (Src wr gs A c l (wantsI l cs s2 k).2) ∧ Hid (But gs w wr) ∧ Hid (Lies nc wr g6 cs ∧ B ≤ wr.heap.size)) (fun _ i _ => cs.length - (intOf i).toNat)
      case atStart => exact ⟨0, Nat.zero_le _, rfl, HO, HS, HB, HL6.out, by omega⟩
      case round =>
        clear HO HS HB HL6
        obtain ⟨k, hk, rfl, HO, HS, HB, HL⟩ := hrel
        by_cases hlt3 : k < cs.length
        · have hat := wantsI_at l cs s2 k
          have hln := wantsI_len l cs s2 k
          have HK := Lib.hid (wantsI_succ l cs s2 k)
          have HP : Hid (∀ W, Src W gs A c l (wantsI l cs s2 k).2 → Calls Tryz.prog 79 #[.pointer (some ⟨gs, 0, none⟩), .int .i64 5] W fun e w' => e = .returned (.int .i64 (pickF l 5 (wantsI l cs s2 k).2)) ∧ Src w' gs A c l (stepF l (wantsI l cs s2 k).2) ∧ But gs W w') := fun W h => pick_any gs 5 A c l _ W h (by omega) (by decide) (by decide)
          have HWF := Lib.hid (show wc (wantF l (wantsI l cs s2 k).2 cs[k]!.b) = [.int .u8 cs[k]!.b.k, .int .i16 cs[k]!.b.y, .int .i16 (1 + pickF l 5 (wantsI l cs s2 k).2)] from rfl)
          have hp5 := pickF_range l 5 (wantsI l cs s2 k).2 (by decide)
          have HC : Hid (∀ w2, Lies nc w2 g6 cs ∧ B ≤ w2.heap.size → ∀ i v, (bc cs[k]!.b)[i]? = some v → w2.cell? ⟨g6, k * 3 + i, none⟩ = some v) := fun w2 h i v hi => by
            have hX := (h.1.c).el nc_length (i := k) hlt3
            rw [Nat.zero_add] at hX
            refine hX i v ?_
            match i, hi with
            | 0, hi => exact hi
            | 1, hi => exact hi
            | i + 2, hi => simp [bc] at hi
          generalize wantF l (wantsI l cs s2 k).2 cs[k]!.b = x at *
          generalize cs[k]!.b = b at *
          generalize pickF l 5 (wantsI l cs s2 k).2 = p at *
          generalize stepF l (wantsI l cs s2 k).2 = t1 at *
          generalize (wantsI l cs s2 k).2 = t0 at *
          generalize (wantsI l cs s2 k).1 = P at *
          have hlt4 : (k : Int) < (cs.length : Int) := by omega
          have wy : IntKind.i16.wrap (1 + p) = 1 + p := wrap_i16 (by omega)
          have w1p : IntKind.i64.wrap (1 + p) = 1 + p := by rw [IntKind.wrap_i64]; omega
          go_upto_region 11 with fail
          have hq0 : Lies nc (World.drew wr) g6 cs ∧ B ≤ (World.drew wr).heap.size := HL.out
          refine e_start ⟨fun w2 => Lies nc w2 g6 cs ∧ B ≤ w2.heap.size, fun w2 w3 h hb => ⟨h.1.below hb, Nat.le_trans h.2 hb.size⟩⟩ ⟨fun w2 => OwnS wc w2 B 81 3 u6 P ∧ Src w2 gs A c l t0 ∧ But gs w w2, fun w2 w3 h hb => ⟨h.1.kept hb, h.2.1.below hb, ButV.step h.2.2 hb⟩⟩ hq0 ⟨HO.out.kept (Below.refl _ _).drew, HS.out.below (Below.refl _ _).drew, ButV.step HB.out (Below.refl _ _).drew⟩ 14 rfl (by kernel_rfl) ?_
          haveI : Nonempty {w2 : World // Fact.p ⟨fun w2 => Lies nc w2 g6 cs ∧ B ≤ w2.heap.size, fun w2 w3 h hb => ⟨h.1.below hb, Nat.le_trans h.2 hb.size⟩⟩ w2} := ⟨⟨_, hq0⟩⟩
          (refine e_quiet 0 (by kernel_rfl) rfl (fun K hK => ?_); first | ((first | (refine qK_CAt rfl _ _ rfl _ _ rfl [.int .u8 b.k, .int .i16 b.y] HC.out _ Tryz.underlying26 rfl (infoBl b) (hK _ ?_))); clear hK K) | (go_simp; first | (refine hK _ ?_; clear hK K) | (apply Exists.intro; refine ⟨?_, hK _ ?_⟩; (intros; first | fail); clear hK K)))
          (refine e_quiet 1 (by kernel_rfl) rfl (fun K hK => ?_); first | ((first | (refine qK_CAt rfl _ _ rfl _ _ rfl [.int .u8 b.k, .int .i16 b.y] HC.out _ Tryz.underlying26 rfl (infoBl b) (hK _ ?_))); clear hK K) | (go_simp; first | (refine hK _ ?_; clear hK K) | (apply Exists.intro; refine ⟨?_, hK _ ?_⟩; (intros; first | fail); clear hK K)))
          (refine e_quiet 2 (by kernel_rfl) rfl (fun K hK => ?_); first | ((first | (refine qK_CAt rfl _ _ rfl _ _ rfl [.int .u8 b.k, .int .i16 b.y] HC.out _ Tryz.underlying26 rfl (infoBl b) (hK _ ?_))); clear hK K) | (go_simp; first | (refine hK _ ?_; clear hK K) | (apply Exists.intro; refine ⟨?_, hK _ ?_⟩; (intros; first | fail); clear hK K)))
          (refine e_quiet 3 (by kernel_rfl) rfl (fun K hK => ?_); first | ((first | (refine qK_CAt rfl _ _ rfl _ _ rfl [.int .u8 b.k, .int .i16 b.y] HC.out _ Tryz.underlying26 rfl (infoBl b) (hK _ ?_))); clear hK K) | (go_simp; first | (refine hK _ ?_; clear hK K) | (apply Exists.intro; refine ⟨?_, hK _ ?_⟩; (intros; first | fail); clear hK K)))
          (refine e_quiet 4 (by kernel_rfl) rfl (fun K hK => ?_); first | ((first | (refine qK_CAt rfl _ _ rfl _ _ rfl [.int .u8 b.k, .int .i16 b.y] HC.out _ Tryz.underlying26 rfl (infoBl b) (hK _ ?_))); clear hK K) | (go_simp; first | (refine hK _ ?_; clear hK K) | (apply Exists.intro; refine ⟨?_, hK _ ?_⟩; (intros; first | fail); clear hK K)))
          (refine e_quiet 5 (by kernel_rfl) rfl (fun K hK => ?_); first | ((first | (refine qK_CAt rfl _ _ rfl _ _ rfl [.int .u8 b.k, .int .i16 b.y] HC.out _ Tryz.underlying26 rfl (infoBl b) (hK _ ?_))); clear hK K) | (go_simp; first | (refine hK _ ?_; clear hK K) | (apply Exists.intro; refine ⟨?_, hK _ ?_⟩; (intros; first | fail); clear hK K)))
          (refine e_quiet 6 (by kernel_rfl) rfl (fun K hK => ?_); first | ((first | (refine qK_CAt rfl _ _ rfl _ _ rfl [.int .u8 b.k, .int .i16 b.y] HC.out _ Tryz.underlying26 rfl (infoBl b) (hK _ ?_))); clear hK K) | (go_simp; first | (refine hK _ ?_; clear hK K) | (apply Exists.intro; refine ⟨?_, hK _ ?_⟩; (intros; first | fail); clear hK K)))
          refine e_alone 7 (by kernel_rfl) rfl rfl (fun K hK wx hP hG => ?_)
          have hne6 : (Value.slice (some ⟨gs, 0, none⟩) 0 0).ownBlock ≠ some g6 := fun e => by
            have e1 : gs = g6 := by simpa [Value.ownBlock] using e
            omega
          have hP' : Lies nc wx g6 cs ∧ B ≤ wx.heap.size := hP
          have hG' : OwnS wc wx B 81 3 u6 P ∧ Src wx gs A c l t0 ∧ But gs w wx := hG
          have HPx := Lib.hid (HP.out wx hG'.2.1)
          go_simp
          refine HPx.out.mono ?_
          rintro e w4 ⟨rfl, HS1, HB1⟩
          refine ⟨_, ⟨fun w2 => OwnS wc w2 B 81 3 u6 P ∧ Src w2 gs A c l t1 ∧ But gs w w2, fun w2 w3 h hb => ⟨h.1.kept hb, h.2.1.below hb, ButV.step h.2.2 hb⟩⟩, rfl, ⟨⟨lies_but hP'.1 HB1 hne6, Nat.le_trans hP'.2 HB1.1.size⟩, hG'.1.buts HB1 hgs5, HS1, hG'.2.2.trans HB1⟩, hK _ _ ?_⟩
          clear hK K hP hG hP' hG' HS1 HB1 HPx wx w4
          (refine e_quiet 8 (by kernel_rfl) rfl (fun K hK => ?_); first | ((first | fail); clear hK K) | (go_simp; first | (refine hK _ ?_; clear hK K) | (apply Exists.intro; refine ⟨?_, hK _ ?_⟩; (intros; first | fail); clear hK K)))
          (refine e_quiet 9 (by kernel_rfl) rfl (fun K hK => ?_); first | ((first | fail); clear hK K) | (go_simp; first | (refine hK _ ?_; clear hK K) | (apply Exists.intro; refine ⟨?_, hK _ ?_⟩; (intros; first | fail); clear hK K)))
          (refine e_quiet 10 (by kernel_rfl) rfl (fun K hK => ?_); first | ((first | fail); clear hK K) | (go_simp; first | (refine hK _ ?_; clear hK K) | (apply Exists.intro; refine ⟨?_, hK _ ?_⟩; (intros; first | fail); clear hK K)))
          refine e_alone 11 (by kernel_rfl) rfl rfl (fun K hK wx hP hG => ?_)
          have hP' : Lies nc wx g6 cs ∧ B ≤ wx.heap.size := hP
          have hG' : OwnS wc wx B 81 3 u6 P ∧ Src wx gs A c l t1 ∧ But gs w wx := hG
          go_simp
          have hr10 : rowOf (wx.alloc (.cells #[.int .u8 b.k, .int .i16 b.y, .int .i16 (1 + p)] 81)) wx.heap.size = some (wc x).toArray := by
            rw [rowOf_alloc, if_pos rfl, HWF.out]
          have hb10 : Below wx.heap.size wx (wx.alloc (.cells #[.int .u8 b.k, .int .i16 b.y, .int .i16 (1 + p)] 81)) := by go_grown
          refine e_val ⟨fun w2 => (OwnS wc w2 B 81 3 u6 P ∧ Src w2 gs A c l t1 ∧ But gs w w2) ∧ rowOf w2 wx.heap.size = some (wc x).toArray, fun w2 w3 h hb => ⟨⟨h.1.1.kept hb, h.1.2.1.below hb, ButV.step h.1.2.2 hb⟩, row_kept h.2 hb⟩⟩ rfl ⟨hP'.1.below hb10, Nat.le_trans hP'.2 hb10.size⟩ ⟨⟨hG'.1.kept hb10, hG'.2.1.below hb10, ButV.step hG'.2.2 hb10⟩, hr10⟩ (hK _ _ ?_)
          clear hK K hP hG hP' hG' hr10 hb10
          generalize wx.heap.size = g10
          refine e_alone 12 (by kernel_rfl) rfl rfl (fun K hK wy hP hG => ?_)
          have hP' : Lies nc wy g6 cs ∧ B ≤ wy.heap.size := hP
          have hG' : (OwnS wc wy B 81 3 u6 P ∧ Src wy gs A c l t1 ∧ But gs w wy) ∧ rowOf wy g10 = some (wc x).toArray := hG
          obtain ⟨v1, w1, hrun, O1, hb1, -⟩ := app_w B wy u6 P x g10 hG'.1.1 hG'.2 hP'.2 (by omega) 64
          refine e_val ⟨fun w2 => OwnS wc w2 B 81 3 v1 (P ++ [x]) ∧ Src w2 gs A c l t1 ∧ But gs w w2, fun w2 w3 h hb => ⟨h.1.kept hb, h.2.1.below hb, ButV.step h.2.2 hb⟩⟩ (app_exec _ _ _ rfl _ _ rfl rfl v1 hrun) ⟨⟨hP'.1.c.below hb1 hg6', Nat.lt_of_lt_of_le hP'.1.lt hb1.size⟩, Nat.le_trans hP'.2 hb1.size⟩ ⟨O1, hG'.1.2.1.belowB hb1 hgs5 HA5.out, But.app hG'.1.2.2 (hb1.mono hw5)⟩ (hK _ _ ?_)
          clear hK K hP hG hP' hG' hrun O1 hb1 wx wy
          (refine e_quiet 13 (by kernel_rfl) rfl (fun K hK => ?_); first | ((first | fail); clear hK K) | (go_simp; first | (refine hK _ ?_; clear hK K) | (apply Exists.intro; refine ⟨?_, hK _ ?_⟩; (intros; first | fail); clear hK K)))
          refine e_done (by kernel_rfl) ?_
          rintro w6 hP hG
          have hP' : Lies nc w6 g6 cs ∧ B ≤ w6.heap.size := hP
          have hG' : OwnS wc w6 B 81 3 v1 (P ++ [x]) ∧ Src w6 gs A c l t1 ∧ But gs w w6 := hG
          replace hP' := Lib.hid hP'
          replace hG' := Lib.hid hG'
          clear hP hG
          go_wp2
          go_roundw
          case rel => exact ⟨k + 1, by omega, by go_num, by rw [HK.out]; exact hG'.out.1, by rw [HK.out]; exact hG'.out.2.1, hG'.out.2.2, hP'.out⟩
          case measure => simp [intOf]; omega
        · obtain rfl : k = cs.length := by omega
          go_wp2
          go_ret
          exact ⟨u6, rfl, by rw [HOF.out]; exact HO.out.down hw5, HB.out⟩
end Go.Proofs.YtbngpcghognojaaGreatDoor
namespace Go.Proofs.YtbngpcghognojaaGreatDoor
open Go Go.RowKit
set_option linter.unusedVariables false
set_option linter.unusedSimpArgs false
set_option maxRecDepth 100000
set_option maxHeartbeats 1000000
section
variable {Γ : Type} {Cl : Γ → World → Prop} {P : Program} {ops : Array Oper} {md : Region.Mode}
/-- Whatever order is picked, up to the last operation. -/
def AnyL (Cl : Γ → World → Prop) (P : Program) (md : Region.Mode) (ops : Array Oper) (Q : Exit → Act → World → Prop) (L : Nat) : Nat → Γ → Array Bool → Act → Prop
  | 0, γ, d, a => Region.ready md ops d = [L] ∧ ∀ w, Cl γ w → wpAny P md ops Q 1 d a w
  | k + 1, γ, d, a => Region.ready md ops d ≠ [] ∧ ∀ i ∈ Region.ready md ops d, ∀ o, ops[i]? = some o → gOp Cl P ops o γ (fun a' γ' => AnyL Cl P md ops Q L k γ' (d.setIfInBounds i true) a') a
theorem AnyL.any {Q : Exit → Act → World → Prop} {L : Nat} (k : Nat) : ∀ γ d a, AnyL Cl P md ops Q L k γ d a → ∀ w, Cl γ w → wpAny P md ops Q (k + 1) d a w := by
  induction k with
  | zero => exact fun γ d a h w hw => h.2 w hw
  | succ k ih =>
    intro γ d a h w hw
    refine ⟨fun e => absurd e h.1, fun i hi => ?_⟩
    obtain ⟨_, o, ho, _⟩ := mem_ready.1 hi
    have hg := h.2 i hi o ho
    unfold wpOp
    rw [ho]
    unfold gOp at hg
    show if _ then _ else _
    split
    · rename_i hw'
      rw [if_pos hw'] at hg
      refine .inl ?_
      have hu := hg w hw
      unfold Oper.wp
      generalize (execOp a.eval o).run P w = r at hu
      cases r with
      | halt x w => exact hu.elim
      | ok n w =>
        cases n <;> try exact hu.elim
        case value u =>
          obtain ⟨γ', h1, h2⟩ := hu
          exact ih _ _ _ h2 _ h1
        case skip =>
          obtain ⟨γ', h1, h2⟩ := hu
          exact ih _ _ _ h2 _ h1
        case enter f args =>
          refine Calls.mono hu ?_
          rintro e w'' ⟨v, γ', rfl, h1, h2⟩
          exact ih _ _ _ h2 _ h1
    · rename_i hw'
      rw [if_neg hw'] at hg
      exact ih _ _ _ hg _ hw
/-- The last operation waits for this one. -/
def waitsB (md : Region.Mode) (ops : Array Oper) (L i : Nat) : Bool := match ops[L]? with
  | some o => o.after.any fun e => Region.binds md e && e.on == i
  | none => false
theorem waits_not {L i : Nat} (h : waitsB md ops L i = true) {d : Array Bool} (hr : i ∈ Region.ready md ops d) : L ∉ Region.ready md ops d := by
  intro hL
  have hun := (mem_ready.1 hr).1
  obtain ⟨_, o, ho, hall⟩ := mem_ready.1 hL
  unfold waitsB at h
  rw [ho] at h
  obtain ⟨e, he, hb⟩ := Array.any_eq_true'.1 h
  rw [Bool.and_eq_true, beq_iff_eq] at hb
  have h0 := hall e he hb.1
  rw [hb.2] at h0
  rcases Nat.lt_or_ge i d.size with h' | h'
  · simp [h'] at h0 hun
    rw [hun] at h0
    cases h0
  · simp [Array.getElem?_eq_none h'] at h0
theorem AnyL.first {Q : Exit → Act → World → Prop} {i L : Nat} {o : Oper} {v : Value} (hi : ops[i]? = some o) (hsel : ∀ (j : Nat) (x : Oper) cs b, ops[j]? = some x → x.op ≠ .select cs b) (hw : waitsB md ops L i = true) (k : Nat) :
    ∀ γ d a, (∀ j x, ops[j]? = some x → j ≠ i → d.getD j true = false → (∀ e ∈ x.after, Region.binds md e = true → e.on ≠ i) → o.apart ops x = true) →
      i ∈ Region.ready md ops d → YieldsG Cl P ops o v a → AnyL Cl P md ops Q L k γ (d.setIfInBounds i true) (a.put o.dst v) → AnyL Cl P md ops Q L (k + 1) γ d a := by
  induction k with
  | zero =>
    intro γ d a _ hr hy h
    refine ⟨List.ne_nil_of_mem hr, fun j hj x hx => ?_⟩
    by_cases e : j = i
    · subst e
      obtain rfl : x = o := Option.some.inj (hx.symm.trans hi)
      exact hy.gOp h
    · have h1 := ready_mono (i := i) hj e
      rw [h.1, List.mem_singleton] at h1
      subst h1
      exact absurd hj (waits_not hw hr)
  | succ k ih =>
    intro γ d a hfree hr hy h
    have hun := (mem_ready.1 hr).1
    refine ⟨List.ne_nil_of_mem hr, fun j hj x hx => ?_⟩
    by_cases e : j = i
    · subst e
      obtain rfl : x = o := Option.some.inj (hx.symm.trans hi)
      exact hy.gOp h
    obtain ⟨hju, x', hx', hall⟩ := mem_ready.1 hj
    obtain rfl : x' = x := Option.some.inj (hx'.symm.trans hx)
    have hno : ∀ t ∈ x'.after, Region.binds md t = true → t.on ≠ i := by
      intro t ht hb heq
      have h0 := hall t ht hb
      rw [heq] at h0
      rcases Nat.lt_or_ge i d.size with h' | h'
      · simp [h'] at h0 hun
        rw [hun] at h0
        cases h0
      · simp [Array.getElem?_eq_none h'] at h0
    refine (gOp_put (hfree j x' hx e hju hno) (fun cs b => hsel i o cs b hi) (fun cs b => hsel j x' cs b hx) hy (h.2 j (ready_mono hj e) x' hx)).mono ?_
    rintro a' γ' ⟨hy', h'⟩
    refine ih γ' _ a' (fun m y hm hmi hd => hfree m y hm hmi ?_) (ready_mono hr (Ne.symm e)) hy' (by rw [Array.setIfInBounds_comm _ _ e]; exact h')
    by_cases em : j = m
    · rw [← em]
      exact hju
    · rwa [getD_set_ne true em] at hd
end
section
variable {P : Program} {ops : Array Oper} {md : Region.Mode} {Q : Exit → Act → World → Prop} {k j L : Nat} {ws : List World} {w w' : World} {d : Array Bool} {a : Act}
theorem l_start {id : Nat} {Q : Exit → Act → World → Prop} {a : Act} {w : World} (L n : Nat) (ws : List World) (h0 : ws[0]? = some w.drew) (hn : ops.size = n + 1) (hm : P.follows .mixedOrders = true)
    (h : AnyL (At ws) P .any ops Q L n 0 (Array.replicate (n + 1) false) a) : (Code.region id ops true).wp P Q a w := by
  have := AnyL.any _ _ _ _ h _ h0
  rw [← hn] at this
  exact wp_region_any hm this
theorem l_done {o : Oper} (w : World) (hj : ws[j]? = some w) (hB : (Region.ready md ops d == [L] && (Region.ready md ops (d.setIfInBounds L true)).isEmpty) = true) (ho : ops[L]? = some o) (h : wpList P ops Q [o] a w) : AnyL (At ws) P md ops Q L 0 j d a := by
  simp only [Bool.and_eq_true, beq_iff_eq, List.isEmpty_iff] at hB
  refine ⟨hB.1, fun w' hw => ?_⟩
  obtain rfl : w' = w := Option.some.inj ((show ws[j]? = some w' from hw).symm.trans hj)
  refine ⟨fun e => absurd e (by rw [hB.1]; simp), fun i hi => ?_⟩
  rw [hB.1, List.mem_singleton] at hi
  subst hi
  unfold wpOp
  rw [ho]
  have e : wpAny P md ops Q 0 (d.setIfInBounds i true) = fun a w => Q .normal a w := by
    funext a w
    simp [wpAny, hB.2]
  rw [e]
  exact h
/-- Quiet in all these worlds, and the last operation waits for it: it may as well come now. -/
theorem l_quiet (i : Nat) {o : Oper} (hB : (Region.noSelect ops && ((Region.ready md ops d).contains i && (Region.free md ops d i && waitsB md ops L i))) = true) (ho : ops[i]? = some o)
    (h : ∀ K : Act → Prop, (∀ a, AnyL (At ws) P md ops Q L k j (d.setIfInBounds i true) a → K a) → if Region.wanted o (yielded ops a.tmps) then ∃ v, (∀ w ∈ ws, o.quietAt P a (fun w'' => w'' = w) w v) ∧ K (a.put o.dst v) else K (a.put o.dst undef)) : AnyL (At ws) P md ops Q L (k + 1) j d a := by
  simp only [Bool.and_eq_true] at hB
  have hf := h _ fun _ h => h
  have hr : i ∈ Region.ready md ops d := by simpa using hB.2.1
  split at hf
  · rename_i hw
    obtain ⟨v, h1, h2⟩ := hf
    refine AnyL.first ho (Region.noSelect_spec hB.1) hB.2.2.2 k j d a (Region.free_spec ho hB.2.2.1) hr (.inl ⟨hw, fun γ w hL => ?_⟩) h2
    have hq := h1 w (List.mem_of_getElem? hL)
    unfold Oper.quietAt at hq ⊢
    generalize (execOp a.eval o).run P _ = r at hq ⊢
    cases r with
    | halt x w => exact hq
    | ok n w =>
      cases n <;> try exact hq
      case enter f args => exact ⟨hq.1, Calls.mono hq.2 fun e w'' ⟨he, hb⟩ => ⟨he, by rw [hb]; exact hL⟩⟩
  · rename_i hw
    exact AnyL.first ho (Region.noSelect_spec hB.1) hB.2.2.2 k j d a (Region.free_spec ho hB.2.2.1) hr (.inr ⟨by simpa using hw, rfl⟩) hf
/-- Alone ready; the world may become the next one. -/
theorem l_step (i : Nat) {o : Oper} (j' : Nat) (w w' : World) (hj : ws[j]? = some w) (hj' : ws[j']? = some w') (hB : (Region.ready md ops d == [i]) = true) (ho : ops[i]? = some o) (hg : o.guard = none)
    (h : ∀ K : Act → Prop, (∀ a, AnyL (At ws) P md ops Q L k j' (d.setIfInBounds i true) a → K a) → Goes P o a w w' K) : AnyL (At ws) P md ops Q L (k + 1) j d a := by
  have hr : Region.ready md ops d = [i] := by simpa using hB
  refine ⟨by rw [hr]; simp, fun m hm x hx => ?_⟩
  rw [hr] at hm
  obtain rfl : m = i := by simpa using hm
  obtain rfl : x = o := Option.some.inj (hx.symm.trans ho)
  exact (h _ fun _ h => h).gOp (K := fun a' γ' => AnyL (At ws) P md ops Q L k γ' (d.setIfInBounds m true) a') hg hj hj'
end
section
variable {P : Program} {o : Oper} {a : Act} {w w' : World} {k : Act → Prop}
/-- What is run, run. -/
theorem Goes.value {v : Value} (h : (execOp a.eval o).run P w = .ok (.value v) w') (hk : k (a.put o.dst v)) : Goes P o a w w' k := by
  unfold Goes
  rw [h]
  exact ⟨rfl, hk⟩
theorem Goes.skip (h : (execOp a.eval o).run P w = .ok .skip w') (hk : k (a.put o.dst undef)) : Goes P o a w w' k := by
  unfold Goes
  rw [h]
  exact ⟨rfl, hk⟩
end
end Go.Proofs.YtbngpcghognojaaGreatDoor
namespace Go.Proofs.YtbngpcghognojaaGreatDoor
open Go Go.RowKit
set_option linter.unusedVariables false
set_option linter.unusedSimpArgs false
set_option maxRecDepth 100000
set_option maxHeartbeats 4000000
attribute [local go_sem] Oper.qB Oper.qK
theorem rdA_blk {w : World} {A : Option Addr} {vs : List Value} (h : RdA w A vs) (a : Addr) (ha : A = some a) (h0 : vs ≠ []) : a.block < w.heap.size := by
  rcases h with h1 | ⟨b, off, e, hl, _⟩
  · exact absurd h1 h0
  · have q := ha.symm.trans e
    simp only [Option.some.injEq] at q
    rw [q]; exact hl
theorem A2Order_any (A : Option Addr) (c : Nat) (l : List Int) (w : World) (hr : RdA w A (u8v l)) (hb : ∀ x ∈ l, 0 ≤ x ∧ x ≤ 255) (hl : l.length ≤ 1000000) :
    Calls Tryz.prog 36 #[.slice A l.length c] w fun e w' => ∃ v, e = .returned v ∧ OwnS wc w' w.heap.size 81 3 v (ordF l (0, 0)) ∧ Below w.heap.size w w' := by
  have HF := Lib.hid (l00From_any A c l w hr (rdA_blk hr) hb hl)
  clear hr hb
  go_enter Tryz.func36, Tryz.ntmps36
  go_wp2_with (first | (go_at_call 57; (refine HF.out.mono ?_); rintro e w1 ⟨gs, rfl, hgs, HS, HB⟩; (replace HS := Lib.hid HS); (replace HB := Lib.hid HB)) | (go_at_call 91; (refine (l02Drawn_any gs A c l (0, 0) _ HS.out (by decide)).mono ?_); rintro e w2 ⟨v2, rfl, O2, HB2⟩; (have hsz := HB.out.size); (replace HB2 := Lib.hid (HB2.below hgs hsz)); replace O2 := Lib.hid (O2.down hsz)))
  go_ret
  exact ⟨v2, rfl, O2.out, HB.out.trans HB2.out⟩
/-- What can be had of what is wanted. -/
def possN (lc : List Cr) (x : Wt) : Int := if 0 < x.n - (cntL lc x.b : Int) then (cntL lc x.b : Int) else x.n
theorem possN_in (lc : List Cr) (x : Wt) : -32768 ≤ possN lc x ∧ possN lc x ≤ 32767 := by
  have := x.hn
  unfold possN
  split <;> omega
def possW (lc : List Cr) (x : Wt) : List Wt := if 0 < possN lc x then [⟨x.b, possN lc x, possN_in lc x⟩] else []
def possL (lc : List Cr) (l : List Wt) : List Wt := l.flatMap (possW lc)
theorem possL_step {lc : List Cr} {l : List Wt} {k : Nat} (hk : k < l.length) : possL lc (l.take (k + 1)) = possL lc (l.take k) ++ possW lc l[k]! := by
  unfold possL
  rw [List.take_succ_eq_append_getElem hk, getB hk, List.flatMap_append]
  simp
theorem possW_le (lc : List Cr) (x : Wt) : (possW lc x).length ≤ 1 := by
  unfold possW
  split <;> simp
theorem possL_le (lc : List Cr) : ∀ l : List Wt, (possL lc l).length ≤ l.length
  | [] => Nat.le_refl _
  | x :: l => by
    have h1 := possW_le lc x
    have h2 := possL_le lc l
    unfold possL at *
    rw [List.flatMap_cons, List.length_append, List.length_cons]
    omega
theorem wantsI_n {l : List Int} {cs : List Ct} {s : Nat × Int} : ∀ i, ∀ x ∈ (wantsI l cs s i).1, 1 ≤ x.n ∧ x.n ≤ 5
  | 0 => by simp [wantsI]
  | i + 1 => by
    intro x hx
    rw [wantsI_succ] at hx
    simp only [List.mem_append, List.mem_singleton] at hx
    rcases hx with h | h
    · exact wantsI_n i x h
    · have := pickF_range l 5 (wantsI l cs s i).2 (by decide)
      rw [h]
      show 1 ≤ 1 + pickF l 5 (wantsI l cs s i).2 ∧ 1 + pickF l 5 (wantsI l cs s i).2 ≤ 5
      omega
theorem ordF_n {l : List Int} {s : Nat × Int} : ∀ x ∈ ordF l s, 1 ≤ x.n ∧ x.n ≤ 5 := wantsI_n _
theorem ordF_len (l : List Int) (s : Nat × Int) : (ordF l s).length ≤ 4 := by
  have h1 := botsF_len l s
  have h2 := (runs_bound (sortB (botsF l s).1) _ (Nat.le_refl _)).1
  rw [List.take_length, sortB_length] at h2
  unfold ordF
  rw [wantsI_len]
  omega
end Go.Proofs.YtbngpcghognojaaGreatDoor
namespace Go.Proofs.YtbngpcghognojaaGreatDoor
open Go.RowKit
set_option linter.unusedVariables false
set_option linter.unusedSimpArgs false
set_option maxRecDepth 100000
set_option maxHeartbeats 1000000
attribute [local go_sem] Oper.qB
theorem sziBottle (x : Bt) : (Tryz.prog.info? 26).map (·.size) = some (bc x).length := by rw [bc_length]; kernel_rfl
end Go.Proofs.YtbngpcghognojaaGreatDoor
namespace Go.Proofs.YtbngpcghognojaaGreatDoor
open Go Go.RowKit
set_option linter.unusedVariables false
set_option linter.unusedSimpArgs false
set_option maxRecDepth 100000
set_option maxHeartbeats 4000000
attribute [local go_sem] Oper.qB
theorem P6Pick_any (A : Option Addr) (c : Nat) (l : List Int) (n : Int) (w : World) (hr : RdA w A (u8v l)) (hb : ∀ x ∈ l, 0 ≤ x ∧ x ≤ 255) (hl : l.length ≤ 1000000) (hn : 2 ≤ n) (hn2 : n ≤ 200) :
    Calls Tryz.prog 22 #[.slice A l.length c, .int .i64 n] w fun e w' => e = .returned (.int .i64 (pickF l n (0, 0))) ∧ Below w.heap.size w w' := by
  have HF := Lib.hid (l00From_any A c l w hr (rdA_blk hr) hb hl)
  clear hr hb
  go_enter Tryz.func22, Tryz.ntmps22
  go_wp2_with (first | (go_at_call 57; (refine HF.out.mono ?_); rintro e w1 ⟨gs, rfl, hgs, HS, HB⟩; (replace HS := Lib.hid HS); (replace HB := Lib.hid HB)) | (go_at_call 79; (refine (pick_any gs n A c l (0, 0) _ HS.out (by decide) hn hn2).mono ?_); rintro e w2 ⟨rfl, O2, HB2⟩; (have hsz := HB.out.size); (replace HB2 := Lib.hid (HB2.below hgs hsz))))
  go_ret
  exact ⟨rfl, HB.out.trans HB2.out⟩
theorem P6Bottle_any (A : Option Addr) (c : Nat) (l : List Int) (w : World) (hr : RdA w A (u8v l)) (hb : ∀ x ∈ l, 0 ≤ x ∧ x ≤ 255) (hl : l.length ≤ 1000000) :
    Calls Tryz.prog 7 #[.slice A l.length c] w fun e w' => e = .returned (bv (oneF l (0, 0))) ∧ Below w.heap.size w w' := by
  have HF := Lib.hid (fun W (hW : Below w.heap.size w W) => l00From_any A c l W (hr.below hW) (rdA_blk (hr.below hW)) hb hl)
  clear hr hb
  go_enter Tryz.func7, Tryz.ntmps7
  go_upto_region 1 with fail
  generalize hW : World.alloc _ _ = W
  have H0 : Below w.heap.size w W := by rw [← hW]; go_grown
  have r0 : rowOf W (w.heap.size) = some (#[.int .u8 0, .int .i16 0]) := (by (try rw [← hW]); simp only [rowOf_alloc, World.size_alloc, ↓reduceIte]; all_goals ((repeat' split) <;> first | omega | (exfalso; omega) | rfl))
  clear hW
  have l0 : w.heap.size ≤ w.heap.size := Nat.le_refl _
  generalize h0 : w.heap.size = g0 at r0 ⊢
  replace l0 : w.heap.size ≤ g0 := Nat.le_of_eq h0
  clear h0
  have b0 := rowOf_lt r0
  have H := Below.refl W.heap.size W
  have hg0 := rowOf_lt r0
  have b0 := H0
  go_wp2_with (first | (go_at_call 57; (refine (HF.out _ b0).mono ?_); rintro e w1 ⟨gs, rfl, hgs, HS, HB⟩; (replace HS := Lib.hid HS); (replace HB := Lib.hid HB)) | (go_at_call 58; (refine (l01One_any gs A c l (0, 0) _ HS.out (by decide)).mono ?_); rintro e w2 ⟨rfl, O2, HB2⟩; (have hsz := HB.out.size); (replace HB2 := Lib.hid (HB.out.trans (HB2.below hgs hsz)))) | (with_reducible refine wp_store_rowOf rfl rfl _ _ _ rfl _ rfl #[.int .u8 (oneF l (0, 0)).k, .int .i16 (oneF l (0, 0)).y] rfl #[.int .u8 0, .int .i16 0] (row_kept r0 HB2.out) rfl (infoB _ _) (bv_one _ _) ?_))
  have r2 := row_kept r0 HB2.out
  exact bodyPost_ret (results_c rfl rfl (loadVar_rowOf #[.int .u8 (oneF l (0, 0)).k, .int .i16 (oneF l (0, 0)).y] (by rw [rowOf_setRow, if_pos rfl, r2]; rfl) _ Tryz.underlying26 rfl (infoB _ _))) rfl ⟨rfl, bsetRow (bstep H0 HB2.out) l0 _⟩
theorem P6Crate_any (A : Option Addr) (c : Nat) (l : List Int) (w : World) (hr : RdA w A (u8v l)) (hb : ∀ x ∈ l, 0 ≤ x ∧ x ≤ 255) (hl : l.length ≤ 1000000) :
    Calls Tryz.prog 6 #[.slice A l.length c] w fun e w' => e = .returned (cv (drawnF l (0, 0))) ∧ Below w.heap.size w w' := by
  have HF := Lib.hid (fun W (hW : Below w.heap.size w W) => l00From_any A c l W (hr.below hW) (rdA_blk (hr.below hW)) hb hl)
  clear hr hb
  go_enter Tryz.func6, Tryz.ntmps6
  go_upto_region 1 with fail
  generalize hW : World.alloc _ _ = W
  have H0 : Below w.heap.size w W := by rw [← hW]; go_grown
  have r0 : rowOf W (w.heap.size) = some ((cc zC).toArray) := (by (try rw [← hW]); simp only [rowOf_alloc, World.size_alloc, ↓reduceIte]; all_goals ((repeat' split) <;> first | omega | (exfalso; omega) | rfl))
  clear hW
  have l0 : w.heap.size ≤ w.heap.size := Nat.le_refl _
  generalize h0 : w.heap.size = g0 at r0 ⊢
  replace l0 : w.heap.size ≤ g0 := Nat.le_of_eq h0
  clear h0
  have b0 := rowOf_lt r0
  have H := Below.refl W.heap.size W
  have hg0 := rowOf_lt r0
  have b0 := H0
  go_wp2_with (first | (go_at_call 57; (refine (HF.out _ b0).mono ?_); rintro e w1 ⟨gs, rfl, hgs, HS, HB⟩; (replace HS := Lib.hid HS); (replace HB := Lib.hid HB)) | (go_at_call 56; (refine (l01Drawn_any gs A c l (0, 0) _ HS.out (by decide)).mono ?_); rintro e w2 ⟨rfl, O2, HB2⟩; (have hsz := HB.out.size); (replace HB2 := Lib.hid (HB.out.trans (HB2.below hgs hsz)))) | (with_reducible refine wp_store_rowOf rfl rfl _ _ _ rfl _ rfl (cc (drawnF l (0, 0))).toArray rfl (cc zC).toArray (row_kept r0 HB2.out) (cc_size2 _ _) (infoC _) (cc_one _) ?_))
  have r2 := row_kept r0 HB2.out
  exact bodyPost_ret (results_c rfl rfl (loadVar_rowOf (cc (drawnF l (0, 0))).toArray (by rw [rowOf_setRow, if_pos rfl, r2]; rfl) _ Tryz.underlying28 rfl (infoC _))) rfl ⟨rfl, bsetRow (bstep H0 HB2.out) l0 _⟩
theorem f6big_no (A : Option Addr) (c n : Nat) (w : World) (h : n ≤ 4096) : Calls Tryz.prog 5 #[.slice A n c] w fun e w' => e = .returned (.bool false) ∧ w = w' := by
  have h1 : ¬ (4096 : Int) < (n : Int) := by omega
  go_enter Tryz.func5, Tryz.ntmps5
  go_wp2
  go_ret
  exact ⟨by simp [h1], rfl⟩
theorem f6big_yes (A : Option Addr) (c n : Nat) (w : World) (h : ¬ n ≤ 4096) : Calls Tryz.prog 5 #[.slice A n c] w fun e w' => e = .returned (.bool true) ∧ w = w' := by
  have h1 : (4096 : Int) < (n : Int) := by omega
  go_enter Tryz.func5, Tryz.ntmps5
  go_wp2
  go_ret
  exact ⟨by simp [h1], rfl⟩
theorem HasNumber_any (A : Option Addr) (c n : Nat) (l : List Int) (x : Int) (w : World) (h : RdA w A (vi l)) (hn : l.length = n) (hm : n ≤ 1000000000) :
    Calls Tryz.prog 25 #[.slice A n c, .int .i64 x] w fun e w' => e = .returned (.bool (l.contains x)) ∧ w = w' := by
  have HS := Lib.hid (l00Has_rd A c n l x w h hn hm)
  clear h hn hm
  go_enter Tryz.func25, Tryz.ntmps25
  go_wp2_with (go_at_call 83; refine HS.out.mono ?_; rintro e w1 ⟨rfl, rfl⟩)
  go_ret
  exact ⟨congrArg (fun z => Ending.returned (Value.bool z)) (by simp), rfl⟩
attribute [local go_sem high] eqB
theorem SameLabels_refl (A A' : Option Addr) (c c' : Nat) (l : List Bt) (w : World) (h : RdA w A (fl bc l)) (h' : RdA w A' (fl bc l)) (hm : l.length ≤ 1000000000) :
    Calls Tryz.prog 20 #[.slice A l.length c, .slice A' l.length c'] w fun e w' => e = .returned (.bool true) ∧ Below w.heap.size w w' := by
  have hu := Tryz.underlying26
  have HR := Lib.hid h
  have HR' := Lib.hid h'
  clear h h'
  go_enter Tryz.func20, Tryz.ntmps20
  go_wp2
  go_loopw [5] (fun i wr => ∃ k : Nat, k ≤ l.length ∧ i = .int .i64 k ∧ Below w.heap.size w wr) (fun i _ => l.length - (intOf i).toNat)
  case atStart => exact ⟨0, Nat.zero_le _, rfl, Below.refl _ _⟩
  case round =>
    obtain ⟨k, hk, rfl, hb⟩ := hrel
    by_cases hlt : k < l.length
    · obtain ⟨g, off, rfl, hg, hC⟩ := HR.out.some (by rw [fl_length bc_length]; omega)
      obtain ⟨g', off', rfl, hg', hC'⟩ := HR'.out.some (by rw [fl_length bc_length]; omega)
      have HX := Lib.hid ((hC.below hb hg).el bc_length hlt)
      have HX' := Lib.hid ((hC'.below hb hg').el bc_length hlt)
      have HG := Lib.hid (Nat.lt_of_lt_of_le hg hb.size)
      have HG' := Lib.hid (Nat.lt_of_lt_of_le hg' hb.size)
      have hlt2 : (k : Int) < (l.length : Int) := by omega
      clear hC hC' HR HR'
      generalize l[k]! = x at HX HX'
      go_upto_region 6 with fail
      have H := Below.refl wr.heap.size wr
      refine g_start 9 rfl (by kernel_rfl) ?_
      (refine g_quiet 0 (by kernel_rfl) rfl (fun K hK => ?_); first | ((first | (refine qB_CAtK H rfl _ _ rfl _ _ rfl [.int .u8 x.k, .int .i16 x.y] HX.out HG.out _ Tryz.underlying26 rfl (sziBottle x) (hK _ ?_)) | (refine qB_CAtK H rfl _ _ rfl _ _ rfl [.int .u8 x.k, .int .i16 x.y] HX'.out HG'.out _ Tryz.underlying26 rfl (sziBottle x) (hK _ ?_))); clear hK K) | (go_simp; first | (refine hK _ ?_; clear hK K) | (apply Exists.intro; refine ⟨fun _ => ?_, hK _ ?_⟩; (first | fail); clear hK K)))
      (refine g_quiet 1 (by kernel_rfl) rfl (fun K hK => ?_); first | ((first | (refine qB_CAtK H rfl _ _ rfl _ _ rfl [.int .u8 x.k, .int .i16 x.y] HX.out HG.out _ Tryz.underlying26 rfl (sziBottle x) (hK _ ?_)) | (refine qB_CAtK H rfl _ _ rfl _ _ rfl [.int .u8 x.k, .int .i16 x.y] HX'.out HG'.out _ Tryz.underlying26 rfl (sziBottle x) (hK _ ?_))); clear hK K) | (go_simp; first | (refine hK _ ?_; clear hK K) | (apply Exists.intro; refine ⟨fun _ => ?_, hK _ ?_⟩; (first | fail); clear hK K)))
      (refine g_quiet 2 (by kernel_rfl) rfl (fun K hK => ?_); first | ((first | (refine qB_CAtK H rfl _ _ rfl _ _ rfl [.int .u8 x.k, .int .i16 x.y] HX.out HG.out _ Tryz.underlying26 rfl (sziBottle x) (hK _ ?_)) | (refine qB_CAtK H rfl _ _ rfl _ _ rfl [.int .u8 x.k, .int .i16 x.y] HX'.out HG'.out _ Tryz.underlying26 rfl (sziBottle x) (hK _ ?_))); clear hK K) | (go_simp; first | (refine hK _ ?_; clear hK K) | (apply Exists.intro; refine ⟨fun _ => ?_, hK _ ?_⟩; (first | fail); clear hK K)))
      (refine g_quiet 3 (by kernel_rfl) rfl (fun K hK => ?_); first | ((first | (refine qB_CAtK H rfl _ _ rfl _ _ rfl [.int .u8 x.k, .int .i16 x.y] HX.out HG.out _ Tryz.underlying26 rfl (sziBottle x) (hK _ ?_)) | (refine qB_CAtK H rfl _ _ rfl _ _ rfl [.int .u8 x.k, .int .i16 x.y] HX'.out HG'.out _ Tryz.underlying26 rfl (sziBottle x) (hK _ ?_))); clear hK K) | (go_simp; first | (refine hK _ ?_; clear hK K) | (apply Exists.intro; refine ⟨fun _ => ?_, hK _ ?_⟩; (first | fail); clear hK K)))
      (refine g_quiet 4 (by kernel_rfl) rfl (fun K hK => ?_); first | ((first | (refine qB_CAtK H rfl _ _ rfl _ _ rfl [.int .u8 x.k, .int .i16 x.y] HX.out HG.out _ Tryz.underlying26 rfl (sziBottle x) (hK _ ?_)) | (refine qB_CAtK H rfl _ _ rfl _ _ rfl [.int .u8 x.k, .int .i16 x.y] HX'.out HG'.out _ Tryz.underlying26 rfl (sziBottle x) (hK _ ?_))); clear hK K) | (go_simp; first | (refine hK _ ?_; clear hK K) | (apply Exists.intro; refine ⟨fun _ => ?_, hK _ ?_⟩; (first | fail); clear hK K)))
      (refine g_quiet 5 (by kernel_rfl) rfl (fun K hK => ?_); first | ((first | (refine qB_CAtK H rfl _ _ rfl _ _ rfl [.int .u8 x.k, .int .i16 x.y] HX.out HG.out _ Tryz.underlying26 rfl (sziBottle x) (hK _ ?_)) | (refine qB_CAtK H rfl _ _ rfl _ _ rfl [.int .u8 x.k, .int .i16 x.y] HX'.out HG'.out _ Tryz.underlying26 rfl (sziBottle x) (hK _ ?_))); clear hK K) | (go_simp; first | (refine hK _ ?_; clear hK K) | (apply Exists.intro; refine ⟨fun _ => ?_, hK _ ?_⟩; (first | fail); clear hK K)))
      (refine g_quiet 6 (by kernel_rfl) rfl (fun K hK => ?_); first | ((first | (refine qB_CAtK H rfl _ _ rfl _ _ rfl [.int .u8 x.k, .int .i16 x.y] HX.out HG.out _ Tryz.underlying26 rfl (sziBottle x) (hK _ ?_)) | (refine qB_CAtK H rfl _ _ rfl _ _ rfl [.int .u8 x.k, .int .i16 x.y] HX'.out HG'.out _ Tryz.underlying26 rfl (sziBottle x) (hK _ ?_))); clear hK K) | (go_simp; first | (refine hK _ ?_; clear hK K) | (apply Exists.intro; refine ⟨fun _ => ?_, hK _ ?_⟩; (first | fail); clear hK K)))
      (refine g_quiet 7 (by kernel_rfl) rfl (fun K hK => ?_); first | ((first | (refine qB_CAtK H rfl _ _ rfl _ _ rfl [.int .u8 x.k, .int .i16 x.y] HX.out HG.out _ Tryz.underlying26 rfl (sziBottle x) (hK _ ?_)) | (refine qB_CAtK H rfl _ _ rfl _ _ rfl [.int .u8 x.k, .int .i16 x.y] HX'.out HG'.out _ Tryz.underlying26 rfl (sziBottle x) (hK _ ?_))); clear hK K) | (go_simp; first | (refine hK _ ?_; clear hK K) | (apply Exists.intro; refine ⟨fun _ => ?_, hK _ ?_⟩; (first | fail); clear hK K)))
      (refine g_quiet 8 (by kernel_rfl) rfl (fun K hK => ?_); first | ((first | (refine qB_CAtK H rfl _ _ rfl _ _ rfl [.int .u8 x.k, .int .i16 x.y] HX.out HG.out _ Tryz.underlying26 rfl (sziBottle x) (hK _ ?_)) | (refine qB_CAtK H rfl _ _ rfl _ _ rfl [.int .u8 x.k, .int .i16 x.y] HX'.out HG'.out _ Tryz.underlying26 rfl (sziBottle x) (hK _ ?_))); clear hK K) | (go_simp; first | (refine hK _ ?_; clear hK K) | (apply Exists.intro; refine ⟨fun _ => ?_, hK _ ?_⟩; (first | fail); clear hK K)))
      refine g_done (by kernel_rfl) ?_
      rintro w1 hw1 -
      go_wp2
      go_roundw
      case rel => exact ⟨k + 1, by omega, by go_num, bstep hb hw1⟩
      case measure => simp [intOf]; omega
    · obtain rfl : k = l.length := by omega
      go_wp2
      go_ret
      exact ⟨rfl, hb⟩
end Go.Proofs.YtbngpcghognojaaGreatDoor
