/- Texts of the claim, joined (14 of 18): Out, OutL, SevP. -/
import Derived.Test.YtbngpcghognojaaB5
import Derived.Test.YtbngpcghognojaaB7
import Derived.Test.YtbngpcghognojaaB11
namespace Go.Proofs.Ytbngpcghognojaa
open Go.RowKit
set_option linter.unusedVariables false
set_option linter.unusedSimpArgs false
set_option maxRecDepth 100000
set_option maxHeartbeats 1000000
attribute [local go_sem] Oper.qB
/-- One place of one crate. -/
def tkStep (b : Bt) (k p : Nat) (s : List Cr × List Bt × Int) : List Cr × List Bt × Int := if (decide (0 < s.2.2) && (rB (s.1[k]!).toList p).like b) = true then (putL s.1 k p zB, s.2.1 ++ [b], s.2.2 - 1) else s
def tkP (b : Bt) (k : Nat) : Nat → List Cr × List Bt × Int → List Cr × List Bt × Int
  | 0, s => s
  | p + 1, s => tkStep b k p (tkP b k p s)
def tkK (b : Bt) (ks : List Int) : Nat → List Cr × List Bt × Int → List Cr × List Bt × Int
  | 0, s => s
  | j + 1, s => tkP b (ks.getD j 0).toNat 12 (tkK b ks j s)
def tkW (lc : List Cr) (l : List Wt) (ks : List Int) : Nat → List Cr × List Bt
  | 0 => (lc, [])
  | i + 1 => ((tkK l[i]!.b ks ks.length ((tkW lc l ks i).1, (tkW lc l ks i).2, l[i]!.n)).1, (tkK l[i]!.b ks ks.length ((tkW lc l ks i).1, (tkW lc l ks i).2, l[i]!.n)).2.1)
def outL (lc : List Cr) (l : List Wt) (ks : List Int) : List Cr × List Bt := tkW lc l ks l.length
/-- What stays as it is. -/
structure Stay (s s' : List Cr × List Bt × Int) : Prop where
  len : s'.1.length = s.1.length
  sum : (s'.2.1.length : Int) + s'.2.2 = s.2.1.length + s.2.2
  pos : 0 ≤ s.2.2 → 0 ≤ s'.2.2
  le : s'.2.2 ≤ s.2.2
theorem Stay.refl (s : List Cr × List Bt × Int) : Stay s s := ⟨rfl, rfl, id, Int.le_refl _⟩
theorem Stay.trans {a b c : List Cr × List Bt × Int} (h : Stay a b) (k : Stay b c) : Stay a c := ⟨k.len.trans h.len, k.sum.trans h.sum, fun q => k.pos (h.pos q), Int.le_trans k.le h.le⟩
theorem tkStep_stay (b : Bt) (k p : Nat) (s : List Cr × List Bt × Int) : Stay s (tkStep b k p s) := by
  unfold tkStep
  split
  · rename_i h
    simp only [Bool.and_eq_true, decide_eq_true_iff] at h
    refine ⟨putL_length _ _ _ _, ?_, fun _ => ?_, ?_⟩
    · show ((s.2.1 ++ [b]).length : Int) + (s.2.2 - 1) = _
      rw [List.length_append, List.length_singleton]
      omega
    · show 0 ≤ s.2.2 - 1
      omega
    · show s.2.2 - 1 ≤ s.2.2
      omega
  · exact Stay.refl s
theorem tkP_stay (b : Bt) (k : Nat) : ∀ (p : Nat) (s : List Cr × List Bt × Int), Stay s (tkP b k p s)
  | 0, s => Stay.refl s
  | p + 1, s => (tkP_stay b k p s).trans (tkStep_stay b k p _)
theorem tkK_stay (b : Bt) (ks : List Int) : ∀ (j : Nat) (s : List Cr × List Bt × Int), Stay s (tkK b ks j s)
  | 0, s => Stay.refl s
  | j + 1, s => (tkK_stay b ks j s).trans (tkP_stay b _ 12 _)
theorem tkW_len (lc : List Cr) (l : List Wt) (ks : List Int) : ∀ i, (tkW lc l ks i).1.length = lc.length
  | 0 => rfl
  | i + 1 => by
    rw [tkW]
    exact (tkK_stay l[i]!.b ks ks.length _).len.trans (tkW_len lc l ks i)
theorem tkW_le (lc : List Cr) (l : List Wt) (ks : List Int) (hp : ∀ x ∈ l, 0 ≤ x.n) : ∀ i, i ≤ l.length → (tkW lc l ks i).2.length ≤ 32767 * i
  | 0, _ => by simp [tkW]
  | i + 1, hi => by
    have h := tkK_stay l[i]!.b ks ks.length ((tkW lc l ks i).1, (tkW lc l ks i).2, l[i]!.n)
    have ih := tkW_le lc l ks hp i (by omega)
    have hn := l[i]!.hn
    have hp0 := h.pos (hp l[i]! (by rw [getB (by omega)]; exact List.getElem_mem (by omega)))
    have hs := h.sum
    rw [tkW]
    show (tkK l[i]!.b ks ks.length ((tkW lc l ks i).1, (tkW lc l ks i).2, l[i]!.n)).2.1.length ≤ 32767 * (i + 1)
    simp only at hs
    omega
theorem rB_set_ne {l : List Bt} {i j : Nat} (b : Bt) (h : i ≠ j) : rB (l.set i b) j = rB l j := by
  unfold rB
  rw [List.getD_eq_getElem?_getD, List.getD_eq_getElem?_getD, List.getElem?_set_ne h]
/-- A copy of the crate tells the places to come. -/
theorem tkP_copy (b : Bt) (k : Nat) (s : List Cr × List Bt × Int) (hk : k < s.1.length) : ∀ (p q : Nat), p ≤ q → rB ((tkP b k p s).1[k]!).toList q = rB (s.1[k]!).toList q
  | 0, q, _ => rfl
  | p + 1, q, h => by
    rw [← tkP_copy b k s hk p q (by omega)]
    rw [tkP, tkStep]
    split
    · have hl := (tkP_stay b k p s).len
      show rB ((putL (tkP b k p s).1 k p zB)[k]!).toList q = _
      rw [putL, getB (by rw [List.length_set]; omega), List.getElem_set_self, setC_toList, rB_set_ne _ (by omega)]
    · rfl
theorem row_put_ne {w : World} {g g' o : Nat} {vs : Array Value} (h : g' ≠ g) : rowOf (putEl w g o vs) g' = rowOf w g' := by
  unfold putEl
  split
  · exact rowOf_setRow_ne h
  · rfl
theorem putEl_but {w : World} {g o n cap : Nat} {vs : Array Value} : ButV (.slice (some ⟨g, 0, none⟩) n cap) w (putEl w g o vs) := by
  refine ⟨putEl_below (Nat.zero_le _) _ _, fun b _ hv => ?_⟩
  unfold putEl
  split
  · exact setRow_other w g b _ (fun e => hv (by subst e; rfl))
  · rfl
theorem Bt.like_self (b : Bt) : b.like b = true := Bt.like_iff.2 rfl
theorem infoCrS : (Try.prog.info? 44).map (fun i => (i.zero, i.size, i.bytes)) = some (some (.agg (cc zC).toArray), 24, 48) := by kernel_rfl
theorem Clone_cr (b off c : Nat) (l : List Cr) (w : World) (hC : CAt w b off (fl cc l)) (hn : l.length ≤ 1000000) :
    Calls Try.prog 61 #[.slice (some ⟨b, off, none⟩) l.length c] w fun e w' => ∃ v, e = .returned v ∧ OwnS cc w' w.heap.size 44 24 v l ∧ Below w.heap.size w w' := by
  obtain ⟨i0, hi, hzz⟩ := Option.map_eq_some_iff.1 infoCrS
  simp only [Prod.mk.injEq] at hzz
  obtain ⟨hz0, hz1, hz2⟩ := hzz
  refine (AnyE.slices_Clone Try.lx61 i0 _ 24 48 hi hz0 hz1 hz2 (cc_size2 zC zC) (by decide) Try.sizeOf44 b off l.length c (fl cc l) w (fl_length cc_length l) (by simp only [maxLen]; omega) (by omega) (fun j u hu => hC j u hu) (fun u hu => ?_)).mono ?_
  · simp only [fl, List.mem_flatMap] at hu
    obtain ⟨x, _, hx⟩ := hu
    exact cc_one x u (by simpa using hx)
  · rintro e w' ⟨v, rfl, hown, hne, hb⟩
    refine ⟨v, rfl, ⟨hown, ?_⟩, hb⟩
    rcases hown.2 with ⟨h, _⟩ | ⟨g, cap, cur, rfl, _⟩
    · exact absurd h hne
    · exact ⟨g, cap, rfl⟩
theorem wp_app_bt {ops : Array Oper} {rest : List Oper} {o : Oper} {a : Act} {Q : Exit → Act → World → Prop} {W : World} (B : Nat) (hgd : o.guard = none) (s x : Operand) (ho : o.op = .call { callee := .builtin .append, args := #[s, x], argTypes := #[46, 46] })
    (v : Value) (l : List Bt) (y : Bt) (hs : a.eval s = v) (g : Nat) (hx : a.eval x = .slice (some ⟨g, 0, none⟩) 1 1) (hg : g = W.heap.size)
    (HO : OwnS bc W B 42 2 v l) (hB : B ≤ W.heap.size) (hn : l.length ≤ 100000000)
    (h : ∀ v1 w1, OwnS bc w1 B 42 2 v1 (l ++ [y]) → (Below B W w1 ∧ ButV v W w1 ∧ Away v v1 W) → wpList Try.prog ops Q rest (a.put o.dst v1) w1) : wpList Try.prog ops Q (o :: rest) a (W.alloc (.cells #[.int .u8 y.k, .int .i16 y.y] 42)) :=
  wp_app3 (P := Try.prog) B hgd s x 46 42 ho (.agg #[.int .u8 0, .int .i16 0]) 2 4 Try.underlying46 infoBt rfl (by decide) v l.length (fl bc l) (bc y) hs g hx hg rfl (bc_one y) HO.1 hB (by omega) (by decide)
    (fun v1 w1 h1 h2 => h v1 w1 (OwnS.grown (by rw [List.length_append, fl_append, fl_one]; exact h1)) h2)
attribute [local go_sem high] eqB
theorem takeOut_any (g0 c0 : Nat) (lc : List Cr) (b off c1 : Nat) (l : List Wt) (A2 : Option Addr) (c2 : Nat) (ks : List Int) (w : World) (K0 : Lies cc w g0 lc) (hC : CAt w b off (fl wc l)) (hb1 : b < w.heap.size) (h2 : RdA w A2 (vi ks))
    (hk : ∀ x ∈ ks, 0 ≤ x ∧ x < lc.length) (hn : lc.length ≤ 12) (hl : l.length ≤ 8) (hp : ∀ x ∈ l, 0 ≤ x.n) (hkn : ks.length ≤ 1048576) :
    Calls Try.prog 54 #[.slice (some ⟨g0, 0, none⟩) lc.length c0, .slice (some ⟨b, off, none⟩) l.length c1, .slice A2 ks.length c2] w fun e w' => ∃ v u, e = .returned (.tuple #[v, u]) ∧ OwnS cc w' w.heap.size 44 24 v (outL lc l ks).1 ∧ OwnS bc w' w.heap.size 42 2 u (outL lc l ks).2 ∧ Below w.heap.size w w' := by
  have hu := Try.underlying42
  have HC := Lib.hid (⟨hC, hb1⟩ : _ ∧ _)
  have H2 := Lib.hid h2
  have HK := Lib.hid hk
  have HPos := Lib.hid hp
  have HCl := Lib.hid (Clone_cr g0 0 c0 lc w K0.c (by omega))
  have HTL := Lib.hid (tkW_len lc l ks)
  have HTB := Lib.hid (tkW_le lc l ks hp)
  have HOU : Hid (outL lc l ks = tkW lc l ks l.length) := rfl
  clear hC hb1 h2 hk hp K0
  go_enter Try.func54, Try.ntmps54
  go_wp2_with (go_at_call 61; with_reducible refine HCl.out.mono ?_; rintro e w1 ⟨v1, rfl, O1, hb1⟩; obtain ⟨g8, p8, hv8, -, hB8, hg8, -⟩ := O1.lies; subst hv8)
  replace O1 := Lib.hid O1
  go_loopw [9, 22] (fun v i wr => ∃ k : Nat, k ≤ l.length ∧ i = .int .i64 k ∧ Hid (OwnS cc wr w.heap.size 44 24 (.slice (some ⟨g8, 0, none⟩) lc.length p8) (tkW lc l ks k).1) ∧ Hid (OwnS bc wr w.heap.size 42 2 v (tkW lc l ks k).2) ∧ Below w.heap.size w wr) (fun _ i _ => l.length - (intOf i).toNat)
  case atStart => exact ⟨0, Nat.zero_le _, rfl, O1.out.kept ((Below.refl _ _).alloc (Nat.le_refl _) _), OwnS.lit hb1.size, hb1.alloc hb1.size _⟩
  case round =>
    clear O1 hb1 hg8
    obtain ⟨k, hk, rfl, HS, HT, hb⟩ := hrel
    obtain ⟨wo, hwo⟩ : ∃ wo, wo = wr := ⟨_, rfl⟩
    subst hwo
    by_cases hlt : k < l.length
    · have HX := (HC.out.1.below hb HC.out.2).el wc_length hlt
      have HW : Hid (tkW lc l ks (k + 1) = ((tkK l[k]!.b ks ks.length ((tkW lc l ks k).1, (tkW lc l ks k).2, l[k]!.n)).1, (tkK l[k]!.b ks ks.length ((tkW lc l ks k).1, (tkW lc l ks k).2, l[k]!.n)).2.1)) := rfl
      have hxp := HPos.out l[k]! (by rw [getB hlt]; exact List.getElem_mem hlt)
      have hL0 := HTL.out k
      have hT0 := HTB.out k hk
      have hlt2 : (k : Int) < (l.length : Int) := by omega
      generalize l[k]! = x at HX HW hxp
      generalize tkW lc l ks k = r0 at HS HT HW hL0 hT0
      obtain ⟨L0, T0⟩ := r0
      replace HS : Hid (OwnS cc wo w.heap.size 44 24 (.slice (some ⟨g8, 0, none⟩) lc.length p8) L0) := HS
      replace HT : Hid (OwnS bc wo w.heap.size 42 2 u9 T0) := HT
      replace hL0 : Hid (L0.length = lc.length) := hL0
      replace hT0 : T0.length ≤ 300000 := by simp only at hT0; omega
      have hxn := x.hn
      have x0 : wo.cell? ⟨b, off + k * 3, none⟩ = some (.int .u8 x.b.k) := HX 0 _ rfl
      have x1 : wo.cell? ⟨b, off + k * 3 + 1, none⟩ = some (.int .i16 x.b.y) := HX 1 _ rfl
      have x2 : wo.cell? ⟨b, off + k * 3 + 2, none⟩ = some (.int .i16 x.n) := HX 2 _ rfl
      go_upto_region 5 with fail
      generalize hW1 : World.alloc _ _ = W1
      have hg : Below wo.heap.size wo W1 := by rw [← hW1]; go_grown
      have r4 : rowOf W1 wo.heap.size = some (wc x).toArray := by rw [← hW1, rowOf_alloc, if_pos rfl]; rfl
      obtain ⟨g9, p9, hv9, -, -, hg9, -⟩ := HT.out.lies
      have hne9 := Lib.hid (show u9.ownBlock ≠ some wo.heap.size by rw [hv9]; simp [Value.ownBlock]; omega)
      obtain ⟨g8', p8', hv8', -, -, hg8, -⟩ := HS.out.lies
      have hne8 : Hid (wo.heap.size ≠ g8) := by
        simp only [Value.slice.injEq, Option.some.injEq, Addr.mk.injEq, and_true, true_and] at hv8'
        show _ ≠ _
        omega
      have HS1 := Lib.hid (HS.out.kept hg)
      have HT1 := Lib.hid (HT.out.kept hg)
      have hb2 := bstep hb hg
      clear hv9 hv8' hg8 hg9
      clear hW1 x0 x1 x2 hb hg HS HT HX
      generalize wo.heap.size = g4 at r4 hne9 hne8 ⊢
      have z2 : W1.cell? ⟨g4, 2, none⟩ = some (.int .i16 x.n) := rowOf_cell r4 2
      replace r4 := Lib.hid r4
      go_wp2
      clear z2
      go_loopw [9, 12, 30] (fun v m j wr => ∃ q : Nat, q ≤ ks.length ∧ j = .int .i64 q ∧ m = .int .i16 (tkK x.b ks q (L0, T0, x.n)).2.2 ∧ Hid (OwnS cc wr w.heap.size 44 24 (.slice (some ⟨g8, 0, none⟩) lc.length p8) (tkK x.b ks q (L0, T0, x.n)).1) ∧ Hid (OwnS bc wr w.heap.size 42 2 v (tkK x.b ks q (L0, T0, x.n)).2.1) ∧ Hid (v.ownBlock ≠ some g4 ∧ rowOf wr g4 = some (wc x).toArray) ∧ Below w.heap.size w wr) (fun _ _ j _ => ks.length - (intOf j).toNat)
      case atStart => exact ⟨0, Nat.zero_le _, rfl, rfl, HS1.out, HT1.out, ⟨hne9.out, r4.out⟩, hb2⟩
      case round =>
        clear HS1 HT1 hne9 r4 hb2
        obtain ⟨q, hq, rfl, rfl, HS, HT, HG, hb⟩ := hrel
        by_cases hltq : q < ks.length
        · obtain ⟨g2, o2, rfl, hg2, hC2⟩ := (H2.out.below hb).some (by rw [vi_length]; omega)
          have X0 := hC2 q _ (vi_at ks q hltq)
          have hy := HK.out (ks.getD q 0) (by rw [List.getD_eq_getElem?_getD, List.getElem?_eq_getElem hltq]; exact List.getElem_mem hltq)
          have HKS : Hid (tkK x.b ks (q + 1) (L0, T0, x.n) = tkP x.b (ks.getD q 0).toNat 12 (tkK x.b ks q (L0, T0, x.n))) := rfl
          have HSY := Lib.hid (tkK_stay x.b ks q (L0, T0, x.n))
          have hq2 : (q : Int) < (ks.length : Int) := by omega
          clear hC2
          generalize ks.getD q 0 = y at X0 hy HKS
          obtain ⟨kc, rfl⟩ : ∃ kc : Nat, y = (kc : Int) := ⟨y.toNat, by omega⟩
          rw [Int.toNat_natCast] at HKS
          generalize tkK x.b ks q (L0, T0, x.n) = s1 at HKS HSY HS HT ⊢
          have hL1 : s1.1.length = lc.length := HSY.out.len.trans hL0.out
          have hkc : kc < s1.1.length := by rw [hL1]; omega
          have hn1 : 0 ≤ s1.2.2 := HSY.out.pos hxp
          have hn2 : s1.2.2 ≤ x.n := HSY.out.le
          have hT1 : (s1.2.1.length : Int) ≤ 400000 := by
            have := HSY.out.sum
            simp only at this
            omega
          have hkc2 : (kc : Int) < (lc.length : Int) := by omega
          have HCP := Lib.hid (tkP_copy x.b kc s1 hkc)
          have HPS := Lib.hid (fun p => tkP_stay x.b kc p s1)
          obtain ⟨g8', p8', hv8', L8, -, -, -⟩ := HS.out.lies
          obtain ⟨rfl, -⟩ : g8 = g8' ∧ p8 = p8' := by
            simp only [Value.slice.injEq, Option.some.injEq, Addr.mk.injEq, and_true, true_and] at hv8'
            exact ⟨hv8'.1, hv8'.2.2⟩
          have HXc := L8.c.el cc_length hkc
          rw [Nat.zero_add] at HXc
          generalize hc : s1.1[kc]! = c at HXc HCP
          replace HXc := Lib.hid HXc
          replace hc := Lib.hid hc
          replace hL1 := Lib.hid hL1
          replace hkc := Lib.hid hkc
          clear hv8' L8
          go_wp2_with (with_reducible refine wp_load_CAt rfl _ _ rfl _ _ rfl (cc c) HXc.out _ Try.underlying44 rfl (infoCl c) ?_)
          go_loopw [9, 12, 38] (fun v m j wr => ∃ p : Nat, p ≤ 12 ∧ j = .int .i64 p ∧ m = .int .i16 (tkP x.b kc p s1).2.2 ∧ Hid (OwnS cc wr w.heap.size 44 24 (.slice (some ⟨g8, 0, none⟩) lc.length p8) (tkP x.b kc p s1).1) ∧ Hid (OwnS bc wr w.heap.size 42 2 v (tkP x.b kc p s1).2.1) ∧ Hid (v.ownBlock ≠ some g4 ∧ rowOf wr g4 = some (wc x).toArray) ∧ Below w.heap.size w wr) (fun _ _ j _ => 12 - (intOf j).toNat)
          case atStart => exact ⟨0, Nat.zero_le _, rfl, rfl, HS.out, HT.out, HG.out, hb⟩
          case round =>
            clear HS HT HG hb X0 hg2 HXc
            obtain ⟨p, hp, rfl, rfl, HS, HT, HG, hb⟩ := hrel
            by_cases hltp : p < 12
            · have hE := run_indexC c p hltp
              have HCQ := Lib.hid (HCP.out p p (Nat.le_refl _))
              have HST : Hid (tkP x.b kc (p + 1) s1 = tkStep x.b kc p (tkP x.b kc p s1)) := rfl
              have HPT := Lib.hid (HPS.out p)
              generalize tkP x.b kc p s1 = s2 at HCQ HST HPT HS HT ⊢
              generalize rB c.toList p = y at hE HCQ
              have hL2 := Lib.hid (HPT.out.len.trans hL1.out)
              have hm1 : 0 ≤ s2.2.2 := HPT.out.pos hn1
              have hm2 : s2.2.2 ≤ 32767 := Int.le_trans HPT.out.le (by omega)
              have hT2 : s2.2.1.length ≤ 1000000 := by
                have := HPT.out.sum
                omega
              have hp2 : (p : Int) < 12 := by omega
              obtain ⟨L2, T2, m⟩ := s2
              simp only at hm1 hm2 hT2
              replace HS : Hid (OwnS cc wr w.heap.size 44 24 (.slice (some ⟨g8, 0, none⟩) lc.length p8) L2) := HS
              replace HT : Hid (OwnS bc wr w.heap.size 42 2 u9 T2) := HT
              replace hL2 : Hid (L2.length = lc.length) := hL2
              replace HCQ : Hid (rB (L2[kc]!).toList p = y) := HCQ
              have HST2 : Hid (tkP x.b kc (p + 1) s1 = if (decide (0 < m) && y.like x.b) = true then (putL L2 kc p zB, T2 ++ [x.b], m - 1) else (L2, T2, m)) := by rw [Hid, HST.out, tkStep, HCQ.out]
              clear HST HPT
              go_upto_region 12 with fail
              generalize hW1 : World.alloc _ _ = W2
              have hg : Below wr.heap.size wr W2 := by rw [← hW1]; go_grown
              have r16 : rowOf W2 wr.heap.size = some (#[.int .u8 y.k, .int .i16 y.y] : Array Value) := by rw [← hW1, rowOf_alloc, if_pos rfl]
              have r4 := row_kept HG.out.2 hg
              obtain ⟨g9, p9, hv9, -, -, hg9, -⟩ := HT.out.lies
              have hne16 := Lib.hid (show u9.ownBlock ≠ some wr.heap.size by rw [hv9]; simp [Value.ownBlock]; omega)
              obtain ⟨g8', p8', hv8', -, hB8', hg8, -⟩ := HS.out.lies
              have hne8' : Hid (wr.heap.size ≠ g8) := by
                simp only [Value.slice.injEq, Option.some.injEq, Addr.mk.injEq, and_true, true_and] at hv8'
                show _ ≠ _
                omega
              have HS1 := Lib.hid (HS.out.kept hg)
              have HT1 := Lib.hid (HT.out.kept hg)
              have hb2 := bstep hb hg
              clear hv9 hv8' hg8 hg9 hB8'
              clear hW1 hb hg HS HT
              generalize wr.heap.size = g16 at r16 hne16 hne8' ⊢
              have z0 : W2.cell? ⟨g4, 0, none⟩ = some (.int .u8 x.b.k) := rowOf_cell r4 0
              have z1 : W2.cell? ⟨g4, 1, none⟩ = some (.int .i16 x.b.y) := rowOf_cell r4 1
              have y0 : W2.cell? ⟨g16, 0, none⟩ = some (.int .u8 y.k) := rowOf_cell r16 0
              have y1 : W2.cell? ⟨g16, 1, none⟩ = some (.int .i16 y.y) := rowOf_cell r16 1
              replace r4 := Lib.hid r4
              replace r16 := Lib.hid r16
              by_cases hm : 0 < m
              · cases e1 : y.like x.b with
                | false =>
                  have e2 : (y.k == x.b.k && y.y == x.b.y) = false := e1
                  have HE := Lib.hid (show tkP x.b kc (p + 1) s1 = (L2, T2, m) by rw [HST2.out, if_neg (by simp [e1])])
                  clear HST2 e1
                  go_wp2
                  go_roundw
                  case rel => exact ⟨p + 1, by omega, by go_num, by rw [HE.out], by rw [HE.out]; exact HS1.out, by rw [HE.out]; exact HT1.out, ⟨HG.out.1, r4.out⟩, hb2⟩
                  case measure => simp [intOf]; omega
                | true =>
                  have e2 : (y.k == x.b.k && y.y == x.b.y) = true := e1
                  obtain rfl : y = x.b := Bt.like_iff.1 e1
                  have HE := Lib.hid (show tkP x.b kc (p + 1) s1 = (putL L2 kc p zB, T2 ++ [x.b], m - 1) by rw [HST2.out, if_pos (by simp [hm, e1])])
                  have HS2 : OwnS cc W2 w.heap.size 44 24 (.slice (some ⟨g8, 0, none⟩) L2.length p8) L2 := by rw [hL2.out]; exact HS1.out
                  have hkc3 : kc < L2.length := by rw [hL2.out]; omega
                  have HS3 : OwnS cc (putEl W2 g8 (kc * 24 + p * 2) #[.int .u8 0, .int .i16 0]) w.heap.size 44 24 (.slice (some ⟨g8, 0, none⟩) L2.length p8) (putL L2 kc p zB) := HS2.put zB hkc3 hltp
                  rw [hL2.out] at HS3
                  replace HS2 := Lib.hid HS2
                  replace HS3 := Lib.hid HS3
                  have hkc4 := Lib.hid hkc3
                  clear HST2 e1 hkc3
                  go_upto_region 14 with (refine wp_store_el rfl rfl _ _ _ rfl _ _ rfl #[.int .u8 0, .int .i16 0] rfl (HS2.out.space hkc4.out hltp) (infoB _ _) (bv_one _ _) ?_)
                  have hb3 : Below w.heap.size w (putEl W2 g8 (kc * 24 + p * 2) #[.int .u8 0, .int .i16 0]) := hb2.trans (putEl_below hB8 _ _)
                  have HT3 : OwnS bc (putEl W2 g8 (kc * 24 + p * 2) #[.int .u8 0, .int .i16 0]) w.heap.size 42 2 u9 T2 := ⟨HT1.out.n.but putEl_but (apart_types HS2.out.n HT1.out.n (by decide)), HT1.out.2⟩
                  have q4 : rowOf (putEl W2 g8 (kc * 24 + p * 2) #[.int .u8 0, .int .i16 0]) g4 = some (wc x).toArray := (row_put_ne hne8.out).trans r4.out
                  have q16 : rowOf (putEl W2 g8 (kc * 24 + p * 2) #[.int .u8 0, .int .i16 0]) g16 = some (#[.int .u8 x.b.k, .int .i16 x.b.y] : Array Value) := (row_put_ne hne8'.out).trans r16.out
                  replace HS3 := HS3.out
                  clear HS1 HT1 HS2 z0 z1 y0 y1
                  generalize putEl W2 g8 (kc * 24 + p * 2) #[.int .u8 0, .int .i16 0] = W3 at HS3 hb3 HT3 q4 q16 ⊢
                  have y0 : W3.cell? ⟨g16, 0, none⟩ = some (.int .u8 x.b.k) := rowOf_cell q16 0
                  have y1 : W3.cell? ⟨g16, 1, none⟩ = some (.int .i16 x.b.y) := rowOf_cell q16 1
                  have hwm : IntKind.i16.wrap (m - 1) = m - 1 := wrap_i16 (by omega)
                  replace HS3 := Lib.hid HS3
                  replace HT3 := Lib.hid HT3
                  replace q4 := Lib.hid q4
                  go_wp2_with (at_builtin; refine wp_app_bt w.heap.size rfl _ _ rfl _ T2 x.b rfl _ rfl ?hg ?HO ?hB ?hn ?_; (case hg => simp); (case HO => exact HT3.out); (case hB => exact hb3.size); (case hn => omega); intro v1 w1 hown hb4)
                  go_roundw
                  case rel => exact ⟨p + 1, by omega, by go_num, by rw [HE.out], by rw [HE.out]; exact ⟨HS3.out.n.but hb4.2.1 (apart_types HT3.out.n HS3.out.n (by decide)), HS3.out.2⟩, by rw [HE.out]; exact hown, ⟨hb4.2.2 g4 (rowOf_lt q4.out) HG.out.1, row_but q4.out hb4.2.1 HG.out.1⟩, hb3.trans hb4.1⟩
                  case measure => simp [intOf]; omega
              · have HE := Lib.hid (show tkP x.b kc (p + 1) s1 = (L2, T2, m) by rw [HST2.out, if_neg (by simp; omega)])
                clear HST2
                go_wp2
                go_roundw
                case rel => exact ⟨p + 1, by omega, by go_num, by rw [HE.out], by rw [HE.out]; exact HS1.out, by rw [HE.out]; exact HT1.out, ⟨HG.out.1, r4.out⟩, hb2⟩
                case measure => simp [intOf]; omega
            · obtain rfl : p = 12 := by omega
              rw [← HKS.out] at HS HT ⊢
              go_wp2
              go_roundw
              case rel => exact ⟨q + 1, by omega, by go_num, rfl, HS.out, HT.out, HG.out, hb⟩
              case measure => simp [intOf]; omega
        · obtain rfl : q = ks.length := by omega
          go_wp2
          go_roundw
          case rel => exact ⟨k + 1, by omega, by go_num, by rw [HW.out]; exact HS.out, by rw [HW.out]; exact HT.out, hb⟩
          case measure => simp [intOf]; omega
    · obtain rfl : k = l.length := by omega
      rw [← HOU.out] at HS HT
      go_wp2
      exact bodyPost_ret (results_tt rfl) rfl ⟨_, _, rfl, HS.out, HT.out, hb⟩
theorem l02Out_any (g0 c0 : Nat) (lc : List Cr) (b off c1 : Nat) (l : List Wt) (A2 : Option Addr) (c2 : Nat) (ks : List Int) (w : World) (K0 : Lies cc w g0 lc) (hC : CAt w b off (fl wc l)) (hb1 : b < w.heap.size) (h2 : RdA w A2 (vi ks))
    (hk : ∀ x ∈ ks, 0 ≤ x ∧ x < lc.length) (hn : lc.length ≤ 12) (hl : l.length ≤ 8) (hp : ∀ x ∈ l, 0 ≤ x.n) (hkn : ks.length ≤ 1048576) :
    Calls Try.prog 55 #[.slice (some ⟨g0, 0, none⟩) lc.length c0, .slice (some ⟨b, off, none⟩) l.length c1, .slice A2 ks.length c2] w fun e w' => ∃ v u, e = .returned (.tuple #[v, u]) ∧ OwnS cc w' w.heap.size 44 24 v (outL lc l ks).1 ∧ OwnS bc w' w.heap.size 42 2 u (outL lc l ks).2 ∧ Below w.heap.size w w' := by
  have hu := Try.underlying42
  have HC := Lib.hid (⟨hC, hb1⟩ : _ ∧ _)
  have H2 := Lib.hid h2
  have HK := Lib.hid hk
  have HPos := Lib.hid hp
  have HTL := Lib.hid (tkW_len lc l ks)
  have HTB := Lib.hid (tkW_le lc l ks hp)
  have HOU : Hid (outL lc l ks = tkW lc l ks l.length) := rfl
  replace K0 := Lib.hid K0
  clear hC hb1 h2 hk hp
  go_enter Try.func55, Try.ntmps55
  go_upto_region 2 with (at_builtin; refine wp_app_el (f := cc) w.heap.size rfl _ _ 24 44 rfl (.agg (cc zC).toArray) 24 48 Try.underlying24 infoCrS (cc_size2 zC zC) (by decide) cc_length (fun c u hu => cc_one c u (by simpa using hu)) _ [] rfl g0 c0 lc rfl ?hO ?hY ?hB ?hn (by decide) ?_; (case hO => exact OwnS.lit (Nat.le_refl _)); (case hY => exact K0.out.below ((Below.refl _ w).alloc (Nat.le_refl _) _)); (case hB => simp); (case hn => simp; omega); intro v1 w1 O1 hb0)
  rw [List.nil_append] at O1
  have hb1 := ((Below.refl w.heap.size w).alloc (Nat.le_refl _) _).trans hb0.1
  clear hb0
  obtain ⟨g8, p8, hv8, -, hB8, hg8, -⟩ := O1.lies
  subst hv8
  replace O1 := Lib.hid O1
  go_wp2
  go_loopw [9, 10] (fun v i wr => ∃ k : Nat, k ≤ l.length ∧ i = .int .i64 k ∧ Hid (OwnS cc wr w.heap.size 44 24 (.slice (some ⟨g8, 0, none⟩) lc.length p8) (tkW lc l ks k).1) ∧ Hid (OwnS bc wr w.heap.size 42 2 v (tkW lc l ks k).2) ∧ Below w.heap.size w wr) (fun _ i _ => l.length - (intOf i).toNat)
  case atStart => exact ⟨0, Nat.zero_le _, rfl, O1.out.kept ((Below.refl _ _).alloc (Nat.le_refl _) _), OwnS.lit hb1.size, hb1.alloc hb1.size _⟩
  case round =>
    clear O1 hb1 hg8
    obtain ⟨k, hk, rfl, HS, HT, hb⟩ := hrel
    by_cases hlt : k < l.length
    · have HX := (HC.out.1.below hb HC.out.2).el wc_length hlt
      have HXA := Lib.hid (fun W (h : Below w.heap.size w W) => (HC.out.1.below h HC.out.2).el wc_length hlt)
      have HW : Hid (tkW lc l ks (k + 1) = ((tkK l[k]!.b ks ks.length ((tkW lc l ks k).1, (tkW lc l ks k).2, l[k]!.n)).1, (tkK l[k]!.b ks ks.length ((tkW lc l ks k).1, (tkW lc l ks k).2, l[k]!.n)).2.1)) := rfl
      have hxp := HPos.out l[k]! (by rw [getB hlt]; exact List.getElem_mem hlt)
      have hL0 := HTL.out k
      have hT0 := HTB.out k hk
      have hlt2 : (k : Int) < (l.length : Int) := by omega
      generalize l[k]! = x at HX HXA HW hxp
      generalize tkW lc l ks k = r0 at HS HT HW hL0 hT0
      obtain ⟨L0, T0⟩ := r0
      replace HS : Hid (OwnS cc wr w.heap.size 44 24 (.slice (some ⟨g8, 0, none⟩) lc.length p8) L0) := HS
      replace HT : Hid (OwnS bc wr w.heap.size 42 2 u9 T0) := HT
      replace hL0 : Hid (L0.length = lc.length) := hL0
      replace hT0 : T0.length ≤ 300000 := by simp only at hT0; omega
      have hxn := x.hn
      have x2 : wr.cell? ⟨b, off + k * 3 + 2, none⟩ = some (.int .i16 x.n) := HX 2 _ rfl
      go_wp2
      clear x2 HX
      go_loopw [9, 11, 12] (fun v m j wr => ∃ q : Nat, q ≤ ks.length ∧ j = .int .i64 q ∧ m = .int .i16 (tkK x.b ks q (L0, T0, x.n)).2.2 ∧ Hid (OwnS cc wr w.heap.size 44 24 (.slice (some ⟨g8, 0, none⟩) lc.length p8) (tkK x.b ks q (L0, T0, x.n)).1) ∧ Hid (OwnS bc wr w.heap.size 42 2 v (tkK x.b ks q (L0, T0, x.n)).2.1) ∧ Below w.heap.size w wr) (fun _ _ j _ => ks.length - (intOf j).toNat)
      case atStart => exact ⟨0, Nat.zero_le _, rfl, rfl, HS.out, HT.out, hb⟩
      case round =>
        clear HS HT hb
        obtain ⟨q, hq, rfl, rfl, HS, HT, hb⟩ := hrel
        by_cases hltq : q < ks.length
        · have hy := HK.out (ks.getD q 0) (by rw [List.getD_eq_getElem?_getD, List.getElem?_eq_getElem hltq]; exact List.getElem_mem hltq)
          obtain ⟨g2, o2, rfl, -, -⟩ := H2.out.some (by rw [vi_length]; omega)
          have HXK : Hid (∀ W, Below w.heap.size w W → W.cell? ⟨g2, o2 + q, none⟩ = some (.int .i64 (ks.getD q 0))) := fun W h => by
            obtain ⟨g2', o2', he, _, hC2⟩ := (H2.out.below h).some (by rw [vi_length]; omega)
            simp only [Option.some.injEq, Addr.mk.injEq, and_true] at he
            obtain ⟨rfl, rfl⟩ := he
            exact hC2 q _ (vi_at ks q hltq)
          have HKS : Hid (tkK x.b ks (q + 1) (L0, T0, x.n) = tkP x.b (ks.getD q 0).toNat 12 (tkK x.b ks q (L0, T0, x.n))) := rfl
          have HSY := Lib.hid (tkK_stay x.b ks q (L0, T0, x.n))
          have hq2 : (q : Int) < (ks.length : Int) := by omega
          generalize ks.getD q 0 = y at HXK hy HKS
          obtain ⟨kc, rfl⟩ : ∃ kc : Nat, y = (kc : Int) := ⟨y.toNat, by omega⟩
          rw [Int.toNat_natCast] at HKS
          generalize tkK x.b ks q (L0, T0, x.n) = s1 at HKS HSY HS HT ⊢
          have hL1 : s1.1.length = lc.length := HSY.out.len.trans hL0.out
          have hn1 : 0 ≤ s1.2.2 := HSY.out.pos hxp
          have hn2 : s1.2.2 ≤ x.n := HSY.out.le
          have hT1 : (s1.2.1.length : Int) ≤ 400000 := by
            have := HSY.out.sum
            simp only at this
            omega
          have hkc2 : (kc : Int) < (lc.length : Int) := by omega
          have HPS := Lib.hid (fun p => tkP_stay x.b kc p s1)
          replace hL1 := Lib.hid hL1
          go_wp2
          go_loopw [9, 11, 13] (fun v m j wr => ∃ p : Nat, p ≤ 12 ∧ j = .int .i64 p ∧ m = .int .i16 (tkP x.b kc p s1).2.2 ∧ Hid (OwnS cc wr w.heap.size 44 24 (.slice (some ⟨g8, 0, none⟩) lc.length p8) (tkP x.b kc p s1).1) ∧ Hid (OwnS bc wr w.heap.size 42 2 v (tkP x.b kc p s1).2.1) ∧ Below w.heap.size w wr) (fun _ _ j _ => 12 - (intOf j).toNat)
          case atStart => exact ⟨0, Nat.zero_le _, rfl, rfl, HS.out, HT.out, hb⟩
          case round =>
            clear HS HT hb
            obtain ⟨p, hp, rfl, rfl, HS, HT, hb⟩ := hrel
            by_cases hltp : p < 12
            · have HST : Hid (tkP x.b kc (p + 1) s1 = tkStep x.b kc p (tkP x.b kc p s1)) := rfl
              have HPT := Lib.hid (HPS.out p)
              generalize tkP x.b kc p s1 = s2 at HST HPT HS HT ⊢
              have hL2 := Lib.hid (HPT.out.len.trans hL1.out)
              have hm1 : 0 ≤ s2.2.2 := HPT.out.pos hn1
              have hm2 : s2.2.2 ≤ 32767 := Int.le_trans HPT.out.le (by omega)
              have hT2 : s2.2.1.length ≤ 1000000 := by
                have := HPT.out.sum
                omega
              have hp2 : (p : Int) < 12 := by omega
              obtain ⟨L2, T2, m⟩ := s2
              simp only at hm1 hm2 hT2
              replace HS : Hid (OwnS cc wr w.heap.size 44 24 (.slice (some ⟨g8, 0, none⟩) lc.length p8) L2) := HS
              replace HT : Hid (OwnS bc wr w.heap.size 42 2 u9 T2) := HT
              replace hL2 : Hid (L2.length = lc.length) := hL2
              have HST2 : Hid (tkP x.b kc (p + 1) s1 = if (decide (0 < m) && (rB (L2[kc]!).toList p).like x.b) = true then (putL L2 kc p zB, T2 ++ [x.b], m - 1) else (L2, T2, m)) := by rw [Hid, HST.out, tkStep]
              have HS2 : OwnS cc wr w.heap.size 44 24 (.slice (some ⟨g8, 0, none⟩) L2.length p8) L2 := by rw [hL2.out]; exact HS.out
              obtain ⟨g8', p8', hv8', L8, -, -, -⟩ := HS2.lies
              obtain rfl : g8 = g8' := by
                simp only [Value.slice.injEq, Option.some.injEq, Addr.mk.injEq, and_true, true_and] at hv8'
                exact hv8'.1
              have hkc3 : kc < L2.length := by rw [hL2.out]; omega
              have hXc := L8.c.el cc_length hkc3
              rw [Nat.zero_add] at hXc
              have hjl : p < (L2[kc]!).toList.length := by rw [Vector.length_toList]; exact hltp
              have v0 : wr.cell? ⟨g8, kc * 24 + p * 2, none⟩ = some (.int .u8 (rB (L2[kc]!).toList p).k) := hXc.bot0 hjl
              have v1 : wr.cell? ⟨g8, kc * 24 + p * 2 + 1, none⟩ = some (.int .i16 (rB (L2[kc]!).toList p).y) := hXc.bot1 hjl
              generalize rB (L2[kc]!).toList p = y at v0 v1 HST2
              have k0 := cell_regrown (HXK.out wr hb)
              have x0 := cell_regrown (HXA.out wr hb 0 _ rfl)
              have x1 := cell_regrown (HXA.out wr hb 1 _ rfl)
              rw [Nat.add_zero] at x0
              replace v0 := cell_regrown v0
              replace v1 := cell_regrown v1
              clear HST HPT hXc hjl L8 hv8' HS2
              replace hkc3 := Lib.hid hkc3
              go_upto_region 13 with fail
              have H := Below.refl wr.heap.size wr
              by_cases hm : 0 < m
              · cases e1 : y.like x.b with
                | false =>
                  have e2 : (y.k == x.b.k && y.y == x.b.y) = false := e1
                  have HE := Lib.hid (show tkP x.b kc (p + 1) s1 = (L2, T2, m) by rw [HST2.out, if_neg (by simp [e1])])
                  clear HST2 e1
                  refine wp_region_qB (by kernel_rfl) (by kernel_rfl) ?_
                  (repeat (first | fail | (apply qB_step; intro K hK; go_simp; first | (refine hK _ ?_; clear hK K) | (apply Exists.intro; refine ⟨fun _ => ?_, hK _ ?_⟩; (first | fail); clear hK K))))
                  refine qB_nil ?_
                  intro w1 hw1
                  replace H := bstep H hw1
                  clear hw1
                  go_wp2
                  go_roundw
                  case rel => exact ⟨p + 1, by omega, by go_num, by rw [HE.out], by rw [HE.out]; exact HS.out.kept H, by rw [HE.out]; exact HT.out.kept H, bstep hb H⟩
                  case measure => simp [intOf]; omega
                | true =>
                  have e2 : (y.k == x.b.k && y.y == x.b.y) = true := e1
                  have HE := Lib.hid (show tkP x.b kc (p + 1) s1 = (putL L2 kc p zB, T2 ++ [x.b], m - 1) by rw [HST2.out, if_pos (by simp [hm, e1])])
                  clear HST2 e1
                  refine wp_region_qB (by kernel_rfl) (by kernel_rfl) ?_
                  (repeat (first | fail | (apply qB_step; intro K hK; go_simp; first | (refine hK _ ?_; clear hK K) | (apply Exists.intro; refine ⟨fun _ => ?_, hK _ ?_⟩; (first | fail); clear hK K))))
                  refine qB_nil ?_
                  intro w1 hw1
                  replace H := bstep H hw1
                  clear hw1
                  clear k0 x0 x1 v0 v1
                  have hb2 := bstep hb H
                  have HS2 : OwnS cc w1 w.heap.size 44 24 (.slice (some ⟨g8, 0, none⟩) L2.length p8) L2 := by rw [hL2.out]; exact HS.out.kept H
                  have HS3 : OwnS cc (putEl w1 g8 (kc * 24 + p * 2) #[.int .u8 0, .int .i16 0]) w.heap.size 44 24 (.slice (some ⟨g8, 0, none⟩) L2.length p8) (putL L2 kc p zB) := HS2.put zB hkc3.out hltp
                  rw [hL2.out] at HS3
                  have HT1 := HT.out.kept H
                  have hb3 : Below w.heap.size w (putEl w1 g8 (kc * 24 + p * 2) #[.int .u8 0, .int .i16 0]) := hb2.trans (putEl_below hB8 _ _)
                  have HT3 : OwnS bc (putEl w1 g8 (kc * 24 + p * 2) #[.int .u8 0, .int .i16 0]) w.heap.size 42 2 u9 T2 := ⟨HT1.n.but putEl_but (apart_types HS2.n HT1.n (by decide)), HT1.2⟩
                  replace HS2 := Lib.hid HS2
                  replace HS3 := Lib.hid HS3
                  replace HT3 := Lib.hid HT3
                  have k0 := HXK.out w1 hb2
                  go_upto_region 15 with (refine wp_store_el rfl rfl _ _ _ rfl _ _ rfl #[.int .u8 0, .int .i16 0] rfl (HS2.out.space hkc3.out hltp) (infoB _ _) (bv_one _ _) ?_)
                  clear HS HT HS2 HT1 hb2 H k0
                  generalize putEl w1 g8 (kc * 24 + p * 2) #[.int .u8 0, .int .i16 0] = W3 at HS3 hb3 HT3 ⊢
                  have x0 := HXA.out W3 hb3 0 _ rfl
                  have x1 := HXA.out W3 hb3 1 _ rfl
                  rw [Nat.add_zero] at x0
                  have hwm : IntKind.i16.wrap (m - 1) = m - 1 := wrap_i16 (by omega)
                  go_wp2_with (at_builtin; refine wp_app_bt w.heap.size rfl _ _ rfl _ T2 x.b rfl _ rfl ?hg ?HO ?hB ?hn ?_; (case hg => simp); (case HO => exact HT3.out); (case hB => exact hb3.size); (case hn => omega); intro v1 w1 hown hb4)
                  go_roundw
                  case rel => exact ⟨p + 1, by omega, by go_num, by rw [HE.out], by rw [HE.out]; exact ⟨HS3.out.n.but hb4.2.1 (apart_types HT3.out.n HS3.out.n (by decide)), HS3.out.2⟩, by rw [HE.out]; exact hown, hb3.trans hb4.1⟩
                  case measure => simp [intOf]; omega
              · have HE := Lib.hid (show tkP x.b kc (p + 1) s1 = (L2, T2, m) by rw [HST2.out, if_neg (by simp; omega)])
                clear HST2
                refine wp_region_qB (by kernel_rfl) (by kernel_rfl) ?_
                (repeat (first | fail | (apply qB_step; intro K hK; go_simp; first | (refine hK _ ?_; clear hK K) | (apply Exists.intro; refine ⟨fun _ => ?_, hK _ ?_⟩; (first | fail); clear hK K))))
                refine qB_nil ?_
                intro w1 hw1
                replace H := bstep H hw1
                clear hw1
                go_wp2
                go_roundw
                case rel => exact ⟨p + 1, by omega, by go_num, by rw [HE.out], by rw [HE.out]; exact HS.out.kept H, by rw [HE.out]; exact HT.out.kept H, bstep hb H⟩
                case measure => simp [intOf]; omega
            · obtain rfl : p = 12 := by omega
              rw [← HKS.out] at HS HT ⊢
              go_wp2
              go_roundw
              case rel => exact ⟨q + 1, by omega, by go_num, rfl, HS.out, HT.out, hb⟩
              case measure => simp [intOf]; omega
        · obtain rfl : q = ks.length := by omega
          go_wp2
          go_roundw
          case rel => exact ⟨k + 1, by omega, by go_num, by rw [HW.out]; exact HS.out, by rw [HW.out]; exact HT.out, hb⟩
          case measure => simp [intOf]; omega
    · obtain rfl : k = l.length := by omega
      rw [← HOU.out] at HS HT
      go_wp2
      exact bodyPost_ret (results_tt rfl) rfl ⟨_, _, rfl, HS.out, HT.out, hb⟩
end Go.Proofs.Ytbngpcghognojaa
namespace Go.Proofs.Ytbngpcghognojaa
open Go.RowKit
set_option linter.unusedVariables false
set_option linter.unusedSimpArgs false
set_option maxRecDepth 100000
theorem tkP_take (b : Bt) (k : Nat) (s : List Cr × List Bt × Int) (hk : k < s.1.length) (hn : 0 ≤ s.2.2) : ∀ p, p ≤ 12 → (tkP b k p s).2.1 = s.2.1 ++ List.replicate (min s.2.2.toNat (cntK s.1[k]! b p)) b ∧ (tkP b k p s).2.2 = s.2.2 - (min s.2.2.toNat (cntK s.1[k]! b p) : Nat)
  | 0, _ => by simp [tkP, cntK]
  | p + 1, hp => by
    obtain ⟨ih1, ih2⟩ := tkP_take b k s hk hn p (by omega)
    have hc := tkP_copy b k s hk p p (Nat.le_refl _)
    rw [tkP, tkStep]
    generalize tkP b k p s = s' at ih1 ih2 hc ⊢
    obtain ⟨L', T', n'⟩ := s'
    simp only at ih1 ih2 hc ⊢
    rw [hc]
    cases e : (rB (s.1[k]!).toList p).like b with
    | false =>
      rw [if_neg (by simp), cntK_no (by omega) e]
      exact ⟨ih1, ih2⟩
    | true =>
      rw [cntK_yes (by omega) e]
      by_cases hpos : 0 < n'
      · rw [if_pos (by simp [hpos])]
        have e1 : min s.2.2.toNat (cntK s.1[k]! b p + 1) = min s.2.2.toNat (cntK s.1[k]! b p) + 1 := by omega
        rw [e1]
        refine ⟨?_, ?_⟩
        · show T' ++ [b] = _
          rw [ih1, List.append_assoc, List.replicate_succ']
        · show n' - 1 = _
          omega
      · rw [if_neg (by simp [hpos])]
        have e1 : min s.2.2.toNat (cntK s.1[k]! b p + 1) = min s.2.2.toNat (cntK s.1[k]! b p) := by omega
        rw [e1]
        exact ⟨ih1, ih2⟩
theorem tkP_other (b : Bt) (k j : Nat) (s : List Cr × List Bt × Int) (hj : j < s.1.length) (h : j ≠ k) : ∀ p, (tkP b k p s).1[j]! = s.1[j]!
  | 0 => rfl
  | p + 1 => by
    have hl := (tkP_stay b k p s).len
    rw [← tkP_other b k j s hj h p, tkP, tkStep]
    split
    · show (putL (tkP b k p s).1 k p zB)[j]! = _
      rw [putL, getB (by rw [List.length_set]; omega), getB (show j < (tkP b k p s).1.length by omega), List.getElem_set_ne (Ne.symm h)]
    · rfl
theorem cntC_all (c : Cr) (b : Bt) : cntC c b = c.toList.countP fun x => x.like b := by
  unfold cntC cntK
  rw [List.take_of_length_le (by rw [Vector.length_toList]; omega)]
theorem cntC_put {c : Cr} {p : Nat} {b b' : Bt} (hp : p < 12) (hb : rB c.toList p = b) (h1 : b ≠ b') (h2 : zB ≠ b') : cntC (setC c p zB) b' = cntC c b' := by
  have hl : p < c.toList.length := by rw [Vector.length_toList]; exact hp
  rw [cntC_all, cntC_all, setC_toList, List.countP_set hl]
  have e1 : (c.toList[p]).like b' = false := by
    rw [← rB_lt hl, hb, ← Bool.not_eq_true, Bt.like_iff]
    exact h1
  have e2 : zB.like b' = false := by
    rw [← Bool.not_eq_true, Bt.like_iff]
    exact h2
  simp only [e1, e2, Bool.false_eq_true, if_false, Nat.sub_zero, Nat.add_zero]
theorem tkP_cnt (b b' : Bt) (k j : Nat) (s : List Cr × List Bt × Int) (hj : j < s.1.length) (h1 : b ≠ b') (h2 : zB ≠ b') : ∀ p, p ≤ 12 → cntC ((tkP b k p s).1[j]!) b' = cntC s.1[j]! b'
  | 0, _ => rfl
  | p + 1, hp => by
    have hl := (tkP_stay b k p s).len
    rw [← tkP_cnt b b' k j s hj h1 h2 p (by omega), tkP, tkStep]
    split
    · rename_i h
      simp only [Bool.and_eq_true] at h
      have hb := Bt.like_iff.1 h.2
      show cntC ((putL (tkP b k p s).1 k p zB)[j]!) b' = _
      by_cases hjk : j = k
      · subst hjk
        rw [putL, getB (by rw [List.length_set]; omega), List.getElem_set_self, cntC_put (by omega) hb h1 h2]
      · rw [putL, getB (by rw [List.length_set]; omega), List.getElem_set_ne (Ne.symm hjk), getB (show j < (tkP b k p s).1.length by omega)]
    · rfl
theorem tkK_cnt (b b' : Bt) (ks : List Int) (j : Nat) (s : List Cr × List Bt × Int) (hj : j < s.1.length) (h1 : b ≠ b') (h2 : zB ≠ b') : ∀ q, cntC ((tkK b ks q s).1[j]!) b' = cntC s.1[j]! b'
  | 0 => rfl
  | q + 1 => by
    rw [tkK, tkP_cnt b b' _ j _ (by rw [(tkK_stay b ks q s).len]; exact hj) h1 h2 12 (Nat.le_refl _), tkK_cnt b b' ks j s hj h1 h2 q]
/-- The bottles b in some crates. -/
def sumC (L : List Cr) (b : Bt) (ks : List Int) : Nat := (ks.map fun y => cntC L[y.toNat]! b).sum
theorem getD_mem {ks : List Int} {j : Nat} (h : j < ks.length) : ks.getD j 0 ∈ ks := by
  rw [List.getD_eq_getElem?_getD, List.getElem?_eq_getElem h]
  exact List.getElem_mem h
theorem getD_inj {ks : List Int} (hd : ks.Nodup) {i j : Nat} (hi : i < ks.length) (hj : j < ks.length) (h : ks.getD i 0 = ks.getD j 0) : i = j := by
  rw [List.getD_eq_getElem?_getD, List.getElem?_eq_getElem hi, List.getD_eq_getElem?_getD, List.getElem?_eq_getElem hj] at h
  exact (List.getElem_inj hd).1 h
theorem tkK_take (b : Bt) (ks : List Int) (s : List Cr × List Bt × Int) (hg : Good s.1.length ks) (hn : 0 ≤ s.2.2) : ∀ q, q ≤ ks.length → (tkK b ks q s).2.1 = s.2.1 ++ List.replicate (min s.2.2.toNat (sumC s.1 b (ks.take q))) b ∧ (tkK b ks q s).2.2 = s.2.2 - (min s.2.2.toNat (sumC s.1 b (ks.take q)) : Nat) ∧ ∀ i, q ≤ i → i < ks.length → (tkK b ks q s).1[(ks.getD i 0).toNat]! = s.1[(ks.getD i 0).toNat]!
  | 0, _ => ⟨by simp [tkK, sumC], by simp [tkK, sumC], fun i _ _ => rfl⟩
  | q + 1, hq => by
    obtain ⟨ih1, ih2, ih3⟩ := tkK_take b ks s hg hn q (by omega)
    have hst := tkK_stay b ks q s
    have hin := hg.inn _ (getD_mem (show q < ks.length by omega))
    have hkq : (ks.getD q 0).toNat < (tkK b ks q s).1.length := by rw [hst.len]; omega
    obtain ⟨t1, t2⟩ := tkP_take b (ks.getD q 0).toNat (tkK b ks q s) hkq (hst.pos hn) 12 (Nat.le_refl _)
    rw [ih3 q (Nat.le_refl _) (by omega)] at t1 t2
    have hsum : sumC s.1 b (ks.take (q + 1)) = sumC s.1 b (ks.take q) + cntK s.1[(ks.getD q 0).toNat]! b 12 := by
      have e : ks[q] = ks.getD q 0 := by rw [List.getD_eq_getElem?_getD, List.getElem?_eq_getElem (by omega)]; rfl
      unfold sumC
      rw [List.take_succ_eq_append_getElem (by omega), List.map_append, List.sum_append, e]
      simp [cntC]
    rw [tkK, hsum]
    generalize cntK s.1[(ks.getD q 0).toNat]! b 12 = m at t1 t2 ⊢
    generalize sumC s.1 b (ks.take q) = m0 at ih1 ih2 ⊢
    have hmin : min s.2.2.toNat (m0 + m) = min s.2.2.toNat m0 + min (tkK b ks q s).2.2.toNat m := by rw [ih2]; omega
    refine ⟨?_, ?_, fun i hi hil => ?_⟩
    · rw [t1, ih1, List.append_assoc, List.replicate_append_replicate, hmin]
    · rw [t2, hmin, ih2]
      omega
    · have hini := hg.inn _ (getD_mem hil)
      rw [tkP_other b _ _ _ (by rw [hst.len]; omega) (fun e => ?_) 12, ih3 i (by omega) hil]
      have := getD_inj hg.nd hil (show q < ks.length by omega) (by omega)
      omega
theorem cmp_keys {a b : Bt} (h : a.cmp b < 0) : a.k < b.k ∨ (a.k = b.k ∧ a.y < b.y) := by
  unfold Bt.cmp at h
  split at h
  · exact .inl ‹_›
  · split at h
    · omega
    · split at h
      · exact .inr ⟨by omega, ‹_›⟩
      · split at h <;> omega
theorem okK_asc {l : List Wt} (h : okK l l.length) : ∀ i, i < l.length → ∀ j, j < i → (l[j]!.b.k < l[i]!.b.k ∨ (l[j]!.b.k = l[i]!.b.k ∧ l[j]!.b.y < l[i]!.b.y))
  | 0, _, j, hj => absurd hj (Nat.not_lt_zero _)
  | i + 1, hi, j, hj => by
    have h1 := cmp_keys ((h (i + 1) hi).2 (Nat.succ_pos _))
    rw [Nat.add_sub_cancel] at h1
    rcases Nat.lt_or_ge j i with q | q
    · have := okK_asc h i (by omega) j q
      omega
    · obtain rfl : j = i := by omega
      exact h1
theorem okK_ne {l : List Wt} (h : okK l l.length) {i j : Nat} (hi : i < l.length) (hj : j < i) : l[j]!.b ≠ l[i]!.b := fun e => by
  have := okK_asc h i hi j hj
  rw [e] at this
  omega
theorem okK_z {l : List Wt} (h : okK l l.length) {i : Nat} (hi : i < l.length) : zB ≠ l[i]!.b := fun e => by
  have := (h i hi).1
  rw [Wt.ok, ← e] at this
  simp [Bt.ok, zB] at this
/-- What is taken out of crates that fill an order. -/
theorem tkW_bots {lc : List Cr} {l : List Wt} {ks : List Int} (hok : okK l l.length) (hg : Good lc.length ks) (hf : ∀ i, i < l.length → l[i]!.n ≤ (sumC lc l[i]!.b ks : Int)) : ∀ i, i ≤ l.length → (tkW lc l ks i).2 = botsL (l.take i) ∧ ∀ i', i ≤ i' → i' < l.length → ∀ k, k < lc.length → cntC ((tkW lc l ks i).1[k]!) l[i']!.b = cntC lc[k]! l[i']!.b
  | 0, _ => ⟨by simp [tkW, botsL], fun _ _ _ _ _ => rfl⟩
  | i + 1, hi => by
    obtain ⟨ih1, ih2⟩ := tkW_bots hok hg hf i (by omega)
    have hlen := tkW_len lc l ks i
    have hn : 0 ≤ l[i]!.n := by
      have := (hok i (by omega)).1
      simp only [Wt.ok, Bool.and_eq_true, decide_eq_true_iff] at this
      omega
    have hT := tkK_take l[i]!.b ks ((tkW lc l ks i).1, (tkW lc l ks i).2, l[i]!.n) (by rw [hlen]; exact hg) hn ks.length (Nat.le_refl _)
    have hs : sumC (tkW lc l ks i).1 l[i]!.b ks = sumC lc l[i]!.b ks := by
      unfold sumC
      congr 1
      refine List.map_congr_left fun y hy => ?_
      have := hg.inn y hy
      exact ih2 i (Nat.le_refl _) (by omega) y.toNat (by omega)
    rw [List.take_length] at hT
    simp only at hT
    rw [hs] at hT
    have hfi := hf i (by omega)
    rw [tkW]
    refine ⟨?_, fun i' hi' hil' k hk => ?_⟩
    · show (tkK l[i]!.b ks ks.length ((tkW lc l ks i).1, (tkW lc l ks i).2, l[i]!.n)).2.1 = _
      rw [hT.1, ih1, botsL_step (by omega), show min l[i]!.n.toNat (sumC lc l[i]!.b ks) = l[i]!.n.toNat by omega]
    · show cntC ((tkK l[i]!.b ks ks.length ((tkW lc l ks i).1, (tkW lc l ks i).2, l[i]!.n)).1[k]!) l[i']!.b = _
      rw [tkK_cnt _ _ ks k _ (by rw [hlen]; exact hk) (okK_ne hok hil' (by omega)) (okK_z hok hil')]
      exact ih2 i' (by omega) hil' k hk
theorem outL_bots {lc : List Cr} {l : List Wt} {ks : List Int} (hok : ordOk l = true) (hg : Good lc.length ks) (hf : leftL lc l ks = []) : (outL lc l ks).2 = botsL l := by
  have hk : okK l l.length := by simp [ordOk] at hok; exact hok.1
  have := (tkW_bots hk hg (fun i hi => ?_) l.length (Nat.le_refl _)).1
  · rw [List.take_length] at this
    exact this
  · unfold leftL lackL at hf
    rw [List.flatMap_eq_nil_iff] at hf
    have h1 := hf l[i]! (by rw [getB hi]; exact List.getElem_mem hi)
    have e : cntL (opL lc ks) l[i]!.b = sumC lc l[i]!.b ks := by
      rw [opL_nodup lc hg.nd]
      unfold cntL sumC
      rw [List.map_map]
      rfl
    rw [e] at h1
    apply Classical.byContradiction
    intro hlt
    rw [lack1_yes (by omega)] at h1
    cases h1
end Go.Proofs.Ytbngpcghognojaa
namespace Go.Proofs.Ytbngpcghognojaa
open Go.RowKit
set_option linter.unusedVariables false
set_option linter.unusedSimpArgs false
set_option maxRecDepth 100000
theorem Bt.fine_z : Bt.fine zB = true := by decide
theorem ok_put {L : List Cr} {j p : Nat} (hj : j < L.length) (h : ∀ c ∈ L, Cr.ok c = true) : ∀ c ∈ putL L j p zB, Cr.ok c = true := by
  intro c hc
  rcases List.mem_or_eq_of_mem_set hc with q | rfl
  · exact h c q
  · have h1 := h L[j]! (by rw [getB hj]; exact List.getElem_mem hj)
    unfold Cr.ok at h1 ⊢
    rw [setC_toList, List.all_eq_true]
    intro b hb
    rcases List.mem_or_eq_of_mem_set hb with q | rfl
    · exact List.all_eq_true.1 h1 b q
    · exact Bt.fine_z
theorem tkP_ok (b : Bt) (k : Nat) (s : List Cr × List Bt × Int) (hk : k < s.1.length) (h : ∀ c ∈ s.1, Cr.ok c = true) : ∀ p, ∀ c ∈ (tkP b k p s).1, Cr.ok c = true
  | 0 => h
  | p + 1 => by
    have ih := tkP_ok b k s hk h p
    have hl := (tkP_stay b k p s).len
    rw [tkP, tkStep]
    split
    · exact ok_put (by rw [hl]; exact hk) ih
    · exact ih
theorem tkK_ok (b : Bt) (ks : List Int) (s : List Cr × List Bt × Int) (hk : ∀ x ∈ ks, 0 ≤ x ∧ x < s.1.length) (h : ∀ c ∈ s.1, Cr.ok c = true) : ∀ j, j ≤ ks.length → ∀ c ∈ (tkK b ks j s).1, Cr.ok c = true
  | 0, _ => h
  | j + 1, hj => by
    rw [tkK]
    refine tkP_ok b _ _ ?_ (tkK_ok b ks s hk h j (by omega)) 12
    rw [(tkK_stay b ks j s).len]
    have := hk _ (getD_mem (show j < ks.length by omega))
    omega
theorem tkW_ok (lc : List Cr) (l : List Wt) (ks : List Int) (hk : ∀ x ∈ ks, 0 ≤ x ∧ x < lc.length) (h : ∀ c ∈ lc, Cr.ok c = true) : ∀ i, ∀ c ∈ (tkW lc l ks i).1, Cr.ok c = true
  | 0 => h
  | i + 1 => by
    rw [tkW]
    exact tkK_ok _ ks _ (by rw [show ((tkW lc l ks i).1, (tkW lc l ks i).2, l[i]!.n).1.length = lc.length from tkW_len lc l ks i]; exact hk) (tkW_ok lc l ks hk h i) ks.length (Nat.le_refl _)
theorem outL_stack {lc : List Cr} {l : List Wt} {ks : List Int} (hk : ∀ x ∈ ks, 0 ≤ x ∧ x < lc.length) (h : stackOk lc = true) : stackOk (outL lc l ks).1 = true := by
  simp only [stackOk, Bool.and_eq_true, decide_eq_true_iff, List.all_eq_true] at h ⊢
  refine ⟨?_, tkW_ok lc l ks hk h.2 l.length⟩
  show (tkW lc l ks l.length).1.length ≤ 12
  rw [tkW_len]
  exact h.1
theorem sum_sub {α : Type} [DecidableEq α] (g : α → Nat) : ∀ (ks L : List α), ks.Nodup → (∀ x ∈ ks, x ∈ L) → (ks.map g).sum ≤ (L.map g).sum
  | [], L, _, _ => by simp
  | x :: ks, L, hn, hs => by
    have hx := hs x (List.mem_cons_self ..)
    have hp := List.perm_cons_erase hx
    rw [List.nodup_cons] at hn
    have ih := sum_sub g ks (L.erase x) hn.2 fun y hy => (List.mem_erase_of_ne (show y ≠ x from fun e => hn.1 (by rw [← e]; exact hy))).2 (hs y (List.mem_cons_of_mem _ hy))
    have e := (hp.map g).sum_nat
    rw [e, List.map_cons, List.map_cons, List.sum_cons, List.sum_cons]
    omega
theorem cntL_sub {lc : List Cr} {ks : List Int} (hg : Good lc.length ks) (b : Bt) : cntL (opL lc ks) b ≤ cntL lc b := by
  have e := opL_every lc
  rw [opL_nodup lc (everyL_nodup _)] at e
  rw [opL_nodup lc hg.nd]
  conv => rhs; rw [← e]
  unfold cntL
  rw [List.map_map, List.map_map]
  exact sum_sub _ ks (everyL lc.length) hg.nd fun x hx => everyL_mem (hg.inn x hx).1 (hg.inn x hx).2
/-- What is filled out of some crates is filled out of all. -/
theorem fewS_none {lc : List Cr} {l : List Wt} (h : (fewS lc l).2 = true) : lackL (cntL lc) l = [] := by
  have h1 := fewS_ok h
  have hg := fewS_good (lc := lc) (l := l)
  unfold leftL lackL at h1
  unfold lackL
  rw [List.flatMap_eq_nil_iff] at h1 ⊢
  intro x hx
  have h2 := h1 x hx
  have h3 := cntL_sub hg x.b
  apply Classical.byContradiction
  intro hne
  have h4 : 0 < x.n - (cntL lc x.b : Int) := by
    apply Classical.byContradiction
    intro q
    exact hne (lack1_no q)
  rw [lack1_yes (by omega)] at h2
  cases h2
theorem fewS_iff (lc : List Cr) (l : List Wt) : (fewS lc l).2 = decide (lackL (cntL lc) l = []) := by
  by_cases h : lackL (cntL lc) l = []
  · rw [fewS_found h, decide_eq_true h]
  · rw [decide_eq_false h, ← Bool.not_eq_true]
    exact fun q => h (fewS_none q)
/-- The first orders, filled. -/
def sevK (lc : List Cr) (os : List (List Wt)) : Nat → List Cr × List Int
  | 0 => (lc, [])
  | i + 1 => if (fewS (sevK lc os i).1 os[i]!).2 = true then ((outL (sevK lc os i).1 os[i]! (fewS (sevK lc os i).1 os[i]!).1).1, (sevK lc os i).2 ++ [(i : Int)]) else sevK lc os i
theorem sevK_len (lc : List Cr) (os : List (List Wt)) : ∀ i, (sevK lc os i).1.length = lc.length
  | 0 => rfl
  | i + 1 => by
    rw [sevK]
    split
    · show (outL _ _ _).1.length = _
      rw [outL, tkW_len, sevK_len lc os i]
    · exact sevK_len lc os i
theorem sevK_le (lc : List Cr) (os : List (List Wt)) : ∀ i, (sevK lc os i).2.length ≤ i
  | 0 => Nat.le_refl _
  | i + 1 => by
    have ih := sevK_le lc os i
    rw [sevK]
    split
    · show ((sevK lc os i).2 ++ [(i : Int)]).length ≤ i + 1
      rw [List.length_append, List.length_singleton]
      omega
    · omega
theorem sevK_ok {lc : List Cr} (os : List (List Wt)) (h : stackOk lc = true) : ∀ i, stackOk (sevK lc os i).1 = true
  | 0 => h
  | i + 1 => by
    have ih := sevK_ok os h i
    rw [sevK]
    split
    · exact outL_stack (fewS_good).inn ih
    · exact ih
def sevI (lc : List Cr) (os : List (List Wt)) : Int := if (stackOk lc && os.all ordOk) = true then (if 20 < os.length then 3 else 0) else 1
def sevR (lc : List Cr) (os : List (List Wt)) : List Cr × List Int × Int := if sevI lc os = 0 then ((sevK lc os os.length).1, (sevK lc os os.length).2, 0) else ([], [], sevI lc os)
theorem sevI_zero {lc : List Cr} {os : List (List Wt)} (h : sevI lc os = 0) : stackOk lc = true ∧ (∀ l ∈ os, ordOk l = true) ∧ os.length ≤ 20 := by
  unfold sevI at h
  split at h
  · rename_i h1
    rw [Bool.and_eq_true, List.all_eq_true] at h1
    split at h
    · cases h
    · exact ⟨h1.1, h1.2, by omega⟩
  · cases h
theorem sevR_le (lc : List Cr) (os : List (List Wt)) : (sevR lc os).1.length ≤ 30000 := by
  unfold sevR
  split
  · rename_i h
    have h1 := (sevI_zero h).1
    show (sevK lc os os.length).1.length ≤ 30000
    rw [sevK_len]
    simp only [stackOk, Bool.and_eq_true, decide_eq_true_iff] at h1
    omega
  · simp
theorem sevR_le2 (lc : List Cr) (os : List (List Wt)) : (sevR lc os).2.1.length ≤ 30000 := by
  unfold sevR
  split
  · rename_i h
    have h1 := (sevI_zero h).2.2
    have h2 := sevK_le lc os os.length
    show (sevK lc os os.length).2.length ≤ 30000
    omega
  · simp
end Go.Proofs.Ytbngpcghognojaa
