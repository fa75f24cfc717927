/- Contracts of SplitOrder: the reference's. -/
import Derived.Test.YtoiinpoiggkkdaaSplitS
import Derived.Test.YtoiinpoiggkkdaaUse
namespace Go.Proofs.Ytoiinpoiggkkdaa
open Go.RowKit
set_option linter.unusedVariables false
set_option linter.unusedSimpArgs false
set_option maxRecDepth 100000
set_option maxHeartbeats 2000000
attribute [local go_sem] Oper.qB
section
variable {α : Type} {f : α → List Value} {w w' : World} {B k e E : Nat} {v u : Value} {ls : List (List α)} {S S' : Nat → Prop}
theorem OwnP.butP (h : OwnP S f k e E w B v ls) (hS : ∀ b, S b → u.ownBlock ≠ some b) (hb : ButV u w w') : OwnP S f k e E w' B v ls := by
  obtain ⟨vs, h1, h2, h3, h4, h5⟩ := h
  exact ⟨vs, h1, h2.but hb (fun b hu hv => hS b (h5 b hv) hu), fun i hi => ⟨(h3 i hi).1.but hb (fun b hu hv => hS b ((h3 i hi).2 b hv) hu), (h3 i hi).2⟩, h4, h5⟩
end
theorem close_le (t : List (List Wt) × List Wt × Int) : t.1.length ≤ (closeS t).length ∧ t.2.1.length ≤ totL (closeS t) := by
  unfold closeS
  split
  · rename_i h
    rw [h]
    exact ⟨Nat.le_refl _, Nat.zero_le _⟩
  · rw [totL_app]
    simp [totL]
theorem splS_le {l : List Wt} {most : Int} (hm : 0 < most) (k : Nat) : (splS l most k).1.length ≤ (splI l most k).1.length ∧ (splS l most k).2.1.length ≤ totL (splI l most k).1 ∧ 0 < (splS l most k).2.2 ∧ (splS l most k).2.2 ≤ most := by
  have h := close_le (splS l most k)
  rw [spl_eq hm] at h
  refine ⟨h.1, h.2, ?_⟩
  have hq := splI_most (l := l) hm k
  rcases spl_rel (l := l) hm k with ⟨_, _, h3, _⟩ | ⟨_, h2, h3, _⟩
  · rw [h3]; exact ⟨hm, Int.le_refl _⟩
  · rw [← h3]; exact ⟨h2, hq⟩
theorem infoWS3 : (Try.prog.info? 27).map (fun i => (i.zero, i.size, i.bytes)) = some (some (.slice none 0 0), 1, 24) := by kernel_rfl
theorem wp_app_want3 {ops : Array Oper} {rest : List Oper} {o : Oper} {a : Act} {Q : Exit → Act → World → Prop} {W : World} (B : Nat) (hgd : o.guard = none) (s x : Operand) (ho : o.op = .call { callee := .builtin .append, args := #[s, x], argTypes := #[27, 27] })
    (v : Value) (l : List Wt) (y : Wt) (hs : a.eval s = v) (g : Nat) (hx : a.eval x = .slice (some ⟨g, 0, none⟩) 1 1) (hg : g = W.heap.size)
    (HO : OwnS wc W B 43 3 v l) (hB : B ≤ W.heap.size) (hn : l.length ≤ 100000000)
    (h : ∀ v1 w1, OwnS wc w1 B 43 3 v1 (l ++ [y]) → (Below B W w1 ∧ ButV v W w1 ∧ Away v v1 W) → wpList Try.prog ops Q rest (a.put o.dst v1) w1) : wpList Try.prog ops Q (o :: rest) a (W.alloc (.cells #[.int .u8 y.b.k, .int .i16 y.b.y, .int .i16 y.n] 43)) :=
  wp_app3 (P := Try.prog) B hgd s x 27 43 ho (.agg (wc zW).toArray) 3 6 Try.underlying27 infoWantS rfl (by decide) v l.length (fl wc l) (wc y) hs g hx hg rfl (fun u hu => wv_one y u (by simpa using hu)) HO.1 hB (by omega) (by decide)
    (fun v1 w1 h1 h2 => h v1 w1 (OwnS.grown (by rw [List.length_append, fl_append, fl_one]; exact h1)) h2)
theorem min_any (a b : Int) (w : World) : Calls Try.prog 19 #[.int .i64 a, .int .i64 b] w fun e w' => e = .returned (.int .i64 (min a b)) ∧ w = w' := by
  by_cases h : a < b
  · have hm := Lib.hid (show a = min a b by omega)
    go_enter Try.func19, Try.ntmps19
    go_wp2
    go_ret
    exact ⟨ret_int hm.out, rfl⟩
  · have hm := Lib.hid (show b = min a b by omega)
    go_enter Try.func19, Try.ntmps19
    go_wp2
    go_ret
    exact ⟨ret_int hm.out, rfl⟩
theorem sSplitOrder_any (g0 c0 : Nat) (l : List Wt) (most : Int) (w : World) (K0 : Lies wc w g0 l) (hn0 : l.length ≤ 1048576) :
    Calls Try.prog 6 #[.slice (some ⟨g0, 0, none⟩) l.length c0, .int .i64 most] w fun e w' => ∃ v, e = .returned (.tuple #[v, .int .i64 (splitR l most).2]) ∧ OwnA wc 3 43 27 w' w.heap.size w'.heap.size v (splitR l most).1 ∧ Below w.heap.size w w' := by
  have HV := Lib.hid (fun W (hW : Below w.heap.size w W) => l02Ok_any g0 0 c0 l W (K0.below hW).c (K0.below hW).lt (by omega))
  have H := Below.refl w.heap.size w
  replace K0 := Lib.hid K0
  have HI := l00In_any most 1 144
  have hr0 : (decide (1 ≤ most) && decide (most ≤ 144)) = decide (1 ≤ most ∧ most ≤ 144) := by simp
  rw [hr0] at HI
  clear hr0
  cases e1 : ordOk l with
  | false =>
    have HF := Lib.hid (show splitR l most = ([], 1) by simp [splitR, splCode, e1])
    have e3 := Lib.hid e1
    clear e1 HI
    go_enter Try.func6, Try.ntmps6
    go_wp2_with (go_at_call 17; with_reducible refine (HV.out _ H).mono ?_; rintro e w' ⟨rfl, hb⟩; rw [e3.out]; replace H := bstep H hb; clear hb)
    rw [HF.out]
    exact bodyPost_ret (results_tt rfl) rfl ⟨_, rfl, (OwnP.lit H.size (fun _ _ => trivial)).a, H.alloc H.size _⟩
  | true =>
    by_cases hmo : 1 ≤ most ∧ most ≤ 144
    rotate_left
    · have HF := Lib.hid (show splitR l most = ([], 2) by simp [splitR, splCode, e1, hmo])
      rw [decide_eq_false hmo] at HI
      have e3 := Lib.hid e1
      clear e1 hmo
      replace HI := Lib.hid HI
      go_enter Try.func6, Try.ntmps6
      go_wp2_with (first | (go_at_call 17; with_reducible refine (HV.out _ H).mono ?_; rintro e w' ⟨rfl, hb⟩; rw [e3.out]; replace H := bstep H hb; clear hb) | (go_at_call 18; with_reducible refine (HI.out _).mono ?_; rintro e w' ⟨rfl, rfl⟩))
      rw [HF.out]
      exact bodyPost_ret (results_tt rfl) rfl ⟨_, rfl, (OwnP.lit H.size (fun _ _ => trivial)).a, H.alloc H.size _⟩
    · have HF : Hid (splitR l most = ((splI l most l.length).1, 0)) := by simp [Hid, splitR, splCode, e1, hmo]
      rw [decide_eq_true hmo] at HI
      have HR := Lib.hid (restN_le e1)
      have HOK := Lib.hid e1
      have e3 := Lib.hid e1
      clear e1
      replace HI := Lib.hid HI
      obtain ⟨hmo1, hmo2⟩ := hmo
      have ll : l.length ≤ 8 := by have := HOK.out; simp only [ordOk, Bool.and_eq_true, decide_eq_true_iff] at this; exact this.2
      go_enter Try.func6, Try.ntmps6
      go_wp2_with (first | (go_at_call 17; with_reducible refine (HV.out _ H).mono ?_; rintro e w' ⟨rfl, hb⟩; rw [e3.out]; replace H := bstep H hb; clear hb) | (go_at_call 18; with_reducible refine (HI.out _).mono ?_; rintro e w' ⟨rfl, rfl⟩))
      go_loopw [6, 7, 8, 9] (fun s u q i wr => ∃ k : Nat, k ≤ l.length ∧ i = .int .i64 k ∧ q = .int .i64 (splS l most k).2.2 ∧ Hid (OwnP (fun b => u.ownBlock ≠ some b) wc 3 43 27 wr w.heap.size s (splS l most k).1) ∧ Hid (OwnS wc wr w.heap.size 43 3 u (splS l most k).2.1) ∧ Below w.heap.size w wr) (fun _ _ _ i _ => l.length - (intOf i).toNat)
      case atStart =>
        have h1 : Below w.heap.size w _ := H.alloc H.size (.cells #[] 27)
        exact ⟨0, Nat.zero_le _, rfl, rfl, (@OwnP.imp Wt wc _ _ _ _ _ _ _ (fun _ => True) _ (OwnP.lit H.size (fun _ _ => trivial)) (fun b hb _ he => by
          simp [Value.ownBlock] at he hb
          omega)).kept ((Below.refl _ _).alloc (Nat.le_refl _) _), (by
          have h2 := OwnS.lit (f := wc) (e := 43) (size := 3) h1.size
          rw [show (w'.alloc (.cells #[] 27)).heap.size = w'.heap.size + 1 by simp] at h2
          exact h2), h1.alloc h1.size _⟩
      case round =>
        clear H
        obtain ⟨k, hk, rfl, rfl, HO, HU, hb⟩ := hrel
        by_cases hlt : k < l.length
        · have hlt2 : (k : Int) < (l.length : Int) := by omega
          obtain ⟨D, hD1, -, -, hD4, hD5⟩ := splI_le (l := l) (most := most) (by omega) k (by omega)
          have hD6 := restN_step hlt
          have hD7 := HR.out
          have HSP : Hid (splS l most (k + 1) = spS most l[k]!.b l[k]!.n.toNat l[k]!.n (splS l most k)) := rfl
          have hxn : 1 ≤ l[k]!.n ∧ l[k]!.n ≤ 144 := by
            have := HOK.out
            simp only [ordOk, Bool.and_eq_true, decide_eq_true_iff] at this
            have := (this.1 k hlt).1
            simp only [Wt.ok, Bool.and_eq_true, decide_eq_true_iff] at this
            exact this.2
          have hq1 := splS_le (l := l) (most := most) (by omega) k
          have HXX := Lib.hid (fun W (hW : Below w.heap.size w W) => (K0.out.below hW).c.el wc_length hlt)
          have HX := HXX.out _ hb
          rw [Nat.zero_add] at HX
          generalize l[k]! = x at HX HXX hD6 HSP hxn
          generalize splS l most k = s0 at HO HU HSP hq1 ⊢
          obtain ⟨os, cur, left⟩ := s0
          replace HO : Hid (OwnP (fun b => u7.ownBlock ≠ some b) wc 3 43 27 wr w.heap.size u6 os) := HO
          replace HU : Hid (OwnS wc wr w.heap.size 43 3 u7 cur) := HU
          obtain ⟨q1, q2, q3, q4⟩ : os.length ≤ _ ∧ cur.length ≤ _ ∧ 0 < left ∧ left ≤ most := hq1
          have hlen : os.length + x.n.toNat ≤ 1152 := by omega
          have htot : cur.length + x.n.toNat ≤ 1152 := by omega
          clear hD4 hD5 hD6 hD7 q1 q2
          have x2 : wr.cell? ⟨g0, k * 3 + 2, none⟩ = some (.int .i16 x.n) := HX 2 _ rfl
          clear HX
          go_upto_region 12 with fail
          clear x2
          go_loopw [6, 7, 8, 10] (fun s u q p wi => ∃ (os : List (List Wt)) (cur : List Wt) (left n : Int) (f : Nat), q = .int .i64 left ∧ p = .int .i64 n ∧ n.toNat ≤ f ∧ n ≤ 144 ∧ 0 ≤ n ∧ 0 < left ∧ left ≤ most ∧ os.length + n.toNat ≤ 1152 ∧ cur.length + n.toNat ≤ 1152 ∧ Hid (splS l most (k + 1) = spS most x.b f n (os, cur, left)) ∧ Hid (OwnP (fun b => u.ownBlock ≠ some b) wc 3 43 27 wi w.heap.size s os) ∧ Hid (OwnS wc wi w.heap.size 43 3 u cur) ∧ Below w.heap.size w wi) (fun _ _ _ p _ => (intOf p).toNat)
          case atStart => exact ⟨os, cur, left, x.n, x.n.toNat, rfl, rfl, Nat.le_refl _, hxn.2, by omega, q3, q4, hlen, htot, HSP, HO, HU, hb⟩
          case round =>
            clear HO HU hb HSP q3 q4 hlen htot hxn
            obtain ⟨os, cur, left, n, f, rfl, rfl, hf, hn1, hn2, q3, q4, hlen, htot, HSP, HO, HU, hb⟩ := hrel
            by_cases hpos : 0 < n
            · obtain ⟨f, rfl⟩ : ∃ f', f = f' + 1 := ⟨f - 1, by omega⟩
              have HS2 := HSP.out.trans (show spS most x.b (f + 1) n (os, cur, left) = _ by rw [spS, if_neg (show ¬ n ≤ 0 by omega)])
              clear HSP
              have HX := HXX.out _ hb
              rw [Nat.zero_add] at HX
              have x0 : wr.cell? ⟨g0, k * 3, none⟩ = some (.int .u8 x.b.k) := HX 0 _ rfl
              have x1 : wr.cell? ⟨g0, k * 3 + 1, none⟩ = some (.int .i16 x.b.y) := HX 1 _ rfl
              clear HX
              have HM := min_any n left
              have hm0 : 0 < min n left ∧ min n left ≤ n ∧ min n left ≤ left := by omega
              unfold spSs at HS2
              simp only at HS2
              generalize min n left = m at HM HS2 hm0
              rw [wtN_n (show -32768 ≤ m ∧ m ≤ 32767 by omega)] at HS2
              have hwm : IntKind.i16.wrap m = m := wrap_i16 (by omega)
              replace HM := Lib.hid HM
              replace HS2 := Lib.hid HS2
              go_upto_region 15 with (first | (go_at_call 19; with_reducible refine (HM.out _).mono ?_; rintro e w' ⟨rfl, rfl⟩) | (at_builtin; refine wp_app_want3 w.heap.size rfl _ _ rfl _ cur ⟨x.b, m, by omega⟩ rfl _ rfl ?hg ?HO ?hB ?hn ?_; (case hg => simp); (case HO => exact HU.out); (case hB => exact hb.size); (case hn => omega); intro v1 w1 HU1 hb1))
              have HO1 := Lib.hid (((HO.out.imp (S' := fun b => u7.ownBlock ≠ some b ∧ b < wr.heap.size) (fun b hb hs => ⟨hs, hb⟩)).butP (fun b hs => hs.1) hb1.2.1).imp (S' := fun b => v1.ownBlock ≠ some b) (fun b _ hs => hb1.2.2 b hs.2 hs.1))
              have hb2 := hb.trans hb1.1
              replace HU1 := Lib.hid HU1
              clear hb1 HO HU hb x0 x1
              have hwl : IntKind.i64.wrap (left - m) = left - m := by rw [IntKind.wrap_i64]; omega
              by_cases hz : left - m = 0
              · replace HS2 := Lib.hid (HS2.out.trans (by rw [if_pos hz]))
                have hlm : left = m := by omega
                subst hlm
                obtain ⟨g8, n8, c8, hv8⟩ : ∃ g8 n8 c8, v1 = .slice (some ⟨g8, 0, none⟩) n8 c8 := by { obtain ⟨a, b, h⟩ := HU1.out.2; exact ⟨_, _, _, h⟩ }
                subst hv8
                go_upto_region 19 with (at_builtin; refine wp_app_inP (f := wc) (S := fun _ => True) (S0 := fun b => (Value.slice (some ⟨g8, 0, none⟩) n8 c8).ownBlock ≠ some b) w.heap.size rfl _ _ 24 27 rfl (.slice none 0 0) Try.underlying24 infoWS3 rfl 3 43 (by decide) _ os (cur ++ [⟨x.b, left, by omega⟩]) _ rfl _ rfl ?hg ?HO ?HU ?hu ?hSS ?hSn ?hB ?hn ?_; (case hg => simp); (case HO => exact HO1.out); (case HU => exact HU1.out); (case hu => exact fun b hb' => ⟨fun q => q hb', trivial⟩); (case hSS => exact fun b hs => trivial); (case hSn => exact fun _ _ => trivial); (case hB => exact hb2.size); (case hn => omega); intro v3 w3 HO3 hb3)
                have hb4 := hb2.trans hb3.1
                replace HO3 := Lib.hid HO3
                have HO4 : Hid (OwnP (fun b => (Value.slice (some ⟨w3.heap.size, 0, none⟩) 0 0).ownBlock ≠ some b) wc 3 43 27 (w3.alloc (.cells #[] 43)) w.heap.size v3 (os ++ [cur ++ [⟨x.b, left, by omega⟩]])) := (HO3.out.imp (S' := fun b => (Value.slice (some ⟨w3.heap.size, 0, none⟩) 0 0).ownBlock ≠ some b) (fun b hb _ he => by
                  simp [Value.ownBlock] at he
                  omega)).kept ((Below.refl _ _).alloc (Nat.le_refl _) _)
                clear hb3 HO1 HU1 hb2
                go_wp2
                go_roundw
                case rel => exact ⟨os ++ [cur ++ [⟨x.b, left, by omega⟩]], [], most, n - left, f, rfl, by go_num, by omega, by omega, by omega, by omega, Int.le_refl _, by simp; omega, by simp; omega, HS2, HO4, OwnS.lit hb4.size, hb4.alloc hb4.size _⟩
                case measure => simp [intOf]; omega
              · replace HS2 := Lib.hid (HS2.out.trans (by rw [if_neg hz]))
                have hz2 : ((left - m : Int) == 0) = false := by simpa using hz
                go_wp2
                go_roundw
                case rel => exact ⟨os, cur ++ [⟨x.b, m, by omega⟩], left - m, n - m, f, by go_num, by go_num, by omega, by omega, by omega, by omega, by omega, by omega, by simp; omega, HS2, HO1, HU1, hb2⟩
                case measure => simp [intOf]; omega
            · have hfin : splS l most (k + 1) = (os, cur, left) := by
                rw [HSP.out]
                cases f with
                | zero => rfl
                | succ f => rw [spS, if_pos (by omega)]
              replace hfin := Lib.hid hfin
              go_wp2
              go_roundw
              case rel => exact ⟨k + 1, by omega, by go_num, by rw [hfin.out], by rw [hfin.out]; exact HO, by rw [hfin.out]; exact HU, hb⟩
              case measure => simp [intOf]; omega
        · obtain rfl : k = l.length := by omega
          have HCL := spl_eq (l := l) (most := most) (by omega) l.length
          have hCL := HCL
          have hq1 := splS_le (l := l) (most := most) (by omega) l.length
          obtain ⟨D, hD1, -, -, hD4, hD5⟩ := splI_le (l := l) (most := most) (by omega) l.length (Nat.le_refl _)
          have hD7 := HR.out
          rw [← HCL] at HF hq1
          generalize splS l most l.length = s0 at HO HU HF hq1 hCL HCL ⊢
          obtain ⟨os, cur, left⟩ := s0
          replace HO : Hid (OwnP (fun b => u7.ownBlock ≠ some b) wc 3 43 27 wr w.heap.size u6 os) := HO
          replace HU : Hid (OwnS wc wr w.heap.size 43 3 u7 cur) := HU
          have hol : os.length ≤ 1152 := by
            have h1 : os.length ≤ (closeS (os, cur, left)).length := (close_le (os, cur, left)).1
            rw [← hCL] at hD4
            omega
          obtain ⟨g7, c7, hv7⟩ := HU.out.2
          subst hv7
          clear hq1 hD4 hD5 hD1 hD7 HCL hCL
          cases cur with
          | nil =>
            replace HF : Hid (splitR l most = (os, 0)) := HF
            go_wp2
            rw [HF.out]
            exact bodyPost_ret (results_tt rfl) rfl ⟨_, rfl, HO.out.a, hb⟩
          | cons y cur =>
            replace HF : Hid (splitR l most = (os ++ [y :: cur], 0)) := HF
            go_wp2_with (at_builtin; refine wp_app_inP (f := wc) (S := fun _ => True) (S0 := fun b => (Value.slice (some ⟨g7, 0, none⟩) (y :: cur).length c7).ownBlock ≠ some b) w.heap.size rfl _ _ 24 27 rfl (.slice none 0 0) Try.underlying24 infoWS3 rfl 3 43 (by decide) _ os (y :: cur) _ rfl _ rfl ?hg ?HO ?HU ?hu ?hSS ?hSn ?hB ?hn ?_; (case hg => simp); (case HO => exact HO.out); (case HU => exact HU.out); (case hu => exact fun b hb' => ⟨fun q => q hb', trivial⟩); (case hSS => exact fun b hs => trivial); (case hSn => exact fun _ _ => trivial); (case hB => exact hb.size); (case hn => omega); intro v3 w3 HO3 hb3)
            rw [HF.out]
            exact bodyPost_ret (results_tt rfl) rfl ⟨_, rfl, HO3.a, hb.trans hb3.1⟩
end Go.Proofs.Ytoiinpoiggkkdaa
