/- Contracts of IsPure: are all bottles of a crate alike. -/
import Derived.Test.YtnhpgahapjjjbaaPure
namespace Go.Proofs.Ytnhpgahapjjjbaa
open Go Go.RowKit
set_option linter.unusedVariables false
set_option linter.unusedSimpArgs false
set_option maxRecDepth 100000
set_option maxHeartbeats 1000000
attribute [local go_sem] Oper.qB
/-- Neighbours are alike. -/
def adjK (l : List Bt) (n : Nat) : Prop := ∀ j, j + 1 < n → l[j]! = l[j + 1]!
theorem adjK_two {l : List Bt} : adjK l 2 ↔ l[0]! = l[1]! := by
  constructor
  · exact fun h => h 0 (by omega)
  · intro h j hj
    obtain rfl : j = 0 := by omega
    exact h
theorem adjK_succ {l : List Bt} {n : Nat} (hn : 1 ≤ n) : adjK l (n + 1) ↔ adjK l n ∧ l[n - 1]! = l[n]! := by
  constructor
  · intro h
    refine ⟨fun j hj => h j (by omega), ?_⟩
    have := h (n - 1) (by omega)
    rwa [Nat.sub_add_cancel hn] at this
  · rintro ⟨h, h'⟩ j hj
    rcases Nat.lt_or_ge (j + 1) n with q | q
    · exact h j q
    · obtain rfl : j = n - 1 := by omega
      rw [Nat.sub_add_cancel hn]
      exact h'
theorem adjK_all {l : List Bt} (h : adjK l l.length) : ∀ j, j < l.length → l[j]! = l[0]!
  | 0, _ => rfl
  | j + 1, hj => by rw [← h j hj, adjK_all h j (by omega)]
/-- All bottles are alike. -/
def alike (l : List Bt) : Bool := l.all fun x => x.like l[0]!
theorem alike_iff {l : List Bt} : alike l = true ↔ ∀ x ∈ l, x = l[0]! := by
  rw [alike, List.all_eq_true]
  exact ⟨fun h x hx => Bt.like_iff.1 (h x hx), fun h x hx => Bt.like_iff.2 (h x hx)⟩
theorem adjK_alike {l : List Bt} : adjK l l.length ↔ alike l = true := by
  rw [alike_iff]
  constructor
  · intro h x hx
    obtain ⟨j, hj, rfl⟩ := List.getElem_of_mem hx
    rw [← getB hj]
    exact adjK_all h j hj
  · intro h j hj
    have h1 := h l[j]! (by rw [getB (by omega)]; exact List.getElem_mem _)
    have h2 := h l[j + 1]! (by rw [getB hj]; exact List.getElem_mem _)
    rw [h1, h2]
theorem alike_perm {l m : List Bt} (h : l.Perm m) : alike l = alike m := by
  have key : ∀ {l m : List Bt}, l.Perm m → alike l = true → alike m = true := by
    intro l m h hl
    rw [alike_iff] at *
    cases m with
    | nil => intro x hx; cases hx
    | cons y m =>
      have hy := hl y (h.mem_iff.2 List.mem_cons_self)
      intro x hx
      have hx' := hl x (h.mem_iff.2 hx)
      rw [hx', ← hy]
      rfl
  rw [Bool.eq_iff_iff]
  exact ⟨key h, key h.symm⟩
def pureR (c : Cr) : Bool × Int := if c.ok = true then (alike (allB c), 0) else (false, 1)
attribute [local go_sem high] eqB
theorem Compact_bot (B : Nat) (v : Value) (l : List Bt) (w : World) (h : OwnN bc w B 26 2 v l) (hn : l.length ≤ 1000000) :
    Calls Try.prog 131 #[v] w fun e w' => (∃ A m cap, e = .returned (.slice A m cap) ∧ (m ≤ 1 ↔ alike l = true) ∧ m ≤ 1000000) ∧ Below B w w' := by
  have hu := Try.underlying26
  by_cases h2 : l.length < 2
  · obtain ⟨A, cap, rfl, hc, hr⟩ := h.rd
    have HF : Hid (l.length ≤ 1 ↔ alike l = true) := by
      refine ⟨fun _ => adjK_alike.1 fun j hj => by omega, fun _ => by omega⟩
    clear h hr
    have hl2 : (l.length : Int) < 2 := by omega
    go_enter Try.func131, Try.ntmps131
    go_wp2
    go_ret
    exact ⟨⟨_, _, _, rfl, HF.out, hn⟩, Below.refl _ _⟩
  · rcases h.cases (by decide) bc_length with ⟨rfl, rfl⟩ | ⟨g, cap, rfl⟩
    · exact absurd (by simp) h2
    have hcap : l.length ≤ cap := by obtain ⟨_, _, _, _, h, _⟩ := own_row h; exact h
    have hBg := own_base h g rfl
    have HO := Lib.hid h
    clear h
    have hl2 : ¬ (l.length : Int) < 2 := by omega
    go_enter Try.func131, Try.ntmps131
    go_upto_region 4 with fail
    go_loopw [3] (fun i wr => ∃ k : Nat, 1 ≤ k ∧ k ≤ l.length ∧ i = .int .i64 k ∧ Hid (∀ j, j + 1 < k → l[j]! ≠ l[j + 1]!) ∧ Hid (OwnN bc wr B 26 2 (.slice (some ⟨g, 0, none⟩) l.length cap) l) ∧ Below B w wr) (fun i _ => l.length - (intOf i).toNat)
    case atStart => exact ⟨1, Nat.le_refl _, by omega, rfl, (fun j hj => by omega), HO.out, Below.refl _ _⟩
    case round =>
      clear HO
      obtain ⟨k, hk1, hk2, rfl, HN, HO, hb⟩ := hrel
      obtain ⟨k, rfl⟩ : ∃ k', k = k' + 1 := ⟨k - 1, by omega⟩
      by_cases hlt : k + 1 < l.length
      · have hCX := HO.out.lies.c.el bc_length hlt
        have hCY := HO.out.lies.c.el bc_length (i := k) (by omega)
        rw [Nat.zero_add] at hCX hCY
        have HN2 : Hid (l[k]! ≠ l[k + 1]! → ∀ j, j + 1 < k + 1 + 1 → l[j]! ≠ l[j + 1]!) := fun h j hj => by
          rcases Nat.lt_or_ge (j + 1) (k + 1) with q | q
          · exact HN.out j q
          · obtain rfl : j = k := by omega
            exact h
        have HA : Hid (l[k]! = l[k + 1]! → (k + 1 = 1 ↔ adjK l (k + 1 + 1))) := fun h => by
          rcases Nat.eq_zero_or_pos k with rfl | hp
          · exact ⟨fun _ => adjK_two.2 h, fun _ => rfl⟩
          · exact ⟨fun q => by omega, fun q => absurd (q 0 (by omega)) (HN.out 0 (by omega))⟩
        generalize hx : l[k + 1]! = x at hCX HN2 HA
        generalize hy : l[k]! = y at hCY HN2 HA
        replace hx := Lib.hid hx
        replace hy := Lib.hid hy
        have x0 := cell_regrown (hCX 0 _ rfl)
        have x1 := cell_regrown (hCX 1 _ rfl)
        have y0 := cell_regrown (hCY 0 _ rfl)
        have y1 := cell_regrown (hCY 1 _ rfl)
        rw [Nat.add_zero] at x0 y0
        have hlt2 : (k : Int) + 1 < (l.length : Int) := by omega
        have hlt3 : (k : Int) < (l.length : Int) := by omega
        have hk3 : (k : Int) ≤ 1000000 := by omega
        have hwk : IntKind.i64.wrap (k : Int) = (k : Int) := by rw [IntKind.wrap_i64]; omega
        have hk4 : (0 : Int) ≤ (k : Int) + 1 := by omega
        have hk5 : ((k : Int) + 1).toNat = k + 1 := by omega
        have H := Below.refl wr.heap.size wr
        have hBw := Lib.hid (Nat.le_trans hBg (Nat.le_of_lt HO.out.lies.lt))
        clear hCX hCY
        go_upto_region 6 with fail
        cases e1 : x.like y with
        | false =>
          have e2 : (x.k == y.k && x.y == y.y) = false := e1
          have hne := Lib.hid (HN2.out (fun h => by rw [Bt.like_iff.2 h.symm] at e1; cases e1))
          clear e1 HN2 HA
          refine wp_region_qB (by kernel_rfl) (by kernel_rfl) ?_
          (repeat (first | fail | (apply qB_step; intro K hK; go_simp; first | (refine hK _ ?_; clear hK K) | (apply Exists.intro; refine ⟨fun _ => ?_, hK _ ?_⟩; (first | fail); clear hK K))))
          refine qB_nil ?_
          intro w1 hw1
          replace H := bstep H hw1
          clear hw1
          go_wp2
          go_roundw
          case rel => exact ⟨k + 1 + 1, by omega, by omega, by go_num, hne, HO.out.below H, hb.trans (H.mono hBw.out)⟩
          case measure => simp [intOf]; omega
        | true =>
          have e2 : (x.k == y.k && x.y == y.y) = true := e1
          have HA2 := Lib.hid (HA.out (Bt.like_iff.1 e1).symm)
          clear e1 HN2 HA HN
          refine wp_region_qB (by kernel_rfl) (by kernel_rfl) ?_
          (repeat (first | fail | (apply qB_step; intro K hK; go_simp; first | (refine hK _ ?_; clear hK K) | (apply Exists.intro; refine ⟨fun _ => ?_, hK _ ?_⟩; (first | fail); clear hK K))))
          refine qB_nil ?_
          intro w1 hw1
          replace H := bstep H hw1
          clear hw1
          have hb1 := hb.trans (H.mono hBw.out)
          have HO1 := Lib.hid (HO.out.below H)
          clear x0 x1 y0 y1 hx hy e2 H hb HO hwk
          have hkc : ¬ cap = k + 1 := by omega
          go_upto_region 9 with fail
          go_loopw [3, 5] (fun kv jv wr => ∃ K j : Nat, 1 ≤ K ∧ K ≤ k + j ∧ 1 ≤ j ∧ j ≤ l.length - (k + 1) ∧ kv = .int .i64 K ∧ jv = .int .i64 j ∧ Hid (∃ s : List Bt, s.length = l.length ∧ s.drop (k + j) = l.drop (k + j) ∧ OwnN bc wr B 26 2 (.slice (some ⟨g, 0, none⟩) l.length cap) s) ∧ Hid (K = 1 ↔ adjK l (k + 1 + j)) ∧ Below B w wr) (fun _ j _ => l.length - (intOf j).toNat)
          case atStart => exact ⟨k + 1, 1, by omega, Nat.le_refl _, Nat.le_refl _, by omega, by go_num, rfl, ⟨l, rfl, rfl, HO1.out⟩, HA2.out, hb1⟩
          case round =>
            clear HO1 hb1 HA2
            obtain ⟨K, j, hK1, hK2, hj1, hj2, rfl, rfl, HS, HA, hb⟩ := hrel
            obtain ⟨s, hsl, hsd, HO⟩ := HS.out
            have hgw := Lib.hid (own_lt HO g rfl)
            have HO2 := Lib.hid (show OwnN bc wr B 26 2 (.slice (some ⟨g, 0, none⟩) s.length cap) s by rw [hsl]; exact HO)
            clear HS HO
            have hKl : K < l.length := by omega
            have hK3 : (K : Int) < (l.length : Int) := by omega
            have hK4 : (K : Int) ≤ 1000000 := by omega
            by_cases hlj : j < l.length - (k + 1)
            · obtain ⟨j, rfl⟩ : ∃ j', j = j' + 1 := ⟨j - 1, by omega⟩
              have hat : ∀ i, k + (j + 1) ≤ i → i < l.length → s[i]! = l[i]! := fun i h1 h2 => by
                have e := congrArg (fun q => q[i - (k + (j + 1))]?) hsd
                simp only [List.getElem?_drop] at e
                rw [Nat.add_sub_cancel' h1, List.getElem?_eq_getElem (by omega), List.getElem?_eq_getElem h2] at e
                rw [getB (by omega), getB h2]
                exact Option.some.inj e
              have hCX := HO2.out.lies.c.el bc_length (i := k + 1 + (j + 1)) (by omega)
              have hCY := HO2.out.lies.c.el bc_length (i := k + 1 + j) (by omega)
              rw [hat _ (by omega) (by omega), Nat.zero_add, show (k + 1 + (j + 1)) * 2 = (k + 1) * 2 + (j + 1) * 2 by omega] at hCX
              rw [hat _ (by omega) (by omega), Nat.zero_add, show (k + 1 + j) * 2 = (k + 1) * 2 + j * 2 by omega] at hCY
              have HD : Hid (∀ x, (s.set K x).drop (k + (j + 1 + 1)) = l.drop (k + (j + 1 + 1))) := fun x => by
                rw [List.drop_set_of_lt (by omega)]
                have := congrArg (List.drop 1) hsd
                rwa [List.drop_drop, List.drop_drop, Nat.add_assoc, Nat.add_assoc] at this
              have HD0 : Hid (s.drop (k + (j + 1 + 1)) = l.drop (k + (j + 1 + 1))) := by
                have := congrArg (List.drop 1) hsd
                rwa [List.drop_drop, List.drop_drop, Nat.add_assoc, Nat.add_assoc] at this
              have HQ := Lib.hid (@adjK_succ l (k + 1 + (j + 1)) (by omega))
              rw [show k + 1 + (j + 1) - 1 = k + 1 + j by omega] at HQ
              generalize l[k + 1 + (j + 1)]! = x at hCX HQ
              generalize l[k + 1 + j]! = y at hCY HQ
              have X0 := Lib.hid hCX
              have x0 := cell_regrown (hCX 0 _ rfl)
              have x1 := cell_regrown (hCX 1 _ rfl)
              have y0 := cell_regrown (hCY 0 _ rfl)
              have y1 := cell_regrown (hCY 1 _ rfl)
              rw [Nat.add_zero] at x0 y0
              have hj3 : (j : Int) + 1 < ((l.length - (k + 1) : Nat) : Int) := by omega
              have hj4 : (j : Int) < ((l.length - (k + 1) : Nat) : Int) := by omega
              have hj5 : (0 : Int) ≤ (j : Int) + 1 := by omega
              have hj6 : ((j : Int) + 1).toNat = j + 1 := by omega
              have hj7 : (j : Int) ≤ 1000000 := by omega
              have hwj : IntKind.i64.wrap (j : Int) = (j : Int) := by rw [IntKind.wrap_i64]; omega
              have H := Below.refl wr.heap.size wr
              replace hsl := Lib.hid hsl
              replace hsd := Lib.hid hsd
              clear hCX hCY hat
              go_upto_region 11 with fail
              cases e1 : x.like y with
              | true =>
                have e2 : (x.k == y.k && x.y == y.y) = true := e1
                have HA2 : Hid (K = 1 ↔ adjK l (k + 1 + (j + 1 + 1))) := by
                  rw [Hid, ← Nat.add_assoc (k + 1) (j + 1) 1, HQ.out, ← HA.out, Bt.like_iff.1 e1]
                  simp
                clear e1 HQ
                refine wp_region_qB (by kernel_rfl) (by kernel_rfl) ?_
                (repeat (first | fail | (apply qB_step; intro K hK; go_simp; first | (refine hK _ ?_; clear hK K) | (apply Exists.intro; refine ⟨fun _ => ?_, hK _ ?_⟩; (first | fail); clear hK K))))
                refine qB_nil ?_
                intro w1 hw1
                replace H := bstep H hw1
                clear hw1
                have HO3 := Lib.hid (HO2.out.below H)
                clear x0 x1 y0 y1 e2 X0
                go_wp2
                go_roundw
                case rel => exact ⟨K, j + 1 + 1, by omega, by omega, by omega, by omega, rfl, by go_num, ⟨s, hsl.out, HD0.out, by rw [← hsl.out]; exact HO3.out⟩, HA2.out, hb.trans (H.mono (Nat.le_trans hBg (Nat.le_of_lt hgw.out)))⟩
                case measure => simp [intOf]; omega
              | false =>
                have e2 : (x.k == y.k && x.y == y.y) = false := e1
                have HA2 : Hid (K + 1 = 1 ↔ adjK l (k + 1 + (j + 1 + 1))) := by
                  rw [Hid, ← Nat.add_assoc (k + 1) (j + 1) 1, HQ.out]
                  refine ⟨fun h => by omega, fun h => ?_⟩
                  rw [Bt.like_iff.2 h.2.symm] at e1
                  cases e1
                clear e1 HQ
                refine wp_region_qB (by kernel_rfl) (by kernel_rfl) ?_
                (repeat (first | fail | (apply qB_step; intro K hK; go_simp; first | (refine hK _ ?_; clear hK K) | (apply Exists.intro; refine ⟨fun _ => ?_, hK _ ?_⟩; (first | fail); clear hK K))))
                refine qB_nil ?_
                intro w1 hw1
                replace H := bstep H hw1
                clear hw1
                have HO3 := Lib.hid (HO2.out.below H)
                have hX := X0.out.below H hgw.out
                clear x0 x1 y0 y1 e2 X0
                have x0 : w1.cell? ⟨g, (k + 1) * 2 + (j + 1) * 2, none⟩ = some (.int .u8 x.k) := hX 0 _ rfl
                have x1 : w1.cell? ⟨g, (k + 1) * 2 + (j + 1) * 2 + 1, none⟩ = some (.int .i16 x.y) := hX 1 _ rfl
                have hKs := Lib.hid (show K < s.length by rw [hsl.out]; exact hKl)
                clear hX
                go_wp2_with (refine wp_store_el rfl rfl _ _ _ rfl _ _ rfl #[.int .u8 x.k, .int .i16 x.y] rfl (own_room HO3.out hKs.out rfl) (infoB _ _) (bv_one _ _) ?_)
                go_roundw
                case rel => exact ⟨K + 1, j + 1 + 1, by omega, by omega, by omega, by omega, by go_num, by go_num, ⟨s.set K x, by rw [List.length_set]; exact hsl.out, HD.out x, by
                  have := putEl_own HO3.out hKs.out (vs := #[.int .u8 x.k, .int .i16 x.y]) rfl
                  show World.ownsRow _ _ _ _ _ _ _
                  rw [List.length_set, fl_set bc_length s K x hKs.out, ← hsl.out]
                  exact this⟩, HA2.out, (hb.trans (H.mono (Nat.le_trans hBg (Nat.le_of_lt hgw.out)))).trans (putEl_below hBg _ _)⟩
                case measure => simp [intOf]; omega
            · obtain rfl : j = l.length - (k + 1) := by omega
              have HF : Hid (K ≤ 1 ↔ alike l = true) := by
                have := HA.out
                rw [show k + 1 + (l.length - (k + 1)) = l.length by omega, adjK_alike] at this
                rw [Hid, ← this]
                omega
              have hKc : ¬ cap = K := by omega
              have hKc2 : K ≤ cap := by omega
              have hKc3 : (K : Int) ≤ (cap : Int) := by omega
              have hKm := Lib.hid (show K + (l.length - K) = l.length by omega)
              have hsl2 := Lib.hid hsl
              clear HA hsd hsl
              go_wp2_with ((with_reducible refine wp_clear_own rfl rfl _ _ rfl 26 Try.underlying54 (.agg #[.int .u8 0, .int .i16 0]) Try.zeroValue26 2 rfl zero_one B g l.length K (l.length - K) cap _ (fl bc s) ?hO hKm.out rfl ?_); (case hO => have h := HO2.out; unfold OwnN at h; rwa [hsl2.out] at h); intro w2 hO2 hb2)
              go_ret
              exact ⟨⟨_, _, _, rfl, HF.out, by omega⟩, hb.trans hb2⟩
      · obtain hk : k + 1 = l.length := by omega
        have HF : Hid (l.length ≤ 1 ↔ alike l = true) := by
          refine ⟨fun h => by omega, fun h => ?_⟩
          exact absurd ((adjK_alike.2 h) 0 (by omega)) (HN.out 0 (by omega))
        rw [hk]
        replace hk := Lib.hid hk
        go_wp2
        go_ret
        exact ⟨⟨_, _, _, rfl, HF.out, hn⟩, hb⟩
theorem pure_any (c : Cr) (w : World) : Calls Try.prog 93 #[cv c] w fun e w' => e = .returned (.bool (alike (allB c))) ∧ Below w.heap.size w w' := by
  have hall := allB_le c
  have hp := alike_perm (sortB_perm (allB c))
  have hS := fun W => sorted_any c W
  have hC := fun B v W h => Compact_bot B v (sortB (allB c)) W h (by rw [sortB_length]; omega)
  rw [hp] at hC
  generalize alike (allB c) = r at hC ⊢
  clear hp hall
  go_enter Try.func93, Try.ntmps93
  go_upto_region 1 with fail
  generalize hW : World.alloc _ _ = W
  have H0 : Below w.heap.size w W := by rw [← hW]; go_grown
  have r0 : rowOf W (w.heap.size) = some ((cc c).toArray) := (by (try rw [← hW]); simp only [rowOf_alloc, World.size_alloc, ↓reduceIte]; all_goals ((repeat' split) <;> first | omega | (exfalso; omega) | rfl))
  clear hW
  have l0 : w.heap.size ≤ w.heap.size := Nat.le_refl _
  generalize h0 : w.heap.size = g0 at r0 ⊢
  replace l0 : w.heap.size ≤ g0 := Nat.le_of_eq h0
  clear h0
  have b0 := rowOf_lt r0
  have H := Below.refl W.heap.size W
  cases r with
  | true =>
    go_wp2_with (first | ((with_reducible refine wp_load_rowBg H ?_ _ _ rfl _ rfl _ r0 _ Try.underlying28 rfl (infoC c) ?_); rfl) | (go_at_call 103; refine (hS _).mono ?_; rintro e w2 ⟨v, rfl, O2, hb⟩; replace O2 := O2.down (bstep H0 H).size; replace H0 := bstep (bstep H0 H) hb; clear H hb) | (go_at_call 131; refine (hC _ _ _ O2).mono ?_; rintro e w3 ⟨⟨A, m, cap, rfl, hm, hml⟩, hb⟩; replace H0 := H0.trans hb; have hm1 : (m : Int) ≤ 1 := (by have : m ≤ 1 := (by simpa using hm); omega)))
    go_ret
    exact ⟨by simp [hm1], H0⟩
  | false =>
    go_wp2_with (first | ((with_reducible refine wp_load_rowBg H ?_ _ _ rfl _ rfl _ r0 _ Try.underlying28 rfl (infoC c) ?_); rfl) | (go_at_call 103; refine (hS _).mono ?_; rintro e w2 ⟨v, rfl, O2, hb⟩; replace O2 := O2.down (bstep H0 H).size; replace H0 := bstep (bstep H0 H) hb; clear H hb) | (go_at_call 131; refine (hC _ _ _ O2).mono ?_; rintro e w3 ⟨⟨A, m, cap, rfl, hm, hml⟩, hb⟩; replace H0 := H0.trans hb; have hm1 : ¬ (m : Int) ≤ 1 := (by have : ¬ m ≤ 1 := (by simpa using hm); omega)))
    go_ret
    exact ⟨by simp [hm1], H0⟩
theorem IsPure_any (c : Cr) (w : World) : Calls Try.prog 44 #[cv c] w fun e w' => e = .returned (.tuple #[.bool (pureR c).1, .int .i64 (pureR c).2]) ∧ Below w.heap.size w w' := by
  go_enter Try.func44, Try.ntmps44
  go_upto_region 1 with fail
  generalize hW : World.alloc _ _ = W
  have H0 : Below w.heap.size w W := by rw [← hW]; go_grown
  have r0 : rowOf W (w.heap.size) = some ((cc c).toArray) := (by (try rw [← hW]); simp only [rowOf_alloc, World.size_alloc, ↓reduceIte]; all_goals ((repeat' split) <;> first | omega | (exfalso; omega) | rfl))
  clear hW
  have l0 : w.heap.size ≤ w.heap.size := Nat.le_refl _
  generalize h0 : w.heap.size = g0 at r0 ⊢
  replace l0 : w.heap.size ≤ g0 := Nat.le_of_eq h0
  clear h0
  have b0 := rowOf_lt r0
  have H := Below.refl W.heap.size W
  cases e1 : c.ok with
  | false =>
    have HF := Lib.hid (show pureR c = (false, 1) by simp [pureR, e1])
    go_wp2_with (first | ((with_reducible refine wp_load_rowBg H ?_ _ _ rfl _ rfl _ r0 _ Try.underlying28 rfl (infoC c) ?_); rfl) | (go_at_call 68; with_reducible refine (ValidCrate_any c _).mono ?_; rintro e w' ⟨rfl, hb⟩; replace H := bstep H hb; clear hb; have hc := bcell H))
    rw [HF.out]
    exact bodyPost_ret (results_tt rfl) rfl ⟨rfl, bstep H0 H⟩
  | true =>
    have HF := Lib.hid (show pureR c = (alike (allB c), 0) by simp [pureR, e1])
    have hP := fun W => pure_any c W
    generalize alike (allB c) = r at HF hP
    go_wp2_with (first | ((with_reducible refine wp_load_rowBg H ?_ _ _ rfl _ rfl _ r0 _ Try.underlying28 rfl (infoC c) ?_); rfl) | (go_at_call 68; with_reducible refine (ValidCrate_any c _).mono ?_; rintro e w' ⟨rfl, hb⟩; replace H := bstep H hb; clear hb; have hc := bcell H) | (go_at_call 93; with_reducible refine (hP _).mono ?_; rintro e w' ⟨rfl, hb⟩; replace H := bstep H hb; clear hb; have hc := bcell H))
    rw [HF.out]
    exact bodyPost_ret (results_tt rfl) rfl ⟨rfl, bstep H0 H⟩
attribute [local go_sem high] eqB
theorem l01Pure_any (g o : Nat) (c : Cr) (w : World) (hC : CAt w g o (cc c)) (hg : g < w.heap.size) :
    Calls Try.prog 92 #[.pointer (some ⟨g, o, none⟩)] w fun e w' => e = .returned (.bool (alike (allB c))) ∧ Below w.heap.size w w' := by
  have hu := Try.underlying26
  have hall := allB_le c
  have hA := l01AllS_any g o c w hC hg
  generalize allB c = l at hall hA ⊢
  clear hC hg
  go_enter Try.func92, Try.ntmps92
  go_wp2_with (go_at_call 65; refine hA.mono ?_; rintro e w2 ⟨v2, rfl, O2, hb⟩)
  obtain ⟨g2, p2, rfl, K2, -⟩ := O2.lies
  replace K2 := Lib.hid K2
  clear O2 hA
  go_loopw [4] (fun i wr => ∃ k : Nat, 1 ≤ k ∧ k ≤ l.length + 1 ∧ i = .int .i64 k ∧ Hid (∀ j, j < k → j < l.length → l[j]! = l[0]!) ∧ Hid (Below w2.heap.size w2 wr)) (fun i _ => l.length + 1 - (intOf i).toNat)
  case atStart => exact ⟨1, Nat.le_refl _, by omega, rfl, (fun j hj _ => by rw [show j = 0 by omega]), Below.refl _ _⟩
  case round =>
    obtain ⟨k, hk1, hk2, rfl, HA, HB⟩ := hrel
    by_cases hlt : k < l.length
    · have hK := K2.out.below HB.out
      have hCX := hK.c.el bc_length hlt
      have hCY := hK.c.el bc_length (i := 0) (by omega)
      rw [Nat.zero_add] at hCX hCY
      have HY : Hid (l[k]! = l[0]! → ∀ j, j < k + 1 → j < l.length → l[j]! = l[0]!) := fun h j h1 h2 => by
        rcases Nat.lt_or_ge j k with q | q
        · exact HA.out j q h2
        · rw [show j = k by omega]
          exact h
      have HN : Hid (l[k]! ≠ l[0]! → alike l = false) := fun h => by
        rw [← Bool.not_eq_true, alike_iff]
        intro h'
        exact h (h' _ (by rw [getB hlt]; exact List.getElem_mem hlt))
      generalize l[k]! = x at hCX HY HN
      generalize l[0]! = y at hCY HY HN HA
      have x0 := cell_regrown (hCX 0 _ rfl)
      have x1 := cell_regrown (hCX 1 _ rfl)
      have y0 := cell_regrown (hCY 0 _ rfl)
      have y1 := cell_regrown (hCY 1 _ rfl)
      rw [Nat.add_zero] at x0 y0
      rw [Nat.zero_mul, Nat.zero_add] at y1
      rw [Nat.zero_mul] at y0
      have hlt2 : (k : Int) < (l.length : Int) := by omega
      have hl0 : (0 : Int) < (l.length : Int) := by omega
      have hl1 : 0 < l.length := by omega
      have hk3 : (k : Int) ≤ 12 := by omega
      have H := Below.refl wr.heap.size wr
      clear hCX hCY hK
      go_upto_region 5 with fail
      cases e1 : x.like y with
      | true =>
        have e2 : (x.k == y.k && x.y == y.y) = true := e1
        have HY2 := Lib.hid (HY.out (Bt.like_iff.1 e1))
        clear e1 HY HN
        refine wp_region_qB (by kernel_rfl) (by kernel_rfl) ?_
        (repeat (first | fail | (apply qB_step; intro K hK; go_simp; first | (refine hK _ ?_; clear hK K) | (apply Exists.intro; refine ⟨fun _ => ?_, hK _ ?_⟩; (first | fail); clear hK K))))
        refine qB_nil ?_
        intro w1 hw1
        replace H := bstep H hw1
        clear hw1
        go_wp2
        go_roundw
        case rel => exact ⟨k + 1, by omega, by omega, by go_num, HY2.out, bstep HB.out H⟩
        case measure => simp [intOf]; omega
      | false =>
        have e2 : (x.k == y.k && x.y == y.y) = false := e1
        have HN2 := Lib.hid (HN.out (fun h => by rw [Bt.like_iff.2 h] at e1; cases e1))
        clear e1 HY HN
        refine wp_region_qB (by kernel_rfl) (by kernel_rfl) ?_
        (repeat (first | fail | (apply qB_step; intro K hK; go_simp; first | (refine hK _ ?_; clear hK K) | (apply Exists.intro; refine ⟨fun _ => ?_, hK _ ?_⟩; (first | fail); clear hK K))))
        refine qB_nil ?_
        intro w1 hw1
        replace H := bstep H hw1
        clear hw1
        go_wp2
        go_ret
        exact ⟨ret_bool HN2.out.symm, bstep hb (bstep HB.out H)⟩
    · have HF : Hid (alike l = true) := by
        rw [Hid, alike_iff]
        intro x hx
        obtain ⟨j, hj, rfl⟩ := List.getElem_of_mem hx
        rw [← getB hj]
        exact HA.out j (by omega) hj
      have hlt2 : ¬ (k : Int) < (l.length : Int) := by omega
      go_wp2
      go_ret
      exact ⟨ret_bool HF.out.symm, bstep hb HB.out⟩
theorem sIsPure_any (c : Cr) (w : World) : Calls Try.prog 43 #[cv c] w fun e w' => e = .returned (.tuple #[.bool (pureR c).1, .int .i64 (pureR c).2]) ∧ Below w.heap.size w w' := by
  go_enter Try.func43, Try.ntmps43
  go_upto_region 1 with fail
  generalize hW : World.alloc _ _ = W
  have H0 : Below w.heap.size w W := by rw [← hW]; go_grown
  have r0 : rowOf W (w.heap.size) = some ((cc c).toArray) := (by (try rw [← hW]); simp only [rowOf_alloc, World.size_alloc, ↓reduceIte]; all_goals ((repeat' split) <;> first | omega | (exfalso; omega) | rfl))
  clear hW
  have l0 : w.heap.size ≤ w.heap.size := Nat.le_refl _
  generalize h0 : w.heap.size = g0 at r0 ⊢
  replace l0 : w.heap.size ≤ g0 := Nat.le_of_eq h0
  clear h0
  have b0 := rowOf_lt r0
  have H := Below.refl W.heap.size W
  cases e1 : c.ok with
  | false =>
    have HF := Lib.hid (show pureR c = (false, 1) by simp [pureR, e1])
    go_wp2_with (go_at_call 64; with_reducible refine (l01Ok_row H r0).mono ?_; rintro e w' ⟨rfl, hb⟩; replace H := bstep H hb; clear hb; have hc := bcell H)
    rw [HF.out]
    exact bodyPost_ret (results_tt rfl) rfl ⟨rfl, bstep H0 H⟩
  | true =>
    have HF := Lib.hid (show pureR c = (alike (allB c), 0) by simp [pureR, e1])
    have hP := fun W h h' => l01Pure_any g0 0 c W h h'
    generalize alike (allB c) = r at HF hP
    go_wp2_with (first | (go_at_call 64; with_reducible refine (l01Ok_row H r0).mono ?_; rintro e w' ⟨rfl, hb⟩; replace H := bstep H hb; clear hb; have hc := bcell H) | (go_at_call 92; with_reducible refine (hP _ (CAt.of_row (row_kept r0 H)) (Nat.lt_of_lt_of_le b0 H.size)).mono ?_; rintro e w' ⟨rfl, hb⟩; replace H := bstep H hb; clear hb; have hc := bcell H))
    rw [HF.out]
    exact bodyPost_ret (results_tt rfl) rfl ⟨rfl, bstep H0 H⟩
end Go.Proofs.Ytnhpgahapjjjbaa
