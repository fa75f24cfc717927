/- Texts of the claim, joined (13 of 19): Take, TextP, CrTP, FldP, RdCP, Greedy, Fewest. -/
import Derived.Lib.ItoaNum
import Derived.Lib.ParseIntB
import Derived.Lib.IndexMore
import Derived.Shelf.Strings.FieldsAny
import Derived.Laws.RangeString
import Derived.Test.YtbngpcghognojaaGreatDoorBC1
import Derived.Test.YtbngpcghognojaaGreatDoorBC2
import Derived.Test.YtbngpcghognojaaGreatDoorBC4
import Derived.Test.YtbngpcghognojaaGreatDoorBC6
import Derived.Test.YtbngpcghognojaaGreatDoorBC11
namespace Go.Proofs.YtbngpcghognojaaGreatDoor
open Go.RowKit
set_option linter.unusedVariables false
set_option linter.unusedSimpArgs false
set_option maxRecDepth 100000
set_option maxHeartbeats 1000000
/-- What TakeBottle comes to. -/
def takeR (c : Cr) (p : Int) : Cr × Bt × Int :=
  if c.ok = false then (zC, zB, 1) else if (decide (0 ≤ p) && decide (p ≤ 11)) = false then (zC, zB, 2) else if (rB c.toList p.toNat).em = true then (zC, zB, 6) else (setC c p.toNat zB, rB c.toList p.toNat, 0)
attribute [local go_sem high] eqB
theorem TakeBottle_any (c : Cr) (p : Int) (w : World) : Calls Tryz.prog 26 #[cv c, .int .i64 p] w fun e w' => e = .returned (.tuple #[cv (takeR c p).1, bv (takeR c p).2.1, .int .i64 (takeR c p).2.2]) ∧ Below w.heap.size w w' := by
  go_enter Tryz.func26, Tryz.ntmps26
  go_upto_region 1 with fail
  generalize hW : World.alloc _ _ = W
  have H0 : Below w.heap.size w W := by rw [← hW]; go_grown
  have r0 : rowOf W (w.heap.size) = some ((cc c).toArray) := (by (try rw [← hW]); simp only [rowOf_alloc, World.size_alloc, ↓reduceIte]; all_goals ((repeat' split) <;> first | omega | (exfalso; omega) | rfl))
  have r1 : rowOf W (w.heap.size + 1) = some ((cc zC).toArray) := (by (try rw [← hW]); simp only [rowOf_alloc, World.size_alloc, ↓reduceIte]; all_goals ((repeat' split) <;> first | omega | (exfalso; omega) | rfl))
  have r2 : rowOf W (w.heap.size + 1 + 1) = some (#[.int .u8 0, .int .i16 0]) := (by (try rw [← hW]); simp only [rowOf_alloc, World.size_alloc, ↓reduceIte]; all_goals ((repeat' split) <;> first | omega | (exfalso; omega) | rfl))
  clear hW
  have q0 : w.heap.size < w.heap.size + 1 := by omega
  have q1 : w.heap.size + 1 < w.heap.size + 1 + 1 := by omega
  have l0 : w.heap.size ≤ w.heap.size := Nat.le_refl _
  generalize w.heap.size + 1 + 1 = g2 at r2 q1 ⊢
  generalize w.heap.size + 1 = g1 at r1 q0 q1 ⊢
  generalize h0 : w.heap.size = g0 at r0 q0 ⊢
  replace l0 : w.heap.size ≤ g0 := Nat.le_of_eq h0
  clear h0
  have b0 := rowOf_lt r0
  have b1 := rowOf_lt r1
  have b2 := rowOf_lt r2
  have H := Below.refl W.heap.size W
  have hu := Tryz.underlying26
  cases e1 : c.ok with
  | false =>
    have HF := Lib.hid (show takeR c p = (zC, zB, 1) by simp [takeR, e1])
    go_wp2_with (first | ((with_reducible refine wp_load_rowBg H ?_ _ _ rfl _ rfl _ r0 _ Tryz.underlying28 rfl (infoC c) ?_); rfl) | (go_at_call 18; with_reducible refine (ValidCrate_any c _).mono ?_; rintro e w' ⟨rfl, hb⟩; replace H := bstep H hb; clear hb; have hc := bcell H) | (go_at_call 82; with_reducible refine (isPlace_any _ _).mono ?_; rintro e w' ⟨rfl, rfl⟩) | (go_at_call 81; with_reducible refine (codeOf_any _ _ _).mono ?_; rintro e w' ⟨rfl, rfl⟩) | (with_reducible refine wp_store_zeroB H rfl rfl _ _ rfl _ rfl rfl _ r1 ?_) | ((with_reducible refine wp_store_rowOf rfl rfl _ _ _ rfl _ rfl #[.int .u8 0, .int .i16 0] rfl #[.int .u8 0, .int .i16 0] ?hr rfl (infoB _ _) (bv_one _ _) ?_); (case hr => rw [rowOf_setRow, if_neg (by omega)]; exact row_kept r2 H)))
    rw [HF.out]
    obtain ⟨t1, t2, t3⟩ := two_rows (A := (cc zC).toArray) (B := #[.int .u8 0, .int .i16 0]) H0 H r1 r2 (by omega) (by omega)
    exact bodyPost_ret (results_cct rfl rfl rfl (loadVar_rowOf _ t1 _ Tryz.underlying28 rfl (infoC _)) (loadVar_rowOf _ t2 _ Tryz.underlying26 rfl (infoB _ _))) rfl ⟨rfl, t3⟩
  | true =>
    cases h2 : decide (0 ≤ p) && decide (p ≤ 11) with
    | false =>
      have HF := Lib.hid (show takeR c p = (zC, zB, 2) by simp only [takeR, e1, h2]; rfl)
      go_wp2_with (first | ((with_reducible refine wp_load_rowBg H ?_ _ _ rfl _ rfl _ r0 _ Tryz.underlying28 rfl (infoC c) ?_); rfl) | (go_at_call 18; with_reducible refine (ValidCrate_any c _).mono ?_; rintro e w' ⟨rfl, hb⟩; replace H := bstep H hb; clear hb; have hc := bcell H) | (go_at_call 82; with_reducible refine (isPlace_any _ _).mono ?_; rintro e w' ⟨rfl, rfl⟩) | (go_at_call 81; with_reducible refine (codeOf_any _ _ _).mono ?_; rintro e w' ⟨rfl, rfl⟩) | (with_reducible refine wp_store_zeroB H rfl rfl _ _ rfl _ rfl rfl _ r1 ?_) | ((with_reducible refine wp_store_rowOf rfl rfl _ _ _ rfl _ rfl #[.int .u8 0, .int .i16 0] rfl #[.int .u8 0, .int .i16 0] ?hr rfl (infoB _ _) (bv_one _ _) ?_); (case hr => rw [rowOf_setRow, if_neg (by omega)]; exact row_kept r2 H)))
      rw [HF.out]
      obtain ⟨t1, t2, t3⟩ := two_rows (A := (cc zC).toArray) (B := #[.int .u8 0, .int .i16 0]) H0 H r1 r2 (by omega) (by omega)
      exact bodyPost_ret (results_cct rfl rfl rfl (loadVar_rowOf _ t1 _ Tryz.underlying28 rfl (infoC _)) (loadVar_rowOf _ t2 _ Tryz.underlying26 rfl (infoB _ _))) rfl ⟨rfl, t3⟩
    | true =>
      obtain ⟨k, rfl⟩ := Int.eq_ofNat_of_zero_le (show 0 ≤ p by simp at h2; exact h2.1)
      have hk : k < 12 := by simp at h2; omega
      have hk1 : (k : Int) ≤ 11 := by omega
      have hkl : k < c.toList.length := by rw [Vector.length_toList]; exact hk
      have x0 := row0 r0 hkl
      have x1 := row1 r0 hkl
      have HF := Lib.hid (show takeR c k = if (rB c.toList k).em = true then (zC, zB, 6) else (setC c k zB, rB c.toList k, 0) by simp only [takeR, e1, h2]; rfl)
      have HKL := Lib.hid hkl
      clear hkl
      generalize rB c.toList k = b at x0 x1 HF
      go_upto_region 5 with (first | (go_at_call 18; with_reducible refine (ValidCrate_any c _).mono ?_; rintro e w' ⟨rfl, hb⟩; replace H := bstep H hb; clear hb; have hc := bcell H) | (go_at_call 82; with_reducible refine (isPlace_any _ _).mono ?_; rintro e w' ⟨rfl, rfl⟩) | (go_at_call 81; with_reducible refine (codeOf_any _ _ _).mono ?_; rintro e w' ⟨rfl, rfl⟩) | ((with_reducible refine wp_load_rowBg H ?_ _ _ rfl _ rfl _ r0 _ Tryz.underlying28 rfl (infoC c) ?_); rfl) | ((with_reducible refine wp_store_rowOf rfl rfl _ _ _ rfl _ rfl (#[.int .u8 b.k, .int .i16 b.y] : Array Value) rfl #[.int .u8 0, .int .i16 0] ?hr rfl (infoB _ _) (bv_one _ _) ?_); (case hr => rw [rowOf_alloc, if_pos rfl])))
      clear hc x0 x1
      generalize hW3 : World.setRow _ _ _ = W3
      obtain ⟨HB, r3, b3⟩ := laid_row H hW3
      clear hW3
      have qr03 := Nat.lt_of_lt_of_le (rowOf_lt r0) H.size
      replace r0 := row_kept r0 HB
      have qr13 := Nat.lt_of_lt_of_le (rowOf_lt r1) H.size
      replace r1 := row_kept r1 HB
      have qr23 := Nat.lt_of_lt_of_le (rowOf_lt r2) H.size
      replace r2 := row_kept r2 HB
      replace H0 := bstep H0 HB
      replace H := below_self HB
      generalize w'.heap.size = g3 at *
      cases e3 : b.em with
      | true =>
        have e4 : (b.k == 0 && b.y == 0) = true := e3
        have HF' := Lib.hid (HF.out.trans (if_pos e3))
        clear e3 HF
        go_wp2_with (first | ((with_reducible refine wp_load_rowBg H ?_ _ _ rfl _ rfl _ r3 _ Tryz.underlying26 rfl (infoB _ _) ?_); rfl) | (with_reducible refine wp_store_zeroB H rfl rfl _ _ rfl _ rfl rfl _ r1 ?_) | ((with_reducible refine wp_store_rowOf rfl rfl _ _ _ rfl _ rfl #[.int .u8 0, .int .i16 0] rfl #[.int .u8 0, .int .i16 0] ?hr rfl (infoB _ _) (bv_one _ _) ?_); (case hr => rw [rowOf_setRow, if_neg (by omega)]; exact row_kept r2 H)))
        rw [HF'.out]
        obtain ⟨t1, t2, t3⟩ := two_rows (A := (cc zC).toArray) (B := #[.int .u8 0, .int .i16 0]) H0 H r1 r2 (by omega) (by omega)
        exact bodyPost_ret (results_cct rfl rfl rfl (loadVar_rowOf _ t1 _ Tryz.underlying28 rfl (infoC _)) (loadVar_rowOf _ t2 _ Tryz.underlying26 rfl (infoB _ _))) rfl ⟨rfl, t3⟩
      | false =>
        have e4 : (b.k == 0 && b.y == 0) = false := e3
        have HF' := Lib.hid (HF.out.trans (if_neg (by rw [e3]; simp)))
        clear e3 HF
        have f0 := rowOf_frozen r0 (k * 2)
        have f1 := rowOf_frozen r0 (k * 2 + 1)
        have y0 := row0 r0 HKL.out
        have y1 := row1 r0 HKL.out
        generalize rB c.toList k = b' at y0 y1
        go_upto_region 8 with (first | ((with_reducible refine wp_load_rowBg H ?_ _ _ rfl _ rfl _ r3 _ Tryz.underlying26 rfl (infoB _ _) ?_); rfl))
        have s0 : rowOf ((W3.setCell ⟨g0, k * 2, none⟩ (.int .u8 0)).setCell ⟨g0, k * 2 + 1, none⟩ (.int .i16 0)) g0 = some (bcs (c.toList.set k zB)).toArray := row_put zB r0 HKL.out
        have s1 : rowOf ((W3.setCell ⟨g0, k * 2, none⟩ (.int .u8 0)).setCell ⟨g0, k * 2 + 1, none⟩ (.int .i16 0)) g1 = some (cc zC).toArray := by rw [row_far (by omega), row_far (by omega), r1]
        have s2 : rowOf ((W3.setCell ⟨g0, k * 2, none⟩ (.int .u8 0)).setCell ⟨g0, k * 2 + 1, none⟩ (.int .i16 0)) g2 = some (#[.int .u8 0, .int .i16 0] : Array Value) := by rw [row_far (by omega), row_far (by omega), r2]
        have s3 : rowOf ((W3.setCell ⟨g0, k * 2, none⟩ (.int .u8 0)).setCell ⟨g0, k * 2 + 1, none⟩ (.int .i16 0)) g3 = some (#[.int .u8 b.k, .int .i16 b.y] : Array Value) := by rw [row_far (by omega), row_far (by omega), r3]
        have H1 : Below w.heap.size w ((W3.setCell ⟨g0, k * 2, none⟩ (.int .u8 0)).setCell ⟨g0, k * 2 + 1, none⟩ (.int .i16 0)) := (H0.setCell (by show _ ≤ g0; omega) _).setCell (by show _ ≤ g0; omega) _
        clear H r0 r1 r2 r3 y0 y1 f0 f1 HB
        generalize (W3.setCell ⟨g0, k * 2, none⟩ (.int .u8 0)).setCell ⟨g0, k * 2 + 1, none⟩ (.int .i16 0) = W4 at *
        replace s0 : rowOf W4 g0 = some (cc (setC c k zB)).toArray := s0
        have H := (Below.refl W4.heap.size W4).drew
        have n3 : rowOf ((World.drew W4).setRow g1 (cc (setC c k zB)).toArray) g3 = some (#[.int .u8 b.k, .int .i16 b.y] : Array Value) := by rw [rowOf_setRow, if_neg (by omega)]; exact s3
        have n2 : rowOf ((World.drew W4).setRow g1 (cc (setC c k zB)).toArray) g2 = some (#[.int .u8 0, .int .i16 0] : Array Value) := by rw [rowOf_setRow, if_neg (by omega)]; exact s2
        refine wp_region_five (by kernel_rfl) (by kernel_rfl) (Steps.load rfl _ _ rfl g0 rfl _ s0 _ Tryz.underlying28 rfl (infoC (setC c k zB))) (Steps.load rfl _ _ rfl g3 rfl _ s3 _ Tryz.underlying26 rfl (infoB _ _)) (Steps.load rfl _ _ rfl g3 rfl _ s3 _ Tryz.underlying26 rfl (infoB _ _)) (Steps.load rfl _ _ rfl g0 rfl _ s0 _ Tryz.underlying28 rfl (infoC (setC c k zB))) (Steps.store rfl rfl _ _ _ rfl g1 rfl _ rfl _ s1 (cc_size2 _ _) (infoC (setC c k zB)) (cc_one (setC c k zB))) (Steps.store rfl rfl _ _ _ rfl g1 rfl _ rfl _ s1 (cc_size2 _ _) (infoC (setC c k zB)) (cc_one (setC c k zB))) (Steps.load rfl _ _ rfl g3 rfl _ n3 _ Tryz.underlying26 rfl (infoB _ _)) (Steps.store rfl rfl _ _ _ rfl g2 rfl (#[.int .u8 b.k, .int .i16 b.y] : Array Value) rfl _ n2 rfl (infoB _ _) (bv_one _ _)) (by exact Steps.assign rfl _ rfl) ?_
        go_wp2
        rw [HF'.out]
        replace H0 := H1
        obtain ⟨t1, t2, t3⟩ := two_rows (A := (cc (setC c k zB)).toArray) (B := #[.int .u8 b.k, .int .i16 b.y]) H0 H s1 s2 (by omega) (by omega)
        exact bodyPost_ret (results_cct rfl rfl rfl (loadVar_rowOf _ t1 _ Tryz.underlying28 rfl (infoC _)) (loadVar_rowOf _ t2 _ Tryz.underlying26 rfl (infoB _ _))) rfl ⟨rfl, t3⟩
end Go.Proofs.YtbngpcghognojaaGreatDoor
namespace Go.Proofs.YtbngpcghognojaaGreatDoor
open Go Go.Lib
set_option linter.unusedVariables false
set_option linter.unusedSimpArgs false
set_option maxRecDepth 100000
/-! ### Numerals -/
def isD (c : UInt8) : Bool := decide (48 ≤ c.toNat) && decide (c.toNat ≤ 57)
theorem isD_iff {c : UInt8} : isD c = true ↔ 48 ≤ c.toNat ∧ c.toNat ≤ 57 := by simp [isD]
def valF (a : Nat) (l : List UInt8) : Nat := l.foldl (fun a c => a * 10 + (c.toNat - 48)) a
def valD (l : List UInt8) : Nat := valF 0 l
theorem valF_snoc (a : Nat) (l : List UInt8) (c : UInt8) : valF a (l ++ [c]) = valF a l * 10 + (c.toNat - 48) := by simp [valF]
theorem valF_cons (a : Nat) (l : List UInt8) (c : UInt8) : valF a (c :: l) = valF (a * 10 + (c.toNat - 48)) l := by unfold valF; rw [List.foldl_cons]
theorem valF_le : ∀ (l : List UInt8) (a : Nat), a ≤ valF a l
  | [], a => Nat.le_refl _
  | c :: l, a => by
    have := valF_le l (a * 10 + (c.toNat - 48))
    rw [valF_cons]
    omega
/-- A numeral without needless zeros. -/
def canon (l : List UInt8) : Bool := decide (l ≠ []) && (l.all isD && (decide (l.length = 1) || decide (l.head? ≠ some 48)))
theorem canon_iff {l : List UInt8} : canon l = true ↔ l ≠ [] ∧ (∀ c ∈ l, isD c = true) ∧ (l.length = 1 ∨ l.head? ≠ some 48) := by
  simp [canon]
theorem u8_ofNat {n : Nat} (h : n < 256) : (UInt8.ofNat n).toNat = n := by simp [Nat.mod_eq_of_lt h]
theorem u8_back {c : UInt8} (h : 48 ≤ c.toNat) : UInt8.ofNat (48 + (c.toNat - 48)) = c := by
  rw [show 48 + (c.toNat - 48) = c.toNat by omega]
  simp
theorem canon_pos {c : UInt8} {l : List UInt8} (hd : isD c = true) (h : c ≠ 48) : 1 ≤ valD (c :: l) := by
  have := valF_le l (0 * 10 + (c.toNat - 48))
  rw [isD_iff] at hd
  have hne : c.toNat ≠ 48 := fun e => h (UInt8.toNat_inj.1 (by rw [e]; rfl))
  unfold valD
  rw [valF_cons]
  omega
theorem dec_all (n : Nat) : (decDigits n ≠ [] ∧ ∀ c ∈ decDigits n, isD c = true) ∧ valD (decDigits n) = n ∧ ((decDigits n).length = 1 ∨ (decDigits n).head? ≠ some 48) := by
  induction n using Nat.strongRecOn with
  | _ n ih =>
    by_cases h : n < 10
    · have e : decDigits n = [UInt8.ofNat (48 + n)] := by rw [decDigits, dif_pos h]
      have hc : (UInt8.ofNat (48 + n)).toNat = 48 + n := u8_ofNat (by omega)
      rw [e]
      refine ⟨⟨by simp, fun c hc' => ?_⟩, ?_, .inl rfl⟩
      · obtain rfl := List.mem_singleton.1 hc'
        rw [isD_iff, hc]
        omega
      · show 0 * 10 + ((UInt8.ofNat (48 + n)).toNat - 48) = n
        rw [hc]
        omega
    · have e : decDigits n = decDigits (n / 10) ++ [UInt8.ofNat (48 + n % 10)] := by rw [decDigits, dif_neg h]
      have hc : (UInt8.ofNat (48 + n % 10)).toNat = 48 + n % 10 := u8_ofNat (by omega)
      obtain ⟨⟨i1, i2⟩, i3, i4⟩ := ih (n / 10) (by omega)
      rw [e]
      refine ⟨⟨by simp, fun c hc' => ?_⟩, ?_, .inr ?_⟩
      · rcases List.mem_append.1 hc' with q | q
        · exact i2 c q
        · obtain rfl := List.mem_singleton.1 q
          rw [isD_iff, hc]
          omega
      · unfold valD at i3 ⊢
        rw [valF_snoc, i3, hc]
        omega
      · cases hl : decDigits (n / 10) with
        | nil => exact absurd hl i1
        | cons c r =>
          rw [hl] at i3 i4
          rcases i4 with q | q
          · obtain rfl : r = [] := by simpa using q
            intro hh
            obtain rfl : c = 48 := by simpa using hh
            have : (0 : Nat) = n / 10 := i3
            omega
          · simpa using q
theorem dec_canon (n : Nat) : canon (decDigits n) = true := canon_iff.2 ⟨(dec_all n).1.1, (dec_all n).1.2, (dec_all n).2.2⟩
theorem dec_val (n : Nat) : valD (decDigits n) = n := (dec_all n).2.1
theorem canon_dec : ∀ (k : Nat) (l : List UInt8), l.length = k → canon l = true → decDigits (valD l) = l
  | 0, l, hl, h => by
    obtain rfl := List.length_eq_zero_iff.1 hl
    simp [canon] at h
  | k + 1, l, hl, h => by
    obtain ⟨h1, h2, h3⟩ := canon_iff.1 h
    obtain ⟨l', c, rfl⟩ : ∃ l' c, l = l' ++ [c] := ⟨l.dropLast, l.getLast h1, (List.dropLast_concat_getLast h1).symm⟩
    have hc := isD_iff.1 (h2 c (by simp))
    cases hl' : l' with
    | nil =>
      subst hl'
      have e : valD [c] = c.toNat - 48 := by show 0 * 10 + (c.toNat - 48) = _; omega
      rw [List.nil_append, e, decDigits, dif_pos (by omega), u8_back hc.1]
    | cons x r =>
      have hx : x ≠ 48 := by
        subst hl'
        rcases h3 with q | q
        · simp at q
        · intro e
          subst e
          simp at q
      have hcan : canon (x :: r) = true := by
        subst hl'
        exact canon_iff.2 ⟨by simp, fun d hd => h2 d (List.mem_append_left _ hd), .inr (by simpa using hx)⟩
      have ih := canon_dec k (x :: r) (by rw [← hl']; simp at hl; exact hl) hcan
      have hp := canon_pos (l := r) (h2 x (by subst hl'; simp)) hx
      have hv : valD (x :: r ++ [c]) = valD (x :: r) * 10 + (c.toNat - 48) := valF_snoc _ _ _
      rw [hv, decDigits, dif_neg (by omega), show (valD (x :: r) * 10 + (c.toNat - 48)) / 10 = valD (x :: r) by omega, show (valD (x :: r) * 10 + (c.toNat - 48)) % 10 = c.toNat - 48 by omega, ih, u8_back hc.1]
theorem canon_back {l : List UInt8} (h : canon l = true) : decDigits (valD l) = l := canon_dec _ l rfl h
theorem canon_len {l : List UInt8} (h : canon l = true) (hv : valD l < 1000000000) : l.length ≤ 9 := by
  rw [← canon_back h, decDigits_length]
  apply Classical.byContradiction
  intro hn
  have h1 : ∀ k n, k < nDigits n → 10 ^ k ≤ n ∨ k = 0 := by
    intro k
    induction k with
    | zero => intro n _; exact .inr rfl
    | succ k ih =>
      intro n hk
      left
      by_cases hs : n < 10
      · rw [nDigits_small hs] at hk; omega
      · rw [nDigits_big hs] at hk
        rcases ih (n / 10) (by omega) with q | q
        · rw [Nat.pow_succ]; omega
        · subst q; rw [Nat.zero_add, Nat.pow_one]; omega
  rcases h1 9 (valD l) (by omega) with q | q
  · omega
  · cases q
/-- A number of at most nine digits. -/
def numR (l : List UInt8) : Int × Bool := if (canon l && decide (l.length ≤ 9)) = true then ((valD l : Int), true) else (0, false)
theorem parseM_ok : ∀ (l : List UInt8) (a : Nat), (∀ c ∈ l, isD c = true) → valF a l < 9223372036854775808 → parseUintM (2 ^ 64 - 1) a l = .ok (valF a l)
  | [], a, _, _ => rfl
  | c :: l, a, hd, hv => by
    have hc := isD_iff.1 (hd c (List.mem_cons_self ..))
    rw [valF_cons] at hv ⊢
    have := valF_le l (a * 10 + (c.toNat - 48))
    rw [parseUintM, if_pos hc, if_neg (by omega), if_neg (by omega)]
    exact parseM_ok l _ (fun d h => hd d (List.mem_cons_of_mem _ h)) hv
theorem parse_ok {l : List UInt8} (h : canon l = true) (hv : valD l < 9223372036854775808) : parseIntB 64 l = .ok (valD l : Int) := by
  obtain ⟨h1, h2, _⟩ := canon_iff.1 h
  match l, h1, h2, hv with
  | c :: r, _, h2, hv =>
    have hc := isD_iff.1 (h2 c (List.mem_cons_self ..))
    have h43 : ¬ (c.toNat = 43 ∨ c.toNat = 45) := by omega
    have h45 : ¬ c.toNat = 45 := by omega
    have hp := parseM_ok (c :: r) 0 h2 hv
    unfold parseIntB
    simp only [if_neg h43, h45, parseUintB, reduceCtorEq, if_false, hp]
    have hv' : valF 0 (c :: r) < 9223372036854775808 := hv
    have e : ¬ (2 ^ (64 - 1) ≤ valF 0 (c :: r)) := by
      show ¬ 9223372036854775808 ≤ _
      omega
    have h43a : ¬ c.toNat = 43 := by omega
    have hp2 : parseUintM 18446744073709551615 0 (c :: r) = .ok (valF 0 (c :: r)) := hp
    have e2 : ¬ 9223372036854775808 ≤ valF 0 (c :: r) := by omega
    simp [h43a, hp2, e2]
    rfl
/-- A number of a range, told in decimal. -/
def rdR (lo hi : Nat) (l : List UInt8) : Bool := canon l && (decide (lo ≤ valD l) && decide (valD l ≤ hi))
theorem rdR_iff {lo hi : Nat} {l : List UInt8} (hh : hi < 9223372036854775808) : rdR lo hi l = true ↔ ∃ v : Int, parseIntB 64 l = .ok v ∧ itoa v = l ∧ (lo : Int) ≤ v ∧ v ≤ (hi : Int) := by
  constructor
  · intro h
    simp only [rdR, Bool.and_eq_true, decide_eq_true_iff] at h
    refine ⟨(valD l : Int), parse_ok h.1 (by omega), ?_, by omega, by omega⟩
    unfold itoa
    rw [if_neg (by omega), Int.toNat_natCast]
    exact canon_back h.1
  · rintro ⟨v, h1, h2, h3, h4⟩
    have e : itoa v = decDigits v.toNat := by unfold itoa; rw [if_neg (by omega)]
    rw [e] at h2
    have hv := dec_val v.toNat
    have hc := dec_canon v.toNat
    rw [h2] at hv hc
    simp only [rdR, Bool.and_eq_true, decide_eq_true_iff]
    exact ⟨hc, by omega, by omega⟩
/-! ### Pieces -/
def preS (a : List UInt8) : List (List UInt8) → List (List UInt8)
  | [] => [a]
  | p :: ps => (a ++ p) :: ps
/-- A text split at a byte. -/
def spl (s : UInt8) : List UInt8 → List (List UInt8)
  | [] => [[]]
  | c :: l => if c = s then [] :: spl s l else preS [c] (spl s l)
theorem spl_ne (s : UInt8) : ∀ l, spl s l ≠ []
  | [] => by simp [spl]
  | c :: l => by
    rw [spl]
    split
    · simp
    · cases spl s l <;> simp [preS]
theorem preS_nil {ps : List (List UInt8)} (h : ps ≠ []) : preS [] ps = ps := by
  cases ps with
  | nil => exact absurd rfl h
  | cons p ps => rfl
theorem preS_app (a b : List UInt8) {ps : List (List UInt8)} (h : ps ≠ []) : preS a (preS b ps) = preS (a ++ b) ps := by
  cases ps with
  | nil => exact absurd rfl h
  | cons p ps => simp [preS]
/-- Texts with a byte between them. -/
def intc (s : UInt8) : List (List UInt8) → List UInt8
  | [] => []
  | [p] => p
  | p :: q :: ps => p ++ s :: intc s (q :: ps)
theorem intc_pre (s : UInt8) (a : List UInt8) : ∀ {ps : List (List UInt8)}, ps ≠ [] → intc s (preS a ps) = a ++ intc s ps
  | [], h => absurd rfl h
  | [p], _ => rfl
  | p :: q :: ps, _ => by simp [preS, intc]
theorem intc_spl (s : UInt8) : ∀ l, intc s (spl s l) = l
  | [] => rfl
  | c :: l => by
    have ih := intc_spl s l
    have hne := spl_ne s l
    rw [spl]
    split
    · rename_i h
      subst h
      cases hs : spl c l with
      | nil => exact absurd hs hne
      | cons p ps =>
        rw [hs] at ih
        show [] ++ c :: intc c (p :: ps) = _
        rw [ih]
        rfl
    · rw [intc_pre s [c] hne, ih]
      rfl
theorem spl_mem (s : UInt8) : ∀ (l : List UInt8), ∀ p ∈ spl s l, s ∉ p
  | [], p, hp => by
    obtain rfl : p = [] := by simpa [spl] using hp
    simp
  | c :: l, p, hp => by
    rw [spl] at hp
    split at hp
    · rcases List.mem_cons.1 hp with rfl | hp
      · simp
      · exact spl_mem s l p hp
    · rename_i h
      cases hs : spl s l with
      | nil => exact absurd hs (spl_ne s l)
      | cons q ps =>
        rw [hs] at hp
        rcases List.mem_cons.1 hp with rfl | hp
        · have := spl_mem s l q (by rw [hs]; exact List.mem_cons_self ..)
          intro hm
          rcases List.mem_cons.1 hm with e | e
          · exact h e.symm
          · exact this e
        · exact spl_mem s l p (by rw [hs]; exact List.mem_cons_of_mem _ hp)
theorem spl_app {s : UInt8} : ∀ {a : List UInt8} (b : List UInt8), s ∉ a → spl s (a ++ s :: b) = a :: spl s b
  | [], b, _ => by rw [List.nil_append, spl, if_pos rfl]
  | c :: a, b, h => by
    have h1 : c ≠ s := fun e => h (by rw [e]; exact List.mem_cons_self ..)
    rw [List.cons_append, spl, if_neg h1, spl_app b (fun q => h (List.mem_cons_of_mem _ q))]
    rfl
theorem spl_one {s : UInt8} : ∀ {a : List UInt8}, s ∉ a → spl s a = [a]
  | [], _ => rfl
  | c :: a, h => by
    have h1 : c ≠ s := fun e => h (by rw [e]; exact List.mem_cons_self ..)
    rw [spl, if_neg h1, spl_one (fun q => h (List.mem_cons_of_mem _ q))]
    rfl
theorem spl_of {s : UInt8} : ∀ {ps : List (List UInt8)}, ps ≠ [] → (∀ p ∈ ps, s ∉ p) → spl s (intc s ps) = ps
  | [], h, _ => absurd rfl h
  | [p], _, h => spl_one (h p (List.mem_cons_self ..))
  | p :: q :: ps, _, h => by
    show spl s (p ++ s :: intc s (q :: ps)) = _
    rw [spl_app _ (h p (List.mem_cons_self ..)), spl_of (by simp) fun r hr => h r (List.mem_cons_of_mem _ hr)]
/-! ### Bottles -/
/-- The text of a bottle. -/
def botT (b : Bt) : List UInt8 := decDigits b.k.toNat ++ 58 :: decDigits b.y.toNat
theorem notD {c : UInt8} {l : List UInt8} (h : ∀ d ∈ l, isD d = true) (hc : isD c = false) : c ∉ l := fun hm => by
  rw [h c hm] at hc
  cases hc
theorem dec_not (n : Nat) {c : UInt8} (hc : isD c = false) : c ∉ decDigits n := notD (dec_all n).1.2 hc
/-- A bottle's text, read. -/
def rdB (l : List UInt8) : Option Bt :=
  match spl 58 l with
  | [a, b] => if h : (rdR 1 20 a && rdR 1900 2099 b) = true then some ⟨(valD a : Int), (valD b : Int), by simp [rdR] at h; omega, by simp [rdR] at h; omega⟩ else none
  | _ => none
theorem rdB_some {l : List UInt8} {b : Bt} : rdB l = some b ↔ b.ok = true ∧ l = botT b := by
  constructor
  · intro h
    unfold rdB at h
    split at h
    · rename_i a c hs
      split at h
      · rename_i hr
        obtain rfl := (Option.some.inj h).symm
        simp only [rdR, Bool.and_eq_true, decide_eq_true_iff] at hr
        refine ⟨by simp only [Bt.ok, decide_eq_true_iff]; omega, ?_⟩
        have := intc_spl 58 l
        rw [hs] at this
        show l = decDigits ((valD a : Int)).toNat ++ 58 :: decDigits ((valD c : Int)).toNat
        rw [Int.toNat_natCast, Int.toNat_natCast, canon_back hr.1.1, canon_back hr.2.1, ← this]
        rfl
      · cases h
    · cases h
  · rintro ⟨hb, rfl⟩
    simp only [Bt.ok, decide_eq_true_iff] at hb
    have hs : spl 58 (botT b) = [decDigits b.k.toNat, decDigits b.y.toNat] := by
      unfold botT
      rw [spl_app _ (dec_not _ (by decide)), spl_one (dec_not _ (by decide))]
    unfold rdB
    rw [hs]
    have h1 : rdR 1 20 (decDigits b.k.toNat) = true := by
      simp only [rdR, Bool.and_eq_true, decide_eq_true_iff, dec_val]
      exact ⟨dec_canon _, by omega, by omega⟩
    have h2 : rdR 1900 2099 (decDigits b.y.toNat) = true := by
      simp only [rdR, Bool.and_eq_true, decide_eq_true_iff, dec_val]
      exact ⟨dec_canon _, by omega, by omega⟩
    simp only [h1, h2, Bool.and_self, dif_pos]
    congr 1
    apply Bt.ext2
    · show ((valD (decDigits b.k.toNat) : Nat) : Int) = b.k
      rw [dec_val]
      omega
    · show ((valD (decDigits b.y.toNat) : Nat) : Int) = b.y
      rw [dec_val]
      omega
theorem botT_inj {a b : Bt} (ha : a.ok = true) (hb : b.ok = true) (h : botT a = botT b) : a = b := by
  have h1 := rdB_some.2 ⟨ha, rfl⟩
  have h2 := rdB_some.2 ⟨hb, h⟩
  rw [h1] at h2
  exact Option.some.inj h2
end Go.Proofs.YtbngpcghognojaaGreatDoor
namespace Go.Proofs.YtbngpcghognojaaGreatDoor
open Go Go.Lib
set_option linter.unusedVariables false
set_option linter.unusedSimpArgs false
set_option maxRecDepth 100000
/-! ### What is written -/
def wordT (b : Bt) : List UInt8 := if b.em = true then [45] else botT b
def endT (i : Nat) : UInt8 := if i % 4 = 3 then 10 else 32
/-- The first places of a crate. -/
def crK (c : Cr) (k : Nat) : List UInt8 := (List.range k).flatMap fun i => wordT (rB c.toList i) ++ [endT i]
def crT (c : Cr) : List UInt8 := crK c 12
theorem crK_succ (c : Cr) (k : Nat) : crK c (k + 1) = crK c k ++ (wordT (rB c.toList k) ++ [endT k]) := by
  unfold crK
  rw [List.range_succ, List.flatMap_append]
  simp
def isW (c : UInt8) : Bool := isD c || (c == 58 || c == 45)
theorem botT_w (b : Bt) : ∀ c ∈ botT b, isW c = true := by
  intro c hc
  unfold botT at hc
  rcases List.mem_append.1 hc with q | q
  · simp [isW, (dec_all _).1.2 c q]
  · rcases List.mem_cons.1 q with rfl | q
    · rfl
    · simp [isW, (dec_all _).1.2 c q]
theorem wordT_w (b : Bt) : ∀ c ∈ wordT b, isW c = true := by
  intro c hc
  unfold wordT at hc
  split at hc
  · obtain rfl := List.mem_singleton.1 hc
    rfl
  · exact botT_w b c hc
theorem botT_ne (b : Bt) : botT b ≠ [] := by simp [botT]
theorem wordT_ne (b : Bt) : wordT b ≠ [] := by
  unfold wordT
  split
  · simp
  · exact botT_ne b
theorem botT_dash (b : Bt) : botT b ≠ [45] := fun h => by
  have : (58 : UInt8) ∈ botT b := by simp [botT]
  rw [h] at this
  simp at this
theorem isW_not {c : UInt8} (l : List UInt8) (h : ∀ d ∈ l, isW d = true) (hc : isW c = false) : c ∉ l := fun hm => by
  rw [h c hm] at hc
  cases hc
/-! ### A word, read -/
def rdWord (w : List UInt8) : Option Bt := if w = [45] then some zB else rdB w
theorem rdWord_some {w : List UInt8} {b : Bt} : rdWord w = some b ↔ b.fine = true ∧ w = wordT b := by
  unfold rdWord wordT
  constructor
  · intro h
    split at h
    · rename_i hw
      obtain rfl := (Option.some.inj h).symm
      exact ⟨by decide, by rw [if_pos (by decide)]; exact hw⟩
    · obtain ⟨h1, h2⟩ := rdB_some.1 h
      have hem : ¬ b.em = true := fun e => by
        rw [Bt.em_iff] at e
        subst e
        simp [Bt.ok, zB] at h1
      exact ⟨by simp [Bt.fine, h1], by rw [if_neg hem]; exact h2⟩
  · rintro ⟨h1, h2⟩
    by_cases he : b.em = true
    · rw [if_pos he] at h2
      rw [if_pos h2]
      rw [Bt.em_iff] at he
      rw [he]
    · rw [if_neg he] at h2
      rw [if_neg (by rw [h2]; exact botT_dash b), rdB_some]
      refine ⟨?_, h2⟩
      unfold Bt.fine at h1
      rw [Bool.or_eq_true] at h1
      exact h1.resolve_left he
/-! ### A crate, read line by line -/
def crOf (f : Nat → Bt) : Cr := ⟨((List.range 12).map f).toArray, by simp⟩
theorem crOf_at (f : Nat → Bt) {i : Nat} (h : i < 12) : rB (crOf f).toList i = f i := by
  have hl : i < (crOf f).toList.length := by rw [Vector.length_toList]; exact h
  rw [rB_lt hl]
  simp [crOf]
theorem cr_ext {a b : Cr} (h : ∀ i, i < 12 → rB a.toList i = rB b.toList i) : a = b := by
  apply Vector.toArray_inj.1
  apply Array.toList_inj.1
  apply List.ext_getElem (by simp)
  intro i hi hi'
  have := h i (by simpa using hi)
  rw [rB_lt (by simpa using hi), rB_lt (by simpa using hi')] at this
  exact this
theorem ok_at {c : Cr} : c.ok = true ↔ ∀ i, i < 12 → (rB c.toList i).fine = true := by
  unfold Cr.ok
  rw [List.all_eq_true]
  constructor
  · intro h i hi
    have hl : i < c.toList.length := by rw [Vector.length_toList]; exact hi
    rw [rB_lt hl]
    exact h _ (List.getElem_mem hl)
  · intro h b hb
    obtain ⟨i, hi, rfl⟩ := List.getElem_of_mem hb
    have := h i (by rw [Vector.length_toList] at hi; exact hi)
    rwa [rB_lt hi] at this
/-- Word number i of the lines. -/
def wdAt (l : List UInt8) (i : Nat) : List UInt8 := (spl 32 ((spl 10 l).getD (i / 4) [])).getD (i % 4) []
def lnOk (l : List UInt8) (y : Nat) : Bool := decide ((spl 32 ((spl 10 l).getD y [])).length = 4)
def wdOk (l : List UInt8) (i : Nat) : Bool := (rdWord (wdAt l i)).isSome
def wdB (l : List UInt8) (i : Nat) : Bt := (rdWord (wdAt l i)).getD zB
/-- All that has to be as it should. -/
def crGood (l : List UInt8) : Bool := decide ((spl 10 l).length = 4) && (decide ((spl 10 l).getD 3 [] = []) && ((List.range 3).all (lnOk l) && (List.range 12).all (wdOk l)))
def rdC (l : List UInt8) : Option Cr := if crGood l = true then some (crOf (wdB l)) else none
/-- The lines of a crate. -/
def lnT (c : Cr) (y : Nat) : List (List UInt8) := (List.range 4).map fun x => wordT (rB c.toList (4 * y + x))
theorem crT_lines (c : Cr) : crT c = intc 10 [intc 32 (lnT c 0), intc 32 (lnT c 1), intc 32 (lnT c 2), []] := by
  simp [crT, crK, lnT, List.range, List.range.loop, intc, endT]
theorem lnT_ne (c : Cr) (y : Nat) : lnT c y ≠ [] := by simp [lnT]
theorem lnT_w (c : Cr) (y : Nat) : ∀ p ∈ lnT c y, ∀ d ∈ p, isW d = true := by
  intro p hp
  unfold lnT at hp
  obtain ⟨x, _, rfl⟩ := List.mem_map.1 hp
  exact wordT_w _
theorem intc_mem {s : UInt8} : ∀ {ps : List (List UInt8)} {c : UInt8}, c ∈ intc s ps → c = s ∨ ∃ p ∈ ps, c ∈ p
  | [], c, h => by simp [intc] at h
  | [p], c, h => .inr ⟨p, by simp, h⟩
  | p :: q :: ps, c, h => by
    have h' : c ∈ p ++ s :: intc s (q :: ps) := h
    rcases List.mem_append.1 h' with h | h
    · exact .inr ⟨p, by simp, h⟩
    · rcases List.mem_cons.1 h with h | h
      · exact .inl h
      · rcases intc_mem h with h | ⟨r, hr, h⟩
        · exact .inl h
        · exact .inr ⟨r, List.mem_cons_of_mem _ hr, h⟩
theorem spl_crT (c : Cr) : spl 10 (crT c) = [intc 32 (lnT c 0), intc 32 (lnT c 1), intc 32 (lnT c 2), []] := by
  rw [crT_lines]
  refine spl_of (by simp) fun p hp => ?_
  have key : ∀ y, (10 : UInt8) ∉ intc 32 (lnT c y) := fun y hm => by
    rcases intc_mem hm with h | ⟨q, hq, h⟩
    · cases h
    · exact isW_not q (lnT_w c y q hq) (by decide) h
  simp only [List.mem_cons, List.not_mem_nil, or_false] at hp
  rcases hp with rfl | rfl | rfl | rfl
  · exact key 0
  · exact key 1
  · exact key 2
  · simp
theorem spl_lnT (c : Cr) (y : Nat) : spl 32 (intc 32 (lnT c y)) = lnT c y := spl_of (lnT_ne c y) fun p hp => isW_not p (lnT_w c y p hp) (by decide)
theorem lines_at (c : Cr) {y : Nat} (h : y < 3) : (spl 10 (crT c)).getD y [] = intc 32 (lnT c y) := by
  rw [spl_crT]
  match y, h with
  | 0, _ => rfl
  | 1, _ => rfl
  | 2, _ => rfl
theorem wdAt_crT (c : Cr) {i : Nat} (h : i < 12) : wdAt (crT c) i = wordT (rB c.toList i) := by
  unfold wdAt
  rw [lines_at c (show i / 4 < 3 by omega), spl_lnT]
  unfold lnT
  rw [List.getD_eq_getElem?_getD, List.getElem?_map, List.getElem?_range (by omega)]
  show wordT (rB c.toList (4 * (i / 4) + i % 4)) = _
  rw [show 4 * (i / 4) + i % 4 = i by omega]
theorem rdC_some {l : List UInt8} {c : Cr} : rdC l = some c ↔ c.ok = true ∧ l = crT c := by
  unfold rdC
  constructor
  · intro h
    split at h
    · rename_i hg
      obtain rfl := (Option.some.inj h).symm
      simp only [crGood, Bool.and_eq_true, decide_eq_true_iff, List.all_eq_true, List.mem_range] at hg
      obtain ⟨h1, h2, h3, h4⟩ := hg
      have hw : ∀ i, i < 12 → (wdB l i).fine = true ∧ wdAt l i = wordT (wdB l i) := fun i hi => by
        obtain ⟨b, hb⟩ := Option.isSome_iff_exists.1 (h4 i hi)
        have : wdB l i = b := by unfold wdB; rw [hb]; rfl
        rw [this]
        exact rdWord_some.1 hb
      refine ⟨ok_at.2 fun i hi => by rw [crOf_at _ hi]; exact (hw i hi).1, ?_⟩
      have hln : ∀ y, y < 3 → (spl 10 l).getD y [] = intc 32 (lnT (crOf (wdB l)) y) := fun y hy => by
        have e1 := intc_spl 32 ((spl 10 l).getD y [])
        rw [← e1]
        congr 1
        have hl := h3 y hy
        unfold lnOk at hl
        rw [decide_eq_true_iff] at hl
        apply List.ext_getElem
        · rw [hl]; simp [lnT]
        · intro x hx hx'
          have hx4 : x < 4 := by rw [hl] at hx; exact hx
          have := (hw (4 * y + x) (by omega)).2
          unfold wdAt at this
          rw [show (4 * y + x) / 4 = y by omega, show (4 * y + x) % 4 = x by omega, List.getD_eq_getElem?_getD, List.getElem?_eq_getElem hx] at this
          simp only [Option.getD_some] at this
          rw [this]
          simp only [lnT, List.getElem_map, List.getElem_range]
          rw [crOf_at _ (by omega)]
      have e0 := intc_spl 10 l
      have hL : spl 10 l = [intc 32 (lnT (crOf (wdB l)) 0), intc 32 (lnT (crOf (wdB l)) 1), intc 32 (lnT (crOf (wdB l)) 2), []] := by
        have q0 := hln 0 (by decide)
        have q1 := hln 1 (by decide)
        have q2 := hln 2 (by decide)
        match hs : spl 10 l, h1 with
        | [a, b, c, d], _ =>
          rw [hs] at q0 q1 q2 h2
          simp only [List.getD_cons_zero, List.getD_cons_succ] at q0 q1 q2 h2
          rw [q0, q1, q2, h2]
      rw [crT_lines, ← hL, e0]
    · cases h
  · rintro ⟨h, rfl⟩
    have hw : ∀ i, i < 12 → rdWord (wdAt (crT c) i) = some (rB c.toList i) := fun i hi => rdWord_some.2 ⟨ok_at.1 h i hi, wdAt_crT c hi⟩
    have hg : crGood (crT c) = true := by
      simp only [crGood, Bool.and_eq_true, decide_eq_true_iff, List.all_eq_true, List.mem_range]
      refine ⟨by rw [spl_crT]; rfl, by rw [spl_crT]; rfl, fun y hy => ?_, fun i hi => ?_⟩
      · unfold lnOk
        rw [decide_eq_true_iff, lines_at c hy, spl_lnT]
        simp [lnT]
      · unfold wdOk
        rw [hw i hi]
        rfl
    rw [if_pos hg]
    congr 1
    refine cr_ext fun i hi => ?_
    rw [crOf_at _ hi]
    unfold wdB
    rw [hw i hi]
    rfl
/-! ### An order, written -/
def wantT (x : Wt) : List UInt8 := botT x.b ++ 120 :: decDigits x.n.toNat
def ordT (l : List Wt) : List UInt8 := intc 32 (l.map wantT)
end Go.Proofs.YtbngpcghognojaaGreatDoor
namespace Go.Proofs.YtbngpcghognojaaGreatDoor
open Go Go.Lib
set_option linter.unusedVariables false
set_option linter.unusedSimpArgs false
theorem fieldsGo_word : ∀ (w cur rest : List UInt8), (∀ c ∈ w, isSp c = false) → fieldsGo cur (w ++ rest) = fieldsGo (cur ++ w) rest
  | [], cur, rest, _ => by simp
  | c :: w, cur, rest, h => by
    rw [List.cons_append, fieldsGo_more cur c _ (h c (List.mem_cons_self ..)), fieldsGo_word w (cur ++ [c]) rest fun d hd => h d (List.mem_cons_of_mem _ hd)]
    simp
theorem fields_words (f : Nat → List UInt8) (e : Nat → UInt8) : ∀ (is : List Nat), (∀ i ∈ is, f i ≠ [] ∧ (∀ c ∈ f i, isSp c = false) ∧ isSp (e i) = true) → fieldsGo [] (is.flatMap fun i => f i ++ [e i]) = is.map f
  | [], _ => by simp [fieldsGo]
  | i :: is, h => by
    obtain ⟨h1, h2, h3⟩ := h i (List.mem_cons_self ..)
    rw [List.flatMap_cons, List.append_assoc, fieldsGo_word _ _ _ h2, List.nil_append, List.cons_append, List.nil_append, fieldsGo_end _ _ _ h3 h1, fields_words f e is fun j hj => h j (List.mem_cons_of_mem _ hj), List.map_cons]
theorem spansP_congr {p q : Nat → Bool} {s : ByteArray} (h : ∀ pos, pos < s.size → p (Utf8.decode s pos).1 = q (Utf8.decode s pos).1) : ∀ (f pos : Nat) (st : Option Nat) (acc : List (Nat × Nat)), spansFromP p s f pos st acc = spansFromP q s f pos st acc
  | 0, _, _, _ => rfl
  | f + 1, pos, st, acc => by
    unfold spansFromP
    by_cases hp : pos < s.size
    · rw [if_pos hp, if_pos hp, h pos hp]
      split <;> cases st <;> exact spansP_congr h f _ _ _
    · rw [if_neg hp, if_neg hp]
theorem goFieldsP_congr {p q : Nat → Bool} {s : ByteArray} (h : ∀ pos, pos < s.size → p (Utf8.decode s pos).1 = q (Utf8.decode s pos).1) : goFieldsP p s = goFieldsP q s := by
  unfold goFieldsP spansOfP
  rw [spansP_congr h]
/-- Space or a line's end. -/
def isSL (r : Nat) : Bool := r == 32 || r == 10
/-- The fields of an ASCII text in which white space is spaces and line ends alone. -/
theorem goFields_sl {l : List UInt8} (h : ∀ c ∈ l, c.toNat < 128 ∧ isSp c = isSL c.toNat) : (goFieldsP isSL ⟨l.toArray⟩).map (·.data.toList) = fields l := by
  have e : goFieldsP isSL ⟨l.toArray⟩ = goFieldsP isSpaceR ⟨l.toArray⟩ := by
    refine goFieldsP_congr fun pos hp => ?_
    have hl : pos < l.length := by
      have : pos < l.toArray.size := hp
      simpa using this
    have hg : (⟨l.toArray⟩ : ByteArray)[pos] = l[pos] := by
      show l.toArray[pos] = _
      simp
    have hm := h _ (List.getElem_mem hl)
    rw [decode_ascii _ pos hp (by rw [hg]; exact hm.1), hg]
    show isSL l[pos].toNat = isSpaceR l[pos].toNat
    rw [← hm.2]
    cases hs : isSp l[pos] with
    | true => rw [(isSp_true hs).2]
    | false => rw [isSp_false hs hm.1]
  rw [e, goFieldsP_space, goFields_eq, fieldsD_ascii _ fun c hc => (h c (by simpa using hc)).1]
end Go.Proofs.YtbngpcghognojaaGreatDoor
namespace Go.Proofs.YtbngpcghognojaaGreatDoor
open Go Go.Lib
set_option linter.unusedVariables false
set_option linter.unusedSimpArgs false
set_option maxRecDepth 100000
/-- What a crate's text reads as. -/
def rcR (l : List UInt8) : Cr × Int := match rdC l with
  | some c => (c, 0)
  | none => (zC, 5)
theorem w_sp {c : UInt8} (h : isW c = true) : c.toNat < 128 ∧ isSp c = false ∧ isSL c.toNat = false := by
  simp only [isW, Bool.or_eq_true, isD_iff, beq_iff_eq] at h
  have e : ∀ n : Nat, n < 256 → c = UInt8.ofNat n → c.toNat = n := fun n hn e => by rw [e]; exact u8_ofNat hn
  have h' : 33 ≤ c.toNat ∧ c.toNat < 128 := by
    rcases h with h | h | h
    · omega
    · subst h; decide
    · subst h; decide
  refine ⟨h'.2, ?_, ?_⟩
  · cases hs : isSp c with
    | false => rfl
    | true =>
      simp only [isSp, Bool.or_eq_true, beq_iff_eq] at hs
      rcases hs with ((((hs | hs) | hs) | hs) | hs) | hs <;> (subst hs; exact absurd h'.1 (by decide))
  · simp [isSL]
    omega
theorem endT_sp (i : Nat) : isSp (endT i) = true ∧ (endT i).toNat < 128 ∧ isSL (endT i).toNat = true := by
  unfold endT
  split <;> decide
theorem crT_fields (c : Cr) : (goFieldsP isSL ⟨(crT c).toArray⟩).map (·.data.toList) = (List.range 12).map fun i => wordT (rB c.toList i) := by
  rw [goFields_sl]
  · unfold fields crT crK
    exact fields_words (fun i => wordT (rB c.toList i)) endT _ fun i _ => ⟨wordT_ne _, fun d hd => (w_sp (wordT_w _ d hd)).2.1, (endT_sp i).1⟩
  · intro d hd
    unfold crT crK at hd
    obtain ⟨i, _, hd⟩ := List.mem_flatMap.1 hd
    rcases List.mem_append.1 hd with q | q
    · have := w_sp (wordT_w _ d q)
      exact ⟨this.1, by rw [this.2.1, this.2.2]⟩
    · obtain rfl := List.mem_singleton.1 q
      have := endT_sp i
      exact ⟨this.2.1, by rw [this.1, this.2.2]⟩
/-- A word's bottle. -/
def wsB (ws : List (List UInt8)) (i : Nat) : Bt := (rdWord (ws.getD i [])).getD zB
section
variable {l : List UInt8} {ws : List (List UInt8)} (h : (goFieldsP isSL ⟨l.toArray⟩).map (·.data.toList) = ws)
include h
theorem rc_back {c : Cr} (hc : rdC l = some c) : ws.length = 12 ∧ ∀ i, i < 12 → rdWord (ws.getD i []) = some (rB c.toList i) := by
  obtain ⟨h1, h2⟩ := rdC_some.1 hc
  rw [h2, crT_fields] at h
  subst h
  refine ⟨by simp, fun i hi => ?_⟩
  rw [List.getD_eq_getElem?_getD, List.getElem?_map, List.getElem?_range hi]
  exact rdWord_some.2 ⟨ok_at.1 h1 i hi, rfl⟩
theorem rc_len (hl : ws.length ≠ 12) : rcR l = (zC, 5) := by
  unfold rcR
  cases hc : rdC l with
  | none => rfl
  | some c => exact absurd (rc_back h hc).1 hl
theorem rc_bad {i : Nat} (hi : i < 12) (hb : rdWord (ws.getD i []) = none) : rcR l = (zC, 5) := by
  unfold rcR
  cases hc : rdC l with
  | none => rfl
  | some c =>
    have := (rc_back h hc).2 i hi
    rw [hb] at this
    cases this
omit h in
theorem rc_fine (ha : ∀ i, i < 12 → (rdWord (ws.getD i [])).isSome = true) : (crOf (wsB ws)).ok = true := by
  refine ok_at.2 fun i hi => ?_
  rw [crOf_at _ hi]
  obtain ⟨b, hb⟩ := Option.isSome_iff_exists.1 (ha i hi)
  unfold wsB
  rw [hb]
  exact (rdWord_some.1 hb).1
omit h in
theorem rc_same (ha : ∀ i, i < 12 → (rdWord (ws.getD i [])).isSome = true) (he : crT (crOf (wsB ws)) = l) : rcR l = (crOf (wsB ws), 0) := by
  unfold rcR
  rw [rdC_some.2 ⟨rc_fine ha, he.symm⟩]
theorem rc_other (hne : crT (crOf (wsB ws)) ≠ l) : rcR l = (zC, 5) := by
  unfold rcR
  cases hc : rdC l with
  | none => rfl
  | some c =>
    refine absurd ?_ hne
    have h2 := rc_back h hc
    have : crOf (wsB ws) = c := cr_ext fun i hi => by
      rw [crOf_at _ hi]
      unfold wsB
      rw [h2.2 i hi]
      rfl
    rw [this]
    exact (rdC_some.1 hc).2.symm
end
/-- The crate that has been read up to word k. -/
def rcK (ws : List (List UInt8)) (k : Nat) : Cr := crOf fun i => if i < k then wsB ws i else zB
theorem rB_zC : ∀ i, i < 12 → rB zC.toList i = zB := by decide
theorem rcK_zero (ws : List (List UInt8)) : rcK ws 0 = zC := cr_ext fun i hi => by
  unfold rcK
  rw [crOf_at _ hi, if_neg (by omega), rB_zC i hi]
theorem rcK_full (ws : List (List UInt8)) : rcK ws 12 = crOf (wsB ws) := cr_ext fun i hi => by
  unfold rcK
  rw [crOf_at _ hi, crOf_at _ hi, if_pos hi]
theorem crOf_list (f : Nat → Bt) : (crOf f).toList = (List.range 12).map f := by simp [crOf]
theorem rcK_set (ws : List (List UInt8)) {k : Nat} (hk : k < 12) : (rcK ws k).toList.set k (wsB ws k) = (rcK ws (k + 1)).toList := by
  unfold rcK
  rw [crOf_list, crOf_list]
  apply List.ext_getElem (by simp)
  intro i hi hi'
  rw [List.getElem_set]
  simp only [List.getElem_map, List.getElem_range]
  by_cases e : k = i
  · subst e
    rw [if_pos rfl, if_pos (by omega)]
  · rw [if_neg e]
    by_cases h2 : i < k
    · rw [if_pos h2, if_pos (by omega)]
    · rw [if_neg h2, if_neg (by omega)]
theorem rcK_keep (ws : List (List UInt8)) {k : Nat} (hk : k < 12) (hz : wsB ws k = zB) : rcK ws k = rcK ws (k + 1) := cr_ext fun i hi => by
  unfold rcK
  rw [crOf_at _ hi, crOf_at _ hi]
  by_cases h2 : i < k
  · rw [if_pos h2, if_pos (by omega)]
  · rw [if_neg h2]
    by_cases e : i = k
    · subst e
      rw [if_pos (by omega), hz]
    · rw [if_neg (by omega)]
theorem field_size {p : Nat → Bool} {s x : ByteArray} (h : x ∈ goFieldsP p s) : x.size ≤ s.size := by
  unfold goFieldsP at h
  obtain ⟨q, _, rfl⟩ := List.mem_map.1 h
  rw [ByteArray.size_extract]
  omega
end Go.Proofs.YtbngpcghognojaaGreatDoor
namespace Go.Proofs.YtbngpcghognojaaGreatDoor
open Go.RowKit
set_option linter.unusedVariables false
set_option linter.unusedSimpArgs false
set_option maxRecDepth 100000
set_option maxHeartbeats 1000000
attribute [local go_sem] Oper.qB
/-- The best of the first crates, and its use. -/
def bestK (lc : List Cr) (left : List Wt) (out : List Int) : Nat → Int × Int
  | 0 => (-1, 0)
  | k + 1 => if (!out.contains (k : Int) && (decide ((bestK lc left out k).1 < 0) || decide ((bestK lc left out k).2 < useW lc[k]! left))) = true then ((k : Int), useW lc[k]! left) else bestK lc left out k
def leftL (lc : List Cr) (l : List Wt) (out : List Int) : List Wt := lackL (cntL (opL lc out)) l
def greedy (lc : List Cr) (l : List Wt) : Nat → List Int → List Int
  | 0, out => out
  | n + 1, out => if leftL lc l out = [] then out else greedy lc l n (out ++ [(bestK lc (leftL lc l out) out lc.length).1])
def finG (lc : List Cr) (l : List Wt) (out : List Int) : List Int := greedy lc l (lc.length + 1 - out.length) out
def greedyR (lc : List Cr) (l : List Wt) : List Int × Int := if fillI lc l = 0 then (finG lc l [], 0) else ([], fillI lc l)
theorem bestK_cases (lc : List Cr) (left : List Wt) (out : List Int) : ∀ k, ((bestK lc left out k).1 = -1 ∧ ∀ i, i < k → (i : Int) ∈ out) ∨ (0 ≤ (bestK lc left out k).1 ∧ (bestK lc left out k).1 < k ∧ (bestK lc left out k).1 ∉ out)
  | 0 => .inl ⟨rfl, fun i hi => absurd hi (Nat.not_lt_zero _)⟩
  | k + 1 => by
    have ih := bestK_cases lc left out k
    rw [bestK]
    split
    · rename_i h
      simp only [Bool.and_eq_true, Bool.not_eq_true', ← Bool.not_eq_true, List.contains_eq_mem, decide_eq_true_iff] at h
      exact .inr ⟨Int.natCast_nonneg k, by show (k : Int) < ((k + 1 : Nat) : Int); omega, h.1⟩
    · rename_i h
      rcases ih with ⟨i1, i2⟩ | ⟨i1, i2, i3⟩
      · refine .inl ⟨i1, fun i hi => ?_⟩
        rcases Nat.lt_or_ge i k with q | q
        · exact i2 i q
        · obtain rfl : i = k := by omega
          apply Classical.byContradiction
          intro hm
          apply h
          have e : decide ((bestK lc left out i).1 < 0) = true := by rw [i1]; rfl
          simp [e, hm]
      · exact .inr ⟨i1, by omega, i3⟩
theorem Good.snoc {n : Nat} {ks : List Int} {x : Int} (h : Good n ks) (h0 : 0 ≤ x) (h1 : x < n) (h2 : x ∉ ks) : Good n (ks ++ [x]) :=
  ⟨List.nodup_append.2 ⟨h.nd, List.pairwise_singleton _ _, fun a ha b hb => by rintro rfl; rw [List.mem_singleton] at hb; exact h2 (hb ▸ ha)⟩, fun y hy => by
    rcases List.mem_append.1 hy with q | q
    · exact h.inn y q
    · obtain rfl := List.mem_singleton.1 q
      exact ⟨h0, h1⟩⟩
/-- There is a crate that is not yet opened. -/
theorem best_good {lc : List Cr} {l : List Wt} {out : List Int} (h : Good lc.length out) (hf : lackL (cntL lc) l = []) (hl : leftL lc l out ≠ []) : Good lc.length (out ++ [(bestK lc (leftL lc l out) out lc.length).1]) := by
  rcases bestK_cases lc (leftL lc l out) out lc.length with ⟨_, q⟩ | ⟨q1, q2, q3⟩
  · exact absurd (by rw [leftL, show cntL (opL lc out) = cntL lc from funext fun b => h.all q b, hf]) hl
  · exact h.snoc q1 q2 q3
theorem finG_stop {lc : List Cr} {l : List Wt} {out : List Int} (h : Good lc.length out) (hl : leftL lc l out = []) : finG lc l out = out := by
  have := h.le
  rw [finG, show lc.length + 1 - out.length = (lc.length - out.length) + 1 by omega, greedy, if_pos hl]
theorem finG_step {lc : List Cr} {l : List Wt} {out : List Int} (h : Good lc.length out) (hl : leftL lc l out ≠ []) : finG lc l out = finG lc l (out ++ [(bestK lc (leftL lc l out) out lc.length).1]) := by
  have := h.le
  rw [finG, show lc.length + 1 - out.length = (lc.length - out.length) + 1 by omega, greedy, if_neg hl, finG, List.length_append, List.length_singleton, show lc.length + 1 - (out.length + 1) = lc.length - out.length by omega]
theorem Good.nil (n : Nat) : Good n [] := ⟨List.nodup_nil, fun x hx => absurd hx (List.not_mem_nil)⟩
theorem finG_le {lc : List Cr} {l : List Wt} (hf : lackL (cntL lc) l = []) : ∀ (m : Nat) (out : List Int), Good lc.length out → lc.length - out.length = m → (finG lc l out).length ≤ lc.length
  | m, out, h, hm => by
    have hle := h.le
    by_cases hl : leftL lc l out = []
    · rw [finG_stop h hl]; exact hle
    · have h2 := best_good h hf hl
      have h3 := h2.le
      rw [List.length_append, List.length_singleton] at h3
      rw [finG_step h hl]
      match m with
      | 0 => omega
      | m + 1 => exact finG_le hf m _ h2 (by rw [List.length_append, List.length_singleton]; omega)
theorem greedyR_le (lc : List Cr) (l : List Wt) : (greedyR lc l).1.length ≤ 12 := by
  unfold greedyR
  split
  · rename_i h
    rcases fillI_cases lc l with ⟨_, h1, h2⟩ | e | e
    · have := finG_le h2 _ [] (Good.nil _) rfl
      have := (ask_le h1).1
      show (finG lc l []).length ≤ 12
      omega
    · rw [e] at h; cases h
    · rw [e] at h; cases h
  · simp
def lenOf : Value → Nat
  | .slice _ n _ => n
  | _ => 0
end Go.Proofs.YtbngpcghognojaaGreatDoor
namespace Go.Proofs.YtbngpcghognojaaGreatDoor
open Go.RowKit
set_option linter.unusedVariables false
set_option linter.unusedSimpArgs false
set_option maxRecDepth 100000
set_option maxHeartbeats 1000000
attribute [local go_sem] Oper.qB
/-- An order is filled out of some crates. -/
def okF (lc : List Cr) (l : List Wt) (ks : List Int) : Bool := decide (leftL lc l ks = [])
/-- The fewest crates, and whether there are some. -/
def fewS (lc : List Cr) (l : List Wt) : List Int × Bool := setsK lc.length (okF lc l) (2 ^ lc.length)
theorem okF_every {lc : List Cr} {l : List Wt} (h : lackL (cntL lc) l = []) : okF lc l (everyL lc.length) = true := by
  rw [okF, leftL, opL_every, h]
  rfl
theorem everyL_Asc (n : Nat) : Asc 0 n (everyL n) := ⟨everyL_asc n, fun x hx => by have := everyL_in hx; omega⟩
theorem Asc.good {n : Nat} {ks : List Int} (h : Asc 0 n ks) : Good n ks := ⟨h.1.imp fun q => Int.ne_of_lt q, fun x hx => by have := h.2 x hx; omega⟩
theorem fewS_found {lc : List Cr} {l : List Wt} (h : lackL (cntL lc) l = []) : (fewS lc l).2 = true := sets_found (everyL_Asc _) (okF_every h)
theorem fewS_good {lc : List Cr} {l : List Wt} : Good lc.length (fewS lc l).1 := by
  have := setsK_some (n := lc.length) (p := okF lc l) (2 ^ lc.length)
  cases h : (fewS lc l).2 with
  | true => exact (this.1 h).2.1.good
  | false => unfold fewS; rw [(this.2 h).1]; exact Good.nil _
theorem fewS_ok {lc : List Cr} {l : List Wt} (h : (fewS lc l).2 = true) : leftL lc l (fewS lc l).1 = [] := by
  have := ((setsK_some (n := lc.length) (p := okF lc l) (2 ^ lc.length)).1 h).1
  exact of_decide_eq_true this
theorem drop_cons2 {l : List Int} {k : Nat} (h : k < l.length) : l.drop k = l.getD k 0 :: l.drop (k + 1) := by
  rw [List.drop_eq_getElem_cons h, List.getD_eq_getElem?_getD, List.getElem?_eq_getElem h]
  rfl
theorem ahead_at {a b : List Int} {k : Nat} (hl : a.length = b.length) (h : k < a.length) : ahead (a.drop k) (b.drop k) = if a.getD k 0 = b.getD k 0 then ahead (a.drop (k + 1)) (b.drop (k + 1)) else decide (a.getD k 0 < b.getD k 0) := by
  have h1 := drop_cons2 h
  have h2 := drop_cons2 (l := b) (k := k) (by omega)
  rw [h1, h2, ahead]
theorem l01Ahead_any (A0 : Option Addr) (c0 : Nat) (a : List Int) (A1 : Option Addr) (c1 : Nat) (b : List Int) (w : World) (h0 : RdA w A0 (vi a)) (h1 : RdA w A1 (vi b)) (hl : a.length = b.length) (hn : a.length ≤ 1000000) :
    Calls Tryz.prog 125 #[.slice A0 a.length c0, .slice A1 b.length c1] w fun e w' => e = .returned (.bool (ahead a b)) ∧ Below w.heap.size w w' := by
  have H0 := Lib.hid h0
  have H1 := Lib.hid h1
  clear h0 h1
  go_enter Tryz.func125, Tryz.ntmps125
  go_wp2
  go_loopw [5] (fun i wr => ∃ k : Nat, k ≤ a.length ∧ i = .int .i64 k ∧ Hid (ahead a b = ahead (a.drop k) (b.drop k)) ∧ Below w.heap.size w wr) (fun i _ => a.length - (intOf i).toNat)
  case atStart => exact ⟨0, Nat.zero_le _, rfl, by rw [List.drop_zero, List.drop_zero]; rfl, Below.refl _ _⟩
  case round =>
    obtain ⟨k, hk, rfl, HA, hb⟩ := hrel
    by_cases hlt : k < a.length
    · obtain ⟨g0, o0, rfl, hg0, hC0⟩ := (H0.out.below hb).some (by rw [vi_length]; omega)
      obtain ⟨g1, o1, rfl, hg1, hC1⟩ := (H1.out.below hb).some (by rw [vi_length]; omega)
      have X0 := hC0 k _ (vi_at a k hlt)
      have X1 := hC1 k _ (vi_at b k (by omega))
      have HS := Lib.hid (HA.out.trans (ahead_at hl hlt))
      have hlt2 : (k : Int) < (a.length : Int) := by omega
      have hlt3 : (k : Int) < (b.length : Int) := by omega
      clear hC0 hC1 HA
      generalize a.getD k 0 = x at X0 HS
      generalize b.getD k 0 = y at X1 HS
      have y0 := cell_regrown X0
      have y1 := cell_regrown X1
      go_upto_region 4 with fail
      have H := Below.refl wr.heap.size wr
      refine wp_region_qB (by kernel_rfl) (by kernel_rfl) ?_
      (repeat (first | fail | (apply qB_step; intro K hK; go_simp; first | (refine hK _ ?_; clear hK K) | (apply Exists.intro; refine ⟨fun _ => ?_, hK _ ?_⟩; (first | fail); clear hK K))))
      refine qB_nil ?_
      intro w1 hw1
      replace H := bstep H hw1
      clear hw1
      clear y0 y1
      by_cases he : x = y
      · have HS2 := Lib.hid (HS.out.trans (if_pos he))
        subst he
        go_wp2
        go_roundw
        case rel => exact ⟨k + 1, by omega, by go_num, HS2.out, bstep hb H⟩
        case measure => simp [intOf]; omega
      · have HS2 := Lib.hid (HS.out.trans (if_neg he))
        have y0 := cell_regrown ((H.cell hg0).trans X0)
        have y1 := cell_regrown ((H.cell hg1).trans X1)
        go_upto_region 5 with fail
        have HH := Lib.hid H
        clear H
        have H := Below.refl w1.heap.size w1
        refine wp_region_qB (by kernel_rfl) (by kernel_rfl) ?_
        (repeat (first | fail | (apply qB_step; intro K hK; go_simp; first | (refine hK _ ?_; clear hK K) | (apply Exists.intro; refine ⟨fun _ => ?_, hK _ ?_⟩; (first | fail); clear hK K))))
        refine qB_nil ?_
        intro w1 hw1
        replace H := bstep H hw1
        clear hw1
        go_wp2
        go_ret
        exact ⟨ret_bool HS2.out.symm, bstep (bstep hb HH.out) H⟩
    · obtain rfl : k = a.length := by omega
      have HS : Hid (ahead a b = false) := by rw [Hid, HA.out, List.drop_length]; rfl
      go_wp2
      go_ret
      exact ⟨ret_bool HS.out.symm, hb⟩
end Go.Proofs.YtbngpcghognojaaGreatDoor
