/- Contracts of the texts: numbers, bottles. -/
import Derived.Test.YtbngpcghognojaaDoorTextP
import Derived.Test.YtbngpcghognojaaDoorRow
import Derived.Test.YtbngpcghognojaaDoorDrawn
import Derived.Test.YtbngpcghognojaaDoorShelf
import Derived.Shelf.Strconv.Itoa4
import Derived.Laws.IdiomStrings
namespace Go.Proofs.YtbngpcghognojaaDoor
open Go Go.Sort Go.RowKit
set_option linter.unusedVariables false
set_option linter.unusedSimpArgs false
set_option maxRecDepth 100000
set_option maxHeartbeats 1000000
attribute [local go_sem] Oper.qB
theorem var_kept {P : Program} {w w' : World} {n : String} {cs : Array Value} (h : w.var? P n = some cs) (hb : Below w.heap.size w w') : w'.var? P n = some cs := by
  unfold World.var? at h ⊢
  obtain ⟨g, hg, h⟩ := Option.bind_eq_some_iff.1 h
  rw [hg]
  simp only [Option.bind_some]
  rcases Nat.lt_or_ge g w.heap.size with hlt | hge
  · rw [hb.block g hlt]
    exact h
  · rw [Array.getElem?_eq_none hge] at h
    cases h
/-- The table of powers of ten lies. -/
def Tab (w : World) : Prop := Lib.TabIs Tryd.prog w "internal/strconv.uint64pow10" .u64 Lib.pow10Tab
theorem Tab.below {w w' : World} (h : Tab w) (hb : Below w.heap.size w w') : Tab w' := var_kept h hb
theorem below_grown (w : World) (k : Nat) (os : Array Obj) : Below w.heap.size w (grow (w.drewN k) os) :=
  ⟨rfl, rfl, rfl, by show _ ≤ (_ ++ os).size; rw [Array.size_append]; exact Nat.le_add_right _ _, fun j hj => heap_grow_old _ os hj⟩
theorem itoa_nat {n : Int} (h : 0 ≤ n) : Lib.itoa n = Lib.decDigits n.toNat := by
  unfold Lib.itoa
  rw [if_neg (by omega)]
theorem dec_short (n : Nat) : (Lib.decDigits n).length ≤ n + 1 := by
  induction n using Nat.strongRecOn with
  | _ n ih =>
    by_cases h : n < 10
    · rw [Lib.decDigits, dif_pos h]
      simp
    · rw [Lib.decDigits, dif_neg h]
      have := ih (n / 10) (by omega)
      simp
      omega
theorem itoa_short {n : Int} (h : 0 ≤ n) (h' : n ≤ 100000) : (Lib.itoa n).length ≤ 100001 := by
  rw [itoa_nat h]
  have := dec_short n.toNat
  omega
/-- A text. -/
def tv (l : List UInt8) : Value := .string ⟨l.toArray⟩
theorem decimal_any (n : Int) (h0 : -9223372036854775808 ≤ n) (h1 : n ≤ 9223372036854775807) (w : World) (ht : Tab w) : Calls Tryd.prog 33 #[.int .i64 n] w fun e w' => e = .returned (.string ⟨(Lib.itoa n).toArray⟩) ∧ Below w.heap.size w w' := by
  have HF := Lib.hid (fun W hW => Any.strconv_FormatInt_10 Tryd.lx57 n h0 h1 W (ht.below hW))
  have H := Below.refl w.heap.size w
  go_enter Tryd.func33, Tryd.ntmps33
  go_wp2_with (go_at_call 57; go_loud (refine (HF.out _ H).mono ?_; rintro e w1 ⟨rfl, q, os, rfl⟩))
  go_ret
  exact ⟨rfl, below_grown _ _ _⟩
theorem BottleText_any (b : Bt) (w : World) (ht : Tab w) : Calls Tryd.prog 11 #[bv b] w fun e w' => e = .returned (.string ⟨(if b.ok = true then botT b else []).toArray⟩) ∧ Below w.heap.size w w' := by
  have HT := Lib.hid ht
  have hk := b.hk
  have hy := b.hy
  have HB := Lib.hid (fun W => ValidBottle_any b W)
  generalize hT : (if b.ok = true then botT b else []) = t
  go_enter Tryd.func11, Tryd.ntmps11
  go_upto_region 1 with fail
  generalize hW : World.alloc _ _ = W
  have H0 : Below w.heap.size w W := by rw [← hW]; go_grown
  have r0 : rowOf W (w.heap.size) = some (#[.int .u8 b.k, .int .i16 b.y]) := (by (try rw [← hW]); simp only [rowOf_alloc, World.size_alloc, ↓reduceIte]; all_goals ((repeat' split) <;> first | omega | (exfalso; omega) | rfl))
  clear hW
  have l0 : w.heap.size ≤ w.heap.size := Nat.le_refl _
  generalize h0 : w.heap.size = g0 at r0 ⊢
  replace l0 : w.heap.size ≤ g0 := Nat.le_of_eq h0
  clear h0
  have b0 := rowOf_lt r0
  have H := Below.refl W.heap.size W
  have HT1 := Lib.hid (HT.out.below H0)
  have x0 : W.cell? ⟨g0, 0, none⟩ = some (.int .u8 b.k) := rowOf_cell r0 0
  have x1 : W.cell? ⟨g0, 1, none⟩ = some (.int .i16 b.y) := rowOf_cell r0 1
  cases e1 : b.ok with
  | false =>
    have e2 := Lib.hid e1
    obtain rfl : t = [] := by rw [← hT, e1]; rfl
    clear hT e1
    go_wp2_with (go_at_call 32; refine (HB.out _).mono ?_; rintro e w' ⟨rfl, hb⟩; rw [e2.out]; replace H := bstep H hb; clear hb)
    go_ret
    exact ⟨rfl, bstep H0 H⟩
  | true =>
    have e2 := Lib.hid e1
    obtain rfl : t = botT b := by rw [← hT, e1]; rfl
    clear hT
    simp only [Bt.ok, decide_eq_true_iff] at e1
    go_upto_region 3 with (go_at_call 32; refine (HB.out _).mono ?_; rintro e w' ⟨rfl, hb⟩; rw [e2.out]; replace H := bstep H hb; clear hb)
    have z0 := cell_regrown ((H.cell b0).trans x0)
    have z1 := cell_regrown ((H.cell b0).trans x1)
    have HT2 := Lib.hid (HT1.out.below H)
    clear x0 x1
    have hs1 := itoa_short hk.1 (by omega)
    have hs2 := itoa_short (n := b.y) (by omega) (by omega)
    have HD1 := Lib.hid (fun W hW => decimal_any b.k (by omega) (by omega) W hW)
    have HD2 := Lib.hid (fun W hW => decimal_any b.y (by omega) (by omega) W hW)
    have HE : Hid (.string ⟨(botT b).toArray⟩ = Value.string (((⟨(Lib.itoa b.k).toArray⟩ : ByteArray) ++ ⟨#[58]⟩) ++ ⟨(Lib.itoa b.y).toArray⟩)) := by
      rw [Hid, itoa_nat hk.1, itoa_nat (by omega), botT]
      refine congrArg Value.string (ByteArray.ext ?_)
      simp [ByteArray.data_append]
    have hz1 : (⟨(Lib.itoa b.k).toArray⟩ : ByteArray).size ≤ 100001 := hs1
    have hz2 : (⟨(Lib.itoa b.y).toArray⟩ : ByteArray).size ≤ 100001 := hs2
    clear hs1 hs2
    generalize (⟨(Lib.itoa b.k).toArray⟩ : ByteArray) = SA at HD1 HE hz1
    generalize (⟨(Lib.itoa b.y).toArray⟩ : ByteArray) = SB at HD2 HE hz2
    have f1 : ¬ (9223372036854775807 < SA.size + 1) := by omega
    have f2 : ¬ (9223372036854775807 < SA.size + 1 + SB.size) := by omega
    have H3 := bstep H0 H
    clear H hz1 hz2
    have hwk : IntKind.i64.wrap b.k = b.k := by rw [IntKind.wrap_i64]; omega
    have hwy : IntKind.i64.wrap b.y = b.y := by rw [IntKind.wrap_i64]; omega
    have H := Below.refl w'.heap.size w'
    refine wp_region_qB (by kernel_rfl) (by kernel_rfl) ?_
    (repeat (first | fail | (apply qB_step; intro K hK; go_simp; first | (refine hK _ ?_; clear hK K) | (apply Exists.intro; refine ⟨fun _ => ?_, hK _ ?_⟩; (first | (go_at_call 33 <;> first | exact HD1.out _ (HT2.out.below (below_regrown _ _ _)) | exact HD2.out _ (HT2.out.below (below_regrown _ _ _)))); clear hK K))))
    refine qB_nil ?_
    intro w1 hw1
    replace H := bstep H hw1
    clear hw1
    go_wp2
    go_ret
    exact ⟨congrArg Ending.returned HE.out.symm, bstep H3 H⟩
theorem conv_cell (m : Nat) (hm : m < 256) (x : Int) (hx : x = (m : Int)) (g : Nat) (w : World) (hc : w.cell? ⟨g, 0, none⟩ = some (.int .u8 x)) :
    (convert 59 9 (.slice (some ⟨g, 0, none⟩) 1 1)).run Tryd.prog w = .ok (.string ⟨#[UInt8.ofNat m]⟩) w :=
  run_convert_bytes_back (P := Tryd.prog) w 59 9 5 ⟨g, 0, none⟩ 1 [UInt8.ofNat m] Tryd.underlying59 Tryd.underlying5 Tryd.underlying9 (fun j hj => by
    obtain rfl : j = 0 := by simp at hj; omega
    have e : (⟨g, 0, none⟩ : Addr).add 0 = ⟨g, 0, none⟩ := by unfold Addr.add; split <;> simp_all
    rw [e, hc, hx]
    simp [Nat.mod_eq_of_lt hm])
theorem found_valT {P : Program} {W w w' : World} {γ : Fact} {u : Value} {k : Value → Fact → Prop} {Φ : World → Prop} (hΦ : ∀ w w', Φ w → BelowOf w w' → Φ w') (H : Below W.heap.size W w) (hγ : γ.p w) (hb : Below w.heap.size w w') (hv : Φ w')
    (h : k u (γ.and Φ hΦ)) : gUpon (CF W) P k (.ok (.value u) w') := ⟨γ.and Φ hΦ, ⟨bstep H hb, γ.s _ _ hγ hb, hv⟩, h⟩
theorem sDecimal_any (n : Nat) : n ≤ 1000000 → ∀ w, Calls Tryd.prog 55 #[.int .i64 (n : Int)] w fun e w' => e = .returned (.string ⟨(Lib.decDigits n).toArray⟩) ∧ Below w.heap.size w w' := by
  induction n using Nat.strongRecOn with
  | _ n ih =>
    intro hn w
    have htm : (n : Int).tmod 10 = (n : Int) % 10 := Int.tmod_eq_emod_of_nonneg (by omega)
    have htd : (n : Int).tdiv 10 = (n : Int) / 10 := Int.tdiv_eq_ediv_of_nonneg (by omega)
    have hw1 : IntKind.i64.wrap (48 + (n : Int) % 10) = 48 + (n : Int) % 10 := by rw [IntKind.wrap_i64]; omega
    have hw2 : IntKind.u8.wrap (48 + (n : Int) % 10) = 48 + (n : Int) % 10 := by rw [IntKind.wrap_u8]; omega
    have hw3 : IntKind.i64.wrap ((n : Int) / 10) = (n : Int) / 10 := by rw [IntKind.wrap_i64]; omega
    have hw4 : IntKind.i64.wrap ((n : Int) % 10) = (n : Int) % 10 := by rw [IntKind.wrap_i64]; omega
    have HC := Lib.hid (conv_cell (48 + n % 10) (by omega) (48 + (n : Int) % 10) (by omega))
    by_cases h : n < 10
    · have h2 : (n : Int) < 10 := by omega
      have HE : Hid (Value.string ⟨#[UInt8.ofNat (48 + n % 10)]⟩ = .string ⟨(Lib.decDigits n).toArray⟩) := by
        rw [Hid, Lib.decDigits, dif_pos h, Nat.mod_eq_of_lt h]
      generalize UInt8.ofNat (48 + n % 10) = d at HC HE
      have hc := HC.out w.heap.size (w.alloc (.cells #[.int .u8 (48 + (n : Int) % 10)] 5)) (by simp [go_sem])
      replace h := Lib.hid h
      go_enter Tryd.func55, Tryd.ntmps55
      go_wp2
      go_ret
      exact ⟨congrArg Ending.returned HE.out, by go_grown⟩
    · have h2 : ¬ (n : Int) < 10 := by omega
      have IH := ih (n / 10) (by omega) (by omega)
      have hs := dec_short (n / 10)
      have HE : Hid (Value.string ((⟨(Lib.decDigits (n / 10)).toArray⟩ : ByteArray) ++ ⟨#[UInt8.ofNat (48 + n % 10)]⟩) = .string ⟨(Lib.decDigits n).toArray⟩) := by
        rw [Hid, Lib.decDigits.eq_1 n, dif_neg h]
        refine congrArg Value.string (ByteArray.ext ?_)
        simp [ByteArray.data_append]
      have hz1 : (⟨(Lib.decDigits (n / 10)).toArray⟩ : ByteArray).size ≤ 1000001 := by
        show (Lib.decDigits (n / 10)).toArray.size ≤ _
        simp
        omega
      generalize UInt8.ofNat (48 + n % 10) = d at HC HE
      generalize (⟨(Lib.decDigits (n / 10)).toArray⟩ : ByteArray) = SA at IH HE hz1
      replace IH := Lib.hid IH
      have f1 : ¬ (9223372036854775807 < SA.size + 1) := by omega
      clear hz1 hs ih
      replace h := Lib.hid h
      go_enter Tryd.func55, Tryd.ntmps55
      go_upto_region 3 with fail
      have H := Below.refl w.heap.size w
      refine g_start 11 rfl (by kernel_rfl) ?_
      (refine g_quiet 0 (by kernel_rfl) rfl (fun K hK => ?_); first | ((first | fail); clear hK K) | (go_simp; first | (refine hK _ ?_; clear hK K) | (apply Exists.intro; refine ⟨fun _ => ?_, hK _ ?_⟩; (first | (go_at_call 55 <;> exact IH.out _)); clear hK K)))
      (refine g_quiet 1 (by kernel_rfl) rfl (fun K hK => ?_); first | ((first | fail); clear hK K) | (go_simp; first | (refine hK _ ?_; clear hK K) | (apply Exists.intro; refine ⟨fun _ => ?_, hK _ ?_⟩; (first | (go_at_call 55 <;> exact IH.out _)); clear hK K)))
      (refine g_quiet 2 (by kernel_rfl) rfl (fun K hK => ?_); first | ((first | fail); clear hK K) | (go_simp; first | (refine hK _ ?_; clear hK K) | (apply Exists.intro; refine ⟨fun _ => ?_, hK _ ?_⟩; (first | (go_at_call 55 <;> exact IH.out _)); clear hK K)))
      (refine g_quiet 3 (by kernel_rfl) rfl (fun K hK => ?_); first | ((first | fail); clear hK K) | (go_simp; first | (refine hK _ ?_; clear hK K) | (apply Exists.intro; refine ⟨fun _ => ?_, hK _ ?_⟩; (first | (go_at_call 55 <;> exact IH.out _)); clear hK K)))
      (refine g_quiet 4 (by kernel_rfl) rfl (fun K hK => ?_); first | ((first | fail); clear hK K) | (go_simp; first | (refine hK _ ?_; clear hK K) | (apply Exists.intro; refine ⟨fun _ => ?_, hK _ ?_⟩; (first | (go_at_call 55 <;> exact IH.out _)); clear hK K)))
      (refine g_quiet 5 (by kernel_rfl) rfl (fun K hK => ?_); first | ((first | fail); clear hK K) | (go_simp; first | (refine hK _ ?_; clear hK K) | (apply Exists.intro; refine ⟨fun _ => ?_, hK _ ?_⟩; (first | (go_at_call 55 <;> exact IH.out _)); clear hK K)))
      (refine g_quiet 6 (by kernel_rfl) rfl (fun K hK => ?_); first | ((first | fail); clear hK K) | (go_simp; first | (refine hK _ ?_; clear hK K) | (apply Exists.intro; refine ⟨fun _ => ?_, hK _ ?_⟩; (first | (go_at_call 55 <;> exact IH.out _)); clear hK K)))
      refine g_alone 7 (by kernel_rfl) rfl rfl (fun K hK wx hwx hfx => ?_)
      go_simp
      have hfz : (wx.alloc (.cells #[.int .u8 (48 + (n : Int) % 10)] 5)).cell? ⟨wx.heap.size, 0, none⟩ = some (.int .u8 (48 + (n : Int) % 10)) ∧ wx.heap.size < (wx.alloc (.cells #[.int .u8 (48 + (n : Int) % 10)] 5)).heap.size := ⟨by simp [go_sem], by simp⟩
      refine found_valT (Φ := fun w => w.cell? ⟨wx.heap.size, 0, none⟩ = some (.int .u8 (48 + (n : Int) % 10)) ∧ wx.heap.size < w.heap.size) (fun w w' h hb => ⟨(hb.cell h.2).trans h.1, Nat.lt_of_lt_of_le h.2 hb.size⟩) hwx hfx ((Below.refl _ wx).alloc (Nat.le_refl _) _) hfz (hK _ _ ?_)
      clear hfx hwx hfz hK K
      generalize wx.heap.size = g6
      refine g_alone 8 (by kernel_rfl) rfl rfl (fun K hK wx hwx hfx => ?_)
      have hc := HC.out g6 wx hfx.2.1
      go_simp
      refine found_valT (Φ := fun _ => True) (fun _ _ h _ => h) hwx hfx (Below.refl _ _) trivial (hK _ _ ?_)
      clear hfx hwx hK K hc
      (refine g_quiet 9 (by kernel_rfl) rfl (fun K hK => ?_); first | ((first | fail); clear hK K) | (go_simp; first | (refine hK _ ?_; clear hK K) | (apply Exists.intro; refine ⟨fun _ => ?_, hK _ ?_⟩; (first | fail); clear hK K)))
      (refine g_quiet 10 (by kernel_rfl) rfl (fun K hK => ?_); first | ((first | fail); clear hK K) | (go_simp; first | (refine hK _ ?_; clear hK K) | (apply Exists.intro; refine ⟨fun _ => ?_, hK _ ?_⟩; (first | fail); clear hK K)))
      refine g_done (by kernel_rfl) ?_
      rintro w2 hw2 -
      go_wp2
      go_ret
      exact ⟨congrArg Ending.returned HE.out, hw2⟩
end Go.Proofs.YtbngpcghognojaaDoor
