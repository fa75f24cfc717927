/- Contracts of the readings of numbers: the program's readDecimal. -/
import Derived.Test.YtbngpcghognojaaDoorReadT
import Derived.Shelf.Strconv.ParseIntPublic10
import Derived.Lib.ParseIntBTie
namespace Go.Proofs.YtbngpcghognojaaDoor
open Go Go.Sort Go.RowKit
set_option linter.unusedVariables false
set_option linter.unusedSimpArgs false
set_option maxRecDepth 100000
set_option maxHeartbeats 1000000
attribute [local go_sem] Oper.qB
/-- A variable holds an error or none. -/
def ErrV (w : World) (g : Nat) : Prop := ∃ ev : Value, w.cell? ⟨g, 0, none⟩ = some ev ∧ (ev = .nilIface ∨ ∃ te pe, ev = .iface te pe)
theorem ErrV.below {w w' : World} {g : Nat} (h : ErrV w g) (hb : Below w.heap.size w w') : ErrV w' g := by
  obtain ⟨ev, h1, h2⟩ := h
  exact ⟨ev, (hb.cell (World.block_lt_of_cell? _ _ h1)).trans h1, h2⟩
theorem below_bytes (w : World) (e : TypeId) (s : ByteArray) : Below w.heap.size w (Lib.bytesWorld w e s) :=
  ⟨rfl, rfl, rfl, by rw [Lib.bytesWorld_size]; omega, fun k hk => Lib.bytesWorld_at_old w e s k hk⟩
theorem readDecimal_any (l : List UInt8) (lo hi : Nat) (hh : hi < 1000000) (hl : l.length ≤ 1048576) (w : World) (ht : Tab w) (h2 : ErrV w (Tryd.lx66_ren.g 15)) (h3 : ErrV w (Tryd.lx66_ren.g 16)) :
    Calls Tryd.prog 48 #[.string ⟨l.toArray⟩, .int .i64 (lo : Int), .int .i64 (hi : Int)] w fun e w' => (∃ n : Int, e = .returned (.tuple #[.int .i64 n, .bool (rdR lo hi l)]) ∧ (rdR lo hi l = true → n = (valD l : Int))) ∧ Below w.heap.size w w' := by
  have hsz := size_text l
  have htl : (⟨l.toArray⟩ : ByteArray).data.toList = l := by simp
  have htl2 : (⟨l.toArray⟩ : ByteArray).toList = l := by simp
  have H := Below.refl w.heap.size w
  have hlo : ∀ v : Int, (decide ((lo : Int) ≤ v) && decide (v ≤ (hi : Int))) = true ↔ (lo : Int) ≤ v ∧ v ≤ (hi : Int) := fun v => by simp
  rcases hp : Lib.parseIntB 64 l with v | _ | _
  · obtain ⟨hv1, hv2⟩ := Lib.parseIntB_bounds hp
    have hv3 : -9223372036854775808 ≤ v := hv1
    have hv4 : v ≤ 9223372036854775807 := by have : v < 9223372036854775808 := hv2; omega
    have HR : Hid (rdR lo hi l = ((Lib.itoa v == l) && (decide ((lo : Int) ≤ v) && decide (v ≤ (hi : Int))))) := by
      rw [Hid, Bool.eq_iff_iff, rdR_iff (by omega), Bool.and_eq_true, hlo, beq_iff_eq]
      constructor
      · rintro ⟨u, h, h5⟩
        rw [hp] at h
        obtain rfl : v = u := by simpa using h
        exact ⟨h5.1, h5.2.1, h5.2.2⟩
      · rintro ⟨h, h5⟩
        exact ⟨v, hp, h, h5.1, h5.2⟩
    have HV : Hid (rdR lo hi l = true → v = (valD l : Int)) := fun h => by
      simp only [rdR, Bool.and_eq_true, decide_eq_true_iff] at h
      have := parse_ok h.1 (by omega)
      rw [hp] at this
      simpa using this
    have HP := Any.strconv_ParseInt_10_at64_ok Tryd.lx66 ⟨l.toArray⟩ (by rw [hsz]; omega) v (by rw [htl]; exact hp) w
    replace HP := Lib.hid (HP.mono (R' := fun e w' => e = .returned (.tuple #[.int .i64 v, .nilIface]) ∧ Below w.heap.size w w') (fun e w' ⟨he, hw⟩ => ⟨he, by
      rcases hw with rfl | ⟨t, rfl⟩
      · exact Below.refl _ _
      · exact below_bytes _ _ _⟩))
    have HD := Lib.hid (fun W hW => decimal_any v hv3 hv4 W hW)
    have hti : (⟨(Lib.itoa v).toArray⟩ : ByteArray).toList = Lib.itoa v := by simp
    have HI := Lib.hid (within_any v (lo : Int) (hi : Int))
    have HT := Lib.hid ht
    generalize (decide ((lo : Int) ≤ v) && decide (v ≤ (hi : Int))) = q at HR HI
    generalize (⟨(Lib.itoa v).toArray⟩ : ByteArray) = SI at HD hti
    generalize Lib.itoa v = li at HR hti
    generalize (⟨l.toArray⟩ : ByteArray) = S at HP hsz htl2 ⊢
    clear hlo hp hv1 hv2 hv3 hv4
    cases e1 : (li == l) with
    | false =>
      rw [e1] at HR
      go_enter Tryd.func48, Tryd.ntmps48
      go_wp2_with (first | (go_at_call 66; refine HP.out.mono ?_; rintro e w1 ⟨rfl, hb⟩; replace H := bstep H hb; clear hb) | (go_at_call 33; refine (HD.out _ (HT.out.below H)).mono ?_; rintro e w1 ⟨rfl, hb⟩; replace H := bstep H hb; clear hb))
      rw [HR.out]
      exact bodyPost_ret (results_tt rfl) rfl ⟨⟨_, rfl, fun h => by cases h⟩, H⟩
    | true =>
      rw [e1] at HR
      have HR2 : Hid (rdR lo hi l = q) := by rw [Hid, HR.out, Bool.true_and]
      go_enter Tryd.func48, Tryd.ntmps48
      go_wp2_with (first | (go_at_call 66; refine HP.out.mono ?_; rintro e w1 ⟨rfl, hb⟩; replace H := bstep H hb; clear hb) | (go_at_call 33; refine (HD.out _ (HT.out.below H)).mono ?_; rintro e w1 ⟨rfl, hb⟩; replace H := bstep H hb; clear hb) | (go_at_call 56; refine (HI.out _).mono ?_; rintro e w1 ⟨rfl, rfl⟩))
      rw [HR2.out]
      exact bodyPost_ret (results_tt rfl) rfl ⟨⟨_, rfl, fun h => HV.out (by rw [HR2.out]; exact h)⟩, H⟩
  · have HR : Hid (rdR lo hi l = false) := by
      rw [Hid, ← Bool.not_eq_true, rdR_iff (by omega)]
      rintro ⟨v, h, _⟩
      rw [hp] at h
      cases h
    obtain ⟨ev, hv, hev⟩ := h2
    have HP := Lib.hid (Any.strconv_ParseInt_10_at64_syntax Tryd.lx66 ⟨l.toArray⟩ (by rw [hsz]; omega) (by rw [htl]; exact hp) ev w hv hev)
    generalize (⟨l.toArray⟩ : ByteArray) = S at HP hsz htl2 ⊢
    go_enter Tryd.func48, Tryd.ntmps48
    go_wp2_with (go_at_call 66; refine HP.out.mono ?_; rintro e w1 ⟨N, rfl, hN, -, hb⟩; replace H := bstep H hb; clear hb)
    rw [HR.out]
    exact bodyPost_ret (results_tt rfl) rfl ⟨⟨_, rfl, fun h => by cases h⟩, H⟩
  · have HR : Hid (rdR lo hi l = false) := by
      rw [Hid, ← Bool.not_eq_true, rdR_iff (by omega)]
      rintro ⟨v, h, _⟩
      rw [hp] at h
      cases h
    obtain ⟨ev, hv, hev⟩ := h3
    have HP := Any.strconv_ParseInt_10_at64_range Tryd.lx66 ⟨l.toArray⟩ (by rw [hsz]; omega) (by rw [htl]; exact hp) ev w hv hev
    rw [htl] at HP
    generalize Lib.intSat 64 l = sat at HP
    replace HP := Lib.hid HP
    generalize (⟨l.toArray⟩ : ByteArray) = S at HP hsz htl2 ⊢
    go_enter Tryd.func48, Tryd.ntmps48
    go_wp2_with (go_at_call 66; refine HP.out.mono ?_; rintro e w1 ⟨N, rfl, hN, -, hb⟩; replace H := bstep H hb; clear hb)
    rw [HR.out]
    exact bodyPost_ret (results_tt rfl) rfl ⟨⟨_, rfl, fun h => by cases h⟩, H⟩
end Go.Proofs.YtbngpcghognojaaDoor
