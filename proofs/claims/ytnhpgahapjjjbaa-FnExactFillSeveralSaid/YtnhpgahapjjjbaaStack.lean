/- Slices of crates: compared, checked, copied. -/
import Derived.Test.YtnhpgahapjjjbaaSlc
import Derived.Test.YtnhpgahapjjjbaaList
import Derived.Test.YtnhpgahapjjjbaaConv
import Derived.Test.YtnhpgahapjjjbaaFunc
import Derived.Test.YtnhpgahapjjjbaaDrawn
import Derived.Test.YtnhpgahapjjjbaaPlace
namespace Go.Proofs.Ytnhpgahapjjjbaa
open Go.RowKit
set_option linter.unusedVariables false
set_option linter.unusedSimpArgs false
set_option maxRecDepth 100000
set_option maxHeartbeats 1000000
theorem run_forAll {P : Program} {w : World} (g : Nat → Option Bool × Unit → Sem (ForInStep (Option Bool × Unit))) (q : Nat → Bool) (l : List Nat) (h : ∀ i ∈ l, ∀ s, (g i s).run P w = .ok (if q i then .yield (none, ()) else .done (some false, ())) w) :
    (forIn l (none, ()) g).run P w = .ok (if l.all q then (none, ()) else (some false, ())) w := by
  induction l with
  | nil => simp
  | cons i l ih =>
    rw [List.forIn_cons, Sem.run_bind, h i (by simp)]
    cases hq : q i with
    | true =>
      simp only [↓reduceIte, Result.andThen_ok]
      rw [ih fun j hj => h j (by simp [hj])]
      simp [hq]
    | false => simp [hq]
theorem like_all (a b : Cr) : ((List.range' 0 12).all fun i => (rB a.toList i).like (rB b.toList i)) = decide (a = b) := by
  rw [Bool.eq_iff_iff, decide_eq_true_iff, List.all_eq_true]
  constructor
  · intro h
    apply Vector.toArray_inj.1
    apply Array.toList_inj.1
    apply List.ext_getElem (by simp)
    intro i hi hi'
    have := h i (by simp at hi ⊢; omega)
    rw [Bt.like_iff, rB_lt (by simpa using hi), rB_lt (by simpa using hi')] at this
    exact this
  · rintro rfl i _
    exact Bt.like_iff.2 rfl
/-- What 'make' lays. -/
theorem made_fl {α : Type} [Inhabited α] {f : α → List Value} {k : Nat} (hf : ∀ x, (f x).length = k) (hk : 0 < k) (z : α) (a : Array Value) (ha : a = (f z).toArray) (n : Nat) : (madeCells a (n * k)).toList = fl f (List.replicate n z) := by
  subst ha
  have hl : (fl f (List.replicate n z)).length = n * k := by rw [fl_length hf, List.length_replicate]
  apply List.ext_getElem?
  intro m
  by_cases hm : m < n * k
  · have hq : m / k < n := by rw [Nat.div_lt_iff_lt_mul hk]; exact hm
    have hr : m % k < (f z).length := by rw [hf]; exact Nat.mod_lt _ hk
    have e : m / k * k + m % k = m := Nat.div_add_mod' m k
    have h2 := fl_at hf (List.replicate n z) (m / k) (by simpa using hq) (m % k) _ (by rw [getB (by simpa using hq), List.getElem_replicate]; exact List.getElem?_eq_getElem hr)
    rw [e] at h2
    rw [h2]
    simp [madeCells, hm, hf, hr, Nat.mod_lt _ hk]
  · rw [List.getElem?_eq_none (by simp [size_madeCells]; omega), List.getElem?_eq_none (by rw [hl]; omega)]
/-- All crates valid, and no more than a stack holds. -/
def stackOk (l : List Cr) : Bool := decide (l.length ≤ 12) && l.all Cr.ok
theorem fl_cc_length (l : List Cr) : (fl cc l).length = l.length * 24 := fl_length cc_length l
theorem infoCl (c : Cr) : (Try.prog.info? 28).map (·.size) = some (cc c).length := by rw [cc_length]; kernel_rfl
theorem run_part (c : Cr) (k : Nat) (h : k < 12) (w : World) : (part 26 (cc c).toArray (k * 2)).run Try.prog w = .ok (.agg #[.int .u8 (rB c.toList k).k, .int .i16 (rB c.toList k).y]) w := by
  have hu := Try.underlying26
  have hE := cc_take c k h
  simp [go_sem, part, hE]
theorem eqC (d : Nat) (w : World) (a b : Cr) : (Op.equalIn (d + 3) 28 (.agg (cc a).toArray) (.agg (cc b).toArray)).run Try.prog w = .ok (decide (a = b)) w := by
  have hu := Try.underlying28
  unfold Op.equalIn
  simp only [Sem.run_bind, run_underlying hu, Result.andThen_ok, Try.sizeOf26]
  rw [Std.Legacy.Range.forIn_eq_forIn_range', run_forAll _ (fun i => (rB a.toList i).like (rB b.toList i))]
  · have e : ((List.range' [:12].start [:12].size [:12].step).all fun i => (rB a.toList i).like (rB b.toList i)) = decide (a = b) := like_all a b
    rw [Result.andThen_ok, e]
    cases decide (a = b) <;> simp
  · intro i hi s
    have hi : i < 12 := by simpa using hi
    rw [Sem.run_bind, run_part a i hi, Result.andThen_ok, Sem.run_bind, run_part b i hi, Result.andThen_ok, Sem.run_bind, eqB, Result.andThen_ok]
    show Sem.run Try.prog (if (!((rB a.toList i).like (rB b.toList i))) = true then _ else _) w = _
    cases (rB a.toList i).like (rB b.toList i) <;> simp
theorem l01Stack_any (b off c : Nat) (l : List Cr) (w : World) (hC : CAt w b off (fl cc l)) (hb : b < w.heap.size) (hn : l.length ≤ 1000000000) :
    Calls Try.prog 104 #[.slice (some ⟨b, off, none⟩) l.length c] w fun e w' => e = .returned (.bool (stackOk l)) ∧ Below w.heap.size w w' := by
  have HC := Lib.hid (⟨hC, hb⟩ : _ ∧ _)
  clear hC hb
  have HS : Hid (l.all Cr.ok = true → stackOk l = decide (l.length ≤ 12)) := fun h => by rw [stackOk, h, Bool.and_true]
  have HT : Hid (l.all Cr.ok = false → stackOk l = false) := fun h => by rw [stackOk, h, Bool.and_false]
  go_enter Try.func104, Try.ntmps104
  go_wp2
  go_loopw [3] (fun i wr => ∃ k : Nat, k ≤ l.length ∧ i = .int .i64 k ∧ Hid ((l.take k).all Cr.ok = true) ∧ Below w.heap.size w wr) (fun i _ => l.length - (intOf i).toNat)
  case atStart => exact ⟨0, Nat.zero_le _, rfl, rfl, Below.refl _ _⟩
  case round =>
    obtain ⟨k, hk, rfl, H1, hb⟩ := hrel
    by_cases hlt : k < l.length
    · have HX := Lib.hid ((HC.out.1.below hb HC.out.2).el cc_length hlt)
      have HW := Lib.hid (Nat.lt_of_lt_of_le HC.out.2 hb.size)
      have H2 : Hid (l[k]!.ok = true → (l.take (k + 1)).all Cr.ok = true) := fun h => by
        rw [List.take_succ_eq_append_getElem hlt, List.all_append, H1.out, ← getB hlt]
        show (true && (l[k]!.ok && true)) = true
        rw [h]
        rfl
      have H3 : Hid (l[k]!.ok = false → l.all Cr.ok = false) := fun h => by
        rw [List.all_eq_false]
        exact ⟨_, List.getElem_mem hlt, by rw [← getB hlt, h]; simp⟩
      have hlt2 : (k : Int) < (l.length : Int) := by omega
      generalize l[k]! = x at HX H2 H3
      cases e1 : x.ok with
      | true =>
        go_wp2_with (go_at_call 64; refine (l01Ok_any b (off + k * 24) x _ HX.out HW.out).mono ?_; rintro e w' ⟨rfl, hb1⟩)
        go_roundw
        case rel => exact ⟨k + 1, by omega, by go_num, H2.out e1, bstep hb hb1⟩
        case measure => simp [intOf]; omega
      | false =>
        go_wp2_with (go_at_call 64; refine (l01Ok_any b (off + k * 24) x _ HX.out HW.out).mono ?_; rintro e w' ⟨rfl, hb1⟩)
        go_ret
        exact ⟨ret_bool (HT.out (H3.out e1)).symm, bstep hb hb1⟩
    · obtain rfl : k = l.length := by omega
      rw [List.take_length] at H1
      go_wp2
      go_ret
      exact ⟨ret_bool (by rw [HS.out H1.out, Bool.eq_iff_iff]; simp; omega), hb⟩
theorem ValidStack1_any (c : Cr) (w : World) : Calls Try.prog 135 #[cv c] w fun e w' => e = .returned (.bool (!c.ok)) ∧ Below w.heap.size w w' := by
  go_enter Try.func135, Try.ntmps135
  go_upto_region 1 with fail
  generalize hW : World.alloc _ _ = W
  have H0 : Below w.heap.size w W := by rw [← hW]; go_grown
  have r0 : rowOf W (w.heap.size) = some ((cc c).toArray) := (by (try rw [← hW]); simp only [rowOf_alloc, World.size_alloc, ↓reduceIte]; all_goals ((repeat' split) <;> first | omega | (exfalso; omega) | rfl))
  clear hW
  have l0 : w.heap.size ≤ w.heap.size := Nat.le_refl _
  generalize h0 : w.heap.size = g0 at r0 ⊢
  replace l0 : w.heap.size ≤ g0 := Nat.le_of_eq h0
  clear h0
  have b0 := rowOf_lt r0
  have H := Below.refl W.heap.size W
  go_wp2_with (first | ((with_reducible refine wp_load_rowBg H ?_ _ _ rfl _ rfl _ r0 _ Try.underlying28 rfl (infoC c) ?_); rfl) | (go_at_call 68; with_reducible refine (ValidCrate_any c _).mono ?_; rintro e w' ⟨rfl, hb⟩; replace H := bstep H hb; clear hb; have hc := bcell H))
  go_ret
  exact ⟨rfl, bstep H0 H⟩
theorem ContainsFunc_crate (g : Nat) (p : Cr → Bool) (eg : ∀ args w, (callFunc g args).run Try.prog w = .ok (.enter g args) w) (b off c : Nat) (l : List Cr) (w : World) (hm : l.length ≤ 1000000000)
    (hp : PredBelow Try.prog g #[] (fun x : Cr => .agg (cc x).toArray) p w) (hC : CAt w b off (fl cc l)) (hb : b < w.heap.size) :
    Calls Try.prog 134 #[.slice (some ⟨b, off, none⟩) l.length c, .func (.func g) #[] #[]] w fun e w' => e = .returned (.bool (l.any p)) ∧ Below w.heap.size w w' := by
  have := AnyQ.slices_ContainsFunc Try.lx134 24 Try.isAgg28 Try.sizeOf28 cc cc_length p g #[] eg b off l.length c l w hp (Nat.le_refl _) (by omega) hb (fun j hj i v hv => by have := hC.el cc_length hj i v hv; rwa [Nat.add_assoc] at this ⊢)
  rwa [List.take_length] at this
theorem any_ok (l : List Cr) : l.any (fun x => !x.ok) = !l.all Cr.ok := by rw [List.not_all_eq_any_not]
theorem ok_pays (w : World) : PredBelow Try.prog 135 #[] (fun x : Cr => .agg (cc x).toArray) (fun x => !x.ok) w :=
  fun W x hb => (ValidStack1_any x W).mono fun _ _ ⟨he, h⟩ => ⟨he, hb.trans (h.mono hb.size)⟩
theorem ValidStack_any (b off c : Nat) (l : List Cr) (w : World) (hC : CAt w b off (fl cc l)) (hb : b < w.heap.size) (hn : l.length ≤ 1000000000) :
    Calls Try.prog 97 #[.slice (some ⟨b, off, none⟩) l.length c] w fun e w' => e = .returned (.bool (stackOk l)) ∧ Below w.heap.size w w' := by
  have H := any_ok l
  by_cases h12 : l.length ≤ 12
  · have HS : Hid (stackOk l = l.all Cr.ok) := by rw [Hid, stackOk, decide_eq_true h12, Bool.true_and]
    have h13 : (l.length : Int) ≤ 12 := by omega
    generalize l.all Cr.ok = r at H HS
    go_enter Try.func97, Try.ntmps97
    go_wp2_with (go_at_call 134; refine (ContainsFunc_crate 135 (fun x => !x.ok) (enters_of Try.func135 (by kernel_rfl) rfl) b off c l _ hn (ok_pays _) hC hb).mono ?_; rintro e w' ⟨rfl, hb1⟩; rw [H])
    go_ret
    exact ⟨ret_bool (by rw [HS.out]; first | done | simp), hb1⟩
  · have HS : Hid (stackOk l = false) := by rw [Hid, stackOk, decide_eq_false h12, Bool.false_and]
    have h13 : ¬ (l.length : Int) ≤ 12 := by omega
    go_enter Try.func97, Try.ntmps97
    go_wp2
    go_ret
    exact ⟨ret_bool HS.out.symm, Below.refl _ _⟩
end Go.Proofs.Ytnhpgahapjjjbaa
