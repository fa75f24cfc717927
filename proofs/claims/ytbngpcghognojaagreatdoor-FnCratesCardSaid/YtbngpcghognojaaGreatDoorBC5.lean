/- Texts of the claim, joined (5 of 19): Stack, CrateS, Want, WantS, Own, MarkW, Compare, Sort. -/
import Derived.StillTailTactics
import Derived.Handy
import Derived.Shelf.SlSortCmp.NoneTotal
import Derived.Test.YtbngpcghognojaaGreatDoorBC1
import Derived.Test.YtbngpcghognojaaGreatDoorBC3
import Derived.Test.YtbngpcghognojaaGreatDoorBC4
namespace Go.Proofs.YtbngpcghognojaaGreatDoor
open Go.RowKit
set_option linter.unusedVariables false
set_option linter.unusedSimpArgs false
set_option maxRecDepth 100000
set_option maxHeartbeats 1000000
theorem run_forAll {P : Program} {w : World} (g : Nat → Option Bool × Unit → Sem (ForInStep (Option Bool × Unit))) (q : Nat → Bool) (l : List Nat) (h : ∀ i ∈ l, ∀ s, (g i s).run P w = .ok (if q i then .yield (none, ()) else .done (some false, ())) w) :
    (forIn l (none, ()) g).run P w = .ok (if l.all q then (none, ()) else (some false, ())) w := by
  induction l with
  | nil => simp
  | cons i l ih =>
    rw [List.forIn_cons, Sem.run_bind, h i (by simp)]
    cases hq : q i with
    | true =>
      simp only [↓reduceIte, Result.andThen_ok]
      rw [ih fun j hj => h j (by simp [hj])]
      simp [hq]
    | false => simp [hq]
theorem like_all (a b : Cr) : ((List.range' 0 12).all fun i => (rB a.toList i).like (rB b.toList i)) = decide (a = b) := by
  rw [Bool.eq_iff_iff, decide_eq_true_iff, List.all_eq_true]
  constructor
  · intro h
    apply Vector.toArray_inj.1
    apply Array.toList_inj.1
    apply List.ext_getElem (by simp)
    intro i hi hi'
    have := h i (by simp at hi ⊢; omega)
    rw [Bt.like_iff, rB_lt (by simpa using hi), rB_lt (by simpa using hi')] at this
    exact this
  · rintro rfl i _
    exact Bt.like_iff.2 rfl
/-- What 'make' lays. -/
theorem made_fl {α : Type} [Inhabited α] {f : α → List Value} {k : Nat} (hf : ∀ x, (f x).length = k) (hk : 0 < k) (z : α) (a : Array Value) (ha : a = (f z).toArray) (n : Nat) : (madeCells a (n * k)).toList = fl f (List.replicate n z) := by
  subst ha
  have hl : (fl f (List.replicate n z)).length = n * k := by rw [fl_length hf, List.length_replicate]
  apply List.ext_getElem?
  intro m
  by_cases hm : m < n * k
  · have hq : m / k < n := by rw [Nat.div_lt_iff_lt_mul hk]; exact hm
    have hr : m % k < (f z).length := by rw [hf]; exact Nat.mod_lt _ hk
    have e : m / k * k + m % k = m := Nat.div_add_mod' m k
    have h2 := fl_at hf (List.replicate n z) (m / k) (by simpa using hq) (m % k) _ (by rw [getB (by simpa using hq), List.getElem_replicate]; exact List.getElem?_eq_getElem hr)
    rw [e] at h2
    rw [h2]
    simp [madeCells, hm, hf, hr, Nat.mod_lt _ hk]
  · rw [List.getElem?_eq_none (by simp [size_madeCells]; omega), List.getElem?_eq_none (by rw [hl]; omega)]
/-- All crates valid, and no more than a stack holds. -/
def stackOk (l : List Cr) : Bool := decide (l.length ≤ 12) && l.all Cr.ok
theorem fl_cc_length (l : List Cr) : (fl cc l).length = l.length * 24 := fl_length cc_length l
theorem infoCl (c : Cr) : (Tryz.prog.info? 28).map (·.size) = some (cc c).length := by rw [cc_length]; kernel_rfl
theorem run_part (c : Cr) (k : Nat) (h : k < 12) (w : World) : (part 26 (cc c).toArray (k * 2)).run Tryz.prog w = .ok (.agg #[.int .u8 (rB c.toList k).k, .int .i16 (rB c.toList k).y]) w := by
  have hu := Tryz.underlying26
  have hE := cc_take c k h
  simp [go_sem, part, hE]
theorem eqC (d : Nat) (w : World) (a b : Cr) : (Op.equalIn (d + 3) 28 (.agg (cc a).toArray) (.agg (cc b).toArray)).run Tryz.prog w = .ok (decide (a = b)) w := by
  have hu := Tryz.underlying28
  unfold Op.equalIn
  simp only [Sem.run_bind, run_underlying hu, Result.andThen_ok, Tryz.sizeOf26]
  rw [Std.Legacy.Range.forIn_eq_forIn_range', run_forAll _ (fun i => (rB a.toList i).like (rB b.toList i))]
  · have e : ((List.range' [:12].start [:12].size [:12].step).all fun i => (rB a.toList i).like (rB b.toList i)) = decide (a = b) := like_all a b
    rw [Result.andThen_ok, e]
    cases decide (a = b) <;> simp
  · intro i hi s
    have hi : i < 12 := by simpa using hi
    rw [Sem.run_bind, run_part a i hi, Result.andThen_ok, Sem.run_bind, run_part b i hi, Result.andThen_ok, Sem.run_bind, eqB, Result.andThen_ok]
    show Sem.run Tryz.prog (if (!((rB a.toList i).like (rB b.toList i))) = true then _ else _) w = _
    cases (rB a.toList i).like (rB b.toList i) <;> simp
theorem l01Stack_any (b off c : Nat) (l : List Cr) (w : World) (hC : CAt w b off (fl cc l)) (hb : b < w.heap.size) (hn : l.length ≤ 1000000000) :
    Calls Tryz.prog 140 #[.slice (some ⟨b, off, none⟩) l.length c] w fun e w' => e = .returned (.bool (stackOk l)) ∧ Below w.heap.size w w' := by
  have HC := Lib.hid (⟨hC, hb⟩ : _ ∧ _)
  clear hC hb
  have HS : Hid (l.all Cr.ok = true → stackOk l = decide (l.length ≤ 12)) := fun h => by rw [stackOk, h, Bool.and_true]
  have HT : Hid (l.all Cr.ok = false → stackOk l = false) := fun h => by rw [stackOk, h, Bool.and_false]
  go_enter Tryz.func140, Tryz.ntmps140
  go_wp2
  go_loopw [3] (fun i wr => ∃ k : Nat, k ≤ l.length ∧ i = .int .i64 k ∧ Hid ((l.take k).all Cr.ok = true) ∧ Below w.heap.size w wr) (fun i _ => l.length - (intOf i).toNat)
  case atStart => exact ⟨0, Nat.zero_le _, rfl, rfl, Below.refl _ _⟩
  case round =>
    obtain ⟨k, hk, rfl, H1, hb⟩ := hrel
    by_cases hlt : k < l.length
    · have HX := Lib.hid ((HC.out.1.below hb HC.out.2).el cc_length hlt)
      have HW := Lib.hid (Nat.lt_of_lt_of_le HC.out.2 hb.size)
      have H2 : Hid (l[k]!.ok = true → (l.take (k + 1)).all Cr.ok = true) := fun h => by
        rw [List.take_succ_eq_append_getElem hlt, List.all_append, H1.out, ← getB hlt]
        show (true && (l[k]!.ok && true)) = true
        rw [h]
        rfl
      have H3 : Hid (l[k]!.ok = false → l.all Cr.ok = false) := fun h => by
        rw [List.all_eq_false]
        exact ⟨_, List.getElem_mem hlt, by rw [← getB hlt, h]; simp⟩
      have hlt2 : (k : Int) < (l.length : Int) := by omega
      generalize l[k]! = x at HX H2 H3
      cases e1 : x.ok with
      | true =>
        go_wp2_with (go_at_call 68; refine (l01Ok_any b (off + k * 24) x _ HX.out HW.out).mono ?_; rintro e w' ⟨rfl, hb1⟩)
        go_roundw
        case rel => exact ⟨k + 1, by omega, by go_num, H2.out e1, bstep hb hb1⟩
        case measure => simp [intOf]; omega
      | false =>
        go_wp2_with (go_at_call 68; refine (l01Ok_any b (off + k * 24) x _ HX.out HW.out).mono ?_; rintro e w' ⟨rfl, hb1⟩)
        go_ret
        exact ⟨ret_bool (HT.out (H3.out e1)).symm, bstep hb hb1⟩
    · obtain rfl : k = l.length := by omega
      rw [List.take_length] at H1
      go_wp2
      go_ret
      exact ⟨ret_bool (by rw [HS.out H1.out, Bool.eq_iff_iff]; simp; omega), hb⟩
theorem ValidStack1_any (c : Cr) (w : World) : Calls Tryz.prog 139 #[cv c] w fun e w' => e = .returned (.bool (!c.ok)) ∧ Below w.heap.size w w' := by
  go_enter Tryz.func139, Tryz.ntmps139
  go_upto_region 1 with fail
  generalize hW : World.alloc _ _ = W
  have H0 : Below w.heap.size w W := by rw [← hW]; go_grown
  have r0 : rowOf W (w.heap.size) = some ((cc c).toArray) := (by (try rw [← hW]); simp only [rowOf_alloc, World.size_alloc, ↓reduceIte]; all_goals ((repeat' split) <;> first | omega | (exfalso; omega) | rfl))
  clear hW
  have l0 : w.heap.size ≤ w.heap.size := Nat.le_refl _
  generalize h0 : w.heap.size = g0 at r0 ⊢
  replace l0 : w.heap.size ≤ g0 := Nat.le_of_eq h0
  clear h0
  have b0 := rowOf_lt r0
  have H := Below.refl W.heap.size W
  go_wp2_with (first | ((with_reducible refine wp_load_rowBg H ?_ _ _ rfl _ rfl _ r0 _ Tryz.underlying28 rfl (infoC c) ?_); rfl) | (go_at_call 18; with_reducible refine (ValidCrate_any c _).mono ?_; rintro e w' ⟨rfl, hb⟩; replace H := bstep H hb; clear hb; have hc := bcell H))
  go_ret
  exact ⟨rfl, bstep H0 H⟩
theorem ContainsFunc_crate (g : Nat) (p : Cr → Bool) (eg : ∀ args w, (callFunc g args).run Tryz.prog w = .ok (.enter g args) w) (b off c : Nat) (l : List Cr) (w : World) (hm : l.length ≤ 1000000000)
    (hp : PredBelow Tryz.prog g #[] (fun x : Cr => .agg (cc x).toArray) p w) (hC : CAt w b off (fl cc l)) (hb : b < w.heap.size) :
    Calls Tryz.prog 138 #[.slice (some ⟨b, off, none⟩) l.length c, .func (.func g) #[] #[]] w fun e w' => e = .returned (.bool (l.any p)) ∧ Below w.heap.size w w' := by
  have := AnyQ.slices_ContainsFunc Tryz.lx138 24 Tryz.isAgg28 Tryz.sizeOf28 cc cc_length p g #[] eg b off l.length c l w hp (Nat.le_refl _) (by omega) hb (fun j hj i v hv => by have := hC.el cc_length hj i v hv; rwa [Nat.add_assoc] at this ⊢)
  rwa [List.take_length] at this
theorem any_ok (l : List Cr) : l.any (fun x => !x.ok) = !l.all Cr.ok := by rw [List.not_all_eq_any_not]
theorem ok_pays (w : World) : PredBelow Tryz.prog 139 #[] (fun x : Cr => .agg (cc x).toArray) (fun x => !x.ok) w :=
  fun W x hb => (ValidStack1_any x W).mono fun _ _ ⟨he, h⟩ => ⟨he, hb.trans (h.mono hb.size)⟩
theorem ValidStack_any (b off c : Nat) (l : List Cr) (w : World) (hC : CAt w b off (fl cc l)) (hb : b < w.heap.size) (hn : l.length ≤ 1000000000) :
    Calls Tryz.prog 103 #[.slice (some ⟨b, off, none⟩) l.length c] w fun e w' => e = .returned (.bool (stackOk l)) ∧ Below w.heap.size w w' := by
  have H := any_ok l
  by_cases h12 : l.length ≤ 12
  · have HS : Hid (stackOk l = l.all Cr.ok) := by rw [Hid, stackOk, decide_eq_true h12, Bool.true_and]
    have h13 : (l.length : Int) ≤ 12 := by omega
    generalize l.all Cr.ok = r at H HS
    go_enter Tryz.func103, Tryz.ntmps103
    go_wp2_with (go_at_call 138; refine (ContainsFunc_crate 139 (fun x => !x.ok) (enters_of Tryz.func139 (by kernel_rfl) rfl) b off c l _ hn (ok_pays _) hC hb).mono ?_; rintro e w' ⟨rfl, hb1⟩; rw [H])
    go_ret
    exact ⟨ret_bool (by rw [HS.out]; first | done | simp), hb1⟩
  · have HS : Hid (stackOk l = false) := by rw [Hid, stackOk, decide_eq_false h12, Bool.false_and]
    have h13 : ¬ (l.length : Int) ≤ 12 := by omega
    go_enter Tryz.func103, Tryz.ntmps103
    go_wp2
    go_ret
    exact ⟨ret_bool HS.out.symm, Below.refl _ _⟩
attribute [local go_sem] Oper.qB
attribute [local go_sem high] eqC
theorem sSameStack_any (b off c b' off' c' : Nat) (l m : List Cr) (w : World) (hC : CAt w b off (fl cc l)) (hC' : CAt w b' off' (fl cc m)) (hb : b < w.heap.size) (hb' : b' < w.heap.size) (hn : l.length ≤ 1000000000) (hm : m.length ≤ 1000000000) :
    Calls Tryz.prog 55 #[.slice (some ⟨b, off, none⟩) l.length c, .slice (some ⟨b', off', none⟩) m.length c'] w fun e w' => e = .returned (.bool (decide (l = m))) ∧ Below w.heap.size w w' := by
  have HC := Lib.hid (⟨hC, hC', hb, hb'⟩ : _ ∧ _ ∧ _ ∧ _)
  clear hC hC' hb hb'
  by_cases hlen : l.length = m.length
  · rw [← hlen]
    replace hlen := Lib.hid hlen
    go_enter Tryz.func55, Tryz.ntmps55
    go_wp2
    go_loopw [5] (fun i wr => ∃ k : Nat, k ≤ l.length ∧ i = .int .i64 k ∧ Hid (l.take k = m.take k) ∧ Below w.heap.size w wr) (fun i _ => l.length - (intOf i).toNat)
    case atStart => exact ⟨0, Nat.zero_le _, rfl, rfl, Below.refl _ _⟩
    case round =>
      obtain ⟨k, hk, rfl, H1, hb⟩ := hrel
      by_cases hlt : k < l.length
      · have hlt' : k < m.length := by rw [← hlen.out]; exact hlt
        have HX := Lib.hid ((HC.out.1.below hb HC.out.2.2.1).el cc_length hlt)
        have HY := Lib.hid ((HC.out.2.1.below hb HC.out.2.2.2).el cc_length hlt')
        have HG := Lib.hid (Nat.lt_of_lt_of_le HC.out.2.2.1 hb.size)
        have HG' := Lib.hid (Nat.lt_of_lt_of_le HC.out.2.2.2 hb.size)
        have H2 : Hid (l[k]! = m[k]! → l.take (k + 1) = m.take (k + 1)) := fun h => by
          rw [List.take_succ_eq_append_getElem hlt, List.take_succ_eq_append_getElem hlt', H1.out, ← getB hlt, ← getB hlt', h]
        have H3 : Hid (l[k]! ≠ m[k]! → l ≠ m) := fun h e => h (by rw [e])
        have hlt2 : (k : Int) < (l.length : Int) := by omega
        clear hlt'
        generalize l[k]! = x at HX H2 H3
        generalize m[k]! = y at HY H2 H3
        go_upto_region 6 with fail
        have H := Below.refl wr.heap.size wr
        by_cases e : x = y
        · have H2' := Lib.hid (H2.out e)
          clear H2 H3
          subst e
          refine g_start 9 rfl (by kernel_rfl) ?_
          (refine g_quiet 0 (by kernel_rfl) rfl (fun K hK => ?_); first | ((first | (refine qB_CAtK H rfl _ _ rfl _ _ rfl (cc x) HX.out HG.out _ Tryz.underlying28 rfl (infoCl x) (hK _ ?_)) | (refine qB_CAtK H rfl _ _ rfl _ _ rfl (cc x) HY.out HG'.out _ Tryz.underlying28 rfl (infoCl x) (hK _ ?_))); clear hK K) | (go_simp; first | (refine hK _ ?_; clear hK K) | (apply Exists.intro; refine ⟨fun _ => ?_, hK _ ?_⟩; (first | fail); clear hK K)))
          (refine g_quiet 1 (by kernel_rfl) rfl (fun K hK => ?_); first | ((first | (refine qB_CAtK H rfl _ _ rfl _ _ rfl (cc x) HX.out HG.out _ Tryz.underlying28 rfl (infoCl x) (hK _ ?_)) | (refine qB_CAtK H rfl _ _ rfl _ _ rfl (cc x) HY.out HG'.out _ Tryz.underlying28 rfl (infoCl x) (hK _ ?_))); clear hK K) | (go_simp; first | (refine hK _ ?_; clear hK K) | (apply Exists.intro; refine ⟨fun _ => ?_, hK _ ?_⟩; (first | fail); clear hK K)))
          (refine g_quiet 2 (by kernel_rfl) rfl (fun K hK => ?_); first | ((first | (refine qB_CAtK H rfl _ _ rfl _ _ rfl (cc x) HX.out HG.out _ Tryz.underlying28 rfl (infoCl x) (hK _ ?_)) | (refine qB_CAtK H rfl _ _ rfl _ _ rfl (cc x) HY.out HG'.out _ Tryz.underlying28 rfl (infoCl x) (hK _ ?_))); clear hK K) | (go_simp; first | (refine hK _ ?_; clear hK K) | (apply Exists.intro; refine ⟨fun _ => ?_, hK _ ?_⟩; (first | fail); clear hK K)))
          (refine g_quiet 3 (by kernel_rfl) rfl (fun K hK => ?_); first | ((first | (refine qB_CAtK H rfl _ _ rfl _ _ rfl (cc x) HX.out HG.out _ Tryz.underlying28 rfl (infoCl x) (hK _ ?_)) | (refine qB_CAtK H rfl _ _ rfl _ _ rfl (cc x) HY.out HG'.out _ Tryz.underlying28 rfl (infoCl x) (hK _ ?_))); clear hK K) | (go_simp; first | (refine hK _ ?_; clear hK K) | (apply Exists.intro; refine ⟨fun _ => ?_, hK _ ?_⟩; (first | fail); clear hK K)))
          (refine g_quiet 4 (by kernel_rfl) rfl (fun K hK => ?_); first | ((first | (refine qB_CAtK H rfl _ _ rfl _ _ rfl (cc x) HX.out HG.out _ Tryz.underlying28 rfl (infoCl x) (hK _ ?_)) | (refine qB_CAtK H rfl _ _ rfl _ _ rfl (cc x) HY.out HG'.out _ Tryz.underlying28 rfl (infoCl x) (hK _ ?_))); clear hK K) | (go_simp; first | (refine hK _ ?_; clear hK K) | (apply Exists.intro; refine ⟨fun _ => ?_, hK _ ?_⟩; (first | fail); clear hK K)))
          (refine g_quiet 5 (by kernel_rfl) rfl (fun K hK => ?_); first | ((first | (refine qB_CAtK H rfl _ _ rfl _ _ rfl (cc x) HX.out HG.out _ Tryz.underlying28 rfl (infoCl x) (hK _ ?_)) | (refine qB_CAtK H rfl _ _ rfl _ _ rfl (cc x) HY.out HG'.out _ Tryz.underlying28 rfl (infoCl x) (hK _ ?_))); clear hK K) | (go_simp; first | (refine hK _ ?_; clear hK K) | (apply Exists.intro; refine ⟨fun _ => ?_, hK _ ?_⟩; (first | fail); clear hK K)))
          (refine g_quiet 6 (by kernel_rfl) rfl (fun K hK => ?_); first | ((first | (refine qB_CAtK H rfl _ _ rfl _ _ rfl (cc x) HX.out HG.out _ Tryz.underlying28 rfl (infoCl x) (hK _ ?_)) | (refine qB_CAtK H rfl _ _ rfl _ _ rfl (cc x) HY.out HG'.out _ Tryz.underlying28 rfl (infoCl x) (hK _ ?_))); clear hK K) | (go_simp; first | (refine hK _ ?_; clear hK K) | (apply Exists.intro; refine ⟨fun _ => ?_, hK _ ?_⟩; (first | fail); clear hK K)))
          (refine g_quiet 7 (by kernel_rfl) rfl (fun K hK => ?_); first | ((first | (refine qB_CAtK H rfl _ _ rfl _ _ rfl (cc x) HX.out HG.out _ Tryz.underlying28 rfl (infoCl x) (hK _ ?_)) | (refine qB_CAtK H rfl _ _ rfl _ _ rfl (cc x) HY.out HG'.out _ Tryz.underlying28 rfl (infoCl x) (hK _ ?_))); clear hK K) | (go_simp; first | (refine hK _ ?_; clear hK K) | (apply Exists.intro; refine ⟨fun _ => ?_, hK _ ?_⟩; (first | fail); clear hK K)))
          (refine g_quiet 8 (by kernel_rfl) rfl (fun K hK => ?_); first | ((first | (refine qB_CAtK H rfl _ _ rfl _ _ rfl (cc x) HX.out HG.out _ Tryz.underlying28 rfl (infoCl x) (hK _ ?_)) | (refine qB_CAtK H rfl _ _ rfl _ _ rfl (cc x) HY.out HG'.out _ Tryz.underlying28 rfl (infoCl x) (hK _ ?_))); clear hK K) | (go_simp; first | (refine hK _ ?_; clear hK K) | (apply Exists.intro; refine ⟨fun _ => ?_, hK _ ?_⟩; (first | fail); clear hK K)))
          refine g_done (by kernel_rfl) ?_
          rintro w1 hw1 -
          go_wp2
          go_roundw
          case rel => exact ⟨k + 1, by omega, by go_num, H2'.out, bstep hb hw1⟩
          case measure => simp [intOf]; omega
        · have e1 : decide (x = y) = false := decide_eq_false e
          have H3' := Lib.hid (H3.out e)
          clear e H2 H3
          refine g_start 9 rfl (by kernel_rfl) ?_
          (refine g_quiet 0 (by kernel_rfl) rfl (fun K hK => ?_); first | ((first | (refine qB_CAtK H rfl _ _ rfl _ _ rfl (cc x) HX.out HG.out _ Tryz.underlying28 rfl (infoCl x) (hK _ ?_)) | (refine qB_CAtK H rfl _ _ rfl _ _ rfl (cc y) HY.out HG'.out _ Tryz.underlying28 rfl (infoCl y) (hK _ ?_))); clear hK K) | (go_simp; first | (refine hK _ ?_; clear hK K) | (apply Exists.intro; refine ⟨fun _ => ?_, hK _ ?_⟩; (first | fail); clear hK K)))
          (refine g_quiet 1 (by kernel_rfl) rfl (fun K hK => ?_); first | ((first | (refine qB_CAtK H rfl _ _ rfl _ _ rfl (cc x) HX.out HG.out _ Tryz.underlying28 rfl (infoCl x) (hK _ ?_)) | (refine qB_CAtK H rfl _ _ rfl _ _ rfl (cc y) HY.out HG'.out _ Tryz.underlying28 rfl (infoCl y) (hK _ ?_))); clear hK K) | (go_simp; first | (refine hK _ ?_; clear hK K) | (apply Exists.intro; refine ⟨fun _ => ?_, hK _ ?_⟩; (first | fail); clear hK K)))
          (refine g_quiet 2 (by kernel_rfl) rfl (fun K hK => ?_); first | ((first | (refine qB_CAtK H rfl _ _ rfl _ _ rfl (cc x) HX.out HG.out _ Tryz.underlying28 rfl (infoCl x) (hK _ ?_)) | (refine qB_CAtK H rfl _ _ rfl _ _ rfl (cc y) HY.out HG'.out _ Tryz.underlying28 rfl (infoCl y) (hK _ ?_))); clear hK K) | (go_simp; first | (refine hK _ ?_; clear hK K) | (apply Exists.intro; refine ⟨fun _ => ?_, hK _ ?_⟩; (first | fail); clear hK K)))
          (refine g_quiet 3 (by kernel_rfl) rfl (fun K hK => ?_); first | ((first | (refine qB_CAtK H rfl _ _ rfl _ _ rfl (cc x) HX.out HG.out _ Tryz.underlying28 rfl (infoCl x) (hK _ ?_)) | (refine qB_CAtK H rfl _ _ rfl _ _ rfl (cc y) HY.out HG'.out _ Tryz.underlying28 rfl (infoCl y) (hK _ ?_))); clear hK K) | (go_simp; first | (refine hK _ ?_; clear hK K) | (apply Exists.intro; refine ⟨fun _ => ?_, hK _ ?_⟩; (first | fail); clear hK K)))
          (refine g_quiet 4 (by kernel_rfl) rfl (fun K hK => ?_); first | ((first | (refine qB_CAtK H rfl _ _ rfl _ _ rfl (cc x) HX.out HG.out _ Tryz.underlying28 rfl (infoCl x) (hK _ ?_)) | (refine qB_CAtK H rfl _ _ rfl _ _ rfl (cc y) HY.out HG'.out _ Tryz.underlying28 rfl (infoCl y) (hK _ ?_))); clear hK K) | (go_simp; first | (refine hK _ ?_; clear hK K) | (apply Exists.intro; refine ⟨fun _ => ?_, hK _ ?_⟩; (first | fail); clear hK K)))
          (refine g_quiet 5 (by kernel_rfl) rfl (fun K hK => ?_); first | ((first | (refine qB_CAtK H rfl _ _ rfl _ _ rfl (cc x) HX.out HG.out _ Tryz.underlying28 rfl (infoCl x) (hK _ ?_)) | (refine qB_CAtK H rfl _ _ rfl _ _ rfl (cc y) HY.out HG'.out _ Tryz.underlying28 rfl (infoCl y) (hK _ ?_))); clear hK K) | (go_simp; first | (refine hK _ ?_; clear hK K) | (apply Exists.intro; refine ⟨fun _ => ?_, hK _ ?_⟩; (first | fail); clear hK K)))
          (refine g_quiet 6 (by kernel_rfl) rfl (fun K hK => ?_); first | ((first | (refine qB_CAtK H rfl _ _ rfl _ _ rfl (cc x) HX.out HG.out _ Tryz.underlying28 rfl (infoCl x) (hK _ ?_)) | (refine qB_CAtK H rfl _ _ rfl _ _ rfl (cc y) HY.out HG'.out _ Tryz.underlying28 rfl (infoCl y) (hK _ ?_))); clear hK K) | (go_simp; first | (refine hK _ ?_; clear hK K) | (apply Exists.intro; refine ⟨fun _ => ?_, hK _ ?_⟩; (first | fail); clear hK K)))
          (refine g_quiet 7 (by kernel_rfl) rfl (fun K hK => ?_); first | ((first | (refine qB_CAtK H rfl _ _ rfl _ _ rfl (cc x) HX.out HG.out _ Tryz.underlying28 rfl (infoCl x) (hK _ ?_)) | (refine qB_CAtK H rfl _ _ rfl _ _ rfl (cc y) HY.out HG'.out _ Tryz.underlying28 rfl (infoCl y) (hK _ ?_))); clear hK K) | (go_simp; first | (refine hK _ ?_; clear hK K) | (apply Exists.intro; refine ⟨fun _ => ?_, hK _ ?_⟩; (first | fail); clear hK K)))
          (refine g_quiet 8 (by kernel_rfl) rfl (fun K hK => ?_); first | ((first | (refine qB_CAtK H rfl _ _ rfl _ _ rfl (cc x) HX.out HG.out _ Tryz.underlying28 rfl (infoCl x) (hK _ ?_)) | (refine qB_CAtK H rfl _ _ rfl _ _ rfl (cc y) HY.out HG'.out _ Tryz.underlying28 rfl (infoCl y) (hK _ ?_))); clear hK K) | (go_simp; first | (refine hK _ ?_; clear hK K) | (apply Exists.intro; refine ⟨fun _ => ?_, hK _ ?_⟩; (first | fail); clear hK K)))
          refine g_done (by kernel_rfl) ?_
          rintro w1 hw1 -
          go_wp2
          go_ret
          exact ⟨ret_bool (decide_eq_false H3'.out).symm, bstep hb hw1⟩
      · obtain rfl : k = l.length := by omega
        have H4 : Hid (l = m) := by
          have := H1.out
          rw [List.take_length, hlen.out, List.take_length] at this
          exact this
        go_wp2
        go_ret
        exact ⟨ret_bool (decide_eq_true H4.out).symm, hb⟩
  · have hl2 : ¬ (l.length : Int) = (m.length : Int) := by omega
    have HN : Hid (decide (l = m) = false) := decide_eq_false (fun e => hlen (by rw [e]))
    go_enter Tryz.func55, Tryz.ntmps55
    go_wp2
    go_ret
    exact ⟨ret_bool HN.out.symm, Below.refl _ _⟩
end Go.Proofs.YtbngpcghognojaaGreatDoor
namespace Go.Proofs.YtbngpcghognojaaGreatDoor
open Go.RowKit
set_option linter.unusedVariables false
set_option linter.unusedSimpArgs false
set_option maxRecDepth 100000
set_option maxHeartbeats 1000000
attribute [local go_sem] Oper.qB
theorem sziCrate (x : Cr) : (Tryz.prog.info? 28).map (·.size) = some (cc x).length := by rw [cc_length]; kernel_rfl
theorem infoCrateS : (Tryz.prog.info? 28).map (fun i => (i.zero, i.size, i.bytes)) = some (some (.agg (cc zC).toArray), 24, 48) := by kernel_rfl
end Go.Proofs.YtbngpcghognojaaGreatDoor
namespace Go.Proofs.YtbngpcghognojaaGreatDoor
open Go.RowKit
set_option linter.unusedVariables false
set_option linter.unusedSimpArgs false
set_option maxRecDepth 100000
set_option maxHeartbeats 1000000
theorem wc_size2 (a b : Wt) : (wc a).toArray.size = (wc b).toArray.size := rfl
theorem wv_one (x : Wt) : ∀ v ∈ (wc x).toArray.toList, v.oneCell' = true := by
  intro v hv
  simp [wc] at hv
  rcases hv with rfl | rfl | rfl <;> rfl
theorem infoW (x : Wt) : (Tryz.prog.info? 81).map (·.size) = some (wc x).toArray.size := by kernel_rfl
end Go.Proofs.YtbngpcghognojaaGreatDoor
namespace Go.Proofs.YtbngpcghognojaaGreatDoor
open Go.RowKit
set_option linter.unusedVariables false
set_option linter.unusedSimpArgs false
set_option maxRecDepth 100000
set_option maxHeartbeats 1000000
attribute [local go_sem] Oper.qB
theorem sziWant (x : Wt) : (Tryz.prog.info? 81).map (·.size) = some (wc x).length := by rw [wc_length]; kernel_rfl
theorem infoWantS : (Tryz.prog.info? 81).map (fun i => (i.zero, i.size, i.bytes)) = some (some (.agg (wc zW).toArray), 3, 6) := by kernel_rfl
end Go.Proofs.YtbngpcghognojaaGreatDoor
namespace Go.Proofs.YtbngpcghognojaaGreatDoor
open Go.RowKit
set_option linter.unusedVariables false
set_option linter.unusedSimpArgs false
set_option maxRecDepth 100000
set_option maxHeartbeats 1000000
theorem wrap_i16 {n : Int} (h : -32768 ≤ n ∧ n ≤ 32767) : IntKind.i16.wrap n = n := by
  simp [IntKind.wrap, IntKind.bits, IntKind.signed]
  split <;> omega
/-- An owned slice that is not nil. -/
def OwnS {α : Type} (f : α → List Value) (w : World) (B e size : Nat) (v : Value) (l : List α) : Prop := w.ownsRow B e size v l.length (fl f l) ∧ ∃ g cap, v = .slice (some ⟨g, 0, none⟩) l.length cap
section
variable {α : Type} {f : α → List Value} {w w' : World} {B e size : Nat} {v : Value} {l : List α}
theorem OwnS.own (h : OwnS f w B e size v l) : w.ownsRow B e size v l.length (fl f l) := h.1
theorem OwnS.kept (h : OwnS f w B e size v l) (hb : Below w.heap.size w w') : OwnS f w' B e size v l := ⟨own_kept h.1 hb, h.2⟩
theorem OwnS.down {b : Nat} (h : OwnS f w B e size v l) (hb : b ≤ B) : OwnS f w b e size v l := ⟨own_down h.1 hb, h.2⟩
theorem OwnS.lies (h : OwnS f w B e size v l) : ∃ g cap, v = .slice (some ⟨g, 0, none⟩) l.length cap ∧ Lies f w g l ∧ B ≤ g ∧ g < w.heap.size ∧ l.length ≤ cap := by
  obtain ⟨h, g, cap, rfl⟩ := h
  obtain ⟨cur, _, _, hb, hc, _⟩ := own_row h
  exact ⟨g, cap, rfl, own_lies h, hb, own_lt h g rfl, hc⟩
theorem OwnS.lit (hB : B ≤ w.heap.size) : OwnS f (w.alloc (.cells #[] e)) B e size (.slice (some ⟨w.heap.size, 0, none⟩) 0 0) [] :=
  ⟨World.ownsRow_lit (base := B) (e := e) (size := size) w #[] 0 hB (by simp [maxLen]) (by simp), _, _, rfl⟩
theorem OwnS.grown {x : α} (h : w.ownsRow B e size v (l ++ [x]).length (fl f (l ++ [x]))) : OwnS f w B e size v (l ++ [x]) := ⟨h, own_form h (by simp)⟩
end
theorem fold_zip : ∀ (l : List Value) (k : Nat) (z : Array Value), z.size = k + l.length → List.foldl (fun (cs : Array Value) (x : Value × Nat) => cs.setIfInBounds x.snd x.fst) z (l.zipIdx k) = (z.toList.take k ++ l).toArray
  | [], k, z, h => by
    rw [List.zipIdx_nil, List.foldl_nil, List.append_nil, List.take_of_length_le (by simp at h; simp; omega)]
  | x :: l, k, z, h => by
    rw [List.zipIdx_cons, List.foldl_cons, fold_zip l (k + 1) _ (by simp at h ⊢; omega)]
    have hk : k < z.toList.length := by simp at h ⊢; omega
    congr 1
    rw [Array.toList_setIfInBounds, List.take_succ_eq_append_getElem (by simpa using hk), List.getElem_set_self, List.take_set_of_le (Nat.le_refl _), List.append_assoc]
    rfl
theorem fold_cc (c : Cr) : List.foldl (fun (cs : Array Value) (x : Value × Nat) => cs.setIfInBounds x.snd x.fst) #[.int .u8 0, .int .i16 0, .int .u8 0, .int .i16 0, .int .u8 0, .int .i16 0, .int .u8 0, .int .i16 0, .int .u8 0, .int .i16 0, .int .u8 0, .int .i16 0, .int .u8 0, .int .i16 0, .int .u8 0, .int .i16 0, .int .u8 0, .int .i16 0, .int .u8 0, .int .i16 0, .int .u8 0, .int .i16 0, .int .u8 0, .int .i16 0] (cc c).zipIdx = (cc c).toArray := by
  rw [fold_zip (cc c) 0 _ (by rw [cc_length]; rfl)]
  rfl
theorem cc_len (c : Cr) : (cc c).length = 24 := cc_length c
section
variable {ops : Array Oper} {rest : List Oper} {o : Oper} {a : Act} {Q : Exit → Act → World → Prop} {W : World}
theorem wp_app_want (B : Nat) (hgd : o.guard = none) (s x : Operand) (ho : o.op = .call { callee := .builtin .append, args := #[s, x], argTypes := #[64, 64] })
    (v : Value) (l : List Wt) (y : Wt) (hs : a.eval s = v) (g : Nat) (hx : a.eval x = .slice (some ⟨g, 0, none⟩) 1 1) (hg : g = W.heap.size)
    (HO : OwnS wc W B 81 3 v l) (hB : B ≤ W.heap.size) (hn : l.length ≤ 100000000)
    (h : ∀ v1 w1, OwnS wc w1 B 81 3 v1 (l ++ [y]) → Below B W w1 → wpList Tryz.prog ops Q rest (a.put o.dst v1) w1) : wpList Tryz.prog ops Q (o :: rest) a (W.alloc (.cells #[.int .u8 y.b.k, .int .i16 y.b.y, .int .i16 y.n] 81)) :=
  wp_app (P := Tryz.prog) B hgd s x 64 81 ho (.agg (wc zW).toArray) 3 6 Tryz.underlying64 infoWantS rfl (by decide) v l.length (fl wc l) (wc y) hs g hx hg rfl (fun u hu => wv_one y u (by simpa using hu)) HO.1 hB (by omega) (by decide)
    (fun v1 w1 h1 h2 => h v1 w1 (OwnS.grown (by rw [List.length_append, fl_append, fl_one]; exact h1)) h2)
end
section
variable {ops : Array Oper} {rest : List Oper} {o : Oper} {a : Act} {Q : Exit → Act → World → Prop} {W : World}
theorem wp_app_crate (B : Nat) (hgd : o.guard = none) (s x : Operand) (ho : o.op = .call { callee := .builtin .append, args := #[s, x], argTypes := #[62, 62] })
    (v : Value) (l : List Cr) (y : Cr) (hs : a.eval s = v) (g : Nat) (hx : a.eval x = .slice (some ⟨g, 0, none⟩) 1 1) (hg : g = W.heap.size)
    (HO : OwnS cc W B 28 24 v l) (hB : B ≤ W.heap.size) (hn : l.length ≤ 100000000)
    (h : ∀ v1 w1, OwnS cc w1 B 28 24 v1 (l ++ [y]) → Below B W w1 → wpList Tryz.prog ops Q rest (a.put o.dst v1) w1) : wpList Tryz.prog ops Q (o :: rest) a (W.alloc (.cells (cc y).toArray 28)) :=
  wp_app (P := Tryz.prog) B hgd s x 62 28 ho (.agg (cc zC).toArray) 24 48 Tryz.underlying62 infoCrateS rfl (by decide) v l.length (fl cc l) (cc y) hs g hx hg (cc_length y) (fun u hu => cc_one y u (by simpa using hu)) HO.1 hB (by omega) (by decide)
    (fun v1 w1 h1 h2 => h v1 w1 (OwnS.grown (by rw [List.length_append, fl_append, fl_one]; exact h1)) h2)
end
section
variable {ops : Array Oper} {rest : List Oper} {o : Oper} {a : Act} {Q : Exit → Act → World → Prop} {W : World}
def iv (x : Int) : List Value := [.int .i64 x]
theorem fl_iv : ∀ l : List Int, fl iv l = vi l
  | [] => rfl
  | x :: l => by rw [fl_cons, fl_iv l]; rfl
theorem iv_length (x : Int) : (iv x).length = 1 := rfl
theorem wp_app_num (B : Nat) (hgd : o.guard = none) (s x : Operand) (ho : o.op = .call { callee := .builtin .append, args := #[s, x], argTypes := #[47, 47] })
    (v : Value) (l : List Int) (y : Int) (hs : a.eval s = v) (g : Nat) (hx : a.eval x = .slice (some ⟨g, 0, none⟩) 1 1) (hg : g = W.heap.size)
    (HO : OwnS iv W B 2 1 v l) (hB : B ≤ W.heap.size) (hn : l.length ≤ 100000000)
    (h : ∀ v1 w1, OwnS iv w1 B 2 1 v1 (l ++ [y]) → Below B W w1 → wpList Tryz.prog ops Q rest (a.put o.dst v1) w1) : wpList Tryz.prog ops Q (o :: rest) a (W.alloc (.cells #[.int .i64 y] 2)) :=
  wp_app (P := Tryz.prog) B hgd s x 47 2 ho (.int .i64 0) 1 8 Tryz.underlying47 info64 rfl (by decide) v l.length (fl iv l) [.int .i64 y] hs g hx hg rfl (by simp [Value.oneCell']) HO.1 hB (by omega) (by decide)
    (fun v1 w1 h1 h2 => h v1 w1 (OwnS.grown (by rw [List.length_append, fl_append, fl_one]; exact h1)) h2)
end
end Go.Proofs.YtbngpcghognojaaGreatDoor
namespace Go.Proofs.YtbngpcghognojaaGreatDoor
open Go.RowKit
set_option linter.unusedVariables false
set_option linter.unusedSimpArgs false
set_option maxRecDepth 100000
set_option maxHeartbeats 1000000
/-- An owned slice of elements, or nil. -/
def OwnN {α : Type} (f : α → List Value) (w : World) (B e size : Nat) (v : Value) (l : List α) : Prop := w.ownsRow B e size v l.length (fl f l)
/-- Two slices lie in different blocks. -/
def Apart (v v' : Value) : Prop := ∀ b, v.ownBlock = some b → v'.ownBlock ≠ some b
/-- Nothing but the block of a slice has changed. -/
def ButV (v : Value) (w w' : World) : Prop := Below 0 w w' ∧ ∀ b, b < w.heap.size → v.ownBlock ≠ some b → w'.heap[b]? = w.heap[b]?
section
variable {α β : Type} {f : α → List Value} {f' : β → List Value} {w w' w0 : World} {B e size B' e' size' : Nat} {v v' : Value} {l : List α} {l' : List β}
theorem Apart.symm (h : Apart v v') : Apart v' v := fun b hb hb' => h b hb' hb
theorem OwnN.below (h : OwnN f w B e size v l) (hb : Below w.heap.size w w') : OwnN f w' B e size v l := own_kept h hb
theorem OwnN.down {b : Nat} (h : OwnN f w B e size v l) (hb : b ≤ B) : OwnN f w b e size v l := own_down h hb
theorem OwnN.rd (h : OwnN f w B e size v l) : ∃ A c, v = .slice A l.length c ∧ l.length ≤ c ∧ RdA w A (fl f l) := by
  obtain ⟨A, c, hv, hc, hr, _⟩ := own_rdA h
  exact ⟨A, c, hv, hc, hr⟩
theorem OwnN.lies {g cap : Nat} (h : OwnN f w B e size (.slice (some ⟨g, 0, none⟩) l.length cap) l) : Lies f w g l := own_lies h
theorem OwnN.apart (h : OwnN f w B e size v l) (h' : OwnN f' w' B' e' size' v' l') (hw : w.heap.size ≤ B') : Apart v v' := fun b hb hb' => by
  have h1 := own_lt h b hb
  have h2 := own_base h' b hb'
  omega
theorem OwnN.but (h : OwnN f w B e size v l) (hb : ButV v' w w') (ha : Apart v' v) : OwnN f w' B e size v l :=
  ⟨h.1, h.2.imp (fun h => h) fun ⟨g, cap, cur, hv, hg, hh, hr⟩ => ⟨g, cap, cur, hv, hg, by
    rw [hb.2 g (Array.getElem?_eq_some_iff.1 hh).1 (fun e => ha g e (by rw [hv]; rfl))]
    exact hh, hr⟩⟩
theorem ButV.below (hb : ButV v w w') (h : OwnN f w B e size v l) {b : Nat} (hB : b ≤ B) (hw : b ≤ w.heap.size) : Below b w w' :=
  ⟨hb.1.os, hb.1.tape, hb.1.output, hb.1.size, fun k hk => hb.2 k (by omega) fun e => by have := own_base h k e; omega⟩
theorem ButV.refl : ButV v w w := ⟨Below.refl _ _, fun _ _ _ => rfl⟩
theorem ButV.trans {w1 : World} (h : ButV v w w1) (h' : ButV v w1 w') : ButV v w w' :=
  ⟨h.1.trans h'.1, fun b hb hv => (h'.2 b (Nat.lt_of_lt_of_le hb h.1.size) hv).trans (h.2 b hb hv)⟩
theorem ButV.set {g o : Nat} {n c : Nat} {u : Value} : ButV (.slice (some ⟨g, 0, none⟩) n c) w (w.setCell ⟨g, o, none⟩ u) :=
  ⟨(Below.refl 0 w).setCell (Nat.zero_le _) _, fun b hb hv => Below.heap_setCell w _ u b (fun e => hv (by rw [e]; rfl))⟩
end
/-- The marks of a want. -/
def mkw (k0 : Int) (i : Nat) : List Value := [.int .u8 ((k0 + 3 * (i : Int)) % 256), .int .i16 (IntKind.i16.wrap (k0 + 3 * (i : Int) + 1)), .int .i16 (IntKind.i16.wrap (k0 + 3 * (i : Int) + 1 + 1))]
theorem mkw_length (k0 : Int) (i : Nat) : (mkw k0 i).length = 3 := rfl
theorem mkw_step {k0 : Int} {l : List Wt} {k : Nat} (hk : k < l.length) :
    (((fl (mkw k0) (List.range k) ++ fl wc (l.drop k)).set (k * 3) (.int .u8 ((k0 + 3 * (k : Int)) % 256))).set (k * 3 + 1) (.int .i16 (IntKind.i16.wrap (k0 + 3 * (k : Int) + 1)))).set (k * 3 + 2) (.int .i16 (IntKind.i16.wrap (k0 + 3 * (k : Int) + 1 + 1))) = fl (mkw k0) (List.range (k + 1)) ++ fl wc (l.drop (k + 1)) := by
  have hl : (fl (mkw k0) (List.range k)).length = k * 3 := by rw [fl_length (mkw_length k0), List.length_range]
  rw [List.set_append_right _ _ (by omega), hl, Nat.sub_self, List.set_append_right _ _ (by omega), hl, Nat.add_sub_cancel_left, List.set_append_right _ _ (by omega), hl, Nat.add_sub_cancel_left, List.range_succ, fl_append, fl_one, List.drop_eq_getElem_cons hk, fl_cons]
  simp [wc, mkw]
end Go.Proofs.YtbngpcghognojaaGreatDoor
namespace Go.Proofs.YtbngpcghognojaaGreatDoor
open Go.RowKit
set_option linter.unusedVariables false
set_option linter.unusedSimpArgs false
set_option maxRecDepth 100000
set_option maxHeartbeats 1000000
theorem isNaN8_any (n : Int) (w : World) : Calls Tryz.prog 150 #[.int .u8 n] w fun e w' => e = .returned (.bool false) ∧ w = w' := by
  go_enter Tryz.func150, Tryz.ntmps150
  go_wp2
  go_ret
  exact ⟨by simp, rfl⟩
theorem isNaN16_any (n : Int) (w : World) : Calls Tryz.prog 151 #[.int .i16 n] w fun e w' => e = .returned (.bool false) ∧ w = w' := by
  go_enter Tryz.func151, Tryz.ntmps151
  go_wp2
  go_ret
  exact ⟨by simp, rfl⟩
def cmpI (a b : Int) : Int := if a < b then -1 else if b < a then 1 else 0
theorem Compare8_any (a b : Int) (w : World) : Calls Tryz.prog 130 #[.int .u8 a, .int .u8 b] w fun e w' => e = .returned (.int .i64 (cmpI a b)) ∧ w = w' := by
  go_enter Tryz.func130, Tryz.ntmps130
  go_wp2_with (go_at_call 150; refine (isNaN8_any _ _).mono ?_; rintro e w' ⟨rfl, rfl⟩)
  all_goals
    go_ret
    refine ⟨ret_int ?_, rfl⟩
    simp only [cmpI]
    repeat (first | rw [if_pos (by omega)] | rw [if_neg (by omega)])
theorem Compare16_any (a b : Int) (w : World) : Calls Tryz.prog 131 #[.int .i16 a, .int .i16 b] w fun e w' => e = .returned (.int .i64 (cmpI a b)) ∧ w = w' := by
  go_enter Tryz.func131, Tryz.ntmps131
  go_wp2_with (go_at_call 151; refine (isNaN16_any _ _).mono ?_; rintro e w' ⟨rfl, rfl⟩)
  all_goals
    go_ret
    refine ⟨ret_int ?_, rfl⟩
    simp only [cmpI]
    repeat (first | rw [if_pos (by omega)] | rw [if_neg (by omega)])
theorem flip_same {P : Program} {f : FuncId} {args : Array Value} {w : World} {v : Value} (h : Calls P f args w fun e w' => e = .returned v ∧ w = w') : Calls P f args w fun e w' => e = .returned v ∧ w' = w :=
  h.mono fun _ _ ⟨he, hw⟩ => ⟨he, hw.symm⟩
def orI (x y : Int) : Int := if x = 0 then y else x
/-- cmp.Or of two. -/
theorem Or_any (a : Addr) (x y : Int) (c : Nat) (w : World) (h0 : w.cell? a = some (.int .i64 x)) (h1 : w.cell? ⟨a.block, a.off + 1, none⟩ = some (.int .i64 y)) :
    Calls Tryz.prog 129 #[.slice (some a) 2 c] w fun e w' => e = .returned (.int .i64 (orI x y)) ∧ w = w' := by
  by_cases hx : x = 0 <;> by_cases hy : y = 0
  all_goals
    go_enter Tryz.func129, Tryz.ntmps129
    go_wp2
    go_rounds 3
    all_goals
      go_ret
      exact ⟨ret_int (by simp [orI, hx, hy]), rfl⟩
theorem cmp_or (a b : Bt) : orI (cmpI a.k b.k) (cmpI a.y b.y) = a.cmp b := by
  unfold Bt.cmp orI cmpI
  by_cases h1 : a.k < b.k
  · simp [h1]
  · by_cases h2 : b.k < a.k <;> simp [h1, h2]
theorem compare_any (a b : Bt) (w : World) : Calls Tryz.prog 89 #[bv a, bv b] w fun e w' => e = .returned (.int .i64 (a.cmp b)) ∧ Below w.heap.size w w' := by
  obtain ⟨k, y, hk, hy⟩ := a
  obtain ⟨k', y', hk', hy'⟩ := b
  go_enter Tryz.func89, Tryz.ntmps89
  go_wp2
  generalize hW : World.alloc _ _ = W
  have hb : Below w.heap.size w W := by rw [← hW]; exact ((Below.refl _ _).alloc (Nat.le_refl _) _).alloc (by simp) _
  have hs : W.heap.size = w.heap.size + 2 := by rw [← hW]; simp
  have x0 : W.cell? ⟨w.heap.size, 0, none⟩ = some (.int .u8 k) := by rw [← hW]; simp [go_sem]
  have x1 : W.cell? ⟨w.heap.size, 1, none⟩ = some (.int .i16 y) := by rw [← hW]; simp [go_sem]
  have y0 : W.cell? ⟨w.heap.size + 1, 0, none⟩ = some (.int .u8 k') := by rw [← hW]; simp [go_sem]
  have y1 : W.cell? ⟨w.heap.size + 1, 1, none⟩ = some (.int .i16 y') := by rw [← hW]; simp [go_sem]
  clear hW
  generalize w.heap.size = g at x0 x1 y0 y1 hs
  go_still_tail 10, (by kernel_rfl)
  still_call (flip_same (Compare8_any _ _ _))
  repeat still_step
  still_call (flip_same (Compare16_any _ _ _))
  refine wpStill_nil ?_
  change wpList _ _ _ _ _ (World.drew _)
  clear hs x0 x1 y0 y1
  go_wp2_with fail
  refine (Or_any _ (cmpI k k') (cmpI y y') _ _ (by simp [go_sem]) (by simp [go_sem])).mono ?_
  rintro e w' ⟨rfl, rfl⟩
  go_wp2
  go_ret
  refine ⟨ret_int ?_, bstep hb (((Below.refl _ _).drew).alloc (Nat.le_refl _) _)⟩
  exact cmp_or ⟨k, y, hk, hy⟩ ⟨k', y', hk', hy'⟩
theorem CompareBottles_any (a b : Bt) (w : World) : Calls Tryz.prog 32 #[bv a, bv b] w fun e w' => e = .returned (.int .i64 (a.cmp b)) ∧ Below w.heap.size w w' := by
  go_enter Tryz.func32, Tryz.ntmps32
  go_wp2_with (go_at_call 89; refine (compare_any a b _).mono ?_; rintro e w' ⟨rfl, hb⟩)
  go_ret
  exact ⟨rfl, bstepB (((Below.refl _ _).alloc (Nat.le_refl _) _).alloc (by simp) _) (by simp; omega) hb⟩
end Go.Proofs.YtbngpcghognojaaGreatDoor
namespace Go.Proofs.YtbngpcghognojaaGreatDoor
open Go Go.Sort Go.RowKit
set_option linter.unusedVariables false
set_option linter.unusedSimpArgs false
set_option maxRecDepth 100000
set_option maxHeartbeats 1000000
/-! ### A sorted row, owned -/
section
variable {α : Type} [Inhabited α] {f : α → List Value} {k : Nat}
theorem flat_fl (hf : ∀ x, (f x).length = k) (hk : 0 < k) (l : List α) : Sort.flatK f k l.toArray = (fl f l).toArray := by
  apply Array.ext
  · simp [fl_length hf]
  · intro i h1 h2
    have h3 : i < l.length * k := by simpa using h1
    have hi : i / k < l.length := by rw [Nat.div_lt_iff_lt_mul hk]; exact h3
    have hg : l.toArray[i / k]! = l[i / k]! := by simp
    have h0 := Sort.get_flatK f k l.toArray i (by simpa using h3)
    rw [getElem!_pos _ i h1, hg] at h0
    rw [h0]
    have hm : i % k < (f l[i / k]!).length := by rw [hf]; exact Nat.mod_lt _ hk
    have h4 := fl_at hf l (i / k) hi (i % k) (f l[i / k]!)[i % k] (List.getElem?_eq_getElem hm)
    rw [Nat.div_add_mod'] at h4
    have h5 : (fl f l)[i]? = some ((fl f l).toArray[i]) := by rw [← List.getElem?_toArray]; exact Array.getElem?_eq_getElem h2
    rw [h4] at h5
    simp only [Option.some.injEq] at h5
    rw [← h5, getElem!_pos (f l[i / k]!) (i % k) hm]
theorem own_holds (hf : ∀ x, (f x).length = k) (hk : 0 < k) {w : World} {B e g cap : Nat} {l : List α} (h : OwnN f w B e k (.slice (some ⟨g, 0, none⟩) l.length cap) l) : Sort.HoldsK f k w g 0 l.toArray := by
  show Sort.Holds id w g 0 (Sort.flatK f k l.toArray)
  rw [flat_fl hf hk]
  obtain ⟨cur, hr, hh, hb, hn, hm, hc, ht⟩ := own_row h
  intro j hj
  have hj' : j < (fl f l).length := by simpa using hj
  refine ⟨?_, rowOf_frozen hr _⟩
  rw [Nat.zero_add, rowOf_cell hr, ← Array.getElem?_toList]
  have e : (fl f l)[j]? = some ((fl f l)[j]) := List.getElem?_eq_getElem hj'
  have hlt : j < l.length * k := by rw [← fl_length hf]; exact hj'
  conv at e => lhs; rw [← ht, List.getElem?_take_of_lt hlt]
  rw [e]
  simp [hj']
/-- What the sort leaves behind is owned as before. -/
theorem own_put (hf : ∀ x, (f x).length = k) (hk : 0 < k) {w : World} {B e g cap : Nat} {l l' : List α} (h : OwnN f w B e k (.slice (some ⟨g, 0, none⟩) l.length cap) l) (hl : l'.length = l.length) (m : Nat) (os : Array Obj) :
    OwnN f (sortWorldK f k w g 0 m l'.toArray os) B e k (.slice (some ⟨g, 0, none⟩) l.length cap) l' ∧ Below B w (sortWorldK f k w g 0 m l'.toArray os) := by
  obtain ⟨cur, hr, hh, hb, hn, hm, hc, ht⟩ := own_row h
  have hgs : g < w.heap.size := rowOf_lt hr
  have eW : sortWorldK f k w g 0 m l'.toArray os = grow (Sort.putRow id (Sort.ahead w m) g 0 (fl f l').toArray) os := by
    unfold sortWorldK Sort.putRowK
    rw [flat_fl hf hk]
  rw [eW]
  have hln : l.length * k ≤ cap * k := Nat.mul_le_mul_right _ hn
  have hF : (fl f l').length = l.length * k := by rw [fl_length hf, hl]
  have hsz : (Sort.putCells id 0 (fl f l').toArray cur).size = cap * k := by simp [Sort.putCells, hc]
  have htk : (Sort.putCells id 0 (fl f l').toArray cur).toList.take (l.length * k) = fl f l' := by
    apply List.ext_getElem
    · have hq : (Sort.putCells id 0 (fl f l').toArray cur).toList.length = cap * k := by rw [Array.length_toList]; exact hsz
      rw [List.length_take, hq, hF, Nat.min_eq_left hln]
    · intro i h1 h2
      rw [List.getElem_take, Array.getElem_toList]
      simp [Sort.putCells, h2]
  have hrow : (Sort.putRow id (Sort.ahead w m) g 0 (fl f l').toArray).heap[g]? = some (.cells (Sort.putCells id 0 (fl f l').toArray cur) e (0, 0)) := by
    simp only [Sort.putRow, Sort.mapBlock, Sort.ahead, Array.getElem?_modify, if_true, hh, Option.map_some, Sort.onCells]
  have hB : Below B w (Sort.putRow id (Sort.ahead w m) g 0 (fl f l').toArray) := by
    refine ⟨rfl, rfl, rfl, by simp [Sort.putRow, Sort.mapBlock, Sort.ahead], fun j hj => ?_⟩
    simp only [Sort.putRow, Sort.mapBlock, Sort.ahead, Array.getElem?_modify]
    rw [if_neg (by omega)]
  have hz : (Sort.putRow id (Sort.ahead w m) g 0 (fl f l').toArray).heap.size = w.heap.size := by simp [Sort.putRow, Sort.mapBlock, Sort.ahead]
  have hO : OwnN f (Sort.putRow id (Sort.ahead w m) g 0 (fl f l').toArray) B e k (.slice (some ⟨g, 0, none⟩) l.length cap) l' := by
    refine ⟨by rw [hF, hl], .inr ⟨g, cap, _, by rw [hl], hb, hrow, by omega, hm, hsz, by rw [hl]; exact htk⟩⟩
  have hgr : Below (Sort.putRow id (Sort.ahead w m) g 0 (fl f l').toArray).heap.size (Sort.putRow id (Sort.ahead w m) g 0 (fl f l').toArray) (grow (Sort.putRow id (Sort.ahead w m) g 0 (fl f l').toArray) os) :=
    ⟨rfl, rfl, rfl, by show _ ≤ (_ ++ os).size; rw [Array.size_append]; omega, fun j hj => heap_grow_old _ os hj⟩
  exact ⟨hO.below hgr, hB.trans (hgr.mono (by rw [hz]; exact Nat.le_trans hb (Nat.le_of_lt hgs)))⟩
end
/-! ### The order of bottles is total -/
theorem cmp_neg {a b : Bt} : a.cmp b < 0 ↔ a.k < b.k ∨ a.k = b.k ∧ a.y < b.y := by
  unfold Bt.cmp
  repeat' split
  all_goals omega
theorem cmp_swo : SWO (ltOf Bt.cmp) := by
  refine ⟨fun x => ?_, fun x y z h h' => ?_, fun x y z h h' => ?_⟩
  all_goals
    simp only [ltOf, decide_eq_true_eq, decide_eq_false_iff_not, cmp_neg] at *
    omega
theorem cmp_total (x y : Bt) (h : ltOf Bt.cmp x y = false) (h' : ltOf Bt.cmp y x = false) : x = y := by
  simp only [ltOf, decide_eq_false_iff_not, cmp_neg] at h h'
  exact Bt.ext2 (by omega) (by omega)
/-- Not behind. -/
def leB (x y : Bt) : Bool := !ltOf Bt.cmp y x
/-- Bottles in order. -/
def sortB (l : List Bt) : List Bt := l.mergeSort leB
theorem sortB_length (l : List Bt) : (sortB l).length = l.length := List.length_mergeSort l
theorem leB_iff {x y : Bt} : leB x y = true ↔ ¬ y.cmp x < 0 := by simp [leB, ltOf]
theorem leB_trans (a b c : Bt) (h : leB a b = true) (h' : leB b c = true) : leB a c = true := by
  rw [leB_iff, cmp_neg] at *
  omega
theorem leB_total (a b : Bt) : (leB a b || leB b a) = true := by
  rw [Bool.or_eq_true, leB_iff, leB_iff, cmp_neg, cmp_neg]
  omega
theorem leB_anti {a b : Bt} (h : leB a b = true) (h' : leB b a = true) : a = b := by
  rw [leB_iff, cmp_neg] at *
  exact Bt.ext2 (by omega) (by omega)
theorem sortB_perm (l : List Bt) : (sortB l).Perm l := List.mergeSort_perm l leB
theorem sortB_sorted (l : List Bt) : (sortB l).Pairwise fun a b => leB a b = true := List.pairwise_mergeSort leB_trans leB_total l
/-- There is one way to put bottles in order. -/
theorem sortB_of {l s : List Bt} (hp : s.Perm l) (hs : s.Pairwise fun a b => leB a b = true) : s = sortB l :=
  List.Perm.eq_of_pairwise (fun a b _ _ h h' => leB_anti h h') hs (sortB_sorted l) (hp.trans (sortB_perm l).symm)
theorem compare_grows (a b : Bt) (w : World) : Calls Tryz.prog 89 #[bv a, bv b] w fun e w' => e = .returned (.int .i64 (a.cmp b)) ∧ ∃ q os', w' = grow (w.drewN q) os' := by
  obtain ⟨k, y, hk, hy⟩ := a
  obtain ⟨k', y', hk', hy'⟩ := b
  go_enter Tryz.func89, Tryz.ntmps89
  go_wp2
  generalize hW : World.alloc _ _ = W
  have hs : W.heap.size = w.heap.size + 2 := by rw [← hW]; simp
  have x0 : W.cell? ⟨w.heap.size, 0, none⟩ = some (.int .u8 k) := by rw [← hW]; simp [go_sem]
  have x1 : W.cell? ⟨w.heap.size, 1, none⟩ = some (.int .i16 y) := by rw [← hW]; simp [go_sem]
  have y0 : W.cell? ⟨w.heap.size + 1, 0, none⟩ = some (.int .u8 k') := by rw [← hW]; simp [go_sem]
  have y1 : W.cell? ⟨w.heap.size + 1, 1, none⟩ = some (.int .i16 y') := by rw [← hW]; simp [go_sem]
  replace hW := Lib.hid hW
  generalize w.heap.size = g at x0 x1 y0 y1 hs
  go_still_tail 10, (by kernel_rfl)
  still_call (flip_same (Compare8_any _ _ _))
  repeat still_step
  still_call (flip_same (Compare16_any _ _ _))
  refine wpStill_nil ?_
  change wpList _ _ _ _ _ (World.drew _)
  clear hs x0 x1 y0 y1
  go_wp2_with fail
  refine (Or_any _ (cmpI k k') (cmpI y y') _ _ (by simp [go_sem]) (by simp [go_sem])).mono ?_
  rintro e w' ⟨rfl, rfl⟩
  go_wp2
  go_ret
  refine ⟨ret_int ?_, ?_⟩
  · exact cmp_or ⟨k, y, hk, hy⟩ ⟨k', y', hk', hy'⟩
  · rw [← hW.out]
    exact ⟨1, _, by rw [alloc_eq_grow, alloc_eq_grow, alloc_eq_grow, grow_grow, grow_grow]; rfl⟩
theorem bc_lays (blk off size : Nat) (w : World) : CmpLays Tryz.prog 89 #[] bc 2 Bt.cmp blk off size w :=
  fun _ _ _ _ x y => compare_grows x y _
theorem SortFunc_bot (B g cap : Nat) (l : List Bt) (w : World) (h : OwnN bc w B 26 2 (.slice (some ⟨g, 0, none⟩) l.length cap) l) (hn : l.length ≤ 1000000) :
    Calls Tryz.prog 128 #[.slice (some ⟨g, 0, none⟩) l.length cap, .func (.func 89) #[] #[]] w fun e w' => e = .returned (.tuple #[]) ∧ OwnN bc w' B 26 2 (.slice (some ⟨g, 0, none⟩) l.length cap) (sortB l) ∧ Below B w w' := by
  have hc := AnyQ.slices_SortFunc_total Tryz.lx128 2 Tryz.isAgg26 Tryz.sizeOf26 bc bc_length bc_one Bt.cmp cmp_swo 89 #[] g 0 cap l.toArray w
    (enters_of Tryz.func89 (by kernel_rfl) rfl) (bc_lays g 0 _ w) (own_holds bc_length (by decide) h) (own_lt h g rfl) (by simp; omega) cmp_total
  refine hc.mono ?_
  rintro e w' ⟨he, n, os, rfl⟩
  have := own_put bc_length (by decide) h (l' := sortB l) (sortB_length l) n os
  exact ⟨he, this.1, this.2⟩
end Go.Proofs.YtbngpcghognojaaGreatDoor
