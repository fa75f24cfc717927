/- Texts of the claim, joined (5 of 22): Stack, Want, WantS, Compare, Order, SplitP, CrateS. -/
import Derived.StillTailTactics
import Derived.Handy
import Derived.Test.YtbngpcghognojaaGreatDoorBO1
import Derived.Test.YtbngpcghognojaaGreatDoorBO3
import Derived.Test.YtbngpcghognojaaGreatDoorBO4
namespace Go.Proofs.YtbngpcghognojaaGreatDoor
open Go.RowKit
set_option linter.unusedVariables false
set_option linter.unusedSimpArgs false
set_option maxRecDepth 100000
set_option maxHeartbeats 1000000
theorem run_forAll {P : Program} {w : World} (g : Nat → Option Bool × Unit → Sem (ForInStep (Option Bool × Unit))) (q : Nat → Bool) (l : List Nat) (h : ∀ i ∈ l, ∀ s, (g i s).run P w = .ok (if q i then .yield (none, ()) else .done (some false, ())) w) :
    (forIn l (none, ()) g).run P w = .ok (if l.all q then (none, ()) else (some false, ())) w := by
  induction l with
  | nil => simp
  | cons i l ih =>
    rw [List.forIn_cons, Sem.run_bind, h i (by simp)]
    cases hq : q i with
    | true =>
      simp only [↓reduceIte, Result.andThen_ok]
      rw [ih fun j hj => h j (by simp [hj])]
      simp [hq]
    | false => simp [hq]
theorem like_all (a b : Cr) : ((List.range' 0 12).all fun i => (rB a.toList i).like (rB b.toList i)) = decide (a = b) := by
  rw [Bool.eq_iff_iff, decide_eq_true_iff, List.all_eq_true]
  constructor
  · intro h
    apply Vector.toArray_inj.1
    apply Array.toList_inj.1
    apply List.ext_getElem (by simp)
    intro i hi hi'
    have := h i (by simp at hi ⊢; omega)
    rw [Bt.like_iff, rB_lt (by simpa using hi), rB_lt (by simpa using hi')] at this
    exact this
  · rintro rfl i _
    exact Bt.like_iff.2 rfl
/-- What 'make' lays. -/
theorem made_fl {α : Type} [Inhabited α] {f : α → List Value} {k : Nat} (hf : ∀ x, (f x).length = k) (hk : 0 < k) (z : α) (a : Array Value) (ha : a = (f z).toArray) (n : Nat) : (madeCells a (n * k)).toList = fl f (List.replicate n z) := by
  subst ha
  have hl : (fl f (List.replicate n z)).length = n * k := by rw [fl_length hf, List.length_replicate]
  apply List.ext_getElem?
  intro m
  by_cases hm : m < n * k
  · have hq : m / k < n := by rw [Nat.div_lt_iff_lt_mul hk]; exact hm
    have hr : m % k < (f z).length := by rw [hf]; exact Nat.mod_lt _ hk
    have e : m / k * k + m % k = m := Nat.div_add_mod' m k
    have h2 := fl_at hf (List.replicate n z) (m / k) (by simpa using hq) (m % k) _ (by rw [getB (by simpa using hq), List.getElem_replicate]; exact List.getElem?_eq_getElem hr)
    rw [e] at h2
    rw [h2]
    simp [madeCells, hm, hf, hr, Nat.mod_lt _ hk]
  · rw [List.getElem?_eq_none (by simp [size_madeCells]; omega), List.getElem?_eq_none (by rw [hl]; omega)]
/-- All crates valid, and no more than a stack holds. -/
def stackOk (l : List Cr) : Bool := decide (l.length ≤ 12) && l.all Cr.ok
theorem fl_cc_length (l : List Cr) : (fl cc l).length = l.length * 24 := fl_length cc_length l
theorem infoCl (c : Cr) : (Tryz.prog.info? 28).map (·.size) = some (cc c).length := by rw [cc_length]; kernel_rfl
theorem run_part (c : Cr) (k : Nat) (h : k < 12) (w : World) : (part 26 (cc c).toArray (k * 2)).run Tryz.prog w = .ok (.agg #[.int .u8 (rB c.toList k).k, .int .i16 (rB c.toList k).y]) w := by
  have hu := Tryz.underlying26
  have hE := cc_take c k h
  simp [go_sem, part, hE]
theorem eqC (d : Nat) (w : World) (a b : Cr) : (Op.equalIn (d + 3) 28 (.agg (cc a).toArray) (.agg (cc b).toArray)).run Tryz.prog w = .ok (decide (a = b)) w := by
  have hu := Tryz.underlying28
  unfold Op.equalIn
  simp only [Sem.run_bind, run_underlying hu, Result.andThen_ok, Tryz.sizeOf26]
  rw [Std.Legacy.Range.forIn_eq_forIn_range', run_forAll _ (fun i => (rB a.toList i).like (rB b.toList i))]
  · have e : ((List.range' [:12].start [:12].size [:12].step).all fun i => (rB a.toList i).like (rB b.toList i)) = decide (a = b) := like_all a b
    rw [Result.andThen_ok, e]
    cases decide (a = b) <;> simp
  · intro i hi s
    have hi : i < 12 := by simpa using hi
    rw [Sem.run_bind, run_part a i hi, Result.andThen_ok, Sem.run_bind, run_part b i hi, Result.andThen_ok, Sem.run_bind, eqB, Result.andThen_ok]
    show Sem.run Tryz.prog (if (!((rB a.toList i).like (rB b.toList i))) = true then _ else _) w = _
    cases (rB a.toList i).like (rB b.toList i) <;> simp
theorem l01Stack_any (b off c : Nat) (l : List Cr) (w : World) (hC : CAt w b off (fl cc l)) (hb : b < w.heap.size) (hn : l.length ≤ 1000000000) :
    Calls Tryz.prog 140 #[.slice (some ⟨b, off, none⟩) l.length c] w fun e w' => e = .returned (.bool (stackOk l)) ∧ Below w.heap.size w w' := by
  have HC := Lib.hid (⟨hC, hb⟩ : _ ∧ _)
  clear hC hb
  have HS : Hid (l.all Cr.ok = true → stackOk l = decide (l.length ≤ 12)) := fun h => by rw [stackOk, h, Bool.and_true]
  have HT : Hid (l.all Cr.ok = false → stackOk l = false) := fun h => by rw [stackOk, h, Bool.and_false]
  go_enter Tryz.func140, Tryz.ntmps140
  go_wp2
  go_loopw [3] (fun i wr => ∃ k : Nat, k ≤ l.length ∧ i = .int .i64 k ∧ Hid ((l.take k).all Cr.ok = true) ∧ Below w.heap.size w wr) (fun i _ => l.length - (intOf i).toNat)
  case atStart => exact ⟨0, Nat.zero_le _, rfl, rfl, Below.refl _ _⟩
  case round =>
    obtain ⟨k, hk, rfl, H1, hb⟩ := hrel
    by_cases hlt : k < l.length
    · have HX := Lib.hid ((HC.out.1.below hb HC.out.2).el cc_length hlt)
      have HW := Lib.hid (Nat.lt_of_lt_of_le HC.out.2 hb.size)
      have H2 : Hid (l[k]!.ok = true → (l.take (k + 1)).all Cr.ok = true) := fun h => by
        rw [List.take_succ_eq_append_getElem hlt, List.all_append, H1.out, ← getB hlt]
        show (true && (l[k]!.ok && true)) = true
        rw [h]
        rfl
      have H3 : Hid (l[k]!.ok = false → l.all Cr.ok = false) := fun h => by
        rw [List.all_eq_false]
        exact ⟨_, List.getElem_mem hlt, by rw [← getB hlt, h]; simp⟩
      have hlt2 : (k : Int) < (l.length : Int) := by omega
      generalize l[k]! = x at HX H2 H3
      cases e1 : x.ok with
      | true =>
        go_wp2_with (go_at_call 68; refine (l01Ok_any b (off + k * 24) x _ HX.out HW.out).mono ?_; rintro e w' ⟨rfl, hb1⟩)
        go_roundw
        case rel => exact ⟨k + 1, by omega, by go_num, H2.out e1, bstep hb hb1⟩
        case measure => simp [intOf]; omega
      | false =>
        go_wp2_with (go_at_call 68; refine (l01Ok_any b (off + k * 24) x _ HX.out HW.out).mono ?_; rintro e w' ⟨rfl, hb1⟩)
        go_ret
        exact ⟨ret_bool (HT.out (H3.out e1)).symm, bstep hb hb1⟩
    · obtain rfl : k = l.length := by omega
      rw [List.take_length] at H1
      go_wp2
      go_ret
      exact ⟨ret_bool (by rw [HS.out H1.out, Bool.eq_iff_iff]; simp; omega), hb⟩
theorem ValidStack1_any (c : Cr) (w : World) : Calls Tryz.prog 139 #[cv c] w fun e w' => e = .returned (.bool (!c.ok)) ∧ Below w.heap.size w w' := by
  go_enter Tryz.func139, Tryz.ntmps139
  go_upto_region 1 with fail
  generalize hW : World.alloc _ _ = W
  have H0 : Below w.heap.size w W := by rw [← hW]; go_grown
  have r0 : rowOf W (w.heap.size) = some ((cc c).toArray) := (by (try rw [← hW]); simp only [rowOf_alloc, World.size_alloc, ↓reduceIte]; all_goals ((repeat' split) <;> first | omega | (exfalso; omega) | rfl))
  clear hW
  have l0 : w.heap.size ≤ w.heap.size := Nat.le_refl _
  generalize h0 : w.heap.size = g0 at r0 ⊢
  replace l0 : w.heap.size ≤ g0 := Nat.le_of_eq h0
  clear h0
  have b0 := rowOf_lt r0
  have H := Below.refl W.heap.size W
  go_wp2_with (first | ((with_reducible refine wp_load_rowBg H ?_ _ _ rfl _ rfl _ r0 _ Tryz.underlying28 rfl (infoC c) ?_); rfl) | (go_at_call 18; with_reducible refine (ValidCrate_any c _).mono ?_; rintro e w' ⟨rfl, hb⟩; replace H := bstep H hb; clear hb; have hc := bcell H))
  go_ret
  exact ⟨rfl, bstep H0 H⟩
theorem ContainsFunc_crate (g : Nat) (p : Cr → Bool) (eg : ∀ args w, (callFunc g args).run Tryz.prog w = .ok (.enter g args) w) (b off c : Nat) (l : List Cr) (w : World) (hm : l.length ≤ 1000000000)
    (hp : PredBelow Tryz.prog g #[] (fun x : Cr => .agg (cc x).toArray) p w) (hC : CAt w b off (fl cc l)) (hb : b < w.heap.size) :
    Calls Tryz.prog 138 #[.slice (some ⟨b, off, none⟩) l.length c, .func (.func g) #[] #[]] w fun e w' => e = .returned (.bool (l.any p)) ∧ Below w.heap.size w w' := by
  have := AnyQ.slices_ContainsFunc Tryz.lx138 24 Tryz.isAgg28 Tryz.sizeOf28 cc cc_length p g #[] eg b off l.length c l w hp (Nat.le_refl _) (by omega) hb (fun j hj i v hv => by have := hC.el cc_length hj i v hv; rwa [Nat.add_assoc] at this ⊢)
  rwa [List.take_length] at this
theorem any_ok (l : List Cr) : l.any (fun x => !x.ok) = !l.all Cr.ok := by rw [List.not_all_eq_any_not]
theorem ok_pays (w : World) : PredBelow Tryz.prog 139 #[] (fun x : Cr => .agg (cc x).toArray) (fun x => !x.ok) w :=
  fun W x hb => (ValidStack1_any x W).mono fun _ _ ⟨he, h⟩ => ⟨he, hb.trans (h.mono hb.size)⟩
theorem ValidStack_any (b off c : Nat) (l : List Cr) (w : World) (hC : CAt w b off (fl cc l)) (hb : b < w.heap.size) (hn : l.length ≤ 1000000000) :
    Calls Tryz.prog 103 #[.slice (some ⟨b, off, none⟩) l.length c] w fun e w' => e = .returned (.bool (stackOk l)) ∧ Below w.heap.size w w' := by
  have H := any_ok l
  by_cases h12 : l.length ≤ 12
  · have HS : Hid (stackOk l = l.all Cr.ok) := by rw [Hid, stackOk, decide_eq_true h12, Bool.true_and]
    have h13 : (l.length : Int) ≤ 12 := by omega
    generalize l.all Cr.ok = r at H HS
    go_enter Tryz.func103, Tryz.ntmps103
    go_wp2_with (go_at_call 138; refine (ContainsFunc_crate 139 (fun x => !x.ok) (enters_of Tryz.func139 (by kernel_rfl) rfl) b off c l _ hn (ok_pays _) hC hb).mono ?_; rintro e w' ⟨rfl, hb1⟩; rw [H])
    go_ret
    exact ⟨ret_bool (by rw [HS.out]; first | done | simp), hb1⟩
  · have HS : Hid (stackOk l = false) := by rw [Hid, stackOk, decide_eq_false h12, Bool.false_and]
    have h13 : ¬ (l.length : Int) ≤ 12 := by omega
    go_enter Tryz.func103, Tryz.ntmps103
    go_wp2
    go_ret
    exact ⟨ret_bool HS.out.symm, Below.refl _ _⟩
attribute [local go_sem] Oper.qB
attribute [local go_sem high] eqC
theorem sSameStack_any (b off c b' off' c' : Nat) (l m : List Cr) (w : World) (hC : CAt w b off (fl cc l)) (hC' : CAt w b' off' (fl cc m)) (hb : b < w.heap.size) (hb' : b' < w.heap.size) (hn : l.length ≤ 1000000000) (hm : m.length ≤ 1000000000) :
    Calls Tryz.prog 55 #[.slice (some ⟨b, off, none⟩) l.length c, .slice (some ⟨b', off', none⟩) m.length c'] w fun e w' => e = .returned (.bool (decide (l = m))) ∧ Below w.heap.size w w' := by
  have HC := Lib.hid (⟨hC, hC', hb, hb'⟩ : _ ∧ _ ∧ _ ∧ _)
  clear hC hC' hb hb'
  by_cases hlen : l.length = m.length
  · rw [← hlen]
    replace hlen := Lib.hid hlen
    go_enter Tryz.func55, Tryz.ntmps55
    go_wp2
    go_loopw [5] (fun i wr => ∃ k : Nat, k ≤ l.length ∧ i = .int .i64 k ∧ Hid (l.take k = m.take k) ∧ Below w.heap.size w wr) (fun i _ => l.length - (intOf i).toNat)
    case atStart => exact ⟨0, Nat.zero_le _, rfl, rfl, Below.refl _ _⟩
    case round =>
      obtain ⟨k, hk, rfl, H1, hb⟩ := hrel
      by_cases hlt : k < l.length
      · have hlt' : k < m.length := by rw [← hlen.out]; exact hlt
        have HX := Lib.hid ((HC.out.1.below hb HC.out.2.2.1).el cc_length hlt)
        have HY := Lib.hid ((HC.out.2.1.below hb HC.out.2.2.2).el cc_length hlt')
        have HG := Lib.hid (Nat.lt_of_lt_of_le HC.out.2.2.1 hb.size)
        have HG' := Lib.hid (Nat.lt_of_lt_of_le HC.out.2.2.2 hb.size)
        have H2 : Hid (l[k]! = m[k]! → l.take (k + 1) = m.take (k + 1)) := fun h => by
          rw [List.take_succ_eq_append_getElem hlt, List.take_succ_eq_append_getElem hlt', H1.out, ← getB hlt, ← getB hlt', h]
        have H3 : Hid (l[k]! ≠ m[k]! → l ≠ m) := fun h e => h (by rw [e])
        have hlt2 : (k : Int) < (l.length : Int) := by omega
        clear hlt'
        generalize l[k]! = x at HX H2 H3
        generalize m[k]! = y at HY H2 H3
        go_upto_region 6 with fail
        have H := Below.refl wr.heap.size wr
        by_cases e : x = y
        · have H2' := Lib.hid (H2.out e)
          clear H2 H3
          subst e
          refine g_start 9 rfl (by kernel_rfl) ?_
          (refine g_quiet 0 (by kernel_rfl) rfl (fun K hK => ?_); first | ((first | (refine qB_CAtK H rfl _ _ rfl _ _ rfl (cc x) HX.out HG.out _ Tryz.underlying28 rfl (infoCl x) (hK _ ?_)) | (refine qB_CAtK H rfl _ _ rfl _ _ rfl (cc x) HY.out HG'.out _ Tryz.underlying28 rfl (infoCl x) (hK _ ?_))); clear hK K) | (go_simp; first | (refine hK _ ?_; clear hK K) | (apply Exists.intro; refine ⟨fun _ => ?_, hK _ ?_⟩; (first | fail); clear hK K)))
          (refine g_quiet 1 (by kernel_rfl) rfl (fun K hK => ?_); first | ((first | (refine qB_CAtK H rfl _ _ rfl _ _ rfl (cc x) HX.out HG.out _ Tryz.underlying28 rfl (infoCl x) (hK _ ?_)) | (refine qB_CAtK H rfl _ _ rfl _ _ rfl (cc x) HY.out HG'.out _ Tryz.underlying28 rfl (infoCl x) (hK _ ?_))); clear hK K) | (go_simp; first | (refine hK _ ?_; clear hK K) | (apply Exists.intro; refine ⟨fun _ => ?_, hK _ ?_⟩; (first | fail); clear hK K)))
          (refine g_quiet 2 (by kernel_rfl) rfl (fun K hK => ?_); first | ((first | (refine qB_CAtK H rfl _ _ rfl _ _ rfl (cc x) HX.out HG.out _ Tryz.underlying28 rfl (infoCl x) (hK _ ?_)) | (refine qB_CAtK H rfl _ _ rfl _ _ rfl (cc x) HY.out HG'.out _ Tryz.underlying28 rfl (infoCl x) (hK _ ?_))); clear hK K) | (go_simp; first | (refine hK _ ?_; clear hK K) | (apply Exists.intro; refine ⟨fun _ => ?_, hK _ ?_⟩; (first | fail); clear hK K)))
          (refine g_quiet 3 (by kernel_rfl) rfl (fun K hK => ?_); first | ((first | (refine qB_CAtK H rfl _ _ rfl _ _ rfl (cc x) HX.out HG.out _ Tryz.underlying28 rfl (infoCl x) (hK _ ?_)) | (refine qB_CAtK H rfl _ _ rfl _ _ rfl (cc x) HY.out HG'.out _ Tryz.underlying28 rfl (infoCl x) (hK _ ?_))); clear hK K) | (go_simp; first | (refine hK _ ?_; clear hK K) | (apply Exists.intro; refine ⟨fun _ => ?_, hK _ ?_⟩; (first | fail); clear hK K)))
          (refine g_quiet 4 (by kernel_rfl) rfl (fun K hK => ?_); first | ((first | (refine qB_CAtK H rfl _ _ rfl _ _ rfl (cc x) HX.out HG.out _ Tryz.underlying28 rfl (infoCl x) (hK _ ?_)) | (refine qB_CAtK H rfl _ _ rfl _ _ rfl (cc x) HY.out HG'.out _ Tryz.underlying28 rfl (infoCl x) (hK _ ?_))); clear hK K) | (go_simp; first | (refine hK _ ?_; clear hK K) | (apply Exists.intro; refine ⟨fun _ => ?_, hK _ ?_⟩; (first | fail); clear hK K)))
          (refine g_quiet 5 (by kernel_rfl) rfl (fun K hK => ?_); first | ((first | (refine qB_CAtK H rfl _ _ rfl _ _ rfl (cc x) HX.out HG.out _ Tryz.underlying28 rfl (infoCl x) (hK _ ?_)) | (refine qB_CAtK H rfl _ _ rfl _ _ rfl (cc x) HY.out HG'.out _ Tryz.underlying28 rfl (infoCl x) (hK _ ?_))); clear hK K) | (go_simp; first | (refine hK _ ?_; clear hK K) | (apply Exists.intro; refine ⟨fun _ => ?_, hK _ ?_⟩; (first | fail); clear hK K)))
          (refine g_quiet 6 (by kernel_rfl) rfl (fun K hK => ?_); first | ((first | (refine qB_CAtK H rfl _ _ rfl _ _ rfl (cc x) HX.out HG.out _ Tryz.underlying28 rfl (infoCl x) (hK _ ?_)) | (refine qB_CAtK H rfl _ _ rfl _ _ rfl (cc x) HY.out HG'.out _ Tryz.underlying28 rfl (infoCl x) (hK _ ?_))); clear hK K) | (go_simp; first | (refine hK _ ?_; clear hK K) | (apply Exists.intro; refine ⟨fun _ => ?_, hK _ ?_⟩; (first | fail); clear hK K)))
          (refine g_quiet 7 (by kernel_rfl) rfl (fun K hK => ?_); first | ((first | (refine qB_CAtK H rfl _ _ rfl _ _ rfl (cc x) HX.out HG.out _ Tryz.underlying28 rfl (infoCl x) (hK _ ?_)) | (refine qB_CAtK H rfl _ _ rfl _ _ rfl (cc x) HY.out HG'.out _ Tryz.underlying28 rfl (infoCl x) (hK _ ?_))); clear hK K) | (go_simp; first | (refine hK _ ?_; clear hK K) | (apply Exists.intro; refine ⟨fun _ => ?_, hK _ ?_⟩; (first | fail); clear hK K)))
          (refine g_quiet 8 (by kernel_rfl) rfl (fun K hK => ?_); first | ((first | (refine qB_CAtK H rfl _ _ rfl _ _ rfl (cc x) HX.out HG.out _ Tryz.underlying28 rfl (infoCl x) (hK _ ?_)) | (refine qB_CAtK H rfl _ _ rfl _ _ rfl (cc x) HY.out HG'.out _ Tryz.underlying28 rfl (infoCl x) (hK _ ?_))); clear hK K) | (go_simp; first | (refine hK _ ?_; clear hK K) | (apply Exists.intro; refine ⟨fun _ => ?_, hK _ ?_⟩; (first | fail); clear hK K)))
          refine g_done (by kernel_rfl) ?_
          rintro w1 hw1 -
          go_wp2
          go_roundw
          case rel => exact ⟨k + 1, by omega, by go_num, H2'.out, bstep hb hw1⟩
          case measure => simp [intOf]; omega
        · have e1 : decide (x = y) = false := decide_eq_false e
          have H3' := Lib.hid (H3.out e)
          clear e H2 H3
          refine g_start 9 rfl (by kernel_rfl) ?_
          (refine g_quiet 0 (by kernel_rfl) rfl (fun K hK => ?_); first | ((first | (refine qB_CAtK H rfl _ _ rfl _ _ rfl (cc x) HX.out HG.out _ Tryz.underlying28 rfl (infoCl x) (hK _ ?_)) | (refine qB_CAtK H rfl _ _ rfl _ _ rfl (cc y) HY.out HG'.out _ Tryz.underlying28 rfl (infoCl y) (hK _ ?_))); clear hK K) | (go_simp; first | (refine hK _ ?_; clear hK K) | (apply Exists.intro; refine ⟨fun _ => ?_, hK _ ?_⟩; (first | fail); clear hK K)))
          (refine g_quiet 1 (by kernel_rfl) rfl (fun K hK => ?_); first | ((first | (refine qB_CAtK H rfl _ _ rfl _ _ rfl (cc x) HX.out HG.out _ Tryz.underlying28 rfl (infoCl x) (hK _ ?_)) | (refine qB_CAtK H rfl _ _ rfl _ _ rfl (cc y) HY.out HG'.out _ Tryz.underlying28 rfl (infoCl y) (hK _ ?_))); clear hK K) | (go_simp; first | (refine hK _ ?_; clear hK K) | (apply Exists.intro; refine ⟨fun _ => ?_, hK _ ?_⟩; (first | fail); clear hK K)))
          (refine g_quiet 2 (by kernel_rfl) rfl (fun K hK => ?_); first | ((first | (refine qB_CAtK H rfl _ _ rfl _ _ rfl (cc x) HX.out HG.out _ Tryz.underlying28 rfl (infoCl x) (hK _ ?_)) | (refine qB_CAtK H rfl _ _ rfl _ _ rfl (cc y) HY.out HG'.out _ Tryz.underlying28 rfl (infoCl y) (hK _ ?_))); clear hK K) | (go_simp; first | (refine hK _ ?_; clear hK K) | (apply Exists.intro; refine ⟨fun _ => ?_, hK _ ?_⟩; (first | fail); clear hK K)))
          (refine g_quiet 3 (by kernel_rfl) rfl (fun K hK => ?_); first | ((first | (refine qB_CAtK H rfl _ _ rfl _ _ rfl (cc x) HX.out HG.out _ Tryz.underlying28 rfl (infoCl x) (hK _ ?_)) | (refine qB_CAtK H rfl _ _ rfl _ _ rfl (cc y) HY.out HG'.out _ Tryz.underlying28 rfl (infoCl y) (hK _ ?_))); clear hK K) | (go_simp; first | (refine hK _ ?_; clear hK K) | (apply Exists.intro; refine ⟨fun _ => ?_, hK _ ?_⟩; (first | fail); clear hK K)))
          (refine g_quiet 4 (by kernel_rfl) rfl (fun K hK => ?_); first | ((first | (refine qB_CAtK H rfl _ _ rfl _ _ rfl (cc x) HX.out HG.out _ Tryz.underlying28 rfl (infoCl x) (hK _ ?_)) | (refine qB_CAtK H rfl _ _ rfl _ _ rfl (cc y) HY.out HG'.out _ Tryz.underlying28 rfl (infoCl y) (hK _ ?_))); clear hK K) | (go_simp; first | (refine hK _ ?_; clear hK K) | (apply Exists.intro; refine ⟨fun _ => ?_, hK _ ?_⟩; (first | fail); clear hK K)))
          (refine g_quiet 5 (by kernel_rfl) rfl (fun K hK => ?_); first | ((first | (refine qB_CAtK H rfl _ _ rfl _ _ rfl (cc x) HX.out HG.out _ Tryz.underlying28 rfl (infoCl x) (hK _ ?_)) | (refine qB_CAtK H rfl _ _ rfl _ _ rfl (cc y) HY.out HG'.out _ Tryz.underlying28 rfl (infoCl y) (hK _ ?_))); clear hK K) | (go_simp; first | (refine hK _ ?_; clear hK K) | (apply Exists.intro; refine ⟨fun _ => ?_, hK _ ?_⟩; (first | fail); clear hK K)))
          (refine g_quiet 6 (by kernel_rfl) rfl (fun K hK => ?_); first | ((first | (refine qB_CAtK H rfl _ _ rfl _ _ rfl (cc x) HX.out HG.out _ Tryz.underlying28 rfl (infoCl x) (hK _ ?_)) | (refine qB_CAtK H rfl _ _ rfl _ _ rfl (cc y) HY.out HG'.out _ Tryz.underlying28 rfl (infoCl y) (hK _ ?_))); clear hK K) | (go_simp; first | (refine hK _ ?_; clear hK K) | (apply Exists.intro; refine ⟨fun _ => ?_, hK _ ?_⟩; (first | fail); clear hK K)))
          (refine g_quiet 7 (by kernel_rfl) rfl (fun K hK => ?_); first | ((first | (refine qB_CAtK H rfl _ _ rfl _ _ rfl (cc x) HX.out HG.out _ Tryz.underlying28 rfl (infoCl x) (hK _ ?_)) | (refine qB_CAtK H rfl _ _ rfl _ _ rfl (cc y) HY.out HG'.out _ Tryz.underlying28 rfl (infoCl y) (hK _ ?_))); clear hK K) | (go_simp; first | (refine hK _ ?_; clear hK K) | (apply Exists.intro; refine ⟨fun _ => ?_, hK _ ?_⟩; (first | fail); clear hK K)))
          (refine g_quiet 8 (by kernel_rfl) rfl (fun K hK => ?_); first | ((first | (refine qB_CAtK H rfl _ _ rfl _ _ rfl (cc x) HX.out HG.out _ Tryz.underlying28 rfl (infoCl x) (hK _ ?_)) | (refine qB_CAtK H rfl _ _ rfl _ _ rfl (cc y) HY.out HG'.out _ Tryz.underlying28 rfl (infoCl y) (hK _ ?_))); clear hK K) | (go_simp; first | (refine hK _ ?_; clear hK K) | (apply Exists.intro; refine ⟨fun _ => ?_, hK _ ?_⟩; (first | fail); clear hK K)))
          refine g_done (by kernel_rfl) ?_
          rintro w1 hw1 -
          go_wp2
          go_ret
          exact ⟨ret_bool (decide_eq_false H3'.out).symm, bstep hb hw1⟩
      · obtain rfl : k = l.length := by omega
        have H4 : Hid (l = m) := by
          have := H1.out
          rw [List.take_length, hlen.out, List.take_length] at this
          exact this
        go_wp2
        go_ret
        exact ⟨ret_bool (decide_eq_true H4.out).symm, hb⟩
  · have hl2 : ¬ (l.length : Int) = (m.length : Int) := by omega
    have HN : Hid (decide (l = m) = false) := decide_eq_false (fun e => hlen (by rw [e]))
    go_enter Tryz.func55, Tryz.ntmps55
    go_wp2
    go_ret
    exact ⟨ret_bool HN.out.symm, Below.refl _ _⟩
end Go.Proofs.YtbngpcghognojaaGreatDoor
namespace Go.Proofs.YtbngpcghognojaaGreatDoor
open Go.RowKit
set_option linter.unusedVariables false
set_option linter.unusedSimpArgs false
set_option maxRecDepth 100000
set_option maxHeartbeats 1000000
theorem wc_size2 (a b : Wt) : (wc a).toArray.size = (wc b).toArray.size := rfl
theorem wv_one (x : Wt) : ∀ v ∈ (wc x).toArray.toList, v.oneCell' = true := by
  intro v hv
  simp [wc] at hv
  rcases hv with rfl | rfl | rfl <;> rfl
theorem infoW (x : Wt) : (Tryz.prog.info? 81).map (·.size) = some (wc x).toArray.size := by kernel_rfl
end Go.Proofs.YtbngpcghognojaaGreatDoor
namespace Go.Proofs.YtbngpcghognojaaGreatDoor
open Go.RowKit
set_option linter.unusedVariables false
set_option linter.unusedSimpArgs false
set_option maxRecDepth 100000
set_option maxHeartbeats 1000000
attribute [local go_sem] Oper.qB
theorem sziWant (x : Wt) : (Tryz.prog.info? 81).map (·.size) = some (wc x).length := by rw [wc_length]; kernel_rfl
theorem infoWantS : (Tryz.prog.info? 81).map (fun i => (i.zero, i.size, i.bytes)) = some (some (.agg (wc zW).toArray), 3, 6) := by kernel_rfl
end Go.Proofs.YtbngpcghognojaaGreatDoor
namespace Go.Proofs.YtbngpcghognojaaGreatDoor
open Go.RowKit
set_option linter.unusedVariables false
set_option linter.unusedSimpArgs false
set_option maxRecDepth 100000
set_option maxHeartbeats 1000000
theorem isNaN8_any (n : Int) (w : World) : Calls Tryz.prog 150 #[.int .u8 n] w fun e w' => e = .returned (.bool false) ∧ w = w' := by
  go_enter Tryz.func150, Tryz.ntmps150
  go_wp2
  go_ret
  exact ⟨by simp, rfl⟩
theorem isNaN16_any (n : Int) (w : World) : Calls Tryz.prog 151 #[.int .i16 n] w fun e w' => e = .returned (.bool false) ∧ w = w' := by
  go_enter Tryz.func151, Tryz.ntmps151
  go_wp2
  go_ret
  exact ⟨by simp, rfl⟩
def cmpI (a b : Int) : Int := if a < b then -1 else if b < a then 1 else 0
theorem Compare8_any (a b : Int) (w : World) : Calls Tryz.prog 130 #[.int .u8 a, .int .u8 b] w fun e w' => e = .returned (.int .i64 (cmpI a b)) ∧ w = w' := by
  go_enter Tryz.func130, Tryz.ntmps130
  go_wp2_with (go_at_call 150; refine (isNaN8_any _ _).mono ?_; rintro e w' ⟨rfl, rfl⟩)
  all_goals
    go_ret
    refine ⟨ret_int ?_, rfl⟩
    simp only [cmpI]
    repeat (first | rw [if_pos (by omega)] | rw [if_neg (by omega)])
theorem Compare16_any (a b : Int) (w : World) : Calls Tryz.prog 131 #[.int .i16 a, .int .i16 b] w fun e w' => e = .returned (.int .i64 (cmpI a b)) ∧ w = w' := by
  go_enter Tryz.func131, Tryz.ntmps131
  go_wp2_with (go_at_call 151; refine (isNaN16_any _ _).mono ?_; rintro e w' ⟨rfl, rfl⟩)
  all_goals
    go_ret
    refine ⟨ret_int ?_, rfl⟩
    simp only [cmpI]
    repeat (first | rw [if_pos (by omega)] | rw [if_neg (by omega)])
theorem flip_same {P : Program} {f : FuncId} {args : Array Value} {w : World} {v : Value} (h : Calls P f args w fun e w' => e = .returned v ∧ w = w') : Calls P f args w fun e w' => e = .returned v ∧ w' = w :=
  h.mono fun _ _ ⟨he, hw⟩ => ⟨he, hw.symm⟩
def orI (x y : Int) : Int := if x = 0 then y else x
/-- cmp.Or of two. -/
theorem Or_any (a : Addr) (x y : Int) (c : Nat) (w : World) (h0 : w.cell? a = some (.int .i64 x)) (h1 : w.cell? ⟨a.block, a.off + 1, none⟩ = some (.int .i64 y)) :
    Calls Tryz.prog 129 #[.slice (some a) 2 c] w fun e w' => e = .returned (.int .i64 (orI x y)) ∧ w = w' := by
  by_cases hx : x = 0 <;> by_cases hy : y = 0
  all_goals
    go_enter Tryz.func129, Tryz.ntmps129
    go_wp2
    go_rounds 3
    all_goals
      go_ret
      exact ⟨ret_int (by simp [orI, hx, hy]), rfl⟩
theorem cmp_or (a b : Bt) : orI (cmpI a.k b.k) (cmpI a.y b.y) = a.cmp b := by
  unfold Bt.cmp orI cmpI
  by_cases h1 : a.k < b.k
  · simp [h1]
  · by_cases h2 : b.k < a.k <;> simp [h1, h2]
theorem compare_any (a b : Bt) (w : World) : Calls Tryz.prog 89 #[bv a, bv b] w fun e w' => e = .returned (.int .i64 (a.cmp b)) ∧ Below w.heap.size w w' := by
  obtain ⟨k, y, hk, hy⟩ := a
  obtain ⟨k', y', hk', hy'⟩ := b
  go_enter Tryz.func89, Tryz.ntmps89
  go_wp2
  generalize hW : World.alloc _ _ = W
  have hb : Below w.heap.size w W := by rw [← hW]; exact ((Below.refl _ _).alloc (Nat.le_refl _) _).alloc (by simp) _
  have hs : W.heap.size = w.heap.size + 2 := by rw [← hW]; simp
  have x0 : W.cell? ⟨w.heap.size, 0, none⟩ = some (.int .u8 k) := by rw [← hW]; simp [go_sem]
  have x1 : W.cell? ⟨w.heap.size, 1, none⟩ = some (.int .i16 y) := by rw [← hW]; simp [go_sem]
  have y0 : W.cell? ⟨w.heap.size + 1, 0, none⟩ = some (.int .u8 k') := by rw [← hW]; simp [go_sem]
  have y1 : W.cell? ⟨w.heap.size + 1, 1, none⟩ = some (.int .i16 y') := by rw [← hW]; simp [go_sem]
  clear hW
  generalize w.heap.size = g at x0 x1 y0 y1 hs
  go_still_tail 10, (by kernel_rfl)
  still_call (flip_same (Compare8_any _ _ _))
  repeat still_step
  still_call (flip_same (Compare16_any _ _ _))
  refine wpStill_nil ?_
  change wpList _ _ _ _ _ (World.drew _)
  clear hs x0 x1 y0 y1
  go_wp2_with fail
  refine (Or_any _ (cmpI k k') (cmpI y y') _ _ (by simp [go_sem]) (by simp [go_sem])).mono ?_
  rintro e w' ⟨rfl, rfl⟩
  go_wp2
  go_ret
  refine ⟨ret_int ?_, bstep hb (((Below.refl _ _).drew).alloc (Nat.le_refl _) _)⟩
  exact cmp_or ⟨k, y, hk, hy⟩ ⟨k', y', hk', hy'⟩
theorem CompareBottles_any (a b : Bt) (w : World) : Calls Tryz.prog 32 #[bv a, bv b] w fun e w' => e = .returned (.int .i64 (a.cmp b)) ∧ Below w.heap.size w w' := by
  go_enter Tryz.func32, Tryz.ntmps32
  go_wp2_with (go_at_call 89; refine (compare_any a b _).mono ?_; rintro e w' ⟨rfl, hb⟩)
  go_ret
  exact ⟨rfl, bstepB (((Below.refl _ _).alloc (Nat.le_refl _) _).alloc (by simp) _) (by simp; omega) hb⟩
end Go.Proofs.YtbngpcghognojaaGreatDoor
namespace Go.Proofs.YtbngpcghognojaaGreatDoor
open Go.RowKit
set_option linter.unusedVariables false
set_option linter.unusedSimpArgs false
set_option maxRecDepth 100000
set_option maxHeartbeats 400000
attribute [local go_sem] Oper.qB
/-- A valid want. -/
def Wt.ok (x : Wt) : Bool := x.b.ok && (decide (1 ≤ x.n) && decide (x.n ≤ 144))
/-- Want j is valid and comes behind the one ahead of it. -/
def okAt (l : List Wt) (j : Nat) : Prop := l[j]!.ok = true ∧ (0 < j → (l[j - 1]!.b).cmp (l[j]!.b) < 0)
instance (l : List Wt) (j : Nat) : Decidable (okAt l j) := by unfold okAt; infer_instance
def okK (l : List Wt) (k : Nat) : Prop := ∀ j, j < k → okAt l j
instance (l : List Wt) (k : Nat) : Decidable (okK l k) := by unfold okK; infer_instance
def ordOk (l : List Wt) : Bool := decide (okK l l.length) && decide (l.length ≤ 8)
theorem okK_step {l : List Wt} {k : Nat} (h : okK l k) (hk : okAt l k) : okK l (k + 1) := fun j hj => by
  rcases Nat.lt_or_ge j k with h' | h'
  · exact h j h'
  · rwa [show j = k by omega]
theorem ord_bad {l : List Wt} {k : Nat} (hk : k < l.length) (h : ¬ okAt l k) : ordOk l = false := by
  have : ¬ okK l l.length := fun h' => h (h' k hk)
  simp [ordOk, this]
theorem ord_good {l : List Wt} (h : okK l l.length) : ordOk l = decide (l.length ≤ 8) := by simp [ordOk, h]
theorem l02Ok_any (b off c : Nat) (l : List Wt) (w : World) (hC : CAt w b off (fl wc l)) (hb : b < w.heap.size) (hn : l.length ≤ 1000000000) :
    Calls Tryz.prog 99 #[.slice (some ⟨b, off, none⟩) l.length c] w fun e w' => e = .returned (.bool (ordOk l)) ∧ Below w.heap.size w w' := by
  have HC := Lib.hid (⟨hC, hb⟩ : _ ∧ _)
  clear hC hb
  go_enter Tryz.func99, Tryz.ntmps99
  go_wp2
  go_loopw [3] (fun i wr => ∃ k : Nat, k ≤ l.length ∧ i = .int .i64 k ∧ Hid (okK l k) ∧ Below w.heap.size w wr) (fun i _ => l.length - (intOf i).toNat)
  case atStart => exact ⟨0, Nat.zero_le _, rfl, fun j hj => absurd hj (Nat.not_lt_zero _), Below.refl _ _⟩
  case round =>
    obtain ⟨k, hk, rfl, H1, hb⟩ := hrel
    by_cases hlt : k < l.length
    · have HX := Lib.hid ((HC.out.1.below hb HC.out.2).el wc_length hlt)
      have HW := Lib.hid (Nat.lt_of_lt_of_le HC.out.2 hb.size)
      have hlt2 : (k : Int) < (l.length : Int) := by omega
      have HB : Hid (¬ okAt l k → ordOk l = false) := ord_bad hlt
      have HA : Hid (okAt l k → okK l (k + 1)) := okK_step H1.out
      have HD : Hid (okAt l k ↔ l[k]!.ok = true ∧ (0 < k → (l[k - 1]!.b).cmp (l[k]!.b) < 0)) := Iff.rfl
      have HY : Hid (0 < k → CAt wr b (off + (k - 1) * 3) (wc l[k - 1]!)) := fun h => (HC.out.1.below hb HC.out.2).el wc_length (by omega)
      generalize l[k]! = x at HX HD
      generalize l[k - 1]! = y at HY HD
      have x0 : wr.cell? ⟨b, off + k * 3, none⟩ = some (.int .u8 x.b.k) := HX.out 0 _ rfl
      have x1 : wr.cell? ⟨b, off + k * 3 + 1, none⟩ = some (.int .i16 x.b.y) := HX.out 1 _ rfl
      have x2 : wr.cell? ⟨b, off + k * 3 + 2, none⟩ = some (.int .i16 x.n) := HX.out 2 _ rfl
      have hnb := x.hn
      have hbw := HW.out
      have hIn := fun W => below_of_same (l00In_any x.n 1 144 W)
      generalize hr : (decide (1 ≤ x.n) && decide (x.n ≤ 144)) = r at hIn
      have HO : Hid (x.ok = (x.b.ok && r)) := by rw [Hid, Wt.ok, hr]
      clear hr
      have H := Below.refl wr.heap.size wr
      cases e1 : x.b.ok with
      | false =>
        have hbad := HB.out (fun h => by have := (HD.out.1 h).1; rw [HO.out, e1] at this; cases this)
        go_wp2_with (go_at_call 84; with_reducible refine (l01Bottle_any x.b _).mono ?_; rintro e w' ⟨rfl, hb⟩; replace H := bstep H hb; clear hb; have hc := bcell H)
        go_ret
        exact ⟨ret_bool hbad.symm, bstep hb H⟩
      | true =>
        cases r with
        | false =>
          have hbad := HB.out (fun h => by have := (HD.out.1 h).1; rw [HO.out, e1] at this; cases this)
          go_wp2_with (first | (go_at_call 84; with_reducible refine (l01Bottle_any x.b _).mono ?_; rintro e w' ⟨rfl, hb⟩; replace H := bstep H hb; clear hb; have hc := bcell H) | (go_at_call 101; with_reducible refine (hIn _).mono ?_; rintro e w' ⟨rfl, hb⟩; replace H := bstep H hb; clear hb; have hc := bcell H))
          go_ret
          exact ⟨ret_bool hbad.symm, bstep hb H⟩
        | true =>
          have hxo : Hid (x.ok = true) := by rw [Hid, HO.out, e1]; rfl
          rcases Nat.eq_zero_or_pos k with hz | hpos
          · have hgood := Lib.hid (HA.out (HD.out.2 ⟨hxo.out, fun h => absurd h (by omega)⟩))
            have hz7 : ((0 : Int) < (k : Int)) = False := eq_false (by omega)
            have hz8 : (0 < k) = False := eq_false (by omega)
            replace hz := Lib.hid hz
            go_upto_region 6 with (first | (go_at_call 84; with_reducible refine (l01Bottle_any x.b _).mono ?_; rintro e w' ⟨rfl, hb⟩; replace H := bstep H hb; clear hb; have hc := bcell H) | (go_at_call 101; with_reducible refine (hIn _).mono ?_; rintro e w' ⟨rfl, hb⟩; replace H := bstep H hb; clear hb; have hc := bcell H))
            clear hc HD HA HB HY HX HO hIn hnb hxo e1 x0 x1 x2
            refine wp_region_qB (by kernel_rfl) (by kernel_rfl) ?_
            (repeat (first | fail | (apply qB_step; intro K hK; go_simp; first | (refine hK _ ?_; clear hK K) | (apply Exists.intro; refine ⟨fun _ => ?_, hK _ ?_⟩; (first | fail); clear hK K))))
            refine qB_nil ?_
            intro w1 hw1
            replace H := bstep H hw1
            clear hw1
            go_wp2
            go_roundw
            case rel => exact ⟨k + 1, by omega, by go_num, hgood, bstep hb H⟩
            case measure => simp [intOf]; omega
          · have HYY := Lib.hid (HY.out hpos)
            obtain ⟨k, rfl⟩ : ∃ k', k = k' + 1 := ⟨k - 1, by omega⟩
            rw [Nat.add_sub_cancel] at HYY
            have hz2 : (0 : Int) < ((k + 1 : Nat) : Int) := by omega
            have hz3 : (0 : Int) < (k : Int) + 1 := by omega
            go_upto_region 6 with (first | (go_at_call 84; with_reducible refine (l01Bottle_any x.b _).mono ?_; rintro e w' ⟨rfl, hb⟩; replace H := bstep H hb; clear hb; have hc := bcell H) | (go_at_call 101; with_reducible refine (hIn _).mono ?_; rintro e w' ⟨rfl, hb⟩; replace H := bstep H hb; clear hb; have hc := bcell H))
            clear hc x0 x1 x2
            have CX := HX.out.below H HW.out
            have CY := HYY.out.below H HW.out
            have x0 := cell_regrown (CX 0 _ rfl)
            have x1 := cell_regrown (CX 1 _ rfl)
            have y0 := cell_regrown (CY 0 _ rfl)
            have y1 := cell_regrown (CY 1 _ rfl)
            rw [Nat.add_zero] at x0 y0
            have hk1 : (k : Int) < (l.length : Int) := by omega
            have hk3 : (0 : Int) ≤ (k : Int) + 1 := by omega
            have hk4 : ((k : Int) + 1).toNat = k + 1 := by omega
            have hwk : IntKind.i64.wrap (k : Int) = (k : Int) := by rw [IntKind.wrap_i64]; omega
            have hk2 : (k : Int) + 1 < (l.length : Int) := by omega
            replace H1 := Lib.hid (⟨hb, H⟩ : Below w.heap.size w wr ∧ Below wr.heap.size wr w')
            clear H
            have H := Below.refl w'.heap.size w'
            by_cases hcmp : y.b.cmp x.b < 0
            · have hgood := Lib.hid (HA.out (HD.out.2 ⟨hxo.out, fun _ => hcmp⟩))
              have hc2 : ¬ (0 : Int) ≤ y.b.cmp x.b := by omega
              refine wp_region_qB (by kernel_rfl) (by kernel_rfl) ?_
              (repeat (first | fail | (apply qB_step; intro K hK; go_simp; first | (refine hK _ ?_; clear hK K) | (apply Exists.intro; refine ⟨fun _ => ?_, hK _ ?_⟩; (first | (go_at_call 100; with_reducible exact sCompareBottles_any y.b x.b _)); clear hK K))))
              refine qB_nil ?_
              intro w1 hw1
              replace H := bstep H hw1
              clear hw1
              go_wp2
              go_roundw
              case rel => exact ⟨k + 1 + 1, by omega, by go_num, hgood, bstep H1.out.1 (bstep H1.out.2 H)⟩
              case measure => simp [intOf]; omega
            · have hbad := Lib.hid (HB.out (fun h => hcmp ((HD.out.1 h).2 hpos)))
              have hc2 : (0 : Int) ≤ y.b.cmp x.b := by omega
              refine wp_region_qB (by kernel_rfl) (by kernel_rfl) ?_
              (repeat (first | fail | (apply qB_step; intro K hK; go_simp; first | (refine hK _ ?_; clear hK K) | (apply Exists.intro; refine ⟨fun _ => ?_, hK _ ?_⟩; (first | (go_at_call 100; with_reducible exact sCompareBottles_any y.b x.b _)); clear hK K))))
              refine qB_nil ?_
              intro w1 hw1
              replace H := bstep H hw1
              clear hw1
              go_wp2
              go_ret
              exact ⟨ret_bool hbad.out.symm, bstep H1.out.1 (bstep H1.out.2 H)⟩
    · obtain rfl : k = l.length := by omega
      have HF := Lib.hid (ord_good H1.out)
      go_wp2
      go_ret
      exact ⟨ret_bool (by rw [HF.out, Bool.eq_iff_iff]; simp; omega), hb⟩
theorem ValidOrder_any (b off c : Nat) (l : List Wt) (w : World) (hC : CAt w b off (fl wc l)) (hb : b < w.heap.size) (hn : l.length ≤ 1000000000) :
    Calls Tryz.prog 50 #[.slice (some ⟨b, off, none⟩) l.length c] w fun e w' => e = .returned (.bool (ordOk l)) ∧ Below w.heap.size w w' := by
  have HC := Lib.hid (⟨hC, hb⟩ : _ ∧ _)
  clear hC hb
  go_enter Tryz.func50, Tryz.ntmps50
  go_wp2
  go_loopw [7] (fun i wr => ∃ k : Nat, k ≤ l.length ∧ i = .int .i64 k ∧ Hid (okK l k) ∧ Below w.heap.size w wr) (fun i _ => l.length - (intOf i).toNat)
  case atStart => exact ⟨0, Nat.zero_le _, rfl, fun j hj => absurd hj (Nat.not_lt_zero _), Below.refl _ _⟩
  case round =>
    obtain ⟨k, hk, rfl, H1, hb⟩ := hrel
    by_cases hlt : k < l.length
    · have HX := (HC.out.1.below hb HC.out.2).el wc_length hlt
      have HW := Lib.hid (Nat.lt_of_lt_of_le HC.out.2 hb.size)
      have hlt2 : (k : Int) < (l.length : Int) := by omega
      have HB : Hid (¬ okAt l k → ordOk l = false) := ord_bad hlt
      have HA : Hid (okAt l k → okK l (k + 1)) := okK_step H1.out
      have HD : Hid (okAt l k ↔ l[k]!.ok = true ∧ (0 < k → (l[k - 1]!.b).cmp (l[k]!.b) < 0)) := Iff.rfl
      have HY : Hid (0 < k → CAt wr b (off + (k - 1) * 3) (wc l[k - 1]!)) := fun h => (HC.out.1.below hb HC.out.2).el wc_length (by omega)
      generalize l[k]! = x at HX HD
      generalize l[k - 1]! = y at HY HD
      have x0 : wr.cell? ⟨b, off + k * 3, none⟩ = some (.int .u8 x.b.k) := HX 0 _ rfl
      have x1 : wr.cell? ⟨b, off + k * 3 + 1, none⟩ = some (.int .i16 x.b.y) := HX 1 _ rfl
      have x2 : wr.cell? ⟨b, off + k * 3 + 2, none⟩ = some (.int .i16 x.n) := HX 2 _ rfl
      have hIn := fun W => below_of_same (within_any x.n 1 144 W)
      generalize hr : (decide (1 ≤ x.n) && decide (x.n ≤ 144)) = r at hIn
      have HO : Hid (x.ok = (x.b.ok && r)) := by rw [Hid, Wt.ok, hr]
      clear hr HX
      go_upto_region 4 with fail
      generalize hW1 : World.alloc _ _ = W1
      have hg : Below wr.heap.size wr W1 := by rw [← hW1]; go_grown
      have r4 : rowOf W1 wr.heap.size = some (wc x).toArray := by rw [← hW1, rowOf_alloc, if_pos rfl]; rfl
      have hb1 := Lib.hid (bstep hb hg)
      have HY1 : Hid (0 < k → CAt W1 b (off + (k - 1) * 3) (wc y)) := fun h => (HY.out h).below hg HW.out
      clear hW1 x0 x1 x2 HY HW hb hg
      generalize wr.heap.size = g4 at r4 ⊢
      have z0 := cell_regrown (show W1.cell? ⟨g4, 0, none⟩ = some (.int .u8 x.b.k) from rowOf_cell r4 0)
      have z1 := cell_regrown (show W1.cell? ⟨g4, 1, none⟩ = some (.int .i16 x.b.y) from rowOf_cell r4 1)
      have z2 := cell_regrown (show W1.cell? ⟨g4, 2, none⟩ = some (.int .i16 x.n) from rowOf_cell r4 2)
      obtain ⟨hn1, hn2⟩ := x.hn
      have hwx : IntKind.i64.wrap x.n = x.n := by rw [IntKind.wrap_i64]; omega
      have H := Below.refl W1.heap.size W1
      have HBB := Lib.hid (⟨hb1.out, rowOf_lt r4⟩ : _ ∧ _)
      clear hb1 r4
      cases e1 : x.b.ok with
      | false =>
        have hbad := Lib.hid (HB.out (fun h => by have := (HD.out.1 h).1; rw [HO.out, e1] at this; cases this))
        refine wp_region_qB (by kernel_rfl) (by kernel_rfl) ?_
        (repeat (first | fail | (apply qB_step; intro K hK; go_simp; first | (refine hK _ ?_; clear hK K) | (apply Exists.intro; refine ⟨fun _ => ?_, hK _ ?_⟩; (first | (go_at_call 19; with_reducible exact ValidBottle_any x.b _) | (go_at_call 77; with_reducible exact hIn _) | (go_at_call 89 <;> exact compare_any y.b x.b _)); clear hK K))))
        refine qB_nil ?_
        intro w1 hw1
        replace H := bstep H hw1
        clear hw1
        go_wp2
        go_ret
        exact ⟨ret_bool hbad.out.symm, bstep HBB.out.1 H⟩
      | true =>
        cases r with
        | false =>
          have hbad := Lib.hid (HB.out (fun h => by have := (HD.out.1 h).1; rw [HO.out, e1] at this; cases this))
          refine wp_region_qB (by kernel_rfl) (by kernel_rfl) ?_
          (repeat (first | fail | (apply qB_step; intro K hK; go_simp; first | (refine hK _ ?_; clear hK K) | (apply Exists.intro; refine ⟨fun _ => ?_, hK _ ?_⟩; (first | (go_at_call 19; with_reducible exact ValidBottle_any x.b _) | (go_at_call 77; with_reducible exact hIn _) | (go_at_call 89 <;> exact compare_any y.b x.b _)); clear hK K))))
          refine qB_nil ?_
          intro w1 hw1
          replace H := bstep H hw1
          clear hw1
          go_wp2
          go_ret
          exact ⟨ret_bool hbad.out.symm, bstep HBB.out.1 H⟩
        | true =>
          have hxo : Hid (x.ok = true) := by rw [Hid, HO.out, e1]; rfl
          rcases Nat.eq_zero_or_pos k with hz | hpos
          · have hgood := Lib.hid (HA.out (HD.out.2 ⟨hxo.out, fun h => absurd h (by omega)⟩))
            have hz7 : ((0 : Int) < (k : Int)) = False := eq_false (by omega)
            have hz8 : (0 < k) = False := eq_false (by omega)
            replace hz := Lib.hid hz
            refine wp_region_qB (by kernel_rfl) (by kernel_rfl) ?_
            (repeat (first | fail | (apply qB_step; intro K hK; go_simp; first | (refine hK _ ?_; clear hK K) | (apply Exists.intro; refine ⟨fun _ => ?_, hK _ ?_⟩; (first | (go_at_call 19; with_reducible exact ValidBottle_any x.b _) | (go_at_call 77; with_reducible exact hIn _) | (go_at_call 89 <;> exact compare_any y.b x.b _)); clear hK K))))
            refine qB_nil ?_
            intro w1 hw1
            replace H := bstep H hw1
            clear hw1
            go_wp2
            go_roundw
            case rel => exact ⟨k + 1, by omega, by go_num, hgood, bstep HBB.out.1 H⟩
            case measure => simp [intOf]; omega
          · have CY := HY1.out hpos
            obtain ⟨k, rfl⟩ : ∃ k', k = k' + 1 := ⟨k - 1, by omega⟩
            rw [Nat.add_sub_cancel] at CY
            have hz2 : (0 : Int) < ((k + 1 : Nat) : Int) := by omega
            have hz3 : (0 : Int) < (k : Int) + 1 := by omega
            have y0 := cell_regrown (CY 0 _ rfl)
            have y1 := cell_regrown (CY 1 _ rfl)
            rw [Nat.add_zero] at y0
            have hk1 : (k : Int) < (l.length : Int) := by omega
            have hk3 : (0 : Int) ≤ (k : Int) + 1 := by omega
            have hwk : IntKind.i64.wrap (k : Int) = (k : Int) := by rw [IntKind.wrap_i64]; omega
            by_cases hcmp : y.b.cmp x.b < 0
            · have hgood := Lib.hid (HA.out (HD.out.2 ⟨hxo.out, fun _ => hcmp⟩))
              have hc2 : ¬ (0 : Int) ≤ y.b.cmp x.b := by omega
              refine wp_region_qB (by kernel_rfl) (by kernel_rfl) ?_
              (repeat (first | fail | (apply qB_step; intro K hK; go_simp; first | (refine hK _ ?_; clear hK K) | (apply Exists.intro; refine ⟨fun _ => ?_, hK _ ?_⟩; (first | (go_at_call 19; with_reducible exact ValidBottle_any x.b _) | (go_at_call 77; with_reducible exact hIn _) | (go_at_call 89 <;> exact compare_any y.b x.b _)); clear hK K))))
              refine qB_nil ?_
              intro w1 hw1
              replace H := bstep H hw1
              clear hw1
              go_wp2
              go_roundw
              case rel => exact ⟨k + 1 + 1, by omega, by go_num, hgood, bstep HBB.out.1 H⟩
              case measure => simp [intOf]; omega
            · have hbad := Lib.hid (HB.out (fun h => hcmp ((HD.out.1 h).2 hpos)))
              have hc2 : (0 : Int) ≤ y.b.cmp x.b := by omega
              refine wp_region_qB (by kernel_rfl) (by kernel_rfl) ?_
              (repeat (first | fail | (apply qB_step; intro K hK; go_simp; first | (refine hK _ ?_; clear hK K) | (apply Exists.intro; refine ⟨fun _ => ?_, hK _ ?_⟩; (first | (go_at_call 19; with_reducible exact ValidBottle_any x.b _) | (go_at_call 77; with_reducible exact hIn _) | (go_at_call 89 <;> exact compare_any y.b x.b _)); clear hK K))))
              refine qB_nil ?_
              intro w1 hw1
              replace H := bstep H hw1
              clear hw1
              go_wp2
              go_ret
              exact ⟨ret_bool hbad.out.symm, bstep HBB.out.1 H⟩
    · obtain rfl : k = l.length := by omega
      have HF := Lib.hid (ord_good H1.out)
      go_wp2
      go_ret
      exact ⟨ret_bool (by rw [HF.out, Bool.eq_iff_iff]; simp; omega), hb⟩
end Go.Proofs.YtbngpcghognojaaGreatDoor
namespace Go.Proofs.YtbngpcghognojaaGreatDoor
open Go Go.RowKit
set_option linter.unusedVariables false
set_option linter.unusedSimpArgs false
set_option maxRecDepth 100000
/-- So many of a bottle. -/
def wtN (b : Bt) (n : Int) : Wt := if h : -32768 ≤ n ∧ n ≤ 32767 then ⟨b, n, h⟩ else ⟨b, 0, by decide⟩
theorem wtN_n {b : Bt} {n : Int} (h : -32768 ≤ n ∧ n ≤ 32767) : wtN b n = ⟨b, n, h⟩ := dif_pos h
/-- The last list grown. -/
def appL (o : List (List Wt)) (x : Wt) : List (List Wt) := o.dropLast ++ [(o.getLast?.getD []) ++ [x]]
theorem appL_snoc (o : List (List Wt)) (l : List Wt) (x : Wt) : appL (o ++ [l]) x = o ++ [l ++ [x]] := by
  simp [appL]
/-- The program's round. -/
def spIs (most : Int) (s : List (List Wt) × Int) : List (List Wt) × Int := if s.2 = 0 then (s.1 ++ [[]], most) else s
def spI (most : Int) (b : Bt) : Nat → Int → List (List Wt) × Int → List (List Wt) × Int
  | 0, _, s => s
  | f + 1, n, s => if n ≤ 0 then s else spI most b f (n - min (spIs most s).2 n) (appL (spIs most s).1 (wtN b (min (spIs most s).2 n)), (spIs most s).2 - min (spIs most s).2 n)
/-- The reference's round. -/
def spSs (most : Int) (b : Bt) (n : Int) (s : List (List Wt) × List Wt × Int) : List (List Wt) × List Wt × Int :=
  if s.2.2 - min n s.2.2 = 0 then (s.1 ++ [s.2.1 ++ [wtN b (min n s.2.2)]], [], most) else (s.1, s.2.1 ++ [wtN b (min n s.2.2)], s.2.2 - min n s.2.2)
def spS (most : Int) (b : Bt) : Nat → Int → List (List Wt) × List Wt × Int → List (List Wt) × List Wt × Int
  | 0, _, s => s
  | f + 1, n, s => if n ≤ 0 then s else spS most b f (n - min n s.2.2) (spSs most b n s)
/-- How the two stand. -/
def SpR (most : Int) (s : List (List Wt) × Int) (t : List (List Wt) × List Wt × Int) : Prop :=
  (t.2.1 = [] ∧ s.2 = 0 ∧ t.2.2 = most ∧ s.1 = t.1) ∨ (t.2.1 ≠ [] ∧ 0 < s.2 ∧ s.2 = t.2.2 ∧ s.1 = t.1 ++ [t.2.1])
theorem spR_round {most : Int} {b : Bt} {n : Int} {s : List (List Wt) × Int} {t : List (List Wt) × List Wt × Int} (hm : 0 < most) (hn : 0 < n) (h : SpR most s t) :
    min (spIs most s).2 n = min n t.2.2 ∧ SpR most (appL (spIs most s).1 (wtN b (min (spIs most s).2 n)), (spIs most s).2 - min (spIs most s).2 n) (spSs most b n t) := by
  obtain ⟨o, l⟩ := s
  obtain ⟨o', now, room⟩ := t
  rcases h with ⟨h1, h2, h3, h4⟩ | ⟨h1, h2, h3, h4⟩
  · simp only at h1 h2 h3 h4
    subst h1 h2 h3 h4
    have e : spIs room (o, 0) = (o ++ [[]], room) := if_pos rfl
    rw [e]
    simp only
    have hmin : min room n = min n room := by omega
    refine ⟨hmin, ?_⟩
    rw [appL_snoc, hmin]
    unfold spSs
    simp only
    split
    · rename_i h0
      exact .inl ⟨rfl, h0, rfl, rfl⟩
    · rename_i h0
      exact .inr ⟨by simp, by show 0 < room - min n room; omega, rfl, rfl⟩
  · simp only at h1 h2 h3 h4
    subst h3 h4
    have e : spIs most (o' ++ [now], l) = (o' ++ [now], l) := if_neg (by show l ≠ 0; omega)
    rw [e]
    simp only
    have hmin : min l n = min n l := by omega
    refine ⟨hmin, ?_⟩
    rw [appL_snoc, hmin]
    unfold spSs
    simp only
    split
    · rename_i h0
      exact .inl ⟨rfl, h0, rfl, rfl⟩
    · rename_i h0
      exact .inr ⟨by simp, by show 0 < l - min n l; omega, rfl, rfl⟩
theorem spR_all {most : Int} {b : Bt} (hm : 0 < most) : ∀ (f : Nat) (n : Int) (s : List (List Wt) × Int) (t : List (List Wt) × List Wt × Int), SpR most s t → SpR most (spI most b f n s) (spS most b f n t)
  | 0, _, _, _, h => h
  | f + 1, n, s, t, h => by
    rw [spI, spS]
    by_cases hn : n ≤ 0
    · rw [if_pos hn, if_pos hn]
      exact h
    · rw [if_neg hn, if_neg hn]
      obtain ⟨h1, h2⟩ := spR_round (b := b) (n := n) hm (by omega) h
      rw [← h1]
      exact spR_all hm f _ _ _ h2
/-- Order by order. -/
def splI (l : List Wt) (most : Int) : Nat → List (List Wt) × Int
  | 0 => ([], 0)
  | i + 1 => spI most l[i]!.b l[i]!.n.toNat l[i]!.n (splI l most i)
def splS (l : List Wt) (most : Int) : Nat → List (List Wt) × List Wt × Int
  | 0 => ([], [], most)
  | i + 1 => spS most l[i]!.b l[i]!.n.toNat l[i]!.n (splS l most i)
theorem spl_rel {l : List Wt} {most : Int} (hm : 0 < most) : ∀ i, SpR most (splI l most i) (splS l most i)
  | 0 => .inl ⟨rfl, rfl, rfl, rfl⟩
  | i + 1 => spR_all hm _ _ _ _ (spl_rel hm i)
def closeS (t : List (List Wt) × List Wt × Int) : List (List Wt) := if t.2.1 = [] then t.1 else t.1 ++ [t.2.1]
theorem spl_eq {l : List Wt} {most : Int} (hm : 0 < most) (i : Nat) : closeS (splS l most i) = (splI l most i).1 := by
  unfold closeS
  rcases spl_rel (l := l) hm i with ⟨h1, h2, h3, h4⟩ | ⟨h1, h2, h3, h4⟩
  · rw [if_pos h1, h4]
  · rw [if_neg h1, h4]
def splCode (l : List Wt) (most : Int) : Int := if ordOk l = true then (if 1 ≤ most ∧ most ≤ 144 then 0 else 2) else 1
def splitR (l : List Wt) (most : Int) : List (List Wt) × Int := if splCode l most = 0 then ((splI l most l.length).1, 0) else ([], splCode l most)
/-- How many bottles are wanted from the i-th want on. -/
def restN (l : List Wt) (i : Nat) : Nat := ((l.drop i).map fun x => x.n.toNat).sum
theorem restN_step {l : List Wt} {i : Nat} (h : i < l.length) : restN l i = l[i]!.n.toNat + restN l (i + 1) := by
  unfold restN
  rw [List.drop_eq_getElem_cons h, List.map_cons, List.sum_cons, getB h]
theorem restN_le {l : List Wt} (h : ordOk l = true) : restN l 0 ≤ 1152 := by
  simp only [ordOk, Bool.and_eq_true, decide_eq_true_iff] at h
  have key : ∀ (m : List Wt), (∀ x ∈ m, x.n ≤ 144) → ((m.map fun x => x.n.toNat).sum) ≤ 144 * m.length := by
    intro m
    induction m with
    | nil => intro _; simp
    | cons x m ih =>
      intro hm
      have h1 := hm x (List.mem_cons_self ..)
      have h2 := ih fun y hy => hm y (List.mem_cons_of_mem _ hy)
      rw [List.map_cons, List.sum_cons, List.length_cons]
      omega
  have := key l fun x hx => by
    obtain ⟨i, hi, rfl⟩ := List.getElem_of_mem hx
    have := (h.1 i hi).1
    rw [getB hi] at this
    simp only [Wt.ok, Bool.and_eq_true, decide_eq_true_iff] at this
    omega
  unfold restN
  rw [List.drop_zero]
  have := h.2
  omega
/-- How much there is. -/
def totL (o : List (List Wt)) : Nat := (o.map List.length).sum
theorem totL_app (o p : List (List Wt)) : totL (o ++ p) = totL o + totL p := by simp [totL]
theorem totL_appL {o : List (List Wt)} (x : Wt) (h : o ≠ []) : totL (appL o x) = totL o + 1 ∧ (appL o x).length = o.length := by
  obtain ⟨p, l, rfl⟩ : ∃ p l, o = p ++ [l] := ⟨o.dropLast, o.getLast h, (List.dropLast_concat_getLast h).symm⟩
  rw [appL_snoc, totL_app, totL_app]
  simp [totL]
  omega
/-- Never more than there are bottles. -/
theorem spI_le {most : Int} {b : Bt} (hm : 0 < most) : ∀ (f : Nat) (n : Int) (s : List (List Wt) × Int) (D : Nat), 0 ≤ s.2 → (s.2 ≠ 0 → s.1 ≠ []) → s.1.length ≤ D → totL s.1 ≤ D → 0 ≤ (spI most b f n s).2 ∧ ((spI most b f n s).2 ≠ 0 → (spI most b f n s).1 ≠ []) ∧ (spI most b f n s).1.length ≤ D + n.toNat ∧ totL (spI most b f n s).1 ≤ D + n.toNat
  | 0, n, s, D, h0, h1, h2, h3 => ⟨h0, h1, by show s.1.length ≤ _; omega, by show totL s.1 ≤ _; omega⟩
  | f + 1, n, s, D, h0, h1, h2, h3 => by
    rw [spI]
    by_cases hn : n ≤ 0
    · rw [if_pos hn]
      exact ⟨h0, h1, by omega, by omega⟩
    · rw [if_neg hn]
      have hs : (spIs most s).1 ≠ [] ∧ 0 < (spIs most s).2 ∧ (spIs most s).1.length ≤ D + 1 ∧ totL (spIs most s).1 ≤ D := by
        unfold spIs
        split
        · refine ⟨by simp, hm, by simp; omega, ?_⟩
          rw [totL_app]
          simp [totL] at h3 ⊢
          exact h3
        · rename_i h
          exact ⟨h1 h, by omega, by omega, h3⟩
      obtain ⟨q1, q2, q3, q4⟩ := hs
      obtain ⟨t1, t2⟩ := totL_appL (wtN b (min (spIs most s).2 n)) q1
      have := spI_le (b := b) hm f (n - min (spIs most s).2 n) (appL (spIs most s).1 (wtN b (min (spIs most s).2 n)), (spIs most s).2 - min (spIs most s).2 n) (D + 1) (by show 0 ≤ _ - _; omega) (fun _ => by show appL _ _ ≠ []; intro e; rw [e] at t2; exact q1 (List.length_eq_zero_iff.1 t2.symm)) (by show (appL _ _).length ≤ _; omega) (by show totL (appL _ _) ≤ _; omega)
      exact ⟨this.1, this.2.1, by omega, by omega⟩
theorem spI_most {most : Int} {b : Bt} (hm : 0 < most) : ∀ (f : Nat) (n : Int) (s : List (List Wt) × Int), s.2 ≤ most → (spI most b f n s).2 ≤ most
  | 0, n, s, h => h
  | f + 1, n, s, h => by
    rw [spI]
    by_cases hn : n ≤ 0
    · rw [if_pos hn]
      exact h
    · rw [if_neg hn]
      refine spI_most hm f _ _ ?_
      have : (spIs most s).2 ≤ most := by
        unfold spIs
        split
        · exact Int.le_refl _
        · exact h
      have h0 : 0 ≤ (spIs most s).2 ∨ (spIs most s).2 < 0 := by omega
      show (spIs most s).2 - min (spIs most s).2 n ≤ most
      omega
theorem splI_most {l : List Wt} {most : Int} (hm : 0 < most) : ∀ i, (splI l most i).2 ≤ most
  | 0 => by show (0 : Int) ≤ most; omega
  | i + 1 => spI_most hm _ _ _ (splI_most hm i)
theorem splI_le {l : List Wt} {most : Int} (hm : 0 < most) : ∀ i, i ≤ l.length → ∃ D : Nat, D + restN l i = restN l 0 ∧ 0 ≤ (splI l most i).2 ∧ ((splI l most i).2 ≠ 0 → (splI l most i).1 ≠ []) ∧ (splI l most i).1.length ≤ D ∧ totL (splI l most i).1 ≤ D
  | 0, _ => ⟨0, by omega, Int.le_refl _, fun h => absurd rfl h, Nat.le_refl _, Nat.le_refl _⟩
  | i + 1, hi => by
    obtain ⟨D, h1, h2, h3, h4, h5⟩ := splI_le (l := l) hm i (by omega)
    have := restN_step (l := l) (i := i) (by omega)
    obtain ⟨q1, q2, q3, q4⟩ := spI_le (b := l[i]!.b) hm l[i]!.n.toNat l[i]!.n (splI l most i) D h2 h3 h4 h5
    exact ⟨D + l[i]!.n.toNat, by omega, q1, q2, q3, q4⟩
theorem splitR_le (l : List Wt) (most : Int) : (splitR l most).1.length ≤ 1152 ∧ totL (splitR l most).1 ≤ 1152 := by
  unfold splitR
  split
  · rename_i h
    unfold splCode at h
    split at h
    · rename_i hok
      split at h
      · rename_i hm
        obtain ⟨D, h1, h2, h3, h4, h5⟩ := splI_le (l := l) (most := most) (by omega) l.length (Nat.le_refl _)
        have := restN_le hok
        exact ⟨by show (splI l most l.length).1.length ≤ _; omega, by show totL (splI l most l.length).1 ≤ _; omega⟩
      · cases h
    · cases h
  · simp [totL]
end Go.Proofs.YtbngpcghognojaaGreatDoor
namespace Go.Proofs.YtbngpcghognojaaGreatDoor
open Go.RowKit
set_option linter.unusedVariables false
set_option linter.unusedSimpArgs false
set_option maxRecDepth 100000
set_option maxHeartbeats 1000000
attribute [local go_sem] Oper.qB
theorem sziCrate (x : Cr) : (Tryz.prog.info? 28).map (·.size) = some (cc x).length := by rw [cc_length]; kernel_rfl
theorem infoCrateS : (Tryz.prog.info? 28).map (fun i => (i.zero, i.size, i.bytes)) = some (some (.agg (cc zC).toArray), 24, 48) := by kernel_rfl
end Go.Proofs.YtbngpcghognojaaGreatDoor
