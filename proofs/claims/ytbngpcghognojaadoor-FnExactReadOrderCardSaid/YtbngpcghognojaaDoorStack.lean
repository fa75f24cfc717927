/- Slices of crates: compared, checked, copied. -/
import Derived.Test.YtbngpcghognojaaDoorSlc
import Derived.Test.YtbngpcghognojaaDoorList
import Derived.Test.YtbngpcghognojaaDoorConv
import Derived.Test.YtbngpcghognojaaDoorFunc
import Derived.Test.YtbngpcghognojaaDoorDrawn
import Derived.Test.YtbngpcghognojaaDoorPlace
namespace Go.Proofs.YtbngpcghognojaaDoor
open Go.RowKit
set_option linter.unusedVariables false
set_option linter.unusedSimpArgs false
set_option maxRecDepth 100000
set_option maxHeartbeats 1000000
theorem run_forAll {P : Program} {w : World} (g : Nat → Option Bool × Unit → Sem (ForInStep (Option Bool × Unit))) (q : Nat → Bool) (l : List Nat) (h : ∀ i ∈ l, ∀ s, (g i s).run P w = .ok (if q i then .yield (none, ()) else .done (some false, ())) w) :
    (forIn l (none, ()) g).run P w = .ok (if l.all q then (none, ()) else (some false, ())) w := by
  induction l with
  | nil => simp
  | cons i l ih =>
    rw [List.forIn_cons, Sem.run_bind, h i (by simp)]
    cases hq : q i with
    | true =>
      simp only [↓reduceIte, Result.andThen_ok]
      rw [ih fun j hj => h j (by simp [hj])]
      simp [hq]
    | false => simp [hq]
theorem like_all (a b : Cr) : ((List.range' 0 12).all fun i => (rB a.toList i).like (rB b.toList i)) = decide (a = b) := by
  rw [Bool.eq_iff_iff, decide_eq_true_iff, List.all_eq_true]
  constructor
  · intro h
    apply Vector.toArray_inj.1
    apply Array.toList_inj.1
    apply List.ext_getElem (by simp)
    intro i hi hi'
    have := h i (by simp at hi ⊢; omega)
    rw [Bt.like_iff, rB_lt (by simpa using hi), rB_lt (by simpa using hi')] at this
    exact this
  · rintro rfl i _
    exact Bt.like_iff.2 rfl
/-- What 'make' lays. -/
theorem made_fl {α : Type} [Inhabited α] {f : α → List Value} {k : Nat} (hf : ∀ x, (f x).length = k) (hk : 0 < k) (z : α) (a : Array Value) (ha : a = (f z).toArray) (n : Nat) : (madeCells a (n * k)).toList = fl f (List.replicate n z) := by
  subst ha
  have hl : (fl f (List.replicate n z)).length = n * k := by rw [fl_length hf, List.length_replicate]
  apply List.ext_getElem?
  intro m
  by_cases hm : m < n * k
  · have hq : m / k < n := by rw [Nat.div_lt_iff_lt_mul hk]; exact hm
    have hr : m % k < (f z).length := by rw [hf]; exact Nat.mod_lt _ hk
    have e : m / k * k + m % k = m := Nat.div_add_mod' m k
    have h2 := fl_at hf (List.replicate n z) (m / k) (by simpa using hq) (m % k) _ (by rw [getB (by simpa using hq), List.getElem_replicate]; exact List.getElem?_eq_getElem hr)
    rw [e] at h2
    rw [h2]
    simp [madeCells, hm, hf, hr, Nat.mod_lt _ hk]
  · rw [List.getElem?_eq_none (by simp [size_madeCells]; omega), List.getElem?_eq_none (by rw [hl]; omega)]
/-- All crates valid, and no more than a stack holds. -/
def stackOk (l : List Cr) : Bool := decide (l.length ≤ 12) && l.all Cr.ok
theorem fl_cc_length (l : List Cr) : (fl cc l).length = l.length * 24 := fl_length cc_length l
theorem infoCl (c : Cr) : (Tryd.prog.info? 32).map (·.size) = some (cc c).length := by rw [cc_length]; kernel_rfl
theorem run_part (c : Cr) (k : Nat) (h : k < 12) (w : World) : (part 26 (cc c).toArray (k * 2)).run Tryd.prog w = .ok (.agg #[.int .u8 (rB c.toList k).k, .int .i16 (rB c.toList k).y]) w := by
  have hu := Tryd.underlying26
  have hE := cc_take c k h
  simp [go_sem, part, hE]
theorem eqC (d : Nat) (w : World) (a b : Cr) : (Op.equalIn (d + 3) 32 (.agg (cc a).toArray) (.agg (cc b).toArray)).run Tryd.prog w = .ok (decide (a = b)) w := by
  have hu := Tryd.underlying32
  unfold Op.equalIn
  simp only [Sem.run_bind, run_underlying hu, Result.andThen_ok, Tryd.sizeOf26]
  rw [Std.Legacy.Range.forIn_eq_forIn_range', run_forAll _ (fun i => (rB a.toList i).like (rB b.toList i))]
  · have e : ((List.range' [:12].start [:12].size [:12].step).all fun i => (rB a.toList i).like (rB b.toList i)) = decide (a = b) := like_all a b
    rw [Result.andThen_ok, e]
    cases decide (a = b) <;> simp
  · intro i hi s
    have hi : i < 12 := by simpa using hi
    rw [Sem.run_bind, run_part a i hi, Result.andThen_ok, Sem.run_bind, run_part b i hi, Result.andThen_ok, Sem.run_bind, eqB, Result.andThen_ok]
    show Sem.run Tryd.prog (if (!((rB a.toList i).like (rB b.toList i))) = true then _ else _) w = _
    cases (rB a.toList i).like (rB b.toList i) <;> simp
end Go.Proofs.YtbngpcghognojaaDoor
