/- Contracts of UsefulIn: how many bottles of a crate an order can use. -/
import Derived.Test.YtoiinpoiggkkdaaOrder
import Derived.Test.YtoiinpoiggkkdaaCount
import Derived.Test.YtoiinpoiggkkdaaOwn
import Derived.Test.YtoiinpoiggkkdaaDrawn
namespace Go.Proofs.Ytoiinpoiggkkdaa
open Go.RowKit
set_option linter.unusedVariables false
set_option linter.unusedSimpArgs false
set_option maxRecDepth 100000
set_option maxHeartbeats 1000000
def use1 (c : Cr) (x : Wt) : Int := min x.n (cntC c x.b)
def useW (c : Cr) (l : List Wt) : Int := (l.map (use1 c)).sum
theorem useW_step {c : Cr} {l : List Wt} {k : Nat} (hk : k < l.length) : useW c (l.take (k + 1)) = useW c (l.take k) + use1 c l[k]! := by
  unfold useW
  rw [List.take_succ_eq_append_getElem hk, getB hk, List.map_append, List.sum_append]
  simp
theorem cntC_le (c : Cr) (b : Bt) : cntC c b ≤ 12 := cntK_le c b 12
theorem useW_le (c : Cr) : ∀ l : List Wt, -(32768 * (l.length : Int)) ≤ useW c l ∧ useW c l ≤ 32768 * (l.length : Int)
  | [] => by simp [useW]
  | x :: l => by
    have h := useW_le c l
    have hx := x.hn
    have hc := cntC_le c x.b
    have e : useW c (x :: l) = use1 c x + useW c l := by simp [useW]
    rw [e, List.length_cons]
    unfold use1
    omega
def usefulR (c : Cr) (l : List Wt) : Int × Int := if (c.ok && ordOk l) = true then (useW c l, 0) else (0, 1)
section
variable {P : Program} {ops : Array Oper} {W : World}
/-- A step that yields a value and lays something new that is known. -/
theorem found_val {P : Program} {W w w' : World} {γ : Fact} {u : Value} {k : Value → Fact → Prop} {Φ : World → Prop} (hΦ : ∀ w w', Φ w → BelowOf w w' → Φ w') (H : Below W.heap.size W w) (hγ : γ.p w) (hb : Below w.heap.size w w') (hv : Φ w')
    (h : k u (γ.and Φ hΦ)) : gUpon (CF W) P k (.ok (.value u) w') := ⟨γ.and Φ hΦ, ⟨bstep H hb, γ.s _ _ hγ hb, hv⟩, h⟩
end
theorem l00Min_any (a b : Int) (w : World) : Calls Try.prog 19 #[.int .i64 a, .int .i64 b] w fun e w' => e = .returned (.int .i64 (min a b)) ∧ w = w' := by
  rcases (by omega : a < b ∨ b ≤ a) with h | h
  · have HF := Lib.hid (show min a b = a by omega)
    go_enter Try.func19, Try.ntmps19
    go_wp2
    go_ret
    exact ⟨by rw [HF.out]; rfl, rfl⟩
  · have HF := Lib.hid (show min a b = b by omega)
    have h2 : ¬ a < b := by omega
    go_enter Try.func19, Try.ntmps19
    go_wp2
    go_ret
    exact ⟨by rw [HF.out]; rfl, rfl⟩
end Go.Proofs.Ytoiinpoiggkkdaa
