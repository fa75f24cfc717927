/- Regions that draw their order, with something known throughout, and something more that changes: an operation alone may write into old memory. -/
import Derived.Test.YtbngpcghognojaaDoorKnow
namespace Go.Proofs.YtbngpcghognojaaDoor
open Go Go.Sort Go.RowKit
set_option linter.unusedVariables false
set_option linter.unusedSimpArgs false
set_option maxRecDepth 100000
set_option maxHeartbeats 1000000
/-- Known throughout, and known now. -/
def CE (Φ γ : Fact) (w : World) : Prop := Φ.p w ∧ γ.p w
theorem CE.step {Φ γ : Fact} {w w' : World} (h : CE Φ γ w) (hb : BelowOf w w') : CE Φ γ w' := ⟨Φ.s _ _ h.1 hb, γ.s _ _ h.2 hb⟩
section
variable {P : Program} {ops : Array Oper} {md : Region.Mode} {Φ γ : Fact} {Q : Act → World → Prop} {k : Nat} {d : Array Bool} {a : Act}
theorem e_start {id : Nat} {Q : Exit → Act → World → Prop} {a : Act} {w : World} (Φ γ : Fact) (hΦ : Φ.p w.drew) (hγ : γ.p w.drew) (n : Nat) (hn : ops.size = n) (hm : P.follows .mixedOrders = true)
    (h : AnyG (CE Φ) P .any ops (Q .normal) n γ (Array.replicate n false) a) : (Code.region id ops true).wp P Q a w := by
  subst hn
  exact wp_region_any hm (AnyG.any _ _ _ _ h _ ⟨hΦ, hγ⟩)
theorem e_done (hB : (Region.ready md ops d).isEmpty = true) (h : ∀ w, Φ.p w → γ.p w → Q a w) : AnyG (CE Φ) P md ops Q 0 γ d a :=
  ⟨by simpa using hB, fun w hw => h w hw.1 hw.2⟩
theorem e_yields {o : Oper} {v : Value} (hw : Region.wanted o (yielded ops a.tmps) = true) (h : ∀ p : {w : World // Φ.p w}, o.quietAt P a (fun w'' => BelowOf p.1 w'') p.1 v) : YieldsG (CE Φ) P ops o v a := by
  refine .inl ⟨hw, fun γ w hL => ?_⟩
  have hq := h ⟨w, hL.1⟩
  unfold Oper.quietAt at hq ⊢
  generalize (execOp a.eval o).run P _ = r at hq ⊢
  cases r with
  | halt x w => exact hq
  | ok n w =>
    cases n <;> try exact hq
    case enter f args => exact ⟨hq.1, Calls.mono hq.2 fun e w'' ⟨he, hb⟩ => ⟨he, hL.step hb⟩⟩
/-- An operation that reads what is known throughout, or calls, is ready and free: it may as well come now. -/
theorem e_quiet (i : Nat) {o : Oper} (hB : (Region.noSelect ops && ((Region.ready md ops d).contains i && Region.free md ops d i)) = true) (ho : ops[i]? = some o)
    (h : ∀ K : Act → Prop, (∀ a, AnyG (CE Φ) P md ops Q k γ (d.setIfInBounds i true) a → K a) → if Region.wanted o (yielded ops a.tmps) then Oper.qK P o a Φ K else K (a.put o.dst undef)) : AnyG (CE Φ) P md ops Q (k + 1) γ d a := by
  simp only [Bool.and_eq_true] at hB
  have hf := h _ fun _ h => h
  have hr : i ∈ Region.ready md ops d := by simpa using hB.2.1
  split at hf
  · rename_i hw
    obtain ⟨v, h1, h2⟩ := hf
    exact AnyG.first ho (Region.noSelect_spec hB.1) k γ d a (Region.free_spec ho hB.2.2) hr (e_yields hw h1) h2
  · rename_i hw
    exact AnyG.first ho (Region.noSelect_spec hB.1) k γ d a (Region.free_spec ho hB.2.2) hr (.inr ⟨by simpa using hw, rfl⟩) hf
/-- A step of whatever kind, alone ready: what is known now may change. -/
theorem e_alone (i : Nat) {o : Oper} (hB : (Region.ready md ops d == [i]) = true) (ho : ops[i]? = some o) (hg : o.guard = Option.none)
    (h : ∀ K : Act → Fact → Prop, (∀ a γ', AnyG (CE Φ) P md ops Q k γ' (d.setIfInBounds i true) a → K a γ') → ∀ w, Φ.p w → γ.p w → gUpon (CE Φ) P (fun v γ' => K (a.put o.dst v) γ') ((execOp a.eval o).run P w)) : AnyG (CE Φ) P md ops Q (k + 1) γ d a := by
  refine AnyG.one (by simpa using hB) ho ?_
  unfold gOp
  rw [if_pos (by unfold Region.wanted; rw [hg])]
  exact fun w hL => h _ (fun _ _ h => h) w hL.1 hL.2
theorem e_val {r : Result Next} {u : Value} {w' : World} {K : Value → Fact → Prop} (γ' : Fact) (h : r = .ok (.value u) w') (hΦ : Φ.p w') (hγ : γ'.p w') (hk : K u γ') : gUpon (CE Φ) P K r := by
  rw [h]
  exact ⟨γ', ⟨hΦ, hγ⟩, hk⟩
theorem e_skip {r : Result Next} {w' : World} {K : Value → Fact → Prop} (γ' : Fact) (h : r = .ok .skip w') (hΦ : Φ.p w') (hγ : γ'.p w') (hk : K undef γ') : gUpon (CE Φ) P K r := by
  rw [h]
  exact ⟨γ', ⟨hΦ, hγ⟩, hk⟩
end
section
variable {P : Program} {o : Oper} {a : Act} {w w' : World}
/-- append, run. -/
theorem app_exec (s x : Operand) (t : TypeId) (ho : o.op = .call { callee := .builtin .append, args := #[s, x], argTypes := #[t, t] }) (v u : Value) (hs : a.eval s = v) (hx : a.eval x = u) (v1 : Value)
    (hrun : (Builtin.append_ #[t, t] o.type #[v, u]).run P w = .ok v1 w') : (execOp a.eval o).run P w = .ok (.value v1) w' := by
  unfold execOp
  simp only [ho, resolve, invoke, builtin, Sem.run_bind, Sem.run_pure, Result.andThen_ok, List.map_toArray, List.map_cons, List.map_nil, hs, hx, hrun]
end
end Go.Proofs.YtbngpcghognojaaDoor
