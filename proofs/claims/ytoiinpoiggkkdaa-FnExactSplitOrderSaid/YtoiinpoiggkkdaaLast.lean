/- A region whose last operation comes behind all others and writes: what the others read need hold up to it alone. -/
import Derived.Test.YtoiinpoiggkkdaaDrawn
namespace Go.Proofs.Ytoiinpoiggkkdaa
open Go Go.RowKit
set_option linter.unusedVariables false
set_option linter.unusedSimpArgs false
set_option maxRecDepth 100000
set_option maxHeartbeats 1000000
section
variable {Γ : Type} {Cl : Γ → World → Prop} {P : Program} {ops : Array Oper} {md : Region.Mode}
/-- Whatever order is picked, up to the last operation. -/
def AnyL (Cl : Γ → World → Prop) (P : Program) (md : Region.Mode) (ops : Array Oper) (Q : Exit → Act → World → Prop) (L : Nat) : Nat → Γ → Array Bool → Act → Prop
  | 0, γ, d, a => Region.ready md ops d = [L] ∧ ∀ w, Cl γ w → wpAny P md ops Q 1 d a w
  | k + 1, γ, d, a => Region.ready md ops d ≠ [] ∧ ∀ i ∈ Region.ready md ops d, ∀ o, ops[i]? = some o → gOp Cl P ops o γ (fun a' γ' => AnyL Cl P md ops Q L k γ' (d.setIfInBounds i true) a') a
theorem AnyL.any {Q : Exit → Act → World → Prop} {L : Nat} (k : Nat) : ∀ γ d a, AnyL Cl P md ops Q L k γ d a → ∀ w, Cl γ w → wpAny P md ops Q (k + 1) d a w := by
  induction k with
  | zero => exact fun γ d a h w hw => h.2 w hw
  | succ k ih =>
    intro γ d a h w hw
    refine ⟨fun e => absurd e h.1, fun i hi => ?_⟩
    obtain ⟨_, o, ho, _⟩ := mem_ready.1 hi
    have hg := h.2 i hi o ho
    unfold wpOp
    rw [ho]
    unfold gOp at hg
    show if _ then _ else _
    split
    · rename_i hw'
      rw [if_pos hw'] at hg
      refine .inl ?_
      have hu := hg w hw
      unfold Oper.wp
      generalize (execOp a.eval o).run P w = r at hu
      cases r with
      | halt x w => exact hu.elim
      | ok n w =>
        cases n <;> try exact hu.elim
        case value u =>
          obtain ⟨γ', h1, h2⟩ := hu
          exact ih _ _ _ h2 _ h1
        case skip =>
          obtain ⟨γ', h1, h2⟩ := hu
          exact ih _ _ _ h2 _ h1
        case enter f args =>
          refine Calls.mono hu ?_
          rintro e w'' ⟨v, γ', rfl, h1, h2⟩
          exact ih _ _ _ h2 _ h1
    · rename_i hw'
      rw [if_neg hw'] at hg
      exact ih _ _ _ hg _ hw
/-- The last operation waits for this one. -/
def waitsB (md : Region.Mode) (ops : Array Oper) (L i : Nat) : Bool := match ops[L]? with
  | some o => o.after.any fun e => Region.binds md e && e.on == i
  | none => false
theorem waits_not {L i : Nat} (h : waitsB md ops L i = true) {d : Array Bool} (hr : i ∈ Region.ready md ops d) : L ∉ Region.ready md ops d := by
  intro hL
  have hun := (mem_ready.1 hr).1
  obtain ⟨_, o, ho, hall⟩ := mem_ready.1 hL
  unfold waitsB at h
  rw [ho] at h
  obtain ⟨e, he, hb⟩ := Array.any_eq_true'.1 h
  rw [Bool.and_eq_true, beq_iff_eq] at hb
  have h0 := hall e he hb.1
  rw [hb.2] at h0
  rcases Nat.lt_or_ge i d.size with h' | h'
  · simp [h'] at h0 hun
    rw [hun] at h0
    cases h0
  · simp [Array.getElem?_eq_none h'] at h0
theorem AnyL.first {Q : Exit → Act → World → Prop} {i L : Nat} {o : Oper} {v : Value} (hi : ops[i]? = some o) (hsel : ∀ (j : Nat) (x : Oper) cs b, ops[j]? = some x → x.op ≠ .select cs b) (hw : waitsB md ops L i = true) (k : Nat) :
    ∀ γ d a, (∀ j x, ops[j]? = some x → j ≠ i → d.getD j true = false → (∀ e ∈ x.after, Region.binds md e = true → e.on ≠ i) → o.apart ops x = true) →
      i ∈ Region.ready md ops d → YieldsG Cl P ops o v a → AnyL Cl P md ops Q L k γ (d.setIfInBounds i true) (a.put o.dst v) → AnyL Cl P md ops Q L (k + 1) γ d a := by
  induction k with
  | zero =>
    intro γ d a _ hr hy h
    refine ⟨List.ne_nil_of_mem hr, fun j hj x hx => ?_⟩
    by_cases e : j = i
    · subst e
      obtain rfl : x = o := Option.some.inj (hx.symm.trans hi)
      exact hy.gOp h
    · have h1 := ready_mono (i := i) hj e
      rw [h.1, List.mem_singleton] at h1
      subst h1
      exact absurd hj (waits_not hw hr)
  | succ k ih =>
    intro γ d a hfree hr hy h
    have hun := (mem_ready.1 hr).1
    refine ⟨List.ne_nil_of_mem hr, fun j hj x hx => ?_⟩
    by_cases e : j = i
    · subst e
      obtain rfl : x = o := Option.some.inj (hx.symm.trans hi)
      exact hy.gOp h
    obtain ⟨hju, x', hx', hall⟩ := mem_ready.1 hj
    obtain rfl : x' = x := Option.some.inj (hx'.symm.trans hx)
    have hno : ∀ t ∈ x'.after, Region.binds md t = true → t.on ≠ i := by
      intro t ht hb heq
      have h0 := hall t ht hb
      rw [heq] at h0
      rcases Nat.lt_or_ge i d.size with h' | h'
      · simp [h'] at h0 hun
        rw [hun] at h0
        cases h0
      · simp [Array.getElem?_eq_none h'] at h0
    refine (gOp_put (hfree j x' hx e hju hno) (fun cs b => hsel i o cs b hi) (fun cs b => hsel j x' cs b hx) hy (h.2 j (ready_mono hj e) x' hx)).mono ?_
    rintro a' γ' ⟨hy', h'⟩
    refine ih γ' _ a' (fun m y hm hmi hd => hfree m y hm hmi ?_) (ready_mono hr (Ne.symm e)) hy' (by rw [Array.setIfInBounds_comm _ _ e]; exact h')
    by_cases em : j = m
    · rw [← em]
      exact hju
    · rwa [getD_set_ne true em] at hd
end
section
variable {P : Program} {ops : Array Oper} {md : Region.Mode} {Q : Exit → Act → World → Prop} {k j L : Nat} {ws : List World} {w w' : World} {d : Array Bool} {a : Act}
theorem l_start {id : Nat} {Q : Exit → Act → World → Prop} {a : Act} {w : World} (L n : Nat) (ws : List World) (h0 : ws[0]? = some w.drew) (hn : ops.size = n + 1) (hm : P.follows .mixedOrders = true)
    (h : AnyL (At ws) P .any ops Q L n 0 (Array.replicate (n + 1) false) a) : (Code.region id ops true).wp P Q a w := by
  have := AnyL.any _ _ _ _ h _ h0
  rw [← hn] at this
  exact wp_region_any hm this
theorem l_done {o : Oper} (w : World) (hj : ws[j]? = some w) (hB : (Region.ready md ops d == [L] && (Region.ready md ops (d.setIfInBounds L true)).isEmpty) = true) (ho : ops[L]? = some o) (h : wpList P ops Q [o] a w) : AnyL (At ws) P md ops Q L 0 j d a := by
  simp only [Bool.and_eq_true, beq_iff_eq, List.isEmpty_iff] at hB
  refine ⟨hB.1, fun w' hw => ?_⟩
  obtain rfl : w' = w := Option.some.inj ((show ws[j]? = some w' from hw).symm.trans hj)
  refine ⟨fun e => absurd e (by rw [hB.1]; simp), fun i hi => ?_⟩
  rw [hB.1, List.mem_singleton] at hi
  subst hi
  unfold wpOp
  rw [ho]
  have e : wpAny P md ops Q 0 (d.setIfInBounds i true) = fun a w => Q .normal a w := by
    funext a w
    simp [wpAny, hB.2]
  rw [e]
  exact h
/-- Quiet in all these worlds, and the last operation waits for it: it may as well come now. -/
theorem l_quiet (i : Nat) {o : Oper} (hB : (Region.noSelect ops && ((Region.ready md ops d).contains i && (Region.free md ops d i && waitsB md ops L i))) = true) (ho : ops[i]? = some o)
    (h : ∀ K : Act → Prop, (∀ a, AnyL (At ws) P md ops Q L k j (d.setIfInBounds i true) a → K a) → if Region.wanted o (yielded ops a.tmps) then ∃ v, (∀ w ∈ ws, o.quietAt P a (fun w'' => w'' = w) w v) ∧ K (a.put o.dst v) else K (a.put o.dst undef)) : AnyL (At ws) P md ops Q L (k + 1) j d a := by
  simp only [Bool.and_eq_true] at hB
  have hf := h _ fun _ h => h
  have hr : i ∈ Region.ready md ops d := by simpa using hB.2.1
  split at hf
  · rename_i hw
    obtain ⟨v, h1, h2⟩ := hf
    refine AnyL.first ho (Region.noSelect_spec hB.1) hB.2.2.2 k j d a (Region.free_spec ho hB.2.2.1) hr (.inl ⟨hw, fun γ w hL => ?_⟩) h2
    have hq := h1 w (List.mem_of_getElem? hL)
    unfold Oper.quietAt at hq ⊢
    generalize (execOp a.eval o).run P _ = r at hq ⊢
    cases r with
    | halt x w => exact hq
    | ok n w =>
      cases n <;> try exact hq
      case enter f args => exact ⟨hq.1, Calls.mono hq.2 fun e w'' ⟨he, hb⟩ => ⟨he, by rw [hb]; exact hL⟩⟩
  · rename_i hw
    exact AnyL.first ho (Region.noSelect_spec hB.1) hB.2.2.2 k j d a (Region.free_spec ho hB.2.2.1) hr (.inr ⟨by simpa using hw, rfl⟩) hf
/-- Alone ready; the world may become the next one. -/
theorem l_step (i : Nat) {o : Oper} (j' : Nat) (w w' : World) (hj : ws[j]? = some w) (hj' : ws[j']? = some w') (hB : (Region.ready md ops d == [i]) = true) (ho : ops[i]? = some o) (hg : o.guard = none)
    (h : ∀ K : Act → Prop, (∀ a, AnyL (At ws) P md ops Q L k j' (d.setIfInBounds i true) a → K a) → Goes P o a w w' K) : AnyL (At ws) P md ops Q L (k + 1) j d a := by
  have hr : Region.ready md ops d = [i] := by simpa using hB
  refine ⟨by rw [hr]; simp, fun m hm x hx => ?_⟩
  rw [hr] at hm
  obtain rfl : m = i := by simpa using hm
  obtain rfl : x = o := Option.some.inj (hx.symm.trans ho)
  exact (h _ fun _ h => h).gOp (K := fun a' γ' => AnyL (At ws) P md ops Q L k γ' (d.setIfInBounds m true) a') hg hj hj'
end
section
variable {P : Program} {o : Oper} {a : Act} {w w' : World} {k : Act → Prop}
/-- What is run, run. -/
theorem Goes.value {v : Value} (h : (execOp a.eval o).run P w = .ok (.value v) w') (hk : k (a.put o.dst v)) : Goes P o a w w' k := by
  unfold Goes
  rw [h]
  exact ⟨rfl, hk⟩
theorem Goes.skip (h : (execOp a.eval o).run P w = .ok .skip w') (hk : k (a.put o.dst undef)) : Goes P o a w w' k := by
  unfold Goes
  rw [h]
  exact ⟨rfl, hk⟩
end
end Go.Proofs.Ytoiinpoiggkkdaa
