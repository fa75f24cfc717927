/- Texts of the claim, joined (2 of 19): Tail. -/
import Derived.Tactics
import Derived.StillTail
import Derived.Test.YtbngpcghognojaaGreatDoorBC1
namespace Go.Proofs.YtbngpcghognojaaGreatDoor
open Go Go.Sort Go.RowKit
set_option linter.unusedVariables false
set_option linter.unusedSimpArgs false
set_option maxRecDepth 100000
set_option maxHeartbeats 1000000
/-- What was there at W stands; behind it, among others, these rows. -/
structure Laid (W : World) (γ : List (Nat × Array Value)) (w : World) : Prop where
  b : Below W.heap.size W w
  r : ∀ x ∈ γ, W.heap.size ≤ x.1 ∧ rowOf w x.1 = some x.2
abbrev BelowOf (w w' : World) : Prop := Below w.heap.size w w'
theorem Laid.step {W w w' : World} {γ : List (Nat × Array Value)} (h : Laid W γ w) (hb : BelowOf w w') : Laid W γ w' :=
  ⟨bstep h.b hb, fun x hx => ⟨(h.r x hx).1, (rowOf_below hb (rowOf_lt (h.r x hx).2)).trans (h.r x hx).2⟩⟩
theorem Laid.alloc {W w : World} {γ : List (Nat × Array Value)} (h : Laid W γ w) (cs : Array Value) (t : TypeId) : Laid W ((w.heap.size, cs) :: γ) (w.alloc (.cells cs t)) := by
  refine ⟨h.b.alloc h.b.size _, fun x hx => ?_⟩
  rcases List.mem_cons.1 hx with rfl | hx
  · exact ⟨h.b.size, by rw [rowOf_alloc, if_pos rfl]⟩
  · have := h.r x hx
    exact ⟨this.1, by rw [rowOf_alloc, if_neg (Nat.ne_of_lt (rowOf_lt this.2)), this.2]⟩
section
variable {Γ : Type} {Cl : Γ → World → Prop} {P : Program} {ops : Array Oper} {md : Region.Mode}
/-- What is asked of what an operation yields: the state of knowledge goes on. -/
def gUpon (Cl : Γ → World → Prop) (P : Program) (k : Value → Γ → Prop) : Result Next → Prop
  | .ok (.value u) w' => ∃ γ, Cl γ w' ∧ k u γ
  | .ok .skip w' => ∃ γ, Cl γ w' ∧ k undef γ
  | .ok (.enter f args) w' => Calls P f args w' fun e w'' => ∃ v γ, e = .returned v ∧ Cl γ w'' ∧ k v γ
  | _ => False
theorem gUpon.mono {k k' : Value → Γ → Prop} (h : ∀ v γ, k v γ → k' v γ) {r : Result Next} (hr : gUpon Cl P k r) : gUpon Cl P k' r := by
  cases r with
  | halt x w => exact hr
  | ok n w =>
    cases n <;> try exact hr
    case value u =>
      obtain ⟨γ, h1, h2⟩ := hr
      exact ⟨γ, h1, h _ _ h2⟩
    case skip =>
      obtain ⟨γ, h1, h2⟩ := hr
      exact ⟨γ, h1, h _ _ h2⟩
    case enter f args => exact Calls.mono hr fun e w'' ⟨v, γ, h1, h2, h3⟩ => ⟨v, γ, h1, h2, h _ _ h3⟩
def gOp (Cl : Γ → World → Prop) (P : Program) (ops : Array Oper) (o : Oper) (γ : Γ) (K : Act → Γ → Prop) (a : Act) : Prop :=
  if Region.wanted o (yielded ops a.tmps) then ∀ w, Cl γ w → gUpon Cl P (fun v γ' => K (a.put o.dst v) γ') ((execOp a.eval o).run P w) else K (a.put o.dst undef) γ
theorem gOp.mono {o : Oper} {γ : Γ} {K K' : Act → Γ → Prop} {a : Act} (h : ∀ a γ, K a γ → K' a γ) (hh : gOp Cl P ops o γ K a) : gOp Cl P ops o γ K' a := by
  unfold gOp at *
  split
  · rename_i hw
    rw [if_pos hw] at hh
    exact fun w hL => (hh w hL).mono fun v γ => h _ _
  · rename_i hw
    rw [if_neg hw] at hh
    exact h _ _ hh
/-- Whatever order is picked. -/
def AnyG (Cl : Γ → World → Prop) (P : Program) (md : Region.Mode) (ops : Array Oper) (Q : Act → World → Prop) : Nat → Γ → Array Bool → Act → Prop
  | 0, γ, d, a => Region.ready md ops d = [] ∧ ∀ w, Cl γ w → Q a w
  | k + 1, γ, d, a => Region.ready md ops d ≠ [] ∧ ∀ i ∈ Region.ready md ops d, ∀ o, ops[i]? = some o → gOp Cl P ops o γ (fun a' γ' => AnyG Cl P md ops Q k γ' (d.setIfInBounds i true) a') a
theorem AnyG.any {Q : Exit → Act → World → Prop} (k : Nat) : ∀ γ d a, AnyG Cl P md ops (Q .normal) k γ d a → ∀ w, Cl γ w → wpAny P md ops Q k d a w := by
  induction k with
  | zero => exact fun γ d a h w hw => ⟨h.1, h.2 w hw⟩
  | succ k ih =>
    intro γ d a h w hw
    refine ⟨fun e => absurd e h.1, fun i hi => ?_⟩
    obtain ⟨_, o, ho, _⟩ := mem_ready.1 hi
    have hg := h.2 i hi o ho
    unfold wpOp
    rw [ho]
    unfold gOp at hg
    show if _ then _ else _
    split
    · rename_i hw'
      rw [if_pos hw'] at hg
      refine .inl ?_
      have hu := hg w hw
      unfold Oper.wp
      generalize (execOp a.eval o).run P w = r at hu
      cases r with
      | halt x w => exact hu.elim
      | ok n w =>
        cases n <;> try exact hu.elim
        case value u =>
          obtain ⟨γ', h1, h2⟩ := hu
          exact ih _ _ _ h2 _ h1
        case skip =>
          obtain ⟨γ', h1, h2⟩ := hu
          exact ih _ _ _ h2 _ h1
        case enter f args =>
          refine Calls.mono hu ?_
          rintro e w'' ⟨v, γ', rfl, h1, h2⟩
          exact ih _ _ _ h2 _ h1
    · rename_i hw'
      rw [if_neg hw'] at hg
      exact ih _ _ _ hg _ hw
/-- One value whatever is known, and what is known stays. -/
def YieldsG (Cl : Γ → World → Prop) (P : Program) (ops : Array Oper) (o : Oper) (v : Value) (a : Act) : Prop :=
  (Region.wanted o (yielded ops a.tmps) = true ∧ ∀ γ w, Cl γ w → o.quietAt P a (Cl γ) w v) ∨ (Region.wanted o (yielded ops a.tmps) = false ∧ v = undef)
theorem YieldsG.gOp {o : Oper} {v : Value} {a : Act} {γ : Γ} {K : Act → Γ → Prop} (hy : YieldsG Cl P ops o v a) (h : K (a.put o.dst v) γ) : gOp Cl P ops o γ K a := by
  unfold Go.Proofs.YtbngpcghognojaaGreatDoor.gOp
  rcases hy with ⟨hw, hv⟩ | ⟨hw, rfl⟩
  · rw [if_pos hw]
    intro w hL
    have hq := hv γ w hL
    unfold Oper.quietAt at hq
    generalize (execOp a.eval o).run P _ = r at hq
    cases r with
    | halt x w => exact hq.elim
    | ok n w =>
      cases n <;> try exact hq.elim
      case value u =>
        obtain ⟨rfl, rfl⟩ := hq
        exact ⟨γ, hL, h⟩
      case skip =>
        obtain ⟨rfl, rfl⟩ := hq
        exact ⟨γ, hL, h⟩
      case enter f args =>
        obtain ⟨rfl, hc⟩ := hq
        exact Calls.mono hc fun e w'' ⟨he, hb⟩ => ⟨v, γ, he, hb, h⟩
  · rw [if_neg (by rw [hw]; simp)]
    exact h
theorem YieldsG.put {o x : Oper} {v : Value} {a : Act} (hy : YieldsG Cl P ops o v a) (hs : ∀ cs b, o.op ≠ .select cs b) (h3 : ∀ d, x.dst = some d → d ∉ o.looksAt ops) (u : Value) : YieldsG Cl P ops o v (a.put x.dst u) := by
  unfold YieldsG Oper.quietAt at *
  rw [execOp_put o hs a x.dst u h3, wanted_put o a x.dst u h3]
  exact hy
theorem gOp_put {o x : Oper} {v : Value} {γ : Γ} {K : Act → Γ → Prop} {a : Act} (hap : o.apart ops x = true) (hso : ∀ cs b, o.op ≠ .select cs b) (hsx : ∀ cs b, x.op ≠ .select cs b)
    (hy : YieldsG Cl P ops o v a) (h : gOp Cl P ops x γ K (a.put o.dst v)) : gOp Cl P ops x γ (fun a' γ' => YieldsG Cl P ops o v a' ∧ K (a'.put o.dst v) γ') a := by
  obtain ⟨h1, h2, h3⟩ := Oper.apart_spec hap
  unfold Go.Proofs.YtbngpcghognojaaGreatDoor.gOp at *
  rw [wanted_put x a o.dst v h1, execOp_put x hsx a o.dst v h1] at h
  split
  · rename_i hw
    rw [if_pos hw] at h
    refine fun w hL => (h w hL).mono fun u γ' hk => ⟨hy.put hso h3 u, ?_⟩
    rw [← Act.put_comm a v u h2]
    exact hk
  · rename_i hw
    rw [if_neg hw] at h
    refine ⟨hy.put hso h3 _, ?_⟩
    rw [← Act.put_comm a v undef h2]
    exact h
theorem AnyG.first {Q : Act → World → Prop} {i : Nat} {o : Oper} {v : Value} (hi : ops[i]? = some o) (hsel : ∀ (j : Nat) (x : Oper) cs b, ops[j]? = some x → x.op ≠ .select cs b) (k : Nat) :
    ∀ γ d a, (∀ j x, ops[j]? = some x → j ≠ i → d.getD j true = false → (∀ e ∈ x.after, Region.binds md e = true → e.on ≠ i) → o.apart ops x = true) →
      i ∈ Region.ready md ops d → YieldsG Cl P ops o v a → AnyG Cl P md ops Q k γ (d.setIfInBounds i true) (a.put o.dst v) → AnyG Cl P md ops Q (k + 1) γ d a := by
  induction k with
  | zero =>
    intro γ d a _ hr hy h
    refine ⟨List.ne_nil_of_mem hr, fun j hj x hx => ?_⟩
    by_cases e : j = i
    · subst e
      obtain rfl : x = o := Option.some.inj (hx.symm.trans hi)
      exact hy.gOp h
    · exact absurd (ready_mono hj e) (by rw [h.1]; simp)
  | succ k ih =>
    intro γ d a hfree hr hy h
    have hun := (mem_ready.1 hr).1
    refine ⟨List.ne_nil_of_mem hr, fun j hj x hx => ?_⟩
    by_cases e : j = i
    · subst e
      obtain rfl : x = o := Option.some.inj (hx.symm.trans hi)
      exact hy.gOp h
    obtain ⟨hju, x', hx', hall⟩ := mem_ready.1 hj
    obtain rfl : x' = x := Option.some.inj (hx'.symm.trans hx)
    have hno : ∀ t ∈ x'.after, Region.binds md t = true → t.on ≠ i := by
      intro t ht hb heq
      have h0 := hall t ht hb
      rw [heq] at h0
      rcases Nat.lt_or_ge i d.size with h' | h'
      · simp [h'] at h0 hun
        rw [hun] at h0
        cases h0
      · simp [Array.getElem?_eq_none h'] at h0
    refine (gOp_put (hfree j x' hx e hju hno) (fun cs b => hsel i o cs b hi) (fun cs b => hsel j x' cs b hx) hy (h.2 j (ready_mono hj e) x' hx)).mono ?_
    rintro a' γ' ⟨hy', h'⟩
    refine ih γ' _ a' (fun m y hm hmi hd => hfree m y hm hmi ?_) (ready_mono hr (Ne.symm e)) hy' (by rw [Array.setIfInBounds_comm _ _ e]; exact h')
    by_cases em : j = m
    · rw [← em]
      exact hju
    · rwa [getD_set_ne true em] at hd
/-- The operations k, k + 1, .. may come first, one by one; then t. -/
def preB (md : Region.Mode) (ops : Array Oper) (t : Array Bool → Bool) : Nat → Nat → Array Bool → Bool
  | 0, _, d => t d
  | n + 1, k, d => (Region.ready md ops d).contains k && Region.free md ops d k && preB md ops t n (k + 1) (d.setIfInBounds k true)
/-- A walk of quiet operations, in the order of the text. -/
def wpG (Cl : Γ → World → Prop) (P : Program) (ops : Array Oper) (R : Act → Prop) : List Oper → Act → Prop
  | [], a => R a
  | o :: rest, a => ∃ v, YieldsG Cl P ops o v a ∧ wpG Cl P ops R rest (a.put o.dst v)
theorem AnyG.pre {Q : Act → World → Prop} {R : Act → Prop} {t : Array Bool → Bool} {γ : Γ} {g : Nat} (hsel : Region.noSelect ops = true) (hT : ∀ d a, t d = true → R a → AnyG Cl P md ops Q g γ d a) (l : List Oper) :
    ∀ (k : Nat) (d : Array Bool) (a : Act), (∀ j, j < l.length → l[j]? = ops[k + j]?) → preB md ops t l.length k d = true → wpG Cl P ops R l a → AnyG Cl P md ops Q (g + l.length) γ d a := by
  induction l with
  | nil => exact fun k d a _ hB h => hT d a hB h
  | cons o l ih =>
    intro k d a hl hB h
    have h0 : ops[k]? = some o := by have := hl 0 (by simp); simpa using this.symm
    rw [List.length_cons] at hl hB
    simp only [preB, Bool.and_eq_true] at hB
    obtain ⟨v, hy, hK⟩ := h
    refine AnyG.first h0 (Region.noSelect_spec hsel) (g + l.length) γ d a (Region.free_spec h0 hB.1.2) (by simpa using hB.1.1) hy (ih (k + 1) _ _ (fun j hj => ?_) hB.2 hK)
    have := hl (j + 1) (by omega)
    rw [List.getElem?_cons_succ] at this
    rw [this, Nat.add_assoc, Nat.add_comm 1 j]
/-- One operation is ready, alone. -/
theorem AnyG.one {Q : Act → World → Prop} {k i : Nat} {γ : Γ} {d : Array Bool} {a : Act} {o : Oper} (hr : Region.ready md ops d = [i]) (ho : ops[i]? = some o)
    (h : gOp Cl P ops o γ (fun a' γ' => AnyG Cl P md ops Q k γ' (d.setIfInBounds i true) a') a) : AnyG Cl P md ops Q (k + 1) γ d a := by
  refine ⟨by rw [hr]; simp, fun j hj x hx => ?_⟩
  rw [hr] at hj
  obtain rfl : j = i := by simpa using hj
  obtain rfl : x = o := Option.some.inj (hx.symm.trans ho)
  exact h
/-- Two operations are ready. -/
theorem AnyG.two {Q : Act → World → Prop} {k i j : Nat} {γ : Γ} {d : Array Bool} {a : Act} {o x : Oper} (hr : Region.ready md ops d = [i, j]) (ho : ops[i]? = some o) (hx : ops[j]? = some x)
    (h : gOp Cl P ops o γ (fun a' γ' => AnyG Cl P md ops Q k γ' (d.setIfInBounds i true) a') a) (h' : gOp Cl P ops x γ (fun a' γ' => AnyG Cl P md ops Q k γ' (d.setIfInBounds j true) a') a) : AnyG Cl P md ops Q (k + 1) γ d a := by
  refine ⟨by rw [hr]; simp, fun m hm y hy => ?_⟩
  rw [hr] at hm
  simp only [List.mem_cons, List.not_mem_nil, or_false] at hm
  rcases hm with rfl | rfl
  · obtain rfl : y = o := Option.some.inj (hy.symm.trans ho)
    exact h
  · obtain rfl : y = x := Option.some.inj (hy.symm.trans hx)
    exact h'
end
section
variable {P : Program} {ops : Array Oper} {md : Region.Mode} {W : World}
/-- One value in every world behind W; a call leaves what it found. -/
def Oper.qB (P : Program) (o : Oper) (a : Act) (W : World) (next : Act → Prop) : Prop :=
  ∃ v, (∀ p : Regrown, o.quietAt P a (fun w'' => BelowOf (grow (redrawn W p.d) p.os) w'') (grow (redrawn W p.d) p.os) v) ∧ next (a.put o.dst v)
def wpQB0 (P : Program) (ops : Array Oper) (W : World) (R : Act → Prop) : List Oper → Act → Prop
  | [], a => R a
  | o :: rest, a => if Region.wanted o (yielded ops a.tmps) then Oper.qB P o a W (wpQB0 P ops W R rest) else wpQB0 P ops W R rest (a.put o.dst undef)
/-- The same, closed: Lean shall not run a guard when it looks at a goal's head. -/
structure wpQB (P : Program) (ops : Array Oper) (W : World) (R : Act → Prop) (l : List Oper) (a : Act) : Prop where
  out : wpQB0 P ops W R l a
theorem qB_step {R : Act → Prop} {a : Act} {o : Oper} {rest : List Oper} (h : ∀ K : Act → Prop, (∀ a, wpQB P ops W R rest a → K a) → if Region.wanted o (yielded ops a.tmps) then Oper.qB P o a W K else K (a.put o.dst undef)) : wpQB P ops W R (o :: rest) a :=
  ⟨h _ fun _ h => h.out⟩
theorem qB_nil {R : Act → Prop} {a : Act} (h : R a) : wpQB P ops W R [] a := ⟨h⟩
theorem wpQB0.wpG {R : Act → Prop} : ∀ (l : List Oper) (a : Act), wpQB0 P ops W R l a → wpG (Laid W) P ops R l a := by
  intro l
  induction l with
  | nil => exact fun a h => h
  | cons o l ih =>
    intro a h
    unfold wpQB0 at h
    split at h
    · rename_i hw
      obtain ⟨v, h1, h2⟩ := h
      refine ⟨v, .inl ⟨hw, fun γ w hL => ?_⟩, ih _ h2⟩
      obtain ⟨p, rfl⟩ := regrown_of_below hL.b
      have hq := h1 p
      unfold Oper.quietAt at hq ⊢
      generalize (execOp a.eval o).run P _ = r at hq ⊢
      cases r with
      | halt x w => exact hq
      | ok n w =>
        cases n <;> try exact hq
        case enter f args => exact ⟨hq.1, Calls.mono hq.2 fun e w'' ⟨he, hb⟩ => ⟨he, hL.step hb⟩⟩
    · rename_i hw
      exact ⟨undef, .inr ⟨by simpa using hw, rfl⟩, ih _ h⟩
theorem wpQB.wpG {R : Act → Prop} (l : List Oper) (a : Act) (h : wpQB P ops W R l a) : wpG (Laid W) P ops R l a := h.out.wpG l a
theorem gOp_alloc {o : Oper} {γ : List (Nat × Array Value)} {K : Act → List (Nat × Array Value) → Prop} {a : Act} {t : Tmp} {zs : Array Value} {ty : TypeId} (hgd : o.guard = none) (hd : o.dst = some t)
    (hrun : ∀ ev (w : World), (execOp ev o).run P w = .ok (.value (.pointer (some ⟨w.heap.size, 0, none⟩))) (w.alloc (.cells zs ty)))
    (h : ∀ g, W.heap.size ≤ g → (∀ x ∈ γ, x.1 ≠ g) → K (a.put (some t) (.pointer (some ⟨g, 0, none⟩))) ((g, zs) :: γ)) : gOp (Laid W) P ops o γ K a := by
  unfold gOp
  rw [if_pos (by unfold Region.wanted; rw [hgd])]
  intro w hL
  rw [hrun, hd]
  exact ⟨_, hL.alloc zs ty, h _ hL.b.size fun x hx => Nat.ne_of_lt (rowOf_lt (hL.r x hx).2)⟩
theorem Laid.store {w : World} {γ γ' : List (Nat × Array Value)} {g : Nat} {zs cs : Array Value} (h : Laid W (γ' ++ (g, zs) :: γ) w) (hn : ∀ x ∈ γ' ++ γ, x.1 ≠ g) : Laid W (γ' ++ (g, cs) :: γ) (w.setRow g cs) := by
  have hg := h.r (g, zs) (by simp)
  refine ⟨bsetRow h.b hg.1 _, fun x hx => ?_⟩
  by_cases e : x = (g, cs)
  · subst e
    exact ⟨hg.1, by rw [rowOf_setRow, if_pos rfl, hg.2]; rfl⟩
  · have hx' : x ∈ γ' ++ γ := by
      simp only [List.mem_append, List.mem_cons] at hx ⊢
      rcases hx with hx | hx | hx
      · exact .inl hx
      · exact absurd hx e
      · exact .inr hx
    have := h.r x (by simp only [List.mem_append, List.mem_cons] at hx' ⊢; rcases hx' with hx' | hx'; exact .inl hx'; exact .inr (.inr hx'))
    exact ⟨this.1, by rw [rowOf_setRow, if_neg (hn x hx'), this.2]⟩
theorem gOp_store {o : Oper} {γ γ' : List (Nat × Array Value)} {K : Act → List (Nat × Array Value) → Prop} {a : Act} {zs cs : Array Value} {ty : TypeId} {x y : Operand} {g : Nat} (hgd : o.guard = none) (hd : o.dst = none) (ho : o.op = .store ty x y)
    (hx : a.eval x = .pointer (some ⟨g, 0, none⟩)) (hy : a.eval y = .agg cs) (hs : zs.size = cs.size) (hi : (P.info? ty).map (·.size) = some cs.size) (h1 : ∀ v ∈ cs.toList, v.oneCell' = true) (hn : ∀ x ∈ γ' ++ γ, x.1 ≠ g)
    (h : K a (γ' ++ (g, cs) :: γ)) : gOp (Laid W) P ops o (γ' ++ (g, zs) :: γ) K a := by
  unfold gOp
  rw [if_pos (by unfold Region.wanted; rw [hgd])]
  intro w hL
  have hg := (hL.r (g, zs) (by simp)).2
  have hl := run_storeAt_row (P := P) w g ty cs.size cs hi rfl (by rw [hg]; simp [hs]) h1
  unfold execOp
  simp only [ho, hx, hy, Sem.run_bind, Sem.run_pure, Result.andThen_ok, hl]
  rw [hd]
  exact ⟨_, hL.store hn, h⟩
/-- A region all of whose operations read or call. -/
theorem wp_region_qB {id : Nat} {Q : Exit → Act → World → Prop} {a : Act} {w : World} {l : List Oper} (hB : (Region.noSelect l.toArray && preB .any l.toArray (fun d => (Region.ready .any l.toArray d).isEmpty) l.length 0 (Array.replicate l.length false)) = true) (hm : P.follows .mixedOrders = true)
    (h : wpQB P l.toArray w (fun a' => ∀ w', Below w.heap.size w w' → Q .normal a' w') l a) : (Code.region id l.toArray true).wp P Q a w := by
  rw [Bool.and_eq_true] at hB
  refine wp_region_any hm ?_
  have := AnyG.pre (Cl := Laid w) (Q := Q .normal) (t := fun d => (Region.ready .any l.toArray d).isEmpty) (γ := []) (g := 0) hB.1 (fun d a ht hR => ⟨by simpa using ht, fun w hw => hR w hw.b⟩) l 0 _ a (fun j hj => by simp) hB.2 (h.wpG _ _)
  rw [Nat.zero_add] at this
  exact AnyG.any _ _ _ _ this _ ⟨(Below.refl _ _).drew, by simp⟩
/-- Behind the first n operations: alloc, store, and the rest in order. -/
def laidT (ops : Array Oper) (n r : Nat) (d : Array Bool) : Bool :=
  Region.ready .any ops d == [n] && (Region.ready .any ops (d.setIfInBounds n true) == [n + 1] &&
    preB .any ops (fun d => (Region.ready .any ops d).isEmpty) r (n + 2) ((d.setIfInBounds n true).setIfInBounds (n + 1) true))
def laidB (ops : Array Oper) (n r : Nat) : Bool :=
  Region.noSelect ops && preB .any ops (laidT ops n r) n 0 (Array.replicate ops.size false)
/-- A region that draws its order and lays one new block, into which it stores a whole row. -/
theorem wp_region_laid {id : Nat} {Q : Exit → Act → World → Prop} {a : Act} {w : World} {l : List Oper} (n r : Nat) (hB : laidB l.toArray n r = true) (hm : P.follows .mixedOrders = true) (hlen : l.length = n + 2 + r)
    {oa os : Oper} {t : Tmp} {zs : Array Value} {ty ty' : TypeId} {x y : Operand} (ha : l[n]? = some oa) (hs : l[n + 1]? = some os) (ga : oa.guard = none) (da : oa.dst = some t)
    (hrun : ∀ ev (w : World), (execOp ev oa).run P w = .ok (.value (.pointer (some ⟨w.heap.size, 0, none⟩))) (w.alloc (.cells zs ty))) (gs : os.guard = none) (ds : os.dst = none) (ho : os.op = .store ty' x y)
    (h : wpQB P l.toArray w (fun a' => ∃ cs : Array Value, (∀ g, (a'.put (some t) (.pointer (some ⟨g, 0, none⟩))).eval x = .pointer (some ⟨g, 0, none⟩)) ∧ (∀ g, (a'.put (some t) (.pointer (some ⟨g, 0, none⟩))).eval y = .agg cs) ∧ zs.size = cs.size ∧ (P.info? ty').map (·.size) = some cs.size ∧ (∀ v ∈ cs.toList, v.oneCell' = true) ∧
      ∀ g, w.heap.size ≤ g → wpQB P l.toArray w (fun a'' => ∀ w', Below w.heap.size w w' → rowOf w' g = some cs → Q .normal a'' w') (l.drop (n + 2)) (a'.put (some t) (.pointer (some ⟨g, 0, none⟩)))) (l.take n) a) : (Code.region id l.toArray true).wp P Q a w := by
  unfold laidB at hB
  rw [Bool.and_eq_true] at hB
  have ht : (l.take n).length = n := by rw [List.length_take]; omega
  have hd : (l.drop (n + 2)).length = r := by rw [List.length_drop]; omega
  refine wp_region_any hm ?_
  have H := AnyG.pre (Cl := Laid w) (Q := Q .normal) (t := laidT l.toArray n r) (γ := []) (g := r + 1 + 1) hB.1 (fun d a' hT hR => by
    obtain ⟨cs, hx, hy, hz, hi, h1, hR⟩ := hR
    simp only [laidT, Bool.and_eq_true, beq_iff_eq] at hT
    refine AnyG.one hT.1 (by simpa using ha) (gOp_alloc ga da hrun fun g hg hne => ?_)
    refine AnyG.one hT.2.1 (by simpa using hs) (gOp_store (γ := []) (γ' := []) gs ds ho (hx g) (hy g) hz hi h1 (by simp) ?_)
    have := AnyG.pre (Cl := Laid w) (Q := Q .normal) (t := fun d => (Region.ready .any l.toArray d).isEmpty) (γ := [(g, cs)]) (g := 0) hB.1 (fun d a ht hR => ⟨by simpa using ht, fun w' hw' => hR w' hw'.b (hw'.r (g, cs) (by simp)).2⟩) (l.drop (n + 2)) (n + 2) _ _ (fun j hj => by simp [List.getElem?_drop]) (by rw [hd]; exact hT.2.2) ((hR g hg).wpG _ _)
    rw [hd, Nat.zero_add] at this
    exact this) (l.take n) 0 _ a (fun j hj => by rw [ht] at hj; simp [hj]) (by rw [ht]; exact hB.2) (h.wpG _ _)
  rw [ht, show r + 1 + 1 + n = l.toArray.size by simp; omega] at H
  exact AnyG.any _ _ _ _ H _ ⟨(Below.refl _ _).drew, by simp⟩
/-- A whole row loaded in a region's head, whose world stands. -/
theorem still_load_row {W0 : World} {R : Act → Prop} {rest : List Oper} {o : Oper} {a : Act} (H : Below W0.heap.size W0 W) (hgd : o.guard = none) (ty : TypeId) (x : Operand) (ho : o.op = .load ty x) (g : Nat) (hx : a.eval x = .pointer (some ⟨g, 0, none⟩)) (cs : Array Value) (hr : rowOf W0 g = some cs)
    (d : TypeDesc) (hu : P.underlying ty = some d) (hd : TypeDesc.isRow d = true) (hi : (P.info? ty).map (·.size) = some cs.size)
    (h : wpStill P ops W R rest (a.put o.dst (.agg cs))) : wpStill P ops W R (o :: rest) a := by
  unfold wpStill
  have hwant : Region.wanted o (yielded ops a.tmps) = true := by unfold Region.wanted; rw [hgd]
  rw [if_pos hwant]
  obtain ⟨t, ht⟩ := rowOf_some ((rowOf_below H (rowOf_lt hr)).trans hr)
  have hl := run_loadVar_row (P := P) _ g t ty cs (0, 0) d ht hu (by cases d <;> first | rfl | simp [TypeDesc.isRow] at hd) hi
  unfold Oper.still execOp
  simp only [ho, hx, Instr.loadAt, Instr.sureAddr, Sem.run_bind, Sem.run_pure, Result.andThen_ok, hl, Oper.stillUpon]
  exact ⟨trivial, h⟩
/-- A whole row loaded in such a region. -/
theorem qB_load_row {W0 : World} {R : Act → Prop} {rest : List Oper} {o : Oper} {a : Act} (H : Below W0.heap.size W0 W) (hgd : o.guard = none) (ty : TypeId) (x : Operand) (ho : o.op = .load ty x) (g : Nat) (hx : a.eval x = .pointer (some ⟨g, 0, none⟩)) (cs : Array Value) (hr : rowOf W0 g = some cs)
    (d : TypeDesc) (hu : P.underlying ty = some d) (hd : TypeDesc.isRow d = true) (hi : (P.info? ty).map (·.size) = some cs.size)
    (h : wpQB P ops W R rest (a.put o.dst (.agg cs))) : wpQB P ops W R (o :: rest) a := by
  refine ⟨?_⟩
  unfold wpQB0
  have hwant : Region.wanted o (yielded ops a.tmps) = true := by unfold Region.wanted; rw [hgd]
  rw [if_pos hwant]
  refine ⟨.agg cs, fun p => ?_, h.out⟩
  have hb := bstep H (below_regrown W p.d p.os)
  obtain ⟨t, ht⟩ := rowOf_some ((rowOf_below hb (rowOf_lt hr)).trans hr)
  have hl := run_loadVar_row (P := P) _ g t ty cs (0, 0) d ht hu (by cases d <;> first | rfl | simp [TypeDesc.isRow] at hd) hi
  unfold Oper.quietAt execOp
  simp only [ho, hx, Instr.loadAt, Instr.sureAddr, Sem.run_bind, Sem.run_pure, Result.andThen_ok, hl, Oper.quietUpon]
  exact ⟨trivial, trivial⟩
/-- An operation that goes through from here to there. -/
def Steps (P : Program) (o : Oper) (a : Act) (w : World) (a' : Act) (w' : World) : Prop := o.guard = none ∧ ∀ (K : Act → World → Prop) (Q : Exit → Act → World → Prop), K a' w' → o.wp P a w K Q
theorem Steps.op {o : Oper} {a a' : Act} {w w' : World} (h : Steps P o a w a' w') {i : Nat} (hi : ops[i]? = some o) {K : Act → World → Prop} {Q : Exit → Act → World → Prop} (hK : K a' w') : wpOp P ops Q i K a w := by
  unfold wpOp
  rw [hi]
  show if _ then _ else _
  rw [if_pos (by unfold Region.wanted; rw [h.1])]
  exact .inl (h.2 K Q hK)
theorem Steps.load {o : Oper} {a : Act} {w : World} (hgd : o.guard = none) (ty : TypeId) (x : Operand) (ho : o.op = .load ty x) (g : Nat) (hx : a.eval x = .pointer (some ⟨g, 0, none⟩)) (cs : Array Value) (hr : rowOf w g = some cs)
    (d : TypeDesc) (hu : P.underlying ty = some d) (hd : TypeDesc.isRow d = true) (hi : (P.info? ty).map (·.size) = some cs.size) : Steps P o a w (a.put o.dst (.agg cs)) w := by
  refine ⟨hgd, fun K Q hK => ?_⟩
  obtain ⟨t, ht⟩ := rowOf_some hr
  have hl := run_loadVar_row (P := P) w g t ty cs (0, 0) d ht hu (by cases d <;> first | rfl | simp [TypeDesc.isRow] at hd) hi
  unfold Oper.wp execOp
  simp only [ho, hx, Instr.loadAt, Instr.sureAddr, Sem.run_bind, Sem.run_pure, Result.andThen_ok, hl]
  exact hK
theorem Steps.store {o : Oper} {a : Act} {w : World} (hgd : o.guard = none) (hdst : o.dst = none) (ty : TypeId) (x y : Operand) (ho : o.op = .store ty x y) (g : Nat) (hx : a.eval x = .pointer (some ⟨g, 0, none⟩)) (vs : Array Value) (hy : a.eval y = .agg vs) (cs : Array Value) (hr : rowOf w g = some cs)
    (hn : cs.size = vs.size) (hi : (P.info? ty).map (·.size) = some vs.size) (h1 : ∀ v ∈ vs.toList, v.oneCell' = true) : Steps P o a w a (w.setRow g vs) := by
  refine ⟨hgd, fun K Q hK => ?_⟩
  have hl := run_storeAt_row (P := P) w g ty vs.size vs hi rfl (by rw [hr]; simp [hn]) h1
  unfold Oper.wp execOp
  simp only [ho, hx, hy, Sem.run_bind, Sem.run_pure, Result.andThen_ok, hl]
  show K (a.put o.dst undef) _
  rw [hdst]
  exact hK
theorem Steps.assign {o : Oper} {a : Act} {w : World} (hgd : o.guard = none) (x : Operand) (ho : o.op = .assign x) : Steps P o a w (a.put o.dst (a.eval x)) w := by
  refine ⟨hgd, fun K Q hK => ?_⟩
  unfold Oper.wp execOp
  simp only [ho, Sem.run_bind, Sem.run_pure, Result.andThen_ok]
  exact hK
/-- load, load, store, store, assign: the second load may come behind the first store. -/
def fiveB (ops : Array Oper) : Bool :=
  let d := Array.replicate ops.size false
  (ops.size == 5) && (Region.ready .any ops d == [0, 1] && (Region.ready .any ops (d.setIfInBounds 0 true) == [1, 2] && (Region.ready .any ops (d.setIfInBounds 1 true) == [0] &&
    (Region.ready .any ops ((d.setIfInBounds 0 true).setIfInBounds 1 true) == [2] && (Region.ready .any ops ((d.setIfInBounds 1 true).setIfInBounds 0 true) == [2] && (Region.ready .any ops ((d.setIfInBounds 0 true).setIfInBounds 2 true) == [1] &&
    (Region.ready .any ops (((d.setIfInBounds 0 true).setIfInBounds 1 true).setIfInBounds 2 true) == [3] && (Region.ready .any ops (((d.setIfInBounds 1 true).setIfInBounds 0 true).setIfInBounds 2 true) == [3] && (Region.ready .any ops (((d.setIfInBounds 0 true).setIfInBounds 2 true).setIfInBounds 1 true) == [3] &&
    (Region.ready .any ops ((((d.setIfInBounds 0 true).setIfInBounds 1 true).setIfInBounds 2 true).setIfInBounds 3 true) == [4] && (Region.ready .any ops ((((d.setIfInBounds 1 true).setIfInBounds 0 true).setIfInBounds 2 true).setIfInBounds 3 true) == [4] && (Region.ready .any ops ((((d.setIfInBounds 0 true).setIfInBounds 2 true).setIfInBounds 1 true).setIfInBounds 3 true) == [4] &&
    (Region.ready .any ops (((((d.setIfInBounds 0 true).setIfInBounds 1 true).setIfInBounds 2 true).setIfInBounds 3 true).setIfInBounds 4 true) == [] && (Region.ready .any ops (((((d.setIfInBounds 1 true).setIfInBounds 0 true).setIfInBounds 2 true).setIfInBounds 3 true).setIfInBounds 4 true) == [] &&
    Region.ready .any ops (((((d.setIfInBounds 0 true).setIfInBounds 2 true).setIfInBounds 1 true).setIfInBounds 3 true).setIfInBounds 4 true) == []))))))))))))))
theorem any_one {Q : Exit → Act → World → Prop} {k i : Nat} {d : Array Bool} {a a' : Act} {w w' : World} {o : Oper} (hr : Region.ready .any ops d = [i]) (ho : ops[i]? = some o) (hs : Steps P o a w a' w')
    (h : wpAny P .any ops Q k (d.setIfInBounds i true) a' w') : wpAny P .any ops Q (k + 1) d a w := by
  refine ⟨fun e => absurd e (by rw [hr]; simp), fun j hj => ?_⟩
  rw [hr] at hj
  obtain rfl : j = i := by simpa using hj
  exact hs.op ho h
theorem any_two {Q : Exit → Act → World → Prop} {k i j : Nat} {d : Array Bool} {a a1 a2 : Act} {w w1 w2 : World} {o1 o2 : Oper} (hr : Region.ready .any ops d = [i, j]) (h1 : ops[i]? = some o1) (h2 : ops[j]? = some o2) (s1 : Steps P o1 a w a1 w1) (s2 : Steps P o2 a w a2 w2)
    (k1 : wpAny P .any ops Q k (d.setIfInBounds i true) a1 w1) (k2 : wpAny P .any ops Q k (d.setIfInBounds j true) a2 w2) : wpAny P .any ops Q (k + 1) d a w := by
  refine ⟨fun e => absurd e (by rw [hr]; simp), fun m hm => ?_⟩
  rw [hr] at hm
  simp only [List.mem_cons, List.not_mem_nil, or_false] at hm
  rcases hm with rfl | rfl
  · exact s1.op h1 k1
  · exact s2.op h2 k2
theorem wp_region_five {id : Nat} {Q : Exit → Act → World → Prop} {a a0 a1 a2 a3 : Act} {w w2 w3 : World} {o0 o1 o2 o3 o4 : Oper} (hB : fiveB #[o0, o1, o2, o3, o4] = true) (hm : P.follows .mixedOrders = true)
    (s0 : Steps P o0 a w.drew a0 w.drew) (s1 : Steps P o1 a0 w.drew a2 w.drew) (t1 : Steps P o1 a w.drew a1 w.drew) (t0 : Steps P o0 a1 w.drew a2 w.drew) (s2 : Steps P o2 a2 w.drew a2 w2) (t2 : Steps P o2 a0 w.drew a0 w2) (u1 : Steps P o1 a0 w2 a2 w2)
    (s3 : Steps P o3 a2 w2 a2 w3) (s4 : Steps P o4 a2 w3 a3 w3) (h : Q .normal a3 w3) : (Code.region id #[o0, o1, o2, o3, o4] true).wp P Q a w := by
  simp only [fiveB, Bool.and_eq_true, beq_iff_eq] at hB
  obtain ⟨-, b0, b1, b2, b3, b4, b5, b6, b7, b8, b9, b10, b11, b12, b13, b14⟩ := hB
  refine wp_region_any hm ?_
  show wpAny P .any #[o0, o1, o2, o3, o4] Q 5 _ a w.drew
  refine any_two b0 rfl rfl s0 t1 ?_ ?_
  · refine any_two b1 rfl rfl s1 t2 ?_ ?_
    · exact any_one b3 rfl s2 (any_one b6 rfl s3 (any_one b9 rfl s4 ⟨b12, h⟩))
    · exact any_one b5 rfl u1 (any_one b8 rfl s3 (any_one b11 rfl s4 ⟨b14, h⟩))
  · exact any_one b2 rfl t0 (any_one b4 rfl s2 (any_one b7 rfl s3 (any_one b10 rfl s4 ⟨b13, h⟩)))
end
/-! ### Regions that draw and whose stores come one behind the other, among operations that only read -/
section
variable {P : Program} {ops : Array Oper} {md : Region.Mode}
def At (ws : List World) (j : Nat) (w : World) : Prop := ws[j]? = some w
def wpD (P : Program) (ops : Array Oper) (ws : List World) (R : Act → Prop) : List Oper → Act → Prop
  | [], a => R a
  | o :: rest, a => if Region.wanted o (yielded ops a.tmps) then ∃ v, (∀ w ∈ ws, o.quietAt P a (fun w'' => w'' = w) w v) ∧ wpD P ops ws R rest (a.put o.dst v) else wpD P ops ws R rest (a.put o.dst undef)
theorem wpD_nil {ws : List World} {R : Act → Prop} {a : Act} (h : R a) : wpD P ops ws R [] a := h
theorem wpD_step {ws : List World} {R : Act → Prop} {a : Act} {o : Oper} {rest : List Oper} (h : ∀ K : Act → Prop, (∀ a, wpD P ops ws R rest a → K a) → if Region.wanted o (yielded ops a.tmps) then ∃ v, (∀ w ∈ ws, o.quietAt P a (fun w'' => w'' = w) w v) ∧ K (a.put o.dst v) else K (a.put o.dst undef)) : wpD P ops ws R (o :: rest) a :=
  h _ fun _ h => h
theorem wpD.wpG {ws : List World} {R : Act → Prop} : ∀ (l : List Oper) (a : Act), wpD P ops ws R l a → wpG (At ws) P ops R l a := by
  intro l
  induction l with
  | nil => exact fun a h => h
  | cons o l ih =>
    intro a h
    unfold wpD at h
    split at h
    · rename_i hw
      obtain ⟨v, h1, h2⟩ := h
      refine ⟨v, .inl ⟨hw, fun γ w hL => ?_⟩, ih _ h2⟩
      have hq := h1 w (List.mem_of_getElem? hL)
      unfold Oper.quietAt at hq ⊢
      generalize (execOp a.eval o).run P _ = r at hq ⊢
      cases r with
      | halt x w => exact hq
      | ok n w =>
        cases n <;> try exact hq
        case enter f args => exact ⟨hq.1, Calls.mono hq.2 fun e w'' ⟨he, hb⟩ => ⟨he, by rw [hb]; exact hL⟩⟩
    · rename_i hw
      exact ⟨undef, .inr ⟨by simpa using hw, rfl⟩, ih _ h⟩
/-- A whole row loaded, the same in all these worlds. -/
theorem wpD_load_row {ws : List World} {R : Act → Prop} {rest : List Oper} {o : Oper} {a : Act} (hgd : o.guard = none) (ty : TypeId) (x : Operand) (ho : o.op = .load ty x) (g : Nat) (hx : a.eval x = .pointer (some ⟨g, 0, none⟩)) (cs : Array Value) (hr : ∀ w ∈ ws, rowOf w g = some cs)
    (d : TypeDesc) (hu : P.underlying ty = some d) (hd : TypeDesc.isRow d = true) (hi : (P.info? ty).map (·.size) = some cs.size) (h : wpD P ops ws R rest (a.put o.dst (.agg cs))) : wpD P ops ws R (o :: rest) a := by
  unfold wpD
  rw [if_pos (by unfold Region.wanted; rw [hgd])]
  refine ⟨.agg cs, fun w hw => ?_, h⟩
  obtain ⟨t, ht⟩ := rowOf_some (hr w hw)
  have hl := run_loadVar_row (P := P) w g t ty cs (0, 0) d ht hu (by cases d <;> first | rfl | simp [TypeDesc.isRow] at hd) hi
  unfold Oper.quietAt execOp
  simp only [ho, hx, Instr.loadAt, Instr.sureAddr, Sem.run_bind, Sem.run_pure, Result.andThen_ok, hl, Oper.quietUpon]
  exact ⟨trivial, trivial⟩
theorem gOp_at {ws : List World} {o : Oper} {j : Nat} {K : Act → Nat → Prop} {a : Act} {w : World} {cs0 cs : Array Value} {ty : TypeId} {x y : Operand} {g : Nat} (hj : ws[j]? = some w) (hj1 : ws[j + 1]? = some (w.setRow g cs)) (hgd : o.guard = none) (hd : o.dst = none) (ho : o.op = .store ty x y)
    (hx : a.eval x = .pointer (some ⟨g, 0, none⟩)) (hy : a.eval y = .agg cs) (hr : rowOf w g = some cs0) (hs : cs0.size = cs.size) (hi : (P.info? ty).map (·.size) = some cs.size) (h1 : ∀ v ∈ cs.toList, v.oneCell' = true) (h : K a (j + 1)) : gOp (At ws) P ops o j K a := by
  unfold gOp
  rw [if_pos (by unfold Region.wanted; rw [hgd])]
  intro w' hL
  obtain rfl : w' = w := Option.some.inj (hL.symm.trans hj)
  have hl := run_storeAt_row (P := P) w' g ty cs.size cs hi rfl (by rw [hr]; simp [hs]) h1
  unfold execOp
  simp only [ho, hx, hy, Sem.run_bind, Sem.run_pure, Result.andThen_ok, hl]
  rw [hd]
  exact ⟨_, hj1, h⟩
def det1T (ops : Array Oper) (n r : Nat) (d : Array Bool) : Bool :=
  Region.ready .any ops d == [n] && preB .any ops (fun d => (Region.ready .any ops d).isEmpty) r (n + 1) (d.setIfInBounds n true)
def det1B (ops : Array Oper) (n r : Nat) : Bool := Region.noSelect ops && preB .any ops (det1T ops n r) n 0 (Array.replicate ops.size false)
/-- One row stored, number n in the text. -/
theorem wp_region_det1 {id : Nat} {Q : Exit → Act → World → Prop} {a : Act} {w : World} {l : List Oper} (n r g : Nat) (cs : Array Value) (hB : det1B l.toArray n r = true) (hm : P.follows .mixedOrders = true) (hlen : l.length = n + 1 + r)
    {os : Oper} {ty : TypeId} {x y : Operand} (hs : l[n]? = some os) (gs : os.guard = none) (ds : os.dst = none) (ho : os.op = .store ty x y) {cs0 : Array Value} (hr : rowOf w g = some cs0) (hz : cs0.size = cs.size) (hi : (P.info? ty).map (·.size) = some cs.size) (h1 : ∀ v ∈ cs.toList, v.oneCell' = true)
    (h : wpD P l.toArray [w.drew, w.drew.setRow g cs] (fun a' => a'.eval x = .pointer (some ⟨g, 0, none⟩) ∧ a'.eval y = .agg cs ∧ wpD P l.toArray [w.drew, w.drew.setRow g cs] (fun a'' => Q .normal a'' (w.drew.setRow g cs)) (l.drop (n + 1)) a') (l.take n) a) : (Code.region id l.toArray true).wp P Q a w := by
  unfold det1B at hB
  rw [Bool.and_eq_true] at hB
  have ht : (l.take n).length = n := by rw [List.length_take]; omega
  have hd : (l.drop (n + 1)).length = r := by rw [List.length_drop]; omega
  refine wp_region_any hm ?_
  have H := AnyG.pre (Cl := At [w.drew, w.drew.setRow g cs]) (Q := Q .normal) (t := det1T l.toArray n r) (γ := 0) (g := r + 1) hB.1 (fun d a' hT hR => by
    obtain ⟨hx, hy, hR⟩ := hR
    simp only [det1T, Bool.and_eq_true, beq_iff_eq] at hT
    refine AnyG.one hT.1 (by simpa using hs) (gOp_at (w := w.drew) rfl rfl gs ds ho hx hy hr hz hi h1 ?_)
    have := AnyG.pre (Cl := At [w.drew, w.drew.setRow g cs]) (Q := Q .normal) (t := fun d => (Region.ready .any l.toArray d).isEmpty) (γ := 1) (g := 0) hB.1 (fun d a ht hR => ⟨by simpa using ht, fun w' hw' => by obtain rfl := Option.some.inj (hw' : some _ = some w'); exact hR⟩) (l.drop (n + 1)) (n + 1) _ _ (fun j hj => by simp [List.getElem?_drop]) (by rw [hd]; exact hT.2) (hR.wpG _ _)
    rw [hd, Nat.zero_add] at this
    exact this) (l.take n) 0 _ a (fun j hj => by rw [ht] at hj; simp [hj]) (by rw [ht]; exact hB.2) (h.wpG _ _)
  rw [ht, show r + 1 + n = l.toArray.size by simp; omega] at H
  exact AnyG.any _ _ _ _ H _ rfl
def det2T (ops : Array Oper) (n r : Nat) (d : Array Bool) : Bool :=
  Region.ready .any ops d == [n] && (Region.ready .any ops (d.setIfInBounds n true) == [n + 1] && preB .any ops (fun d => (Region.ready .any ops d).isEmpty) r (n + 2) ((d.setIfInBounds n true).setIfInBounds (n + 1) true))
def det2B (ops : Array Oper) (n r : Nat) : Bool := Region.noSelect ops && preB .any ops (det2T ops n r) n 0 (Array.replicate ops.size false)
/-- Two rows stored, numbers n and n + 1 in the text. -/
theorem wp_region_det2 {id : Nat} {Q : Exit → Act → World → Prop} {a : Act} {w : World} {l : List Oper} (n r g g' : Nat) (cs cs' : Array Value) (hB : det2B l.toArray n r = true) (hm : P.follows .mixedOrders = true) (hlen : l.length = n + 2 + r)
    {os os' : Oper} {ty ty' : TypeId} {x y x' y' : Operand} (hs : l[n]? = some os) (hs' : l[n + 1]? = some os') (gs : os.guard = none) (ds : os.dst = none) (ho : os.op = .store ty x y) (gs' : os'.guard = none) (ds' : os'.dst = none) (ho' : os'.op = .store ty' x' y') (hne : g ≠ g')
    {cs0 cs0' : Array Value} (hr : rowOf w g = some cs0) (hz : cs0.size = cs.size) (hi : (P.info? ty).map (·.size) = some cs.size) (h1 : ∀ v ∈ cs.toList, v.oneCell' = true) (hr' : rowOf w g' = some cs0') (hz' : cs0'.size = cs'.size) (hi' : (P.info? ty').map (·.size) = some cs'.size) (h1' : ∀ v ∈ cs'.toList, v.oneCell' = true)
    (h : wpD P l.toArray [w.drew, w.drew.setRow g cs, (w.drew.setRow g cs).setRow g' cs'] (fun a' => (a'.eval x = .pointer (some ⟨g, 0, none⟩) ∧ a'.eval y = .agg cs ∧ a'.eval x' = .pointer (some ⟨g', 0, none⟩) ∧ a'.eval y' = .agg cs') ∧
      wpD P l.toArray [w.drew, w.drew.setRow g cs, (w.drew.setRow g cs).setRow g' cs'] (fun a'' => Q .normal a'' ((w.drew.setRow g cs).setRow g' cs')) (l.drop (n + 2)) a') (l.take n) a) : (Code.region id l.toArray true).wp P Q a w := by
  unfold det2B at hB
  rw [Bool.and_eq_true] at hB
  have ht : (l.take n).length = n := by rw [List.length_take]; omega
  have hd : (l.drop (n + 2)).length = r := by rw [List.length_drop]; omega
  refine wp_region_any hm ?_
  have H := AnyG.pre (Cl := At [w.drew, w.drew.setRow g cs, (w.drew.setRow g cs).setRow g' cs']) (Q := Q .normal) (t := det2T l.toArray n r) (γ := 0) (g := r + 1 + 1) hB.1 (fun d a' hT hR => by
    obtain ⟨⟨hx, hy, hx', hy'⟩, hR⟩ := hR
    simp only [det2T, Bool.and_eq_true, beq_iff_eq] at hT
    refine AnyG.one hT.1 (by simpa using hs) (gOp_at (w := w.drew) rfl rfl gs ds ho hx hy hr hz hi h1 ?_)
    have hr2 : rowOf (w.drew.setRow g cs) g' = some cs0' := by rw [rowOf_setRow, if_neg (Ne.symm hne)]; exact hr'
    refine AnyG.one hT.2.1 (by simpa using hs') (gOp_at (w := w.drew.setRow g cs) rfl rfl gs' ds' ho' hx' hy' hr2 hz' hi' h1' ?_)
    have := AnyG.pre (Cl := At [w.drew, w.drew.setRow g cs, (w.drew.setRow g cs).setRow g' cs']) (Q := Q .normal) (t := fun d => (Region.ready .any l.toArray d).isEmpty) (γ := 2) (g := 0) hB.1 (fun d a ht hR => ⟨by simpa using ht, fun w' hw' => by obtain rfl := Option.some.inj (hw' : some _ = some w'); exact hR⟩) (l.drop (n + 2)) (n + 2) _ _ (fun j hj => by simp [List.getElem?_drop]) (by rw [hd]; exact hT.2.2) (hR.wpG _ _)
    rw [hd, Nat.zero_add] at this
    exact this) (l.take n) 0 _ a (fun j hj => by rw [ht] at hj; simp [hj]) (by rw [ht]; exact hB.2) (h.wpG _ _)
  rw [ht, show r + 1 + 1 + n = l.toArray.size by simp; omega] at H
  exact AnyG.any _ _ _ _ H _ rfl
end
end Go.Proofs.YtbngpcghognojaaGreatDoor
