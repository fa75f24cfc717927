/- Regions that draw their order, walked with what is known of the world: operations that read what is known come first; one that is ready alone may change what is known (a store into old memory, too). -/
import Derived.Test.YtbngpcghognojaaDoorDrawn
namespace Go.Proofs.YtbngpcghognojaaDoor
open Go Go.Sort Go.RowKit
set_option linter.unusedVariables false
set_option linter.unusedSimpArgs false
set_option maxRecDepth 100000
set_option maxHeartbeats 1000000
section
variable {Γ : Type} {Cl : Γ → World → Prop} {P : Program} {ops : Array Oper} {md : Region.Mode}
/-- Whatever order is picked; the operations of kind 'false' leave what is known as it is. -/
def AnyK (kd : Nat → Bool) (Cl : Γ → World → Prop) (P : Program) (md : Region.Mode) (ops : Array Oper) (Q : Act → World → Prop) : Nat → Γ → Array Bool → Act → Prop
  | 0, γ, d, a => Region.ready md ops d = [] ∧ ∀ w, Cl γ w → Q a w
  | k + 1, γ, d, a => Region.ready md ops d ≠ [] ∧ ∀ i ∈ Region.ready md ops d, ∀ o, ops[i]? = some o → gOp Cl P ops o γ (fun a' γ' => (kd i = false → γ' = γ) ∧ AnyK kd Cl P md ops Q k γ' (d.setIfInBounds i true) a') a
theorem AnyK.anyG {kd : Nat → Bool} {Q : Act → World → Prop} (k : Nat) : ∀ γ d a, AnyK kd Cl P md ops Q k γ d a → AnyG Cl P md ops Q k γ d a := by
  induction k with
  | zero => exact fun γ d a h => h
  | succ k ih => exact fun γ d a h => ⟨h.1, fun i hi o ho => (h.2 i hi o ho).mono fun a γ' h => ih _ _ _ h.2⟩
def YieldsAt (Cl : Γ → World → Prop) (P : Program) (ops : Array Oper) (o : Oper) (γ : Γ) (v : Value) (a : Act) : Prop :=
  (Region.wanted o (yielded ops a.tmps) = true ∧ ∀ w, Cl γ w → o.quietAt P a (Cl γ) w v) ∨ (Region.wanted o (yielded ops a.tmps) = false ∧ v = undef)
theorem YieldsAt.gOp {o : Oper} {v : Value} {a : Act} {γ : Γ} {K : Act → Γ → Prop} (hy : YieldsAt Cl P ops o γ v a) (h : K (a.put o.dst v) γ) : gOp Cl P ops o γ K a := by
  unfold Go.Proofs.YtbngpcghognojaaDoor.gOp
  rcases hy with ⟨hw, hv⟩ | ⟨hw, rfl⟩
  · rw [if_pos hw]
    intro w hL
    have hq := hv w hL
    unfold Oper.quietAt at hq
    generalize (execOp a.eval o).run P _ = r at hq
    cases r with
    | halt x w => exact hq.elim
    | ok n w =>
      cases n <;> try exact hq.elim
      case value u =>
        obtain ⟨rfl, rfl⟩ := hq
        exact ⟨γ, hL, h⟩
      case skip =>
        obtain ⟨rfl, rfl⟩ := hq
        exact ⟨γ, hL, h⟩
      case enter f args =>
        obtain ⟨rfl, hc⟩ := hq
        exact Calls.mono hc fun e w'' ⟨he, hb⟩ => ⟨v, γ, he, hb, h⟩
  · rw [if_neg (by rw [hw]; simp)]
    exact h
theorem YieldsAt.put {o x : Oper} {v : Value} {a : Act} {γ : Γ} (hy : YieldsAt Cl P ops o γ v a) (hs : ∀ cs b, o.op ≠ .select cs b) (h3 : ∀ d, x.dst = some d → d ∉ o.looksAt ops) (u : Value) : YieldsAt Cl P ops o γ v (a.put x.dst u) := by
  unfold YieldsAt Oper.quietAt at *
  rw [execOp_put o hs a x.dst u h3, wanted_put o a x.dst u h3]
  exact hy
theorem gOp_putAt {o x : Oper} {v : Value} {γ : Γ} {K : Act → Γ → Prop} {a : Act} (hap : o.apart ops x = true) (hso : ∀ cs b, o.op ≠ .select cs b) (hsx : ∀ cs b, x.op ≠ .select cs b)
    (hy : YieldsAt Cl P ops o γ v a) (h : gOp Cl P ops x γ K (a.put o.dst v)) : gOp Cl P ops x γ (fun a' γ' => YieldsAt Cl P ops o γ v a' ∧ K (a'.put o.dst v) γ') a := by
  obtain ⟨h1, h2, h3⟩ := Oper.apart_spec hap
  unfold Go.Proofs.YtbngpcghognojaaDoor.gOp at *
  rw [wanted_put x a o.dst v h1, execOp_put x hsx a o.dst v h1] at h
  split
  · rename_i hw
    rw [if_pos hw] at h
    refine fun w hL => (h w hL).mono fun u γ' hk => ⟨hy.put hso h3 u, ?_⟩
    rw [← Act.put_comm a v u h2]
    exact hk
  · rename_i hw
    rw [if_neg hw] at h
    refine ⟨hy.put hso h3 _, ?_⟩
    rw [← Act.put_comm a v undef h2]
    exact h
theorem AnyK.first {kd : Nat → Bool} {Q : Act → World → Prop} {i : Nat} {o : Oper} {v : Value} (hi : ops[i]? = some o) (hki : kd i = false) (hsel : ∀ (j : Nat) (x : Oper) cs b, ops[j]? = some x → x.op ≠ .select cs b) (k : Nat) :
    ∀ γ d a, (∀ j x, ops[j]? = some x → j ≠ i → d.getD j true = false → (∀ e ∈ x.after, Region.binds md e = true → e.on ≠ i) → o.apart ops x = true ∧ kd j = false) →
      i ∈ Region.ready md ops d → YieldsAt Cl P ops o γ v a → AnyK kd Cl P md ops Q k γ (d.setIfInBounds i true) (a.put o.dst v) → AnyK kd Cl P md ops Q (k + 1) γ d a := by
  induction k with
  | zero =>
    intro γ d a _ hr hy h
    refine ⟨List.ne_nil_of_mem hr, fun j hj x hx => ?_⟩
    by_cases e : j = i
    · subst e
      obtain rfl : x = o := Option.some.inj (hx.symm.trans hi)
      exact hy.gOp ⟨fun _ => rfl, h⟩
    · exact absurd (ready_mono hj e) (by rw [h.1]; simp)
  | succ k ih =>
    intro γ d a hfree hr hy h
    have hun := (mem_ready.1 hr).1
    refine ⟨List.ne_nil_of_mem hr, fun j hj x hx => ?_⟩
    by_cases e : j = i
    · subst e
      obtain rfl : x = o := Option.some.inj (hx.symm.trans hi)
      exact hy.gOp ⟨fun _ => rfl, h⟩
    obtain ⟨hju, x', hx', hall⟩ := mem_ready.1 hj
    obtain rfl : x' = x := Option.some.inj (hx'.symm.trans hx)
    have hno : ∀ t ∈ x'.after, Region.binds md t = true → t.on ≠ i := by
      intro t ht hb heq
      have h0 := hall t ht hb
      rw [heq] at h0
      rcases Nat.lt_or_ge i d.size with h' | h'
      · simp [h'] at h0 hun
        rw [hun] at h0
        cases h0
      · simp [Array.getElem?_eq_none h'] at h0
    obtain ⟨hap, hkj⟩ := hfree j x' hx e hju hno
    refine (gOp_putAt hap (fun cs b => hsel i o cs b hi) (fun cs b => hsel j x' cs b hx) hy (h.2 j (ready_mono hj e) x' hx)).mono ?_
    rintro a' γ' ⟨hy', hk', h'⟩
    obtain rfl : γ' = γ := hk' hkj
    refine ⟨fun _ => rfl, ih γ' _ a' (fun m y hm hmi hd => hfree m y hm hmi ?_) (ready_mono hr (Ne.symm e)) hy' (by rw [Array.setIfInBounds_comm _ _ e]; exact h')⟩
    by_cases em : j = m
    · rw [← em]
      exact hju
    · rwa [getD_set_ne true em] at hd
/-- An operation that yields one value whatever is known: it may as well come now. -/
theorem AnyK.pureFirst {kd : Nat → Bool} {Q : Act → World → Prop} {i : Nat} {o : Oper} {v : Value} (hi : ops[i]? = some o) (hsel : ∀ (j : Nat) (x : Oper) cs b, ops[j]? = some x → x.op ≠ .select cs b) (k : Nat) :
    ∀ γ d a, (∀ j x, ops[j]? = some x → j ≠ i → d.getD j true = false → (∀ e ∈ x.after, Region.binds md e = true → e.on ≠ i) → o.apart ops x = true) →
      i ∈ Region.ready md ops d → YieldsG Cl P ops o v a → AnyK kd Cl P md ops Q k γ (d.setIfInBounds i true) (a.put o.dst v) → AnyK kd Cl P md ops Q (k + 1) γ d a := by
  induction k with
  | zero =>
    intro γ d a _ hr hy h
    refine ⟨List.ne_nil_of_mem hr, fun j hj x hx => ?_⟩
    by_cases e : j = i
    · subst e
      obtain rfl : x = o := Option.some.inj (hx.symm.trans hi)
      exact hy.gOp ⟨fun _ => rfl, h⟩
    · exact absurd (ready_mono hj e) (by rw [h.1]; simp)
  | succ k ih =>
    intro γ d a hfree hr hy h
    have hun := (mem_ready.1 hr).1
    refine ⟨List.ne_nil_of_mem hr, fun j hj x hx => ?_⟩
    by_cases e : j = i
    · subst e
      obtain rfl : x = o := Option.some.inj (hx.symm.trans hi)
      exact hy.gOp ⟨fun _ => rfl, h⟩
    obtain ⟨hju, x', hx', hall⟩ := mem_ready.1 hj
    obtain rfl : x' = x := Option.some.inj (hx'.symm.trans hx)
    have hno : ∀ t ∈ x'.after, Region.binds md t = true → t.on ≠ i := by
      intro t ht hb heq
      have h0 := hall t ht hb
      rw [heq] at h0
      rcases Nat.lt_or_ge i d.size with h' | h'
      · simp [h'] at h0 hun
        rw [hun] at h0
        cases h0
      · simp [Array.getElem?_eq_none h'] at h0
    have hap := hfree j x' hx e hju hno
    refine (gOp_put hap (fun cs b => hsel i o cs b hi) (fun cs b => hsel j x' cs b hx) hy (h.2 j (ready_mono hj e) x' hx)).mono ?_
    rintro a' γ' ⟨hy', hk', h'⟩
    refine ⟨hk', ih γ' _ a' (fun m y hm hmi hd => hfree m y hm hmi ?_) (ready_mono hr (Ne.symm e)) hy' (by rw [Array.setIfInBounds_comm _ _ e]; exact h')⟩
    by_cases em : j = m
    · rw [← em]
      exact hju
    · rwa [getD_set_ne true em] at hd
/-- No operation that changes what is known may come before operation i. -/
def calmB (kd : Nat → Bool) (md : Region.Mode) (ops : Array Oper) (d : Array Bool) (i : Nat) : Bool :=
  (List.range ops.size).all fun j => (j == i || d.getD j true || !kd j) || (match ops[j]? with | some x => x.after.any fun e => Region.binds md e && e.on == i | none => true)
theorem calmB_spec {kd : Nat → Bool} {d : Array Bool} {i : Nat} (h : calmB kd md ops d i = true) : ∀ j x, ops[j]? = some x → j ≠ i → d.getD j true = false → (∀ e ∈ x.after, Region.binds md e = true → e.on ≠ i) → kd j = false := by
  intro j x hx hj hd he
  unfold calmB at h
  rw [List.all_eq_true] at h
  have hlt := (Array.getElem?_eq_some_iff.1 hx).1
  have := h j (by simpa using hlt)
  rw [hd, hx] at this
  simp only [Bool.or_false, Bool.or_eq_true, beq_iff_eq, hj, false_or, Bool.not_eq_true', Array.any_eq_true', Bool.and_eq_true] at this
  rcases this with h | ⟨e, he1, he2, he3⟩
  · exact h
  · exact absurd he3 (he e he1 he2)
end
section
variable {P : Program} {ops : Array Oper} {md : Region.Mode} {Q : Act → World → Prop} {k : Nat} {φ : Fact} {d : Array Bool} {a : Act} {kd : Nat → Bool}
theorem k_start {id : Nat} {Q : Exit → Act → World → Prop} {a : Act} {w : World} (kd : Nat → Bool) (φ : Fact) (hφ : φ.p w.drew) (n : Nat) (hn : ops.size = n) (hm : P.follows .mixedOrders = true)
    (h : AnyK kd Fact.p P .any ops (Q .normal) n φ (Array.replicate n false) a) : (Code.region id ops true).wp P Q a w := by
  subst hn
  exact wp_region_any hm (AnyG.any _ _ _ _ (h.anyG _ _ _) _ hφ)
theorem k_done (hB : (Region.ready md ops d).isEmpty = true) (h : ∀ w, φ.p w → Q a w) : AnyK kd Fact.p P md ops Q 0 φ d a := ⟨by simpa using hB, h⟩
/-- One value wherever this is known; a call only grows the world. -/
def Oper.qK (P : Program) (o : Oper) (a : Act) (φ : Fact) (next : Act → Prop) : Prop :=
  ∃ v, (∀ p : {w : World // φ.p w}, o.quietAt P a (fun w'' => BelowOf p.1 w'') p.1 v) ∧ next (a.put o.dst v)
theorem k_quiet (i : Nat) {o : Oper} (hB : (Region.noSelect ops && ((Region.ready md ops d).contains i && (Region.free md ops d i && (calmB kd md ops d i && !kd i)))) = true) (ho : ops[i]? = some o)
    (h : ∀ K : Act → Prop, (∀ a, AnyK kd Fact.p P md ops Q k φ (d.setIfInBounds i true) a → K a) → if Region.wanted o (yielded ops a.tmps) then Oper.qK P o a φ K else K (a.put o.dst undef)) : AnyK kd Fact.p P md ops Q (k + 1) φ d a := by
  simp only [Bool.and_eq_true, Bool.not_eq_true'] at hB
  obtain ⟨b1, b2, b3, b4, b5⟩ := hB
  have hf := h _ fun _ h => h
  have hr : i ∈ Region.ready md ops d := by simpa using b2
  have hfree : ∀ j x, ops[j]? = some x → j ≠ i → d.getD j true = false → (∀ e ∈ x.after, Region.binds md e = true → e.on ≠ i) → o.apart ops x = true ∧ kd j = false :=
    fun j x hx hj hd he => ⟨Region.free_spec ho b3 j x hx hj hd he, calmB_spec b4 j x hx hj hd he⟩
  split at hf
  · rename_i hw
    obtain ⟨v, h1, h2⟩ := hf
    refine AnyK.first ho b5 (Region.noSelect_spec b1) k φ d a hfree hr (.inl ⟨hw, fun w hL => ?_⟩) h2
    have hq := h1 ⟨w, hL⟩
    unfold Oper.quietAt at hq ⊢
    generalize (execOp a.eval o).run P _ = r at hq ⊢
    cases r with
    | halt x w => exact hq
    | ok n w =>
      cases n <;> try exact hq
      case enter f args => exact ⟨hq.1, Calls.mono hq.2 fun e w'' ⟨he, hb⟩ => ⟨he, φ.s _ _ hL hb⟩⟩
  · rename_i hw
    exact AnyK.first ho b5 (Region.noSelect_spec b1) k φ d a hfree hr (.inr ⟨by simpa using hw, rfl⟩) hf
/-- An operation that looks at no memory. -/
theorem k_pure (i : Nat) {o : Oper} {v : Value} (hB : (Region.noSelect ops && ((Region.ready md ops d).contains i && Region.free md ops d i)) = true) (ho : ops[i]? = some o) (hg : o.guard = Option.none)
    (h : ∀ w, (execOp a.eval o).run P w = .ok (.value v) w) (hn : AnyK kd Fact.p P md ops Q k φ (d.setIfInBounds i true) (a.put o.dst v)) : AnyK kd Fact.p P md ops Q (k + 1) φ d a := by
  simp only [Bool.and_eq_true] at hB
  obtain ⟨b1, b2, b3⟩ := hB
  refine AnyK.pureFirst ho (Region.noSelect_spec b1) k φ d a (Region.free_spec ho b3) (by simpa using b2) (.inl ⟨by unfold Region.wanted; rw [hg], fun γ w hL => ?_⟩) hn
  unfold Oper.quietAt
  rw [h]
  exact ⟨rfl, rfl⟩
theorem gUpon_val {r : Result Next} {u : Value} {w' : World} {K : Value → Fact → Prop} (φ' : Fact) (h : r = .ok (.value u) w') (hφ : φ'.p w') (hk : K u φ') : gUpon Fact.p P K r := by
  rw [h]
  exact ⟨φ', hφ, hk⟩
/-- Alone ready: what is known may change. -/
theorem k_alone (i : Nat) {o : Oper} (hB : (Region.ready md ops d == [i] && kd i) = true) (ho : ops[i]? = some o) (hg : o.guard = Option.none)
    (h : ∀ K : Act → Fact → Prop, (∀ a φ', AnyK kd Fact.p P md ops Q k φ' (d.setIfInBounds i true) a → K a φ') → ∀ w, φ.p w → gUpon Fact.p P (fun v φ' => K (a.put o.dst v) φ') ((execOp a.eval o).run P w)) : AnyK kd Fact.p P md ops Q (k + 1) φ d a := by
  simp only [Bool.and_eq_true, beq_iff_eq] at hB
  refine ⟨by rw [hB.1]; simp, fun j hj x hx => ?_⟩
  rw [hB.1] at hj
  obtain rfl : j = i := by simpa using hj
  obtain rfl : x = o := Option.some.inj (hx.symm.trans ho)
  unfold gOp
  rw [if_pos (by unfold Region.wanted; rw [hg])]
  exact fun w hL => h (fun a' γ' => (kd j = false → γ' = φ) ∧ AnyK kd Fact.p P md ops Q k γ' (d.setIfInBounds j true) a') (fun a γ' h => ⟨fun e => absurd e (by rw [hB.2]; simp), h⟩) w hL
/-- The load of a whole row that is known. -/
theorem qK_row {K : Act → Prop} {o : Oper} (hw : Region.wanted o (yielded ops a.tmps) = true) (ty : TypeId) (x : Operand) (ho : o.op = .load ty x) (g : Nat) (hx : a.eval x = .pointer (some ⟨g, 0, none⟩)) (cs : Array Value) (hr : ∀ w, φ.p w → rowOf w g = some cs)
    (d : TypeDesc) (hu : P.underlying ty = some d) (hd : TypeDesc.isRow d = true) (hi : (P.info? ty).map (·.size) = some cs.size) (h : K (a.put o.dst (.agg cs))) : if Region.wanted o (yielded ops a.tmps) then Oper.qK P o a φ K else K (a.put o.dst undef) := by
  rw [if_pos hw]
  refine ⟨.agg cs, fun ⟨w, hw⟩ => ?_, h⟩
  obtain ⟨t, ht⟩ := rowOf_some (hr w hw)
  have hl := run_loadVar_row (P := P) w g t ty cs (0, 0) d ht hu (by cases d <;> first | rfl | simp [TypeDesc.isRow] at hd) hi
  unfold Oper.quietAt execOp
  simp only [ho, hx, Instr.loadAt, Instr.sureAddr, Sem.run_bind, Sem.run_pure, Result.andThen_ok, hl, Oper.quietUpon]
  exact ⟨trivial, trivial⟩
/-- The load of cells that are known. -/
theorem qK_CAt {K : Act → Prop} {o : Oper} (hw : Region.wanted o (yielded ops a.tmps) = true) (ty : TypeId) (x : Operand) (ho : o.op = .load ty x) (g off : Nat) (hx : a.eval x = .pointer (some ⟨g, off, none⟩)) (cs : List Value) (hc : ∀ w, φ.p w → ∀ i v, cs[i]? = some v → w.cell? ⟨g, off + i, none⟩ = some v)
    (d : TypeDesc) (hu : P.underlying ty = some d) (hd : TypeDesc.isRow d = true) (hi : (P.info? ty).map (·.size) = some cs.length) (h : K (a.put o.dst (.agg cs.toArray))) : if Region.wanted o (yielded ops a.tmps) then Oper.qK P o a φ K else K (a.put o.dst undef) := by
  rw [if_pos hw]
  refine ⟨.agg cs.toArray, fun ⟨w, hw⟩ => ?_, h⟩
  have hl := run_loadVar_cells (P := P) w ⟨g, off, none⟩ ty cs d hu hd hi (fun j v hv => by
    have e : (⟨g, off, none⟩ : Addr).add j = ⟨g, off + j, none⟩ := by unfold Addr.add; split <;> simp_all
    rw [e]
    exact hc w hw j v hv)
  unfold Oper.quietAt execOp
  simp only [ho, hx, Instr.loadAt, Instr.sureAddr, Sem.run_bind, Sem.run_pure, Result.andThen_ok, hl, Oper.quietUpon]
  exact ⟨trivial, trivial⟩
/-- A whole row stored, alone; then this is known. -/
theorem k_store_row (φ' : Fact) {o : Oper} {K : Act → Fact → Prop} {w : World} (hw : φ.p w) (hd : o.dst = none) (ty : TypeId) (x y : Operand) (ho : o.op = .store ty x y) (g : Nat) (hx : a.eval x = .pointer (some ⟨g, 0, none⟩)) (cs : Array Value) (hy : a.eval y = .agg cs) (hi : (P.info? ty).map (·.size) = some cs.size)
    (hr : ∀ w, φ.p w → ∃ cs0 : Array Value, rowOf w g = some cs0 ∧ cs0.size = cs.size) (h1 : ∀ v ∈ cs.toList, v.oneCell' = true) (hφ : ∀ w, φ.p w → φ'.p (w.setRow g cs)) (h : K a φ') : gUpon Fact.p P (fun v φ' => K (a.put o.dst v) φ') ((execOp a.eval o).run P w) := by
  obtain ⟨cs0, hr, hz⟩ := hr w hw
  have hl := run_storeAt_row (P := P) w g ty cs.size cs hi rfl (by rw [hr]; simp [hz]) h1
  unfold execOp
  simp only [ho, hx, hy, Sem.run_bind, Sem.run_pure, Result.andThen_ok, hl]
  rw [hd]
  exact ⟨φ', hφ w hw, h⟩
end
end Go.Proofs.YtbngpcghognojaaDoor
