/- Texts of the claim, joined (8 of 18): Know, Pure, Whole, Runs, Nest. -/
import Derived.Laws.AppendOwnNone
import Derived.Maps.AppendAt
import Derived.Test.YtbngpcghognojaaB3
import Derived.Test.YtbngpcghognojaaB7
namespace Go.Proofs.Ytbngpcghognojaa
open Go Go.Sort Go.RowKit
set_option linter.unusedVariables false
set_option linter.unusedSimpArgs false
set_option maxRecDepth 100000
set_option maxHeartbeats 1000000
section
variable {Γ : Type} {Cl : Γ → World → Prop} {P : Program} {ops : Array Oper} {md : Region.Mode}
/-- Whatever order is picked; the operations of kind 'false' leave what is known as it is. -/
def AnyK (kd : Nat → Bool) (Cl : Γ → World → Prop) (P : Program) (md : Region.Mode) (ops : Array Oper) (Q : Act → World → Prop) : Nat → Γ → Array Bool → Act → Prop
  | 0, γ, d, a => Region.ready md ops d = [] ∧ ∀ w, Cl γ w → Q a w
  | k + 1, γ, d, a => Region.ready md ops d ≠ [] ∧ ∀ i ∈ Region.ready md ops d, ∀ o, ops[i]? = some o → gOp Cl P ops o γ (fun a' γ' => (kd i = false → γ' = γ) ∧ AnyK kd Cl P md ops Q k γ' (d.setIfInBounds i true) a') a
theorem AnyK.anyG {kd : Nat → Bool} {Q : Act → World → Prop} (k : Nat) : ∀ γ d a, AnyK kd Cl P md ops Q k γ d a → AnyG Cl P md ops Q k γ d a := by
  induction k with
  | zero => exact fun γ d a h => h
  | succ k ih => exact fun γ d a h => ⟨h.1, fun i hi o ho => (h.2 i hi o ho).mono fun a γ' h => ih _ _ _ h.2⟩
def YieldsAt (Cl : Γ → World → Prop) (P : Program) (ops : Array Oper) (o : Oper) (γ : Γ) (v : Value) (a : Act) : Prop :=
  (Region.wanted o (yielded ops a.tmps) = true ∧ ∀ w, Cl γ w → o.quietAt P a (Cl γ) w v) ∨ (Region.wanted o (yielded ops a.tmps) = false ∧ v = undef)
theorem YieldsAt.gOp {o : Oper} {v : Value} {a : Act} {γ : Γ} {K : Act → Γ → Prop} (hy : YieldsAt Cl P ops o γ v a) (h : K (a.put o.dst v) γ) : gOp Cl P ops o γ K a := by
  unfold Go.Proofs.Ytbngpcghognojaa.gOp
  rcases hy with ⟨hw, hv⟩ | ⟨hw, rfl⟩
  · rw [if_pos hw]
    intro w hL
    have hq := hv w hL
    unfold Oper.quietAt at hq
    generalize (execOp a.eval o).run P _ = r at hq
    cases r with
    | halt x w => exact hq.elim
    | ok n w =>
      cases n <;> try exact hq.elim
      case value u =>
        obtain ⟨rfl, rfl⟩ := hq
        exact ⟨γ, hL, h⟩
      case skip =>
        obtain ⟨rfl, rfl⟩ := hq
        exact ⟨γ, hL, h⟩
      case enter f args =>
        obtain ⟨rfl, hc⟩ := hq
        exact Calls.mono hc fun e w'' ⟨he, hb⟩ => ⟨v, γ, he, hb, h⟩
  · rw [if_neg (by rw [hw]; simp)]
    exact h
theorem YieldsAt.put {o x : Oper} {v : Value} {a : Act} {γ : Γ} (hy : YieldsAt Cl P ops o γ v a) (hs : ∀ cs b, o.op ≠ .select cs b) (h3 : ∀ d, x.dst = some d → d ∉ o.looksAt ops) (u : Value) : YieldsAt Cl P ops o γ v (a.put x.dst u) := by
  unfold YieldsAt Oper.quietAt at *
  rw [execOp_put o hs a x.dst u h3, wanted_put o a x.dst u h3]
  exact hy
theorem gOp_putAt {o x : Oper} {v : Value} {γ : Γ} {K : Act → Γ → Prop} {a : Act} (hap : o.apart ops x = true) (hso : ∀ cs b, o.op ≠ .select cs b) (hsx : ∀ cs b, x.op ≠ .select cs b)
    (hy : YieldsAt Cl P ops o γ v a) (h : gOp Cl P ops x γ K (a.put o.dst v)) : gOp Cl P ops x γ (fun a' γ' => YieldsAt Cl P ops o γ v a' ∧ K (a'.put o.dst v) γ') a := by
  obtain ⟨h1, h2, h3⟩ := Oper.apart_spec hap
  unfold Go.Proofs.Ytbngpcghognojaa.gOp at *
  rw [wanted_put x a o.dst v h1, execOp_put x hsx a o.dst v h1] at h
  split
  · rename_i hw
    rw [if_pos hw] at h
    refine fun w hL => (h w hL).mono fun u γ' hk => ⟨hy.put hso h3 u, ?_⟩
    rw [← Act.put_comm a v u h2]
    exact hk
  · rename_i hw
    rw [if_neg hw] at h
    refine ⟨hy.put hso h3 _, ?_⟩
    rw [← Act.put_comm a v undef h2]
    exact h
theorem AnyK.first {kd : Nat → Bool} {Q : Act → World → Prop} {i : Nat} {o : Oper} {v : Value} (hi : ops[i]? = some o) (hki : kd i = false) (hsel : ∀ (j : Nat) (x : Oper) cs b, ops[j]? = some x → x.op ≠ .select cs b) (k : Nat) :
    ∀ γ d a, (∀ j x, ops[j]? = some x → j ≠ i → d.getD j true = false → (∀ e ∈ x.after, Region.binds md e = true → e.on ≠ i) → o.apart ops x = true ∧ kd j = false) →
      i ∈ Region.ready md ops d → YieldsAt Cl P ops o γ v a → AnyK kd Cl P md ops Q k γ (d.setIfInBounds i true) (a.put o.dst v) → AnyK kd Cl P md ops Q (k + 1) γ d a := by
  induction k with
  | zero =>
    intro γ d a _ hr hy h
    refine ⟨List.ne_nil_of_mem hr, fun j hj x hx => ?_⟩
    by_cases e : j = i
    · subst e
      obtain rfl : x = o := Option.some.inj (hx.symm.trans hi)
      exact hy.gOp ⟨fun _ => rfl, h⟩
    · exact absurd (ready_mono hj e) (by rw [h.1]; simp)
  | succ k ih =>
    intro γ d a hfree hr hy h
    have hun := (mem_ready.1 hr).1
    refine ⟨List.ne_nil_of_mem hr, fun j hj x hx => ?_⟩
    by_cases e : j = i
    · subst e
      obtain rfl : x = o := Option.some.inj (hx.symm.trans hi)
      exact hy.gOp ⟨fun _ => rfl, h⟩
    obtain ⟨hju, x', hx', hall⟩ := mem_ready.1 hj
    obtain rfl : x' = x := Option.some.inj (hx'.symm.trans hx)
    have hno : ∀ t ∈ x'.after, Region.binds md t = true → t.on ≠ i := by
      intro t ht hb heq
      have h0 := hall t ht hb
      rw [heq] at h0
      rcases Nat.lt_or_ge i d.size with h' | h'
      · simp [h'] at h0 hun
        rw [hun] at h0
        cases h0
      · simp [Array.getElem?_eq_none h'] at h0
    obtain ⟨hap, hkj⟩ := hfree j x' hx e hju hno
    refine (gOp_putAt hap (fun cs b => hsel i o cs b hi) (fun cs b => hsel j x' cs b hx) hy (h.2 j (ready_mono hj e) x' hx)).mono ?_
    rintro a' γ' ⟨hy', hk', h'⟩
    obtain rfl : γ' = γ := hk' hkj
    refine ⟨fun _ => rfl, ih γ' _ a' (fun m y hm hmi hd => hfree m y hm hmi ?_) (ready_mono hr (Ne.symm e)) hy' (by rw [Array.setIfInBounds_comm _ _ e]; exact h')⟩
    by_cases em : j = m
    · rw [← em]
      exact hju
    · rwa [getD_set_ne true em] at hd
/-- An operation that yields one value whatever is known: it may as well come now. -/
theorem AnyK.pureFirst {kd : Nat → Bool} {Q : Act → World → Prop} {i : Nat} {o : Oper} {v : Value} (hi : ops[i]? = some o) (hsel : ∀ (j : Nat) (x : Oper) cs b, ops[j]? = some x → x.op ≠ .select cs b) (k : Nat) :
    ∀ γ d a, (∀ j x, ops[j]? = some x → j ≠ i → d.getD j true = false → (∀ e ∈ x.after, Region.binds md e = true → e.on ≠ i) → o.apart ops x = true) →
      i ∈ Region.ready md ops d → YieldsG Cl P ops o v a → AnyK kd Cl P md ops Q k γ (d.setIfInBounds i true) (a.put o.dst v) → AnyK kd Cl P md ops Q (k + 1) γ d a := by
  induction k with
  | zero =>
    intro γ d a _ hr hy h
    refine ⟨List.ne_nil_of_mem hr, fun j hj x hx => ?_⟩
    by_cases e : j = i
    · subst e
      obtain rfl : x = o := Option.some.inj (hx.symm.trans hi)
      exact hy.gOp ⟨fun _ => rfl, h⟩
    · exact absurd (ready_mono hj e) (by rw [h.1]; simp)
  | succ k ih =>
    intro γ d a hfree hr hy h
    have hun := (mem_ready.1 hr).1
    refine ⟨List.ne_nil_of_mem hr, fun j hj x hx => ?_⟩
    by_cases e : j = i
    · subst e
      obtain rfl : x = o := Option.some.inj (hx.symm.trans hi)
      exact hy.gOp ⟨fun _ => rfl, h⟩
    obtain ⟨hju, x', hx', hall⟩ := mem_ready.1 hj
    obtain rfl : x' = x := Option.some.inj (hx'.symm.trans hx)
    have hno : ∀ t ∈ x'.after, Region.binds md t = true → t.on ≠ i := by
      intro t ht hb heq
      have h0 := hall t ht hb
      rw [heq] at h0
      rcases Nat.lt_or_ge i d.size with h' | h'
      · simp [h'] at h0 hun
        rw [hun] at h0
        cases h0
      · simp [Array.getElem?_eq_none h'] at h0
    have hap := hfree j x' hx e hju hno
    refine (gOp_put hap (fun cs b => hsel i o cs b hi) (fun cs b => hsel j x' cs b hx) hy (h.2 j (ready_mono hj e) x' hx)).mono ?_
    rintro a' γ' ⟨hy', hk', h'⟩
    refine ⟨hk', ih γ' _ a' (fun m y hm hmi hd => hfree m y hm hmi ?_) (ready_mono hr (Ne.symm e)) hy' (by rw [Array.setIfInBounds_comm _ _ e]; exact h')⟩
    by_cases em : j = m
    · rw [← em]
      exact hju
    · rwa [getD_set_ne true em] at hd
/-- No operation that changes what is known may come before operation i. -/
def calmB (kd : Nat → Bool) (md : Region.Mode) (ops : Array Oper) (d : Array Bool) (i : Nat) : Bool :=
  (List.range ops.size).all fun j => (j == i || d.getD j true || !kd j) || (match ops[j]? with | some x => x.after.any fun e => Region.binds md e && e.on == i | none => true)
theorem calmB_spec {kd : Nat → Bool} {d : Array Bool} {i : Nat} (h : calmB kd md ops d i = true) : ∀ j x, ops[j]? = some x → j ≠ i → d.getD j true = false → (∀ e ∈ x.after, Region.binds md e = true → e.on ≠ i) → kd j = false := by
  intro j x hx hj hd he
  unfold calmB at h
  rw [List.all_eq_true] at h
  have hlt := (Array.getElem?_eq_some_iff.1 hx).1
  have := h j (by simpa using hlt)
  rw [hd, hx] at this
  simp only [Bool.or_false, Bool.or_eq_true, beq_iff_eq, hj, false_or, Bool.not_eq_true', Array.any_eq_true', Bool.and_eq_true] at this
  rcases this with h | ⟨e, he1, he2, he3⟩
  · exact h
  · exact absurd he3 (he e he1 he2)
end
section
variable {P : Program} {ops : Array Oper} {md : Region.Mode} {Q : Act → World → Prop} {k : Nat} {φ : Fact} {d : Array Bool} {a : Act} {kd : Nat → Bool}
theorem k_start {id : Nat} {Q : Exit → Act → World → Prop} {a : Act} {w : World} (kd : Nat → Bool) (φ : Fact) (hφ : φ.p w.drew) (n : Nat) (hn : ops.size = n) (hm : P.follows .mixedOrders = true)
    (h : AnyK kd Fact.p P .any ops (Q .normal) n φ (Array.replicate n false) a) : (Code.region id ops true).wp P Q a w := by
  subst hn
  exact wp_region_any hm (AnyG.any _ _ _ _ (h.anyG _ _ _) _ hφ)
theorem k_done (hB : (Region.ready md ops d).isEmpty = true) (h : ∀ w, φ.p w → Q a w) : AnyK kd Fact.p P md ops Q 0 φ d a := ⟨by simpa using hB, h⟩
/-- One value wherever this is known; a call only grows the world. -/
def Oper.qK (P : Program) (o : Oper) (a : Act) (φ : Fact) (next : Act → Prop) : Prop :=
  ∃ v, (∀ p : {w : World // φ.p w}, o.quietAt P a (fun w'' => BelowOf p.1 w'') p.1 v) ∧ next (a.put o.dst v)
theorem k_quiet (i : Nat) {o : Oper} (hB : (Region.noSelect ops && ((Region.ready md ops d).contains i && (Region.free md ops d i && (calmB kd md ops d i && !kd i)))) = true) (ho : ops[i]? = some o)
    (h : ∀ K : Act → Prop, (∀ a, AnyK kd Fact.p P md ops Q k φ (d.setIfInBounds i true) a → K a) → if Region.wanted o (yielded ops a.tmps) then Oper.qK P o a φ K else K (a.put o.dst undef)) : AnyK kd Fact.p P md ops Q (k + 1) φ d a := by
  simp only [Bool.and_eq_true, Bool.not_eq_true'] at hB
  obtain ⟨b1, b2, b3, b4, b5⟩ := hB
  have hf := h _ fun _ h => h
  have hr : i ∈ Region.ready md ops d := by simpa using b2
  have hfree : ∀ j x, ops[j]? = some x → j ≠ i → d.getD j true = false → (∀ e ∈ x.after, Region.binds md e = true → e.on ≠ i) → o.apart ops x = true ∧ kd j = false :=
    fun j x hx hj hd he => ⟨Region.free_spec ho b3 j x hx hj hd he, calmB_spec b4 j x hx hj hd he⟩
  split at hf
  · rename_i hw
    obtain ⟨v, h1, h2⟩ := hf
    refine AnyK.first ho b5 (Region.noSelect_spec b1) k φ d a hfree hr (.inl ⟨hw, fun w hL => ?_⟩) h2
    have hq := h1 ⟨w, hL⟩
    unfold Oper.quietAt at hq ⊢
    generalize (execOp a.eval o).run P _ = r at hq ⊢
    cases r with
    | halt x w => exact hq
    | ok n w =>
      cases n <;> try exact hq
      case enter f args => exact ⟨hq.1, Calls.mono hq.2 fun e w'' ⟨he, hb⟩ => ⟨he, φ.s _ _ hL hb⟩⟩
  · rename_i hw
    exact AnyK.first ho b5 (Region.noSelect_spec b1) k φ d a hfree hr (.inr ⟨by simpa using hw, rfl⟩) hf
/-- An operation that looks at no memory. -/
theorem k_pure (i : Nat) {o : Oper} {v : Value} (hB : (Region.noSelect ops && ((Region.ready md ops d).contains i && Region.free md ops d i)) = true) (ho : ops[i]? = some o) (hg : o.guard = Option.none)
    (h : ∀ w, (execOp a.eval o).run P w = .ok (.value v) w) (hn : AnyK kd Fact.p P md ops Q k φ (d.setIfInBounds i true) (a.put o.dst v)) : AnyK kd Fact.p P md ops Q (k + 1) φ d a := by
  simp only [Bool.and_eq_true] at hB
  obtain ⟨b1, b2, b3⟩ := hB
  refine AnyK.pureFirst ho (Region.noSelect_spec b1) k φ d a (Region.free_spec ho b3) (by simpa using b2) (.inl ⟨by unfold Region.wanted; rw [hg], fun γ w hL => ?_⟩) hn
  unfold Oper.quietAt
  rw [h]
  exact ⟨rfl, rfl⟩
theorem gUpon_val {r : Result Next} {u : Value} {w' : World} {K : Value → Fact → Prop} (φ' : Fact) (h : r = .ok (.value u) w') (hφ : φ'.p w') (hk : K u φ') : gUpon Fact.p P K r := by
  rw [h]
  exact ⟨φ', hφ, hk⟩
/-- Alone ready: what is known may change. -/
theorem k_alone (i : Nat) {o : Oper} (hB : (Region.ready md ops d == [i] && kd i) = true) (ho : ops[i]? = some o) (hg : o.guard = Option.none)
    (h : ∀ K : Act → Fact → Prop, (∀ a φ', AnyK kd Fact.p P md ops Q k φ' (d.setIfInBounds i true) a → K a φ') → ∀ w, φ.p w → gUpon Fact.p P (fun v φ' => K (a.put o.dst v) φ') ((execOp a.eval o).run P w)) : AnyK kd Fact.p P md ops Q (k + 1) φ d a := by
  simp only [Bool.and_eq_true, beq_iff_eq] at hB
  refine ⟨by rw [hB.1]; simp, fun j hj x hx => ?_⟩
  rw [hB.1] at hj
  obtain rfl : j = i := by simpa using hj
  obtain rfl : x = o := Option.some.inj (hx.symm.trans ho)
  unfold gOp
  rw [if_pos (by unfold Region.wanted; rw [hg])]
  exact fun w hL => h (fun a' γ' => (kd j = false → γ' = φ) ∧ AnyK kd Fact.p P md ops Q k γ' (d.setIfInBounds j true) a') (fun a γ' h => ⟨fun e => absurd e (by rw [hB.2]; simp), h⟩) w hL
/-- The load of a whole row that is known. -/
theorem qK_row {K : Act → Prop} {o : Oper} (hw : Region.wanted o (yielded ops a.tmps) = true) (ty : TypeId) (x : Operand) (ho : o.op = .load ty x) (g : Nat) (hx : a.eval x = .pointer (some ⟨g, 0, none⟩)) (cs : Array Value) (hr : ∀ w, φ.p w → rowOf w g = some cs)
    (d : TypeDesc) (hu : P.underlying ty = some d) (hd : TypeDesc.isRow d = true) (hi : (P.info? ty).map (·.size) = some cs.size) (h : K (a.put o.dst (.agg cs))) : if Region.wanted o (yielded ops a.tmps) then Oper.qK P o a φ K else K (a.put o.dst undef) := by
  rw [if_pos hw]
  refine ⟨.agg cs, fun ⟨w, hw⟩ => ?_, h⟩
  obtain ⟨t, ht⟩ := rowOf_some (hr w hw)
  have hl := run_loadVar_row (P := P) w g t ty cs (0, 0) d ht hu (by cases d <;> first | rfl | simp [TypeDesc.isRow] at hd) hi
  unfold Oper.quietAt execOp
  simp only [ho, hx, Instr.loadAt, Instr.sureAddr, Sem.run_bind, Sem.run_pure, Result.andThen_ok, hl, Oper.quietUpon]
  exact ⟨trivial, trivial⟩
/-- The load of cells that are known. -/
theorem qK_CAt {K : Act → Prop} {o : Oper} (hw : Region.wanted o (yielded ops a.tmps) = true) (ty : TypeId) (x : Operand) (ho : o.op = .load ty x) (g off : Nat) (hx : a.eval x = .pointer (some ⟨g, off, none⟩)) (cs : List Value) (hc : ∀ w, φ.p w → ∀ i v, cs[i]? = some v → w.cell? ⟨g, off + i, none⟩ = some v)
    (d : TypeDesc) (hu : P.underlying ty = some d) (hd : TypeDesc.isRow d = true) (hi : (P.info? ty).map (·.size) = some cs.length) (h : K (a.put o.dst (.agg cs.toArray))) : if Region.wanted o (yielded ops a.tmps) then Oper.qK P o a φ K else K (a.put o.dst undef) := by
  rw [if_pos hw]
  refine ⟨.agg cs.toArray, fun ⟨w, hw⟩ => ?_, h⟩
  have hl := run_loadVar_cells (P := P) w ⟨g, off, none⟩ ty cs d hu hd hi (fun j v hv => by
    have e : (⟨g, off, none⟩ : Addr).add j = ⟨g, off + j, none⟩ := by unfold Addr.add; split <;> simp_all
    rw [e]
    exact hc w hw j v hv)
  unfold Oper.quietAt execOp
  simp only [ho, hx, Instr.loadAt, Instr.sureAddr, Sem.run_bind, Sem.run_pure, Result.andThen_ok, hl, Oper.quietUpon]
  exact ⟨trivial, trivial⟩
/-- A whole row stored, alone; then this is known. -/
theorem k_store_row (φ' : Fact) {o : Oper} {K : Act → Fact → Prop} {w : World} (hw : φ.p w) (hd : o.dst = none) (ty : TypeId) (x y : Operand) (ho : o.op = .store ty x y) (g : Nat) (hx : a.eval x = .pointer (some ⟨g, 0, none⟩)) (cs : Array Value) (hy : a.eval y = .agg cs) (hi : (P.info? ty).map (·.size) = some cs.size)
    (hr : ∀ w, φ.p w → ∃ cs0 : Array Value, rowOf w g = some cs0 ∧ cs0.size = cs.size) (h1 : ∀ v ∈ cs.toList, v.oneCell' = true) (hφ : ∀ w, φ.p w → φ'.p (w.setRow g cs)) (h : K a φ') : gUpon Fact.p P (fun v φ' => K (a.put o.dst v) φ') ((execOp a.eval o).run P w) := by
  obtain ⟨cs0, hr, hz⟩ := hr w hw
  have hl := run_storeAt_row (P := P) w g ty cs.size cs hi rfl (by rw [hr]; simp [hz]) h1
  unfold execOp
  simp only [ho, hx, hy, Sem.run_bind, Sem.run_pure, Result.andThen_ok, hl]
  rw [hd]
  exact ⟨φ', hφ w hw, h⟩
end
end Go.Proofs.Ytbngpcghognojaa
namespace Go.Proofs.Ytbngpcghognojaa
open Go Go.RowKit
set_option linter.unusedVariables false
set_option linter.unusedSimpArgs false
set_option maxRecDepth 100000
set_option maxHeartbeats 1000000
attribute [local go_sem] Oper.qB Oper.qK
section
variable {P : Program} {φ : Fact} {a : Act}
theorem gUpon_row {o : Oper} {wx : World} {K : Value → Fact → Prop} (ty : TypeId) (x : Operand) (ho : o.op = .load ty x) (g : Nat) (hx : a.eval x = .pointer (some ⟨g, 0, none⟩)) (cs : Array Value) (hr : rowOf wx g = some cs)
    (d : TypeDesc) (hu : P.underlying ty = some d) (hd : TypeDesc.isRow d = true) (hi : (P.info? ty).map (·.size) = some cs.size) (hφ : φ.p wx) (hk : K (.agg cs) φ) : gUpon Fact.p P K ((execOp a.eval o).run P wx) := by
  refine gUpon_val φ (w' := wx) ?_ hφ hk
  have hl := loadVar_rowOf (P := P) cs hr d hu hd hi
  unfold execOp
  simp only [ho, hx, Instr.loadAt, Instr.sureAddr, Sem.run_bind, Sem.run_pure, Result.andThen_ok, hl]
end
theorem OwnN.cases {α : Type} {f : α → List Value} {k : Nat} (hk : 0 < k) (hf : ∀ x, (f x).length = k) {w : World} {B e : Nat} {v : Value} {l : List α} (h : OwnN f w B e k v l) : (v = .slice none 0 0 ∧ l = []) ∨ ∃ g cap, v = .slice (some ⟨g, 0, none⟩) l.length cap := by
  rcases h.2 with ⟨h1, h2⟩ | ⟨g, cap, cur, hv, _⟩
  · refine .inl ⟨h1, ?_⟩
    exact List.eq_nil_of_length_eq_zero h2
  · exact .inr ⟨g, cap, hv⟩
/-- A crate with these bottles, from the first place on. -/
def padC (l : List Bt) (h : l.length ≤ 12) : Cr := ⟨(l ++ List.replicate (12 - l.length) zB).toArray, by simp; omega⟩
def packC1 (l : List Bt) : Cr := if h : l.length ≤ 12 then padC l h else zC
theorem packC1_toList {l : List Bt} (h : l.length ≤ 12) : (packC1 l).toList = l ++ List.replicate (12 - l.length) zB := by
  unfold packC1
  rw [dif_pos h]
  rfl
def sortedR (c : Cr) : Cr × Int := if c.ok = true then (packC1 (sortB (allB c)), 0) else (zC, 1)
theorem sortedR_pad {c : Cr} : (sortB (allB c)).length ≤ 12 := by rw [sortB_length]; exact allB_le c
section
variable {P : Program} {ops : Array Oper} {rest : List Oper} {o : Oper} {a : Act} {w : World} {Q : Exit → Act → World → Prop}
/-- Nothing copied. -/
theorem run_copy_zero (w : World) (dT sT ty elem : TypeId) (dp sp : Option Addr) (dLen dCap sCap k : Nat) (hu : P.underlying dT = some (.slice elem)) (hs : (P.info? elem).map (·.size) = some k) :
    (Builtin.copy_ #[dT, sT] ty #[.slice dp dLen dCap, .slice sp 0 sCap]).run P w = .ok (goInt 0) w := by
  cases hq : P.info? elem with
  | none => simp [hq] at hs
  | some i => cases sp <;> cases dp <;> simp [Builtin.copy_, run_underlying hu, Builtin.lenOf, Builtin.firstCells, sizeOf, typeInfo, hq, storeCells, loadCells, loadCellsFrom]
end
theorem pack_cells {l : List Bt} (h : l.length ≤ 12) : cc (packC1 l) = fl bc l ++ (cc zC).drop (l.length * 2) := by
  have e : cc zC = bcs (List.replicate 12 zB) := rfl
  unfold cc at e ⊢
  rw [packC1_toList h, bcs_append, fl_bc, e, ← bcs_drop, List.drop_replicate]
/-- Bottles copied into an empty crate. -/
theorem copy_bots (w : World) (ty : TypeId) (g B : Nat) (v : Value) (l : List Bt) (hl : l.length ≤ 12) (hO : OwnN bc w B 42 2 v l) (hr : rowOf w g = some (cc zC).toArray) :
    ∃ w', (Builtin.copy_ #[46, 46] ty #[.slice (some ⟨g, 0, none⟩) 12 12, v]).run Try.prog w = .ok (goInt l.length) w' ∧ rowOf w' g = some (cc (packC1 l)).toArray ∧ (∀ g', g' ≠ g → rowOf w' g' = rowOf w g') ∧ (∀ b, b ≤ g → Below b w w') := by
  have hs : (Try.prog.info? 42).map (·.size) = some 2 := by kernel_rfl
  rcases hO.cases (by decide) bc_length with ⟨rfl, rfl⟩ | ⟨g1, cap, rfl⟩
  · exact ⟨w, run_copy_zero w _ _ ty 42 _ none 12 12 0 2 Try.underlying46 hs, hr, fun _ _ => rfl, fun _ _ => Below.refl _ _⟩
  · obtain ⟨t, ht⟩ := rowOf_some hr
    have hln : (fl bc l).length = l.length * 2 := fl_length bc_length l
    have hfit : 0 + (fl bc l).length ≤ (cc zC).toArray.size := by rw [hln, cc_size]; omega
    have hrun := run_copy_el (P := Try.prog) w 46 46 ty 42 g 0 12 12 ⟨g1, 0, none⟩ l.length cap (cc zC).toArray t (fl bc l) 2 l.length Try.underlying46 hs ht
      (Nat.min_eq_left hl).symm hln (fun j v hv => by rw [addr_at]; have := hO.lies.c j v hv; rwa [Nat.zero_add] at this) hfit (fl_ones bc_one l)
    have e : ((cc zC).toArray.toList.take 0 ++ fl bc l ++ (cc zC).toArray.toList.drop (0 + (fl bc l).length)).toArray = (cc (packC1 l)).toArray := by
      rw [pack_cells hl, hln, Nat.zero_add]
      rfl
    rw [e] at hrun
    refine ⟨_, hrun, ?_, fun g' h => rowOf_setRow_ne h, fun b hb => bsetRow (Below.refl _ _) hb _⟩
    rw [rowOf_setRow, if_pos rfl, hr]
    rfl
section
variable {ops : Array Oper} {rest : List Oper} {o : Oper} {a : Act} {w : World} {Q : Exit → Act → World → Prop}
theorem wp_store_zero0 (hgd : o.guard = none) (hdst : o.dst = none) (x y : Operand) (ho : o.op = .store 44 x y) (g : Nat) (hx : a.eval x = .pointer (some ⟨g, 0, none⟩))
    (hy : a.eval y = .agg #[.int .u8 0, .int .i16 0, .int .u8 0, .int .i16 0, .int .u8 0, .int .i16 0, .int .u8 0, .int .i16 0, .int .u8 0, .int .i16 0, .int .u8 0, .int .i16 0, .int .u8 0, .int .i16 0, .int .u8 0, .int .i16 0, .int .u8 0, .int .i16 0, .int .u8 0, .int .i16 0, .int .u8 0, .int .i16 0, .int .u8 0, .int .i16 0])
    (c : Cr) (hr : rowOf w g = some (cc c).toArray) (h : wpList Try.prog ops Q rest a (w.setRow g (cc zC).toArray)) : wpList Try.prog ops Q (o :: rest) a w :=
  wp_store_rowOf hgd hdst 44 x y ho g hx (cc zC).toArray hy (cc c).toArray hr (cc_size2 _ _) (infoC zC) zC_one h
end
end Go.Proofs.Ytbngpcghognojaa
namespace Go.Proofs.Ytbngpcghognojaa
open Go Go.RowKit
set_option linter.unusedVariables false
set_option linter.unusedSimpArgs false
set_option maxRecDepth 100000
set_option maxHeartbeats 1000000
attribute [local go_sem] Oper.qB
section
variable {α : Type} {f : α → List Value} {P : Program} {ops : Array Oper} {rest : List Oper} {o : Oper} {a : Act} {Q : Exit → Act → World → Prop} {W : World}
/-- append(v, ys...), the second one nil or not. -/
theorem wp_app_any (B : Nat) (hgd : o.guard = none) (s x : Operand) (t e : TypeId) (ho : o.op = .call { callee := .builtin .append, args := #[s, x], argTypes := #[t, t] })
    (z : Value) (size bytes : Nat) (ht : P.underlying t = some (.slice e)) (hinfo : (P.info? e).map (fun i => (i.zero, i.size, i.bytes)) = some (some z, size, bytes)) (hzs : z.cells.size = size) (hsz : 0 < size)
    (hf : ∀ x, (f x).length = size) (h1 : ∀ x, ∀ u ∈ f x, u.oneCell' = true)
    (v : Value) (l : List α) (hs : a.eval s = v) (u : Value) (B' : Nat) (ys : List α) (hx : a.eval x = u)
    (HO : OwnS f W B e size v l) (HY : OwnN f W B' e size u ys) (hB : B ≤ W.heap.size) (hn : l.length + ys.length ≤ 100000000) (hby : bytes ≤ 1000)
    (h : ∀ v1 w1, OwnS f w1 B e size v1 (l ++ ys) → Below B W w1 ∧ ButV v W w1 → wpList P ops Q rest (a.put o.dst v1) w1) : wpList P ops Q (o :: rest) a W := by
  rcases HY.cases hsz hf with ⟨rfl, rfl⟩ | ⟨g, cap, rfl⟩
  · obtain ⟨i0, hi, hzz⟩ := Option.map_eq_some_iff.1 hinfo
    refine wpList_append_own_none hgd s x t ho B e i0 size ht hi v l.length (fl f l) hs HO.1 hx ?_
    exact h v W (by rw [List.append_nil]; exact HO) ⟨Below.refl _ _, ButV.refl⟩
  · exact wp_app_el B hgd s x t e ho z size bytes ht hinfo hzs hsz hf h1 v l hs g cap ys hx HO HY.lies hB hn hby h
end
/-- All bottles of crates. -/
def wholeL (L : List Cr) : List Bt := L.flatMap allB
theorem wholeL_step {L : List Cr} {k : Nat} (hk : k < L.length) : wholeL (L.take (k + 1)) = wholeL (L.take k) ++ allB L[k]! := by
  unfold wholeL
  rw [List.take_succ_eq_append_getElem hk, getB hk, List.flatMap_append]
  simp
theorem wholeL_le : ∀ L : List Cr, (wholeL L).length ≤ 12 * L.length
  | [] => by simp [wholeL]
  | c :: L => by
    have h := wholeL_le L
    have hc := allB_le c
    have e : wholeL (c :: L) = allB c ++ wholeL L := by simp [wholeL]
    rw [e, List.length_append, List.length_cons]
    omega
def packR (L : List Cr) : List Cr × Int := if stackOk L = true then (packL (sortB (wholeL L)), 0) else ([], 1)
theorem stack_le {L : List Cr} (h : stackOk L = true) : L.length ≤ 12 := by
  simp [stackOk] at h
  exact h.1
theorem packR_le (L : List Cr) : (packR L).1.length ≤ 12 := by
  unfold packR
  split
  · rename_i h
    have := stack_le h
    have := wholeL_le L
    show (packK _ _).length ≤ 12
    rw [packK_length, sortB_length]
    omega
  · simp
end Go.Proofs.Ytbngpcghognojaa
namespace Go.Proofs.Ytbngpcghognojaa
open Go Go.RowKit
set_option linter.unusedVariables false
set_option linter.unusedSimpArgs false
set_option maxRecDepth 100000
set_option maxHeartbeats 1000000
attribute [local go_sem] Oper.qB
/-- A bottle and how many. -/
structure Ct where
  b : Bt
  n : Int
instance : Inhabited Ct := ⟨⟨zB, 0⟩⟩
def nc (x : Ct) : List Value := [.int .u8 x.b.k, .int .i16 x.b.y, .int .i64 x.n]
theorem nc_length (x : Ct) : (nc x).length = 3 := rfl
theorem nc_one (x : Ct) : ∀ u ∈ nc x, u.oneCell' = true := by
  intro u hu
  simp [nc] at hu
  rcases hu with rfl | rfl | rfl <;> rfl
/-- One bottle more. -/
def stepC (out : List Ct) (b : Bt) : List Ct :=
  match out.getLast? with
  | some x => if x.b = b then out.dropLast ++ [⟨b, x.n + 1⟩] else out ++ [⟨b, 1⟩]
  | none => [⟨b, 1⟩]
def runs (l : List Bt) : List Ct := l.foldl stepC []
theorem stepC_nil (b : Bt) : stepC [] b = [⟨b, 1⟩] := rfl
theorem stepC_same (o : List Ct) (x : Ct) {b : Bt} (h : x.b = b) : stepC (o ++ [x]) b = o ++ [⟨b, x.n + 1⟩] := by
  simp [stepC, h]
theorem stepC_new (o : List Ct) (x : Ct) {b : Bt} (h : x.b ≠ b) : stepC (o ++ [x]) b = (o ++ [x]) ++ [⟨b, 1⟩] := by
  simp [stepC, h]
theorem runs_step {l : List Bt} {k : Nat} (hk : k < l.length) : runs (l.take (k + 1)) = stepC (runs (l.take k)) l[k]! := by
  unfold runs
  rw [List.take_succ_eq_append_getElem hk, List.foldl_append, getB hk]
  rfl
theorem stepC_last (out : List Ct) (b : Bt) : ∃ o x, stepC out b = o ++ [x] ∧ x.b = b := by
  rcases List.eq_nil_or_concat out with rfl | ⟨o, x, rfl⟩
  · exact ⟨[], _, rfl, rfl⟩
  · rw [List.concat_eq_append]
    by_cases h : x.b = b
    · exact ⟨o, _, stepC_same o x h, rfl⟩
    · exact ⟨o ++ [x], _, stepC_new o x h, rfl⟩
theorem runs_bound (l : List Bt) : ∀ k, k ≤ l.length → (runs (l.take k)).length ≤ k ∧ ∀ x ∈ runs (l.take k), 0 ≤ x.n ∧ x.n ≤ k
  | 0, _ => by simp [runs]
  | k + 1, h => by
    obtain ⟨h1, h2⟩ := runs_bound l k (by omega)
    rw [runs_step (by omega)]
    generalize runs (l.take k) = out at h1 h2
    generalize l[k]! = b
    rcases List.eq_nil_or_concat out with rfl | ⟨o, x, rfl⟩
    · rw [stepC_nil]
      refine ⟨by simp, fun x hx => ?_⟩
      obtain rfl : x = _ := by simpa using hx
      exact ⟨by show (0 : Int) ≤ 1; decide, by show (1 : Int) ≤ _; omega⟩
    · rw [List.concat_eq_append] at *
      by_cases h : x.b = b
      · rw [stepC_same o x h]
        refine ⟨by simp at h1 ⊢; omega, fun y hy => ?_⟩
        rcases List.mem_append.1 hy with hy | hy
        · have := h2 y (List.mem_append_left _ hy)
          omega
        · obtain rfl : y = _ := by simpa using hy
          have := h2 x (by simp)
          show 0 ≤ x.n + 1 ∧ x.n + 1 ≤ _
          omega
      · rw [stepC_new o x h]
        refine ⟨by simp at h1 ⊢; omega, fun y hy => ?_⟩
        rcases List.mem_append.1 hy with hy | hy
        · have := h2 y hy
          omega
        · obtain rfl : y = _ := by simpa using hy
          exact ⟨by show (0 : Int) ≤ 1; decide, by show (1 : Int) ≤ _; omega⟩
def countsR (L : List Cr) : List Ct × Int := if stackOk L = true then (runs (sortB (wholeL L)), 0) else ([], 1)
theorem countsR_le (L : List Cr) : (countsR L).1.length ≤ 144 := by
  unfold countsR
  split
  · rename_i h
    have h1 := stack_le h
    have h2 := wholeL_le L
    have h3 := (runs_bound (sortB (wholeL L)) _ (Nat.le_refl _)).1
    rw [List.take_length, sortB_length] at h3
    show (runs _).length ≤ 144
    omega
  · simp
theorem fl_number {o : List Ct} {x : Ct} (m : Int) : (fl nc (o ++ [x])).set (o.length * 3 + 2) (.int .i64 m) = fl nc (o ++ [⟨x.b, m⟩]) := by
  have e : (fl nc o).length = o.length * 3 := fl_length nc_length o
  rw [fl_append, fl_append, fl_one, fl_one, List.set_append_right _ _ (by omega), e, Nat.add_sub_cancel_left]
  rfl
/-- Whatever block lay apart from a slice lies apart from another one. -/
def Away (v v1 : Value) (W : World) : Prop := ∀ b, b < W.heap.size → v.ownBlock ≠ some b → v1.ownBlock ≠ some b
section
variable {P : Program} {ops : Array Oper} {rest : List Oper} {o : Oper} {a : Act} {Q : Exit → Act → World → Prop} {W : World}
/-- append(v, x), with all that has not changed, and where the new slice lies. -/
theorem wp_app3 (B : Nat) (hgd : o.guard = none) (s x : Operand) (t e : TypeId) (ho : o.op = .call { callee := .builtin .append, args := #[s, x], argTypes := #[t, t] })
    (z : Value) (size bytes : Nat) (ht : P.underlying t = some (.slice e)) (hinfo : (P.info? e).map (fun i => (i.zero, i.size, i.bytes)) = some (some z, size, bytes)) (hzs : z.cells.size = size) (hsz : 0 < size)
    (v : Value) (n : Nat) (xs news : List Value) (hs : a.eval s = v) (g : Nat) (hx : a.eval x = .slice (some ⟨g, 0, none⟩) 1 1) (hg : g = W.heap.size) (hl : news.length = size) (h1 : ∀ u ∈ news, u.oneCell' = true)
    (HO : W.ownsRow B e size v n xs) (hB : B ≤ W.heap.size) (hn : n + 1 ≤ 1000000000) (hby : bytes ≤ 1000)
    (h : ∀ v1 w1, w1.ownsRow B e size v1 (n + 1) (xs ++ news) → (Below B W w1 ∧ ButV v W w1 ∧ Away v v1 W) → wpList P ops Q rest (a.put o.dst v1) w1) : wpList P ops Q (o :: rest) a (W.alloc (.cells news.toArray e)) := by
  subst hg
  obtain ⟨i0, hi, hzz⟩ := Option.map_eq_some_iff.1 hinfo
  simp only [Prod.mk.injEq] at hzz
  obtain ⟨hz0, hz1, hz2⟩ := hzz
  obtain ⟨v1, w1, hrun, hown, hg, -, hblk⟩ := run_append_own_at (P := P) (W.alloc (.cells news.toArray e)) B t o.type e i0 z size bytes ht hi hz0 hz1 hz2 hzs hsz v n xs (HO.alloc _) ⟨W.heap.size, 0, none⟩ 1 1 news (by omega)
    (fun j u hj => by rw [addr_at]; simp only [World.cell?_alloc_new]; simpa using hj) h1 (by simp only [maxLen]; omega)
    (by calc (n + 1) * bytes ≤ 1000000000 * 1000 := Nat.mul_le_mul hn hby
      _ ≤ 140737488355328 := by decide) (by simp; omega)
  have hb := ((Below.refl B W).alloc hB _).grown hg (by simp; omega) (fun k hk => own_base HO k hk)
  refine wpList_plain hgd fun K hK => ?_
  unfold Oper.wp execOp
  simp only [ho, resolve, invoke, builtin, Sem.run_bind, Sem.run_pure, Result.andThen_ok, List.map_toArray, List.map_cons, List.map_nil, hs, hx, hrun]
  refine hK _ _ (h v1 w1 hown ⟨hb, ⟨⟨hb.os, hb.tape, hb.output, hb.size, fun k hk => absurd hk (Nat.not_lt_zero _)⟩, fun b hb1 hv => ?_⟩, fun b hb1 hv he => ?_⟩)
  · rw [hg.block b (by simp; omega) (fun e => hv e.symm)]
    exact (Below.refl W.heap.size W).alloc (Nat.le_refl _) (.cells news.toArray e) |>.block b hb1
  · rcases hblk with h | h
    · rw [h] at he
      exact hv he
    · rw [h] at he
      simp at he
      omega
end
theorem lies_but {α : Type} {f : α → List Value} {w w' : World} {g : Nat} {l : List α} {v : Value} (h : Lies f w g l) (hb : ButV v w w') (hv : v.ownBlock ≠ some g) : Lies f w' g l :=
  ⟨fun i x hx => by unfold World.cell?; rw [hb.2 g h.lt hv]; exact h.c i x hx, Nat.lt_of_lt_of_le h.lt hb.1.size⟩
theorem infoN (x : Ct) : (Try.prog.info? 97).map (·.size) = some (nc x).toArray.size := by kernel_rfl
theorem infoCountS : (Try.prog.info? 97).map (fun i => (i.zero, i.size, i.bytes)) = some (some (.agg #[.int .u8 0, .int .i16 0, .int .i64 0]), 3, 16) := by kernel_rfl
section
variable {ops : Array Oper} {rest : List Oper} {o : Oper} {a : Act} {Q : Exit → Act → World → Prop} {W : World}
theorem wp_app_count (B : Nat) (hgd : o.guard = none) (s x : Operand) (ho : o.op = .call { callee := .builtin .append, args := #[s, x], argTypes := #[93, 93] })
    (v : Value) (l : List Ct) (y : Ct) (hs : a.eval s = v) (g : Nat) (hx : a.eval x = .slice (some ⟨g, 0, none⟩) 1 1) (hg : g = W.heap.size)
    (HO : OwnS nc W B 97 3 v l) (hB : B ≤ W.heap.size) (hn : l.length ≤ 100000000)
    (h : ∀ v1 w1, OwnS nc w1 B 97 3 v1 (l ++ [y]) → (Below B W w1 ∧ ButV v W w1 ∧ Away v v1 W) → wpList Try.prog ops Q rest (a.put o.dst v1) w1) : wpList Try.prog ops Q (o :: rest) a (W.alloc (.cells #[.int .u8 y.b.k, .int .i16 y.b.y, .int .i64 y.n] 97)) :=
  wp_app3 (P := Try.prog) B hgd s x 93 97 ho (.agg #[.int .u8 0, .int .i16 0, .int .i64 0]) 3 16 Try.underlying93 infoCountS rfl (by decide) v l.length (fl nc l) (nc y) hs g hx hg rfl (nc_one y) HO.1 hB (by omega) (by decide)
    (fun v1 w1 h1 h2 => h v1 w1 (OwnS.grown (by rw [List.length_append, fl_append, fl_one]; exact h1)) h2)
end
attribute [local go_sem high] eqB
theorem l01Counts_any (g c0 : Nat) (l : List Bt) (w : World) (K : Lies bc w g l) (hn : l.length ≤ 144) :
    Calls Try.prog 65 #[.slice (some ⟨g, 0, none⟩) l.length c0] w fun e w' => ∃ v, e = .returned v ∧ OwnS nc w' w.heap.size 97 3 v (runs l) ∧ Below w.heap.size w w' := by
  have hu := Try.underlying42
  have HK := Lib.hid K
  clear K
  go_enter Try.func65, Try.ntmps65
  go_wp2
  go_loopw [3, 4] (fun v i wr => ∃ k : Nat, k ≤ l.length ∧ i = .int .i64 k ∧ Hid (OwnS nc wr w.heap.size 97 3 v (runs (l.take k))) ∧ Below w.heap.size w wr) (fun _ i _ => l.length - (intOf i).toNat)
  case atStart => exact ⟨0, Nat.zero_le _, rfl, OwnS.lit (Nat.le_refl _), by go_grown⟩
  case round =>
    obtain ⟨k, hk, rfl, HO, hb⟩ := hrel
    by_cases hlt : k < l.length
    · have HX := Lib.hid (HK.out.c.el bc_length hlt)
      have hgw := Lib.hid HK.out.lt
      have HL := Lib.hid (@runs_step l k hlt)
      obtain ⟨hb1, hb2⟩ := runs_bound l k hk
      have hlt2 : (k : Int) < (l.length : Int) := by omega
      have hk3 : (k : Int) ≤ 144 := by omega
      have H := Below.refl wr.heap.size wr
      have hBw := Lib.hid hb.size
      rcases Nat.eq_zero_or_pos k with hz | hpos
      · subst hz
        have e0 : runs (l.take 0) = [] := rfl
        rw [e0] at HL HO
        clear hb1 hb2 e0
        rw [stepC_nil] at HL
        obtain ⟨o, ho⟩ : ∃ o : List Ct, o = [] := ⟨_, rfl⟩
        have hol : o.length ≤ 144 := by rw [ho]; simp
        have HL2 : Hid (runs (l.take (0 + 1)) = o ++ [⟨l[0]!, 1⟩]) := by rw [Hid, HL.out, ho]; rfl
        rw [← ho] at HO
        clear HL
        have HL := HL2
        clear HL2 ho
        generalize l[0]! = b at HX HL
        have x0 : wr.cell? ⟨g, 0, none⟩ = some (.int .u8 b.k) := (hb.cell hgw.out).trans (HX.out 0 _ rfl)
        have x1 : wr.cell? ⟨g, 1, none⟩ = some (.int .i16 b.y) := (hb.cell hgw.out).trans (HX.out 1 _ rfl)
        have hl0 : 0 < l.length := hlt
        go_upto_region 5 with fail
        refine wp_region_qB (by kernel_rfl) (by kernel_rfl) ?_
        (repeat (first | fail | (apply qB_step; intro K hK; go_simp; first | (refine hK _ ?_; clear hK K) | (apply Exists.intro; refine ⟨fun _ => ?_, hK _ ?_⟩; (first | fail); clear hK K))))
        refine qB_nil ?_
        intro w1 hw1
        replace H := bstep H hw1
        clear hw1
        clear x0 x1
        have x0 : w1.cell? ⟨g, 0, none⟩ = some (.int .u8 b.k) := ((bstep hb H).cell hgw.out).trans (HX.out 0 _ rfl)
        have x1 : w1.cell? ⟨g, 1, none⟩ = some (.int .i16 b.y) := ((bstep hb H).cell hgw.out).trans (HX.out 1 _ rfl)
        have HO1 := Lib.hid (HO.out.kept H)
        go_upto_region 7 with (at_builtin; refine wp_app_count w.heap.size rfl _ _ rfl _ (o) ⟨b, 0⟩ rfl _ rfl ?hg ?HO ?hB ?hn ?_; (case hg => simp); (case HO => exact HO1.out); (case hB => have := H.size; have := hBw.out; omega); (case hn => omega); intro v2 w2 HO2 hb2)
        have hb3 := (bstep hb H).trans hb2.1
        clear hb2 x0 x1 HO1
        obtain ⟨g2, cap, rfl, K2, hB2, hg2, -⟩ := HO2.lies
        have hy := K2.c.el nc_length (i := (o).length) (by simp)
        rw [getB (by simp), List.getElem_append_right (Nat.le_refl _), Nat.zero_add] at hy
        simp only [Nat.sub_self, List.getElem_cons_zero] at hy
        have y2 : w2.cell? ⟨g2, (o).length * 3 + 2, none⟩ = some (.int .i64 (0)) := hy 2 _ rfl
        have f2 := HO2.1.frozenAt ((o).length * 3 + 2)
        have HS := (HO2.1.stored ((o).length * 3 + 2) (.int .i64 (1))).1
        have HSn : OwnS nc (w2.setCell ⟨g2, (o).length * 3 + 2, none⟩ (.int .i64 (1))) w.heap.size 97 3 (.slice (some ⟨g2, 0, none⟩) ((o) ++ [(⟨b, 0⟩ : Ct)]).length cap) ((o) ++ [⟨b, 1⟩]) := by
          refine ⟨?_, g2, cap, by simp⟩
          rw [fl_number] at HS
          simp only [List.length_append, List.length_singleton] at HS ⊢
          exact HS
        replace HS := Lib.hid HSn
        have hol : ((o).length : Int) ≤ 1000 := by omega
        clear hy K2 HO2 HSn
        go_wp2
        go_roundw
        case rel => exact ⟨1, by omega, rfl, by rw [HL.out]; exact HS.out, (hb3).setCell hB2 _⟩
        case measure => simp [intOf]; omega
      · obtain ⟨k, rfl⟩ : ∃ k', k = k' + 1 := ⟨k - 1, by omega⟩
        have HY := Lib.hid (HK.out.c.el bc_length (i := k) (by omega))
        obtain ⟨o, x, hox, hxb⟩ : ∃ o x, runs (l.take (k + 1)) = o ++ [x] ∧ x.b = l[k]! := by
          rw [runs_step (by omega)]
          exact stepC_last _ _
        rw [hox] at hb1 hb2 HO HL
        have hxn := hb2 x (by simp)
        have hol : o.length ≤ 144 := by simp at hb1; omega
        clear hb1 hb2 hox
        rw [← hxb] at HY
        clear hxb
        generalize l[k + 1]! = b at HX HL
        rw [Nat.zero_add] at HX HY
        have x0 := cell_regrown ((hb.cell (p := ⟨g, (k + 1) * 2, none⟩) hgw.out).trans (HX.out 0 _ rfl))
        have x1 := cell_regrown ((hb.cell (p := ⟨g, (k + 1) * 2 + 1, none⟩) hgw.out).trans (HX.out 1 _ rfl))
        have y0 := cell_regrown ((hb.cell (p := ⟨g, k * 2, none⟩) hgw.out).trans (HY.out 0 _ rfl))
        have y1 := cell_regrown ((hb.cell (p := ⟨g, k * 2 + 1, none⟩) hgw.out).trans (HY.out 1 _ rfl))
        have hlt3 : (k : Int) < (l.length : Int) := by omega
        have hlt4 : (k : Int) + 1 < (l.length : Int) := by omega
        have hk4 : (0 : Int) ≤ (k : Int) + 1 := by omega
        have hk5 : ((k : Int) + 1).toNat = k + 1 := by omega
        have hk6 : (((k : Int) + 1) == 0) = false := by rw [beq_eq_false_iff_ne]; omega
        have hwk : IntKind.i64.wrap (k : Int) = (k : Int) := by rw [IntKind.wrap_i64]; omega
        go_upto_region 5 with fail
        cases e1 : b.like x.b with
        | true =>
          have e2 : (b.k == x.b.k && b.y == x.b.y) = true := e1
          have hbx := Bt.like_iff.1 e1
          rw [stepC_same o x hbx.symm] at HL
          replace hbx := Lib.hid hbx
          clear e1
          refine wp_region_qB (by kernel_rfl) (by kernel_rfl) ?_
          (repeat (first | fail | (apply qB_step; intro K hK; go_simp; first | (refine hK _ ?_; clear hK K) | (apply Exists.intro; refine ⟨fun _ => ?_, hK _ ?_⟩; (first | fail); clear hK K))))
          refine qB_nil ?_
          intro w1 hw1
          replace H := bstep H hw1
          clear hw1
          clear x0 x1 y0 y1 e2 hwk
          have HO2 := HO.out.kept H
          have hb3 := bstep hb H
          obtain ⟨w2, hw2⟩ : ∃ w2, w2 = w1 := ⟨_, rfl⟩
          subst hw2
          go_upto_region 7 with fail
          rw [hbx.out] at HL
          obtain ⟨g2, cap, rfl, K2, hB2, hg2, -⟩ := HO2.lies
          have hy := K2.c.el nc_length (i := (o).length) (by simp)
          rw [getB (by simp), List.getElem_append_right (Nat.le_refl _), Nat.zero_add] at hy
          simp only [Nat.sub_self, List.getElem_cons_zero] at hy
          have y2 : w2.cell? ⟨g2, (o).length * 3 + 2, none⟩ = some (.int .i64 (x.n)) := hy 2 _ rfl
          have f2 := HO2.1.frozenAt ((o).length * 3 + 2)
          have HS := (HO2.1.stored ((o).length * 3 + 2) (.int .i64 (x.n + 1))).1
          have HSn : OwnS nc (w2.setCell ⟨g2, (o).length * 3 + 2, none⟩ (.int .i64 (x.n + 1))) w.heap.size 97 3 (.slice (some ⟨g2, 0, none⟩) ((o) ++ [x]).length cap) ((o) ++ [⟨x.b, x.n + 1⟩]) := by
            refine ⟨?_, g2, cap, by simp⟩
            rw [fl_number] at HS
            simp only [List.length_append, List.length_singleton] at HS ⊢
            exact HS
          replace HS := Lib.hid HSn
          have hol : ((o).length : Int) ≤ 1000 := by omega
          clear hy K2 HO2 HSn
          go_wp2
          go_roundw
          case rel => exact ⟨k + 1 + 1, by omega, by go_num, by rw [HL.out]; exact HS.out, (hb3).setCell hB2 _⟩
          case measure => simp [intOf]; omega
        | false =>
          have e2 : (b.k == x.b.k && b.y == x.b.y) = false := e1
          have hbx : x.b ≠ b := fun h => by rw [Bt.like_iff.2 h.symm] at e1; cases e1
          rw [stepC_new o x hbx] at HL
          clear e1 hbx
          have hol2 : (o ++ [x]).length ≤ 200 := by simp; omega
          generalize hP : o ++ [x] = P at HL HO hol2
          replace hP := Lib.hid hP
          refine wp_region_qB (by kernel_rfl) (by kernel_rfl) ?_
          (repeat (first | fail | (apply qB_step; intro K hK; go_simp; first | (refine hK _ ?_; clear hK K) | (apply Exists.intro; refine ⟨fun _ => ?_, hK _ ?_⟩; (first | fail); clear hK K))))
          refine qB_nil ?_
          intro w1 hw1
          replace H := bstep H hw1
          clear hw1
          clear x0 x1 y0 y1 e2 hwk
          have x0 : w1.cell? ⟨g, (k + 1) * 2, none⟩ = some (.int .u8 b.k) := ((bstep hb H).cell hgw.out).trans (HX.out 0 _ rfl)
          have x1 : w1.cell? ⟨g, (k + 1) * 2 + 1, none⟩ = some (.int .i16 b.y) := ((bstep hb H).cell hgw.out).trans (HX.out 1 _ rfl)
          have HO1 := Lib.hid (HO.out.kept H)
          go_upto_region 7 with (at_builtin; refine wp_app_count w.heap.size rfl _ _ rfl _ P ⟨b, 0⟩ rfl _ rfl ?hg ?HO ?hB ?hn ?_; (case hg => simp); (case HO => exact HO1.out); (case hB => have := H.size; have := hBw.out; omega); (case hn => omega); intro v2 w2 HO2 hb2)
          have hb3 := (bstep hb H).trans hb2.1
          clear hb2 x0 x1 HO1
          obtain ⟨g2, cap, rfl, K2, hB2, hg2, -⟩ := HO2.lies
          have hy := K2.c.el nc_length (i := P.length) (by simp)
          rw [getB (by simp), List.getElem_append_right (Nat.le_refl _), Nat.zero_add] at hy
          simp only [Nat.sub_self, List.getElem_cons_zero] at hy
          have y2 : w2.cell? ⟨g2, P.length * 3 + 2, none⟩ = some (.int .i64 (0)) := hy 2 _ rfl
          have f2 := HO2.1.frozenAt (P.length * 3 + 2)
          have HS := (HO2.1.stored (P.length * 3 + 2) (.int .i64 (1))).1
          have HSn : OwnS nc (w2.setCell ⟨g2, P.length * 3 + 2, none⟩ (.int .i64 (1))) w.heap.size 97 3 (.slice (some ⟨g2, 0, none⟩) (P ++ [(⟨b, 0⟩ : Ct)]).length cap) (P ++ [⟨b, 1⟩]) := by
            refine ⟨?_, g2, cap, by simp⟩
            rw [fl_number] at HS
            simp only [List.length_append, List.length_singleton] at HS ⊢
            exact HS
          replace HS := Lib.hid HSn
          have hol : (P.length : Int) ≤ 1000 := by omega
          clear hy K2 HO2 HSn
          go_wp2
          go_roundw
          case rel => exact ⟨k + 1 + 1, by omega, by go_num, by rw [HL.out]; exact HS.out, (hb3).setCell hB2 _⟩
          case measure => simp [intOf]; omega
    · obtain rfl : k = l.length := by omega
      rw [List.take_length] at HO
      go_wp2
      go_ret
      exact ⟨_, rfl, HO.out, hb⟩
end Go.Proofs.Ytbngpcghognojaa
namespace Go.Proofs.Ytbngpcghognojaa
open Go.RowKit
set_option linter.unusedVariables false
set_option linter.unusedSimpArgs false
set_option maxRecDepth 100000
set_option maxHeartbeats 1000000
/-- A slice as an element. -/
def slv (v : Value) : List Value := [v]
theorem slv_length (v : Value) : (slv v).length = 1 := rfl
theorem fl_slv : ∀ vs : List Value, fl slv vs = vs
  | [] => rfl
  | v :: vs => by rw [fl_cons, fl_slv vs]; rfl
section
variable {α β : Type} {f : α → List Value} {f' : β → List Value} {w w' : World} {B B' e e' k k' : Nat} {v v' : Value} {l : List α} {l' : List β}
/-- Slices of elements of different types lie in different blocks. -/
theorem apart_types (h : OwnN f w B e k v l) (h' : OwnN f' w B' e' k' v' l') (he : e ≠ e') : Apart v v' := fun b hb hb' => by
  rcases h.2 with ⟨rfl, _⟩ | ⟨g, cap, cur, rfl, _, hh, _⟩
  · cases hb
  · rcases h'.2 with ⟨rfl, _⟩ | ⟨g', cap', cur', rfl, _, hh', _⟩
    · cases hb'
    · have e1 : g = b := by simpa [Value.ownBlock] using hb
      have e2 : g' = b := by simpa [Value.ownBlock] using hb'
      subst e1 e2
      rw [hh] at hh'
      simp at hh'
      exact he hh'.2
theorem OwnN.slice (h : OwnN f w B e k v l) : ∃ A c, v = .slice A l.length c := by
  obtain ⟨A, c, hv, _⟩ := h.rd
  exact ⟨A, c, hv⟩
/-- Slices ls of elements, owned, in an owned slice. -/
def OwnL (f : α → List Value) (k e E : Nat) (w : World) (B : Nat) (v : Value) (ls : List (List α)) : Prop :=
  ∃ vs : List Value, vs.length = ls.length ∧ OwnS slv w B E 1 v vs ∧ ∀ i, i < ls.length → OwnN f w B e k vs[i]! ls[i]!
variable {E : Nat} {ls : List (List α)}
theorem OwnL.kept (h : OwnL f k e E w B v ls) (hb : Below w.heap.size w w') : OwnL f k e E w' B v ls := by
  obtain ⟨vs, h1, h2, h3⟩ := h
  exact ⟨vs, h1, h2.kept hb, fun i hi => (h3 i hi).below hb⟩
theorem OwnL.down {b : Nat} (h : OwnL f k e E w B v ls) (hb : b ≤ B) : OwnL f k e E w b v ls := by
  obtain ⟨vs, h1, h2, h3⟩ := h
  exact ⟨vs, h1, h2.down hb, fun i hi => (h3 i hi).down hb⟩
theorem OwnL.lit (hB : B ≤ w.heap.size) : OwnL f k e E (w.alloc (.cells #[] E)) B (.slice (some ⟨w.heap.size, 0, none⟩) 0 0) [] :=
  ⟨[], rfl, OwnS.lit hB, fun i hi => absurd hi (Nat.not_lt_zero _)⟩
theorem OwnL.lies' (h : OwnL f k e E w B v ls) : ∃ g cap, v = .slice (some ⟨g, 0, none⟩) ls.length cap ∧ g < w.heap.size ∧ B ≤ g := by
  obtain ⟨vs, h1, h2, h3⟩ := h
  obtain ⟨g, cap, hv, K, hB, hg, _⟩ := h2.lies
  exact ⟨g, cap, by rw [← h1]; exact hv, hg, hB⟩
theorem OwnL.one {u : Value} {l : List α} (hB : B ≤ w.heap.size) (HU : OwnN f w B e k u l) : OwnL f k e E (w.alloc (.cells #[u] E)) B (.slice (some ⟨w.heap.size, 0, none⟩) 1 1) [l] :=
  ⟨[u], rfl, ⟨World.ownsRow_lit (base := B) (e := E) (size := 1) w #[u] 1 hB (by simp [maxLen]) (by simp), _, _, rfl⟩, fun i hi => by
    obtain rfl : i = 0 := by simp at hi; omega
    exact HU.below ((Below.refl _ w).alloc (Nat.le_refl _) _)⟩
theorem OwnL.but {v' : Value} {B' : Nat} {ls' : List (List α)} (h : OwnL f k e E w B v ls) (h' : OwnL f k e E w B' v' ls') (hb : ButV v' w w') (ha : Apart v' v) (hE : E ≠ e) : OwnL f k e E w' B v ls := by
  obtain ⟨vs, h1, h2, h3⟩ := h
  obtain ⟨vs', _, h2', _⟩ := h'
  exact ⟨vs, h1, ⟨h2.n.but hb ha, h2.2⟩, fun i hi => (h3 i hi).but hb (apart_types h2'.n (h3 i hi) hE)⟩
/-- A slice laid behind what another one lies in. -/
theorem OwnL.away {B' : Nat} {ls' : List (List α)} (h : OwnL f k e E w B v ls) (h' : OwnL f k e E w' B' v' ls') (hw : w'.heap.size ≤ B) : Apart v' v := by
  obtain ⟨_, _, h2, _⟩ := h
  obtain ⟨_, _, h2', _⟩ := h'
  exact h2'.n.apart h2.n hw
theorem OwnL.apart_away {v1 : Value} (h : OwnL f k e E w B v ls) (ha : Apart v' v) (hw : Away v' v1 w) : Apart v1 v := fun b hb hb' => by
  obtain ⟨g, cap, rfl, hg, _⟩ := h.lies'
  obtain rfl : g = b := by simpa [Value.ownBlock] using hb'
  exact hw g hg (fun q => ha g q rfl) hb
theorem OwnL.lies (h : OwnL f k e E w B v ls) : ∃ g cap, v = .slice (some ⟨g, 0, none⟩) ls.length cap ∧ g < w.heap.size ∧ B ≤ g ∧ ∀ i, i < ls.length → ∃ u, w.cell? ⟨g, i, none⟩ = some u ∧ OwnN f w B e k u ls[i]! := by
  obtain ⟨vs, h1, h2, h3⟩ := h
  obtain ⟨g, cap, hv, K, hB, hg, _⟩ := h2.lies
  refine ⟨g, cap, by rw [← h1]; exact hv, hg, hB, fun i hi => ⟨vs[i]!, ?_, h3 i hi⟩⟩
  have := K.c.el slv_length (i := i) (by omega) 0 vs[i]! rfl
  simpa using this
end
section
variable {α : Type} {f : α → List Value} {P : Program} {ops : Array Oper} {rest : List Oper} {o : Oper} {a : Act} {Q : Exit → Act → World → Prop} {W : World}
/-- append(v, x), x a slice. -/
theorem wp_app_in (B : Nat) (hgd : o.guard = none) (s x : Operand) (t E : TypeId) (ho : o.op = .call { callee := .builtin .append, args := #[s, x], argTypes := #[t, t] })
    (z : Value) (ht : P.underlying t = some (.slice E)) (hinfo : (P.info? E).map (fun i => (i.zero, i.size, i.bytes)) = some (some z, 1, 24)) (hzs : z.cells.size = 1) (k e : Nat) (hE : E ≠ e)
    (v : Value) (ls : List (List α)) (l : List α) (u : Value) (hs : a.eval s = v) (g : Nat) (hx : a.eval x = .slice (some ⟨g, 0, none⟩) 1 1) (hg : g = W.heap.size)
    (HO : OwnL f k e E W B v ls) (HU : OwnN f W B e k u l) (hB : B ≤ W.heap.size) (hn : ls.length ≤ 100000000)
    (h : ∀ v1 w1, OwnL f k e E w1 B v1 (ls ++ [l]) → (Below B W w1 ∧ ButV v W w1 ∧ Away v v1 W) → wpList P ops Q rest (a.put o.dst v1) w1) : wpList P ops Q (o :: rest) a (W.alloc (.cells #[u] E)) := by
  obtain ⟨vs, h1, h2, h3⟩ := HO
  refine wp_app3 (P := P) B hgd s x t E ho z 1 24 ht hinfo hzs (by decide) v vs.length (fl slv vs) [u] hs g hx hg rfl (fun q hq => ?_) h2.1 hB (by omega) (by decide) (fun v1 w1 hown hb => h v1 w1 ⟨vs ++ [u], by simp [h1], OwnS.grown (by rw [List.length_append, fl_append, fl_one]; exact hown), fun i hi => ?_⟩ hb)
  · obtain rfl : q = u := by simpa using hq
    obtain ⟨A, c, rfl⟩ := HU.slice
    rfl
  · rw [List.length_append, List.length_singleton] at hi
    rcases Nat.lt_or_ge i ls.length with q | q
    · have e1 : (vs ++ [u])[i]! = vs[i]! := by rw [getB (by simp; omega), getB (by omega), List.getElem_append_left (by omega)]
      have e2 : (ls ++ [l])[i]! = ls[i]! := by rw [getB (by simp; omega), getB q, List.getElem_append_left q]
      rw [e1, e2]
      exact (h3 i q).but hb.2.1 (apart_types h2.n (h3 i q) hE)
    · have e1 : (vs ++ [u])[i]! = u := by rw [getB (by simp; omega), List.getElem_append_right (by omega)]; simp
      have e2 : (ls ++ [l])[i]! = l := by rw [getB (by simp; omega), List.getElem_append_right q]; simp
      rw [e1, e2]
      exact HU.but hb.2.1 (apart_types h2.n HU hE)
end
end Go.Proofs.Ytbngpcghognojaa
