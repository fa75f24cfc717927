/- Texts of the claim, joined (10 of 19): Know, Pure, Whole. -/
import Derived.Laws.AppendOwnNone
import Derived.Test.YtbngpcghognojaaGreatDoorBC3
import Derived.Test.YtbngpcghognojaaGreatDoorBC9
namespace Go.Proofs.YtbngpcghognojaaGreatDoor
open Go Go.Sort Go.RowKit
set_option linter.unusedVariables false
set_option linter.unusedSimpArgs false
set_option maxRecDepth 100000
set_option maxHeartbeats 1000000
section
variable {Γ : Type} {Cl : Γ → World → Prop} {P : Program} {ops : Array Oper} {md : Region.Mode}
/-- Whatever order is picked; the operations of kind 'false' leave what is known as it is. -/
def AnyK (kd : Nat → Bool) (Cl : Γ → World → Prop) (P : Program) (md : Region.Mode) (ops : Array Oper) (Q : Act → World → Prop) : Nat → Γ → Array Bool → Act → Prop
  | 0, γ, d, a => Region.ready md ops d = [] ∧ ∀ w, Cl γ w → Q a w
  | k + 1, γ, d, a => Region.ready md ops d ≠ [] ∧ ∀ i ∈ Region.ready md ops d, ∀ o, ops[i]? = some o → gOp Cl P ops o γ (fun a' γ' => (kd i = false → γ' = γ) ∧ AnyK kd Cl P md ops Q k γ' (d.setIfInBounds i true) a') a
theorem AnyK.anyG {kd : Nat → Bool} {Q : Act → World → Prop} (k : Nat) : ∀ γ d a, AnyK kd Cl P md ops Q k γ d a → AnyG Cl P md ops Q k γ d a := by
  induction k with
  | zero => exact fun γ d a h => h
  | succ k ih => exact fun γ d a h => ⟨h.1, fun i hi o ho => (h.2 i hi o ho).mono fun a γ' h => ih _ _ _ h.2⟩
def YieldsAt (Cl : Γ → World → Prop) (P : Program) (ops : Array Oper) (o : Oper) (γ : Γ) (v : Value) (a : Act) : Prop :=
  (Region.wanted o (yielded ops a.tmps) = true ∧ ∀ w, Cl γ w → o.quietAt P a (Cl γ) w v) ∨ (Region.wanted o (yielded ops a.tmps) = false ∧ v = undef)
theorem YieldsAt.gOp {o : Oper} {v : Value} {a : Act} {γ : Γ} {K : Act → Γ → Prop} (hy : YieldsAt Cl P ops o γ v a) (h : K (a.put o.dst v) γ) : gOp Cl P ops o γ K a := by
  unfold Go.Proofs.YtbngpcghognojaaGreatDoor.gOp
  rcases hy with ⟨hw, hv⟩ | ⟨hw, rfl⟩
  · rw [if_pos hw]
    intro w hL
    have hq := hv w hL
    unfold Oper.quietAt at hq
    generalize (execOp a.eval o).run P _ = r at hq
    cases r with
    | halt x w => exact hq.elim
    | ok n w =>
      cases n <;> try exact hq.elim
      case value u =>
        obtain ⟨rfl, rfl⟩ := hq
        exact ⟨γ, hL, h⟩
      case skip =>
        obtain ⟨rfl, rfl⟩ := hq
        exact ⟨γ, hL, h⟩
      case enter f args =>
        obtain ⟨rfl, hc⟩ := hq
        exact Calls.mono hc fun e w'' ⟨he, hb⟩ => ⟨v, γ, he, hb, h⟩
  · rw [if_neg (by rw [hw]; simp)]
    exact h
theorem YieldsAt.put {o x : Oper} {v : Value} {a : Act} {γ : Γ} (hy : YieldsAt Cl P ops o γ v a) (hs : ∀ cs b, o.op ≠ .select cs b) (h3 : ∀ d, x.dst = some d → d ∉ o.looksAt ops) (u : Value) : YieldsAt Cl P ops o γ v (a.put x.dst u) := by
  unfold YieldsAt Oper.quietAt at *
  rw [execOp_put o hs a x.dst u h3, wanted_put o a x.dst u h3]
  exact hy
theorem gOp_putAt {o x : Oper} {v : Value} {γ : Γ} {K : Act → Γ → Prop} {a : Act} (hap : o.apart ops x = true) (hso : ∀ cs b, o.op ≠ .select cs b) (hsx : ∀ cs b, x.op ≠ .select cs b)
    (hy : YieldsAt Cl P ops o γ v a) (h : gOp Cl P ops x γ K (a.put o.dst v)) : gOp Cl P ops x γ (fun a' γ' => YieldsAt Cl P ops o γ v a' ∧ K (a'.put o.dst v) γ') a := by
  obtain ⟨h1, h2, h3⟩ := Oper.apart_spec hap
  unfold Go.Proofs.YtbngpcghognojaaGreatDoor.gOp at *
  rw [wanted_put x a o.dst v h1, execOp_put x hsx a o.dst v h1] at h
  split
  · rename_i hw
    rw [if_pos hw] at h
    refine fun w hL => (h w hL).mono fun u γ' hk => ⟨hy.put hso h3 u, ?_⟩
    rw [← Act.put_comm a v u h2]
    exact hk
  · rename_i hw
    rw [if_neg hw] at h
    refine ⟨hy.put hso h3 _, ?_⟩
    rw [← Act.put_comm a v undef h2]
    exact h
theorem AnyK.first {kd : Nat → Bool} {Q : Act → World → Prop} {i : Nat} {o : Oper} {v : Value} (hi : ops[i]? = some o) (hki : kd i = false) (hsel : ∀ (j : Nat) (x : Oper) cs b, ops[j]? = some x → x.op ≠ .select cs b) (k : Nat) :
    ∀ γ d a, (∀ j x, ops[j]? = some x → j ≠ i → d.getD j true = false → (∀ e ∈ x.after, Region.binds md e = true → e.on ≠ i) → o.apart ops x = true ∧ kd j = false) →
      i ∈ Region.ready md ops d → YieldsAt Cl P ops o γ v a → AnyK kd Cl P md ops Q k γ (d.setIfInBounds i true) (a.put o.dst v) → AnyK kd Cl P md ops Q (k + 1) γ d a := by
  induction k with
  | zero =>
    intro γ d a _ hr hy h
    refine ⟨List.ne_nil_of_mem hr, fun j hj x hx => ?_⟩
    by_cases e : j = i
    · subst e
      obtain rfl : x = o := Option.some.inj (hx.symm.trans hi)
      exact hy.gOp ⟨fun _ => rfl, h⟩
    · exact absurd (ready_mono hj e) (by rw [h.1]; simp)
  | succ k ih =>
    intro γ d a hfree hr hy h
    have hun := (mem_ready.1 hr).1
    refine ⟨List.ne_nil_of_mem hr, fun j hj x hx => ?_⟩
    by_cases e : j = i
    · subst e
      obtain rfl : x = o := Option.some.inj (hx.symm.trans hi)
      exact hy.gOp ⟨fun _ => rfl, h⟩
    obtain ⟨hju, x', hx', hall⟩ := mem_ready.1 hj
    obtain rfl : x' = x := Option.some.inj (hx'.symm.trans hx)
    have hno : ∀ t ∈ x'.after, Region.binds md t = true → t.on ≠ i := by
      intro t ht hb heq
      have h0 := hall t ht hb
      rw [heq] at h0
      rcases Nat.lt_or_ge i d.size with h' | h'
      · simp [h'] at h0 hun
        rw [hun] at h0
        cases h0
      · simp [Array.getElem?_eq_none h'] at h0
    obtain ⟨hap, hkj⟩ := hfree j x' hx e hju hno
    refine (gOp_putAt hap (fun cs b => hsel i o cs b hi) (fun cs b => hsel j x' cs b hx) hy (h.2 j (ready_mono hj e) x' hx)).mono ?_
    rintro a' γ' ⟨hy', hk', h'⟩
    obtain rfl : γ' = γ := hk' hkj
    refine ⟨fun _ => rfl, ih γ' _ a' (fun m y hm hmi hd => hfree m y hm hmi ?_) (ready_mono hr (Ne.symm e)) hy' (by rw [Array.setIfInBounds_comm _ _ e]; exact h')⟩
    by_cases em : j = m
    · rw [← em]
      exact hju
    · rwa [getD_set_ne true em] at hd
/-- An operation that yields one value whatever is known: it may as well come now. -/
theorem AnyK.pureFirst {kd : Nat → Bool} {Q : Act → World → Prop} {i : Nat} {o : Oper} {v : Value} (hi : ops[i]? = some o) (hsel : ∀ (j : Nat) (x : Oper) cs b, ops[j]? = some x → x.op ≠ .select cs b) (k : Nat) :
    ∀ γ d a, (∀ j x, ops[j]? = some x → j ≠ i → d.getD j true = false → (∀ e ∈ x.after, Region.binds md e = true → e.on ≠ i) → o.apart ops x = true) →
      i ∈ Region.ready md ops d → YieldsG Cl P ops o v a → AnyK kd Cl P md ops Q k γ (d.setIfInBounds i true) (a.put o.dst v) → AnyK kd Cl P md ops Q (k + 1) γ d a := by
  induction k with
  | zero =>
    intro γ d a _ hr hy h
    refine ⟨List.ne_nil_of_mem hr, fun j hj x hx => ?_⟩
    by_cases e : j = i
    · subst e
      obtain rfl : x = o := Option.some.inj (hx.symm.trans hi)
      exact hy.gOp ⟨fun _ => rfl, h⟩
    · exact absurd (ready_mono hj e) (by rw [h.1]; simp)
  | succ k ih =>
    intro γ d a hfree hr hy h
    have hun := (mem_ready.1 hr).1
    refine ⟨List.ne_nil_of_mem hr, fun j hj x hx => ?_⟩
    by_cases e : j = i
    · subst e
      obtain rfl : x = o := Option.some.inj (hx.symm.trans hi)
      exact hy.gOp ⟨fun _ => rfl, h⟩
    obtain ⟨hju, x', hx', hall⟩ := mem_ready.1 hj
    obtain rfl : x' = x := Option.some.inj (hx'.symm.trans hx)
    have hno : ∀ t ∈ x'.after, Region.binds md t = true → t.on ≠ i := by
      intro t ht hb heq
      have h0 := hall t ht hb
      rw [heq] at h0
      rcases Nat.lt_or_ge i d.size with h' | h'
      · simp [h'] at h0 hun
        rw [hun] at h0
        cases h0
      · simp [Array.getElem?_eq_none h'] at h0
    have hap := hfree j x' hx e hju hno
    refine (gOp_put hap (fun cs b => hsel i o cs b hi) (fun cs b => hsel j x' cs b hx) hy (h.2 j (ready_mono hj e) x' hx)).mono ?_
    rintro a' γ' ⟨hy', hk', h'⟩
    refine ⟨hk', ih γ' _ a' (fun m y hm hmi hd => hfree m y hm hmi ?_) (ready_mono hr (Ne.symm e)) hy' (by rw [Array.setIfInBounds_comm _ _ e]; exact h')⟩
    by_cases em : j = m
    · rw [← em]
      exact hju
    · rwa [getD_set_ne true em] at hd
/-- No operation that changes what is known may come before operation i. -/
def calmB (kd : Nat → Bool) (md : Region.Mode) (ops : Array Oper) (d : Array Bool) (i : Nat) : Bool :=
  (List.range ops.size).all fun j => (j == i || d.getD j true || !kd j) || (match ops[j]? with | some x => x.after.any fun e => Region.binds md e && e.on == i | none => true)
theorem calmB_spec {kd : Nat → Bool} {d : Array Bool} {i : Nat} (h : calmB kd md ops d i = true) : ∀ j x, ops[j]? = some x → j ≠ i → d.getD j true = false → (∀ e ∈ x.after, Region.binds md e = true → e.on ≠ i) → kd j = false := by
  intro j x hx hj hd he
  unfold calmB at h
  rw [List.all_eq_true] at h
  have hlt := (Array.getElem?_eq_some_iff.1 hx).1
  have := h j (by simpa using hlt)
  rw [hd, hx] at this
  simp only [Bool.or_false, Bool.or_eq_true, beq_iff_eq, hj, false_or, Bool.not_eq_true', Array.any_eq_true', Bool.and_eq_true] at this
  rcases this with h | ⟨e, he1, he2, he3⟩
  · exact h
  · exact absurd he3 (he e he1 he2)
end
section
variable {P : Program} {ops : Array Oper} {md : Region.Mode} {Q : Act → World → Prop} {k : Nat} {φ : Fact} {d : Array Bool} {a : Act} {kd : Nat → Bool}
theorem k_start {id : Nat} {Q : Exit → Act → World → Prop} {a : Act} {w : World} (kd : Nat → Bool) (φ : Fact) (hφ : φ.p w.drew) (n : Nat) (hn : ops.size = n) (hm : P.follows .mixedOrders = true)
    (h : AnyK kd Fact.p P .any ops (Q .normal) n φ (Array.replicate n false) a) : (Code.region id ops true).wp P Q a w := by
  subst hn
  exact wp_region_any hm (AnyG.any _ _ _ _ (h.anyG _ _ _) _ hφ)
theorem k_done (hB : (Region.ready md ops d).isEmpty = true) (h : ∀ w, φ.p w → Q a w) : AnyK kd Fact.p P md ops Q 0 φ d a := ⟨by simpa using hB, h⟩
/-- One value wherever this is known; a call only grows the world. -/
def Oper.qK (P : Program) (o : Oper) (a : Act) (φ : Fact) (next : Act → Prop) : Prop :=
  ∃ v, (∀ p : {w : World // φ.p w}, o.quietAt P a (fun w'' => BelowOf p.1 w'') p.1 v) ∧ next (a.put o.dst v)
theorem k_quiet (i : Nat) {o : Oper} (hB : (Region.noSelect ops && ((Region.ready md ops d).contains i && (Region.free md ops d i && (calmB kd md ops d i && !kd i)))) = true) (ho : ops[i]? = some o)
    (h : ∀ K : Act → Prop, (∀ a, AnyK kd Fact.p P md ops Q k φ (d.setIfInBounds i true) a → K a) → if Region.wanted o (yielded ops a.tmps) then Oper.qK P o a φ K else K (a.put o.dst undef)) : AnyK kd Fact.p P md ops Q (k + 1) φ d a := by
  simp only [Bool.and_eq_true, Bool.not_eq_true'] at hB
  obtain ⟨b1, b2, b3, b4, b5⟩ := hB
  have hf := h _ fun _ h => h
  have hr : i ∈ Region.ready md ops d := by simpa using b2
  have hfree : ∀ j x, ops[j]? = some x → j ≠ i → d.getD j true = false → (∀ e ∈ x.after, Region.binds md e = true → e.on ≠ i) → o.apart ops x = true ∧ kd j = false :=
    fun j x hx hj hd he => ⟨Region.free_spec ho b3 j x hx hj hd he, calmB_spec b4 j x hx hj hd he⟩
  split at hf
  · rename_i hw
    obtain ⟨v, h1, h2⟩ := hf
    refine AnyK.first ho b5 (Region.noSelect_spec b1) k φ d a hfree hr (.inl ⟨hw, fun w hL => ?_⟩) h2
    have hq := h1 ⟨w, hL⟩
    unfold Oper.quietAt at hq ⊢
    generalize (execOp a.eval o).run P _ = r at hq ⊢
    cases r with
    | halt x w => exact hq
    | ok n w =>
      cases n <;> try exact hq
      case enter f args => exact ⟨hq.1, Calls.mono hq.2 fun e w'' ⟨he, hb⟩ => ⟨he, φ.s _ _ hL hb⟩⟩
  · rename_i hw
    exact AnyK.first ho b5 (Region.noSelect_spec b1) k φ d a hfree hr (.inr ⟨by simpa using hw, rfl⟩) hf
/-- An operation that looks at no memory. -/
theorem k_pure (i : Nat) {o : Oper} {v : Value} (hB : (Region.noSelect ops && ((Region.ready md ops d).contains i && Region.free md ops d i)) = true) (ho : ops[i]? = some o) (hg : o.guard = Option.none)
    (h : ∀ w, (execOp a.eval o).run P w = .ok (.value v) w) (hn : AnyK kd Fact.p P md ops Q k φ (d.setIfInBounds i true) (a.put o.dst v)) : AnyK kd Fact.p P md ops Q (k + 1) φ d a := by
  simp only [Bool.and_eq_true] at hB
  obtain ⟨b1, b2, b3⟩ := hB
  refine AnyK.pureFirst ho (Region.noSelect_spec b1) k φ d a (Region.free_spec ho b3) (by simpa using b2) (.inl ⟨by unfold Region.wanted; rw [hg], fun γ w hL => ?_⟩) hn
  unfold Oper.quietAt
  rw [h]
  exact ⟨rfl, rfl⟩
theorem gUpon_val {r : Result Next} {u : Value} {w' : World} {K : Value → Fact → Prop} (φ' : Fact) (h : r = .ok (.value u) w') (hφ : φ'.p w') (hk : K u φ') : gUpon Fact.p P K r := by
  rw [h]
  exact ⟨φ', hφ, hk⟩
/-- Alone ready: what is known may change. -/
theorem k_alone (i : Nat) {o : Oper} (hB : (Region.ready md ops d == [i] && kd i) = true) (ho : ops[i]? = some o) (hg : o.guard = Option.none)
    (h : ∀ K : Act → Fact → Prop, (∀ a φ', AnyK kd Fact.p P md ops Q k φ' (d.setIfInBounds i true) a → K a φ') → ∀ w, φ.p w → gUpon Fact.p P (fun v φ' => K (a.put o.dst v) φ') ((execOp a.eval o).run P w)) : AnyK kd Fact.p P md ops Q (k + 1) φ d a := by
  simp only [Bool.and_eq_true, beq_iff_eq] at hB
  refine ⟨by rw [hB.1]; simp, fun j hj x hx => ?_⟩
  rw [hB.1] at hj
  obtain rfl : j = i := by simpa using hj
  obtain rfl : x = o := Option.some.inj (hx.symm.trans ho)
  unfold gOp
  rw [if_pos (by unfold Region.wanted; rw [hg])]
  exact fun w hL => h (fun a' γ' => (kd j = false → γ' = φ) ∧ AnyK kd Fact.p P md ops Q k γ' (d.setIfInBounds j true) a') (fun a γ' h => ⟨fun e => absurd e (by rw [hB.2]; simp), h⟩) w hL
/-- The load of a whole row that is known. -/
theorem qK_row {K : Act → Prop} {o : Oper} (hw : Region.wanted o (yielded ops a.tmps) = true) (ty : TypeId) (x : Operand) (ho : o.op = .load ty x) (g : Nat) (hx : a.eval x = .pointer (some ⟨g, 0, none⟩)) (cs : Array Value) (hr : ∀ w, φ.p w → rowOf w g = some cs)
    (d : TypeDesc) (hu : P.underlying ty = some d) (hd : TypeDesc.isRow d = true) (hi : (P.info? ty).map (·.size) = some cs.size) (h : K (a.put o.dst (.agg cs))) : if Region.wanted o (yielded ops a.tmps) then Oper.qK P o a φ K else K (a.put o.dst undef) := by
  rw [if_pos hw]
  refine ⟨.agg cs, fun ⟨w, hw⟩ => ?_, h⟩
  obtain ⟨t, ht⟩ := rowOf_some (hr w hw)
  have hl := run_loadVar_row (P := P) w g t ty cs (0, 0) d ht hu (by cases d <;> first | rfl | simp [TypeDesc.isRow] at hd) hi
  unfold Oper.quietAt execOp
  simp only [ho, hx, Instr.loadAt, Instr.sureAddr, Sem.run_bind, Sem.run_pure, Result.andThen_ok, hl, Oper.quietUpon]
  exact ⟨trivial, trivial⟩
/-- The load of cells that are known. -/
theorem qK_CAt {K : Act → Prop} {o : Oper} (hw : Region.wanted o (yielded ops a.tmps) = true) (ty : TypeId) (x : Operand) (ho : o.op = .load ty x) (g off : Nat) (hx : a.eval x = .pointer (some ⟨g, off, none⟩)) (cs : List Value) (hc : ∀ w, φ.p w → ∀ i v, cs[i]? = some v → w.cell? ⟨g, off + i, none⟩ = some v)
    (d : TypeDesc) (hu : P.underlying ty = some d) (hd : TypeDesc.isRow d = true) (hi : (P.info? ty).map (·.size) = some cs.length) (h : K (a.put o.dst (.agg cs.toArray))) : if Region.wanted o (yielded ops a.tmps) then Oper.qK P o a φ K else K (a.put o.dst undef) := by
  rw [if_pos hw]
  refine ⟨.agg cs.toArray, fun ⟨w, hw⟩ => ?_, h⟩
  have hl := run_loadVar_cells (P := P) w ⟨g, off, none⟩ ty cs d hu hd hi (fun j v hv => by
    have e : (⟨g, off, none⟩ : Addr).add j = ⟨g, off + j, none⟩ := by unfold Addr.add; split <;> simp_all
    rw [e]
    exact hc w hw j v hv)
  unfold Oper.quietAt execOp
  simp only [ho, hx, Instr.loadAt, Instr.sureAddr, Sem.run_bind, Sem.run_pure, Result.andThen_ok, hl, Oper.quietUpon]
  exact ⟨trivial, trivial⟩
/-- A whole row stored, alone; then this is known. -/
theorem k_store_row (φ' : Fact) {o : Oper} {K : Act → Fact → Prop} {w : World} (hw : φ.p w) (hd : o.dst = none) (ty : TypeId) (x y : Operand) (ho : o.op = .store ty x y) (g : Nat) (hx : a.eval x = .pointer (some ⟨g, 0, none⟩)) (cs : Array Value) (hy : a.eval y = .agg cs) (hi : (P.info? ty).map (·.size) = some cs.size)
    (hr : ∀ w, φ.p w → ∃ cs0 : Array Value, rowOf w g = some cs0 ∧ cs0.size = cs.size) (h1 : ∀ v ∈ cs.toList, v.oneCell' = true) (hφ : ∀ w, φ.p w → φ'.p (w.setRow g cs)) (h : K a φ') : gUpon Fact.p P (fun v φ' => K (a.put o.dst v) φ') ((execOp a.eval o).run P w) := by
  obtain ⟨cs0, hr, hz⟩ := hr w hw
  have hl := run_storeAt_row (P := P) w g ty cs.size cs hi rfl (by rw [hr]; simp [hz]) h1
  unfold execOp
  simp only [ho, hx, hy, Sem.run_bind, Sem.run_pure, Result.andThen_ok, hl]
  rw [hd]
  exact ⟨φ', hφ w hw, h⟩
end
end Go.Proofs.YtbngpcghognojaaGreatDoor
namespace Go.Proofs.YtbngpcghognojaaGreatDoor
open Go Go.RowKit
set_option linter.unusedVariables false
set_option linter.unusedSimpArgs false
set_option maxRecDepth 100000
set_option maxHeartbeats 1000000
attribute [local go_sem] Oper.qB Oper.qK
section
variable {P : Program} {φ : Fact} {a : Act}
theorem gUpon_row {o : Oper} {wx : World} {K : Value → Fact → Prop} (ty : TypeId) (x : Operand) (ho : o.op = .load ty x) (g : Nat) (hx : a.eval x = .pointer (some ⟨g, 0, none⟩)) (cs : Array Value) (hr : rowOf wx g = some cs)
    (d : TypeDesc) (hu : P.underlying ty = some d) (hd : TypeDesc.isRow d = true) (hi : (P.info? ty).map (·.size) = some cs.size) (hφ : φ.p wx) (hk : K (.agg cs) φ) : gUpon Fact.p P K ((execOp a.eval o).run P wx) := by
  refine gUpon_val φ (w' := wx) ?_ hφ hk
  have hl := loadVar_rowOf (P := P) cs hr d hu hd hi
  unfold execOp
  simp only [ho, hx, Instr.loadAt, Instr.sureAddr, Sem.run_bind, Sem.run_pure, Result.andThen_ok, hl]
end
theorem OwnN.cases {α : Type} {f : α → List Value} {k : Nat} (hk : 0 < k) (hf : ∀ x, (f x).length = k) {w : World} {B e : Nat} {v : Value} {l : List α} (h : OwnN f w B e k v l) : (v = .slice none 0 0 ∧ l = []) ∨ ∃ g cap, v = .slice (some ⟨g, 0, none⟩) l.length cap := by
  rcases h.2 with ⟨h1, h2⟩ | ⟨g, cap, cur, hv, _⟩
  · refine .inl ⟨h1, ?_⟩
    exact List.eq_nil_of_length_eq_zero h2
  · exact .inr ⟨g, cap, hv⟩
theorem SortFunc_own (B : Nat) (v : Value) (l : List Bt) (w : World) (h : OwnN bc w B 26 2 v l) (hn : l.length ≤ 1000000) :
    Calls Tryz.prog 128 #[v, .func (.func 89) #[] #[]] w fun e w' => e = .returned (.tuple #[]) ∧ OwnN bc w' B 26 2 v (sortB l) ∧ Below B w w' := by
  rcases h.cases (by decide) bc_length with ⟨rfl, rfl⟩ | ⟨g, cap, rfl⟩
  · refine (AnyF.slices_SortFunc_none { Tryz.lx128 with } none 0 _ w).mono ?_
    rintro e w' ⟨he, rfl⟩
    exact ⟨he, by rw [show sortB [] = [] by simp [sortB]]; exact h, Below.refl _ _⟩
  · exact SortFunc_bot B g cap l w h hn
theorem sorted_any (c : Cr) (w : World) : Calls Tryz.prog 87 #[cv c] w fun e w' => ∃ v, e = .returned v ∧ OwnN bc w' w.heap.size 26 2 v (sortB (allB c)) ∧ Below w.heap.size w w' := by
  have hall := allB_le c
  go_enter Tryz.func87, Tryz.ntmps87
  go_upto_region 1 with fail
  generalize hW : World.alloc _ _ = W
  have H0 : Below w.heap.size w W := by rw [← hW]; go_grown
  have r0 : rowOf W (w.heap.size) = some ((cc c).toArray) := (by (try rw [← hW]); simp only [rowOf_alloc, World.size_alloc, ↓reduceIte]; all_goals ((repeat' split) <;> first | omega | (exfalso; omega) | rfl))
  clear hW
  have l0 : w.heap.size ≤ w.heap.size := Nat.le_refl _
  generalize h0 : w.heap.size = g0 at r0 ⊢
  replace l0 : w.heap.size ≤ g0 := Nat.le_of_eq h0
  clear h0
  have b0 := rowOf_lt r0
  have H := Below.refl W.heap.size W
  go_upto_region 2 with (first | ((with_reducible refine wp_load_rowBg H ?_ _ _ rfl _ rfl _ r0 _ Tryz.underlying28 rfl (infoC c) ?_); rfl) | (go_at_call 69; refine (bottles_any c _).mono ?_; rintro e w2 ⟨v, rfl, hown, hb⟩; have HO : OwnN bc w2 w.heap.size 26 2 v (allB c) := own_down hown (bstep H0 H).size; replace H0 := (bstep H0 H).trans (hb.mono (bstep H0 H).size)))
  clear hown hb H
  go_wp2_with (go_at_call 128; refine (SortFunc_own _ v (allB c) _ HO (by omega)).mono ?_; rintro e w3 ⟨rfl, HO3, hb3⟩)
  go_ret
  exact ⟨v, rfl, HO3, H0.trans hb3⟩
/-- A crate with these bottles, from the first place on. -/
def padC (l : List Bt) (h : l.length ≤ 12) : Cr := ⟨(l ++ List.replicate (12 - l.length) zB).toArray, by simp; omega⟩
def packC1 (l : List Bt) : Cr := if h : l.length ≤ 12 then padC l h else zC
theorem packC1_toList {l : List Bt} (h : l.length ≤ 12) : (packC1 l).toList = l ++ List.replicate (12 - l.length) zB := by
  unfold packC1
  rw [dif_pos h]
  rfl
def sortedR (c : Cr) : Cr × Int := if c.ok = true then (packC1 (sortB (allB c)), 0) else (zC, 1)
theorem sortedR_pad {c : Cr} : (sortB (allB c)).length ≤ 12 := by rw [sortB_length]; exact allB_le c
section
variable {P : Program} {ops : Array Oper} {rest : List Oper} {o : Oper} {a : Act} {w : World} {Q : Exit → Act → World → Prop}
/-- Nothing copied. -/
theorem run_copy_zero (w : World) (dT sT ty elem : TypeId) (dp sp : Option Addr) (dLen dCap sCap k : Nat) (hu : P.underlying dT = some (.slice elem)) (hs : (P.info? elem).map (·.size) = some k) :
    (Builtin.copy_ #[dT, sT] ty #[.slice dp dLen dCap, .slice sp 0 sCap]).run P w = .ok (goInt 0) w := by
  cases hq : P.info? elem with
  | none => simp [hq] at hs
  | some i => cases sp <;> cases dp <;> simp [Builtin.copy_, run_underlying hu, Builtin.lenOf, Builtin.firstCells, sizeOf, typeInfo, hq, storeCells, loadCells, loadCellsFrom]
end
theorem pack_cells {l : List Bt} (h : l.length ≤ 12) : cc (packC1 l) = fl bc l ++ (cc zC).drop (l.length * 2) := by
  have e : cc zC = bcs (List.replicate 12 zB) := rfl
  unfold cc at e ⊢
  rw [packC1_toList h, bcs_append, fl_bc, e, ← bcs_drop, List.drop_replicate]
/-- Bottles copied into an empty crate. -/
theorem copy_bots (w : World) (ty : TypeId) (g B : Nat) (v : Value) (l : List Bt) (hl : l.length ≤ 12) (hO : OwnN bc w B 26 2 v l) (hr : rowOf w g = some (cc zC).toArray) :
    ∃ w', (Builtin.copy_ #[38, 38] ty #[.slice (some ⟨g, 0, none⟩) 12 12, v]).run Tryz.prog w = .ok (goInt l.length) w' ∧ rowOf w' g = some (cc (packC1 l)).toArray ∧ (∀ g', g' ≠ g → rowOf w' g' = rowOf w g') ∧ (∀ b, b ≤ g → Below b w w') := by
  have hs : (Tryz.prog.info? 26).map (·.size) = some 2 := by kernel_rfl
  rcases hO.cases (by decide) bc_length with ⟨rfl, rfl⟩ | ⟨g1, cap, rfl⟩
  · exact ⟨w, run_copy_zero w _ _ ty 26 _ none 12 12 0 2 Tryz.underlying38 hs, hr, fun _ _ => rfl, fun _ _ => Below.refl _ _⟩
  · obtain ⟨t, ht⟩ := rowOf_some hr
    have hln : (fl bc l).length = l.length * 2 := fl_length bc_length l
    have hfit : 0 + (fl bc l).length ≤ (cc zC).toArray.size := by rw [hln, cc_size]; omega
    have hrun := run_copy_el (P := Tryz.prog) w 38 38 ty 26 g 0 12 12 ⟨g1, 0, none⟩ l.length cap (cc zC).toArray t (fl bc l) 2 l.length Tryz.underlying38 hs ht
      (Nat.min_eq_left hl).symm hln (fun j v hv => by rw [addr_at]; have := hO.lies.c j v hv; rwa [Nat.zero_add] at this) hfit (fl_ones bc_one l)
    have e : ((cc zC).toArray.toList.take 0 ++ fl bc l ++ (cc zC).toArray.toList.drop (0 + (fl bc l).length)).toArray = (cc (packC1 l)).toArray := by
      rw [pack_cells hl, hln, Nat.zero_add]
      rfl
    rw [e] at hrun
    refine ⟨_, hrun, ?_, fun g' h => rowOf_setRow_ne h, fun b hb => bsetRow (Below.refl _ _) hb _⟩
    rw [rowOf_setRow, if_pos rfl, hr]
    rfl
section
variable {ops : Array Oper} {rest : List Oper} {o : Oper} {a : Act} {w : World} {Q : Exit → Act → World → Prop}
theorem wp_store_zero0 (hgd : o.guard = none) (hdst : o.dst = none) (x y : Operand) (ho : o.op = .store 28 x y) (g : Nat) (hx : a.eval x = .pointer (some ⟨g, 0, none⟩))
    (hy : a.eval y = .agg #[.int .u8 0, .int .i16 0, .int .u8 0, .int .i16 0, .int .u8 0, .int .i16 0, .int .u8 0, .int .i16 0, .int .u8 0, .int .i16 0, .int .u8 0, .int .i16 0, .int .u8 0, .int .i16 0, .int .u8 0, .int .i16 0, .int .u8 0, .int .i16 0, .int .u8 0, .int .i16 0, .int .u8 0, .int .i16 0, .int .u8 0, .int .i16 0])
    (c : Cr) (hr : rowOf w g = some (cc c).toArray) (h : wpList Tryz.prog ops Q rest a (w.setRow g (cc zC).toArray)) : wpList Tryz.prog ops Q (o :: rest) a w :=
  wp_store_rowOf hgd hdst 28 x y ho g hx (cc zC).toArray hy (cc c).toArray hr (cc_size2 _ _) (infoC zC) zC_one h
end
theorem SortCrate_any (c : Cr) (w : World) : Calls Tryz.prog 30 #[cv c] w fun e w' => e = .returned (.tuple #[cv (sortedR c).1, .int .i64 (sortedR c).2]) ∧ Below w.heap.size w w' := by
  go_enter Tryz.func30, Tryz.ntmps30
  go_upto_region 1 with fail
  generalize hW : World.alloc _ _ = W
  have H0 : Below w.heap.size w W := by rw [← hW]; go_grown
  have r0 : rowOf W (w.heap.size) = some ((cc c).toArray) := (by (try rw [← hW]); simp only [rowOf_alloc, World.size_alloc, ↓reduceIte]; all_goals ((repeat' split) <;> first | omega | (exfalso; omega) | rfl))
  have r1 : rowOf W (w.heap.size + 1) = some ((cc zC).toArray) := (by (try rw [← hW]); simp only [rowOf_alloc, World.size_alloc, ↓reduceIte]; all_goals ((repeat' split) <;> first | omega | (exfalso; omega) | rfl))
  clear hW
  have q0 : w.heap.size < w.heap.size + 1 := by omega
  have l0 : w.heap.size ≤ w.heap.size := Nat.le_refl _
  generalize w.heap.size + 1 = g1 at r1 q0 ⊢
  generalize h0 : w.heap.size = g0 at r0 q0 ⊢
  replace l0 : w.heap.size ≤ g0 := Nat.le_of_eq h0
  clear h0
  have b0 := rowOf_lt r0
  have b1 := rowOf_lt r1
  have H := Below.refl W.heap.size W
  go_upto_region 2 with (with_reducible refine wp_store_zero0 rfl rfl _ _ rfl _ rfl rfl zC (by rw [rowOf_alloc, if_pos rfl, cc_zero]) ?_)
  generalize hW2 : World.setRow _ _ _ = W2
  obtain ⟨HB, r2, b2⟩ := laid_row H hW2
  clear hW2
  have qr02 := Nat.lt_of_lt_of_le (rowOf_lt r0) H.size
  replace r0 := row_kept r0 HB
  have qr12 := Nat.lt_of_lt_of_le (rowOf_lt r1) H.size
  replace r1 := row_kept r1 HB
  replace H0 := bstep H0 HB
  replace H := below_self HB
  generalize W.heap.size = g2 at *
  cases e1 : c.ok with
  | false =>
    have HF := Lib.hid (show sortedR c = (zC, 1) by simp [sortedR, e1])
    go_wp2_with (first | ((with_reducible refine wp_load_rowBg H ?_ _ _ rfl _ rfl _ r0 _ Tryz.underlying28 rfl (infoC c) ?_); rfl) | ((with_reducible refine wp_load_rowBg H ?_ _ _ rfl _ rfl _ r2 _ Tryz.underlying28 rfl (infoC zC) ?_); rfl) | (with_reducible refine wp_store_rowB H rfl rfl _ _ _ rfl _ rfl _ rfl _ r1 (cc_size2 _ _) (infoC _) (cc_one _) ?_) | (go_at_call 18; with_reducible refine (ValidCrate_any c _).mono ?_; rintro e w' ⟨rfl, hb⟩; replace H := bstep H hb; clear hb; have hc := bcell H))
    rw [HF.out]
    refine bodyPost_ret (results_ct rfl rfl (loadVar_rowOf (cc zC).toArray (by rw [rowOf_setRow, if_pos rfl, rowOf_below H (rowOf_lt r1), r1]; rfl) _ Tryz.underlying28 rfl (infoC _))) rfl ⟨rfl, bsetRow (bstep H0 H) (by omega) _⟩
  | true =>
    have HF := Lib.hid (show sortedR c = (packC1 (sortB (allB c)), 0) by simp [sortedR, e1])
    have hp := Lib.hid (@sortedR_pad c)
    have hS := fun W => sorted_any c W
    generalize sortB (allB c) = l at HF hp hS
    go_upto_region 4 with (first | ((with_reducible refine wp_load_rowBg H ?_ _ _ rfl _ rfl _ r0 _ Tryz.underlying28 rfl (infoC c) ?_); rfl) | (go_at_call 18; with_reducible refine (ValidCrate_any c _).mono ?_; rintro e w' ⟨rfl, hb⟩; replace H := bstep H hb; clear hb; have hc := bcell H))
    clear hc e1
    replace r0 := row_kept r0 H
    replace r1 := row_kept r1 H
    replace r2 := row_kept r2 H
    replace H0 := bstep H0 H
    replace H := below_self H
    have q2 := rowOf_lt r2
    have hq0 := (Below.refl w'.heap.size w').drew
    refine k_start (fun j => decide (1 ≤ j)) ⟨fun w => Below w'.heap.size w' w, fun w w' h hb => bstep h hb⟩ hq0 4 rfl (by kernel_rfl) ?_
    haveI : Nonempty {w : World // Fact.p ⟨fun w => Below w'.heap.size w' w, fun w w' h hb => bstep h hb⟩ w} := ⟨⟨_, hq0⟩⟩
    refine k_pure 0 (v := .slice (some ⟨g2, 0, none⟩) 12 12) (by kernel_rfl) rfl rfl (fun W => by simp [go_sem, Tryz.underlying28]) ?_
    refine k_alone 1 (by kernel_rfl) rfl rfl (fun K hK wx hwx => gUpon_row _ _ rfl _ rfl _ (row_kept r0 hwx) _ Tryz.underlying28 rfl (infoC c) hwx (hK _ _ ?_))
    refine k_alone 2 (by kernel_rfl) rfl rfl (fun K hK wx hwx => ?_)
    go_simp
    refine (hS wx).mono (fun e w'' h => ?_)
    obtain ⟨v, he, O, hb⟩ := h
    refine ⟨v, ⟨fun w2 => Below w'.heap.size w' w2 ∧ OwnN bc w2 w'.heap.size 26 2 v l, fun w2 w3 h hb => ⟨bstep h.1 hb, h.2.below hb⟩⟩, he, ⟨bstep hwx hb, O.down hwx.size⟩, hK _ _ ?_⟩
    clear hK K hwx hb O he
    refine k_alone 3 (by kernel_rfl) rfl rfl (fun K hK wx hwx => ?_)
    obtain ⟨w3, hrun, s2, hoth, hB⟩ := copy_bots wx 3 g2 _ v l hp.out hwx.2 (row_kept r2 hwx.1)
    refine gUpon_val ⟨fun w2 => Below w.heap.size w w2 ∧ rowOf w2 g2 = some (cc (packC1 l)).toArray ∧ rowOf w2 g1 = some (cc zC).toArray, fun w2 w3 h hb => ⟨bstep h.1 hb, row_kept h.2.1 hb, row_kept h.2.2 hb⟩⟩ (u := goInt l.length) (w' := w3) ?_ ⟨(bstep H0 hwx.1).trans (hB _ (by omega)), s2, (hoth g1 (by omega)).trans (row_kept r1 hwx.1)⟩ (hK _ _ ?_)
    · simp only [execOp, resolve, invoke, builtin]
      simp [go_sem, hrun, Result.andThen]
    clear hK K hwx hrun s2 hoth hB
    refine k_done (by kernel_rfl) ?_
    rintro w4 ⟨H4, s2, s1⟩
    have H := Below.refl w4.heap.size w4
    clear r0 r1 r2 H0
    replace H0 := H4
    go_wp2_with (first | ((with_reducible refine wp_load_rowBg H ?_ _ _ rfl _ rfl _ s2 _ Tryz.underlying28 rfl (infoC (packC1 l)) ?_); rfl) | (with_reducible refine wp_store_rowB H rfl rfl _ _ _ rfl _ rfl _ rfl _ s1 (cc_size2 _ _) (infoC _) (cc_one _) ?_))
    rw [HF.out]
    refine bodyPost_ret (results_ct rfl rfl (loadVar_rowOf (cc (packC1 l)).toArray (by rw [rowOf_setRow, if_pos rfl, rowOf_below H (rowOf_lt s1), s1]; rfl) _ Tryz.underlying28 rfl (infoC _))) rfl ⟨rfl, bsetRow (bstep H0 H) (by omega) _⟩
theorem l01AllS_any (g o : Nat) (c : Cr) (w : World) (hC : CAt w g o (cc c)) (hg : g < w.heap.size) :
    Calls Tryz.prog 73 #[.pointer (some ⟨g, o, none⟩)] w fun e w' => ∃ v, e = .returned v ∧ OwnS bc w' w.heap.size 26 2 v (allB c) ∧ Below w.heap.size w w' := by
  have HC := Lib.hid (⟨hC, hg⟩ : _ ∧ _)
  have HL := Lib.hid (Vector.length_toList (xs := c))
  clear hC hg
  go_enter Tryz.func73, Tryz.ntmps73
  go_wp2
  go_loopw [3, 4] (fun v i wr => ∃ k : Nat, k ≤ 12 ∧ i = .int .i64 k ∧ Hid (OwnS bc wr w.heap.size 26 2 v (allK c k)) ∧ Below w.heap.size w wr) (fun _ i _ => 12 - (intOf i).toNat)
  case atStart =>
    refine ⟨0, by omega, rfl, ?_, by go_grown⟩
    exact OwnS.lit (Nat.le_refl _)
  case round =>
    obtain ⟨k, hk, rfl, HO, hb⟩ := hrel
    by_cases hlt : k < 12
    · have hkl : k < c.toList.length := by rw [HL.out]; exact hlt
      have HB := Lib.hid hb
      have HX := Lib.hid (⟨HC.out.1.below hb HC.out.2, Nat.lt_of_lt_of_le HC.out.2 hb.size⟩ : CAt wr g o (cc c) ∧ g < wr.heap.size)
      have HK := Lib.hid hkl
      have x0 : wr.cell? ⟨g, o + k * 2, none⟩ = some (.int .u8 (rB c.toList k).k) := HX.out.1.bot0 hkl
      have x1 : wr.cell? ⟨g, o + k * 2 + 1, none⟩ = some (.int .i16 (rB c.toList k).y) := HX.out.1.bot1 hkl
      have HY := Lib.hid (@allK_yes c k hlt)
      have HN := Lib.hid (@allK_no c k hlt)
      have HP := Lib.hid (allK_le c k)
      clear hkl hb
      generalize hbe : rB c.toList k = b at x0 x1 HY HN
      replace hbe := Lib.hid hbe
      cases e1 : b.em with
      | true =>
        have HN' := Lib.hid (HN.out e1)
        clear HN HY
        go_wp2_with (go_at_call 119; refine (l01Free_any b _).mono ?_; rintro e w' ⟨rfl, hb1⟩)
        go_roundw
        case rel => exact ⟨k + 1, by omega, by go_num, by rw [HN'.out]; exact HO.out.kept hb1, bstep HB.out hb1⟩
        case measure => simp [intOf]; omega
      | false =>
        have HY' := Lib.hid (HY.out e1)
        clear HN HY
        go_wp2_with (first | (go_at_call 119; refine (l01Free_any b _).mono ?_; rintro e w' ⟨rfl, hb1⟩; replace x0 : w'.cell? ⟨g, o + k * 2, none⟩ = some (.int .u8 b.k) := (hb1.cell HX.out.2).trans x0; replace x1 : w'.cell? ⟨g, o + k * 2 + 1, none⟩ = some (.int .i16 b.y) := (hb1.cell HX.out.2).trans x1) | (at_builtin; go_loud (refine wp_app_bot w.heap.size rfl _ _ rfl _ (allK c k) b rfl _ rfl ?hg ?HO ?hB ?hn ?_); (case hg => simp); (case HO => exact (HO.out.kept hb1).1); (case hB => have := HB.out.size; have := hb1.size; omega); (case hn => have := HP.out; omega); intro v1 w1 hown hb2))
        go_roundw
        case rel => exact ⟨k + 1, by omega, by go_num, by rw [HY'.out]; exact OwnS.grown hown, (bstep HB.out hb1).trans hb2⟩
        case measure => simp [intOf]; omega
    · obtain rfl : k = 12 := by omega
      rw [allK_full] at HO
      go_wp2
      go_ret
      exact ⟨_, rfl, HO.out, hb⟩
theorem pad_sorted {l : List Bt} (h : l.length ≤ 12) : pad l l.length = (packC1 l).toList := by
  rw [packC1_toList h, pad, List.take_length]
theorem sSortCrate_any (c : Cr) (w : World) : Calls Tryz.prog 31 #[cv c] w fun e w' => e = .returned (.tuple #[cv (sortedR c).1, .int .i64 (sortedR c).2]) ∧ Below w.heap.size w w' := by
  go_enter Tryz.func31, Tryz.ntmps31
  go_upto_region 1 with fail
  generalize hW : World.alloc _ _ = W
  have H0 : Below w.heap.size w W := by rw [← hW]; go_grown
  have r0 : rowOf W (w.heap.size) = some ((cc c).toArray) := (by (try rw [← hW]); simp only [rowOf_alloc, World.size_alloc, ↓reduceIte]; all_goals ((repeat' split) <;> first | omega | (exfalso; omega) | rfl))
  have r1 : rowOf W (w.heap.size + 1) = some ((cc zC).toArray) := (by (try rw [← hW]); simp only [rowOf_alloc, World.size_alloc, ↓reduceIte]; all_goals ((repeat' split) <;> first | omega | (exfalso; omega) | rfl))
  clear hW
  have q0 : w.heap.size < w.heap.size + 1 := by omega
  have l0 : w.heap.size ≤ w.heap.size := Nat.le_refl _
  generalize w.heap.size + 1 = g1 at r1 q0 ⊢
  generalize h0 : w.heap.size = g0 at r0 q0 ⊢
  replace l0 : w.heap.size ≤ g0 := Nat.le_of_eq h0
  clear h0
  have b0 := rowOf_lt r0
  have b1 := rowOf_lt r1
  have H := Below.refl W.heap.size W
  cases e1 : c.ok with
  | false =>
    have HF := Lib.hid (show sortedR c = (zC, 1) by simp [sortedR, e1])
    go_wp2_with (first | (go_at_call 68; with_reducible refine (l01Ok_row H r0).mono ?_; rintro e w' ⟨rfl, hb⟩; replace H := bstep H hb; clear hb; have hc := bcell H) | (with_reducible refine wp_store_zeroB H rfl rfl _ _ rfl _ rfl rfl _ r1 ?_))
    rw [HF.out]
    refine bodyPost_ret (results_ct rfl rfl (loadVar_rowOf (cc zC).toArray (by rw [rowOf_setRow, if_pos rfl, rowOf_below H (rowOf_lt r1), r1]; rfl) _ Tryz.underlying28 rfl (infoC _))) rfl ⟨rfl, bsetRow (bstep H0 H) (by omega) _⟩
  | true =>
    have HF := Lib.hid (show sortedR c = (packC1 (sortB (allB c)), 0) by simp [sortedR, e1])
    have hp := @sortedR_pad c
    have hall := allB_le c
    have hS := fun g cp W K => l01Sorted_any g cp (allB c) W K (by omega)
    generalize sortB (allB c) = l at HF hp hS
    go_upto_region 4 with (first | (go_at_call 68; with_reducible refine (l01Ok_row H r0).mono ?_; rintro e w' ⟨rfl, hb⟩; replace H := bstep H hb; clear hb; have hc := bcell H) | (go_at_call 73; refine (l01AllS_any g0 0 c _ (CAt.of_row (row_kept r0 H)) (Nat.lt_of_lt_of_le b0 H.size)).mono ?_; rintro e w2 ⟨v2, rfl, O2, hb⟩; obtain ⟨g2, p2, rfl, K2, -⟩ := O2.lies; replace H := bstep H hb; clear hb O2) | (go_at_call 88; refine (hS _ _ _ K2).mono ?_; rintro e w3 ⟨v3, rfl, O3, hb⟩; replace O3 := O3.down H.size; replace H := bstep H hb; clear hb))
    clear hc K2 e1 hS
    obtain ⟨g3, p3, rfl, K3, hg3, -, -⟩ := O3.lies
    replace r0 := row_kept r0 H
    replace r1 := row_kept r1 H
    replace H0 := bstep H0 H
    replace H := below_self H
    have b0' := rowOf_lt r0
    go_upto_region 5 with ((with_reducible refine wp_store_rowOf rfl rfl _ _ _ rfl _ rfl (cc zC).toArray rfl (cc zC).toArray ?hr (cc_size2 _ _) (infoC _) (cc_one _) ?_); (case hr => rw [rowOf_alloc, if_pos rfl]; rfl))
    have b3 := K3.lt
    generalize hW2 : World.setRow _ _ _ = W2
    obtain ⟨HB, r2, b2⟩ := laid_row H hW2
    clear hW2
    have qr02 := Nat.lt_of_lt_of_le (rowOf_lt r0) H.size
    replace r0 := row_kept r0 HB
    have qr12 := Nat.lt_of_lt_of_le (rowOf_lt r1) H.size
    replace r1 := row_kept r1 HB
    replace H0 := bstep H0 HB
    replace H := below_self HB
    generalize w3.heap.size = g2 at *
    have HC3 := Lib.hid (⟨K3.c.below HB b3, Nat.lt_trans b3 (rowOf_lt r2)⟩ : Lies bc W2 g3 l)
    clear K3
    have HI := Lib.hid (And.intro r0 (And.intro r1 r2))
    clear r0 r1 r2 H
    go_wp2
    go_loopw [6] (fun i wr => ∃ k : Nat, k ≤ l.length ∧ i = .int .i64 k ∧ Below w.heap.size w wr ∧ Hid (Lies bc wr g3 l) ∧ Hid (rowOf wr g0 = some (cc c).toArray ∧ rowOf wr g1 = some (cc zC).toArray ∧ rowOf wr g2 = some (bcs (pad l k)).toArray)) (fun i _ => l.length - (intOf i).toNat)
    case atStart => exact ⟨0, by omega, rfl, H0, HC3.out, HI.out.1, HI.out.2.1, by rw [pad_zero]; exact HI.out.2.2⟩
    case round =>
      clear HI H0 HC3
      obtain ⟨k, hk, rfl, hb, HL, HR⟩ := hrel
      by_cases hlt : k < l.length
      · have hX := HL.out.c.el bc_length hlt
        have hk12 : k < 12 := by omega
        have hml : k < (pad l k).length := by rw [pad_length hk (by omega)]; exact hk12
        have y0 := row0 HR.out.2.2 hml
        have y1 := row1 HR.out.2.2 hml
        have f0 := rowOf_frozen HR.out.2.2 (k * 2)
        have f1 := rowOf_frozen HR.out.2.2 (k * 2 + 1)
        have HP := Lib.hid (pad_set hlt hk12)
        have HS := Lib.hid (fun b => row_put b HR.out.2.2 hml)
        rw [getB hlt, ← rB_lt hlt, Nat.zero_add] at hX
        clear hml
        generalize rB l k = b at hX HP
        have x0 : wr.cell? ⟨g3, k * 2, none⟩ = some (.int .u8 b.k) := hX 0 _ rfl
        have x1 : wr.cell? ⟨g3, k * 2 + 1, none⟩ = some (.int .i16 b.y) := hX 1 _ rfl
        generalize rB (pad l k) k = b' at y0 y1
        have hlt2 : (k : Int) < (l.length : Int) := by omega
        have hlt3 : (k : Int) < 12 := by omega
        have hg32 : g3 ≠ g2 := by omega
        clear hX
        go_wp2
        go_roundw
        case rel =>
          refine ⟨k + 1, by omega, by go_num, (hb.setCell (by show _ ≤ g2; omega) _).setCell (by show _ ≤ g2; omega) _, ?_, ?_, ?_, ?_⟩
          · have e1 : ∀ (u v : Value) (i j : Nat), Lies bc ((wr.setCell ⟨g2, i, none⟩ u).setCell ⟨g2, j, none⟩ v) g3 l := fun u v i j => ⟨fun q x hq => by rw [cell_far hg32, cell_far hg32]; exact HL.out.c q x hq, by simpa using HL.out.lt⟩
            exact e1 _ _ _ _
          · rw [row_far (by omega), row_far (by omega), HR.out.1]
          · rw [row_far (by omega), row_far (by omega), HR.out.2.1]
          · rw [HS.out b, HP.out]
        case measure => simp [intOf]; omega
      · obtain rfl : k = l.length := by omega
        have r0 := HR.out.1
        have r1 := HR.out.2.1
        have r2 : rowOf wr g2 = some (cc (packC1 l)).toArray := by
          have := HR.out.2.2
          rwa [pad_sorted hp] at this
        have H0 := hb
        have H := Below.refl wr.heap.size wr
        clear HR hb HL
        go_wp2_with (first | ((with_reducible refine wp_load_rowBg H ?_ _ _ rfl _ rfl _ r2 _ Tryz.underlying28 rfl (infoC (packC1 l)) ?_); rfl) | (with_reducible refine wp_store_rowB H rfl rfl _ _ _ rfl _ rfl _ rfl _ r1 (cc_size2 _ _) (infoC _) (cc_one _) ?_))
        rw [HF.out]
        refine bodyPost_ret (results_ct rfl rfl (loadVar_rowOf (cc (packC1 l)).toArray (by rw [rowOf_setRow, if_pos rfl, rowOf_below H (rowOf_lt r1), r1]; rfl) _ Tryz.underlying28 rfl (infoC _))) rfl ⟨rfl, bsetRow (bstep H0 H) (by omega) _⟩
end Go.Proofs.YtbngpcghognojaaGreatDoor
namespace Go.Proofs.YtbngpcghognojaaGreatDoor
open Go Go.RowKit
set_option linter.unusedVariables false
set_option linter.unusedSimpArgs false
set_option maxRecDepth 100000
set_option maxHeartbeats 1000000
attribute [local go_sem] Oper.qB
section
variable {α : Type} {f : α → List Value} {P : Program} {ops : Array Oper} {rest : List Oper} {o : Oper} {a : Act} {Q : Exit → Act → World → Prop} {W : World}
/-- append(v, ys...), the second one nil or not. -/
theorem wp_app_any (B : Nat) (hgd : o.guard = none) (s x : Operand) (t e : TypeId) (ho : o.op = .call { callee := .builtin .append, args := #[s, x], argTypes := #[t, t] })
    (z : Value) (size bytes : Nat) (ht : P.underlying t = some (.slice e)) (hinfo : (P.info? e).map (fun i => (i.zero, i.size, i.bytes)) = some (some z, size, bytes)) (hzs : z.cells.size = size) (hsz : 0 < size)
    (hf : ∀ x, (f x).length = size) (h1 : ∀ x, ∀ u ∈ f x, u.oneCell' = true)
    (v : Value) (l : List α) (hs : a.eval s = v) (u : Value) (B' : Nat) (ys : List α) (hx : a.eval x = u)
    (HO : OwnS f W B e size v l) (HY : OwnN f W B' e size u ys) (hB : B ≤ W.heap.size) (hn : l.length + ys.length ≤ 100000000) (hby : bytes ≤ 1000)
    (h : ∀ v1 w1, OwnS f w1 B e size v1 (l ++ ys) → Below B W w1 ∧ ButV v W w1 → wpList P ops Q rest (a.put o.dst v1) w1) : wpList P ops Q (o :: rest) a W := by
  rcases HY.cases hsz hf with ⟨rfl, rfl⟩ | ⟨g, cap, rfl⟩
  · obtain ⟨i0, hi, hzz⟩ := Option.map_eq_some_iff.1 hinfo
    refine wpList_append_own_none hgd s x t ho B e i0 size ht hi v l.length (fl f l) hs HO.1 hx ?_
    exact h v W (by rw [List.append_nil]; exact HO) ⟨Below.refl _ _, ButV.refl⟩
  · exact wp_app_el B hgd s x t e ho z size bytes ht hinfo hzs hsz hf h1 v l hs g cap ys hx HO HY.lies hB hn hby h
end
/-- All bottles of crates. -/
def wholeL (L : List Cr) : List Bt := L.flatMap allB
theorem wholeL_step {L : List Cr} {k : Nat} (hk : k < L.length) : wholeL (L.take (k + 1)) = wholeL (L.take k) ++ allB L[k]! := by
  unfold wholeL
  rw [List.take_succ_eq_append_getElem hk, getB hk, List.flatMap_append]
  simp
theorem wholeL_le : ∀ L : List Cr, (wholeL L).length ≤ 12 * L.length
  | [] => by simp [wholeL]
  | c :: L => by
    have h := wholeL_le L
    have hc := allB_le c
    have e : wholeL (c :: L) = allB c ++ wholeL L := by simp [wholeL]
    rw [e, List.length_append, List.length_cons]
    omega
def packR (L : List Cr) : List Cr × Int := if stackOk L = true then (packL (sortB (wholeL L)), 0) else ([], 1)
theorem stack_le {L : List Cr} (h : stackOk L = true) : L.length ≤ 12 := by
  simp [stackOk] at h
  exact h.1
theorem packR_le (L : List Cr) : (packR L).1.length ≤ 12 := by
  unfold packR
  split
  · rename_i h
    have := stack_le h
    have := wholeL_le L
    show (packK _ _).length ≤ 12
    rw [packK_length, sortB_length]
    omega
  · simp
end Go.Proofs.YtbngpcghognojaaGreatDoor
