/- Regions that draw their order, walked step by step: operations that read the old memory come first; one that is ready alone may find something new, and what it finds is kept. -/
import Derived.Test.YtbngpcghognojaaDoorTail
namespace Go.Proofs.YtbngpcghognojaaDoor
open Go Go.Sort Go.RowKit
set_option linter.unusedVariables false
set_option linter.unusedSimpArgs false
set_option maxRecDepth 100000
set_option maxHeartbeats 1000000
/-- Something known of a world, that growth keeps. -/
structure Fact where
  p : World → Prop
  s : ∀ w w', p w → BelowOf w w' → p w'
def Fact.none : Fact := ⟨fun _ => True, fun _ _ h _ => h⟩
def Fact.and (φ : Fact) (q : World → Prop) (hq : ∀ w w', q w → BelowOf w w' → q w') : Fact := ⟨fun w => φ.p w ∧ q w, fun w w' h hb => ⟨φ.s w w' h.1 hb, hq w w' h.2 hb⟩⟩
def CF (W : World) (φ : Fact) (w : World) : Prop := Below W.heap.size W w ∧ φ.p w
theorem CF.step {W w w' : World} {φ : Fact} (h : CF W φ w) (hb : BelowOf w w') : CF W φ w' := ⟨bstep h.1 hb, φ.s _ _ h.2 hb⟩
section
variable {P : Program} {ops : Array Oper} {md : Region.Mode} {W : World} {Q : Act → World → Prop} {k : Nat} {γ : Fact} {d : Array Bool} {a : Act}
theorem g_start {id : Nat} {Q : Exit → Act → World → Prop} {a : Act} {w : World} (n : Nat) (hn : ops.size = n) (hm : P.follows .mixedOrders = true)
    (h : AnyG (CF w) P .any ops (Q .normal) n Fact.none (Array.replicate n false) a) : (Code.region id ops true).wp P Q a w := by
  subst hn
  exact wp_region_any hm (AnyG.any _ _ _ _ h _ ⟨(Below.refl _ _).drew, trivial⟩)
theorem g_done (hB : (Region.ready md ops d).isEmpty = true) (h : ∀ w, Below W.heap.size W w → γ.p w → Q a w) : AnyG (CF W) P md ops Q 0 γ d a :=
  ⟨by simpa using hB, fun w hw => h w hw.1 hw.2⟩
theorem qB_yields {o : Oper} {v : Value} (hw : Region.wanted o (yielded ops a.tmps) = true) (h : ∀ p : Regrown, o.quietAt P a (fun w'' => BelowOf (grow (redrawn W p.d) p.os) w'') (grow (redrawn W p.d) p.os) v) : YieldsG (CF W) P ops o v a := by
  refine .inl ⟨hw, fun γ w hL => ?_⟩
  obtain ⟨p, rfl⟩ := regrown_of_below hL.1
  have hq := h p
  unfold Oper.quietAt at hq ⊢
  generalize (execOp a.eval o).run P _ = r at hq ⊢
  cases r with
  | halt x w => exact hq
  | ok n w =>
    cases n <;> try exact hq
    case enter f args => exact ⟨hq.1, Calls.mono hq.2 fun e w'' ⟨he, hb⟩ => ⟨he, hL.step hb⟩⟩
/-- An operation that only reads the old memory, or calls, is ready and free: it may as well come now. -/
theorem g_quiet (i : Nat) {o : Oper} (hB : (Region.noSelect ops && ((Region.ready md ops d).contains i && Region.free md ops d i)) = true) (ho : ops[i]? = some o)
    (h : ∀ K : Act → Prop, (∀ a, AnyG (CF W) P md ops Q k γ (d.setIfInBounds i true) a → K a) → if Region.wanted o (yielded ops a.tmps) then Oper.qB P o a W K else K (a.put o.dst undef)) : AnyG (CF W) P md ops Q (k + 1) γ d a := by
  simp only [Bool.and_eq_true] at hB
  have hf := h _ fun _ h => h
  have hr : i ∈ Region.ready md ops d := by simpa using hB.2.1
  split at hf
  · rename_i hw
    obtain ⟨v, h1, h2⟩ := hf
    exact AnyG.first ho (Region.noSelect_spec hB.1) k γ d a (Region.free_spec ho hB.2.2) hr (qB_yields hw h1) h2
  · rename_i hw
    exact AnyG.first ho (Region.noSelect_spec hB.1) k γ d a (Region.free_spec ho hB.2.2) hr (.inr ⟨by simpa using hw, rfl⟩) hf
/-- The load of a whole old row, for such a step. -/
theorem qB_rowK {W0 : World} {K : Act → Prop} {o : Oper} (H : Below W0.heap.size W0 W) (hw : Region.wanted o (yielded ops a.tmps) = true) (ty : TypeId) (x : Operand) (ho : o.op = .load ty x) (g : Nat) (hx : a.eval x = .pointer (some ⟨g, 0, none⟩)) (cs : Array Value) (hr : rowOf W0 g = some cs)
    (d : TypeDesc) (hu : P.underlying ty = some d) (hd : TypeDesc.isRow d = true) (hi : (P.info? ty).map (·.size) = some cs.size) (h : K (a.put o.dst (.agg cs))) : if Region.wanted o (yielded ops a.tmps) then Oper.qB P o a W K else K (a.put o.dst undef) := by
  rw [if_pos hw]
  refine ⟨.agg cs, fun p => ?_, h⟩
  have hb := bstep H (below_regrown W p.d p.os)
  obtain ⟨t, ht⟩ := rowOf_some ((rowOf_below hb (rowOf_lt hr)).trans hr)
  have hl := run_loadVar_row (P := P) _ g t ty cs (0, 0) d ht hu (by cases d <;> first | rfl | simp [TypeDesc.isRow] at hd) hi
  unfold Oper.quietAt execOp
  simp only [ho, hx, Instr.loadAt, Instr.sureAddr, Sem.run_bind, Sem.run_pure, Result.andThen_ok, hl, Oper.quietUpon]
  exact ⟨trivial, trivial⟩
/-- A step of whatever kind, in every world in which what is known holds. -/
theorem g_alone (i : Nat) {o : Oper} (hB : (Region.ready md ops d == [i]) = true) (ho : ops[i]? = some o) (hg : o.guard = Option.none)
    (h : ∀ K : Act → Fact → Prop, (∀ a γ', AnyG (CF W) P md ops Q k γ' (d.setIfInBounds i true) a → K a γ') → ∀ w, Below W.heap.size W w → γ.p w → gUpon (CF W) P (fun v γ' => K (a.put o.dst v) γ') ((execOp a.eval o).run P w)) : AnyG (CF W) P md ops Q (k + 1) γ d a := by
  refine AnyG.one (by simpa using hB) ho ?_
  unfold gOp
  rw [if_pos (by unfold Region.wanted; rw [hg])]
  exact fun w hL => h _ (fun _ _ h => h) w hL.1 hL.2
/-- The same for a call whose outcome is told by a contract. -/
theorem found_call {f : FuncId} {args : Array Value} {w : World} {k : Value → Fact → Prop} {G : Value → Value} {Φ : Value → World → Prop} (hΦ : ∀ v w w', Φ v w → BelowOf w w' → Φ v w') (H : Below W.heap.size W w) (hγ : γ.p w)
    (hc : Calls P f args w fun e w' => ∃ v, e = .returned (G v) ∧ Φ v w' ∧ Below w.heap.size w w') (h : ∀ v, k (G v) (γ.and (Φ v) (hΦ v))) : gUpon (CF W) P k (.ok (.enter f args) w) :=
  Calls.mono hc fun e w' ⟨v, he, hv, hb⟩ => ⟨_, γ.and (Φ v) (hΦ v), he, ⟨bstep H hb, γ.s _ _ hγ hb, hv⟩, h v⟩
/-- A call whose outcome is a plain value. -/
theorem plain_call {f : FuncId} {args : Array Value} {w : World} {k : Value → Fact → Prop} {v : Value} (H : Below W.heap.size W w) (hγ : γ.p w)
    (hc : Calls P f args w fun e w' => e = .returned v ∧ Below w.heap.size w w') (h : k v γ) : gUpon (CF W) P k (.ok (.enter f args) w) :=
  Calls.mono hc fun e w' ⟨he, hb⟩ => ⟨_, _, he, CF.step ⟨H, hγ⟩ hb, h⟩
end
/-! ### The same where each world is told: stores into old memory, one behind the other -/
section
variable {P : Program} {ops : Array Oper} {md : Region.Mode} {Q : Act → World → Prop} {k j : Nat} {ws : List World} {w w' : World} {d : Array Bool} {a : Act}
theorem d_start {id : Nat} {Q : Exit → Act → World → Prop} {a : Act} {w : World} (n : Nat) (ws : List World) (h0 : ws[0]? = some w.drew) (hn : ops.size = n) (hm : P.follows .mixedOrders = true)
    (h : AnyG (At ws) P .any ops (Q .normal) n 0 (Array.replicate n false) a) : (Code.region id ops true).wp P Q a w := by
  subst hn
  exact wp_region_any hm (AnyG.any _ _ _ _ h _ h0)
theorem d_done (hj : ws[j]? = some w) (hB : (Region.ready md ops d).isEmpty = true) (h : Q a w) : AnyG (At ws) P md ops Q 0 j d a :=
  ⟨by simpa using hB, fun w' hw => by obtain rfl : w' = w := Option.some.inj ((show ws[j]? = some w' from hw).symm.trans hj); exact h⟩
/-- Quiet in all these worlds: it may as well come now. -/
theorem d_quiet (i : Nat) {o : Oper} (hB : (Region.noSelect ops && ((Region.ready md ops d).contains i && Region.free md ops d i)) = true) (ho : ops[i]? = some o)
    (h : ∀ K : Act → Prop, (∀ a, AnyG (At ws) P md ops Q k j (d.setIfInBounds i true) a → K a) → if Region.wanted o (yielded ops a.tmps) then ∃ v, (∀ w ∈ ws, o.quietAt P a (fun w'' => w'' = w) w v) ∧ K (a.put o.dst v) else K (a.put o.dst undef)) : AnyG (At ws) P md ops Q (k + 1) j d a := by
  simp only [Bool.and_eq_true] at hB
  have hf := h _ fun _ h => h
  have hr : i ∈ Region.ready md ops d := by simpa using hB.2.1
  split at hf
  · rename_i hw
    obtain ⟨v, h1, h2⟩ := hf
    refine AnyG.first ho (Region.noSelect_spec hB.1) k j d a (Region.free_spec ho hB.2.2) hr (.inl ⟨hw, fun γ w hL => ?_⟩) h2
    have hq := h1 w (List.mem_of_getElem? hL)
    unfold Oper.quietAt at hq ⊢
    generalize (execOp a.eval o).run P _ = r at hq ⊢
    cases r with
    | halt x w => exact hq
    | ok n w =>
      cases n <;> try exact hq
      case enter f args => exact ⟨hq.1, Calls.mono hq.2 fun e w'' ⟨he, hb⟩ => ⟨he, by rw [hb]; exact hL⟩⟩
  · rename_i hw
    exact AnyG.first ho (Region.noSelect_spec hB.1) k j d a (Region.free_spec ho hB.2.2) hr (.inr ⟨by simpa using hw, rfl⟩) hf
/-- An operation goes from one world to another. -/
def Goes (P : Program) (o : Oper) (a : Act) (w w' : World) (k : Act → Prop) : Prop :=
  match (execOp a.eval o).run P w with
  | .ok (.value u) w'' => w'' = w' ∧ k (a.put o.dst u)
  | .ok .skip w'' => w'' = w' ∧ k (a.put o.dst undef)
  | _ => False
theorem Goes.mono {o : Oper} {k k' : Act → Prop} (h : ∀ a, k a → k' a) (hg : Goes P o a w w' k) : Goes P o a w w' k' := by
  unfold Goes at *
  generalize (execOp a.eval o).run P w = r at hg ⊢
  cases r with
  | halt x w => exact hg
  | ok n w =>
    cases n <;> try exact hg
    all_goals exact ⟨hg.1, h _ hg.2⟩
theorem Goes.gOp {o : Oper} {j' : Nat} {K : Act → Nat → Prop} (hg : o.guard = none) (hj : ws[j]? = some w) (hj' : ws[j']? = some w') (h : Goes P o a w w' fun a => K a j') : gOp (At ws) P ops o j K a := by
  unfold Go.Proofs.YtbngpcghognojaaDoor.gOp
  rw [if_pos (by unfold Region.wanted; rw [hg])]
  intro w0 hL
  obtain rfl : w0 = w := Option.some.inj ((show ws[j]? = some w0 from hL).symm.trans hj)
  unfold Goes at h
  generalize (execOp a.eval o).run P w0 = r at h ⊢
  cases r with
  | halt x w => exact h.elim
  | ok n w =>
    cases n <;> try exact h.elim
    all_goals
      obtain ⟨rfl, h⟩ := h
      exact ⟨j', hj', h⟩
/-- Alone ready; the world may become the next one. -/
theorem d_step (i : Nat) {o : Oper} (j' : Nat) (w w' : World) (hj : ws[j]? = some w) (hj' : ws[j']? = some w') (hB : (Region.ready md ops d == [i]) = true) (ho : ops[i]? = some o) (hg : o.guard = none)
    (h : ∀ K : Act → Prop, (∀ a, AnyG (At ws) P md ops Q k j' (d.setIfInBounds i true) a → K a) → Goes P o a w w' K) : AnyG (At ws) P md ops Q (k + 1) j d a :=
  AnyG.one (by simpa using hB) ho ((h _ fun _ h => h).gOp (K := fun a' γ' => AnyG (At ws) P md ops Q k γ' (d.setIfInBounds i true) a') hg hj hj')
/-- Two are ready that only read, in whatever order. -/
theorem d_pair (i i' : Nat) {o o' : Oper} (w : World) (v v' : Value) (hj : ws[j]? = some w) (hB : (Region.ready md ops d == [i, i'] && (Region.ready md ops (d.setIfInBounds i true) == [i'] && (Region.ready md ops (d.setIfInBounds i' true) == [i] && i != i'))) = true)
    (ho : ops[i]? = some o) (ho' : ops[i']? = some o') (hg : o.guard = none) (hg' : o'.guard = none) (hne : ∀ t, o.dst = some t → o'.dst ≠ some t)
    (h1 : ∀ k, k (a.put o.dst v) → Goes P o a w w k) (h2 : ∀ k, k ((a.put o.dst v).put o'.dst v') → Goes P o' (a.put o.dst v) w w k) (h3 : ∀ k, k (a.put o'.dst v') → Goes P o' a w w k) (h4 : ∀ k, k ((a.put o'.dst v').put o.dst v) → Goes P o (a.put o'.dst v') w w k)
    (h : AnyG (At ws) P md ops Q k j ((d.setIfInBounds i true).setIfInBounds i' true) ((a.put o.dst v).put o'.dst v')) : AnyG (At ws) P md ops Q (k + 1 + 1) j d a := by
  simp only [Bool.and_eq_true, beq_iff_eq, bne_iff_ne] at hB
  obtain ⟨b1, b2, b3, b4⟩ := hB
  refine AnyG.two b1 ho ho' ?_ ?_
  · refine (h1 _ ?_ : Goes P o a w w fun a' => AnyG (At ws) P md ops Q (k + 1) j (d.setIfInBounds i true) a').gOp (K := fun a' γ' => AnyG (At ws) P md ops Q (k + 1) γ' (d.setIfInBounds i true) a') hg hj hj
    exact AnyG.one b2 ho' ((h2 _ h).gOp (K := fun a' γ' => AnyG (At ws) P md ops Q k γ' ((d.setIfInBounds i true).setIfInBounds i' true) a') hg' hj hj)
  · refine (h3 _ ?_ : Goes P o' a w w fun a' => AnyG (At ws) P md ops Q (k + 1) j (d.setIfInBounds i' true) a').gOp (K := fun a' γ' => AnyG (At ws) P md ops Q (k + 1) γ' (d.setIfInBounds i' true) a') hg' hj hj
    refine AnyG.one b3 ho ((h4 _ ?_).gOp (K := fun a' γ' => AnyG (At ws) P md ops Q k γ' ((d.setIfInBounds i' true).setIfInBounds i true) a') hg hj hj)
    rw [Array.setIfInBounds_comm _ _ (Ne.symm b4), ← Act.put_comm a v v' hne]
    exact h
/-- A whole row loaded, the same in all these worlds. -/
theorem d_rowK {K : Act → Prop} {o : Oper} (hw : Region.wanted o (yielded ops a.tmps) = true) (ty : TypeId) (x : Operand) (ho : o.op = .load ty x) (g : Nat) (hx : a.eval x = .pointer (some ⟨g, 0, none⟩)) (cs : Array Value) (hr : ∀ w ∈ ws, rowOf w g = some cs)
    (d : TypeDesc) (hu : P.underlying ty = some d) (hd : TypeDesc.isRow d = true) (hi : (P.info? ty).map (·.size) = some cs.size) (h : K (a.put o.dst (.agg cs))) :
    if Region.wanted o (yielded ops a.tmps) then ∃ v, (∀ w ∈ ws, o.quietAt P a (fun w'' => w'' = w) w v) ∧ K (a.put o.dst v) else K (a.put o.dst undef) := by
  rw [if_pos hw]
  refine ⟨.agg cs, fun w hw => ?_, h⟩
  obtain ⟨t, ht⟩ := rowOf_some (hr w hw)
  have hl := run_loadVar_row (P := P) w g t ty cs (0, 0) d ht hu (by cases d <;> first | rfl | simp [TypeDesc.isRow] at hd) hi
  unfold Oper.quietAt execOp
  simp only [ho, hx, Instr.loadAt, Instr.sureAddr, Sem.run_bind, Sem.run_pure, Result.andThen_ok, hl, Oper.quietUpon]
  exact ⟨trivial, trivial⟩
theorem Goes.to {o : Oper} {W1 W2 : World} {k : Act → Prop} (h : W1 = W2) (hg : Goes P o a w W2 k) : Goes P o a w W1 k := h ▸ hg
/-- A whole row stored. -/
theorem Goes.row {o : Oper} {k : Act → Prop} (hdst : o.dst = none) (ty : TypeId) (x y : Operand) (ho : o.op = .store ty x y) (g : Nat) (hx : a.eval x = .pointer (some ⟨g, 0, none⟩)) (cs : Array Value) (hy : a.eval y = .agg cs) (cs0 : Array Value) (hr : rowOf w g = some cs0) (hz : cs0.size = cs.size)
    (hi : (P.info? ty).map (·.size) = some cs.size) (h1 : ∀ v ∈ cs.toList, v.oneCell' = true) (h : k a) : Goes P o a w (w.setRow g cs) k := by
  have hl := run_storeAt_row (P := P) w g ty cs.size cs hi rfl (by rw [hr]; simp [hz]) h1
  unfold Goes execOp
  simp only [ho, hx, hy, Sem.run_bind, Sem.run_pure, Result.andThen_ok, hl]
  rw [hdst]
  exact ⟨trivial, h⟩
end
section
variable {P : Program} {ops : Array Oper} {W : World}
/-- Behind the first n operations: two blocks, laid in whatever order, then filled, and the rest in order. -/
def laid2T (ops : Array Oper) (n r : Nat) (d : Array Bool) : Bool :=
  Region.ready .any ops d == [n, n + 1] && (Region.ready .any ops (d.setIfInBounds n true) == [n + 1] && (Region.ready .any ops (d.setIfInBounds (n + 1) true) == [n] &&
    (Region.ready .any ops ((d.setIfInBounds n true).setIfInBounds (n + 1) true) == [n + 2] && (Region.ready .any ops (((d.setIfInBounds n true).setIfInBounds (n + 1) true).setIfInBounds (n + 2) true) == [n + 3] &&
    preB .any ops (fun d => (Region.ready .any ops d).isEmpty) r (n + 4) ((((d.setIfInBounds n true).setIfInBounds (n + 1) true).setIfInBounds (n + 2) true).setIfInBounds (n + 3) true)))))
def laid2B (ops : Array Oper) (n r : Nat) : Bool :=
  Region.noSelect ops && preB .any ops (laid2T ops n r) n 0 (Array.replicate ops.size false)
theorem wp_region_laid2 {id : Nat} {Q : Exit → Act → World → Prop} {a : Act} {w : World} {l : List Oper} (n r : Nat) (hB : laid2B l.toArray n r = true) (hm : P.follows .mixedOrders = true) (hlen : l.length = n + 4 + r)
    {o1 o2 s1 s2 : Oper} {t1 t2 : Tmp} {zs : Array Value} {ty ty1 ty2 : TypeId} {x1 y1 x2 y2 : Operand} (ha1 : l[n]? = some o1) (ha2 : l[n + 1]? = some o2) (hs1 : l[n + 2]? = some s1) (hs2 : l[n + 3]? = some s2) (ga1 : o1.guard = none) (ga2 : o2.guard = none) (da1 : o1.dst = some t1) (da2 : o2.dst = some t2) (hne : t1 ≠ t2)
    (hrun1 : ∀ ev (w : World), (execOp ev o1).run P w = .ok (.value (.pointer (some ⟨w.heap.size, 0, none⟩))) (w.alloc (.cells zs ty))) (hrun2 : ∀ ev (w : World), (execOp ev o2).run P w = .ok (.value (.pointer (some ⟨w.heap.size, 0, none⟩))) (w.alloc (.cells zs ty)))
    (gs1 : s1.guard = none) (ds1 : s1.dst = none) (ho1 : s1.op = .store ty1 x1 y1) (gs2 : s2.guard = none) (ds2 : s2.dst = none) (ho2 : s2.op = .store ty2 x2 y2)
    (h : wpQB P l.toArray w (fun a' => ∃ A B : Array Value, (∀ g g', ((a'.put (some t1) (.pointer (some ⟨g, 0, none⟩))).put (some t2) (.pointer (some ⟨g', 0, none⟩))).eval x1 = .pointer (some ⟨g, 0, none⟩) ∧ ((a'.put (some t1) (.pointer (some ⟨g, 0, none⟩))).put (some t2) (.pointer (some ⟨g', 0, none⟩))).eval y1 = .agg A ∧
        ((a'.put (some t1) (.pointer (some ⟨g, 0, none⟩))).put (some t2) (.pointer (some ⟨g', 0, none⟩))).eval x2 = .pointer (some ⟨g', 0, none⟩) ∧ ((a'.put (some t1) (.pointer (some ⟨g, 0, none⟩))).put (some t2) (.pointer (some ⟨g', 0, none⟩))).eval y2 = .agg B) ∧
      (zs.size = A.size ∧ (P.info? ty1).map (·.size) = some A.size ∧ (∀ v ∈ A.toList, v.oneCell' = true)) ∧ (zs.size = B.size ∧ (P.info? ty2).map (·.size) = some B.size ∧ (∀ v ∈ B.toList, v.oneCell' = true)) ∧
      ∀ g g', w.heap.size ≤ g → w.heap.size ≤ g' → g ≠ g' → wpQB P l.toArray w (fun a'' => ∀ w', Below w.heap.size w w' → rowOf w' g = some A → rowOf w' g' = some B → Q .normal a'' w') (l.drop (n + 4)) ((a'.put (some t1) (.pointer (some ⟨g, 0, none⟩))).put (some t2) (.pointer (some ⟨g', 0, none⟩)))) (l.take n) a) : (Code.region id l.toArray true).wp P Q a w := by
  unfold laid2B at hB
  rw [Bool.and_eq_true] at hB
  have ht : (l.take n).length = n := by rw [List.length_take]; omega
  have hd : (l.drop (n + 4)).length = r := by rw [List.length_drop]; omega
  refine wp_region_any hm ?_
  have H := AnyG.pre (Cl := Laid w) (Q := Q .normal) (t := laid2T l.toArray n r) (γ := []) (g := r + 1 + 1 + 1 + 1) hB.1 (fun d a' hT hR => by
    obtain ⟨A, B, hxy, ⟨hz1, hi1, h11⟩, ⟨hz2, hi2, h12⟩, hR⟩ := hR
    simp only [laid2T, Bool.and_eq_true, beq_iff_eq] at hT
    obtain ⟨b1, b2, b3, b4, b5, b6⟩ := hT
    have last : ∀ g g' γ, (∀ x ∈ [(g, A), (g', B)], x ∈ γ) → w.heap.size ≤ g → w.heap.size ≤ g' → g ≠ g' → AnyG (Laid w) P .any l.toArray (Q .normal) r γ ((((d.setIfInBounds n true).setIfInBounds (n + 1) true).setIfInBounds (n + 2) true).setIfInBounds (n + 3) true) ((a'.put (some t1) (.pointer (some ⟨g, 0, none⟩))).put (some t2) (.pointer (some ⟨g', 0, none⟩))) := by
      intro g g' γ hγ hg hg' hgg
      have := AnyG.pre (Cl := Laid w) (Q := Q .normal) (t := fun d => (Region.ready .any l.toArray d).isEmpty) (γ := γ) (g := 0) hB.1 (fun d a ht hR => ⟨by simpa using ht, fun w' hw' => hR w' hw'.b (hw'.r (g, A) (hγ _ (by simp))).2 (hw'.r (g', B) (hγ _ (by simp))).2⟩) (l.drop (n + 4)) (n + 4) _ _ (fun j hj => by simp [List.getElem?_drop]) (by rw [hd]; exact b6) ((hR g g' hg hg' hgg).wpG _ _)
      rw [hd, Nat.zero_add] at this
      exact this
    refine AnyG.two b1 (by simpa using ha1) (by simpa using ha2) (gOp_alloc ga1 da1 hrun1 fun g hg _ => ?_) (gOp_alloc ga2 da2 hrun2 fun g' hg' _ => ?_)
    · refine AnyG.one b2 (by simpa using ha2) (gOp_alloc ga2 da2 hrun2 fun g' hg' hn' => ?_)
      have hgg : g ≠ g' := hn' (g, zs) (by simp)
      obtain ⟨e1, e2, e3, e4⟩ := hxy g g'
      refine AnyG.one b4 (by simpa using hs1) (gOp_store (γ := []) (γ' := [(g', zs)]) gs1 ds1 ho1 e1 e2 hz1 hi1 h11 (by simpa using Ne.symm hgg) ?_)
      refine AnyG.one b5 (by simpa using hs2) (gOp_store (γ := [(g, A)]) (γ' := []) gs2 ds2 ho2 e3 e4 hz2 hi2 h12 (by simpa using hgg) ?_)
      exact last g g' _ (by simp) hg hg' hgg
    · refine AnyG.one b3 (by simpa using ha1) (gOp_alloc ga1 da1 hrun1 fun g hg hn => ?_)
      have hgg : g ≠ g' := Ne.symm (hn (g', zs) (by simp))
      obtain ⟨e1, e2, e3, e4⟩ := hxy g g'
      rw [Array.setIfInBounds_comm _ _ (show n + 1 ≠ n by omega), ← Act.put_comm a' (x := some t1) (y := some t2) _ _ (by intro d hd hd2; cases hd; cases hd2; exact hne rfl)]
      refine AnyG.one b4 (by simpa using hs1) (gOp_store (γ := [(g', zs)]) (γ' := []) gs1 ds1 ho1 e1 e2 hz1 hi1 h11 (by simpa using Ne.symm hgg) ?_)
      refine AnyG.one b5 (by simpa using hs2) (gOp_store (γ := []) (γ' := [(g, A)]) gs2 ds2 ho2 e3 e4 hz2 hi2 h12 (by simpa using hgg) ?_)
      exact last g g' _ (by simp) hg hg' hgg) (l.take n) 0 _ a (fun j hj => by rw [ht] at hj; simp [hj]) (by rw [ht]; exact hB.2) (h.wpG _ _)
  rw [ht, show r + 1 + 1 + 1 + 1 + n = l.toArray.size by simp; omega] at H
  exact AnyG.any _ _ _ _ H _ ⟨(Below.refl _ _).drew, by simp⟩
end
end Go.Proofs.YtbngpcghognojaaDoor
