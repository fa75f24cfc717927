/- Texts of the claim, joined (3 of 19): Drawn, Slc, Crate, List, Conv. -/
import Derived.Test.YtbngpcghognojaaGreatDoorBC1
import Derived.Test.YtbngpcghognojaaGreatDoorBC2
namespace Go.Proofs.YtbngpcghognojaaGreatDoor
open Go Go.Sort Go.RowKit
set_option linter.unusedVariables false
set_option linter.unusedSimpArgs false
set_option maxRecDepth 100000
set_option maxHeartbeats 1000000
/-- Something known of a world, that growth keeps. -/
structure Fact where
  p : World → Prop
  s : ∀ w w', p w → BelowOf w w' → p w'
def Fact.none : Fact := ⟨fun _ => True, fun _ _ h _ => h⟩
def Fact.and (φ : Fact) (q : World → Prop) (hq : ∀ w w', q w → BelowOf w w' → q w') : Fact := ⟨fun w => φ.p w ∧ q w, fun w w' h hb => ⟨φ.s w w' h.1 hb, hq w w' h.2 hb⟩⟩
def CF (W : World) (φ : Fact) (w : World) : Prop := Below W.heap.size W w ∧ φ.p w
theorem CF.step {W w w' : World} {φ : Fact} (h : CF W φ w) (hb : BelowOf w w') : CF W φ w' := ⟨bstep h.1 hb, φ.s _ _ h.2 hb⟩
section
variable {P : Program} {ops : Array Oper} {md : Region.Mode} {W : World} {Q : Act → World → Prop} {k : Nat} {γ : Fact} {d : Array Bool} {a : Act}
theorem g_start {id : Nat} {Q : Exit → Act → World → Prop} {a : Act} {w : World} (n : Nat) (hn : ops.size = n) (hm : P.follows .mixedOrders = true)
    (h : AnyG (CF w) P .any ops (Q .normal) n Fact.none (Array.replicate n false) a) : (Code.region id ops true).wp P Q a w := by
  subst hn
  exact wp_region_any hm (AnyG.any _ _ _ _ h _ ⟨(Below.refl _ _).drew, trivial⟩)
theorem g_done (hB : (Region.ready md ops d).isEmpty = true) (h : ∀ w, Below W.heap.size W w → γ.p w → Q a w) : AnyG (CF W) P md ops Q 0 γ d a :=
  ⟨by simpa using hB, fun w hw => h w hw.1 hw.2⟩
theorem qB_yields {o : Oper} {v : Value} (hw : Region.wanted o (yielded ops a.tmps) = true) (h : ∀ p : Regrown, o.quietAt P a (fun w'' => BelowOf (grow (redrawn W p.d) p.os) w'') (grow (redrawn W p.d) p.os) v) : YieldsG (CF W) P ops o v a := by
  refine .inl ⟨hw, fun γ w hL => ?_⟩
  obtain ⟨p, rfl⟩ := regrown_of_below hL.1
  have hq := h p
  unfold Oper.quietAt at hq ⊢
  generalize (execOp a.eval o).run P _ = r at hq ⊢
  cases r with
  | halt x w => exact hq
  | ok n w =>
    cases n <;> try exact hq
    case enter f args => exact ⟨hq.1, Calls.mono hq.2 fun e w'' ⟨he, hb⟩ => ⟨he, hL.step hb⟩⟩
/-- An operation that only reads the old memory, or calls, is ready and free: it may as well come now. -/
theorem g_quiet (i : Nat) {o : Oper} (hB : (Region.noSelect ops && ((Region.ready md ops d).contains i && Region.free md ops d i)) = true) (ho : ops[i]? = some o)
    (h : ∀ K : Act → Prop, (∀ a, AnyG (CF W) P md ops Q k γ (d.setIfInBounds i true) a → K a) → if Region.wanted o (yielded ops a.tmps) then Oper.qB P o a W K else K (a.put o.dst undef)) : AnyG (CF W) P md ops Q (k + 1) γ d a := by
  simp only [Bool.and_eq_true] at hB
  have hf := h _ fun _ h => h
  have hr : i ∈ Region.ready md ops d := by simpa using hB.2.1
  split at hf
  · rename_i hw
    obtain ⟨v, h1, h2⟩ := hf
    exact AnyG.first ho (Region.noSelect_spec hB.1) k γ d a (Region.free_spec ho hB.2.2) hr (qB_yields hw h1) h2
  · rename_i hw
    exact AnyG.first ho (Region.noSelect_spec hB.1) k γ d a (Region.free_spec ho hB.2.2) hr (.inr ⟨by simpa using hw, rfl⟩) hf
/-- The load of a whole old row, for such a step. -/
theorem qB_rowK {W0 : World} {K : Act → Prop} {o : Oper} (H : Below W0.heap.size W0 W) (hw : Region.wanted o (yielded ops a.tmps) = true) (ty : TypeId) (x : Operand) (ho : o.op = .load ty x) (g : Nat) (hx : a.eval x = .pointer (some ⟨g, 0, none⟩)) (cs : Array Value) (hr : rowOf W0 g = some cs)
    (d : TypeDesc) (hu : P.underlying ty = some d) (hd : TypeDesc.isRow d = true) (hi : (P.info? ty).map (·.size) = some cs.size) (h : K (a.put o.dst (.agg cs))) : if Region.wanted o (yielded ops a.tmps) then Oper.qB P o a W K else K (a.put o.dst undef) := by
  rw [if_pos hw]
  refine ⟨.agg cs, fun p => ?_, h⟩
  have hb := bstep H (below_regrown W p.d p.os)
  obtain ⟨t, ht⟩ := rowOf_some ((rowOf_below hb (rowOf_lt hr)).trans hr)
  have hl := run_loadVar_row (P := P) _ g t ty cs (0, 0) d ht hu (by cases d <;> first | rfl | simp [TypeDesc.isRow] at hd) hi
  unfold Oper.quietAt execOp
  simp only [ho, hx, Instr.loadAt, Instr.sureAddr, Sem.run_bind, Sem.run_pure, Result.andThen_ok, hl, Oper.quietUpon]
  exact ⟨trivial, trivial⟩
/-- A step of whatever kind, in every world in which what is known holds. -/
theorem g_alone (i : Nat) {o : Oper} (hB : (Region.ready md ops d == [i]) = true) (ho : ops[i]? = some o) (hg : o.guard = Option.none)
    (h : ∀ K : Act → Fact → Prop, (∀ a γ', AnyG (CF W) P md ops Q k γ' (d.setIfInBounds i true) a → K a γ') → ∀ w, Below W.heap.size W w → γ.p w → gUpon (CF W) P (fun v γ' => K (a.put o.dst v) γ') ((execOp a.eval o).run P w)) : AnyG (CF W) P md ops Q (k + 1) γ d a := by
  refine AnyG.one (by simpa using hB) ho ?_
  unfold gOp
  rw [if_pos (by unfold Region.wanted; rw [hg])]
  exact fun w hL => h _ (fun _ _ h => h) w hL.1 hL.2
/-- The same for a call whose outcome is told by a contract. -/
theorem found_call {f : FuncId} {args : Array Value} {w : World} {k : Value → Fact → Prop} {G : Value → Value} {Φ : Value → World → Prop} (hΦ : ∀ v w w', Φ v w → BelowOf w w' → Φ v w') (H : Below W.heap.size W w) (hγ : γ.p w)
    (hc : Calls P f args w fun e w' => ∃ v, e = .returned (G v) ∧ Φ v w' ∧ Below w.heap.size w w') (h : ∀ v, k (G v) (γ.and (Φ v) (hΦ v))) : gUpon (CF W) P k (.ok (.enter f args) w) :=
  Calls.mono hc fun e w' ⟨v, he, hv, hb⟩ => ⟨_, γ.and (Φ v) (hΦ v), he, ⟨bstep H hb, γ.s _ _ hγ hb, hv⟩, h v⟩
/-- A call whose outcome is a plain value. -/
theorem plain_call {f : FuncId} {args : Array Value} {w : World} {k : Value → Fact → Prop} {v : Value} (H : Below W.heap.size W w) (hγ : γ.p w)
    (hc : Calls P f args w fun e w' => e = .returned v ∧ Below w.heap.size w w') (h : k v γ) : gUpon (CF W) P k (.ok (.enter f args) w) :=
  Calls.mono hc fun e w' ⟨he, hb⟩ => ⟨_, _, he, CF.step ⟨H, hγ⟩ hb, h⟩
end
/-! ### The same where each world is told: stores into old memory, one behind the other -/
section
variable {P : Program} {ops : Array Oper} {md : Region.Mode} {Q : Act → World → Prop} {k j : Nat} {ws : List World} {w w' : World} {d : Array Bool} {a : Act}
theorem d_start {id : Nat} {Q : Exit → Act → World → Prop} {a : Act} {w : World} (n : Nat) (ws : List World) (h0 : ws[0]? = some w.drew) (hn : ops.size = n) (hm : P.follows .mixedOrders = true)
    (h : AnyG (At ws) P .any ops (Q .normal) n 0 (Array.replicate n false) a) : (Code.region id ops true).wp P Q a w := by
  subst hn
  exact wp_region_any hm (AnyG.any _ _ _ _ h _ h0)
theorem d_done (hj : ws[j]? = some w) (hB : (Region.ready md ops d).isEmpty = true) (h : Q a w) : AnyG (At ws) P md ops Q 0 j d a :=
  ⟨by simpa using hB, fun w' hw => by obtain rfl : w' = w := Option.some.inj ((show ws[j]? = some w' from hw).symm.trans hj); exact h⟩
/-- Quiet in all these worlds: it may as well come now. -/
theorem d_quiet (i : Nat) {o : Oper} (hB : (Region.noSelect ops && ((Region.ready md ops d).contains i && Region.free md ops d i)) = true) (ho : ops[i]? = some o)
    (h : ∀ K : Act → Prop, (∀ a, AnyG (At ws) P md ops Q k j (d.setIfInBounds i true) a → K a) → if Region.wanted o (yielded ops a.tmps) then ∃ v, (∀ w ∈ ws, o.quietAt P a (fun w'' => w'' = w) w v) ∧ K (a.put o.dst v) else K (a.put o.dst undef)) : AnyG (At ws) P md ops Q (k + 1) j d a := by
  simp only [Bool.and_eq_true] at hB
  have hf := h _ fun _ h => h
  have hr : i ∈ Region.ready md ops d := by simpa using hB.2.1
  split at hf
  · rename_i hw
    obtain ⟨v, h1, h2⟩ := hf
    refine AnyG.first ho (Region.noSelect_spec hB.1) k j d a (Region.free_spec ho hB.2.2) hr (.inl ⟨hw, fun γ w hL => ?_⟩) h2
    have hq := h1 w (List.mem_of_getElem? hL)
    unfold Oper.quietAt at hq ⊢
    generalize (execOp a.eval o).run P _ = r at hq ⊢
    cases r with
    | halt x w => exact hq
    | ok n w =>
      cases n <;> try exact hq
      case enter f args => exact ⟨hq.1, Calls.mono hq.2 fun e w'' ⟨he, hb⟩ => ⟨he, by rw [hb]; exact hL⟩⟩
  · rename_i hw
    exact AnyG.first ho (Region.noSelect_spec hB.1) k j d a (Region.free_spec ho hB.2.2) hr (.inr ⟨by simpa using hw, rfl⟩) hf
/-- An operation goes from one world to another. -/
def Goes (P : Program) (o : Oper) (a : Act) (w w' : World) (k : Act → Prop) : Prop :=
  match (execOp a.eval o).run P w with
  | .ok (.value u) w'' => w'' = w' ∧ k (a.put o.dst u)
  | .ok .skip w'' => w'' = w' ∧ k (a.put o.dst undef)
  | _ => False
theorem Goes.mono {o : Oper} {k k' : Act → Prop} (h : ∀ a, k a → k' a) (hg : Goes P o a w w' k) : Goes P o a w w' k' := by
  unfold Goes at *
  generalize (execOp a.eval o).run P w = r at hg ⊢
  cases r with
  | halt x w => exact hg
  | ok n w =>
    cases n <;> try exact hg
    all_goals exact ⟨hg.1, h _ hg.2⟩
theorem Goes.gOp {o : Oper} {j' : Nat} {K : Act → Nat → Prop} (hg : o.guard = none) (hj : ws[j]? = some w) (hj' : ws[j']? = some w') (h : Goes P o a w w' fun a => K a j') : gOp (At ws) P ops o j K a := by
  unfold Go.Proofs.YtbngpcghognojaaGreatDoor.gOp
  rw [if_pos (by unfold Region.wanted; rw [hg])]
  intro w0 hL
  obtain rfl : w0 = w := Option.some.inj ((show ws[j]? = some w0 from hL).symm.trans hj)
  unfold Goes at h
  generalize (execOp a.eval o).run P w0 = r at h ⊢
  cases r with
  | halt x w => exact h.elim
  | ok n w =>
    cases n <;> try exact h.elim
    all_goals
      obtain ⟨rfl, h⟩ := h
      exact ⟨j', hj', h⟩
/-- Alone ready; the world may become the next one. -/
theorem d_step (i : Nat) {o : Oper} (j' : Nat) (w w' : World) (hj : ws[j]? = some w) (hj' : ws[j']? = some w') (hB : (Region.ready md ops d == [i]) = true) (ho : ops[i]? = some o) (hg : o.guard = none)
    (h : ∀ K : Act → Prop, (∀ a, AnyG (At ws) P md ops Q k j' (d.setIfInBounds i true) a → K a) → Goes P o a w w' K) : AnyG (At ws) P md ops Q (k + 1) j d a :=
  AnyG.one (by simpa using hB) ho ((h _ fun _ h => h).gOp (K := fun a' γ' => AnyG (At ws) P md ops Q k γ' (d.setIfInBounds i true) a') hg hj hj')
/-- Two are ready that only read, in whatever order. -/
theorem d_pair (i i' : Nat) {o o' : Oper} (w : World) (v v' : Value) (hj : ws[j]? = some w) (hB : (Region.ready md ops d == [i, i'] && (Region.ready md ops (d.setIfInBounds i true) == [i'] && (Region.ready md ops (d.setIfInBounds i' true) == [i] && i != i'))) = true)
    (ho : ops[i]? = some o) (ho' : ops[i']? = some o') (hg : o.guard = none) (hg' : o'.guard = none) (hne : ∀ t, o.dst = some t → o'.dst ≠ some t)
    (h1 : ∀ k, k (a.put o.dst v) → Goes P o a w w k) (h2 : ∀ k, k ((a.put o.dst v).put o'.dst v') → Goes P o' (a.put o.dst v) w w k) (h3 : ∀ k, k (a.put o'.dst v') → Goes P o' a w w k) (h4 : ∀ k, k ((a.put o'.dst v').put o.dst v) → Goes P o (a.put o'.dst v') w w k)
    (h : AnyG (At ws) P md ops Q k j ((d.setIfInBounds i true).setIfInBounds i' true) ((a.put o.dst v).put o'.dst v')) : AnyG (At ws) P md ops Q (k + 1 + 1) j d a := by
  simp only [Bool.and_eq_true, beq_iff_eq, bne_iff_ne] at hB
  obtain ⟨b1, b2, b3, b4⟩ := hB
  refine AnyG.two b1 ho ho' ?_ ?_
  · refine (h1 _ ?_ : Goes P o a w w fun a' => AnyG (At ws) P md ops Q (k + 1) j (d.setIfInBounds i true) a').gOp (K := fun a' γ' => AnyG (At ws) P md ops Q (k + 1) γ' (d.setIfInBounds i true) a') hg hj hj
    exact AnyG.one b2 ho' ((h2 _ h).gOp (K := fun a' γ' => AnyG (At ws) P md ops Q k γ' ((d.setIfInBounds i true).setIfInBounds i' true) a') hg' hj hj)
  · refine (h3 _ ?_ : Goes P o' a w w fun a' => AnyG (At ws) P md ops Q (k + 1) j (d.setIfInBounds i' true) a').gOp (K := fun a' γ' => AnyG (At ws) P md ops Q (k + 1) γ' (d.setIfInBounds i' true) a') hg' hj hj
    refine AnyG.one b3 ho ((h4 _ ?_).gOp (K := fun a' γ' => AnyG (At ws) P md ops Q k γ' ((d.setIfInBounds i' true).setIfInBounds i true) a') hg hj hj)
    rw [Array.setIfInBounds_comm _ _ (Ne.symm b4), ← Act.put_comm a v v' hne]
    exact h
/-- A whole row loaded, the same in all these worlds. -/
theorem d_rowK {K : Act → Prop} {o : Oper} (hw : Region.wanted o (yielded ops a.tmps) = true) (ty : TypeId) (x : Operand) (ho : o.op = .load ty x) (g : Nat) (hx : a.eval x = .pointer (some ⟨g, 0, none⟩)) (cs : Array Value) (hr : ∀ w ∈ ws, rowOf w g = some cs)
    (d : TypeDesc) (hu : P.underlying ty = some d) (hd : TypeDesc.isRow d = true) (hi : (P.info? ty).map (·.size) = some cs.size) (h : K (a.put o.dst (.agg cs))) :
    if Region.wanted o (yielded ops a.tmps) then ∃ v, (∀ w ∈ ws, o.quietAt P a (fun w'' => w'' = w) w v) ∧ K (a.put o.dst v) else K (a.put o.dst undef) := by
  rw [if_pos hw]
  refine ⟨.agg cs, fun w hw => ?_, h⟩
  obtain ⟨t, ht⟩ := rowOf_some (hr w hw)
  have hl := run_loadVar_row (P := P) w g t ty cs (0, 0) d ht hu (by cases d <;> first | rfl | simp [TypeDesc.isRow] at hd) hi
  unfold Oper.quietAt execOp
  simp only [ho, hx, Instr.loadAt, Instr.sureAddr, Sem.run_bind, Sem.run_pure, Result.andThen_ok, hl, Oper.quietUpon]
  exact ⟨trivial, trivial⟩
theorem Goes.to {o : Oper} {W1 W2 : World} {k : Act → Prop} (h : W1 = W2) (hg : Goes P o a w W2 k) : Goes P o a w W1 k := h ▸ hg
/-- A whole row stored. -/
theorem Goes.row {o : Oper} {k : Act → Prop} (hdst : o.dst = none) (ty : TypeId) (x y : Operand) (ho : o.op = .store ty x y) (g : Nat) (hx : a.eval x = .pointer (some ⟨g, 0, none⟩)) (cs : Array Value) (hy : a.eval y = .agg cs) (cs0 : Array Value) (hr : rowOf w g = some cs0) (hz : cs0.size = cs.size)
    (hi : (P.info? ty).map (·.size) = some cs.size) (h1 : ∀ v ∈ cs.toList, v.oneCell' = true) (h : k a) : Goes P o a w (w.setRow g cs) k := by
  have hl := run_storeAt_row (P := P) w g ty cs.size cs hi rfl (by rw [hr]; simp [hz]) h1
  unfold Goes execOp
  simp only [ho, hx, hy, Sem.run_bind, Sem.run_pure, Result.andThen_ok, hl]
  rw [hdst]
  exact ⟨trivial, h⟩
end
section
variable {P : Program} {ops : Array Oper} {W : World}
/-- Behind the first n operations: two blocks, laid in whatever order, then filled, and the rest in order. -/
def laid2T (ops : Array Oper) (n r : Nat) (d : Array Bool) : Bool :=
  Region.ready .any ops d == [n, n + 1] && (Region.ready .any ops (d.setIfInBounds n true) == [n + 1] && (Region.ready .any ops (d.setIfInBounds (n + 1) true) == [n] &&
    (Region.ready .any ops ((d.setIfInBounds n true).setIfInBounds (n + 1) true) == [n + 2] && (Region.ready .any ops (((d.setIfInBounds n true).setIfInBounds (n + 1) true).setIfInBounds (n + 2) true) == [n + 3] &&
    preB .any ops (fun d => (Region.ready .any ops d).isEmpty) r (n + 4) ((((d.setIfInBounds n true).setIfInBounds (n + 1) true).setIfInBounds (n + 2) true).setIfInBounds (n + 3) true)))))
def laid2B (ops : Array Oper) (n r : Nat) : Bool :=
  Region.noSelect ops && preB .any ops (laid2T ops n r) n 0 (Array.replicate ops.size false)
theorem wp_region_laid2 {id : Nat} {Q : Exit → Act → World → Prop} {a : Act} {w : World} {l : List Oper} (n r : Nat) (hB : laid2B l.toArray n r = true) (hm : P.follows .mixedOrders = true) (hlen : l.length = n + 4 + r)
    {o1 o2 s1 s2 : Oper} {t1 t2 : Tmp} {zs : Array Value} {ty ty1 ty2 : TypeId} {x1 y1 x2 y2 : Operand} (ha1 : l[n]? = some o1) (ha2 : l[n + 1]? = some o2) (hs1 : l[n + 2]? = some s1) (hs2 : l[n + 3]? = some s2) (ga1 : o1.guard = none) (ga2 : o2.guard = none) (da1 : o1.dst = some t1) (da2 : o2.dst = some t2) (hne : t1 ≠ t2)
    (hrun1 : ∀ ev (w : World), (execOp ev o1).run P w = .ok (.value (.pointer (some ⟨w.heap.size, 0, none⟩))) (w.alloc (.cells zs ty))) (hrun2 : ∀ ev (w : World), (execOp ev o2).run P w = .ok (.value (.pointer (some ⟨w.heap.size, 0, none⟩))) (w.alloc (.cells zs ty)))
    (gs1 : s1.guard = none) (ds1 : s1.dst = none) (ho1 : s1.op = .store ty1 x1 y1) (gs2 : s2.guard = none) (ds2 : s2.dst = none) (ho2 : s2.op = .store ty2 x2 y2)
    (h : wpQB P l.toArray w (fun a' => ∃ A B : Array Value, (∀ g g', ((a'.put (some t1) (.pointer (some ⟨g, 0, none⟩))).put (some t2) (.pointer (some ⟨g', 0, none⟩))).eval x1 = .pointer (some ⟨g, 0, none⟩) ∧ ((a'.put (some t1) (.pointer (some ⟨g, 0, none⟩))).put (some t2) (.pointer (some ⟨g', 0, none⟩))).eval y1 = .agg A ∧
        ((a'.put (some t1) (.pointer (some ⟨g, 0, none⟩))).put (some t2) (.pointer (some ⟨g', 0, none⟩))).eval x2 = .pointer (some ⟨g', 0, none⟩) ∧ ((a'.put (some t1) (.pointer (some ⟨g, 0, none⟩))).put (some t2) (.pointer (some ⟨g', 0, none⟩))).eval y2 = .agg B) ∧
      (zs.size = A.size ∧ (P.info? ty1).map (·.size) = some A.size ∧ (∀ v ∈ A.toList, v.oneCell' = true)) ∧ (zs.size = B.size ∧ (P.info? ty2).map (·.size) = some B.size ∧ (∀ v ∈ B.toList, v.oneCell' = true)) ∧
      ∀ g g', w.heap.size ≤ g → w.heap.size ≤ g' → g ≠ g' → wpQB P l.toArray w (fun a'' => ∀ w', Below w.heap.size w w' → rowOf w' g = some A → rowOf w' g' = some B → Q .normal a'' w') (l.drop (n + 4)) ((a'.put (some t1) (.pointer (some ⟨g, 0, none⟩))).put (some t2) (.pointer (some ⟨g', 0, none⟩)))) (l.take n) a) : (Code.region id l.toArray true).wp P Q a w := by
  unfold laid2B at hB
  rw [Bool.and_eq_true] at hB
  have ht : (l.take n).length = n := by rw [List.length_take]; omega
  have hd : (l.drop (n + 4)).length = r := by rw [List.length_drop]; omega
  refine wp_region_any hm ?_
  have H := AnyG.pre (Cl := Laid w) (Q := Q .normal) (t := laid2T l.toArray n r) (γ := []) (g := r + 1 + 1 + 1 + 1) hB.1 (fun d a' hT hR => by
    obtain ⟨A, B, hxy, ⟨hz1, hi1, h11⟩, ⟨hz2, hi2, h12⟩, hR⟩ := hR
    simp only [laid2T, Bool.and_eq_true, beq_iff_eq] at hT
    obtain ⟨b1, b2, b3, b4, b5, b6⟩ := hT
    have last : ∀ g g' γ, (∀ x ∈ [(g, A), (g', B)], x ∈ γ) → w.heap.size ≤ g → w.heap.size ≤ g' → g ≠ g' → AnyG (Laid w) P .any l.toArray (Q .normal) r γ ((((d.setIfInBounds n true).setIfInBounds (n + 1) true).setIfInBounds (n + 2) true).setIfInBounds (n + 3) true) ((a'.put (some t1) (.pointer (some ⟨g, 0, none⟩))).put (some t2) (.pointer (some ⟨g', 0, none⟩))) := by
      intro g g' γ hγ hg hg' hgg
      have := AnyG.pre (Cl := Laid w) (Q := Q .normal) (t := fun d => (Region.ready .any l.toArray d).isEmpty) (γ := γ) (g := 0) hB.1 (fun d a ht hR => ⟨by simpa using ht, fun w' hw' => hR w' hw'.b (hw'.r (g, A) (hγ _ (by simp))).2 (hw'.r (g', B) (hγ _ (by simp))).2⟩) (l.drop (n + 4)) (n + 4) _ _ (fun j hj => by simp [List.getElem?_drop]) (by rw [hd]; exact b6) ((hR g g' hg hg' hgg).wpG _ _)
      rw [hd, Nat.zero_add] at this
      exact this
    refine AnyG.two b1 (by simpa using ha1) (by simpa using ha2) (gOp_alloc ga1 da1 hrun1 fun g hg _ => ?_) (gOp_alloc ga2 da2 hrun2 fun g' hg' _ => ?_)
    · refine AnyG.one b2 (by simpa using ha2) (gOp_alloc ga2 da2 hrun2 fun g' hg' hn' => ?_)
      have hgg : g ≠ g' := hn' (g, zs) (by simp)
      obtain ⟨e1, e2, e3, e4⟩ := hxy g g'
      refine AnyG.one b4 (by simpa using hs1) (gOp_store (γ := []) (γ' := [(g', zs)]) gs1 ds1 ho1 e1 e2 hz1 hi1 h11 (by simpa using Ne.symm hgg) ?_)
      refine AnyG.one b5 (by simpa using hs2) (gOp_store (γ := [(g, A)]) (γ' := []) gs2 ds2 ho2 e3 e4 hz2 hi2 h12 (by simpa using hgg) ?_)
      exact last g g' _ (by simp) hg hg' hgg
    · refine AnyG.one b3 (by simpa using ha1) (gOp_alloc ga1 da1 hrun1 fun g hg hn => ?_)
      have hgg : g ≠ g' := Ne.symm (hn (g', zs) (by simp))
      obtain ⟨e1, e2, e3, e4⟩ := hxy g g'
      rw [Array.setIfInBounds_comm _ _ (show n + 1 ≠ n by omega), ← Act.put_comm a' (x := some t1) (y := some t2) _ _ (by intro d hd hd2; cases hd; cases hd2; exact hne rfl)]
      refine AnyG.one b4 (by simpa using hs1) (gOp_store (γ := [(g', zs)]) (γ' := []) gs1 ds1 ho1 e1 e2 hz1 hi1 h11 (by simpa using Ne.symm hgg) ?_)
      refine AnyG.one b5 (by simpa using hs2) (gOp_store (γ := []) (γ' := [(g, A)]) gs2 ds2 ho2 e3 e4 hz2 hi2 h12 (by simpa using hgg) ?_)
      exact last g g' _ (by simp) hg hg' hgg) (l.take n) 0 _ a (fun j hj => by rw [ht] at hj; simp [hj]) (by rw [ht]; exact hB.2) (h.wpG _ _)
  rw [ht, show r + 1 + 1 + 1 + 1 + n = l.toArray.size by simp; omega] at H
  exact AnyG.any _ _ _ _ H _ ⟨(Below.refl _ _).drew, by simp⟩
end
end Go.Proofs.YtbngpcghognojaaGreatDoor
namespace Go.Proofs.YtbngpcghognojaaGreatDoor
open Go.RowKit Go.ChangeShapes Go.WideShapes Go.ChangeAt
set_option linter.unusedVariables false
set_option linter.unusedSimpArgs false
set_option maxRecDepth 100000
set_option maxHeartbeats 1000000
/-- The cells of a list of elements. -/
def fl {α : Type} (f : α → List Value) (l : List α) : List Value := l.flatMap f
section
variable {α : Type} {f : α → List Value} {k : Nat}
theorem fl_nil : fl f [] = [] := rfl
theorem fl_cons (x : α) (l : List α) : fl f (x :: l) = f x ++ fl f l := rfl
theorem fl_append (l m : List α) : fl f (l ++ m) = fl f l ++ fl f m := by simp [fl]
theorem fl_one (x : α) : fl f [x] = f x := by simp [fl]
theorem fl_length (hf : ∀ x, (f x).length = k) : ∀ l : List α, (fl f l).length = l.length * k
  | [] => by simp [fl]
  | x :: l => by rw [fl_cons, List.length_append, hf, fl_length hf l, List.length_cons, Nat.add_mul]; omega
theorem fl_at [Inhabited α] (hf : ∀ x, (f x).length = k) : ∀ (l : List α) (i : Nat), i < l.length → ∀ j v, (f l[i]!)[j]? = some v → (fl f l)[i * k + j]? = some v
  | [], i, h, _, _, _ => by simp at h
  | x :: l, 0, _, j, v, hv => by
    have hv' : (f x)[j]? = some v := by simpa using hv
    have hj := (List.getElem?_eq_some_iff.1 hv').1
    rw [fl_cons, Nat.zero_mul, Nat.zero_add, List.getElem?_append_left hj]
    exact hv'
  | x :: l, i + 1, h, j, v, hv => by
    have := fl_at hf l i (by simpa using h) j v (by simpa using hv)
    rw [fl_cons, List.getElem?_append_right (by rw [hf, Nat.add_mul]; omega), hf, show (i + 1) * k + j - k = i * k + j by rw [Nat.add_mul]; omega]
    exact this
theorem fl_set (hf : ∀ x, (f x).length = k) : ∀ (l : List α) (i : Nat) (x : α), i < l.length → fl f (l.set i x) = (fl f l).take (i * k) ++ f x ++ (fl f l).drop (i * k + k)
  | [], i, _, h => by simp at h
  | y :: l, 0, x, _ => by
    rw [List.set_cons_zero, fl_cons, fl_cons, Nat.zero_mul, List.take_zero, List.nil_append, Nat.zero_add, List.drop_append_of_le_length (by rw [hf]; exact Nat.le_refl _), List.drop_eq_nil_of_le (by rw [hf]; exact Nat.le_refl _), List.nil_append]
  | y :: l, i + 1, x, h => by
    have := fl_set hf l i x (by simpa using h)
    have e : (i + 1) * k = k + i * k := by rw [Nat.add_mul]; omega
    have e2 : (i + 1) * k + k = k + (i * k + k) := by rw [e]; omega
    have d : ∀ j, List.drop (k + j) (f y ++ fl f l) = List.drop j (fl f l) := fun j => by rw [List.drop_append, hf, List.drop_eq_nil_of_le (by rw [hf]; omega), List.nil_append, Nat.add_sub_cancel_left]
    have t : ∀ j, List.take (k + j) (f y ++ fl f l) = f y ++ List.take j (fl f l) := fun j => by rw [List.take_append, hf, List.take_of_length_le (by rw [hf]; omega), Nat.add_sub_cancel_left]
    rw [List.set_cons_succ, fl_cons, fl_cons, this, e2, e, d, t]
    simp only [List.append_assoc]
theorem getB [Inhabited α] {l : List α} {i : Nat} (h : i < l.length) : l[i]! = l[i] := getElem!_pos l i h
/-- Element i of cells that lie somewhere. -/
theorem CAt.el [Inhabited α] (hf : ∀ x, (f x).length = k) {w : World} {g off : Nat} {l : List α} (h : CAt w g off (fl f l)) {i : Nat} (hi : i < l.length) : CAt w g (off + i * k) (f l[i]!) :=
  fun j v hv => by rw [Nat.add_assoc]; exact h _ _ (fl_at hf l i hi j v hv)
end
/-! ### Read as data -/
section
variable {H : Type} {enc : TypeId × Value → H} {P : Program} {w : World} {base : Nat} {spare : Nat → Bool} {held : Bool}
theorem read_slice {α : Type} [Inhabited α] {f : α → List Value} {k : Nat} {t e : TypeId} (ht : P.underlying t = some (.slice e)) (hk : P.cellsOf e = k) (hk0 : 0 < k) (hf : ∀ x, (f x).length = k)
    (hE : ∀ n cs x, DataW.trod enc P w base spare held n e cs = some x → ∃ b : α, cs = f b) {v : Value} {d : DataW H} {ps : List MemPlace} (hv : Value.okWide P w .any 0 t v) (h : DataW.Trod enc P w base spare held t v d ps) :
    ∃ (A : Option Addr) (c : Nat) (l : List α), v = .slice A l.length c ∧ l.length ≤ maxLen ∧ RdA w A (fl f l) := by
  obtain ⟨A, len, cap, rfl⟩ := okWide_slice ht hv
  obtain ⟨n, hn⟩ := h
  rcases Go.Deep.open_slice ht hn with ⟨hcs, _⟩ | ⟨a, len', cap', m, n', D, Pl, hcs, hb, hle, hm, hmm, hx, hel⟩
  · obtain ⟨rfl, rfl, rfl⟩ : A = none ∧ len = 0 ∧ cap = 0 := by simpa [Value.cells] using hcs
    exact ⟨none, 0, [], rfl, by simp, .inl rfl⟩
  · obtain ⟨rfl, rfl, rfl⟩ : A = some a ∧ len = len' ∧ cap = cap' := by simpa [Value.cells] using hcs
    have hlm : len ≤ m := by rw [hmm]; split <;> omega
    have hall : ∀ i, i < len → ∃ b : α, ∀ j v, (f b)[j]? = some v → w.cell? ((a.add (i * k)).add j) = some v := by
      intro i hi
      obtain ⟨cs', hc, hd⟩ := hel i (by omega)
      obtain ⟨b, rfl⟩ := hE _ _ _ hd
      rw [hk] at hc
      have := (World.cells?_some hc).2.2
      refine ⟨b, fun j v hv => ?_⟩
      have hj := (List.getElem?_eq_some_iff.1 hv).1
      rw [hf] at hj
      rw [this j hj, hv]
    obtain ⟨F, hF⟩ := Go.Deep.choose_lt hall
    have hgt : ∀ i, i < len → ((List.range len).map F)[i]! = F i := by
      intro i hi
      rw [getB (by simpa using hi)]
      simp
    refine ⟨some a, cap, (List.range len).map F, by simp, by simp; omega, ?_⟩
    by_cases h0 : len = 0
    · subst h0
      exact .inl rfl
    · right
      have hsp : a.spot = none := by
        have h1 : 0 < (f (F 0)).length := by rw [hf]; exact hk0
        have := hF 0 (by omega) 0 _ (List.getElem?_eq_getElem h1)
        rw [Nat.zero_mul, Go.Deep.add_add] at this
        simp only [Addr.add, World.cell?, Nat.add_zero, ↓reduceIte] at this
        split at this
        · split at this
          · cases this
          · rename_i h2
            cases hs : a.spot with
            | none => rfl
            | some _ => simp [hs] at h2
        · cases this
      obtain ⟨g, off, sp⟩ := a
      replace hsp : sp = none := hsp
      subst hsp
      have hcell : ∀ i, i < len → ∀ j v, (f (F i))[j]? = some v → w.cell? ⟨g, off + (i * k + j), none⟩ = some v := by
        intro i hi j v hv
        have := hF i hi j v hv
        rw [Go.Deep.add_add] at this
        have e : (⟨g, off, none⟩ : Addr).add (i * k + j) = ⟨g, off + (i * k + j), none⟩ := by unfold Addr.add; split <;> simp_all
        rwa [e] at this
      refine ⟨g, off, rfl, ?_, ?_⟩
      · have h1 : 0 < (f (F 0)).length := by rw [hf]; exact hk0
        exact World.block_lt_of_cell? _ _ (hcell 0 (by omega) 0 _ (List.getElem?_eq_getElem h1))
      · intro i v hi
        have hi' := (List.getElem?_eq_some_iff.1 hi).1
        rw [fl_length hf] at hi'
        simp only [List.length_map, List.length_range] at hi'
        have hq : i / k < len := by rw [Nat.div_lt_iff_lt_mul hk0]; exact hi'
        have hr : i % k < (f (F (i / k))).length := by rw [hf]; exact Nat.mod_lt _ hk0
        have e : i / k * k + i % k = i := Nat.div_add_mod' i k
        have h1 := hcell (i / k) hq (i % k) _ (List.getElem?_eq_getElem hr)
        have h2 := fl_at hf ((List.range len).map F) (i / k) (by simpa using hq) (i % k) _ (by rw [hgt _ hq]; exact List.getElem?_eq_getElem hr)
        rw [e] at h1 h2
        rw [h1, ← h2, hi]
end
/-! ### An owned slice: an element stored -/
section
variable {w : World} {B e size n g cap : Nat} {xs : List Value}
theorem own_cells (h : w.ownsRow B e size (.slice (some ⟨g, 0, none⟩) n cap) n xs) : CAt w g 0 xs := fun i v hv => by
  have hj := (List.getElem?_eq_some_iff.1 hv).1
  rw [Nat.zero_add, h.cellAt i (by rw [← h.1]; exact hj), hv]
/-- The world behind a store of a whole element. -/
def putEl (w : World) (g o : Nat) (vs : Array Value) : World :=
  match rowOf w g with
  | some cur => w.setRow g (cur.toList.take o ++ vs.toList ++ cur.toList.drop (o + vs.size)).toArray
  | none => w
theorem own_row (h : w.ownsRow B e size (.slice (some ⟨g, 0, none⟩) n cap) n xs) : ∃ cur, rowOf w g = some cur ∧ w.heap[g]? = some (.cells cur e (0, 0)) ∧ B ≤ g ∧ n ≤ cap ∧ cap ≤ maxLen ∧ cur.size = cap * size ∧ cur.toList.take (n * size) = xs := by
  rcases h.2 with ⟨h0, _⟩ | ⟨g', cap', cur, hv, hb, hh, hn, hm, hc, ht⟩
  · cases h0
  · simp only [Value.slice.injEq, Option.some.injEq, Addr.mk.injEq, and_true, true_and] at hv
    obtain ⟨rfl, rfl⟩ := hv
    exact ⟨cur, rowOf_of hh, hh, hb, hn, hm, hc, ht⟩
theorem putEl_below {b : Nat} (hb : b ≤ g) (o : Nat) (vs : Array Value) : Below b w (putEl w g o vs) := by
  unfold putEl
  split
  · exact bsetRow (Below.refl _ _) hb _
  · exact Below.refl _ _
theorem putEl_own (h : w.ownsRow B e size (.slice (some ⟨g, 0, none⟩) n cap) n xs) {i : Nat} (hi : i < n) {vs : Array Value} (hs : vs.size = size) :
    (putEl w g (i * size) vs).ownsRow B e size (.slice (some ⟨g, 0, none⟩) n cap) n (xs.take (i * size) ++ vs.toList ++ xs.drop (i * size + size)) := by
  obtain ⟨cur, hr, hh, hb, hn, hm, hc, ht⟩ := own_row h
  have hle : i * size + size ≤ n * size := by rw [← Nat.succ_mul]; exact Nat.mul_le_mul_right _ hi
  have hle2 : n * size ≤ cap * size := Nat.mul_le_mul_right _ hn
  have hcl : cur.toList.length = cap * size := by simpa using hc
  refine ⟨?_, .inr ⟨g, cap, (cur.toList.take (i * size) ++ vs.toList ++ cur.toList.drop (i * size + vs.size)).toArray, rfl, hb, ?_, hn, hm, ?_, ?_⟩⟩
  · simp only [List.length_append, List.length_take, List.length_drop, Array.length_toList, hs, h.1]
    omega
  · unfold putEl
    rw [hr]
    exact setRow_heap w g _ _ _ _ hh
  · simp only [List.size_toArray, List.length_append, List.length_take, List.length_drop, Array.length_toList, hs, hcl] at *
    omega
  · subst ht
    rw [hs, List.append_assoc, List.append_assoc, List.take_append, List.take_append, List.take_take, List.length_take, hcl, Array.length_toList, hs, Nat.min_eq_right (by omega), Nat.min_eq_left (by omega),
      List.take_take, Nat.min_eq_left (by omega), List.take_of_length_le (l := vs.toList) (by simp [hs]; omega), List.drop_take]
    rw [show n * size - i * size - size = n * size - (i * size + size) by omega]
end
section
variable {P : Program} {ops : Array Oper} {rest : List Oper} {o : Oper} {a : Act} {w : World} {Q : Exit → Act → World → Prop}
/-- A whole element stored into an owned slice. -/
theorem wp_store_el (hgd : o.guard = none) (hdst : o.dst = none) (ty : TypeId) (x y : Operand) (ho : o.op = .store ty x y) (g off : Nat) (hx : a.eval x = .pointer (some ⟨g, off, none⟩)) (vs : Array Value) (hy : a.eval y = .agg vs)
    (hr : ∃ cur, rowOf w g = some cur ∧ off + vs.size ≤ cur.size) (hi : (P.info? ty).map (·.size) = some vs.size) (h1 : ∀ v ∈ vs.toList, v.oneCell' = true)
    (h : wpList P ops Q rest a (putEl w g off vs)) : wpList P ops Q (o :: rest) a w :=
  wpList_plain hgd fun K hK => by
    obtain ⟨cur, hr, hl⟩ := hr
    have hl := run_storeVar_row (P := P) w g off ty vs hi cur hr hl h1
    have e : putEl w g off vs = w.setRow g (cur.toList.take off ++ vs.toList ++ cur.toList.drop (off + vs.size)).toArray := by unfold putEl; rw [hr]
    rw [← e] at hl
    unfold Oper.wp execOp
    simp only [ho, hx, hy, Instr.storeAt, Instr.sureAddr, Sem.run_bind, Sem.run_pure, Result.andThen_ok, hl]
    show K (a.put o.dst undef) _
    rw [hdst]
    exact hK _ _ h
theorem own_room {B e size n cap : Nat} {xs : List Value} {g i : Nat} {vs : Array Value} (h : w.ownsRow B e size (.slice (some ⟨g, 0, none⟩) n cap) n xs) (hi : i < n) (hs : vs.size = size) : ∃ cur, rowOf w g = some cur ∧ i * size + vs.size ≤ cur.size := by
  obtain ⟨cur, hr, hh, hb, hn, hm, hc, ht⟩ := own_row h
  refine ⟨cur, hr, ?_⟩
  rw [hs, hc, ← Nat.succ_mul]
  exact Nat.mul_le_mul_right _ (by omega)
end
/-! ### A slice that 'make' lays -/
section
variable {P : Program}
theorem run_make_el {t e : TypeId} {z : Value} {k bytes : Nat} (ht : P.underlying t = some (.slice e)) (hinfo : (P.info? e).map (fun i => (i.zero, i.size, i.bytes)) = some (some z, k, bytes)) {a : Array Value} (ha : z.cells = a) (n : Nat) (hb : bytes * n ≤ 281474976710656) (h63 : n ≤ 9223372036854775807) (w : World) :
    (Instr.makeSlice t (.int .i64 (n : Int)) (.int .i64 (n : Int))).run P w = .ok (.slice (some ⟨w.heap.size, 0, none⟩) n n) (w.alloc (.cells (madeCells a (n * k)) e)) := by
  obtain ⟨i, hi, hzz⟩ := Option.map_eq_some_iff.1 hinfo
  simp only [Prod.mk.injEq] at hzz
  obtain ⟨hz, rfl, rfl⟩ := hzz
  subst ha
  have hb' : (i.bytes : Int) * (n : Int) ≤ 281474976710656 := by
    have h : ((i.bytes * n : Nat) : Int) ≤ 281474976710656 := by omega
    rwa [Int.natCast_mul] at h
  have hr := run_make (P := P) w t e i z ht hi hz .i64 .i64 n n (by omega) (Int.le_refl _) hb' (by omega)
  simpa using hr
theorem World.ownsRow_full {base : Nat} (w : World) (cur : Array Value) (e size n : Nat) (hb : base ≤ w.heap.size) (hm : n ≤ maxLen) (hs : cur.size = n * size) :
    (w.alloc (.cells cur e)).ownsRow base e size (.slice (some ⟨w.heap.size, 0, none⟩) n n) n cur.toList := by
  refine ⟨by simpa using hs, .inr ⟨w.heap.size, n, cur, rfl, hb, heap_alloc_new w _, Nat.le_refl _, hm, hs, ?_⟩⟩
  rw [← hs]
  exact List.take_of_length_le (by simp)
end
/-! ### An element loaded from where its cells lie -/
section
variable {P : Program} {ops : Array Oper} {rest : List Oper} {o : Oper} {a : Act} {w W : World} {Q : Exit → Act → World → Prop}
theorem wp_load_CAt (hgd : o.guard = none) (ty : TypeId) (x : Operand) (ho : o.op = .load ty x) (g off : Nat) (hx : a.eval x = .pointer (some ⟨g, off, none⟩)) (cs : List Value) (hc : CAt w g off cs)
    (d : TypeDesc) (hu : P.underlying ty = some d) (hd : TypeDesc.isRow d = true) (hi : (P.info? ty).map (·.size) = some cs.length)
    (h : wpList P ops Q rest (a.put o.dst (.agg cs.toArray)) w) : wpList P ops Q (o :: rest) a w :=
  wp_load_cells hgd ty x ho g off hx cs hc d hu hd hi h
theorem run_load_CAt (g off : Nat) (ty : TypeId) (cs : List Value) (hc : CAt w g off cs) (d : TypeDesc) (hu : P.underlying ty = some d) (hd : TypeDesc.isRow d = true) (hi : (P.info? ty).map (·.size) = some cs.length) :
    (loadVar ty ⟨g, off, none⟩).run P w = .ok (.agg cs.toArray) w :=
  run_loadVar_cells (P := P) w ⟨g, off, none⟩ ty cs d hu hd hi (fun j v hv => by
    have e : (⟨g, off, none⟩ : Addr).add j = ⟨g, off + j, none⟩ := by unfold Addr.add; split <;> simp_all
    rw [e]
    exact hc j v hv)
/-- The same in a region that draws. -/
theorem qB_CAtK {K : Act → Prop} {o : Oper} {W0 : World} (H : Below W0.heap.size W0 W) (hw : Region.wanted o (yielded ops a.tmps) = true) (ty : TypeId) (x : Operand) (ho : o.op = .load ty x) (g off : Nat) (hx : a.eval x = .pointer (some ⟨g, off, none⟩)) (cs : List Value) (hc : CAt W0 g off cs) (hg : g < W0.heap.size)
    (d : TypeDesc) (hu : P.underlying ty = some d) (hd : TypeDesc.isRow d = true) (hi : (P.info? ty).map (·.size) = some cs.length) (h : K (a.put o.dst (.agg cs.toArray))) : if Region.wanted o (yielded ops a.tmps) then Oper.qB P o a W K else K (a.put o.dst undef) := by
  rw [if_pos hw]
  refine ⟨.agg cs.toArray, fun p => ?_, h⟩
  have hb := bstep H (below_regrown W p.d p.os)
  have hl := run_load_CAt (P := P) g off ty cs (hc.below hb hg) d hu hd hi
  unfold Oper.quietAt execOp
  simp only [ho, hx, Instr.loadAt, Instr.sureAddr, Sem.run_bind, Sem.run_pure, Result.andThen_ok, hl, Oper.quietUpon]
  exact ⟨trivial, trivial⟩
end
/-- Elements lie at the head of a block. -/
def Lies {α : Type} (f : α → List Value) (w : World) (g : Nat) (l : List α) : Prop := CAt w g 0 (fl f l) ∧ g < w.heap.size
theorem Lies.c {α : Type} {f : α → List Value} {w : World} {g : Nat} {l : List α} (h : Lies f w g l) : CAt w g 0 (fl f l) := h.1
theorem Lies.lt {α : Type} {f : α → List Value} {w : World} {g : Nat} {l : List α} (h : Lies f w g l) : g < w.heap.size := h.2
theorem Lies.below {α : Type} {f : α → List Value} {w w' : World} {g : Nat} {l : List α} (h : Lies f w g l) (hb : Below w.heap.size w w') : Lies f w' g l := ⟨h.1.below hb h.2, Nat.lt_of_lt_of_le h.2 hb.size⟩
theorem Lies.rd {α : Type} {f : α → List Value} {w : World} {g : Nat} {l : List α} (h : Lies f w g l) : RdA w (some ⟨g, 0, none⟩) (fl f l) := .inr ⟨g, 0, rfl, h.2, h.1⟩
theorem own_lies {α : Type} {f : α → List Value} {w : World} {B e size n g cap : Nat} {l : List α} (h : w.ownsRow B e size (.slice (some ⟨g, 0, none⟩) n cap) n (fl f l)) : Lies f w g l := ⟨own_cells h, own_lt h g rfl⟩
theorem bc_length (b : Bt) : (bc b).length = 2 := rfl
theorem bc_one (b : Bt) : ∀ u ∈ bc b, u.oneCell' = true := by
  intro u hu
  simp [bc] at hu
  rcases hu with rfl | rfl <;> rfl
theorem fl_bc : ∀ l : List Bt, fl bc l = bcs l
  | [] => rfl
  | b :: l => by rw [fl_cons, fl_bc l]; rfl
end Go.Proofs.YtbngpcghognojaaGreatDoor
namespace Go.Proofs.YtbngpcghognojaaGreatDoor
open Go.RowKit
set_option linter.unusedVariables false
set_option linter.unusedSimpArgs false
set_option maxRecDepth 100000
set_option maxHeartbeats 1000000

theorem l01Ok_any (g o : Nat) (c : Cr) (w : World) (hc : CAt w g o (cc c)) (hg : g < w.heap.size) : Calls Tryz.prog 68 #[.pointer (some ⟨g, o, none⟩)] w fun e w' => e = .returned (.bool c.ok) ∧ Below w.heap.size w w' := by
  have HC := Lib.hid hc
  clear hc
  have HL := Lib.hid (Vector.length_toList (xs := c))
  go_enter Tryz.func68, Tryz.ntmps68
  go_wp2
  go_loopw [3] (fun i wr => ∃ k : Nat, k ≤ 12 ∧ i = .int .i64 k ∧ Hid ((c.toList.take k).all Bt.fine = true) ∧ Below w.heap.size w wr) (fun i _ => 12 - (intOf i).toNat)
  case atStart => exact ⟨0, by omega, rfl, rfl, Below.refl _ _⟩
  case round =>
    obtain ⟨k, hk, rfl, H1, hb⟩ := hrel
    by_cases hlt : k < 12
    · have hr := HC.out.below hb hg
      have hkl : k < c.toList.length := by rw [HL.out]; exact hlt
      have x0 := hr.bot0 hkl
      have x1 := hr.bot1 hkl
      have H2 : Hid ((c.toList.take (k + 1)).all Bt.fine = (rB c.toList k).fine) := by
        show (c.toList.take (k + 1)).all Bt.fine = _
        rw [List.take_succ_eq_append_getElem hkl, List.all_append, H1.out, rB_lt hkl]
        simp
      have H3 : Hid ((rB c.toList k).fine = false → c.ok = false) := fun h => by
        unfold Cr.ok
        rw [List.all_eq_false]
        exact ⟨_, List.getElem_mem hkl, by rw [← rB_lt hkl, h]; simp⟩
      clear hr hkl
      generalize rB c.toList k = b at x0 x1 H2 H3
      by_cases e1 : b.em = true
      · go_wp2_with (go_at_call 119; refine (l01Free_any b _).mono ?_; rintro e w' ⟨rfl, hb1⟩)
        go_roundw
        case rel => exact ⟨k + 1, by omega, by go_num, H2.out.trans (by simp [Bt.fine, e1]), bstep hb hb1⟩
        case measure => simp [intOf]; omega
      · replace e1 : b.em = false := by simpa using e1
        by_cases e2 : b.ok = true
        · go_wp2_with (first | (go_at_call 119; refine (l01Free_any b _).mono ?_; rintro e w' ⟨rfl, hb1⟩; have x0' := (hb1.cell (World.block_lt_of_cell? _ _ x0)).trans x0; have x1' := (hb1.cell (World.block_lt_of_cell? _ _ x1)).trans x1) | (go_at_call 84; refine (l01Bottle_any b _).mono ?_; rintro e w' ⟨rfl, hb2⟩))
          go_roundw
          case rel => exact ⟨k + 1, by omega, by go_num, H2.out.trans (by simp [Bt.fine, e2]), bstep hb (bstep hb1 hb2)⟩
          case measure => simp [intOf]; omega
        · replace e2 : b.ok = false := by simpa using e2
          go_wp2_with (first | (go_at_call 119; refine (l01Free_any b _).mono ?_; rintro e w' ⟨rfl, hb1⟩; have x0' := (hb1.cell (World.block_lt_of_cell? _ _ x0)).trans x0; have x1' := (hb1.cell (World.block_lt_of_cell? _ _ x1)).trans x1) | (go_at_call 84; refine (l01Bottle_any b _).mono ?_; rintro e w' ⟨rfl, hb2⟩))
          go_ret
          exact ⟨ret_bool (H3.out (by simp [Bt.fine, e1, e2])).symm, bstep hb (bstep hb1 hb2)⟩
    · obtain rfl : k = 12 := by omega
      go_wp2
      go_ret
      exact ⟨ret_bool (by unfold Cr.ok; rw [← H1.out, List.take_of_length_le (by rw [HL.out]; exact Nat.le_refl _)]), hb⟩
theorem l01Ok_row {W w : World} {g : Nat} {c : Cr} (H : Below W.heap.size W w) (hr : rowOf W g = some (cc c).toArray) : Calls Tryz.prog 68 #[.pointer (some ⟨g, 0, none⟩)] w fun e w' => e = .returned (.bool c.ok) ∧ Below w.heap.size w w' :=
  l01Ok_any g 0 c w (CAt.of_row ((rowOf_below H (rowOf_lt hr)).trans hr)) (Nat.lt_of_lt_of_le (rowOf_lt hr) H.size)
attribute [local go_sem high] eqB
theorem ValidCrate1_any (b : Bt) (w : World) : Calls Tryz.prog 76 #[bv b] w fun e w' => e = .returned (.bool (!b.fine)) ∧ Below w.heap.size w w' := by
  have h := Tryz.underlying26
  have HE : Hid (b.em = (b.k == 0 && b.y == 0)) := rfl
  cases e1 : b.em with
  | true =>
    have e2 : (b.k == 0 && b.y == 0) = true := by rw [← HE.out]; exact e1
    have HF : Hid ((!b.fine) = false) := by simp [Hid, Bt.fine, e1]
    clear e1
    go_enter Tryz.func76, Tryz.ntmps76
    go_wp2
    go_ret
    exact ⟨ret_bool HF.out.symm, by go_grown⟩
  | false =>
    have e2 : (b.k == 0 && b.y == 0) = false := by rw [← HE.out]; exact e1
    have HF : Hid ((!b.fine) = !b.ok) := by simp [Hid, Bt.fine, e1]
    clear e1
    go_enter Tryz.func76, Tryz.ntmps76
    go_wp2_with (go_at_call 19; refine (ValidBottle_any b _).mono ?_; rintro e w' ⟨rfl, hb⟩)
    go_ret
    exact ⟨ret_bool HF.out.symm, bstepB ((Below.refl _ _).alloc (Nat.le_refl _) _) (by simp) hb⟩
end Go.Proofs.YtbngpcghognojaaGreatDoor
namespace Go.Proofs.YtbngpcghognojaaGreatDoor
open Go.RowKit
set_option linter.unusedVariables false
set_option linter.unusedSimpArgs false
set_option maxRecDepth 100000
set_option maxHeartbeats 1000000
/-- The first k places of which p holds. -/
def pl (p : Bt → Bool) (l : List Bt) (k : Nat) : List Int := ((List.range k).filter fun i => p (rB l i)).map Int.ofNat
theorem pl_yes {p : Bt → Bool} {l : List Bt} {k : Nat} (h : p (rB l k) = true) : pl p l (k + 1) = pl p l k ++ [(k : Int)] := by
  simp [pl, List.range_succ, h]
theorem pl_no {p : Bt → Bool} {l : List Bt} {k : Nat} (h : p (rB l k) = false) : pl p l (k + 1) = pl p l k := by
  simp [pl, List.range_succ, h]
theorem pl_le (p : Bt → Bool) (l : List Bt) (k : Nat) : (pl p l k).length ≤ k := by
  simp only [pl, List.length_map]
  exact Nat.le_trans (List.length_filter_le _ _) (by simp)
/-- All places with a bottle; all without one. -/
def usedI (c : Cr) : List Int := pl (fun b => !b.em) c.toList 12
def freeI (c : Cr) : List Int := pl Bt.em c.toList 12
theorem cc_take (c : Cr) (k : Nat) (h : k < 12) : List.take 2 (List.drop (k * 2) (cc c)) = [.int .u8 (rB c.toList k).k, .int .i16 (rB c.toList k).y] := by
  have hl : k < c.toList.length := by rw [Vector.length_toList]; exact h
  obtain ⟨h0, h1⟩ := bcs_at c.toList k hl
  apply List.ext_getElem?
  intro j
  rw [List.getElem?_take, List.getElem?_drop, show cc c = bcs c.toList from rfl]
  rcases j with _ | _ | j
  · simpa using h0
  · simpa using h1
  · simp
    omega
/-- An element of a crate by value. -/
theorem run_indexC (c : Cr) (k : Nat) (h : k < 12) (w : World) : (Instr.index 28 (.agg (cc c).toArray) (.int .i64 (k : Int))).run Tryz.prog w = .ok (.agg #[.int .u8 (rB c.toList k).k, .int .i16 (rB c.toList k).y]) w := by
  have hu := Tryz.underlying28
  have hE := cc_take c k h
  simp only [Instr.index, asIntOf]
  simp [go_sem, run_underlying hu, part, h, hE]
attribute [local go_sem high] eqB
theorem full_any (c : Cr) (w : World) : Calls Tryz.prog 78 #[cv c] w fun e w' => ∃ v, e = .returned v ∧ w'.ownsRow w.heap.size 2 1 v (usedI c).length (vi (usedI c)) ∧ Below w.heap.size w w' := by
  have hu := Tryz.underlying26
  go_enter Tryz.func78, Tryz.ntmps78
  go_wp2_with (with_reducible refine wp_load_rowOf rfl _ _ rfl _ rfl (cc c).toArray (by simp [rowOf_alloc]) _ Tryz.underlying28 rfl (infoC c) ?_)
  have hs : (w.alloc (Obj.cells (cc c).toArray 28)).heap.size = w.heap.size + 1 := by simp
  go_loopw [3, 8] (fun v i wr => ∃ k : Nat, k ≤ 12 ∧ i = .int .i64 k ∧ Hid (wr.ownsRow w.heap.size 2 1 v (pl (fun b => !b.em) c.toList k).length (vi (pl (fun b => !b.em) c.toList k))) ∧ Below w.heap.size w wr) (fun _ i _ => 12 - (intOf i).toNat)
  case atStart =>
    refine ⟨0, by omega, rfl, ?_, by go_grown⟩
    have := World.ownsRow_lit (base := w.heap.size) (e := 2) (size := 1) (w.alloc (Obj.cells (cc c).toArray 28)) #[] 0 (by simp) (by simp [maxLen]) (by simp)
    rw [hs] at this
    exact this
  case round =>
    clear hs
    obtain ⟨k, hk, rfl, HO, hb⟩ := hrel
    by_cases hlt : k < 12
    · have hE := run_indexC c k hlt
      have HY := Lib.hid (@pl_yes (fun b => !b.em) c.toList k)
      have HN := Lib.hid (@pl_no (fun b => !b.em) c.toList k)
      have HL := Lib.hid (pl_le (fun b => !b.em) c.toList k)
      generalize rB c.toList k = b at hE HY HN
      cases e1 : b.em with
      | true =>
        have e2 : (b.k == 0 && b.y == 0) = true := e1
        have HN' := Lib.hid (HN.out (by simp [e1]))
        clear e1 HN HY
        go_wp2
        go_roundw
        case rel => exact ⟨k + 1, by omega, by go_num, by rw [HN'.out]; exact own_kept HO.out (by go_grown), bstep hb (by go_grown)⟩
        case measure => simp [intOf]; omega
      | false =>
        have e2 : (b.k == 0 && b.y == 0) = false := e1
        have HY' := Lib.hid (HY.out (by simp [e1]))
        clear e1 HN HY
        go_wp2_with (at_builtin; refine wp_app_int w.heap.size rfl _ _ rfl _ (pl (fun b => !b.em) c.toList k) (k : Int) rfl _ rfl ?hg ?HO ?hB ?hn ?_; (case hg => simp); (case HO => exact own_kept HO.out (by go_grown)); (case hB => simp; have := hb.size; omega); (case hn => have := HL.out; omega); intro v1 w1 hown hb1)
        go_roundw
        case rel =>
          refine ⟨k + 1, by omega, by go_num, by rw [HY'.out]; exact hown, (bstep hb ?_).trans hb1⟩
          go_grown
        case measure => simp [intOf]; omega
    · obtain rfl : k = 12 := by omega
      go_wp2
      go_ret
      exact ⟨_, rfl, HO.out, hb⟩
attribute [local go_sem high] eqB
theorem free_any (c : Cr) (w : World) : Calls Tryz.prog 80 #[cv c] w fun e w' => ∃ v, e = .returned v ∧ w'.ownsRow w.heap.size 2 1 v (freeI c).length (vi (freeI c)) ∧ Below w.heap.size w w' := by
  have hu := Tryz.underlying26
  go_enter Tryz.func80, Tryz.ntmps80
  go_wp2_with (with_reducible refine wp_load_rowOf rfl _ _ rfl _ rfl (cc c).toArray (by simp [rowOf_alloc]) _ Tryz.underlying28 rfl (infoC c) ?_)
  have hs : (w.alloc (Obj.cells (cc c).toArray 28)).heap.size = w.heap.size + 1 := by simp
  go_loopw [3, 8] (fun v i wr => ∃ k : Nat, k ≤ 12 ∧ i = .int .i64 k ∧ Hid (wr.ownsRow w.heap.size 2 1 v (pl Bt.em c.toList k).length (vi (pl Bt.em c.toList k))) ∧ Below w.heap.size w wr) (fun _ i _ => 12 - (intOf i).toNat)
  case atStart =>
    refine ⟨0, by omega, rfl, ?_, by go_grown⟩
    have := World.ownsRow_lit (base := w.heap.size) (e := 2) (size := 1) (w.alloc (Obj.cells (cc c).toArray 28)) #[] 0 (by simp) (by simp [maxLen]) (by simp)
    rw [hs] at this
    exact this
  case round =>
    clear hs
    obtain ⟨k, hk, rfl, HO, hb⟩ := hrel
    by_cases hlt : k < 12
    · have hE := run_indexC c k hlt
      have HY := Lib.hid (@pl_yes Bt.em c.toList k)
      have HN := Lib.hid (@pl_no Bt.em c.toList k)
      have HL := Lib.hid (pl_le Bt.em c.toList k)
      generalize rB c.toList k = b at hE HY HN
      cases e1 : b.em with
      | false =>
        have e2 : (b.k == 0 && b.y == 0) = false := e1
        have HN' := Lib.hid (HN.out e1)
        clear e1 HN HY
        go_wp2
        go_roundw
        case rel => exact ⟨k + 1, by omega, by go_num, by rw [HN'.out]; exact own_kept HO.out (by go_grown), bstep hb (by go_grown)⟩
        case measure => simp [intOf]; omega
      | true =>
        have e2 : (b.k == 0 && b.y == 0) = true := e1
        have HY' := Lib.hid (HY.out e1)
        clear e1 HN HY
        go_wp2_with (at_builtin; refine wp_app_int w.heap.size rfl _ _ rfl _ (pl Bt.em c.toList k) (k : Int) rfl _ rfl ?hg ?HO ?hB ?hn ?_; (case hg => simp); (case HO => exact own_kept HO.out (by go_grown)); (case hB => simp; have := hb.size; omega); (case hn => have := HL.out; omega); intro v1 w1 hown hb1)
        go_roundw
        case rel =>
          refine ⟨k + 1, by omega, by go_num, by rw [HY'.out]; exact hown, (bstep hb ?_).trans hb1⟩
          go_grown
        case measure => simp [intOf]; omega
    · obtain rfl : k = 12 := by omega
      go_wp2
      go_ret
      exact ⟨_, rfl, HO.out, hb⟩
end Go.Proofs.YtbngpcghognojaaGreatDoor
namespace Go.Proofs.YtbngpcghognojaaGreatDoor
open Go.RowKit
set_option linter.unusedVariables false
set_option linter.unusedSimpArgs false
set_option maxRecDepth 100000
set_option maxHeartbeats 1000000
end Go.Proofs.YtbngpcghognojaaGreatDoor
