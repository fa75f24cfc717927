/- A region that draws its order, reads and calls, and stores whole rows: of each world it is told what it has grown from. -/
import Derived.Test.YtbngpcghognojaaDoorDrawn
import Derived.Test.YtbngpcghognojaaDoorRow
namespace Go.Proofs.YtbngpcghognojaaDoor
open Go Go.Sort Go.RowKit
set_option linter.unusedVariables false
set_option linter.unusedSimpArgs false
set_option maxRecDepth 100000
set_option maxHeartbeats 1000000
/-- Grown from number j of some worlds. -/
def AtB (ws : List World) (j : Nat) (w : World) : Prop := ∃ W, ws[j]? = some W ∧ Below W.heap.size W w
theorem AtB.step {ws : List World} {j : Nat} {w w' : World} (h : AtB ws j w) (hb : BelowOf w w') : AtB ws j w' := by
  obtain ⟨W, h1, h2⟩ := h
  exact ⟨W, h1, bstep h2 hb⟩
theorem below_setRow {W w : World} {g : Nat} (h : Below W.heap.size W w) (cs : Array Value) : Below (W.setRow g cs).heap.size (W.setRow g cs) (w.setRow g cs) := by
  have e : ∀ v : World, (v.setRow g cs).heap.size = v.heap.size := fun v => by simp [World.setRow]
  refine ⟨h.os, h.tape, h.output, by rw [e, e]; exact h.size, fun k hk => ?_⟩
  rw [e] at hk
  by_cases hg : k = g
  · subst hg
    simp only [World.setRow, Array.getElem?_modify, if_pos, h.block k hk]
  · rw [setRow_other _ _ _ _ hg, setRow_other _ _ _ _ hg]
    exact h.block k hk
section
variable {P : Program} {ops : Array Oper} {md : Region.Mode} {ws : List World} {Q : Act → World → Prop} {k j : Nat} {d : Array Bool} {a : Act}
theorem b_start {id : Nat} {Q : Exit → Act → World → Prop} {a : Act} {w : World} (n : Nat) (ws : List World) (h0 : ws[0]? = some w) (hn : ops.size = n) (hm : P.follows .mixedOrders = true)
    (h : AnyG (AtB ws) P .any ops (Q .normal) n 0 (Array.replicate n false) a) : (Code.region id ops true).wp P Q a w := by
  subst hn
  exact wp_region_any hm (AnyG.any _ _ _ _ h _ ⟨w, h0, (Below.refl _ _).drew⟩)
theorem b_done (W : World) (hj : ws[j]? = some W) (hB : (Region.ready md ops d).isEmpty = true) (h : ∀ w, Below W.heap.size W w → Q a w) : AnyG (AtB ws) P md ops Q 0 j d a :=
  ⟨by simpa using hB, fun w hw => by
    obtain ⟨W', h1, h2⟩ := hw
    obtain rfl := Option.some.inj (hj.symm.trans h1)
    exact h w h2⟩
theorem b_yields {o : Oper} {v : Value} (hw : Region.wanted o (yielded ops a.tmps) = true) (h : ∀ W ∈ ws, ∀ p : Regrown, o.quietAt P a (fun w'' => BelowOf (grow (redrawn W p.d) p.os) w'') (grow (redrawn W p.d) p.os) v) : YieldsG (AtB ws) P ops o v a := by
  refine .inl ⟨hw, fun γ w hL => ?_⟩
  obtain ⟨W, h1, h2⟩ := hL
  obtain ⟨p, rfl⟩ := regrown_of_below h2
  have hq := h W (List.mem_of_getElem? h1) p
  have hL : AtB ws γ (grow (redrawn W p.d) p.os) := ⟨W, h1, h2⟩
  unfold Oper.quietAt at hq ⊢
  generalize (execOp a.eval o).run P _ = r at hq ⊢
  cases r with
  | halt x w => exact hq
  | ok n w =>
    cases n <;> try exact hq
    case enter f args => exact ⟨hq.1, Calls.mono hq.2 fun e w'' ⟨he, hb⟩ => ⟨he, hL.step hb⟩⟩
/-- Quiet in all that these worlds grow into: it may as well come now. -/
theorem b_quiet (i : Nat) {o : Oper} (hB : (Region.noSelect ops && ((Region.ready md ops d).contains i && Region.free md ops d i)) = true) (ho : ops[i]? = some o) (hg : o.guard = none) (v : Value)
    (h : ∀ W ∈ ws, ∀ p : Regrown, o.quietAt P a (fun w'' => BelowOf (grow (redrawn W p.d) p.os) w'') (grow (redrawn W p.d) p.os) v)
    (hk : AnyG (AtB ws) P md ops Q k j (d.setIfInBounds i true) (a.put o.dst v)) : AnyG (AtB ws) P md ops Q (k + 1) j d a := by
  simp only [Bool.and_eq_true] at hB
  have hr : i ∈ Region.ready md ops d := by simpa using hB.2.1
  exact AnyG.first ho (Region.noSelect_spec hB.1) k j d a (Region.free_spec ho hB.2.2) hr (b_yields (by unfold Region.wanted; rw [hg]) h) hk
/-- What does not look at the world. -/
theorem b_plain (i : Nat) {o : Oper} (hB : (Region.noSelect ops && ((Region.ready md ops d).contains i && Region.free md ops d i)) = true) (ho : ops[i]? = some o) (hg : o.guard = none) (v : Value)
    (h : ∀ w, (execOp a.eval o).run P w = .ok (.value v) w)
    (hk : AnyG (AtB ws) P md ops Q k j (d.setIfInBounds i true) (a.put o.dst v)) : AnyG (AtB ws) P md ops Q (k + 1) j d a :=
  b_quiet i hB ho hg v (fun W _ p => by unfold Oper.quietAt; rw [h]; exact ⟨rfl, rfl⟩) hk
/-- A whole row loaded, the same in all these worlds. -/
theorem b_row (i : Nat) {o : Oper} (hB : (Region.noSelect ops && ((Region.ready md ops d).contains i && Region.free md ops d i)) = true) (ho : ops[i]? = some o) (hg : o.guard = none)
    (ty : TypeId) (x : Operand) (hop : o.op = .load ty x) (g : Nat) (hx : a.eval x = .pointer (some ⟨g, 0, none⟩)) (cs : Array Value) (hr : ∀ W ∈ ws, rowOf W g = some cs)
    (ds : TypeDesc) (hu : P.underlying ty = some ds) (hd : TypeDesc.isRow ds = true) (hi : (P.info? ty).map (·.size) = some cs.size)
    (hk : AnyG (AtB ws) P md ops Q k j (d.setIfInBounds i true) (a.put o.dst (.agg cs))) : AnyG (AtB ws) P md ops Q (k + 1) j d a := by
  refine b_quiet i hB ho hg (.agg cs) (fun W hW p => ?_) hk
  have hb := below_regrown W p.d p.os
  obtain ⟨t, ht⟩ := rowOf_some ((rowOf_below hb (rowOf_lt (hr W hW))).trans (hr W hW))
  have hl := run_loadVar_row (P := P) _ g t ty cs (0, 0) ds ht hu (by cases ds <;> first | rfl | simp [TypeDesc.isRow] at hd) hi
  unfold Oper.quietAt execOp
  simp only [hop, hx, Instr.loadAt, Instr.sureAddr, Sem.run_bind, Sem.run_pure, Result.andThen_ok, hl, Oper.quietUpon]
  exact ⟨trivial, trivial⟩
/-- A call that answers alike in all worlds. -/
theorem b_call (i : Nat) {o : Oper} (hB : (Region.noSelect ops && ((Region.ready md ops d).contains i && Region.free md ops d i)) = true) (ho : ops[i]? = some o) (hg : o.guard = none) (v : Value) (f : FuncId) (args : Array Value)
    (hrun : ∀ w, (execOp a.eval o).run P w = .ok (.enter f args) w) (hc : ∀ w, Calls P f args w fun e w' => e = .returned v ∧ Below w.heap.size w w')
    (hk : AnyG (AtB ws) P md ops Q k j (d.setIfInBounds i true) (a.put o.dst v)) : AnyG (AtB ws) P md ops Q (k + 1) j d a :=
  b_quiet i hB ho hg v (fun W _ p => by unfold Oper.quietAt; rw [hrun]; exact ⟨rfl, hc _⟩) hk
/-- A whole row stored, alone. -/
theorem b_store (i j' : Nat) {o : Oper} (hB : (Region.ready md ops d == [i]) = true) (ho : ops[i]? = some o) (hg : o.guard = none) (hd : o.dst = none) (W : World) (g : Nat) (cs cs0 : Array Value) (hj : ws[j]? = some W) (hj' : ws[j']? = some (W.setRow g cs))
    (ty : TypeId) (x y : Operand) (hop : o.op = .store ty x y) (hx : a.eval x = .pointer (some ⟨g, 0, none⟩)) (hy : a.eval y = .agg cs) (hr : rowOf W g = some cs0) (hz : cs0.size = cs.size) (hi : (P.info? ty).map (·.size) = some cs.size) (h1 : ∀ v ∈ cs.toList, v.oneCell' = true)
    (hk : AnyG (AtB ws) P md ops Q k j' (d.setIfInBounds i true) a) : AnyG (AtB ws) P md ops Q (k + 1) j d a := by
  refine AnyG.one (by simpa using hB) ho ?_
  unfold gOp
  rw [if_pos (by unfold Region.wanted; rw [hg])]
  intro w hL
  obtain ⟨W', h2, h3⟩ := hL
  obtain rfl := Option.some.inj (hj.symm.trans h2)
  have hl := run_storeAt_row (P := P) w g ty cs.size cs hi rfl (by rw [((rowOf_below h3 (rowOf_lt hr)).trans hr)]; simp [hz]) h1
  unfold execOp
  simp only [hop, hx, hy, Sem.run_bind, Sem.run_pure, Result.andThen_ok, hl]
  rw [hd]
  exact ⟨j', ⟨_, hj', below_setRow h3 cs⟩, hk⟩
end
end Go.Proofs.YtbngpcghognojaaDoor
