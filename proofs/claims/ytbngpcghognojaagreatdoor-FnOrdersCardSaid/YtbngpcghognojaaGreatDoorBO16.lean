/- Texts of the claim, joined (16 of 22): Ever, OrT, Last. -/
import Derived.Shelf.Strings.OnBuilder
import Derived.Maps.AppendAt
import Derived.Test.YtbngpcghognojaaGreatDoorBO3
import Derived.Test.YtbngpcghognojaaGreatDoorBO5
import Derived.Test.YtbngpcghognojaaGreatDoorBO10
import Derived.Test.YtbngpcghognojaaGreatDoorBO13
import Derived.Test.YtbngpcghognojaaGreatDoorBO14
import Derived.Test.YtbngpcghognojaaGreatDoorBO15
namespace Go.Proofs.YtbngpcghognojaaGreatDoor
open Go Go.Sort Go.RowKit
set_option linter.unusedVariables false
set_option linter.unusedSimpArgs false
set_option maxRecDepth 100000
set_option maxHeartbeats 1000000
/-- Known throughout, and known now. -/
def CE (Φ γ : Fact) (w : World) : Prop := Φ.p w ∧ γ.p w
theorem CE.step {Φ γ : Fact} {w w' : World} (h : CE Φ γ w) (hb : BelowOf w w') : CE Φ γ w' := ⟨Φ.s _ _ h.1 hb, γ.s _ _ h.2 hb⟩
section
variable {P : Program} {ops : Array Oper} {md : Region.Mode} {Φ γ : Fact} {Q : Act → World → Prop} {k : Nat} {d : Array Bool} {a : Act}
theorem e_start {id : Nat} {Q : Exit → Act → World → Prop} {a : Act} {w : World} (Φ γ : Fact) (hΦ : Φ.p w.drew) (hγ : γ.p w.drew) (n : Nat) (hn : ops.size = n) (hm : P.follows .mixedOrders = true)
    (h : AnyG (CE Φ) P .any ops (Q .normal) n γ (Array.replicate n false) a) : (Code.region id ops true).wp P Q a w := by
  subst hn
  exact wp_region_any hm (AnyG.any _ _ _ _ h _ ⟨hΦ, hγ⟩)
theorem e_done (hB : (Region.ready md ops d).isEmpty = true) (h : ∀ w, Φ.p w → γ.p w → Q a w) : AnyG (CE Φ) P md ops Q 0 γ d a :=
  ⟨by simpa using hB, fun w hw => h w hw.1 hw.2⟩
theorem e_yields {o : Oper} {v : Value} (hw : Region.wanted o (yielded ops a.tmps) = true) (h : ∀ p : {w : World // Φ.p w}, o.quietAt P a (fun w'' => BelowOf p.1 w'') p.1 v) : YieldsG (CE Φ) P ops o v a := by
  refine .inl ⟨hw, fun γ w hL => ?_⟩
  have hq := h ⟨w, hL.1⟩
  unfold Oper.quietAt at hq ⊢
  generalize (execOp a.eval o).run P _ = r at hq ⊢
  cases r with
  | halt x w => exact hq
  | ok n w =>
    cases n <;> try exact hq
    case enter f args => exact ⟨hq.1, Calls.mono hq.2 fun e w'' ⟨he, hb⟩ => ⟨he, hL.step hb⟩⟩
/-- An operation that reads what is known throughout, or calls, is ready and free: it may as well come now. -/
theorem e_quiet (i : Nat) {o : Oper} (hB : (Region.noSelect ops && ((Region.ready md ops d).contains i && Region.free md ops d i)) = true) (ho : ops[i]? = some o)
    (h : ∀ K : Act → Prop, (∀ a, AnyG (CE Φ) P md ops Q k γ (d.setIfInBounds i true) a → K a) → if Region.wanted o (yielded ops a.tmps) then Oper.qK P o a Φ K else K (a.put o.dst undef)) : AnyG (CE Φ) P md ops Q (k + 1) γ d a := by
  simp only [Bool.and_eq_true] at hB
  have hf := h _ fun _ h => h
  have hr : i ∈ Region.ready md ops d := by simpa using hB.2.1
  split at hf
  · rename_i hw
    obtain ⟨v, h1, h2⟩ := hf
    exact AnyG.first ho (Region.noSelect_spec hB.1) k γ d a (Region.free_spec ho hB.2.2) hr (e_yields hw h1) h2
  · rename_i hw
    exact AnyG.first ho (Region.noSelect_spec hB.1) k γ d a (Region.free_spec ho hB.2.2) hr (.inr ⟨by simpa using hw, rfl⟩) hf
/-- A step of whatever kind, alone ready: what is known now may change. -/
theorem e_alone (i : Nat) {o : Oper} (hB : (Region.ready md ops d == [i]) = true) (ho : ops[i]? = some o) (hg : o.guard = Option.none)
    (h : ∀ K : Act → Fact → Prop, (∀ a γ', AnyG (CE Φ) P md ops Q k γ' (d.setIfInBounds i true) a → K a γ') → ∀ w, Φ.p w → γ.p w → gUpon (CE Φ) P (fun v γ' => K (a.put o.dst v) γ') ((execOp a.eval o).run P w)) : AnyG (CE Φ) P md ops Q (k + 1) γ d a := by
  refine AnyG.one (by simpa using hB) ho ?_
  unfold gOp
  rw [if_pos (by unfold Region.wanted; rw [hg])]
  exact fun w hL => h _ (fun _ _ h => h) w hL.1 hL.2
theorem e_val {r : Result Next} {u : Value} {w' : World} {K : Value → Fact → Prop} (γ' : Fact) (h : r = .ok (.value u) w') (hΦ : Φ.p w') (hγ : γ'.p w') (hk : K u γ') : gUpon (CE Φ) P K r := by
  rw [h]
  exact ⟨γ', ⟨hΦ, hγ⟩, hk⟩
theorem e_skip {r : Result Next} {w' : World} {K : Value → Fact → Prop} (γ' : Fact) (h : r = .ok .skip w') (hΦ : Φ.p w') (hγ : γ'.p w') (hk : K undef γ') : gUpon (CE Φ) P K r := by
  rw [h]
  exact ⟨γ', ⟨hΦ, hγ⟩, hk⟩
end
section
variable {P : Program} {o : Oper} {a : Act} {w w' : World}
/-- append, run. -/
theorem app_exec (s x : Operand) (t : TypeId) (ho : o.op = .call { callee := .builtin .append, args := #[s, x], argTypes := #[t, t] }) (v u : Value) (hs : a.eval s = v) (hx : a.eval x = u) (v1 : Value)
    (hrun : (Builtin.append_ #[t, t] o.type #[v, u]).run P w = .ok v1 w') : (execOp a.eval o).run P w = .ok (.value v1) w' := by
  unfold execOp
  simp only [ho, resolve, invoke, builtin, Sem.run_bind, Sem.run_pure, Result.andThen_ok, List.map_toArray, List.map_cons, List.map_nil, hs, hx, hrun]
end
end Go.Proofs.YtbngpcghognojaaGreatDoor
namespace Go.Proofs.YtbngpcghognojaaGreatDoor
open Go Go.Sort Go.RowKit
set_option linter.unusedVariables false
set_option linter.unusedSimpArgs false
set_option maxRecDepth 100000
set_option maxHeartbeats 1000000
attribute [local go_sem] Oper.qB Oper.qK
theorem join_intc : ∀ ls : List (List UInt8), Lib.join ls [32] = intc 32 ls
  | [] => by simp [Lib.join, intc]
  | [p] => by simp [Lib.join, intc]
  | p :: q :: ps => by
    have ih := join_intc (q :: ps)
    simp only [Lib.join, intc] at ih ⊢
    simp [ih]
theorem ordOk_at {l : List Wt} (h : ordOk l = true) {k : Nat} (hk : k < l.length) : l[k]!.b.ok = true ∧ 1 ≤ l[k]!.n ∧ l[k]!.n ≤ 144 := by
  simp only [ordOk, Bool.and_eq_true, decide_eq_true_iff] at h
  have := (h.1 k hk).1
  simp only [Wt.ok, Bool.and_eq_true, decide_eq_true_iff] at this
  exact ⟨this.1, this.2.1, this.2.2⟩
theorem wantT_len {x : Wt} (h : x.b.ok = true) (h1 : 1 ≤ x.n) (h2 : x.n ≤ 144) : (wantT x).length ≤ 4000 := by
  have := botT_len h
  have h3 := dec_short x.n.toNat
  unfold wantT
  rw [List.length_append, List.length_cons]
  omega
theorem intc_len (s : UInt8) (m : Nat) : ∀ ls : List (List UInt8), (∀ p ∈ ls, p.length ≤ m) → (intc s ls).length ≤ ls.length * (m + 1)
  | [], _ => by simp [intc]
  | [p], h => by
    have := h p (by simp)
    simp only [intc, List.length_cons, List.length_nil]
    omega
  | p :: q :: ps, h => by
    have h1 := h p (by simp)
    have ih := intc_len s m (q :: ps) fun r hr => h r (List.mem_cons_of_mem _ hr)
    simp only [intc, List.length_append, List.length_cons] at ih ⊢
    have e : (ps.length + 1 + 1) * (m + 1) = (ps.length + 1) * (m + 1) + (m + 1) := by rw [Nat.add_mul (ps.length + 1)]; omega
    omega
theorem ordT_len {l : List Wt} (h : ordOk l = true) : (ordT l).length ≤ 8 * 4001 := by
  have h8 : l.length ≤ 8 := by
    simp only [ordOk, Bool.and_eq_true, decide_eq_true_iff] at h
    exact h.2
  have := intc_len 32 4000 (l.map wantT) fun p hp => by
    obtain ⟨x, hx, rfl⟩ := List.mem_map.1 hp
    obtain ⟨i, hi, rfl⟩ := List.getElem_of_mem hx
    have h2 := ordOk_at h hi
    rw [getB hi] at h2
    exact wantT_len h2.1 h2.2.1 h2.2.2
  rw [List.length_map] at this
  have h3 : l.length * (4000 + 1) ≤ 8 * 4001 := Nat.mul_le_mul_right _ h8
  unfold ordT
  omega
theorem bxJn : Builder.Extra Tryz.prog Tryz.lx93_ren := { sizeBuilder := by kernel_rfl, liesBuilder := by kernel_rfl, t5 := Tryz.underlying5, a5 := Tryz.isAgg5, z5 := Tryz.sizeOf5, v5 := Tryz.zeroValue5, infoByte := by kernel_rfl, cellsByte := by kernel_rfl, sizeByte := by kernel_rfl, neB5 := by decide }
theorem Join_any (g c : Nat) (ls : List (List UInt8)) (w : World) (hC : Lies tcs w g ls) (hn : ls.length ≤ 1000000) (hc : ls.length ≤ c) (hl : (intc 32 ls).length ≤ 1000000) :
    Calls Tryz.prog 93 #[.slice (some ⟨g, 0, none⟩) ls.length c, .string ⟨#[32]⟩] w fun e w' => e = .returned (.string ⟨(intc 32 ls).toArray⟩) ∧ Below w.heap.size w w' := by
  have hm : (ls.map fun x => (⟨x.toArray⟩ : ByteArray)).map (·.data.toList) = ls := by
    rw [List.map_map]
    conv => rhs; rw [← List.map_id ls]
    exact List.map_congr_left fun x _ => by simp
  have := Any.strings_Join Tryz.lx93 bxJn g 0 c (ls.map fun x => (⟨x.toArray⟩ : ByteArray)) ⟨#[32]⟩ w (fun j x hx => by
    rw [List.getElem?_map] at hx
    cases hj : ls[j]? with
    | none => rw [hj] at hx; cases hx
    | some y =>
      rw [hj] at hx
      obtain rfl : (⟨y.toArray⟩ : ByteArray) = x := Option.some.inj hx
      exact hC.1 j _ (by
        have e : ∀ ls : List (List UInt8), fl tcs ls = ls.map fun x => .string ⟨x.toArray⟩ := fun ls => by
          induction ls with
          | nil => rfl
          | cons x ls ih => rw [fl_cons, ih]; rfl
        rw [e, List.getElem?_map, hj]; rfl)) hC.2 (by rw [List.length_map]; omega) (by rw [List.length_map]; exact hc) (by
      rw [hm]
      show (Lib.join ls [32]).length ≤ _
      rw [join_intc]
      omega)
  rw [List.length_map, hm] at this
  rw [← join_intc]
  exact this
/-- append(v, x), run: x's cell lies at the head of block g. -/
theorem app_t (B : Nat) (w : World) (v : Value) (l : List (List UInt8)) (y : List UInt8) (g : Nat) (HO : OwnS tcs w B 9 1 v l) (hr : w.cell? ⟨g, 0, none⟩ = some (.string ⟨y.toArray⟩)) (hB : B ≤ w.heap.size) (hn : l.length ≤ 100000000) (ty : TypeId) :
    ∃ v1 w1, (Builtin.append_ #[90, 90] ty #[v, .slice (some ⟨g, 0, none⟩) 1 1]).run Tryz.prog w = .ok v1 w1 ∧ OwnS tcs w1 B 9 1 v1 (l ++ [y]) ∧ Below B w w1 ∧ ∀ b, b < w.heap.size → v.ownBlock ≠ some b → w1.heap[b]? = w.heap[b]? := by
  obtain ⟨i0, hi, hzz⟩ := Option.map_eq_some_iff.1 infoStr
  simp only [Prod.mk.injEq] at hzz
  obtain ⟨hz0, hz1, hz2⟩ := hzz
  obtain ⟨v1, w1, hrun, hown, hg, -, -⟩ := run_append_own_at (P := Tryz.prog) w B 90 ty 9 i0 _ 1 16 Tryz.underlying90 hi hz0 hz1 hz2 rfl (by decide) v l.length (fl tcs l) HO.1 ⟨g, 0, none⟩ 1 1 (tcs y) rfl
    (fun j u hj => by
      rw [addr_at]
      match j, hj with
      | 0, hj => rw [← hj]; exact hr
      | j + 1, hj => simp [tcs] at hj) (tcs_one y) (by simp only [maxLen]; omega) (by omega) hB
  have hb := (Below.refl B w).grown hg hB (fun k hk => own_base HO.1 k hk)
  exact ⟨v1, w1, hrun, OwnS.grown (by rw [List.length_append, fl_append, fl_one]; exact hown), hb, fun b hb1 hv => hg.block b hb1 (fun e => hv e.symm)⟩
theorem sziBot2 (b : Bt) : (Tryz.prog.info? 26).map (·.size) = some (bc b).length := by rw [bc_length]; kernel_rfl
theorem OrderText_any (b off c : Nat) (l : List Wt) (w : World) (hC : CAt w b off (fl wc l)) (hb : b < w.heap.size) (hn : l.length ≤ 1048576) (ht : Tab w) :
    Calls Tryz.prog 39 #[.slice (some ⟨b, off, none⟩) l.length c] w fun e w' => e = .returned (.string ⟨(if ordOk l = true then ordT l else []).toArray⟩) ∧ Below w.heap.size w w' := by
  have HC := Lib.hid (⟨hC, hb⟩ : _ ∧ _)
  have HV := Lib.hid (ValidOrder_any b off c l w hC hb (by omega))
  clear hC hb
  have HT := Lib.hid ht
  generalize hT : (if ordOk l = true then ordT l else []) = t
  have H := Below.refl w.heap.size w
  cases e1 : ordOk l with
  | false =>
    have e2 := Lib.hid e1
    obtain rfl : t = [] := by rw [← hT, e1]; rfl
    clear hT e1
    go_enter Tryz.func39, Tryz.ntmps39
    go_wp2_with (go_at_call 50; go_loud (refine HV.out.mono ?_; rintro e w' ⟨rfl, hb⟩; rw [e2.out]; replace H := bstep H hb; clear hb))
    go_ret
    exact ⟨rfl, H⟩
  | true =>
    have e2 := Lib.hid e1
    obtain rfl : t = ordT l := by rw [← hT, e1]; rfl
    have HOK := Lib.hid (fun k hk => @ordOk_at l e1 k hk)
    have HLN := Lib.hid (ordT_len e1)
    have h8 : l.length ≤ 8 := by
      simp only [ordOk, Bool.and_eq_true, decide_eq_true_iff] at e1
      exact e1.2
    clear hT e1
    go_enter Tryz.func39, Tryz.ntmps39
    go_upto_region 3 with (go_at_call 50; go_loud (refine HV.out.mono ?_; rintro e w' ⟨rfl, hb⟩; rw [e2.out]; replace H := bstep H hb; clear hb))
    go_wp2
    go_loopw [3, 12] (fun v i wr => ∃ k : Nat, k ≤ l.length ∧ i = .int .i64 k ∧ Hid (OwnS tcs wr w.heap.size 9 1 v ((l.take k).map wantT)) ∧ Below w.heap.size w wr) (fun _ i _ => l.length - (intOf i).toNat)
    case atStart => exact ⟨0, Nat.zero_le _, rfl, OwnS.lit H.size, H.alloc H.size _⟩
    case round =>
      obtain ⟨k, hk, rfl, HO, hb⟩ := hrel
      by_cases hlt : k < l.length
      · have HX := (HC.out.1.below hb HC.out.2).el wc_length hlt
        have hok := HOK.out k hlt
        have hlt2 : (k : Int) < (l.length : Int) := by omega
        have HTK : Hid ((l.take (k + 1)).map wantT = (l.take k).map wantT ++ [wantT l[k]!]) := by
          rw [Hid, List.take_succ_eq_append_getElem hlt, List.map_append, getB hlt]
          rfl
        generalize l[k]! = x at HX hok HTK
        have x0 : wr.cell? ⟨b, off + k * 3, none⟩ = some (.int .u8 x.b.k) := HX 0 _ rfl
        have x1 : wr.cell? ⟨b, off + k * 3 + 1, none⟩ = some (.int .i16 x.b.y) := HX 1 _ rfl
        have x2 : wr.cell? ⟨b, off + k * 3 + 2, none⟩ = some (.int .i16 x.n) := HX 2 _ rfl
        clear HX
        go_upto_region 7 with fail
        generalize hW5 : World.alloc wr (.cells #[.int .u8 x.b.k, .int .i16 x.b.y, .int .i16 x.n] 81) = W5
        have hB5 : Below wr.heap.size wr W5 := by rw [← hW5]; exact (Below.refl _ wr).alloc (Nat.le_refl _) _
        have r5 : rowOf W5 wr.heap.size = some (#[.int .u8 x.b.k, .int .i16 x.b.y, .int .i16 x.n] : Array Value) := by rw [← hW5, rowOf_alloc, if_pos rfl]
        clear hW5 x0 x1 x2
        have hg5 := rowOf_lt r5
        have HO5 := Lib.hid (HO.out.kept hB5)
        have hb5 := bstep hb hB5
        have HT5 := Lib.hid (HT.out.below hb5)
        clear hB5
        have hv5 : u3.ownBlock ≠ some wr.heap.size := fun e => Nat.lt_irrefl _ (own_lt HO.out.1 _ e)
        generalize wr.heap.size = g5 at r5 hg5 hv5 ⊢
        have HBT := fun W hW => BottleText_any x.b W hW
        have hif : (if x.b.ok = true then botT x.b else []) = botT x.b := if_pos hok.1
        rw [hif] at HBT
        have HDT := fun W hW => decimal_any x.n (by omega) (by omega) W hW
        have hs1 := size_text (botT x.b)
        have hs2 := size_text (Lib.itoa x.n)
        have hl1 := botT_len hok.1
        have hl2 := itoa_short (n := x.n) (by omega) (by omega)
        have hwl := Lib.hid (show (⟨(wantT x).toArray⟩ : ByteArray) = (⟨(botT x.b).toArray⟩ : ByteArray) ++ ⟨#[120]⟩ ++ ⟨(Lib.itoa x.n).toArray⟩ by
          rw [itoa_nat (by omega)]
          unfold wantT
          refine ByteArray.ext ?_
          simp [ByteArray.data_append])
        generalize (⟨(botT x.b).toArray⟩ : ByteArray) = SA at HBT hs1 hwl
        generalize (⟨(Lib.itoa x.n).toArray⟩ : ByteArray) = SB at HDT hs2 hwl
        have f1 : ¬ (9223372036854775807 < SA.size + 1) := by omega
        have f2 : ¬ (9223372036854775807 < SA.size + 1 + SB.size) := by omega
        have hwn : IntKind.i64.wrap x.n = x.n := by rw [IntKind.wrap_i64]; omega
        clear hs1 hs2 hl1 hl2 hif
        replace HBT := Lib.hid HBT
        replace HDT := Lib.hid HDT
        have hrs : ∀ w2 w3 : World, rowOf w2 g5 = some (#[.int .u8 x.b.k, .int .i16 x.b.y, .int .i16 x.n] : Array Value) → BelowOf w2 w3 → rowOf w3 g5 = some (#[.int .u8 x.b.k, .int .i16 x.b.y, .int .i16 x.n] : Array Value) := fun w2 w3 h hb => row_kept h hb
        have CB : ∀ w2, (Below w.heap.size w w2 ∧ rowOf w2 g5 = some (#[.int .u8 x.b.k, .int .i16 x.b.y, .int .i16 x.n] : Array Value)) → ∀ i v, (bc x.b)[i]? = some v → w2.cell? ⟨g5, 0 + i, none⟩ = some v := fun w2 hw i v hi => by
          rw [Nat.zero_add, rowOf_cell hw.2]
          match i, hi with
          | 0, hi => exact hi
          | 1, hi => exact hi
          | i + 2, hi => simp [bc] at hi
        have CN : ∀ p : {w2 : World // Fact.p ⟨fun w2 => Below w.heap.size w w2 ∧ rowOf w2 g5 = some (#[.int .u8 x.b.k, .int .i16 x.b.y, .int .i16 x.n] : Array Value), fun w2 w3 h hb => ⟨bstep h.1 hb, row_kept h.2 hb⟩⟩ w2}, p.1.cell? ⟨g5, 2, none⟩ = some (.int .i16 x.n) := fun p => by
          have h : Below w.heap.size w p.1 ∧ rowOf p.1 g5 = some (#[.int .u8 x.b.k, .int .i16 x.b.y, .int .i16 x.n] : Array Value) := p.2
          rw [rowOf_cell h.2]
          rfl
        have hq0 : Below w.heap.size w W5.drew ∧ rowOf W5.drew g5 = some (#[.int .u8 x.b.k, .int .i16 x.b.y, .int .i16 x.n] : Array Value) := ⟨hb5.drew, r5⟩
        refine e_start ⟨fun w2 => Below w.heap.size w w2 ∧ rowOf w2 g5 = some (#[.int .u8 x.b.k, .int .i16 x.b.y, .int .i16 x.n] : Array Value), fun w2 w3 h hb => ⟨bstep h.1 hb, row_kept h.2 hb⟩⟩ ⟨fun w2 => OwnS tcs w2 w.heap.size 9 1 u3 ((l.take k).map wantT), fun w2 w3 h hb => h.kept hb⟩ hq0 HO5.out 13 rfl (by kernel_rfl) ?_
        haveI : Nonempty {w2 : World // Fact.p ⟨fun w2 => Below w.heap.size w w2 ∧ rowOf w2 g5 = some (#[.int .u8 x.b.k, .int .i16 x.b.y, .int .i16 x.n] : Array Value), fun w2 w3 h hb => ⟨bstep h.1 hb, row_kept h.2 hb⟩⟩ w2} := ⟨⟨_, hq0⟩⟩
        (refine e_quiet 0 (by kernel_rfl) rfl (fun K hK => ?_); first | ((first | (refine qK_CAt rfl _ _ rfl _ _ rfl (bc x.b) CB _ Tryz.underlying26 rfl (sziBot2 x.b) (hK _ ?_))); clear hK K) | (go_simp; first | (refine hK _ ?_; clear hK K) | (apply Exists.intro; refine ⟨?_, hK _ ?_⟩; (intros; first | (go_at_call 11 <;> exact HBT.out _ (HT.out.below (by assumption))) | (go_at_call 66 <;> exact HDT.out _ (HT.out.below (by assumption)))); clear hK K)))
        (refine e_quiet 1 (by kernel_rfl) rfl (fun K hK => ?_); first | ((first | (refine qK_CAt rfl _ _ rfl _ _ rfl (bc x.b) CB _ Tryz.underlying26 rfl (sziBot2 x.b) (hK _ ?_))); clear hK K) | (go_simp; first | (refine hK _ ?_; clear hK K) | (apply Exists.intro; refine ⟨?_, hK _ ?_⟩; (intros; first | (go_at_call 11 <;> exact HBT.out _ (HT.out.below (by assumption))) | (go_at_call 66 <;> exact HDT.out _ (HT.out.below (by assumption)))); clear hK K)))
        (refine e_quiet 2 (by kernel_rfl) rfl (fun K hK => ?_); first | ((first | (refine qK_CAt rfl _ _ rfl _ _ rfl (bc x.b) CB _ Tryz.underlying26 rfl (sziBot2 x.b) (hK _ ?_))); clear hK K) | (go_simp; first | (refine hK _ ?_; clear hK K) | (apply Exists.intro; refine ⟨?_, hK _ ?_⟩; (intros; first | (go_at_call 11 <;> exact HBT.out _ (HT.out.below (by assumption))) | (go_at_call 66 <;> exact HDT.out _ (HT.out.below (by assumption)))); clear hK K)))
        refine e_quiet 3 (by kernel_rfl) rfl (fun K hK => ?_)
        go_simp
        refine ⟨_, fun w2 h1 h2 => HBT.out _ (HT.out.below h1), hK _ ?_⟩
        clear hK K
        (refine e_quiet 4 (by kernel_rfl) rfl (fun K hK => ?_); first | ((first | fail); clear hK K) | (go_simp; first | (refine hK _ ?_; clear hK K) | (apply Exists.intro; refine ⟨?_, hK _ ?_⟩; (intros; first | fail); clear hK K)))
        (refine e_quiet 5 (by kernel_rfl) rfl (fun K hK => ?_); first | ((first | fail); clear hK K) | (go_simp; first | (refine hK _ ?_; clear hK K) | (apply Exists.intro; refine ⟨?_, hK _ ?_⟩; (intros; first | fail); clear hK K)))
        (refine e_quiet 6 (by kernel_rfl) rfl (fun K hK => ?_); first | ((first | fail); clear hK K) | (go_simp; first | (refine hK _ ?_; clear hK K) | (apply Exists.intro; refine ⟨?_, hK _ ?_⟩; (intros; first | fail); clear hK K)))
        (refine e_quiet 7 (by kernel_rfl) rfl (fun K hK => ?_); first | ((first | fail); clear hK K) | (go_simp; first | (refine hK _ ?_; clear hK K) | (apply Exists.intro; refine ⟨?_, hK _ ?_⟩; (intros; first | fail); clear hK K)))
        refine e_quiet 8 (by kernel_rfl) rfl (fun K hK => ?_)
        go_simp
        refine ⟨_, fun w2 h1 h2 => HDT.out _ (HT.out.below h1), hK _ ?_⟩
        clear hK K
        (refine e_quiet 9 (by kernel_rfl) rfl (fun K hK => ?_); first | ((first | fail); clear hK K) | (go_simp; first | (refine hK _ ?_; clear hK K) | (apply Exists.intro; refine ⟨?_, hK _ ?_⟩; (intros; first | fail); clear hK K)))
        refine e_alone 10 (by kernel_rfl) rfl rfl (fun K hK wx hP hG => ?_)
        go_simp
        refine e_val ⟨fun w2 => OwnS tcs w2 w.heap.size 9 1 u3 ((l.take k).map wantT) ∧ (w2.cell? ⟨wx.heap.size, 0, none⟩ = some (.string ⟨(wantT x).toArray⟩) ∧ wx.heap.size < w2.heap.size), fun w2 w3 h hb => ⟨h.1.kept hb, (hb.cell h.2.2).trans h.2.1, Nat.lt_of_lt_of_le h.2.2 hb.size⟩⟩ rfl ⟨hP.1.alloc hP.1.size _, row_kept hP.2 ((Below.refl _ wx).alloc (Nat.le_refl _) _)⟩ ⟨hG.kept ((Below.refl _ wx).alloc (Nat.le_refl _) _), by rw [hwl.out]; simp [go_sem], by simp⟩ (hK _ _ ?_)
        clear hK K hP hG
        generalize wx.heap.size = g10
        refine e_alone 11 (by kernel_rfl) rfl rfl (fun K hK wy hP hG => ?_)
        obtain ⟨v1, w1, hrun, O1, hb1, hkp⟩ := app_t w.heap.size wy u3 ((l.take k).map wantT) (wantT x) g10 hG.1 hG.2.1 hP.1.size (by rw [List.length_map, List.length_take]; omega) 90
        refine e_val ⟨fun w2 => OwnS tcs w2 w.heap.size 9 1 v1 ((l.take k).map wantT ++ [wantT x]), fun w2 w3 h hb => h.kept hb⟩ (app_exec _ _ _ rfl _ _ rfl rfl v1 hrun) ⟨hP.1.trans hb1, ?_⟩ O1 (hK _ _ ?_)
        · have hr5 : rowOf wy g5 = some (#[.int .u8 x.b.k, .int .i16 x.b.y, .int .i16 x.n] : Array Value) := hP.2
          unfold rowOf at hr5 ⊢
          rw [hkp g5 (rowOf_lt hP.2) hv5]
          exact hr5
        clear hK K hP hG hrun O1 hb1 hkp wx wy
        (refine e_quiet 12 (by kernel_rfl) rfl (fun K hK => ?_); first | ((first | fail); clear hK K) | (go_simp; first | (refine hK _ ?_; clear hK K) | (apply Exists.intro; refine ⟨?_, hK _ ?_⟩; (intros; first | fail); clear hK K)))
        refine e_done (by kernel_rfl) ?_
        rintro w6 hP hG
        go_wp2
        go_roundw
        case rel => exact ⟨k + 1, by omega, by go_num, by rw [HTK.out]; exact hG, hP.1⟩
        case measure => simp [intOf]; omega
      · obtain rfl : k = l.length := by omega
        obtain ⟨g, cp, rfl, HL, -, -, hcp⟩ := HO.out.lies
        rw [List.take_length] at HL hcp ⊢
        have HJ := Join_any g cp (l.map wantT) wr HL (by rw [List.length_map]; omega) hcp (Nat.le_trans HLN.out (by decide))
        rw [List.length_map] at HJ
        replace HJ := Lib.hid HJ
        go_wp2_with (go_at_call 93; go_loud (refine HJ.out.mono ?_; rintro e w2 ⟨rfl, hb2⟩))
        go_ret
        exact ⟨rfl, bstep hb hb2⟩
end Go.Proofs.YtbngpcghognojaaGreatDoor
namespace Go.Proofs.YtbngpcghognojaaGreatDoor
open Go Go.RowKit
set_option linter.unusedVariables false
set_option linter.unusedSimpArgs false
set_option maxRecDepth 100000
set_option maxHeartbeats 1000000
section
variable {Γ : Type} {Cl : Γ → World → Prop} {P : Program} {ops : Array Oper} {md : Region.Mode}
/-- Whatever order is picked, up to the last operation. -/
def AnyL (Cl : Γ → World → Prop) (P : Program) (md : Region.Mode) (ops : Array Oper) (Q : Exit → Act → World → Prop) (L : Nat) : Nat → Γ → Array Bool → Act → Prop
  | 0, γ, d, a => Region.ready md ops d = [L] ∧ ∀ w, Cl γ w → wpAny P md ops Q 1 d a w
  | k + 1, γ, d, a => Region.ready md ops d ≠ [] ∧ ∀ i ∈ Region.ready md ops d, ∀ o, ops[i]? = some o → gOp Cl P ops o γ (fun a' γ' => AnyL Cl P md ops Q L k γ' (d.setIfInBounds i true) a') a
theorem AnyL.any {Q : Exit → Act → World → Prop} {L : Nat} (k : Nat) : ∀ γ d a, AnyL Cl P md ops Q L k γ d a → ∀ w, Cl γ w → wpAny P md ops Q (k + 1) d a w := by
  induction k with
  | zero => exact fun γ d a h w hw => h.2 w hw
  | succ k ih =>
    intro γ d a h w hw
    refine ⟨fun e => absurd e h.1, fun i hi => ?_⟩
    obtain ⟨_, o, ho, _⟩ := mem_ready.1 hi
    have hg := h.2 i hi o ho
    unfold wpOp
    rw [ho]
    unfold gOp at hg
    show if _ then _ else _
    split
    · rename_i hw'
      rw [if_pos hw'] at hg
      refine .inl ?_
      have hu := hg w hw
      unfold Oper.wp
      generalize (execOp a.eval o).run P w = r at hu
      cases r with
      | halt x w => exact hu.elim
      | ok n w =>
        cases n <;> try exact hu.elim
        case value u =>
          obtain ⟨γ', h1, h2⟩ := hu
          exact ih _ _ _ h2 _ h1
        case skip =>
          obtain ⟨γ', h1, h2⟩ := hu
          exact ih _ _ _ h2 _ h1
        case enter f args =>
          refine Calls.mono hu ?_
          rintro e w'' ⟨v, γ', rfl, h1, h2⟩
          exact ih _ _ _ h2 _ h1
    · rename_i hw'
      rw [if_neg hw'] at hg
      exact ih _ _ _ hg _ hw
/-- The last operation waits for this one. -/
def waitsB (md : Region.Mode) (ops : Array Oper) (L i : Nat) : Bool := match ops[L]? with
  | some o => o.after.any fun e => Region.binds md e && e.on == i
  | none => false
theorem waits_not {L i : Nat} (h : waitsB md ops L i = true) {d : Array Bool} (hr : i ∈ Region.ready md ops d) : L ∉ Region.ready md ops d := by
  intro hL
  have hun := (mem_ready.1 hr).1
  obtain ⟨_, o, ho, hall⟩ := mem_ready.1 hL
  unfold waitsB at h
  rw [ho] at h
  obtain ⟨e, he, hb⟩ := Array.any_eq_true'.1 h
  rw [Bool.and_eq_true, beq_iff_eq] at hb
  have h0 := hall e he hb.1
  rw [hb.2] at h0
  rcases Nat.lt_or_ge i d.size with h' | h'
  · simp [h'] at h0 hun
    rw [hun] at h0
    cases h0
  · simp [Array.getElem?_eq_none h'] at h0
theorem AnyL.first {Q : Exit → Act → World → Prop} {i L : Nat} {o : Oper} {v : Value} (hi : ops[i]? = some o) (hsel : ∀ (j : Nat) (x : Oper) cs b, ops[j]? = some x → x.op ≠ .select cs b) (hw : waitsB md ops L i = true) (k : Nat) :
    ∀ γ d a, (∀ j x, ops[j]? = some x → j ≠ i → d.getD j true = false → (∀ e ∈ x.after, Region.binds md e = true → e.on ≠ i) → o.apart ops x = true) →
      i ∈ Region.ready md ops d → YieldsG Cl P ops o v a → AnyL Cl P md ops Q L k γ (d.setIfInBounds i true) (a.put o.dst v) → AnyL Cl P md ops Q L (k + 1) γ d a := by
  induction k with
  | zero =>
    intro γ d a _ hr hy h
    refine ⟨List.ne_nil_of_mem hr, fun j hj x hx => ?_⟩
    by_cases e : j = i
    · subst e
      obtain rfl : x = o := Option.some.inj (hx.symm.trans hi)
      exact hy.gOp h
    · have h1 := ready_mono (i := i) hj e
      rw [h.1, List.mem_singleton] at h1
      subst h1
      exact absurd hj (waits_not hw hr)
  | succ k ih =>
    intro γ d a hfree hr hy h
    have hun := (mem_ready.1 hr).1
    refine ⟨List.ne_nil_of_mem hr, fun j hj x hx => ?_⟩
    by_cases e : j = i
    · subst e
      obtain rfl : x = o := Option.some.inj (hx.symm.trans hi)
      exact hy.gOp h
    obtain ⟨hju, x', hx', hall⟩ := mem_ready.1 hj
    obtain rfl : x' = x := Option.some.inj (hx'.symm.trans hx)
    have hno : ∀ t ∈ x'.after, Region.binds md t = true → t.on ≠ i := by
      intro t ht hb heq
      have h0 := hall t ht hb
      rw [heq] at h0
      rcases Nat.lt_or_ge i d.size with h' | h'
      · simp [h'] at h0 hun
        rw [hun] at h0
        cases h0
      · simp [Array.getElem?_eq_none h'] at h0
    refine (gOp_put (hfree j x' hx e hju hno) (fun cs b => hsel i o cs b hi) (fun cs b => hsel j x' cs b hx) hy (h.2 j (ready_mono hj e) x' hx)).mono ?_
    rintro a' γ' ⟨hy', h'⟩
    refine ih γ' _ a' (fun m y hm hmi hd => hfree m y hm hmi ?_) (ready_mono hr (Ne.symm e)) hy' (by rw [Array.setIfInBounds_comm _ _ e]; exact h')
    by_cases em : j = m
    · rw [← em]
      exact hju
    · rwa [getD_set_ne true em] at hd
end
section
variable {P : Program} {ops : Array Oper} {md : Region.Mode} {Q : Exit → Act → World → Prop} {k j L : Nat} {ws : List World} {w w' : World} {d : Array Bool} {a : Act}
theorem l_start {id : Nat} {Q : Exit → Act → World → Prop} {a : Act} {w : World} (L n : Nat) (ws : List World) (h0 : ws[0]? = some w.drew) (hn : ops.size = n + 1) (hm : P.follows .mixedOrders = true)
    (h : AnyL (At ws) P .any ops Q L n 0 (Array.replicate (n + 1) false) a) : (Code.region id ops true).wp P Q a w := by
  have := AnyL.any _ _ _ _ h _ h0
  rw [← hn] at this
  exact wp_region_any hm this
theorem l_done {o : Oper} (w : World) (hj : ws[j]? = some w) (hB : (Region.ready md ops d == [L] && (Region.ready md ops (d.setIfInBounds L true)).isEmpty) = true) (ho : ops[L]? = some o) (h : wpList P ops Q [o] a w) : AnyL (At ws) P md ops Q L 0 j d a := by
  simp only [Bool.and_eq_true, beq_iff_eq, List.isEmpty_iff] at hB
  refine ⟨hB.1, fun w' hw => ?_⟩
  obtain rfl : w' = w := Option.some.inj ((show ws[j]? = some w' from hw).symm.trans hj)
  refine ⟨fun e => absurd e (by rw [hB.1]; simp), fun i hi => ?_⟩
  rw [hB.1, List.mem_singleton] at hi
  subst hi
  unfold wpOp
  rw [ho]
  have e : wpAny P md ops Q 0 (d.setIfInBounds i true) = fun a w => Q .normal a w := by
    funext a w
    simp [wpAny, hB.2]
  rw [e]
  exact h
/-- Quiet in all these worlds, and the last operation waits for it: it may as well come now. -/
theorem l_quiet (i : Nat) {o : Oper} (hB : (Region.noSelect ops && ((Region.ready md ops d).contains i && (Region.free md ops d i && waitsB md ops L i))) = true) (ho : ops[i]? = some o)
    (h : ∀ K : Act → Prop, (∀ a, AnyL (At ws) P md ops Q L k j (d.setIfInBounds i true) a → K a) → if Region.wanted o (yielded ops a.tmps) then ∃ v, (∀ w ∈ ws, o.quietAt P a (fun w'' => w'' = w) w v) ∧ K (a.put o.dst v) else K (a.put o.dst undef)) : AnyL (At ws) P md ops Q L (k + 1) j d a := by
  simp only [Bool.and_eq_true] at hB
  have hf := h _ fun _ h => h
  have hr : i ∈ Region.ready md ops d := by simpa using hB.2.1
  split at hf
  · rename_i hw
    obtain ⟨v, h1, h2⟩ := hf
    refine AnyL.first ho (Region.noSelect_spec hB.1) hB.2.2.2 k j d a (Region.free_spec ho hB.2.2.1) hr (.inl ⟨hw, fun γ w hL => ?_⟩) h2
    have hq := h1 w (List.mem_of_getElem? hL)
    unfold Oper.quietAt at hq ⊢
    generalize (execOp a.eval o).run P _ = r at hq ⊢
    cases r with
    | halt x w => exact hq
    | ok n w =>
      cases n <;> try exact hq
      case enter f args => exact ⟨hq.1, Calls.mono hq.2 fun e w'' ⟨he, hb⟩ => ⟨he, by rw [hb]; exact hL⟩⟩
  · rename_i hw
    exact AnyL.first ho (Region.noSelect_spec hB.1) hB.2.2.2 k j d a (Region.free_spec ho hB.2.2.1) hr (.inr ⟨by simpa using hw, rfl⟩) hf
/-- Alone ready; the world may become the next one. -/
theorem l_step (i : Nat) {o : Oper} (j' : Nat) (w w' : World) (hj : ws[j]? = some w) (hj' : ws[j']? = some w') (hB : (Region.ready md ops d == [i]) = true) (ho : ops[i]? = some o) (hg : o.guard = none)
    (h : ∀ K : Act → Prop, (∀ a, AnyL (At ws) P md ops Q L k j' (d.setIfInBounds i true) a → K a) → Goes P o a w w' K) : AnyL (At ws) P md ops Q L (k + 1) j d a := by
  have hr : Region.ready md ops d = [i] := by simpa using hB
  refine ⟨by rw [hr]; simp, fun m hm x hx => ?_⟩
  rw [hr] at hm
  obtain rfl : m = i := by simpa using hm
  obtain rfl : x = o := Option.some.inj (hx.symm.trans ho)
  exact (h _ fun _ h => h).gOp (K := fun a' γ' => AnyL (At ws) P md ops Q L k γ' (d.setIfInBounds m true) a') hg hj hj'
end
section
variable {P : Program} {o : Oper} {a : Act} {w w' : World} {k : Act → Prop}
/-- What is run, run. -/
theorem Goes.value {v : Value} (h : (execOp a.eval o).run P w = .ok (.value v) w') (hk : k (a.put o.dst v)) : Goes P o a w w' k := by
  unfold Goes
  rw [h]
  exact ⟨rfl, hk⟩
theorem Goes.skip (h : (execOp a.eval o).run P w = .ok .skip w') (hk : k (a.put o.dst undef)) : Goes P o a w w' k := by
  unfold Goes
  rw [h]
  exact ⟨rfl, hk⟩
end
end Go.Proofs.YtbngpcghognojaaGreatDoor
