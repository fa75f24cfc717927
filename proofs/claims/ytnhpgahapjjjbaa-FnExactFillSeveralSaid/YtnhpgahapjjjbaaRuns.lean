/- Contracts of CountsIn: how many bottles there are of each. -/
import Derived.Test.YtnhpgahapjjjbaaWhole
import Derived.Maps.AppendAt
namespace Go.Proofs.Ytnhpgahapjjjbaa
open Go Go.RowKit
set_option linter.unusedVariables false
set_option linter.unusedSimpArgs false
set_option maxRecDepth 100000
set_option maxHeartbeats 1000000
attribute [local go_sem] Oper.qB
/-- A bottle and how many. -/
structure Ct where
  b : Bt
  n : Int
instance : Inhabited Ct := ⟨⟨zB, 0⟩⟩
def nc (x : Ct) : List Value := [.int .u8 x.b.k, .int .i16 x.b.y, .int .i64 x.n]
theorem nc_length (x : Ct) : (nc x).length = 3 := rfl
theorem nc_one (x : Ct) : ∀ u ∈ nc x, u.oneCell' = true := by
  intro u hu
  simp [nc] at hu
  rcases hu with rfl | rfl | rfl <;> rfl
/-- One bottle more. -/
def stepC (out : List Ct) (b : Bt) : List Ct :=
  match out.getLast? with
  | some x => if x.b = b then out.dropLast ++ [⟨b, x.n + 1⟩] else out ++ [⟨b, 1⟩]
  | none => [⟨b, 1⟩]
def runs (l : List Bt) : List Ct := l.foldl stepC []
theorem stepC_nil (b : Bt) : stepC [] b = [⟨b, 1⟩] := rfl
theorem stepC_same (o : List Ct) (x : Ct) {b : Bt} (h : x.b = b) : stepC (o ++ [x]) b = o ++ [⟨b, x.n + 1⟩] := by
  simp [stepC, h]
theorem stepC_new (o : List Ct) (x : Ct) {b : Bt} (h : x.b ≠ b) : stepC (o ++ [x]) b = (o ++ [x]) ++ [⟨b, 1⟩] := by
  simp [stepC, h]
theorem runs_step {l : List Bt} {k : Nat} (hk : k < l.length) : runs (l.take (k + 1)) = stepC (runs (l.take k)) l[k]! := by
  unfold runs
  rw [List.take_succ_eq_append_getElem hk, List.foldl_append, getB hk]
  rfl
theorem stepC_last (out : List Ct) (b : Bt) : ∃ o x, stepC out b = o ++ [x] ∧ x.b = b := by
  rcases List.eq_nil_or_concat out with rfl | ⟨o, x, rfl⟩
  · exact ⟨[], _, rfl, rfl⟩
  · rw [List.concat_eq_append]
    by_cases h : x.b = b
    · exact ⟨o, _, stepC_same o x h, rfl⟩
    · exact ⟨o ++ [x], _, stepC_new o x h, rfl⟩
theorem runs_bound (l : List Bt) : ∀ k, k ≤ l.length → (runs (l.take k)).length ≤ k ∧ ∀ x ∈ runs (l.take k), 0 ≤ x.n ∧ x.n ≤ k
  | 0, _ => by simp [runs]
  | k + 1, h => by
    obtain ⟨h1, h2⟩ := runs_bound l k (by omega)
    rw [runs_step (by omega)]
    generalize runs (l.take k) = out at h1 h2
    generalize l[k]! = b
    rcases List.eq_nil_or_concat out with rfl | ⟨o, x, rfl⟩
    · rw [stepC_nil]
      refine ⟨by simp, fun x hx => ?_⟩
      obtain rfl : x = _ := by simpa using hx
      exact ⟨by show (0 : Int) ≤ 1; decide, by show (1 : Int) ≤ _; omega⟩
    · rw [List.concat_eq_append] at *
      by_cases h : x.b = b
      · rw [stepC_same o x h]
        refine ⟨by simp at h1 ⊢; omega, fun y hy => ?_⟩
        rcases List.mem_append.1 hy with hy | hy
        · have := h2 y (List.mem_append_left _ hy)
          omega
        · obtain rfl : y = _ := by simpa using hy
          have := h2 x (by simp)
          show 0 ≤ x.n + 1 ∧ x.n + 1 ≤ _
          omega
      · rw [stepC_new o x h]
        refine ⟨by simp at h1 ⊢; omega, fun y hy => ?_⟩
        rcases List.mem_append.1 hy with hy | hy
        · have := h2 y hy
          omega
        · obtain rfl : y = _ := by simpa using hy
          exact ⟨by show (0 : Int) ≤ 1; decide, by show (1 : Int) ≤ _; omega⟩
def countsR (L : List Cr) : List Ct × Int := if stackOk L = true then (runs (sortB (wholeL L)), 0) else ([], 1)
theorem countsR_le (L : List Cr) : (countsR L).1.length ≤ 144 := by
  unfold countsR
  split
  · rename_i h
    have h1 := stack_le h
    have h2 := wholeL_le L
    have h3 := (runs_bound (sortB (wholeL L)) _ (Nat.le_refl _)).1
    rw [List.take_length, sortB_length] at h3
    show (runs _).length ≤ 144
    omega
  · simp
theorem fl_number {o : List Ct} {x : Ct} (m : Int) : (fl nc (o ++ [x])).set (o.length * 3 + 2) (.int .i64 m) = fl nc (o ++ [⟨x.b, m⟩]) := by
  have e : (fl nc o).length = o.length * 3 := fl_length nc_length o
  rw [fl_append, fl_append, fl_one, fl_one, List.set_append_right _ _ (by omega), e, Nat.add_sub_cancel_left]
  rfl
/-- Whatever block lay apart from a slice lies apart from another one. -/
def Away (v v1 : Value) (W : World) : Prop := ∀ b, b < W.heap.size → v.ownBlock ≠ some b → v1.ownBlock ≠ some b
section
variable {P : Program} {ops : Array Oper} {rest : List Oper} {o : Oper} {a : Act} {Q : Exit → Act → World → Prop} {W : World}
/-- append(v, x), with all that has not changed, and where the new slice lies. -/
theorem wp_app3 (B : Nat) (hgd : o.guard = none) (s x : Operand) (t e : TypeId) (ho : o.op = .call { callee := .builtin .append, args := #[s, x], argTypes := #[t, t] })
    (z : Value) (size bytes : Nat) (ht : P.underlying t = some (.slice e)) (hinfo : (P.info? e).map (fun i => (i.zero, i.size, i.bytes)) = some (some z, size, bytes)) (hzs : z.cells.size = size) (hsz : 0 < size)
    (v : Value) (n : Nat) (xs news : List Value) (hs : a.eval s = v) (g : Nat) (hx : a.eval x = .slice (some ⟨g, 0, none⟩) 1 1) (hg : g = W.heap.size) (hl : news.length = size) (h1 : ∀ u ∈ news, u.oneCell' = true)
    (HO : W.ownsRow B e size v n xs) (hB : B ≤ W.heap.size) (hn : n + 1 ≤ 1000000000) (hby : bytes ≤ 1000)
    (h : ∀ v1 w1, w1.ownsRow B e size v1 (n + 1) (xs ++ news) → (Below B W w1 ∧ ButV v W w1 ∧ Away v v1 W) → wpList P ops Q rest (a.put o.dst v1) w1) : wpList P ops Q (o :: rest) a (W.alloc (.cells news.toArray e)) := by
  subst hg
  obtain ⟨i0, hi, hzz⟩ := Option.map_eq_some_iff.1 hinfo
  simp only [Prod.mk.injEq] at hzz
  obtain ⟨hz0, hz1, hz2⟩ := hzz
  obtain ⟨v1, w1, hrun, hown, hg, -, hblk⟩ := run_append_own_at (P := P) (W.alloc (.cells news.toArray e)) B t o.type e i0 z size bytes ht hi hz0 hz1 hz2 hzs hsz v n xs (HO.alloc _) ⟨W.heap.size, 0, none⟩ 1 1 news (by omega)
    (fun j u hj => by rw [addr_at]; simp only [World.cell?_alloc_new]; simpa using hj) h1 (by simp only [maxLen]; omega)
    (by calc (n + 1) * bytes ≤ 1000000000 * 1000 := Nat.mul_le_mul hn hby
      _ ≤ 140737488355328 := by decide) (by simp; omega)
  have hb := ((Below.refl B W).alloc hB _).grown hg (by simp; omega) (fun k hk => own_base HO k hk)
  refine wpList_plain hgd fun K hK => ?_
  unfold Oper.wp execOp
  simp only [ho, resolve, invoke, builtin, Sem.run_bind, Sem.run_pure, Result.andThen_ok, List.map_toArray, List.map_cons, List.map_nil, hs, hx, hrun]
  refine hK _ _ (h v1 w1 hown ⟨hb, ⟨⟨hb.os, hb.tape, hb.output, hb.size, fun k hk => absurd hk (Nat.not_lt_zero _)⟩, fun b hb1 hv => ?_⟩, fun b hb1 hv he => ?_⟩)
  · rw [hg.block b (by simp; omega) (fun e => hv e.symm)]
    exact (Below.refl W.heap.size W).alloc (Nat.le_refl _) (.cells news.toArray e) |>.block b hb1
  · rcases hblk with h | h
    · rw [h] at he
      exact hv he
    · rw [h] at he
      simp at he
      omega
end
theorem lies_but {α : Type} {f : α → List Value} {w w' : World} {g : Nat} {l : List α} {v : Value} (h : Lies f w g l) (hb : ButV v w w') (hv : v.ownBlock ≠ some g) : Lies f w' g l :=
  ⟨fun i x hx => by unfold World.cell?; rw [hb.2 g h.lt hv]; exact h.c i x hx, Nat.lt_of_lt_of_le h.lt hb.1.size⟩
theorem infoN (x : Ct) : (Try.prog.info? 126).map (·.size) = some (nc x).toArray.size := by kernel_rfl
theorem infoCountS : (Try.prog.info? 126).map (fun i => (i.zero, i.size, i.bytes)) = some (some (.agg #[.int .u8 0, .int .i16 0, .int .i64 0]), 3, 16) := by kernel_rfl
section
variable {ops : Array Oper} {rest : List Oper} {o : Oper} {a : Act} {Q : Exit → Act → World → Prop} {W : World}
theorem wp_app_count (B : Nat) (hgd : o.guard = none) (s x : Operand) (ho : o.op = .call { callee := .builtin .append, args := #[s, x], argTypes := #[77, 77] })
    (v : Value) (l : List Ct) (y : Ct) (hs : a.eval s = v) (g : Nat) (hx : a.eval x = .slice (some ⟨g, 0, none⟩) 1 1) (hg : g = W.heap.size)
    (HO : OwnS nc W B 126 3 v l) (hB : B ≤ W.heap.size) (hn : l.length ≤ 100000000)
    (h : ∀ v1 w1, OwnS nc w1 B 126 3 v1 (l ++ [y]) → (Below B W w1 ∧ ButV v W w1 ∧ Away v v1 W) → wpList Try.prog ops Q rest (a.put o.dst v1) w1) : wpList Try.prog ops Q (o :: rest) a (W.alloc (.cells #[.int .u8 y.b.k, .int .i16 y.b.y, .int .i64 y.n] 126)) :=
  wp_app3 (P := Try.prog) B hgd s x 77 126 ho (.agg #[.int .u8 0, .int .i16 0, .int .i64 0]) 3 16 Try.underlying77 infoCountS rfl (by decide) v l.length (fl nc l) (nc y) hs g hx hg rfl (nc_one y) HO.1 hB (by omega) (by decide)
    (fun v1 w1 h1 h2 => h v1 w1 (OwnS.grown (by rw [List.length_append, fl_append, fl_one]; exact h1)) h2)
end
attribute [local go_sem high] eqB
theorem l01Counts_any (g c0 : Nat) (l : List Bt) (w : World) (K : Lies bc w g l) (hn : l.length ≤ 144) :
    Calls Try.prog 108 #[.slice (some ⟨g, 0, none⟩) l.length c0] w fun e w' => ∃ v, e = .returned v ∧ OwnS nc w' w.heap.size 126 3 v (runs l) ∧ Below w.heap.size w w' := by
  have hu := Try.underlying26
  have HK := Lib.hid K
  clear K
  go_enter Try.func108, Try.ntmps108
  go_wp2
  go_loopw [3, 4] (fun v i wr => ∃ k : Nat, k ≤ l.length ∧ i = .int .i64 k ∧ Hid (OwnS nc wr w.heap.size 126 3 v (runs (l.take k))) ∧ Below w.heap.size w wr) (fun _ i _ => l.length - (intOf i).toNat)
  case atStart => exact ⟨0, Nat.zero_le _, rfl, OwnS.lit (Nat.le_refl _), by go_grown⟩
  case round =>
    obtain ⟨k, hk, rfl, HO, hb⟩ := hrel
    by_cases hlt : k < l.length
    · have HX := Lib.hid (HK.out.c.el bc_length hlt)
      have hgw := Lib.hid HK.out.lt
      have HL := Lib.hid (@runs_step l k hlt)
      obtain ⟨hb1, hb2⟩ := runs_bound l k hk
      have hlt2 : (k : Int) < (l.length : Int) := by omega
      have hk3 : (k : Int) ≤ 144 := by omega
      have H := Below.refl wr.heap.size wr
      have hBw := Lib.hid hb.size
      rcases Nat.eq_zero_or_pos k with hz | hpos
      · subst hz
        have e0 : runs (l.take 0) = [] := rfl
        rw [e0] at HL HO
        clear hb1 hb2 e0
        rw [stepC_nil] at HL
        obtain ⟨o, ho⟩ : ∃ o : List Ct, o = [] := ⟨_, rfl⟩
        have hol : o.length ≤ 144 := by rw [ho]; simp
        have HL2 : Hid (runs (l.take (0 + 1)) = o ++ [⟨l[0]!, 1⟩]) := by rw [Hid, HL.out, ho]; rfl
        rw [← ho] at HO
        clear HL
        have HL := HL2
        clear HL2 ho
        generalize l[0]! = b at HX HL
        have x0 : wr.cell? ⟨g, 0, none⟩ = some (.int .u8 b.k) := (hb.cell hgw.out).trans (HX.out 0 _ rfl)
        have x1 : wr.cell? ⟨g, 1, none⟩ = some (.int .i16 b.y) := (hb.cell hgw.out).trans (HX.out 1 _ rfl)
        have hl0 : 0 < l.length := hlt
        go_upto_region 5 with fail
        refine wp_region_qB (by kernel_rfl) (by kernel_rfl) ?_
        (repeat (first | fail | (apply qB_step; intro K hK; go_simp; first | (refine hK _ ?_; clear hK K) | (apply Exists.intro; refine ⟨fun _ => ?_, hK _ ?_⟩; (first | fail); clear hK K))))
        refine qB_nil ?_
        intro w1 hw1
        replace H := bstep H hw1
        clear hw1
        clear x0 x1
        have x0 : w1.cell? ⟨g, 0, none⟩ = some (.int .u8 b.k) := ((bstep hb H).cell hgw.out).trans (HX.out 0 _ rfl)
        have x1 : w1.cell? ⟨g, 1, none⟩ = some (.int .i16 b.y) := ((bstep hb H).cell hgw.out).trans (HX.out 1 _ rfl)
        have HO1 := Lib.hid (HO.out.kept H)
        go_upto_region 7 with (at_builtin; refine wp_app_count w.heap.size rfl _ _ rfl _ (o) ⟨b, 0⟩ rfl _ rfl ?hg ?HO ?hB ?hn ?_; (case hg => simp); (case HO => exact HO1.out); (case hB => have := H.size; have := hBw.out; omega); (case hn => omega); intro v2 w2 HO2 hb2)
        have hb3 := (bstep hb H).trans hb2.1
        clear hb2 x0 x1 HO1
        obtain ⟨g2, cap, rfl, K2, hB2, hg2, -⟩ := HO2.lies
        have hy := K2.c.el nc_length (i := (o).length) (by simp)
        rw [getB (by simp), List.getElem_append_right (Nat.le_refl _), Nat.zero_add] at hy
        simp only [Nat.sub_self, List.getElem_cons_zero] at hy
        have y2 : w2.cell? ⟨g2, (o).length * 3 + 2, none⟩ = some (.int .i64 (0)) := hy 2 _ rfl
        have f2 := HO2.1.frozenAt ((o).length * 3 + 2)
        have HS := (HO2.1.stored ((o).length * 3 + 2) (.int .i64 (1))).1
        have HSn : OwnS nc (w2.setCell ⟨g2, (o).length * 3 + 2, none⟩ (.int .i64 (1))) w.heap.size 126 3 (.slice (some ⟨g2, 0, none⟩) ((o) ++ [(⟨b, 0⟩ : Ct)]).length cap) ((o) ++ [⟨b, 1⟩]) := by
          refine ⟨?_, g2, cap, by simp⟩
          rw [fl_number] at HS
          simp only [List.length_append, List.length_singleton] at HS ⊢
          exact HS
        replace HS := Lib.hid HSn
        have hol : ((o).length : Int) ≤ 1000 := by omega
        clear hy K2 HO2 HSn
        go_wp2
        go_roundw
        case rel => exact ⟨1, by omega, rfl, by rw [HL.out]; exact HS.out, (hb3).setCell hB2 _⟩
        case measure => simp [intOf]; omega
      · obtain ⟨k, rfl⟩ : ∃ k', k = k' + 1 := ⟨k - 1, by omega⟩
        have HY := Lib.hid (HK.out.c.el bc_length (i := k) (by omega))
        obtain ⟨o, x, hox, hxb⟩ : ∃ o x, runs (l.take (k + 1)) = o ++ [x] ∧ x.b = l[k]! := by
          rw [runs_step (by omega)]
          exact stepC_last _ _
        rw [hox] at hb1 hb2 HO HL
        have hxn := hb2 x (by simp)
        have hol : o.length ≤ 144 := by simp at hb1; omega
        clear hb1 hb2 hox
        rw [← hxb] at HY
        clear hxb
        generalize l[k + 1]! = b at HX HL
        rw [Nat.zero_add] at HX HY
        have x0 := cell_regrown ((hb.cell (p := ⟨g, (k + 1) * 2, none⟩) hgw.out).trans (HX.out 0 _ rfl))
        have x1 := cell_regrown ((hb.cell (p := ⟨g, (k + 1) * 2 + 1, none⟩) hgw.out).trans (HX.out 1 _ rfl))
        have y0 := cell_regrown ((hb.cell (p := ⟨g, k * 2, none⟩) hgw.out).trans (HY.out 0 _ rfl))
        have y1 := cell_regrown ((hb.cell (p := ⟨g, k * 2 + 1, none⟩) hgw.out).trans (HY.out 1 _ rfl))
        have hlt3 : (k : Int) < (l.length : Int) := by omega
        have hlt4 : (k : Int) + 1 < (l.length : Int) := by omega
        have hk4 : (0 : Int) ≤ (k : Int) + 1 := by omega
        have hk5 : ((k : Int) + 1).toNat = k + 1 := by omega
        have hk6 : (((k : Int) + 1) == 0) = false := by rw [beq_eq_false_iff_ne]; omega
        have hwk : IntKind.i64.wrap (k : Int) = (k : Int) := by rw [IntKind.wrap_i64]; omega
        go_upto_region 5 with fail
        cases e1 : b.like x.b with
        | true =>
          have e2 : (b.k == x.b.k && b.y == x.b.y) = true := e1
          have hbx := Bt.like_iff.1 e1
          rw [stepC_same o x hbx.symm] at HL
          replace hbx := Lib.hid hbx
          clear e1
          refine wp_region_qB (by kernel_rfl) (by kernel_rfl) ?_
          (repeat (first | fail | (apply qB_step; intro K hK; go_simp; first | (refine hK _ ?_; clear hK K) | (apply Exists.intro; refine ⟨fun _ => ?_, hK _ ?_⟩; (first | fail); clear hK K))))
          refine qB_nil ?_
          intro w1 hw1
          replace H := bstep H hw1
          clear hw1
          clear x0 x1 y0 y1 e2 hwk
          have HO2 := HO.out.kept H
          have hb3 := bstep hb H
          obtain ⟨w2, hw2⟩ : ∃ w2, w2 = w1 := ⟨_, rfl⟩
          subst hw2
          go_upto_region 7 with fail
          rw [hbx.out] at HL
          obtain ⟨g2, cap, rfl, K2, hB2, hg2, -⟩ := HO2.lies
          have hy := K2.c.el nc_length (i := (o).length) (by simp)
          rw [getB (by simp), List.getElem_append_right (Nat.le_refl _), Nat.zero_add] at hy
          simp only [Nat.sub_self, List.getElem_cons_zero] at hy
          have y2 : w2.cell? ⟨g2, (o).length * 3 + 2, none⟩ = some (.int .i64 (x.n)) := hy 2 _ rfl
          have f2 := HO2.1.frozenAt ((o).length * 3 + 2)
          have HS := (HO2.1.stored ((o).length * 3 + 2) (.int .i64 (x.n + 1))).1
          have HSn : OwnS nc (w2.setCell ⟨g2, (o).length * 3 + 2, none⟩ (.int .i64 (x.n + 1))) w.heap.size 126 3 (.slice (some ⟨g2, 0, none⟩) ((o) ++ [x]).length cap) ((o) ++ [⟨x.b, x.n + 1⟩]) := by
            refine ⟨?_, g2, cap, by simp⟩
            rw [fl_number] at HS
            simp only [List.length_append, List.length_singleton] at HS ⊢
            exact HS
          replace HS := Lib.hid HSn
          have hol : ((o).length : Int) ≤ 1000 := by omega
          clear hy K2 HO2 HSn
          go_wp2
          go_roundw
          case rel => exact ⟨k + 1 + 1, by omega, by go_num, by rw [HL.out]; exact HS.out, (hb3).setCell hB2 _⟩
          case measure => simp [intOf]; omega
        | false =>
          have e2 : (b.k == x.b.k && b.y == x.b.y) = false := e1
          have hbx : x.b ≠ b := fun h => by rw [Bt.like_iff.2 h.symm] at e1; cases e1
          rw [stepC_new o x hbx] at HL
          clear e1 hbx
          have hol2 : (o ++ [x]).length ≤ 200 := by simp; omega
          generalize hP : o ++ [x] = P at HL HO hol2
          replace hP := Lib.hid hP
          refine wp_region_qB (by kernel_rfl) (by kernel_rfl) ?_
          (repeat (first | fail | (apply qB_step; intro K hK; go_simp; first | (refine hK _ ?_; clear hK K) | (apply Exists.intro; refine ⟨fun _ => ?_, hK _ ?_⟩; (first | fail); clear hK K))))
          refine qB_nil ?_
          intro w1 hw1
          replace H := bstep H hw1
          clear hw1
          clear x0 x1 y0 y1 e2 hwk
          have x0 : w1.cell? ⟨g, (k + 1) * 2, none⟩ = some (.int .u8 b.k) := ((bstep hb H).cell hgw.out).trans (HX.out 0 _ rfl)
          have x1 : w1.cell? ⟨g, (k + 1) * 2 + 1, none⟩ = some (.int .i16 b.y) := ((bstep hb H).cell hgw.out).trans (HX.out 1 _ rfl)
          have HO1 := Lib.hid (HO.out.kept H)
          go_upto_region 7 with (at_builtin; refine wp_app_count w.heap.size rfl _ _ rfl _ P ⟨b, 0⟩ rfl _ rfl ?hg ?HO ?hB ?hn ?_; (case hg => simp); (case HO => exact HO1.out); (case hB => have := H.size; have := hBw.out; omega); (case hn => omega); intro v2 w2 HO2 hb2)
          have hb3 := (bstep hb H).trans hb2.1
          clear hb2 x0 x1 HO1
          obtain ⟨g2, cap, rfl, K2, hB2, hg2, -⟩ := HO2.lies
          have hy := K2.c.el nc_length (i := P.length) (by simp)
          rw [getB (by simp), List.getElem_append_right (Nat.le_refl _), Nat.zero_add] at hy
          simp only [Nat.sub_self, List.getElem_cons_zero] at hy
          have y2 : w2.cell? ⟨g2, P.length * 3 + 2, none⟩ = some (.int .i64 (0)) := hy 2 _ rfl
          have f2 := HO2.1.frozenAt (P.length * 3 + 2)
          have HS := (HO2.1.stored (P.length * 3 + 2) (.int .i64 (1))).1
          have HSn : OwnS nc (w2.setCell ⟨g2, P.length * 3 + 2, none⟩ (.int .i64 (1))) w.heap.size 126 3 (.slice (some ⟨g2, 0, none⟩) (P ++ [(⟨b, 0⟩ : Ct)]).length cap) (P ++ [⟨b, 1⟩]) := by
            refine ⟨?_, g2, cap, by simp⟩
            rw [fl_number] at HS
            simp only [List.length_append, List.length_singleton] at HS ⊢
            exact HS
          replace HS := Lib.hid HSn
          have hol : (P.length : Int) ≤ 1000 := by omega
          clear hy K2 HO2 HSn
          go_wp2
          go_roundw
          case rel => exact ⟨k + 1 + 1, by omega, by go_num, by rw [HL.out]; exact HS.out, (hb3).setCell hB2 _⟩
          case measure => simp [intOf]; omega
    · obtain rfl : k = l.length := by omega
      rw [List.take_length] at HO
      go_wp2
      go_ret
      exact ⟨_, rfl, HO.out, hb⟩
theorem sCountsIn_any (g0 c0 : Nat) (L : List Cr) (w : World) (K0 : Lies cc w g0 L) (hl : L.length ≤ 1048576) :
    Calls Try.prog 57 #[.slice (some ⟨g0, 0, none⟩) L.length c0] w fun e w' => ∃ v, e = .returned (.tuple #[v, .int .i64 (countsR L).2]) ∧ OwnN nc w' w.heap.size 126 3 v (countsR L).1 ∧ Below w.heap.size w w' := by
  have H := Below.refl w.heap.size w
  replace K0 := Lib.hid K0
  cases e1 : stackOk L with
  | false =>
    have HF := Lib.hid (show countsR L = ([], 1) by simp [countsR, e1])
    go_enter Try.func57, Try.ntmps57
    go_wp2_with (go_at_call 104; with_reducible refine (l01Stack_any g0 0 c0 L _ (K0.out.below H).c (K0.out.below H).lt (by omega)).mono ?_; rintro e w' ⟨rfl, hb⟩; replace H := bstep H hb; clear hb; have hc := bcell H)
    rw [HF.out]
    exact bodyPost_ret (results_tt rfl) rfl ⟨_, rfl, (OwnS.lit (f := nc) H.size).n, H.alloc H.size _⟩
  | true =>
    have h12 := stack_le e1
    have hle := wholeL_le L
    have HF := Lib.hid (show countsR L = (runs (sortB (wholeL L)), 0) by simp [countsR, e1])
    have hS := fun g c W h => l01Counts_any g c (sortB (wholeL L)) W h (by rw [sortB_length]; omega)
    go_enter Try.func57, Try.ntmps57
    go_wp2_with (first | (go_at_call 104; with_reducible refine (l01Stack_any g0 0 c0 L _ (K0.out.below H).c (K0.out.below H).lt (by omega)).mono ?_; rintro e w' ⟨rfl, hb⟩; replace H := bstep H hb; clear hb; have hc := bcell H) | (go_at_call 105; refine (l01Whole_any _ _ c0 L _ (K0.out.below H).c (K0.out.below H).lt h12).mono ?_; rintro e w2 ⟨v2, rfl, O2, hb⟩; obtain ⟨g2, p2, rfl, K2, -⟩ := O2.lies; replace K2 := Lib.hid K2; clear O2; replace H := bstep H hb; clear hb) | (go_at_call 108; refine (hS _ _ _ K2.out).mono ?_; rintro e w3 ⟨v3, rfl, O3, hb⟩; replace O3 := O3.down H.size; replace H := bstep H hb; clear hb))
    rw [HF.out]
    exact bodyPost_ret (results_tt rfl) rfl ⟨_, rfl, O3.n, H⟩
attribute [local go_sem high] eqB
theorem CountsIn_any (g0 c0 : Nat) (L : List Cr) (w : World) (K0 : Lies cc w g0 L) (hl : L.length ≤ 1048576) :
    Calls Try.prog 58 #[.slice (some ⟨g0, 0, none⟩) L.length c0] w fun e w' => ∃ v, e = .returned (.tuple #[v, .int .i64 (countsR L).2]) ∧ OwnN nc w' w.heap.size 126 3 v (countsR L).1 ∧ Below w.heap.size w w' := by
  have hu := Try.underlying26
  have H := Below.refl w.heap.size w
  replace K0 := Lib.hid K0
  cases e1 : stackOk L with
  | false =>
    have HF := Lib.hid (show countsR L = ([], 1) by simp [countsR, e1])
    go_enter Try.func58, Try.ntmps58
    go_wp2_with (go_at_call 97; with_reducible refine (ValidStack_any g0 0 c0 L _ (K0.out.below H).c (K0.out.below H).lt (by omega)).mono ?_; rintro e w' ⟨rfl, hb⟩; replace H := bstep H hb; clear hb; have hc := bcell H)
    rw [HF.out]
    exact bodyPost_ret (results_tt rfl) rfl ⟨_, rfl, OwnN.nil, H⟩
  | true =>
    have h12 := stack_le e1
    have hle := wholeL_le L
    have HF := Lib.hid (show countsR L = (runs (sortB (wholeL L)), 0) by simp [countsR, e1])
    have HS := Lib.hid (sortB_length (wholeL L))
    have hln : (sortB (wholeL L)).length ≤ 144 := by rw [sortB_length]; omega
    have hA := fun W h => allOf_any (some ⟨g0, 0, none⟩) c0 L W h h12
    rw [← HS.out] at hA
    generalize sortB (wholeL L) = l at HF hA hln
    go_enter Try.func58, Try.ntmps58
    go_upto_region 4 with (go_at_call 97; with_reducible refine (ValidStack_any g0 0 c0 L _ (K0.out.below H).c (K0.out.below H).lt (by omega)).mono ?_; rintro e w' ⟨rfl, hb⟩; replace H := bstep H hb; clear hb; have hc := bcell H)
    clear hc
    have HO0 := OwnS.lit (f := nc) (e := 126) (size := 3) H.size
    replace H := H.alloc H.size (.cells #[] 126)
    generalize World.alloc _ _ = W0 at HO0 H ⊢
    generalize Value.slice (some ⟨w'.heap.size, 0, none⟩) 0 0 = v0 at HO0 ⊢
    go_upto_region 5 with (go_at_call 107; refine (hA _ (K0.out.below H).rd).mono ?_; rintro e w2 ⟨v2, rfl, O2, ⟨g, c1, rfl⟩, hb⟩)
    have HK := Lib.hid O2.lies
    have hva := Lib.hid (show v0.ownBlock ≠ some g from fun e => by have h1 := own_lt HO0.1 g e; have h2 := own_base O2 g rfl; omega)
    replace HO0 := Lib.hid (HO0.kept hb)
    replace H := bstep H hb
    clear O2 hb hA
    go_loopw [4, 15] (fun v i wr => ∃ k : Nat, k ≤ l.length ∧ i = .int .i64 k ∧ Hid (OwnS nc wr w.heap.size 126 3 v (runs (l.take k))) ∧ Hid (Lies bc wr g l ∧ v.ownBlock ≠ some g) ∧ Below w.heap.size w wr) (fun _ i _ => l.length - (intOf i).toNat)
    case atStart => exact ⟨0, Nat.zero_le _, rfl, HO0.out, ⟨HK.out, hva.out⟩, H⟩
    case round =>
      clear HO0 HK H hva
      obtain ⟨k, hk, rfl, HO, HK, hb⟩ := hrel
      by_cases hlt : k < l.length
      · have HX := HK.out.1.c.el bc_length hlt
        have HV := Lib.hid HK.out.2
        have HL := Lib.hid (@runs_step l k hlt)
        obtain ⟨hb1, hb2⟩ := runs_bound l k hk
        have hlt2 : (k : Int) < (l.length : Int) := by omega
        have hk3 : (k : Int) ≤ 144 := by omega
        rw [Nat.zero_add] at HX
        generalize l[k]! = b at HX HL
        have x0 : wr.cell? ⟨g, k * 2, none⟩ = some (.int .u8 b.k) := HX 0 _ rfl
        have x1 : wr.cell? ⟨g, k * 2 + 1, none⟩ = some (.int .i16 b.y) := HX 1 _ rfl
        clear HX
        go_upto_region 7 with fail
        generalize hW1 : World.alloc _ _ = W1
        have hgr : Below wr.heap.size wr W1 := by rw [← hW1]; go_grown
        have r5 : rowOf W1 wr.heap.size = some (#[.int .u8 b.k, .int .i16 b.y] : Array Value) := by rw [← hW1, rowOf_alloc, if_pos rfl]
        replace HO := HO.out.kept hgr
        have HK1 := Lib.hid (HK.out.1.below hgr)
        have hbb := bstep hb hgr
        clear hW1 x0 x1 hgr HK hb
        generalize wr.heap.size = g5 at r5 ⊢
        have z0 : W1.cell? ⟨g5, 0, none⟩ = some (.int .u8 b.k) := rowOf_cell r5 0
        have z1 : W1.cell? ⟨g5, 1, none⟩ = some (.int .i16 b.y) := rowOf_cell r5 1
        have H := Below.refl W1.heap.size W1
        generalize runs (l.take k) = out at HO HL hb1 hb2
        rcases List.eq_nil_or_concat out with rfl | ⟨o, x, rfl⟩
        · rw [stepC_nil] at HL
          obtain ⟨gv, cap, rfl, -⟩ := HO.lies
          clear hb1 hb2
          have hgv : gv ≠ g := fun e => HV.out (by rw [e]; rfl)
          replace HO := Lib.hid HO
          go_upto_region 8 with fail
          refine wp_region_qB (by kernel_rfl) (by kernel_rfl) ?_
          (repeat (first | fail | (apply qB_step; intro K hK; go_simp; first | (refine hK _ ?_; clear hK K) | (apply Exists.intro; refine ⟨fun _ => ?_, hK _ ?_⟩; (first | fail); clear hK K))))
          refine qB_nil ?_
          intro w1 hw1
          replace H := bstep H hw1
          clear hw1
          have R5 := row_kept r5 H
          clear z0 z1
          have z0 : w1.cell? ⟨g5, 0, none⟩ = some (.int .u8 b.k) := rowOf_cell R5 0
          have z1 : w1.cell? ⟨g5, 1, none⟩ = some (.int .i16 b.y) := rowOf_cell R5 1
          have HO1 := Lib.hid (HO.out.kept H)
          have HK2 := Lib.hid (⟨HK1.out.below H, Nat.le_trans hbb.size H.size⟩ : _ ∧ w.heap.size ≤ w1.heap.size)
          go_wp2_with (at_builtin; refine wp_app_count w.heap.size rfl _ _ rfl _ (([] : List Ct)) ⟨b, 1⟩ rfl _ rfl ?hg ?HO ?hB ?hn ?_; (case hg => simp); (case HO => exact HO1.out); (case hB => have := hbb.size; have := H.size; omega); (case hn => simp); intro v2 w2 HO2 hb2)
          go_roundw
          case rel => exact ⟨k + 1, by omega, by go_num, by rw [HL.out]; exact HO2, ⟨lies_but HK2.out.1 hb2.2.1 HV.out, hb2.2.2 g HK2.out.1.lt HV.out⟩, (bstep hbb H).trans hb2.1⟩
          case measure => simp [intOf]; omega
        · rw [List.concat_eq_append] at *
          have hxn := hb2 x (by simp)
          have hol : o.length ≤ 144 := by simp at hb1; omega
          have hol2 : (o.length : Int) ≤ 144 := by omega
          clear hb1 hb2
          obtain ⟨gv, cap, hv, K2, hB2, hg2, -⟩ := HO.lies
          have hy := K2.c.el nc_length (i := o.length) (by simp)
          rw [getB (by simp), List.getElem_append_right (Nat.le_refl _), Nat.zero_add] at hy
          simp only [Nat.sub_self, List.getElem_cons_zero] at hy
          rw [List.length_append, List.length_singleton] at hv
          subst hv
          have hgv : gv ≠ g := fun e => HV.out (by rw [e]; rfl)
          have HY := Lib.hid hy
          have y0 := cell_regrown (hy 0 _ rfl)
          have y1 := cell_regrown (hy 1 _ rfl)
          rw [Nat.add_zero] at y0
          replace z0 := cell_regrown z0
          replace z1 := cell_regrown z1
          have hol3 : (o.length : Int) < ((o.length + 1 : Nat) : Int) := by omega
          have hol4 : (o.length : Int) < (o.length : Int) + 1 := by omega
          have hol5 : o.length < o.length + 1 := by omega
          have hwo : IntKind.i64.wrap (o.length : Int) = (o.length : Int) := by rw [IntKind.wrap_i64]; omega
          replace HO := Lib.hid HO
          replace hg2 := Lib.hid hg2
          clear hy K2
          go_upto_region 8 with fail
          cases e1 : x.b.like b with
          | true =>
            have e2 : (x.b.k == b.k && x.b.y == b.y) = true := e1
            have hbx := Bt.like_iff.1 e1
            rw [stepC_same o x hbx] at HL
            replace hbx := Lib.hid hbx
            clear e1
            refine wp_region_qB (by kernel_rfl) (by kernel_rfl) ?_
            (repeat (first | fail | (apply qB_step; intro K hK; go_simp; first | (refine hK _ ?_; clear hK K) | (apply Exists.intro; refine ⟨fun _ => ?_, hK _ ?_⟩; (first | fail); clear hK K))))
            refine qB_nil ?_
            intro w1 hw1
            replace H := bstep H hw1
            clear hw1
            have HO2 := HO.out.kept H
            have hy := HY.out.below H hg2.out
            have HK2 := Lib.hid (HK1.out.below H)
            have hb3 := bstep hbb H
            clear y0 y1 z0 z1 e2 hwo
            have y2 : w1.cell? ⟨gv, o.length * 3 + 2, none⟩ = some (.int .i64 x.n) := hy 2 _ rfl
            have HO3 := HO2.1
            rw [List.length_append, List.length_singleton] at HO3
            have f2 := HO3.frozenAt (o.length * 3 + 2)
            have HS := (HO3.stored (o.length * 3 + 2) (.int .i64 (x.n + 1))).1
            have HSn : OwnS nc (w1.setCell ⟨gv, o.length * 3 + 2, none⟩ (.int .i64 (x.n + 1))) w.heap.size 126 3 (.slice (some ⟨gv, 0, none⟩) (o.length + 1) cap) (o ++ [⟨x.b, x.n + 1⟩]) := by
              refine ⟨?_, gv, cap, by simp⟩
              rw [fl_number] at HS
              rw [List.length_append, List.length_singleton]
              exact HS
            replace HS := Lib.hid HSn
            have HKK : Hid (Lies bc (w1.setCell ⟨gv, o.length * 3 + 2, none⟩ (.int .i64 (x.n + 1))) g l) := ⟨fun i u hu => by rw [cell_far (Ne.symm hgv)]; exact HK2.out.c i u hu, by simpa using HK2.out.lt⟩
            clear hy HO2 HO3 HSn
            rw [hbx.out] at HS
            go_wp2
            go_roundw
            case rel => exact ⟨k + 1, by omega, by go_num, by rw [HL.out]; exact HS.out, ⟨HKK.out, HV.out⟩, hb3.setCell hB2 _⟩
            case measure => simp [intOf]; omega
          | false =>
            have e2 : (x.b.k == b.k && x.b.y == b.y) = false := e1
            have hbx : x.b ≠ b := fun h => by rw [Bt.like_iff.2 h] at e1; cases e1
            rw [stepC_new o x hbx] at HL
            clear e1 hbx
            refine wp_region_qB (by kernel_rfl) (by kernel_rfl) ?_
            (repeat (first | fail | (apply qB_step; intro K hK; go_simp; first | (refine hK _ ?_; clear hK K) | (apply Exists.intro; refine ⟨fun _ => ?_, hK _ ?_⟩; (first | fail); clear hK K))))
            refine qB_nil ?_
            intro w1 hw1
            replace H := bstep H hw1
            clear hw1
            clear y0 y1 z0 z1 e2 hwo
            have R5 := row_kept r5 H
            have z0 : w1.cell? ⟨g5, 0, none⟩ = some (.int .u8 b.k) := rowOf_cell R5 0
            have z1 : w1.cell? ⟨g5, 1, none⟩ = some (.int .i16 b.y) := rowOf_cell R5 1
            have HO1 := Lib.hid (HO.out.kept H)
            have HK2 := Lib.hid (⟨HK1.out.below H, Nat.le_trans hbb.size H.size⟩ : _ ∧ w.heap.size ≤ w1.heap.size)
            go_wp2_with (at_builtin; refine wp_app_count w.heap.size rfl _ _ rfl _ (o ++ [x]) ⟨b, 1⟩ rfl _ rfl ?hg ?HO ?hB ?hn ?_; (case hg => simp); (case HO => exact HO1.out); (case hB => have := hbb.size; have := H.size; omega); (case hn => simp; omega); intro v2 w2 HO2 hb2)
            go_roundw
            case rel => exact ⟨k + 1, by omega, by go_num, by rw [HL.out]; exact HO2, ⟨lies_but HK2.out.1 hb2.2.1 HV.out, hb2.2.2 g HK2.out.1.lt HV.out⟩, (bstep hbb H).trans hb2.1⟩
            case measure => simp [intOf]; omega
      · obtain rfl : k = l.length := by omega
        rw [List.take_length] at HO
        go_wp2
        rw [HF.out]
        exact bodyPost_ret (results_tt rfl) rfl ⟨_, rfl, HO.out.n, hb⟩
end Go.Proofs.Ytnhpgahapjjjbaa
