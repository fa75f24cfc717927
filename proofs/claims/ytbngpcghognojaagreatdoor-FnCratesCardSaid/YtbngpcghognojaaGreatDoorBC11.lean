/- Texts of the claim, joined (11 of 19): Runs, Nest, Choice, Opened, Filled, Few. -/
import Derived.Maps.AppendAt
import Derived.Test.YtbngpcghognojaaGreatDoorBC7
import Derived.Test.YtbngpcghognojaaGreatDoorBC9
import Derived.Test.YtbngpcghognojaaGreatDoorBC10
namespace Go.Proofs.YtbngpcghognojaaGreatDoor
open Go Go.RowKit
set_option linter.unusedVariables false
set_option linter.unusedSimpArgs false
set_option maxRecDepth 100000
set_option maxHeartbeats 1000000
attribute [local go_sem] Oper.qB
/-- A bottle and how many. -/
structure Ct where
  b : Bt
  n : Int
instance : Inhabited Ct := ⟨⟨zB, 0⟩⟩
def nc (x : Ct) : List Value := [.int .u8 x.b.k, .int .i16 x.b.y, .int .i64 x.n]
theorem nc_length (x : Ct) : (nc x).length = 3 := rfl
theorem nc_one (x : Ct) : ∀ u ∈ nc x, u.oneCell' = true := by
  intro u hu
  simp [nc] at hu
  rcases hu with rfl | rfl | rfl <;> rfl
/-- One bottle more. -/
def stepC (out : List Ct) (b : Bt) : List Ct :=
  match out.getLast? with
  | some x => if x.b = b then out.dropLast ++ [⟨b, x.n + 1⟩] else out ++ [⟨b, 1⟩]
  | none => [⟨b, 1⟩]
def runs (l : List Bt) : List Ct := l.foldl stepC []
theorem stepC_nil (b : Bt) : stepC [] b = [⟨b, 1⟩] := rfl
theorem stepC_same (o : List Ct) (x : Ct) {b : Bt} (h : x.b = b) : stepC (o ++ [x]) b = o ++ [⟨b, x.n + 1⟩] := by
  simp [stepC, h]
theorem stepC_new (o : List Ct) (x : Ct) {b : Bt} (h : x.b ≠ b) : stepC (o ++ [x]) b = (o ++ [x]) ++ [⟨b, 1⟩] := by
  simp [stepC, h]
theorem runs_step {l : List Bt} {k : Nat} (hk : k < l.length) : runs (l.take (k + 1)) = stepC (runs (l.take k)) l[k]! := by
  unfold runs
  rw [List.take_succ_eq_append_getElem hk, List.foldl_append, getB hk]
  rfl
theorem stepC_last (out : List Ct) (b : Bt) : ∃ o x, stepC out b = o ++ [x] ∧ x.b = b := by
  rcases List.eq_nil_or_concat out with rfl | ⟨o, x, rfl⟩
  · exact ⟨[], _, rfl, rfl⟩
  · rw [List.concat_eq_append]
    by_cases h : x.b = b
    · exact ⟨o, _, stepC_same o x h, rfl⟩
    · exact ⟨o ++ [x], _, stepC_new o x h, rfl⟩
theorem runs_bound (l : List Bt) : ∀ k, k ≤ l.length → (runs (l.take k)).length ≤ k ∧ ∀ x ∈ runs (l.take k), 0 ≤ x.n ∧ x.n ≤ k
  | 0, _ => by simp [runs]
  | k + 1, h => by
    obtain ⟨h1, h2⟩ := runs_bound l k (by omega)
    rw [runs_step (by omega)]
    generalize runs (l.take k) = out at h1 h2
    generalize l[k]! = b
    rcases List.eq_nil_or_concat out with rfl | ⟨o, x, rfl⟩
    · rw [stepC_nil]
      refine ⟨by simp, fun x hx => ?_⟩
      obtain rfl : x = _ := by simpa using hx
      exact ⟨by show (0 : Int) ≤ 1; decide, by show (1 : Int) ≤ _; omega⟩
    · rw [List.concat_eq_append] at *
      by_cases h : x.b = b
      · rw [stepC_same o x h]
        refine ⟨by simp at h1 ⊢; omega, fun y hy => ?_⟩
        rcases List.mem_append.1 hy with hy | hy
        · have := h2 y (List.mem_append_left _ hy)
          omega
        · obtain rfl : y = _ := by simpa using hy
          have := h2 x (by simp)
          show 0 ≤ x.n + 1 ∧ x.n + 1 ≤ _
          omega
      · rw [stepC_new o x h]
        refine ⟨by simp at h1 ⊢; omega, fun y hy => ?_⟩
        rcases List.mem_append.1 hy with hy | hy
        · have := h2 y hy
          omega
        · obtain rfl : y = _ := by simpa using hy
          exact ⟨by show (0 : Int) ≤ 1; decide, by show (1 : Int) ≤ _; omega⟩
def countsR (L : List Cr) : List Ct × Int := if stackOk L = true then (runs (sortB (wholeL L)), 0) else ([], 1)
theorem countsR_le (L : List Cr) : (countsR L).1.length ≤ 144 := by
  unfold countsR
  split
  · rename_i h
    have h1 := stack_le h
    have h2 := wholeL_le L
    have h3 := (runs_bound (sortB (wholeL L)) _ (Nat.le_refl _)).1
    rw [List.take_length, sortB_length] at h3
    show (runs _).length ≤ 144
    omega
  · simp
theorem fl_number {o : List Ct} {x : Ct} (m : Int) : (fl nc (o ++ [x])).set (o.length * 3 + 2) (.int .i64 m) = fl nc (o ++ [⟨x.b, m⟩]) := by
  have e : (fl nc o).length = o.length * 3 := fl_length nc_length o
  rw [fl_append, fl_append, fl_one, fl_one, List.set_append_right _ _ (by omega), e, Nat.add_sub_cancel_left]
  rfl
/-- Whatever block lay apart from a slice lies apart from another one. -/
def Away (v v1 : Value) (W : World) : Prop := ∀ b, b < W.heap.size → v.ownBlock ≠ some b → v1.ownBlock ≠ some b
section
variable {P : Program} {ops : Array Oper} {rest : List Oper} {o : Oper} {a : Act} {Q : Exit → Act → World → Prop} {W : World}
/-- append(v, x), with all that has not changed, and where the new slice lies. -/
theorem wp_app3 (B : Nat) (hgd : o.guard = none) (s x : Operand) (t e : TypeId) (ho : o.op = .call { callee := .builtin .append, args := #[s, x], argTypes := #[t, t] })
    (z : Value) (size bytes : Nat) (ht : P.underlying t = some (.slice e)) (hinfo : (P.info? e).map (fun i => (i.zero, i.size, i.bytes)) = some (some z, size, bytes)) (hzs : z.cells.size = size) (hsz : 0 < size)
    (v : Value) (n : Nat) (xs news : List Value) (hs : a.eval s = v) (g : Nat) (hx : a.eval x = .slice (some ⟨g, 0, none⟩) 1 1) (hg : g = W.heap.size) (hl : news.length = size) (h1 : ∀ u ∈ news, u.oneCell' = true)
    (HO : W.ownsRow B e size v n xs) (hB : B ≤ W.heap.size) (hn : n + 1 ≤ 1000000000) (hby : bytes ≤ 1000)
    (h : ∀ v1 w1, w1.ownsRow B e size v1 (n + 1) (xs ++ news) → (Below B W w1 ∧ ButV v W w1 ∧ Away v v1 W) → wpList P ops Q rest (a.put o.dst v1) w1) : wpList P ops Q (o :: rest) a (W.alloc (.cells news.toArray e)) := by
  subst hg
  obtain ⟨i0, hi, hzz⟩ := Option.map_eq_some_iff.1 hinfo
  simp only [Prod.mk.injEq] at hzz
  obtain ⟨hz0, hz1, hz2⟩ := hzz
  obtain ⟨v1, w1, hrun, hown, hg, -, hblk⟩ := run_append_own_at (P := P) (W.alloc (.cells news.toArray e)) B t o.type e i0 z size bytes ht hi hz0 hz1 hz2 hzs hsz v n xs (HO.alloc _) ⟨W.heap.size, 0, none⟩ 1 1 news (by omega)
    (fun j u hj => by rw [addr_at]; simp only [World.cell?_alloc_new]; simpa using hj) h1 (by simp only [maxLen]; omega)
    (by calc (n + 1) * bytes ≤ 1000000000 * 1000 := Nat.mul_le_mul hn hby
      _ ≤ 140737488355328 := by decide) (by simp; omega)
  have hb := ((Below.refl B W).alloc hB _).grown hg (by simp; omega) (fun k hk => own_base HO k hk)
  refine wpList_plain hgd fun K hK => ?_
  unfold Oper.wp execOp
  simp only [ho, resolve, invoke, builtin, Sem.run_bind, Sem.run_pure, Result.andThen_ok, List.map_toArray, List.map_cons, List.map_nil, hs, hx, hrun]
  refine hK _ _ (h v1 w1 hown ⟨hb, ⟨⟨hb.os, hb.tape, hb.output, hb.size, fun k hk => absurd hk (Nat.not_lt_zero _)⟩, fun b hb1 hv => ?_⟩, fun b hb1 hv he => ?_⟩)
  · rw [hg.block b (by simp; omega) (fun e => hv e.symm)]
    exact (Below.refl W.heap.size W).alloc (Nat.le_refl _) (.cells news.toArray e) |>.block b hb1
  · rcases hblk with h | h
    · rw [h] at he
      exact hv he
    · rw [h] at he
      simp at he
      omega
end
theorem lies_but {α : Type} {f : α → List Value} {w w' : World} {g : Nat} {l : List α} {v : Value} (h : Lies f w g l) (hb : ButV v w w') (hv : v.ownBlock ≠ some g) : Lies f w' g l :=
  ⟨fun i x hx => by unfold World.cell?; rw [hb.2 g h.lt hv]; exact h.c i x hx, Nat.lt_of_lt_of_le h.lt hb.1.size⟩
theorem infoN (x : Ct) : (Tryz.prog.info? 166).map (·.size) = some (nc x).toArray.size := by kernel_rfl
theorem infoCountS : (Tryz.prog.info? 166).map (fun i => (i.zero, i.size, i.bytes)) = some (some (.agg #[.int .u8 0, .int .i16 0, .int .i64 0]), 3, 16) := by kernel_rfl
section
variable {ops : Array Oper} {rest : List Oper} {o : Oper} {a : Act} {Q : Exit → Act → World → Prop} {W : World}
theorem wp_app_count (B : Nat) (hgd : o.guard = none) (s x : Operand) (ho : o.op = .call { callee := .builtin .append, args := #[s, x], argTypes := #[163, 163] })
    (v : Value) (l : List Ct) (y : Ct) (hs : a.eval s = v) (g : Nat) (hx : a.eval x = .slice (some ⟨g, 0, none⟩) 1 1) (hg : g = W.heap.size)
    (HO : OwnS nc W B 166 3 v l) (hB : B ≤ W.heap.size) (hn : l.length ≤ 100000000)
    (h : ∀ v1 w1, OwnS nc w1 B 166 3 v1 (l ++ [y]) → (Below B W w1 ∧ ButV v W w1 ∧ Away v v1 W) → wpList Tryz.prog ops Q rest (a.put o.dst v1) w1) : wpList Tryz.prog ops Q (o :: rest) a (W.alloc (.cells #[.int .u8 y.b.k, .int .i16 y.b.y, .int .i64 y.n] 166)) :=
  wp_app3 (P := Tryz.prog) B hgd s x 163 166 ho (.agg #[.int .u8 0, .int .i16 0, .int .i64 0]) 3 16 Tryz.underlying163 infoCountS rfl (by decide) v l.length (fl nc l) (nc y) hs g hx hg rfl (nc_one y) HO.1 hB (by omega) (by decide)
    (fun v1 w1 h1 h2 => h v1 w1 (OwnS.grown (by rw [List.length_append, fl_append, fl_one]; exact h1)) h2)
end
attribute [local go_sem high] eqB
theorem l01Counts_any (g c0 : Nat) (l : List Bt) (w : World) (K : Lies bc w g l) (hn : l.length ≤ 144) :
    Calls Tryz.prog 133 #[.slice (some ⟨g, 0, none⟩) l.length c0] w fun e w' => ∃ v, e = .returned v ∧ OwnS nc w' w.heap.size 166 3 v (runs l) ∧ Below w.heap.size w w' := by
  have hu := Tryz.underlying26
  have HK := Lib.hid K
  clear K
  go_enter Tryz.func133, Tryz.ntmps133
  go_wp2
  go_loopw [3, 4] (fun v i wr => ∃ k : Nat, k ≤ l.length ∧ i = .int .i64 k ∧ Hid (OwnS nc wr w.heap.size 166 3 v (runs (l.take k))) ∧ Below w.heap.size w wr) (fun _ i _ => l.length - (intOf i).toNat)
  case atStart => exact ⟨0, Nat.zero_le _, rfl, OwnS.lit (Nat.le_refl _), by go_grown⟩
  case round =>
    obtain ⟨k, hk, rfl, HO, hb⟩ := hrel
    by_cases hlt : k < l.length
    · have HX := Lib.hid (HK.out.c.el bc_length hlt)
      have hgw := Lib.hid HK.out.lt
      have HL := Lib.hid (@runs_step l k hlt)
      obtain ⟨hb1, hb2⟩ := runs_bound l k hk
      have hlt2 : (k : Int) < (l.length : Int) := by omega
      have hk3 : (k : Int) ≤ 144 := by omega
      have H := Below.refl wr.heap.size wr
      have hBw := Lib.hid hb.size
      rcases Nat.eq_zero_or_pos k with hz | hpos
      · subst hz
        have e0 : runs (l.take 0) = [] := rfl
        rw [e0] at HL HO
        clear hb1 hb2 e0
        rw [stepC_nil] at HL
        obtain ⟨o, ho⟩ : ∃ o : List Ct, o = [] := ⟨_, rfl⟩
        have hol : o.length ≤ 144 := by rw [ho]; simp
        have HL2 : Hid (runs (l.take (0 + 1)) = o ++ [⟨l[0]!, 1⟩]) := by rw [Hid, HL.out, ho]; rfl
        rw [← ho] at HO
        clear HL
        have HL := HL2
        clear HL2 ho
        generalize l[0]! = b at HX HL
        have x0 : wr.cell? ⟨g, 0, none⟩ = some (.int .u8 b.k) := (hb.cell hgw.out).trans (HX.out 0 _ rfl)
        have x1 : wr.cell? ⟨g, 1, none⟩ = some (.int .i16 b.y) := (hb.cell hgw.out).trans (HX.out 1 _ rfl)
        have hl0 : 0 < l.length := hlt
        go_upto_region 5 with fail
        refine wp_region_qB (by kernel_rfl) (by kernel_rfl) ?_
        (repeat (first | fail | (apply qB_step; intro K hK; go_simp; first | (refine hK _ ?_; clear hK K) | (apply Exists.intro; refine ⟨fun _ => ?_, hK _ ?_⟩; (first | fail); clear hK K))))
        refine qB_nil ?_
        intro w1 hw1
        replace H := bstep H hw1
        clear hw1
        clear x0 x1
        have x0 : w1.cell? ⟨g, 0, none⟩ = some (.int .u8 b.k) := ((bstep hb H).cell hgw.out).trans (HX.out 0 _ rfl)
        have x1 : w1.cell? ⟨g, 1, none⟩ = some (.int .i16 b.y) := ((bstep hb H).cell hgw.out).trans (HX.out 1 _ rfl)
        have HO1 := Lib.hid (HO.out.kept H)
        go_upto_region 7 with (at_builtin; refine wp_app_count w.heap.size rfl _ _ rfl _ (o) ⟨b, 0⟩ rfl _ rfl ?hg ?HO ?hB ?hn ?_; (case hg => simp); (case HO => exact HO1.out); (case hB => have := H.size; have := hBw.out; omega); (case hn => omega); intro v2 w2 HO2 hb2)
        have hb3 := (bstep hb H).trans hb2.1
        clear hb2 x0 x1 HO1
        obtain ⟨g2, cap, rfl, K2, hB2, hg2, -⟩ := HO2.lies
        have hy := K2.c.el nc_length (i := (o).length) (by simp)
        rw [getB (by simp), List.getElem_append_right (Nat.le_refl _), Nat.zero_add] at hy
        simp only [Nat.sub_self, List.getElem_cons_zero] at hy
        have y2 : w2.cell? ⟨g2, (o).length * 3 + 2, none⟩ = some (.int .i64 (0)) := hy 2 _ rfl
        have f2 := HO2.1.frozenAt ((o).length * 3 + 2)
        have HS := (HO2.1.stored ((o).length * 3 + 2) (.int .i64 (1))).1
        have HSn : OwnS nc (w2.setCell ⟨g2, (o).length * 3 + 2, none⟩ (.int .i64 (1))) w.heap.size 166 3 (.slice (some ⟨g2, 0, none⟩) ((o) ++ [(⟨b, 0⟩ : Ct)]).length cap) ((o) ++ [⟨b, 1⟩]) := by
          refine ⟨?_, g2, cap, by simp⟩
          rw [fl_number] at HS
          simp only [List.length_append, List.length_singleton] at HS ⊢
          exact HS
        replace HS := Lib.hid HSn
        have hol : ((o).length : Int) ≤ 1000 := by omega
        clear hy K2 HO2 HSn
        go_wp2
        go_roundw
        case rel => exact ⟨1, by omega, rfl, by rw [HL.out]; exact HS.out, (hb3).setCell hB2 _⟩
        case measure => simp [intOf]; omega
      · obtain ⟨k, rfl⟩ : ∃ k', k = k' + 1 := ⟨k - 1, by omega⟩
        have HY := Lib.hid (HK.out.c.el bc_length (i := k) (by omega))
        obtain ⟨o, x, hox, hxb⟩ : ∃ o x, runs (l.take (k + 1)) = o ++ [x] ∧ x.b = l[k]! := by
          rw [runs_step (by omega)]
          exact stepC_last _ _
        rw [hox] at hb1 hb2 HO HL
        have hxn := hb2 x (by simp)
        have hol : o.length ≤ 144 := by simp at hb1; omega
        clear hb1 hb2 hox
        rw [← hxb] at HY
        clear hxb
        generalize l[k + 1]! = b at HX HL
        rw [Nat.zero_add] at HX HY
        have x0 := cell_regrown ((hb.cell (p := ⟨g, (k + 1) * 2, none⟩) hgw.out).trans (HX.out 0 _ rfl))
        have x1 := cell_regrown ((hb.cell (p := ⟨g, (k + 1) * 2 + 1, none⟩) hgw.out).trans (HX.out 1 _ rfl))
        have y0 := cell_regrown ((hb.cell (p := ⟨g, k * 2, none⟩) hgw.out).trans (HY.out 0 _ rfl))
        have y1 := cell_regrown ((hb.cell (p := ⟨g, k * 2 + 1, none⟩) hgw.out).trans (HY.out 1 _ rfl))
        have hlt3 : (k : Int) < (l.length : Int) := by omega
        have hlt4 : (k : Int) + 1 < (l.length : Int) := by omega
        have hk4 : (0 : Int) ≤ (k : Int) + 1 := by omega
        have hk5 : ((k : Int) + 1).toNat = k + 1 := by omega
        have hk6 : (((k : Int) + 1) == 0) = false := by rw [beq_eq_false_iff_ne]; omega
        have hwk : IntKind.i64.wrap (k : Int) = (k : Int) := by rw [IntKind.wrap_i64]; omega
        go_upto_region 5 with fail
        cases e1 : b.like x.b with
        | true =>
          have e2 : (b.k == x.b.k && b.y == x.b.y) = true := e1
          have hbx := Bt.like_iff.1 e1
          rw [stepC_same o x hbx.symm] at HL
          replace hbx := Lib.hid hbx
          clear e1
          refine wp_region_qB (by kernel_rfl) (by kernel_rfl) ?_
          (repeat (first | fail | (apply qB_step; intro K hK; go_simp; first | (refine hK _ ?_; clear hK K) | (apply Exists.intro; refine ⟨fun _ => ?_, hK _ ?_⟩; (first | fail); clear hK K))))
          refine qB_nil ?_
          intro w1 hw1
          replace H := bstep H hw1
          clear hw1
          clear x0 x1 y0 y1 e2 hwk
          have HO2 := HO.out.kept H
          have hb3 := bstep hb H
          obtain ⟨w2, hw2⟩ : ∃ w2, w2 = w1 := ⟨_, rfl⟩
          subst hw2
          go_upto_region 7 with fail
          rw [hbx.out] at HL
          obtain ⟨g2, cap, rfl, K2, hB2, hg2, -⟩ := HO2.lies
          have hy := K2.c.el nc_length (i := (o).length) (by simp)
          rw [getB (by simp), List.getElem_append_right (Nat.le_refl _), Nat.zero_add] at hy
          simp only [Nat.sub_self, List.getElem_cons_zero] at hy
          have y2 : w2.cell? ⟨g2, (o).length * 3 + 2, none⟩ = some (.int .i64 (x.n)) := hy 2 _ rfl
          have f2 := HO2.1.frozenAt ((o).length * 3 + 2)
          have HS := (HO2.1.stored ((o).length * 3 + 2) (.int .i64 (x.n + 1))).1
          have HSn : OwnS nc (w2.setCell ⟨g2, (o).length * 3 + 2, none⟩ (.int .i64 (x.n + 1))) w.heap.size 166 3 (.slice (some ⟨g2, 0, none⟩) ((o) ++ [x]).length cap) ((o) ++ [⟨x.b, x.n + 1⟩]) := by
            refine ⟨?_, g2, cap, by simp⟩
            rw [fl_number] at HS
            simp only [List.length_append, List.length_singleton] at HS ⊢
            exact HS
          replace HS := Lib.hid HSn
          have hol : ((o).length : Int) ≤ 1000 := by omega
          clear hy K2 HO2 HSn
          go_wp2
          go_roundw
          case rel => exact ⟨k + 1 + 1, by omega, by go_num, by rw [HL.out]; exact HS.out, (hb3).setCell hB2 _⟩
          case measure => simp [intOf]; omega
        | false =>
          have e2 : (b.k == x.b.k && b.y == x.b.y) = false := e1
          have hbx : x.b ≠ b := fun h => by rw [Bt.like_iff.2 h.symm] at e1; cases e1
          rw [stepC_new o x hbx] at HL
          clear e1 hbx
          have hol2 : (o ++ [x]).length ≤ 200 := by simp; omega
          generalize hP : o ++ [x] = P at HL HO hol2
          replace hP := Lib.hid hP
          refine wp_region_qB (by kernel_rfl) (by kernel_rfl) ?_
          (repeat (first | fail | (apply qB_step; intro K hK; go_simp; first | (refine hK _ ?_; clear hK K) | (apply Exists.intro; refine ⟨fun _ => ?_, hK _ ?_⟩; (first | fail); clear hK K))))
          refine qB_nil ?_
          intro w1 hw1
          replace H := bstep H hw1
          clear hw1
          clear x0 x1 y0 y1 e2 hwk
          have x0 : w1.cell? ⟨g, (k + 1) * 2, none⟩ = some (.int .u8 b.k) := ((bstep hb H).cell hgw.out).trans (HX.out 0 _ rfl)
          have x1 : w1.cell? ⟨g, (k + 1) * 2 + 1, none⟩ = some (.int .i16 b.y) := ((bstep hb H).cell hgw.out).trans (HX.out 1 _ rfl)
          have HO1 := Lib.hid (HO.out.kept H)
          go_upto_region 7 with (at_builtin; refine wp_app_count w.heap.size rfl _ _ rfl _ P ⟨b, 0⟩ rfl _ rfl ?hg ?HO ?hB ?hn ?_; (case hg => simp); (case HO => exact HO1.out); (case hB => have := H.size; have := hBw.out; omega); (case hn => omega); intro v2 w2 HO2 hb2)
          have hb3 := (bstep hb H).trans hb2.1
          clear hb2 x0 x1 HO1
          obtain ⟨g2, cap, rfl, K2, hB2, hg2, -⟩ := HO2.lies
          have hy := K2.c.el nc_length (i := P.length) (by simp)
          rw [getB (by simp), List.getElem_append_right (Nat.le_refl _), Nat.zero_add] at hy
          simp only [Nat.sub_self, List.getElem_cons_zero] at hy
          have y2 : w2.cell? ⟨g2, P.length * 3 + 2, none⟩ = some (.int .i64 (0)) := hy 2 _ rfl
          have f2 := HO2.1.frozenAt (P.length * 3 + 2)
          have HS := (HO2.1.stored (P.length * 3 + 2) (.int .i64 (1))).1
          have HSn : OwnS nc (w2.setCell ⟨g2, P.length * 3 + 2, none⟩ (.int .i64 (1))) w.heap.size 166 3 (.slice (some ⟨g2, 0, none⟩) (P ++ [(⟨b, 0⟩ : Ct)]).length cap) (P ++ [⟨b, 1⟩]) := by
            refine ⟨?_, g2, cap, by simp⟩
            rw [fl_number] at HS
            simp only [List.length_append, List.length_singleton] at HS ⊢
            exact HS
          replace HS := Lib.hid HSn
          have hol : (P.length : Int) ≤ 1000 := by omega
          clear hy K2 HO2 HSn
          go_wp2
          go_roundw
          case rel => exact ⟨k + 1 + 1, by omega, by go_num, by rw [HL.out]; exact HS.out, (hb3).setCell hB2 _⟩
          case measure => simp [intOf]; omega
    · obtain rfl : k = l.length := by omega
      rw [List.take_length] at HO
      go_wp2
      go_ret
      exact ⟨_, rfl, HO.out, hb⟩
end Go.Proofs.YtbngpcghognojaaGreatDoor
namespace Go.Proofs.YtbngpcghognojaaGreatDoor
open Go.RowKit
set_option linter.unusedVariables false
set_option linter.unusedSimpArgs false
set_option maxRecDepth 100000
set_option maxHeartbeats 1000000
/-- A slice as an element. -/
def slv (v : Value) : List Value := [v]
theorem slv_length (v : Value) : (slv v).length = 1 := rfl
theorem fl_slv : ∀ vs : List Value, fl slv vs = vs
  | [] => rfl
  | v :: vs => by rw [fl_cons, fl_slv vs]; rfl
section
variable {α β : Type} {f : α → List Value} {f' : β → List Value} {w w' : World} {B B' e e' k k' : Nat} {v v' : Value} {l : List α} {l' : List β}
/-- Slices of elements of different types lie in different blocks. -/
theorem apart_types (h : OwnN f w B e k v l) (h' : OwnN f' w B' e' k' v' l') (he : e ≠ e') : Apart v v' := fun b hb hb' => by
  rcases h.2 with ⟨rfl, _⟩ | ⟨g, cap, cur, rfl, _, hh, _⟩
  · cases hb
  · rcases h'.2 with ⟨rfl, _⟩ | ⟨g', cap', cur', rfl, _, hh', _⟩
    · cases hb'
    · have e1 : g = b := by simpa [Value.ownBlock] using hb
      have e2 : g' = b := by simpa [Value.ownBlock] using hb'
      subst e1 e2
      rw [hh] at hh'
      simp at hh'
      exact he hh'.2
theorem OwnN.slice (h : OwnN f w B e k v l) : ∃ A c, v = .slice A l.length c := by
  obtain ⟨A, c, hv, _⟩ := h.rd
  exact ⟨A, c, hv⟩
/-- Slices ls of elements, owned, in an owned slice. -/
def OwnL (f : α → List Value) (k e E : Nat) (w : World) (B : Nat) (v : Value) (ls : List (List α)) : Prop :=
  ∃ vs : List Value, vs.length = ls.length ∧ OwnS slv w B E 1 v vs ∧ ∀ i, i < ls.length → OwnN f w B e k vs[i]! ls[i]!
variable {E : Nat} {ls : List (List α)}
theorem OwnL.kept (h : OwnL f k e E w B v ls) (hb : Below w.heap.size w w') : OwnL f k e E w' B v ls := by
  obtain ⟨vs, h1, h2, h3⟩ := h
  exact ⟨vs, h1, h2.kept hb, fun i hi => (h3 i hi).below hb⟩
theorem OwnL.down {b : Nat} (h : OwnL f k e E w B v ls) (hb : b ≤ B) : OwnL f k e E w b v ls := by
  obtain ⟨vs, h1, h2, h3⟩ := h
  exact ⟨vs, h1, h2.down hb, fun i hi => (h3 i hi).down hb⟩
theorem OwnL.lit (hB : B ≤ w.heap.size) : OwnL f k e E (w.alloc (.cells #[] E)) B (.slice (some ⟨w.heap.size, 0, none⟩) 0 0) [] :=
  ⟨[], rfl, OwnS.lit hB, fun i hi => absurd hi (Nat.not_lt_zero _)⟩
theorem OwnL.lies' (h : OwnL f k e E w B v ls) : ∃ g cap, v = .slice (some ⟨g, 0, none⟩) ls.length cap ∧ g < w.heap.size ∧ B ≤ g := by
  obtain ⟨vs, h1, h2, h3⟩ := h
  obtain ⟨g, cap, hv, K, hB, hg, _⟩ := h2.lies
  exact ⟨g, cap, by rw [← h1]; exact hv, hg, hB⟩
theorem OwnL.one {u : Value} {l : List α} (hB : B ≤ w.heap.size) (HU : OwnN f w B e k u l) : OwnL f k e E (w.alloc (.cells #[u] E)) B (.slice (some ⟨w.heap.size, 0, none⟩) 1 1) [l] :=
  ⟨[u], rfl, ⟨World.ownsRow_lit (base := B) (e := E) (size := 1) w #[u] 1 hB (by simp [maxLen]) (by simp), _, _, rfl⟩, fun i hi => by
    obtain rfl : i = 0 := by simp at hi; omega
    exact HU.below ((Below.refl _ w).alloc (Nat.le_refl _) _)⟩
theorem OwnL.but {v' : Value} {B' : Nat} {ls' : List (List α)} (h : OwnL f k e E w B v ls) (h' : OwnL f k e E w B' v' ls') (hb : ButV v' w w') (ha : Apart v' v) (hE : E ≠ e) : OwnL f k e E w' B v ls := by
  obtain ⟨vs, h1, h2, h3⟩ := h
  obtain ⟨vs', _, h2', _⟩ := h'
  exact ⟨vs, h1, ⟨h2.n.but hb ha, h2.2⟩, fun i hi => (h3 i hi).but hb (apart_types h2'.n (h3 i hi) hE)⟩
/-- A slice laid behind what another one lies in. -/
theorem OwnL.away {B' : Nat} {ls' : List (List α)} (h : OwnL f k e E w B v ls) (h' : OwnL f k e E w' B' v' ls') (hw : w'.heap.size ≤ B) : Apart v' v := by
  obtain ⟨_, _, h2, _⟩ := h
  obtain ⟨_, _, h2', _⟩ := h'
  exact h2'.n.apart h2.n hw
theorem OwnL.apart_away {v1 : Value} (h : OwnL f k e E w B v ls) (ha : Apart v' v) (hw : Away v' v1 w) : Apart v1 v := fun b hb hb' => by
  obtain ⟨g, cap, rfl, hg, _⟩ := h.lies'
  obtain rfl : g = b := by simpa [Value.ownBlock] using hb'
  exact hw g hg (fun q => ha g q rfl) hb
theorem OwnL.lies (h : OwnL f k e E w B v ls) : ∃ g cap, v = .slice (some ⟨g, 0, none⟩) ls.length cap ∧ g < w.heap.size ∧ B ≤ g ∧ ∀ i, i < ls.length → ∃ u, w.cell? ⟨g, i, none⟩ = some u ∧ OwnN f w B e k u ls[i]! := by
  obtain ⟨vs, h1, h2, h3⟩ := h
  obtain ⟨g, cap, hv, K, hB, hg, _⟩ := h2.lies
  refine ⟨g, cap, by rw [← h1]; exact hv, hg, hB, fun i hi => ⟨vs[i]!, ?_, h3 i hi⟩⟩
  have := K.c.el slv_length (i := i) (by omega) 0 vs[i]! rfl
  simpa using this
end
section
variable {α : Type} {f : α → List Value} {P : Program} {ops : Array Oper} {rest : List Oper} {o : Oper} {a : Act} {Q : Exit → Act → World → Prop} {W : World}
/-- append(v, x), x a slice. -/
theorem wp_app_in (B : Nat) (hgd : o.guard = none) (s x : Operand) (t E : TypeId) (ho : o.op = .call { callee := .builtin .append, args := #[s, x], argTypes := #[t, t] })
    (z : Value) (ht : P.underlying t = some (.slice E)) (hinfo : (P.info? E).map (fun i => (i.zero, i.size, i.bytes)) = some (some z, 1, 24)) (hzs : z.cells.size = 1) (k e : Nat) (hE : E ≠ e)
    (v : Value) (ls : List (List α)) (l : List α) (u : Value) (hs : a.eval s = v) (g : Nat) (hx : a.eval x = .slice (some ⟨g, 0, none⟩) 1 1) (hg : g = W.heap.size)
    (HO : OwnL f k e E W B v ls) (HU : OwnN f W B e k u l) (hB : B ≤ W.heap.size) (hn : ls.length ≤ 100000000)
    (h : ∀ v1 w1, OwnL f k e E w1 B v1 (ls ++ [l]) → (Below B W w1 ∧ ButV v W w1 ∧ Away v v1 W) → wpList P ops Q rest (a.put o.dst v1) w1) : wpList P ops Q (o :: rest) a (W.alloc (.cells #[u] E)) := by
  obtain ⟨vs, h1, h2, h3⟩ := HO
  refine wp_app3 (P := P) B hgd s x t E ho z 1 24 ht hinfo hzs (by decide) v vs.length (fl slv vs) [u] hs g hx hg rfl (fun q hq => ?_) h2.1 hB (by omega) (by decide) (fun v1 w1 hown hb => h v1 w1 ⟨vs ++ [u], by simp [h1], OwnS.grown (by rw [List.length_append, fl_append, fl_one]; exact hown), fun i hi => ?_⟩ hb)
  · obtain rfl : q = u := by simpa using hq
    obtain ⟨A, c, rfl⟩ := HU.slice
    rfl
  · rw [List.length_append, List.length_singleton] at hi
    rcases Nat.lt_or_ge i ls.length with q | q
    · have e1 : (vs ++ [u])[i]! = vs[i]! := by rw [getB (by simp; omega), getB (by omega), List.getElem_append_left (by omega)]
      have e2 : (ls ++ [l])[i]! = ls[i]! := by rw [getB (by simp; omega), getB q, List.getElem_append_left q]
      rw [e1, e2]
      exact (h3 i q).but hb.2.1 (apart_types h2.n (h3 i q) hE)
    · have e1 : (vs ++ [u])[i]! = u := by rw [getB (by simp; omega), List.getElem_append_right (by omega)]; simp
      have e2 : (ls ++ [l])[i]! = l := by rw [getB (by simp; omega), List.getElem_append_right q]; simp
      rw [e1, e2]
      exact HU.but hb.2.1 (apart_types h2.n HU hE)
end
end Go.Proofs.YtbngpcghognojaaGreatDoor
namespace Go.Proofs.YtbngpcghognojaaGreatDoor
open Go Go.RowKit
set_option linter.unusedVariables false
set_option linter.unusedSimpArgs false
set_option maxRecDepth 100000
set_option maxHeartbeats 1000000
attribute [local go_sem] Oper.qB
theorem iv_one (x : Int) : ∀ u ∈ iv x, u.oneCell' = true := fun u hu => by
  obtain rfl : u = .int .i64 x := by simpa [iv] using hu
  rfl
/-- The numbers from f on, m of them. -/
def upI (f : Int) (m : Nat) : List Int := (List.range m).map fun (i : Nat) => f + (i : Int)
/-- All ascending lists of n numbers out of m from f on, in their order. -/
def chF : Nat → Int → Nat → List (List Int)
  | 0, _, _ => [[]]
  | n + 1, f, m => (List.range m).flatMap fun (i : Nat) => (chF n (f + (i : Int) + 1) (m - (i + 1))).map fun l => (f + (i : Int)) :: l
/-- The same, between two bounds. -/
def ch (n : Nat) (f t : Int) : List (List Int) := chF n f (t + 1 - f).toNat
def chK (n : Nat) (f : Int) (m i : Nat) : List (List Int) := (List.range i).flatMap fun (i : Nat) => (chF n (f + (i : Int) + 1) (m - (i + 1))).map fun l => (f + (i : Int)) :: l
theorem chK_succ (n : Nat) (f : Int) (m i : Nat) : chK n f m (i + 1) = chK n f m i ++ (chF n (f + (i : Int) + 1) (m - (i + 1))).map (fun l => (f + (i : Int)) :: l) := by
  unfold chK
  rw [List.range_succ, List.flatMap_append]
  simp
theorem chF_le : ∀ (n : Nat) (f : Int) (m : Nat), (chF n f m).length ≤ 2 ^ m
  | 0, f, m => by simp [chF]; exact Nat.one_le_two_pow
  | n + 1, f, m => by
    have key : ∀ i, i ≤ m → (chK n f m i).length + 2 ^ (m - i) ≤ 2 ^ m := by
      intro i
      induction i with
      | zero => intro _; simp [chK]
      | succ i ih =>
        intro hi
        have h1 := ih (by omega)
        have h2 := chF_le n (f + (i : Int) + 1) (m - (i + 1))
        have h3 : 2 ^ (m - i) = 2 * 2 ^ (m - (i + 1)) := by rw [show m - i = (m - (i + 1)) + 1 by omega, Nat.pow_succ, Nat.mul_comm]
        rw [chK_succ, List.length_append, List.length_map]
        omega
    have := key m (Nat.le_refl _)
    exact Nat.le_trans (Nat.le_add_right _ _) this
theorem chK_le {n : Nat} {f : Int} {m i : Nat} (hi : i ≤ m) : (chK n f m i).length ≤ 2 ^ m := by
  have h := chF_le (n + 1) f m
  have e : chF (n + 1) f m = chK n f m m := rfl
  have hs : ∀ j, (chK n f m i).length ≤ (chK n f m (i + j)).length := by
    intro j
    induction j with
    | zero => exact Nat.le_refl _
    | succ j ih =>
      rw [← Nat.add_assoc, chK_succ, List.length_append]
      omega
  have := hs (m - i)
  rw [show i + (m - i) = m by omega, ← e] at this
  omega
theorem chF_len : ∀ (n : Nat) (f : Int) (m : Nat), ∀ x ∈ chF n f m, x.length = n
  | 0, f, m => by simp [chF]
  | n + 1, f, m => by
    intro x hx
    simp only [chF, List.mem_flatMap, List.mem_map] at hx
    obtain ⟨i, _, y, hy, rfl⟩ := hx
    simp [chF_len n _ _ y hy]
theorem map_step {rs : List (List Int)} {j : Nat} (x : Int) (h : j < rs.length) : (rs.take (j + 1)).map (fun l => x :: l) = (rs.take j).map (fun l => x :: l) ++ [x :: rs[j]!] := by
  rw [List.take_succ_eq_append_getElem h, List.map_append, getB h]
  rfl
theorem info47 : (Tryz.prog.info? 47).map (fun i => (i.zero, i.size, i.bytes)) = some (some (.slice none 0 0), 1, 24) := by kernel_rfl
theorem choices_any (n : Nat) : ∀ (f : Int) (m : Nat) (w : World), 0 ≤ f → f + m ≤ 100 → m ≤ 12 → n ≤ 12 →
    Calls Tryz.prog 70 #[.int .i64 n, .int .i64 f, .int .i64 (f + (m : Int) - 1)] w fun e w' => ∃ v, e = .returned v ∧ OwnL iv 1 2 47 w' w.heap.size v (chF n f m) ∧ Below w.heap.size w w' := by
  induction n with
  | zero =>
    intro f m w h0 h1 hm hn
    go_enter Tryz.func70, Tryz.ntmps70
    go_wp2
    go_ret
    have h := OwnL.one (f := iv) (k := 1) (e := 2) (w := w.alloc (.cells #[] 2)) (B := w.heap.size) (E := 47) (by simp) ((OwnS.lit (f := iv) (Nat.le_refl _)).n)
    rw [World.size_alloc] at h
    exact ⟨_, rfl, h, by go_grown⟩
  | succ n IH =>
    intro f m w h0 h1 hm hn
    obtain ⟨N, hN⟩ : ∃ N : Int, N = ((n + 1 : Nat) : Int) := ⟨_, rfl⟩
    rw [← hN]
    have hN1 : 1 ≤ N := by omega
    have hN2 : N ≤ 12 := by omega
    have hz : (N == 0) = false := by rw [beq_eq_false_iff_ne]; omega
    have IH2 := Lib.hid (fun (a b c : Int) (m' : Nat) (W : World) (ha : a = n) (hb : 0 ≤ b) (hbm : b + m' ≤ 100) (hm' : m' ≤ 12) (hc : c = b + m' - 1) => by
      have := IH b m' W hb hbm hm' (by omega)
      rw [← ha, ← hc] at this
      exact this)
    have hNn : N - 1 = n := by omega
    replace hN := Lib.hid hN
    replace hNn := Lib.hid hNn
    have hle := fun i (hi : i ≤ m) => chK_le (n := n) (f := f) (i := i) hi
    have hpow : 2 ^ m ≤ 4096 := Nat.pow_le_pow_right (n := 2) (by decide) hm
    have HLE := Lib.hid (fun i (hi : i ≤ m) => Nat.le_trans (hle i hi) hpow)
    clear hle hpow IH
    obtain ⟨T, hT⟩ : ∃ T : Int, T = f + (m : Int) - 1 := ⟨_, rfl⟩
    rw [← hT]
    have hT1 : T ≤ 100 := by omega
    have hT2 : -1 ≤ T := by omega
    replace hT := Lib.hid hT
    have hwN : IntKind.i64.wrap (N - 1) = N - 1 := by rw [IntKind.wrap_i64]; omega
    go_enter Tryz.func70, Tryz.ntmps70
    go_wp2
    go_loopw [7, 8] (fun v x wr => ∃ i : Nat, i ≤ m ∧ x = .int .i64 (f + (i : Int)) ∧ Hid (OwnL iv 1 2 47 wr w.heap.size v (chK n f m i)) ∧ Below w.heap.size w wr) (fun _ x _ => (f + (m : Int) - intOf x).toNat)
    case atStart => exact ⟨0, Nat.zero_le _, by rw [Int.natCast_zero, Int.add_zero], OwnL.lit (Nat.le_refl _), by go_grown⟩
    case round =>
      obtain ⟨i, hi, rfl, HO, hb⟩ := hrel
      obtain ⟨wo, hwo⟩ : ∃ wo, wo = wr := ⟨_, rfl⟩
      subst hwo
      have HLi := HLE.out i hi
      by_cases hlt : i < m
      · have HLs := Lib.hid (HLE.out (i + 1) hlt)
        have HS := Lib.hid (chK_succ n f m i)
        have hi2 : f + (i : Int) ≤ T := by rw [hT.out]; omega
        have HC : Hid (∀ W, Calls Tryz.prog 70 #[.int .i64 (N - 1), .int .i64 (f + (i : Int) + 1), .int .i64 T] W fun e w' => ∃ v, e = .returned v ∧ OwnL iv 1 2 47 w' W.heap.size v (chF n (f + (i : Int) + 1) (m - (i + 1))) ∧ Below W.heap.size W w') :=
          fun W => IH2.out _ _ _ _ W hNn.out (by omega) (by omega) (by omega) (by rw [hT.out]; omega)
        have HSL := chF_len n (f + (i : Int) + 1) (m - (i + 1))
        have hxe : Hid (f + ((i + 1 : Nat) : Int) = f + (i : Int) + 1) := by show _ = _; omega
        have hx0 : 0 ≤ f + (i : Int) := by omega
        have hms : Hid ((f + (m : Int) - (f + (i : Int) + 1)).toNat < (f + (m : Int) - (f + (i : Int))).toNat) := by show _ < _; omega
        generalize chF n (f + (i : Int) + 1) (m - (i + 1)) = rs at HS HC HSL
        generalize chK n f m i = os at HO HS HLi
        generalize f + (i : Int) = x at *
        have hx1 : x ≤ 100 := by omega
        have hwx : IntKind.i64.wrap (x + 1) = x + 1 := by rw [IntKind.wrap_i64]; omega
        have hrl : rs.length ≤ 4096 := by
          have := HLs.out
          rw [HS.out, List.length_append, List.length_map] at this
          omega
        go_wp2_with (go_at_call 70; with_reducible refine (HC.out _).mono ?_; rintro e wi ⟨v2, rfl, R0, hb2⟩; have HA0 := Lib.hid (R0.away HO.out (Nat.le_refl _)); obtain ⟨g2, p2, hv2, -, -⟩ := R0.lies'; subst hv2)
        have HO0 := Lib.hid (HO.out.kept hb2)
        replace R0 := Lib.hid R0
        have hb3 := bstep hb hb2
        go_loopw [7, 29] (fun v j wr => ∃ k : Nat, k ≤ rs.length ∧ j = .int .i64 k ∧ Hid (OwnL iv 1 2 47 wr w.heap.size v (os ++ (rs.take k).map (fun l => x :: l))) ∧ Hid (OwnL iv 1 2 47 wr wo.heap.size (.slice (some ⟨g2, 0, none⟩) rs.length p2) rs ∧ Apart v (.slice (some ⟨g2, 0, none⟩) rs.length p2)) ∧ Below w.heap.size w wr) (fun _ j _ => rs.length - (intOf j).toNat)
        case atStart => exact ⟨0, Nat.zero_le _, rfl, by rw [List.take_zero, List.map_nil, List.append_nil]; exact HO0.out, ⟨R0.out, HA0.out⟩, hb3⟩
        case round =>
          clear hb3 HO0 R0 HA0
          obtain ⟨k, hk, rfl, HOk, HR, hbk⟩ := hrel
          by_cases hltk : k < rs.length
          · obtain ⟨g3, cap3, hv3, hg3, hB3, HEL⟩ := HR.out.1.lies
            obtain ⟨rfl, rfl⟩ : g2 = g3 ∧ p2 = cap3 := by simpa using hv3
            obtain ⟨u, x0, HU⟩ := HEL k hltk
            have HM := Lib.hid (map_step x hltk)
            have hRl : rs[k]!.length ≤ 12 := by rw [getB hltk, HSL _ (List.getElem_mem hltk)]; omega
            have hkl : (os ++ (rs.take k).map (fun l => x :: l)).length ≤ 100000 := by simp; omega
            have hk2 : (k : Int) < (rs.length : Int) := by omega
            have HMA : Hid (os ++ (rs.take (k + 1)).map (fun l => x :: l) = (os ++ (rs.take k).map (fun l => x :: l)) ++ [x :: rs[k]!]) := by rw [Hid, HM.out, List.append_assoc]
            clear hv3 HEL HM hg3 hB3
            generalize os ++ (rs.take k).map (fun l => x :: l) = oo at HOk HMA hkl
            generalize rs[k]! = ys at HU HMA hRl
            replace HU := Lib.hid HU
            go_wp2_with (first | (at_builtin; refine wp_app_any (f := iv) wr.heap.size rfl _ _ 47 2 rfl (.int .i64 0) 1 8 Tryz.underlying47 info64 rfl (by decide) iv_length iv_one _ [x] rfl _ wo.heap.size ys rfl ?hO ?hY ?hB ?hn (by decide) ?_; (case hn => show 1 + ys.length ≤ 100000000; omega); (case hO => exact ⟨World.ownsRow_lit (base := wr.heap.size) (e := 2) (size := 1) wr #[.int .i64 x] 1 (Nat.le_refl _) (by simp [maxLen]) (by simp), _, _, rfl⟩); (case hY => exact HU.out.below ((Below.refl _ wr).alloc (Nat.le_refl _) _)); (case hB => simp); intro v5 w5 H5 hb5; obtain ⟨g5, p5, hv5, -⟩ := H5.lies; subst hv5; have hA5 := ((Below.refl wr.heap.size wr).alloc (Nat.le_refl _) _).trans hb5.1; have HO5 := Lib.hid (HOk.out.kept hA5); have HR5 := Lib.hid (HR.out.1.kept hA5); have HU5 := Lib.hid (H5.n.down hbk.size); have hb5' := Lib.hid (bstep hbk hA5); clear hb5 hA5 H5) | (at_builtin; refine wp_app_in (f := iv) w.heap.size rfl _ _ 111 47 rfl (.slice none 0 0) Tryz.underlying111 info47 rfl 1 2 (by decide) _ oo (x :: ys) _ rfl _ rfl ?hg ?hO ?hU ?hB ?hn ?_; (case hg => simp); (case hO => exact HO5.out); (case hU => exact HU5.out); (case hB => exact hb5'.out.size); (case hn => omega); intro v6 w6 H6 hb6))
            have HR6 := HR5.out.but HO5.out hb6.2.1 HR.out.2 (by decide)
            have HA6 := HR5.out.apart_away HR.out.2 hb6.2.2
            go_roundw
            case rel => exact ⟨k + 1, by omega, by go_num, by rw [HMA.out]; exact H6, ⟨HR6, HA6⟩, hb5'.out.trans hb6.1⟩
            case measure => simp [intOf]; omega
          · obtain rfl : k = rs.length := by omega
            rw [List.take_length] at HOk
            go_wp2
            go_roundw
            case rel => exact ⟨i + 1, by omega, by rw [hxe.out], by rw [HS.out]; exact HOk.out, hbk⟩
            case measure => exact hms.out
      · obtain rfl : i = m := by omega
        have hi2 : ¬ f + (i : Int) ≤ T := by rw [hT.out]; omega
        go_wp2
        go_ret
        exact ⟨_, rfl, HO.out, hb⟩
end Go.Proofs.YtbngpcghognojaaGreatDoor
namespace Go.Proofs.YtbngpcghognojaaGreatDoor
open Go.RowKit
set_option linter.unusedVariables false
set_option linter.unusedSimpArgs false
set_option maxRecDepth 100000
set_option maxHeartbeats 1000000
attribute [local go_sem] Oper.qB
def inR (lo hi x : Int) : Bool := decide (lo ≤ x) && decide (x ≤ hi)
/-- All numbers are numbers of crates. -/
def kin (n : Nat) (ks : List Int) : Bool := ks.all (inR 0 ((n : Int) - 1))
def openI (lc : List Cr) (l : List Wt) (ks : List Int) : Int := if askOk lc l = true then (if kin lc.length ks = true then 0 else 2) else 1
def lackR (lc : List Cr) (l : List Wt) (ks : List Int) : List Wt × Int := if openI lc l ks = 0 then (lackL (cntL (opL lc ks)) l, 0) else ([], openI lc l ks)
def checkR (lc : List Cr) (l : List Wt) (ks : List Int) : Bool × Int := if openI lc l ks = 0 then ((lackL (cntL (opL lc ks)) l).isEmpty, 0) else (false, openI lc l ks)
theorem kin_all {n : Nat} {ks : List Int} (h : kin n ks = true) : ∀ x ∈ ks, 0 ≤ x ∧ x < n := fun x hx => by
  have := (List.all_eq_true.1 h) x hx
  simp [inR] at this
  omega
theorem openI_zero {lc : List Cr} {l : List Wt} {ks : List Int} (h : openI lc l ks = 0) : askOk lc l = true ∧ kin lc.length ks = true := by
  unfold openI at h
  split at h
  · split at h
    · exact ⟨‹_›, ‹_›⟩
    · cases h
  · cases h
theorem openI_cases (lc : List Cr) (l : List Wt) (ks : List Int) : openI lc l ks = 0 ∨ openI lc l ks = 1 ∨ openI lc l ks = 2 := by
  unfold openI
  split
  · split
    · exact .inl rfl
    · exact .inr (.inr rfl)
  · exact .inr (.inl rfl)
theorem lackR_le (lc : List Cr) (l : List Wt) (ks : List Int) : (lackR lc l ks).1.length ≤ 8 := by
  unfold lackR
  split
  · rename_i h
    have := lackL_le (cntL (opL lc ks)) l
    have := ask_le (openI_zero h).1
    show (lackL (cntL (opL lc ks)) l).length ≤ 8
    omega
  · simp
end Go.Proofs.YtbngpcghognojaaGreatDoor
namespace Go.Proofs.YtbngpcghognojaaGreatDoor
open Go.RowKit
set_option linter.unusedVariables false
set_option linter.unusedSimpArgs false
set_option maxRecDepth 100000
set_option maxHeartbeats 1000000
attribute [local go_sem] Oper.qB
/-- The code of a stack and an order that can be filled. -/
def fillI (lc : List Cr) (l : List Wt) : Int := if askOk lc l = true then (if lackL (cntL lc) l = [] then 0 else 6) else 1
theorem fillI_cases (lc : List Cr) (l : List Wt) : (fillI lc l = 0 ∧ askOk lc l = true ∧ lackL (cntL lc) l = []) ∨ fillI lc l = 1 ∨ fillI lc l = 6 := by
  unfold fillI
  split
  · split
    · exact .inl ⟨rfl, ‹_›, ‹_›⟩
    · exact .inr (.inr rfl)
  · exact .inr (.inl rfl)
theorem fresh_nodup {ks : List Int} (h : ks.Nodup) {i : Nat} (hi : i < ks.length) : fresh ks i = true := by
  unfold fresh
  have e : ks.getD i 0 = ks[i] := by simp [List.getD_eq_getElem?_getD, hi]
  rw [e, Bool.not_eq_true', ← Bool.not_eq_true, List.contains_eq_mem, decide_eq_true_iff]
  intro hm
  obtain ⟨j, hj, hj2⟩ := List.getElem_of_mem hm
  rw [List.length_take] at hj
  rw [List.getElem_take] at hj2
  have := (List.getElem_inj h).1 hj2
  omega
theorem opL_nodup (lc : List Cr) {ks : List Int} (h : ks.Nodup) : opL lc ks = ks.map fun y => lc[y.toNat]! := by
  unfold opL opK
  rw [List.filter_eq_self.2 (fun i hi => fresh_nodup h (List.mem_range.1 hi))]
  apply List.ext_getElem
  · simp
  · intro i h1 h2
    have hi : i < ks.length := by simpa using h1
    simp [List.getD_eq_getElem?_getD, hi]
theorem cntL_perm {l l' : List Cr} (h : l.Perm l') (b : Bt) : cntL l b = cntL l' b := (h.map _).sum_nat
theorem everyL_nodup (n : Nat) : (everyL n).Nodup := List.pairwise_map.2 (List.Pairwise.imp (fun h q => h (Int.ofNat.inj q)) List.nodup_range)
theorem everyL_mem {n : Nat} {x : Int} (h0 : 0 ≤ x) (h : x < n) : x ∈ everyL n := by
  simp only [everyL, List.mem_map, List.mem_range]
  exact ⟨x.toNat, by omega, by show (x.toNat : Int) = x; omega⟩
/-- Numbers of crates, each once. -/
structure Good (n : Nat) (ks : List Int) : Prop where
  nd : ks.Nodup
  inn : ∀ x ∈ ks, 0 ≤ x ∧ x < n
theorem Good.le {n : Nat} {ks : List Int} (h : Good n ks) : ks.length ≤ n := by
  have := h.nd.length_le_of_subset (l₂ := everyL n) fun x hx => everyL_mem (h.inn x hx).1 (h.inn x hx).2
  rwa [everyL_length] at this
/-- All crates are told: nothing more is lacking than in all. -/
theorem Good.all {lc : List Cr} {ks : List Int} (h : Good lc.length ks) (ha : ∀ i, i < lc.length → (i : Int) ∈ ks) (b : Bt) : cntL (opL lc ks) b = cntL lc b := by
  have hp : ks.Perm (everyL lc.length) := (List.perm_ext_iff_of_nodup h.nd (everyL_nodup _)).2 fun x => ⟨fun hx => everyL_mem (h.inn x hx).1 (h.inn x hx).2, fun hx => by
    have := everyL_in hx
    have := ha x.toNat (by omega)
    rwa [show ((x.toNat : Nat) : Int) = x by omega] at this⟩
  have e := opL_every lc
  rw [opL_nodup lc (everyL_nodup _)] at e
  rw [opL_nodup lc h.nd]
  conv => rhs; rw [← e]
  exact cntL_perm (hp.map _) b
end Go.Proofs.YtbngpcghognojaaGreatDoor
namespace Go.Proofs.YtbngpcghognojaaGreatDoor
open Go Go.RowKit
set_option linter.unusedVariables false
set_option linter.unusedSimpArgs false
set_option maxRecDepth 100000
/-- Ascending numbers between two bounds. -/
def Asc (f : Int) (m : Nat) (ks : List Int) : Prop := ks.Pairwise (· < ·) ∧ ∀ x ∈ ks, f ≤ x ∧ x < f + m
theorem chF_mem : ∀ (n : Nat) (f : Int) (m : Nat) (ks : List Int), ks ∈ chF n f m ↔ ks.length = n ∧ Asc f m ks
  | 0, f, m, ks => by
    constructor
    · intro h
      obtain rfl : ks = [] := by simpa [chF] using h
      exact ⟨rfl, List.Pairwise.nil, fun x hx => absurd hx List.not_mem_nil⟩
    · rintro ⟨h, _⟩
      obtain rfl := List.length_eq_zero_iff.1 h
      simp [chF]
  | n + 1, f, m, ks => by
    simp only [chF, List.mem_flatMap, List.mem_map, List.mem_range]
    constructor
    · rintro ⟨i, hi, l, hl, rfl⟩
      obtain ⟨h1, h2, h3⟩ := (chF_mem n _ _ l).1 hl
      refine ⟨by rw [List.length_cons, h1], List.pairwise_cons.2 ⟨fun y hy => by have := (h3 y hy).1; omega, h2⟩, fun y hy => ?_⟩
      rcases List.mem_cons.1 hy with rfl | hy
      · omega
      · have := h3 y hy; omega
    · rintro ⟨h1, h2, h3⟩
      match ks, h1, h2, h3 with
      | x :: l, h1, h2, h3 =>
        have hx := h3 x (List.mem_cons_self ..)
        rw [List.pairwise_cons] at h2
        refine ⟨(x - f).toNat, by omega, l, (chF_mem n _ _ l).2 ⟨by simpa using h1, h2.2, fun y hy => ?_⟩, by rw [show f + ((x - f).toNat : Int) = x by omega]⟩
        have q1 := h2.1 y hy
        have q2 := h3 y (List.mem_cons_of_mem _ hy)
        omega
theorem asc_ext : ∀ (a b : List Int), a.Pairwise (· < ·) → b.Pairwise (· < ·) → (∀ x, x ∈ a ↔ x ∈ b) → a = b
  | [], [], _, _, _ => rfl
  | [], y :: b, _, _, h => absurd ((h y).2 (List.mem_cons_self ..)) List.not_mem_nil
  | x :: a, [], _, _, h => absurd ((h x).1 (List.mem_cons_self ..)) List.not_mem_nil
  | x :: a, y :: b, ha, hb, h => by
    rw [List.pairwise_cons] at ha hb
    have e : x = y := by
      rcases List.mem_cons.1 ((h x).1 (List.mem_cons_self ..)) with q | q
      · exact q
      · rcases List.mem_cons.1 ((h y).2 (List.mem_cons_self ..)) with q2 | q2
        · exact q2.symm
        · have := hb.1 x q; have := ha.1 y q2; omega
    subst e
    rw [asc_ext a b ha.2 hb.2 fun z => ⟨fun hz => ?_, fun hz => ?_⟩]
    · rcases List.mem_cons.1 ((h z).1 (List.mem_cons_of_mem _ hz)) with q | q
      · have := ha.1 z hz; omega
      · exact q
    · rcases List.mem_cons.1 ((h z).2 (List.mem_cons_of_mem _ hz)) with q | q
      · have := hb.1 z hz; omega
      · exact q
/-- a stands before b (both as long). -/
def ahead : List Int → List Int → Bool
  | x :: a, y :: b => if x = y then ahead a b else decide (x < y)
  | _, _ => false
theorem ahead_irr : ∀ a : List Int, ahead a a = false
  | [] => rfl
  | x :: a => by rw [ahead, if_pos rfl, ahead_irr a]
theorem ahead_tot : ∀ a b : List Int, a.length = b.length → ahead a b = false → ahead b a = false → a = b
  | [], [], _, _, _ => rfl
  | [], y :: b, h, _, _ => by simp at h
  | x :: a, [], h, _, _ => by simp at h
  | x :: a, y :: b, h, h1, h2 => by
    rw [ahead] at h1 h2
    by_cases e : x = y
    · subst e
      rw [if_pos rfl] at h1 h2
      rw [ahead_tot a b (by simpa using h) h1 h2]
    · rw [if_neg e, decide_eq_false_iff_not] at h1
      rw [if_neg (Ne.symm e), decide_eq_false_iff_not] at h2
      omega
theorem ahead_trans : ∀ a b c : List Int, a.length = b.length → b.length = c.length → ahead a b = true → ahead b c = true → ahead a c = true
  | [], b, c, _, _, h, _ => by simp [ahead] at h
  | x :: a, [], c, _, _, h, _ => by simp [ahead] at h
  | x :: a, y :: b, [], _, _, _, h => by simp [ahead] at h
  | x :: a, y :: b, z :: c, hl, hl2, h1, h2 => by
    rw [ahead] at h1 h2 ⊢
    by_cases e1 : x = y
    · subst e1
      rw [if_pos rfl] at h1
      by_cases e2 : x = z
      · subst e2
        rw [if_pos rfl] at h2 ⊢
        exact ahead_trans a b c (by simpa using hl) (by simpa using hl2) h1 h2
      · rw [if_neg e2] at h2 ⊢
        exact h2
    · rw [if_neg e1, decide_eq_true_iff] at h1
      by_cases e2 : y = z
      · subst e2
        rw [if_neg e1, decide_eq_true_iff]
        exact h1
      · rw [if_neg e2, decide_eq_true_iff] at h2
        rw [if_neg (by omega), decide_eq_true_iff]
        omega
theorem ahead_asymm {a b : List Int} (hl : a.length = b.length) (h : ahead a b = true) : ahead b a = false := by
  rw [← Bool.not_eq_true]
  intro h2
  have := ahead_trans a b a hl hl.symm h h2
  rw [ahead_irr] at this
  cases this
theorem chF_sorted : ∀ (n : Nat) (f : Int) (m : Nat), (chF n f m).Pairwise fun a b => ahead a b = true
  | 0, f, m => List.pairwise_singleton _ _
  | n + 1, f, m => by
    rw [chF, List.pairwise_flatMap]
    refine ⟨fun i _ => ?_, ?_⟩
    · rw [List.pairwise_map]
      exact (chF_sorted n _ _).imp fun h => by rw [ahead, if_pos rfl]; exact h
    · refine List.pairwise_lt_range.imp fun {i j} hij x hx y hy => ?_
      obtain ⟨a, _, rfl⟩ := List.mem_map.1 hx
      obtain ⟨b, _, rfl⟩ := List.mem_map.1 hy
      rw [ahead, if_neg (by omega), decide_eq_true_iff]
      omega
/-- Bit number i of a set. -/
def bitOn (s i : Nat) : Bool := decide (s / 2 ^ i % 2 = 1)
theorem bits_exist : ∀ (n : Nat) (p : Nat → Bool), ∃ s, s < 2 ^ n ∧ ∀ i, i < n → bitOn s i = p i
  | 0, p => ⟨0, by decide, fun i hi => absurd hi (Nat.not_lt_zero _)⟩
  | n + 1, p => by
    obtain ⟨s, hs, h⟩ := bits_exist n p
    have hp : 2 ^ (n + 1) = 2 ^ n + 2 ^ n := by rw [Nat.pow_succ]; omega
    have hbit : ∀ s i, bitOn s i = Nat.testBit s i := fun s i => Nat.testBit_eq_decide_div_mod_eq.symm
    cases e : p n with
    | false =>
      refine ⟨s, by omega, fun i hi => ?_⟩
      rcases Nat.lt_or_ge i n with q | q
      · exact h i q
      · obtain rfl : i = n := by omega
        rw [hbit, e, Nat.testBit_lt_two_pow hs]
    | true =>
      refine ⟨2 ^ n + s, by omega, fun i hi => ?_⟩
      rcases Nat.lt_or_ge i n with q | q
      · rw [hbit, Nat.testBit_two_pow_add_gt q, ← hbit]
        exact h i q
      · obtain rfl : i = n := by omega
        rw [hbit, e, Nat.testBit_two_pow_add_eq, Nat.testBit_lt_two_pow hs]
        rfl
/-- The numbers in a set, ascending: bit 'pos i' says whether number i is in it. -/
def inSet (pos : Nat → Nat) (s k : Nat) : List Int := (everyL k).filter fun x => bitOn s (pos x.toNat)
theorem everyL_asc (n : Nat) : (everyL n).Pairwise (· < ·) := List.pairwise_map.2 (List.pairwise_lt_range.imp fun h => Int.ofNat_lt.2 h)
theorem inSet_asc (pos : Nat → Nat) (s k : Nat) : Asc 0 k (inSet pos s k) := ⟨(everyL_asc k).filter _, fun x hx => by
  have := everyL_in (List.mem_filter.1 hx).1
  omega⟩
theorem inSet_succ (pos : Nat → Nat) (s k : Nat) : inSet pos s (k + 1) = inSet pos s k ++ (if bitOn s (pos k) = true then [(k : Int)] else []) := by
  unfold inSet
  rw [everyL_succ, List.filter_append]
  congr 1
  rw [List.filter_cons, Int.toNat_natCast]
  split <;> rfl
theorem inSet_le (pos : Nat → Nat) (s k : Nat) : (inSet pos s k).length ≤ k := by
  have := List.length_filter_le (fun x : Int => bitOn s (pos x.toNat)) (everyL k)
  rwa [everyL_length] at this
/-- Each ascending list is some set's. -/
theorem inSet_all {n : Nat} {pos : Nat → Nat} (hp : ∀ i, i < n → pos i < n ∧ pos (pos i) = i) {ks : List Int} (h : Asc 0 n ks) : ∃ s, s < 2 ^ n ∧ inSet pos s n = ks := by
  obtain ⟨s, hs, hb⟩ := bits_exist n fun i => decide ((pos i : Int) ∈ ks)
  refine ⟨s, hs, asc_ext _ _ (inSet_asc pos s n).1 h.1 fun x => ?_⟩
  unfold inSet
  rw [List.mem_filter]
  constructor
  · rintro ⟨hx, hbx⟩
    have hx2 := everyL_in hx
    have hq := hp x.toNat (by omega)
    rw [hb _ hq.1, hq.2, decide_eq_true_iff, show ((x.toNat : Nat) : Int) = x by omega] at hbx
    exact hbx
  · intro hx
    have hx2 := h.2 x hx
    have hq := hp x.toNat (by omega)
    refine ⟨everyL_mem hx2.1 (by omega), ?_⟩
    rw [hb _ hq.1, hq.2, decide_eq_true_iff, show ((x.toNat : Nat) : Int) = x by omega]
    exact hx
/-- Fewer numbers, or as many that stand before. -/
def lessL (a b : List Int) : Bool := decide (a.length < b.length) || (decide (a.length = b.length) && ahead a b)
theorem lessL_trans {a b c : List Int} (h1 : lessL a b = true) (h2 : lessL b c = true) : lessL a c = true := by
  simp only [lessL, Bool.or_eq_true, Bool.and_eq_true, decide_eq_true_iff] at *
  rcases h1 with h1 | ⟨h1, k1⟩ <;> rcases h2 with h2 | ⟨h2, k2⟩
  · exact .inl (by omega)
  · exact .inl (by omega)
  · exact .inl (by omega)
  · exact .inr ⟨by omega, ahead_trans a b c h1 h2 k1 k2⟩
theorem lessL_tot {a b : List Int} (h1 : lessL a b = false) (h2 : lessL b a = false) : a = b := by
  simp only [lessL, Bool.or_eq_false_iff, Bool.and_eq_false_iff, decide_eq_false_iff_not] at h1 h2
  have hl : a.length = b.length := by omega
  rcases h1.2 with q | q
  · exact absurd hl q
  · rcases h2.2 with q2 | q2
    · exact absurd hl.symm q2
    · exact ahead_tot a b hl q q2
/-- The least of the lists that are good. -/
def Least (n : Nat) (p : List Int → Bool) (r : List Int) : Prop := p r = true ∧ Asc 0 n r ∧ ∀ q, Asc 0 n q → p q = true → lessL q r = false
theorem Least.uniq {n : Nat} {p : List Int → Bool} {r r' : List Int} (h : Least n p r) (h' : Least n p r') : r = r' := lessL_tot (h'.2.2 r h.2.1 h.1) (h.2.2 r' h'.2.1 h'.1)
/-- Found in their order. -/
theorem least_found {n c j : Nat} {p : List Int → Bool} (hs : ∀ c', c' < c → ∀ q ∈ chF c' 0 n, p q = false) (hj : j < (chF c 0 n).length) (hn : ∀ i, i < j → p (chF c 0 n)[i]! = false) (hp : p (chF c 0 n)[j]! = true) : Least n p (chF c 0 n)[j]! := by
  have hm : (chF c 0 n)[j]! ∈ chF c 0 n := by rw [getB hj]; exact List.getElem_mem hj
  obtain ⟨hl, ha⟩ := (chF_mem c 0 n _).1 hm
  refine ⟨hp, ha, fun q hq hpq => ?_⟩
  have hqm := (chF_mem q.length 0 n q).2 ⟨rfl, hq⟩
  simp only [lessL, Bool.or_eq_false_iff, Bool.and_eq_false_iff, decide_eq_false_iff_not, hl]
  have hge : ¬ q.length < c := fun hlt => by
    have := hs _ hlt q hqm
    rw [hpq] at this
    cases this
  refine ⟨hge, ?_⟩
  rcases Nat.lt_or_ge c q.length with hgt | hle
  · exact .inl (by omega)
  · right
    have hqc : q.length = c := by omega
    rw [hqc] at hqm
    obtain ⟨i, hi, rfl⟩ := List.getElem_of_mem hqm
    rcases Nat.lt_trichotomy i j with h | h | h
    · have := hn i h
      rw [getB hi, hpq] at this
      cases this
    · subst h
      rw [getB hi]
      exact ahead_irr _
    · have := List.pairwise_iff_getElem.1 (chF_sorted c 0 n) j i hj hi h
      rw [getB hj]
      rw [getB hj] at hl
      exact ahead_asymm (by rw [hl, hqc]) this
/-- One set more. -/
def setStep (p : List Int → Bool) (ks : List Int) (r : List Int × Bool) : List Int × Bool :=
  if (r.2 && (decide (r.1.length < ks.length) || (decide (ks.length = r.1.length) && !ahead ks r.1))) = true then r else if p ks = true then (ks, true) else r
/-- The best of the first sets. -/
def setsK (n : Nat) (p : List Int → Bool) : Nat → List Int × Bool
  | 0 => ([], false)
  | k + 1 => setStep p (inSet (fun i => i) k n) (setsK n p k)
theorem skip_less (ks b : List Int) : (decide (b.length < ks.length) || (decide (ks.length = b.length) && !ahead ks b)) = !lessL ks b := by
  unfold lessL
  rcases Nat.lt_trichotomy ks.length b.length with h | h | h
  · have e1 : ¬ b.length < ks.length := by omega
    have e2 : ¬ ks.length = b.length := by omega
    simp [e1, e2, h]
  · simp [h]
  · have e1 : ¬ ks.length < b.length := by omega
    have e2 : ¬ ks.length = b.length := by omega
    simp [e1, e2, h]
theorem setStep_eq (p : List Int → Bool) (ks : List Int) (r : List Int × Bool) : setStep p ks r = if (r.2 && !lessL ks r.1) = true then r else if p ks = true then (ks, true) else r := by
  unfold setStep
  rw [skip_less]
theorem setsK_some {n : Nat} {p : List Int → Bool} : ∀ k, ((setsK n p k).2 = true → p (setsK n p k).1 = true ∧ Asc 0 n (setsK n p k).1 ∧ ∀ s, s < k → p (inSet (fun i => i) s n) = true → lessL (inSet (fun i => i) s n) (setsK n p k).1 = false) ∧ ((setsK n p k).2 = false → (setsK n p k).1 = [] ∧ ∀ s, s < k → p (inSet (fun i => i) s n) = false)
  | 0 => ⟨fun h => by simp [setsK] at h, fun _ => ⟨rfl, fun s hs => absurd hs (Nat.not_lt_zero _)⟩⟩
  | k + 1 => by
    obtain ⟨ih1, ih2⟩ := setsK_some (n := n) (p := p) k
    rw [setsK, setStep_eq]
    generalize hks : inSet (fun i => i) k n = ks
    generalize setsK n p k = r at ih1 ih2 ⊢
    have hcase : ∀ s, s < k + 1 → s < k ∨ s = k := fun s hs => by omega
    by_cases hskip : (r.2 && !lessL ks r.1) = true
    · rw [if_pos hskip]
      simp only [Bool.and_eq_true, Bool.not_eq_true'] at hskip
      obtain ⟨i1, i2, i3⟩ := ih1 hskip.1
      refine ⟨fun _ => ⟨i1, i2, fun s hs hps => ?_⟩, fun h => by rw [hskip.1] at h; cases h⟩
      rcases hcase s hs with q | rfl
      · exact i3 s q hps
      · rw [hks]; exact hskip.2
    · rw [if_neg hskip]
      by_cases hp : p ks = true
      · rw [if_pos hp]
        refine ⟨fun _ => ⟨hp, by show Asc 0 n ks; rw [← hks]; exact inSet_asc _ k n, fun s hs hps => ?_⟩, fun h => by cases h⟩
        rcases hcase s hs with q | rfl
        · cases hf : r.2 with
          | false => rw [(ih2 hf).2 s q] at hps; cases hps
          | true =>
            have hless : lessL ks r.1 = true := by simpa [hf] using hskip
            rw [← Bool.not_eq_true]
            intro hl
            have := lessL_trans hl hless
            rw [(ih1 hf).2.2 s q hps] at this
            cases this
        · rw [hks]; simp [lessL, ahead_irr]
      · rw [if_neg hp]
        refine ⟨fun h => ⟨(ih1 h).1, (ih1 h).2.1, fun s hs hps => ?_⟩, fun h => ⟨(ih2 h).1, fun s hs => ?_⟩⟩
        · rcases hcase s hs with q | rfl
          · exact (ih1 h).2.2 s q hps
          · rw [hks] at hps; exact absurd hps hp
        · rcases hcase s hs with q | rfl
          · exact (ih2 h).2 s q
          · rw [hks, ← Bool.not_eq_true]; exact hp
theorem sets_least {n : Nat} {p : List Int → Bool} (h : (setsK n p (2 ^ n)).2 = true) : Least n p (setsK n p (2 ^ n)).1 := by
  have := setsK_some (n := n) (p := p) (2 ^ n)
  replace this := this.1 h
  refine ⟨this.1, this.2.1, fun q hq hp => ?_⟩
  obtain ⟨s, hs, rfl⟩ := inSet_all (pos := fun i => i) (fun i hi => ⟨hi, rfl⟩) hq
  exact this.2.2 s hs hp
theorem sets_found {n : Nat} {p : List Int → Bool} {q : List Int} (hq : Asc 0 n q) (hp : p q = true) : (setsK n p (2 ^ n)).2 = true := by
  cases h : (setsK n p (2 ^ n)).2 with
  | true => rfl
  | false =>
    have := setsK_some (n := n) (p := p) (2 ^ n)
    replace this := this.2 h
    obtain ⟨s, hs, rfl⟩ := inSet_all (pos := fun i => i) (fun i hi => ⟨hi, rfl⟩) hq
    rw [this.2 s hs] at hp
    cases hp
end Go.Proofs.YtbngpcghognojaaGreatDoor
