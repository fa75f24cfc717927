/- Contracts of CountsIn: how many bottles there are of each. -/
import Derived.Test.YtoiinpoiggkkdaaWhole
import Derived.Maps.AppendAt
namespace Go.Proofs.Ytoiinpoiggkkdaa
open Go Go.RowKit
set_option linter.unusedVariables false
set_option linter.unusedSimpArgs false
set_option maxRecDepth 100000
set_option maxHeartbeats 1000000
attribute [local go_sem] Oper.qB
/-- A bottle and how many. -/
structure Ct where
  b : Bt
  n : Int
instance : Inhabited Ct := ⟨⟨zB, 0⟩⟩
def nc (x : Ct) : List Value := [.int .u8 x.b.k, .int .i16 x.b.y, .int .i64 x.n]
theorem nc_length (x : Ct) : (nc x).length = 3 := rfl
theorem nc_one (x : Ct) : ∀ u ∈ nc x, u.oneCell' = true := by
  intro u hu
  simp [nc] at hu
  rcases hu with rfl | rfl | rfl <;> rfl
/-- One bottle more. -/
def stepC (out : List Ct) (b : Bt) : List Ct :=
  match out.getLast? with
  | some x => if x.b = b then out.dropLast ++ [⟨b, x.n + 1⟩] else out ++ [⟨b, 1⟩]
  | none => [⟨b, 1⟩]
def runs (l : List Bt) : List Ct := l.foldl stepC []
theorem stepC_nil (b : Bt) : stepC [] b = [⟨b, 1⟩] := rfl
theorem stepC_same (o : List Ct) (x : Ct) {b : Bt} (h : x.b = b) : stepC (o ++ [x]) b = o ++ [⟨b, x.n + 1⟩] := by
  simp [stepC, h]
theorem stepC_new (o : List Ct) (x : Ct) {b : Bt} (h : x.b ≠ b) : stepC (o ++ [x]) b = (o ++ [x]) ++ [⟨b, 1⟩] := by
  simp [stepC, h]
theorem runs_step {l : List Bt} {k : Nat} (hk : k < l.length) : runs (l.take (k + 1)) = stepC (runs (l.take k)) l[k]! := by
  unfold runs
  rw [List.take_succ_eq_append_getElem hk, List.foldl_append, getB hk]
  rfl
theorem stepC_last (out : List Ct) (b : Bt) : ∃ o x, stepC out b = o ++ [x] ∧ x.b = b := by
  rcases List.eq_nil_or_concat out with rfl | ⟨o, x, rfl⟩
  · exact ⟨[], _, rfl, rfl⟩
  · rw [List.concat_eq_append]
    by_cases h : x.b = b
    · exact ⟨o, _, stepC_same o x h, rfl⟩
    · exact ⟨o ++ [x], _, stepC_new o x h, rfl⟩
theorem runs_bound (l : List Bt) : ∀ k, k ≤ l.length → (runs (l.take k)).length ≤ k ∧ ∀ x ∈ runs (l.take k), 0 ≤ x.n ∧ x.n ≤ k
  | 0, _ => by simp [runs]
  | k + 1, h => by
    obtain ⟨h1, h2⟩ := runs_bound l k (by omega)
    rw [runs_step (by omega)]
    generalize runs (l.take k) = out at h1 h2
    generalize l[k]! = b
    rcases List.eq_nil_or_concat out with rfl | ⟨o, x, rfl⟩
    · rw [stepC_nil]
      refine ⟨by simp, fun x hx => ?_⟩
      obtain rfl : x = _ := by simpa using hx
      exact ⟨by show (0 : Int) ≤ 1; decide, by show (1 : Int) ≤ _; omega⟩
    · rw [List.concat_eq_append] at *
      by_cases h : x.b = b
      · rw [stepC_same o x h]
        refine ⟨by simp at h1 ⊢; omega, fun y hy => ?_⟩
        rcases List.mem_append.1 hy with hy | hy
        · have := h2 y (List.mem_append_left _ hy)
          omega
        · obtain rfl : y = _ := by simpa using hy
          have := h2 x (by simp)
          show 0 ≤ x.n + 1 ∧ x.n + 1 ≤ _
          omega
      · rw [stepC_new o x h]
        refine ⟨by simp at h1 ⊢; omega, fun y hy => ?_⟩
        rcases List.mem_append.1 hy with hy | hy
        · have := h2 y hy
          omega
        · obtain rfl : y = _ := by simpa using hy
          exact ⟨by show (0 : Int) ≤ 1; decide, by show (1 : Int) ≤ _; omega⟩
def countsR (L : List Cr) : List Ct × Int := if stackOk L = true then (runs (sortB (wholeL L)), 0) else ([], 1)
theorem countsR_le (L : List Cr) : (countsR L).1.length ≤ 144 := by
  unfold countsR
  split
  · rename_i h
    have h1 := stack_le h
    have h2 := wholeL_le L
    have h3 := (runs_bound (sortB (wholeL L)) _ (Nat.le_refl _)).1
    rw [List.take_length, sortB_length] at h3
    show (runs _).length ≤ 144
    omega
  · simp
theorem fl_number {o : List Ct} {x : Ct} (m : Int) : (fl nc (o ++ [x])).set (o.length * 3 + 2) (.int .i64 m) = fl nc (o ++ [⟨x.b, m⟩]) := by
  have e : (fl nc o).length = o.length * 3 := fl_length nc_length o
  rw [fl_append, fl_append, fl_one, fl_one, List.set_append_right _ _ (by omega), e, Nat.add_sub_cancel_left]
  rfl
/-- Whatever block lay apart from a slice lies apart from another one. -/
def Away (v v1 : Value) (W : World) : Prop := ∀ b, b < W.heap.size → v.ownBlock ≠ some b → v1.ownBlock ≠ some b
section
variable {P : Program} {ops : Array Oper} {rest : List Oper} {o : Oper} {a : Act} {Q : Exit → Act → World → Prop} {W : World}
/-- append(v, x), with all that has not changed, and where the new slice lies. -/
theorem wp_app3 (B : Nat) (hgd : o.guard = none) (s x : Operand) (t e : TypeId) (ho : o.op = .call { callee := .builtin .append, args := #[s, x], argTypes := #[t, t] })
    (z : Value) (size bytes : Nat) (ht : P.underlying t = some (.slice e)) (hinfo : (P.info? e).map (fun i => (i.zero, i.size, i.bytes)) = some (some z, size, bytes)) (hzs : z.cells.size = size) (hsz : 0 < size)
    (v : Value) (n : Nat) (xs news : List Value) (hs : a.eval s = v) (g : Nat) (hx : a.eval x = .slice (some ⟨g, 0, none⟩) 1 1) (hg : g = W.heap.size) (hl : news.length = size) (h1 : ∀ u ∈ news, u.oneCell' = true)
    (HO : W.ownsRow B e size v n xs) (hB : B ≤ W.heap.size) (hn : n + 1 ≤ 1000000000) (hby : bytes ≤ 1000)
    (h : ∀ v1 w1, w1.ownsRow B e size v1 (n + 1) (xs ++ news) → (Below B W w1 ∧ ButV v W w1 ∧ Away v v1 W) → wpList P ops Q rest (a.put o.dst v1) w1) : wpList P ops Q (o :: rest) a (W.alloc (.cells news.toArray e)) := by
  subst hg
  obtain ⟨i0, hi, hzz⟩ := Option.map_eq_some_iff.1 hinfo
  simp only [Prod.mk.injEq] at hzz
  obtain ⟨hz0, hz1, hz2⟩ := hzz
  obtain ⟨v1, w1, hrun, hown, hg, -, hblk⟩ := run_append_own_at (P := P) (W.alloc (.cells news.toArray e)) B t o.type e i0 z size bytes ht hi hz0 hz1 hz2 hzs hsz v n xs (HO.alloc _) ⟨W.heap.size, 0, none⟩ 1 1 news (by omega)
    (fun j u hj => by rw [addr_at]; simp only [World.cell?_alloc_new]; simpa using hj) h1 (by simp only [maxLen]; omega)
    (by calc (n + 1) * bytes ≤ 1000000000 * 1000 := Nat.mul_le_mul hn hby
      _ ≤ 140737488355328 := by decide) (by simp; omega)
  have hb := ((Below.refl B W).alloc hB _).grown hg (by simp; omega) (fun k hk => own_base HO k hk)
  refine wpList_plain hgd fun K hK => ?_
  unfold Oper.wp execOp
  simp only [ho, resolve, invoke, builtin, Sem.run_bind, Sem.run_pure, Result.andThen_ok, List.map_toArray, List.map_cons, List.map_nil, hs, hx, hrun]
  refine hK _ _ (h v1 w1 hown ⟨hb, ⟨⟨hb.os, hb.tape, hb.output, hb.size, fun k hk => absurd hk (Nat.not_lt_zero _)⟩, fun b hb1 hv => ?_⟩, fun b hb1 hv he => ?_⟩)
  · rw [hg.block b (by simp; omega) (fun e => hv e.symm)]
    exact (Below.refl W.heap.size W).alloc (Nat.le_refl _) (.cells news.toArray e) |>.block b hb1
  · rcases hblk with h | h
    · rw [h] at he
      exact hv he
    · rw [h] at he
      simp at he
      omega
end
theorem lies_but {α : Type} {f : α → List Value} {w w' : World} {g : Nat} {l : List α} {v : Value} (h : Lies f w g l) (hb : ButV v w w') (hv : v.ownBlock ≠ some g) : Lies f w' g l :=
  ⟨fun i x hx => by unfold World.cell?; rw [hb.2 g h.lt hv]; exact h.c i x hx, Nat.lt_of_lt_of_le h.lt hb.1.size⟩
end Go.Proofs.Ytoiinpoiggkkdaa
