/- append of one element, with all that it does not touch. -/
import Derived.Test.YtbngpcghognojaaDoorOwn
import Derived.Maps.AppendAt
namespace Go.Proofs.YtbngpcghognojaaDoor
open Go.RowKit
set_option linter.unusedVariables false
set_option linter.unusedSimpArgs false
set_option maxRecDepth 100000
set_option maxHeartbeats 1000000
section
variable {P : Program} {ops : Array Oper} {rest : List Oper} {o : Oper} {a : Act} {Q : Exit → Act → World → Prop} {W : World}
/-- What block g holds stays as it is, and the new slice lies elsewhere, too. -/
def Spares (g : Nat) (W w : World) (v : Value) : Prop := w.heap[g]? = W.heap[g]? ∧ v.ownBlock ≠ some g
theorem wp_appA (gs : List Nat) (B : Nat) (hgd : o.guard = none) (s x : Operand) (t e : TypeId) (ho : o.op = .call { callee := .builtin .append, args := #[s, x], argTypes := #[t, t] })
    (z : Value) (size bytes : Nat) (ht : P.underlying t = some (.slice e)) (hinfo : (P.info? e).map (fun i => (i.zero, i.size, i.bytes)) = some (some z, size, bytes)) (hzs : z.cells.size = size) (hsz : 0 < size)
    (v : Value) (n : Nat) (xs news : List Value) (hs : a.eval s = v) (g : Nat) (hx : a.eval x = .slice (some ⟨g, 0, none⟩) 1 1) (hg : g = W.heap.size) (hl : news.length = size) (h1 : ∀ u ∈ news, u.oneCell' = true)
    (HO : W.ownsRow B e size v n xs) (hB : B ≤ W.heap.size) (hn : n + 1 ≤ 1000000000) (hby : bytes ≤ 1000) (hgs : ∀ k ∈ gs, k < W.heap.size ∧ v.ownBlock ≠ some k)
    (h : ∀ v1 w1, w1.ownsRow B e size v1 (n + 1) (xs ++ news) → Below B W w1 → (∀ k ∈ gs, Spares k W w1 v1) → wpList P ops Q rest (a.put o.dst v1) w1) : wpList P ops Q (o :: rest) a (W.alloc (.cells news.toArray e)) := by
  subst hg
  obtain ⟨i0, hi, hzz⟩ := Option.map_eq_some_iff.1 hinfo
  simp only [Prod.mk.injEq] at hzz
  obtain ⟨hz0, hz1, hz2⟩ := hzz
  obtain ⟨v1, w1, hrun, hown, hg, -, hblk⟩ := run_append_own_at (P := P) (W.alloc (.cells news.toArray e)) B t o.type e i0 z size bytes ht hi hz0 hz1 hz2 hzs hsz v n xs (HO.alloc _) ⟨W.heap.size, 0, none⟩ 1 1 news (by omega)
    (fun j u hj => by rw [addr_at]; simp only [World.cell?_alloc_new]; simpa using hj) h1 (by simp only [maxLen]; omega)
    (by calc (n + 1) * bytes ≤ 1000000000 * 1000 := Nat.mul_le_mul hn hby
      _ ≤ 140737488355328 := by decide) (by simp; omega)
  have hb := ((Below.refl B W).alloc hB _).grown hg (by simp; omega) (fun k hk => own_base HO k hk)
  refine wpList_plain hgd fun K hK => ?_
  unfold Oper.wp execOp
  simp only [ho, resolve, invoke, builtin, Sem.run_bind, Sem.run_pure, Result.andThen_ok, List.map_toArray, List.map_cons, List.map_nil, hs, hx, hrun]
  refine hK _ _ (h v1 w1 hown hb fun k hk => ⟨?_, fun he => ?_⟩)
  · rw [hg.block k (by have := (hgs k hk).1; simp; omega) (fun e => (hgs k hk).2 e.symm)]
    exact (Below.refl W.heap.size W).alloc (Nat.le_refl _) (.cells news.toArray e) |>.block k (hgs k hk).1
  · rcases hblk with h | h
    · rw [h] at he
      exact (hgs k hk).2 he
    · rw [h] at he
      have := (hgs k hk).1
      simp at he
      omega
end
theorem Spares.lies {α : Type} {f : α → List Value} {g : Nat} {W w : World} {v : Value} {l : List α} {B : Nat} (h : Spares g W w v) (hL : Lies f W g l) (hb : Below B W w) : Lies f w g l := by
  refine ⟨fun i u hi => ?_, Nat.lt_of_lt_of_le hL.2 hb.size⟩
  rw [← hL.1 i u hi]
  unfold World.cell?
  rw [h.1]
theorem Spares.row {g : Nat} {W w : World} {v : Value} {cs : Array Value} (h : Spares g W w v) (hr : rowOf W g = some cs) : rowOf w g = some cs := by
  unfold rowOf at hr ⊢
  rw [h.1]
  exact hr
section
variable {ops : Array Oper} {rest : List Oper} {o : Oper} {a : Act} {Q : Exit → Act → World → Prop} {W : World}
theorem wp_app_wantA (gs : List Nat) (B : Nat) (hgd : o.guard = none) (s x : Operand) (ho : o.op = .call { callee := .builtin .append, args := #[s, x], argTypes := #[38, 38] })
    (v : Value) (l : List Wt) (y : Wt) (hs : a.eval s = v) (g : Nat) (hx : a.eval x = .slice (some ⟨g, 0, none⟩) 1 1) (hg : g = W.heap.size)
    (HO : OwnS wc W B 70 3 v l) (hB : B ≤ W.heap.size) (hn : l.length ≤ 100000000) (hgs : ∀ k ∈ gs, k < W.heap.size ∧ v.ownBlock ≠ some k)
    (h : ∀ v1 w1, OwnS wc w1 B 70 3 v1 (l ++ [y]) → Below B W w1 → (∀ k ∈ gs, Spares k W w1 v1) → wpList Tryd.prog ops Q rest (a.put o.dst v1) w1) : wpList Tryd.prog ops Q (o :: rest) a (W.alloc (.cells #[.int .u8 y.b.k, .int .i16 y.b.y, .int .i16 y.n] 70)) :=
  wp_appA (P := Tryd.prog) gs B hgd s x 38 70 ho (.agg (wc zW).toArray) 3 6 Tryd.underlying38 infoWantS rfl (by decide) v l.length (fl wc l) (wc y) hs g hx hg rfl (fun u hu => wv_one y u (by simpa using hu)) HO.1 hB (by omega) (by decide) hgs
    (fun v1 w1 h1 h2 h3 => h v1 w1 (OwnS.grown (by rw [List.length_append, fl_append, fl_one]; exact h1)) h2 h3)
end
end Go.Proofs.YtbngpcghognojaaDoor
