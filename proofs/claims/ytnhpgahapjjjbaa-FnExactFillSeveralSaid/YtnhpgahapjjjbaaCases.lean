/- Contracts of CasesFor: the bottles of an order packed into crates. -/
import Derived.Test.YtnhpgahapjjjbaaPack
import Derived.Test.YtnhpgahapjjjbaaShort
namespace Go.Proofs.Ytnhpgahapjjjbaa
open Go.RowKit
set_option linter.unusedVariables false
set_option linter.unusedSimpArgs false
set_option maxRecDepth 100000
set_option maxHeartbeats 1000000
attribute [local go_sem] Oper.qB
section
variable {α : Type} {f : α → List Value} {P : Program} {ops : Array Oper} {rest : List Oper} {o : Oper} {a : Act} {Q : Exit → Act → World → Prop} {W : World}
/-- append(v, ys...) -/
theorem wp_app_el (B : Nat) (hgd : o.guard = none) (s x : Operand) (t e : TypeId) (ho : o.op = .call { callee := .builtin .append, args := #[s, x], argTypes := #[t, t] })
    (z : Value) (size bytes : Nat) (ht : P.underlying t = some (.slice e)) (hinfo : (P.info? e).map (fun i => (i.zero, i.size, i.bytes)) = some (some z, size, bytes)) (hzs : z.cells.size = size) (hsz : 0 < size)
    (hf : ∀ x, (f x).length = size) (h1 : ∀ x, ∀ u ∈ f x, u.oneCell' = true)
    (v : Value) (l : List α) (hs : a.eval s = v) (g mc : Nat) (ys : List α) (hx : a.eval x = .slice (some ⟨g, 0, none⟩) ys.length mc)
    (HO : OwnS f W B e size v l) (HY : Lies f W g ys) (hB : B ≤ W.heap.size) (hn : l.length + ys.length ≤ 100000000) (hby : bytes ≤ 1000)
    (h : ∀ v1 w1, OwnS f w1 B e size v1 (l ++ ys) → Below B W w1 ∧ ButV v W w1 → wpList P ops Q rest (a.put o.dst v1) w1) : wpList P ops Q (o :: rest) a W := by
  obtain ⟨i0, hi, hzz⟩ := Option.map_eq_some_iff.1 hinfo
  simp only [Prod.mk.injEq] at hzz
  obtain ⟨hz0, hz1, hz2⟩ := hzz
  refine wpList_append_own W hgd s x t ho B e i0 z size bytes ht hi hz0 hz1 hz2 hzs hsz v l.length (fl f l) hs HO.1 ⟨g, 0, none⟩ ys.length mc (fl f ys) hx (fl_length hf ys) (fun j u hj => ?_) (fl_ones h1 ys) (by simp only [maxLen]; omega) ?_ hB ?_
  · rw [addr_at]
    have := HY.c j u hj
    rwa [Nat.zero_add] at this
  · calc (l.length + ys.length) * bytes ≤ 100000000 * 1000 := Nat.mul_le_mul hn hby
      _ ≤ 140737488355328 := by decide
  intro v1 w1 hown hg hnil
  have hb : Below B W w1 := (Below.refl B W).grown hg hB (fun k hk => own_base HO.1 k hk)
  have hO1 : w1.ownsRow B e size v1 (l ++ ys).length (fl f (l ++ ys)) := by rw [List.length_append, fl_append]; exact hown
  refine h v1 w1 ⟨hO1, ?_⟩ ⟨hb, ⟨hb.os, hb.tape, hb.output, hb.size, fun k hk => absurd hk (Nat.not_lt_zero _)⟩, fun b hb1 hv => hg.block b hb1 (fun e => hv e.symm)⟩
  rcases hO1.2 with ⟨h0, _⟩ | ⟨g', cap', cur, hv, _⟩
  · obtain ⟨_, g0, cap0, rfl⟩ := HO
    have := (hnil.1 h0).1
    cases this
  · exact ⟨g', cap', hv⟩
end
def casesR (l : List Wt) : List Cr × Int := if ordOk l = true then (packL (botsL l), 0) else ([], 1)
theorem casesR_le (l : List Wt) : (casesR l).1.length ≤ 30000 := by
  unfold casesR
  split
  · rename_i h
    have h8 : l.length ≤ 8 := by simp [ordOk] at h; exact h.2
    have := botsL_le l
    show (packK _ _).length ≤ 30000
    rw [packK_length]
    omega
  · simp
theorem ok_nonneg {l : List Wt} (h : ordOk l = true) : ∀ x ∈ l, 0 ≤ x.n := fun x hx => by
  have h1 : okK l l.length := by simp [ordOk] at h; exact h.1
  obtain ⟨i, hi, rfl⟩ := List.getElem_of_mem hx
  have := (h1 i hi).1
  rw [getB hi] at this
  simp [Wt.ok] at this
  omega
theorem casesFor_any (b off c1 : Nat) (l : List Wt) (w : World) (hC : CAt w b off (fl wc l)) (hb1 : b < w.heap.size) (hl : l.length ≤ 8) (hp : ∀ x ∈ l, 0 ≤ x.n) :
    Calls Try.prog 95 #[.slice (some ⟨b, off, none⟩) l.length c1] w fun e w' => ∃ v, e = .returned v ∧ OwnS cc w' w.heap.size 28 24 v (packL (botsL l)) ∧ Below w.heap.size w w' := by
  have HC := Lib.hid (⟨hC, hb1⟩ : _ ∧ _)
  have HPos := Lib.hid hp
  clear hC hb1 hp
  go_enter Try.func95, Try.ntmps95
  go_wp2
  go_loopw [3, 9] (fun v i wr => ∃ k : Nat, k ≤ l.length ∧ i = .int .i64 k ∧ Hid (OwnS bc wr w.heap.size 26 2 v (botsL (l.take k))) ∧ Below w.heap.size w wr) (fun _ i _ => l.length - (intOf i).toNat)
  case atStart => exact ⟨0, Nat.zero_le _, rfl, OwnS.lit (Nat.le_refl _), by go_grown⟩
  case round =>
    obtain ⟨k, hk, rfl, HO, hb⟩ := hrel
    by_cases hlt : k < l.length
    · have HX := (HC.out.1.below hb HC.out.2).el wc_length hlt
      have HL := Lib.hid (@botsL_step l k hlt)
      have HP := botsL_le (l.take k)
      have hcl : (l.take k).length ≤ k := by simp; omega
      have hPn : (botsL (l.take k)).length ≤ 1000000 := by omega
      have hn0 := HPos.out l[k]! (by rw [getB hlt]; exact List.getElem_mem hlt)
      clear HP hcl
      have hlt2 : (k : Int) < (l.length : Int) := by omega
      generalize l[k]! = x at HX HL hn0
      generalize botsL (l.take k) = lk at HO HL hPn
      obtain ⟨hn1, hn2⟩ := x.hn
      obtain ⟨m, hm⟩ : ∃ m : Nat, x.n = (m : Int) := ⟨x.n.toNat, by omega⟩
      have x0 : wr.cell? ⟨b, off + k * 3, none⟩ = some (.int .u8 x.b.k) := HX 0 _ rfl
      have x1 : wr.cell? ⟨b, off + k * 3 + 1, none⟩ = some (.int .i16 x.b.y) := HX 1 _ rfl
      have x2 : wr.cell? ⟨b, off + k * 3 + 2, none⟩ = some (.int .i16 (m : Int)) := by rw [← hm]; exact HX 2 _ rfl
      have hmm : m ≤ 32767 := by omega
      have hmi : (m : Int) ≤ 32767 := by omega
      have HL2 : Hid (botsL (l.take (k + 1)) = lk ++ List.replicate m x.b) := by rw [Hid, HL.out, hm, Int.toNat_natCast]
      replace hm := Lib.hid hm
      clear HX HL
      go_wp2_with (first | (go_at_call 132; refine (Repeat_bot _ x.b m _ ?hR ?hG hmm).mono ?_; (case hR => exact CAt.of_row (by rw [rowOf_alloc, if_pos (by simp)]; rfl)); (case hG => simp); rintro e w2 ⟨g2, rfl, O2, hb2⟩; have hb3 := bstepB (show Below wr.heap.size wr _ by go_grown) (by simp; omega) hb2; have K2 : Lies bc w2 g2 (List.replicate m x.b) := own_lies (n := m) (by have h := O2; unfold OwnN at h; rwa [List.length_replicate] at h); clear O2 hb2; replace HO := Lib.hid (HO.out.kept hb3); replace hb := bstep hb hb3) | (at_builtin; refine wp_app_el (f := bc) w.heap.size rfl _ _ 54 26 rfl (.agg #[.int .u8 0, .int .i16 0]) 2 4 Try.underlying54 infoBt rfl (by decide) bc_length bc_one _ lk rfl g2 m (List.replicate m x.b) (by rw [List.length_replicate]; rfl) HO.out K2 hb.size (by rw [List.length_replicate]; omega) (by decide) ?_; intro v1 w1 HO1 hb4))
      go_roundw
      case rel => exact ⟨k + 1, by omega, by go_num, by rw [HL2.out]; exact HO1, hb.trans hb4.1⟩
      case measure => simp [intOf]; omega
    · obtain rfl : k = l.length := by omega
      rw [List.take_length] at HO
      have HP := botsL_le l
      obtain ⟨gv, cap, rfl, KO, -⟩ := HO.out.lies
      have HPk := fun W h => packed_any (some ⟨gv, 0, none⟩) cap (botsL l) W h (by omega)
      generalize hbl : botsL l = bl at HPk KO
      replace hbl := Lib.hid hbl
      have KO2 := Lib.hid KO
      clear KO HO HP
      go_wp2_with (go_at_call 106; with_reducible refine (HPk _ KO2.out.rd).mono ?_; rintro e w2 ⟨v2, rfl, O2, hb2⟩; replace O2 := O2.down hb.size; replace hb := bstep hb hb2)
      go_ret
      exact ⟨_, rfl, by rw [hbl.out]; exact O2, hb⟩
end Go.Proofs.Ytnhpgahapjjjbaa
