/- The program's ValidCrate, by the library's ContainsFunc. -/
import Derived.Test.YtbngpcghognojaaDoorCrate
import Derived.Test.YtbngpcghognojaaDoorShelf
namespace Go.Proofs.YtbngpcghognojaaDoor
open Go.RowKit
set_option linter.unusedVariables false
set_option linter.unusedSimpArgs false
set_option maxRecDepth 100000
set_option maxHeartbeats 1000000
theorem bc_cells {w : World} {b off : Nat} {l : List Bt} (h : CAt w b off (bcs l)) : ∀ j, j < l.length → ∀ i v, (bc l[j]!)[i]? = some v → w.cell? ⟨b, off + j * 2 + i, none⟩ = some v := by
  intro j hj i v hi
  have e : l[j]! = rB l j := by rw [rB_lt hj, getElem!_pos l j hj]
  rw [e] at hi
  match i, hi with
  | 0, hi =>
    simp only [bc, List.getElem?_cons_zero, Option.some.injEq] at hi
    subst hi
    exact h.bot0 hj
  | 1, hi =>
    simp only [bc, List.getElem?_cons_succ, List.getElem?_cons_zero, Option.some.injEq] at hi
    subst hi
    exact h.bot1 hj
  | i + 2, hi => simp [bc] at hi
theorem ContainsFunc_bot (n : Nat) (g : Nat) (p : Bt → Bool) (eg : ∀ args w, (callFunc g args).run Tryd.prog w = .ok (.enter g args) w) (b off c : Nat) (l : List Bt) (w : World) (hn : n = l.length) (hm : n ≤ 1000000000)
    (hp : PredBelow Tryd.prog g #[] (fun x : Bt => .agg (bc x).toArray) p w) (hC : CAt w b off (bcs l)) (hb : b < w.heap.size) :
    Calls Tryd.prog 59 #[.slice (some ⟨b, off, none⟩) n c, .func (.func g) #[] #[]] w fun e w' => e = .returned (.bool (l.any p)) ∧ Below w.heap.size w w' := by
  subst hn
  have := AnyQ.slices_ContainsFunc Tryd.lx59 2 Tryd.isAgg26 Tryd.sizeOf26 bc (fun _ => rfl) p g #[] eg b off l.length c l w hp (Nat.le_refl _) (by omega) hb (bc_cells hC)
  rwa [List.take_length] at this
theorem fine_pays (w : World) : PredBelow Tryd.prog 60 #[] (fun x : Bt => .agg (bc x).toArray) (fun x => !x.fine) w :=
  fun W x hb => (ValidCrate1_any x W).mono fun _ _ ⟨he, h⟩ => ⟨he, hb.trans (h.mono hb.size)⟩
theorem any_fine (c : Cr) : c.toList.any (fun x => !x.fine) = !c.ok := by
  rw [Cr.ok, List.not_all_eq_any_not]
theorem ValidCrate_any (c : Cr) (w : World) : Calls Tryd.prog 36 #[cv c] w fun e w' => e = .returned (.bool c.ok) ∧ Below w.heap.size w w' := by
  have H := any_fine c
  generalize c.ok = r at H ⊢
  go_enter Tryd.func36, Tryd.ntmps36
  go_wp2_with fail
  refine (ContainsFunc_bot 12 60 (fun x => !x.fine) (enters_of Tryd.func60 (by kernel_rfl) rfl) w.heap.size 0 12 c.toList _ (by rw [Vector.length_toList]) (by omega) (fine_pays _) (show CAt _ _ _ (cc c) from CAt.of_row (by rw [rowOf_alloc, if_pos rfl])) (by simp)).mono ?_
  rintro e w' ⟨rfl, hb⟩
  rw [H]
  clear H
  go_wp2
  go_ret
  exact ⟨by simp, bstepB ((Below.refl _ _).alloc (Nat.le_refl _) _) (by simp) hb⟩
end Go.Proofs.YtbngpcghognojaaDoor
