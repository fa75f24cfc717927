/- Contracts of the reference's readings: a text split at a byte, a bottle read. -/
import Derived.Test.YtbngpcghognojaaDoorReadB
import Derived.Test.YtbngpcghognojaaDoorOwn
import Derived.Test.YtbngpcghognojaaDoorBoth
import Derived.Lib.Strings
namespace Go.Proofs.YtbngpcghognojaaDoor
open Go Go.Sort Go.RowKit
set_option linter.unusedVariables false
set_option linter.unusedSimpArgs false
set_option maxRecDepth 100000
set_option maxHeartbeats 1000000
attribute [local go_sem] Oper.qB
/-! ### Plain -/
theorem spl_len (s : UInt8) : ∀ l : List UInt8, (spl s l).length ≤ l.length + 1
  | [] => by simp [spl]
  | c :: l => by
    have ih := spl_len s l
    rw [spl]
    split
    · simp only [List.length_cons]; omega
    · cases hs : spl s l with
      | nil => simp [preS]
      | cons p ps =>
        rw [hs] at ih
        simp only [preS, List.length_cons] at ih ⊢
        omega
/-- The piece from b up to i. -/
def pieceT (l : List UInt8) (b i : Nat) : List UInt8 := (l.drop b).take (i - b)
theorem piece_ext (l : List UInt8) (b i : Nat) : (⟨l.toArray⟩ : ByteArray).extract b i = ⟨(pieceT l b i).toArray⟩ := by
  rw [Lib.extract_eq]
  rfl
theorem piece_grow {l : List UInt8} {b i : Nat} (hb : b ≤ i) (hi : i < l.length) : pieceT l b (i + 1) = pieceT l b i ++ [l[i]!] := by
  unfold pieceT
  have hd : i - b < (l.drop b).length := by rw [List.length_drop]; omega
  rw [show i + 1 - b = (i - b) + 1 by omega, List.take_succ_eq_append_getElem hd, List.getElem_drop, getElem!_pos l i hi]
  simp only [show b + (i - b) = i by omega]
theorem drop_piece {l : List UInt8} {b i : Nat} (hb : b ≤ i) (hi : i < l.length) : l.drop b = pieceT l b i ++ l[i]! :: l.drop (i + 1) := by
  have h1 : (l.drop b).drop (i - b) = l[i]! :: l.drop (i + 1) := by
    rw [List.drop_drop, show b + (i - b) = i by omega, getElem!_pos l i hi]
    exact (List.drop_eq_getElem_cons hi)
  rw [← h1]
  exact (List.take_append_drop _ _).symm
theorem piece_end (l : List UInt8) (b : Nat) : pieceT l b l.length = l.drop b := by
  unfold pieceT
  rw [List.take_of_length_le (by rw [List.length_drop]; exact Nat.le_refl _)]
/-- What has been split up to byte i: the pieces, and where the last one begins. -/
structure SplK (s : UInt8) (l : List UInt8) (i b : Nat) (ls : List (List UInt8)) : Prop where
  le : b ≤ i
  eq : spl s l = ls ++ spl s (l.drop b)
  no : s ∉ pieceT l b i
theorem SplK.start (s : UInt8) (l : List UInt8) : SplK s l 0 0 [] := ⟨Nat.le_refl _, by simp, by simp [pieceT]⟩
theorem SplK.hit {s : UInt8} {l : List UInt8} {i b : Nat} {ls : List (List UInt8)} (h : SplK s l i b ls) (hi : i < l.length) (hc : l[i]! = s) : SplK s l (i + 1) (i + 1) (ls ++ [pieceT l b i]) := by
  refine ⟨Nat.le_refl _, ?_, by simp [pieceT]⟩
  rw [h.eq, drop_piece h.le hi, hc, spl_app _ h.no]
  simp
theorem SplK.miss {s : UInt8} {l : List UInt8} {i b : Nat} {ls : List (List UInt8)} (h : SplK s l i b ls) (hi : i < l.length) (hc : l[i]! ≠ s) : SplK s l (i + 1) b ls := by
  refine ⟨Nat.le_succ_of_le h.le, h.eq, ?_⟩
  rw [piece_grow h.le hi]
  intro hm
  rcases List.mem_append.1 hm with q | q
  · exact h.no q
  · exact hc (List.mem_singleton.1 q).symm
theorem SplK.done {s : UInt8} {l : List UInt8} {b : Nat} {ls : List (List UInt8)} (h : SplK s l l.length b ls) : ls ++ [l.drop b] = spl s l := by
  have h1 := h.no
  rw [piece_end] at h1
  rw [h.eq, spl_one h1]
theorem SplK.len {s : UInt8} {l : List UInt8} {i b : Nat} {ls : List (List UInt8)} (h : SplK s l i b ls) : ls.length ≤ l.length + 1 := by
  have h1 := spl_len s l
  rw [h.eq, List.length_append] at h1
  omega
/-! ### Texts in slices -/
/-- A text's cell. -/
def tcs (l : List UInt8) : List Value := [.string ⟨l.toArray⟩]
theorem tcs_length (l : List UInt8) : (tcs l).length = 1 := rfl
theorem tcs_one (l : List UInt8) : ∀ u ∈ tcs l, u.oneCell' = true := by
  intro u hu
  simp [tcs] at hu
  subst hu
  rfl
theorem infoStr : (Tryd.prog.info? 9).map (fun i => (i.zero, i.size, i.bytes)) = some (some (.string ⟨#[]⟩), 1, 16) := by kernel_rfl
section
variable {ops : Array Oper} {rest : List Oper} {o : Oper} {a : Act} {Q : Exit → Act → World → Prop} {W : World}
theorem wp_app_txt (B : Nat) (hgd : o.guard = none) (s x : Operand) (ho : o.op = .call { callee := .builtin .append, args := #[s, x], argTypes := #[74, 74] })
    (v : Value) (l : List (List UInt8)) (y : List UInt8) (hs : a.eval s = v) (g : Nat) (hx : a.eval x = .slice (some ⟨g, 0, none⟩) 1 1) (hg : g = W.heap.size)
    (HO : OwnS tcs W B 9 1 v l) (hB : B ≤ W.heap.size) (hn : l.length ≤ 100000000) (S : ByteArray) (hS : S = ⟨y.toArray⟩)
    (h : ∀ v1 w1, OwnS tcs w1 B 9 1 v1 (l ++ [y]) → Below B W w1 → wpList Tryd.prog ops Q rest (a.put o.dst v1) w1) : wpList Tryd.prog ops Q (o :: rest) a (W.alloc (.cells #[.string S] 9)) := by
  subst hS
  exact wp_app (P := Tryd.prog) B hgd s x 74 9 ho (.string ⟨#[]⟩) 1 16 Tryd.underlying74 infoStr rfl (by decide) v l.length (fl tcs l) (tcs y) hs g hx hg rfl (tcs_one y) HO.1 hB (by omega) (by decide)
    (fun v1 w1 h1 h2 => h v1 w1 (OwnS.grown (by rw [List.length_append, fl_append, fl_one]; exact h1)) h2)
end
theorem l01Split_any (l : List UInt8) (s : UInt8) (w : World) (hl : l.length ≤ 1048576) :
    Calls Tryd.prog 49 #[.string ⟨l.toArray⟩, .int .u8 (s.toNat : Int)] w fun e w' => ∃ v, e = .returned v ∧ OwnS tcs w' w.heap.size 9 1 v (spl s l) ∧ Below w.heap.size w w' := by
  have hsz := size_text l
  have hget := Lib.hid (get_text l)
  have hext := Lib.hid (piece_ext l)
  generalize (⟨l.toArray⟩ : ByteArray) = S at hsz hget hext ⊢
  go_enter Tryd.func49, Tryd.ntmps49
  go_wp2
  go_loopw [5, 6, 7] (fun v bg i wr => ∃ (k b : Nat) (ls : List (List UInt8)), k ≤ l.length ∧ i = .int .i64 k ∧ bg = .int .i64 b ∧ Hid (SplK s l k b ls) ∧ Hid (OwnS tcs wr w.heap.size 9 1 v ls) ∧ Below w.heap.size w wr) (fun _ _ i _ => l.length - (intOf i).toNat)
  case atStart => exact ⟨0, 0, [], Nat.zero_le _, rfl, rfl, SplK.start s l, OwnS.lit (Nat.le_refl _), by go_grown⟩
  case round =>
    obtain ⟨k, b, ls, hk, rfl, rfl, HK, HO, hb⟩ := hrel
    have hbk := HK.out.le
    have hls := HK.out.len
    by_cases hlt : k < l.length
    · have hk2 : (k : Int) < (l.length : Int) := by omega
      have hgk : ∀ h : k < S.size, S[k] = l[k]! := fun h => hget.out k h
      have HH := Lib.hid (HK.out.hit hlt)
      have HM := Lib.hid (HK.out.miss hlt)
      generalize l[k]! = c at hgk HH HM
      by_cases hc : c = s
      · subst hc
        have hx := Lib.hid (hext.out b k)
        have HH' := Lib.hid (HH.out rfl)
        clear HH HM
        go_wp2_with (at_builtin; refine wp_app_txt w.heap.size rfl _ _ rfl _ ls (pieceT l b k) rfl _ rfl ?hg ?HO ?hB ?hn _ ?hS ?_; (case hg => simp); (case HO => exact HO.out); (case hB => exact hb.size); (case hn => omega); (case hS => exact hx.out); intro v1 w1 hown hb1)
        go_roundw
        case rel => exact ⟨k + 1, k + 1, ls ++ [pieceT l b k], by omega, by go_num, by go_num, HH'.out, hown, hb.trans hb1⟩
        case measure => simp [intOf]; omega
      · have hne : ¬ (c.toNat : Int) = (s.toNat : Int) := fun e => hc (UInt8.toNat_inj.1 (by omega))
        have HM' := Lib.hid (HM.out hc)
        clear HH HM
        replace hc := Lib.hid hc
        go_wp2
        go_roundw
        case rel => exact ⟨k + 1, b, ls, by omega, by go_num, rfl, HM'.out, HO.out, hb⟩
        case measure => simp [intOf]; omega
    · obtain rfl : k = l.length := by omega
      have HD := Lib.hid HK.out.done
      have hx : Hid (S.extract b l.length = ⟨(l.drop b).toArray⟩) := by rw [Hid, hext.out, piece_end]
      go_wp2_with (at_builtin; refine wp_app_txt w.heap.size rfl _ _ rfl _ ls (l.drop b) rfl _ rfl ?hg ?HO ?hB ?hn _ ?hS ?_; (case hg => simp); (case HO => exact HO.out); (case hB => exact hb.size); (case hn => omega); (case hS => exact hx.out); intro v1 w1 hown hb1)
      go_ret
      exact ⟨_, rfl, by rw [← HD.out]; exact hown, hb.trans hb1⟩
end Go.Proofs.YtbngpcghognojaaDoor
