/- Contracts of the texts of orders: the program's. -/
import Derived.Test.YtbngpcghognojaaDoorCrTP
import Derived.Test.YtbngpcghognojaaDoorCrT
import Derived.Test.YtbngpcghognojaaDoorSplT
import Derived.Test.YtbngpcghognojaaDoorOrder
import Derived.Test.YtbngpcghognojaaDoorEver
import Derived.Shelf.Strings.OnBuilder
import Derived.Maps.AppendAt
namespace Go.Proofs.YtbngpcghognojaaDoor
open Go Go.Sort Go.RowKit
set_option linter.unusedVariables false
set_option linter.unusedSimpArgs false
set_option maxRecDepth 100000
set_option maxHeartbeats 1000000
attribute [local go_sem] Oper.qB Oper.qK
theorem join_intc : ∀ ls : List (List UInt8), Lib.join ls [32] = intc 32 ls
  | [] => by simp [Lib.join, intc]
  | [p] => by simp [Lib.join, intc]
  | p :: q :: ps => by
    have ih := join_intc (q :: ps)
    simp only [Lib.join, intc] at ih ⊢
    simp [ih]
theorem ordOk_at {l : List Wt} (h : ordOk l = true) {k : Nat} (hk : k < l.length) : l[k]!.b.ok = true ∧ 1 ≤ l[k]!.n ∧ l[k]!.n ≤ 144 := by
  simp only [ordOk, Bool.and_eq_true, decide_eq_true_iff] at h
  have := (h.1 k hk).1
  simp only [Wt.ok, Bool.and_eq_true, decide_eq_true_iff] at this
  exact ⟨this.1, this.2.1, this.2.2⟩
theorem wantT_len {x : Wt} (h : x.b.ok = true) (h1 : 1 ≤ x.n) (h2 : x.n ≤ 144) : (wantT x).length ≤ 4000 := by
  have := botT_len h
  have h3 := dec_short x.n.toNat
  unfold wantT
  rw [List.length_append, List.length_cons]
  omega
theorem intc_len (s : UInt8) (m : Nat) : ∀ ls : List (List UInt8), (∀ p ∈ ls, p.length ≤ m) → (intc s ls).length ≤ ls.length * (m + 1)
  | [], _ => by simp [intc]
  | [p], h => by
    have := h p (by simp)
    simp only [intc, List.length_cons, List.length_nil]
    omega
  | p :: q :: ps, h => by
    have h1 := h p (by simp)
    have ih := intc_len s m (q :: ps) fun r hr => h r (List.mem_cons_of_mem _ hr)
    simp only [intc, List.length_append, List.length_cons] at ih ⊢
    have e : (ps.length + 1 + 1) * (m + 1) = (ps.length + 1) * (m + 1) + (m + 1) := by rw [Nat.add_mul (ps.length + 1)]; omega
    omega
theorem ordT_len {l : List Wt} (h : ordOk l = true) : (ordT l).length ≤ 8 * 4001 := by
  have h8 : l.length ≤ 8 := by
    simp only [ordOk, Bool.and_eq_true, decide_eq_true_iff] at h
    exact h.2
  have := intc_len 32 4000 (l.map wantT) fun p hp => by
    obtain ⟨x, hx, rfl⟩ := List.mem_map.1 hp
    obtain ⟨i, hi, rfl⟩ := List.getElem_of_mem hx
    have h2 := ordOk_at h hi
    rw [getB hi] at h2
    exact wantT_len h2.1 h2.2.1 h2.2.2
  rw [List.length_map] at this
  have h3 : l.length * (4000 + 1) ≤ 8 * 4001 := Nat.mul_le_mul_right _ h8
  unfold ordT
  omega
theorem bxJn : Builder.Extra Tryd.prog Tryd.lx44_ren := { sizeBuilder := by kernel_rfl, liesBuilder := by kernel_rfl, t5 := Tryd.underlying5, a5 := Tryd.isAgg5, z5 := Tryd.sizeOf5, v5 := Tryd.zeroValue5, infoByte := by kernel_rfl, cellsByte := by kernel_rfl, sizeByte := by kernel_rfl, neB5 := by decide }
theorem Join_any (g c : Nat) (ls : List (List UInt8)) (w : World) (hC : Lies tcs w g ls) (hn : ls.length ≤ 1000000) (hc : ls.length ≤ c) (hl : (intc 32 ls).length ≤ 1000000) :
    Calls Tryd.prog 44 #[.slice (some ⟨g, 0, none⟩) ls.length c, .string ⟨#[32]⟩] w fun e w' => e = .returned (.string ⟨(intc 32 ls).toArray⟩) ∧ Below w.heap.size w w' := by
  have hm : (ls.map fun x => (⟨x.toArray⟩ : ByteArray)).map (·.data.toList) = ls := by
    rw [List.map_map]
    conv => rhs; rw [← List.map_id ls]
    exact List.map_congr_left fun x _ => by simp
  have := Any.strings_Join Tryd.lx44 bxJn g 0 c (ls.map fun x => (⟨x.toArray⟩ : ByteArray)) ⟨#[32]⟩ w (fun j x hx => by
    rw [List.getElem?_map] at hx
    cases hj : ls[j]? with
    | none => rw [hj] at hx; cases hx
    | some y =>
      rw [hj] at hx
      obtain rfl : (⟨y.toArray⟩ : ByteArray) = x := Option.some.inj hx
      exact hC.1 j _ (by
        have e : ∀ ls : List (List UInt8), fl tcs ls = ls.map fun x => .string ⟨x.toArray⟩ := fun ls => by
          induction ls with
          | nil => rfl
          | cons x ls ih => rw [fl_cons, ih]; rfl
        rw [e, List.getElem?_map, hj]; rfl)) hC.2 (by rw [List.length_map]; omega) (by rw [List.length_map]; exact hc) (by
      rw [hm]
      show (Lib.join ls [32]).length ≤ _
      rw [join_intc]
      omega)
  rw [List.length_map, hm] at this
  rw [← join_intc]
  exact this
/-- append(v, x), run: x's cell lies at the head of block g. -/
theorem app_t (B : Nat) (w : World) (v : Value) (l : List (List UInt8)) (y : List UInt8) (g : Nat) (HO : OwnS tcs w B 9 1 v l) (hr : w.cell? ⟨g, 0, none⟩ = some (.string ⟨y.toArray⟩)) (hB : B ≤ w.heap.size) (hn : l.length ≤ 100000000) (ty : TypeId) :
    ∃ v1 w1, (Builtin.append_ #[74, 74] ty #[v, .slice (some ⟨g, 0, none⟩) 1 1]).run Tryd.prog w = .ok v1 w1 ∧ OwnS tcs w1 B 9 1 v1 (l ++ [y]) ∧ Below B w w1 ∧ ∀ b, b < w.heap.size → v.ownBlock ≠ some b → w1.heap[b]? = w.heap[b]? := by
  obtain ⟨i0, hi, hzz⟩ := Option.map_eq_some_iff.1 infoStr
  simp only [Prod.mk.injEq] at hzz
  obtain ⟨hz0, hz1, hz2⟩ := hzz
  obtain ⟨v1, w1, hrun, hown, hg, -, -⟩ := run_append_own_at (P := Tryd.prog) w B 74 ty 9 i0 _ 1 16 Tryd.underlying74 hi hz0 hz1 hz2 rfl (by decide) v l.length (fl tcs l) HO.1 ⟨g, 0, none⟩ 1 1 (tcs y) rfl
    (fun j u hj => by
      rw [addr_at]
      match j, hj with
      | 0, hj => rw [← hj]; exact hr
      | j + 1, hj => simp [tcs] at hj) (tcs_one y) (by simp only [maxLen]; omega) (by omega) hB
  have hb := (Below.refl B w).grown hg hB (fun k hk => own_base HO.1 k hk)
  exact ⟨v1, w1, hrun, OwnS.grown (by rw [List.length_append, fl_append, fl_one]; exact hown), hb, fun b hb1 hv => hg.block b hb1 (fun e => hv e.symm)⟩
theorem sziBot2 (b : Bt) : (Tryd.prog.info? 26).map (·.size) = some (bc b).length := by rw [bc_length]; kernel_rfl
theorem OrderText_any (b off c : Nat) (l : List Wt) (w : World) (hC : CAt w b off (fl wc l)) (hb : b < w.heap.size) (hn : l.length ≤ 1048576) (ht : Tab w) :
    Calls Tryd.prog 18 #[.slice (some ⟨b, off, none⟩) l.length c] w fun e w' => e = .returned (.string ⟨(if ordOk l = true then ordT l else []).toArray⟩) ∧ Below w.heap.size w w' := by
  have HC := Lib.hid (⟨hC, hb⟩ : _ ∧ _)
  have HV := Lib.hid (ValidOrder_any b off c l w hC hb (by omega))
  clear hC hb
  have HT := Lib.hid ht
  generalize hT : (if ordOk l = true then ordT l else []) = t
  have H := Below.refl w.heap.size w
  cases e1 : ordOk l with
  | false =>
    have e2 := Lib.hid e1
    obtain rfl : t = [] := by rw [← hT, e1]; rfl
    clear hT e1
    go_enter Tryd.func18, Tryd.ntmps18
    go_wp2_with (go_at_call 43; go_loud (refine HV.out.mono ?_; rintro e w' ⟨rfl, hb⟩; rw [e2.out]; replace H := bstep H hb; clear hb))
    go_ret
    exact ⟨rfl, H⟩
  | true =>
    have e2 := Lib.hid e1
    obtain rfl : t = ordT l := by rw [← hT, e1]; rfl
    have HOK := Lib.hid (fun k hk => @ordOk_at l e1 k hk)
    have HLN := Lib.hid (ordT_len e1)
    have h8 : l.length ≤ 8 := by
      simp only [ordOk, Bool.and_eq_true, decide_eq_true_iff] at e1
      exact e1.2
    clear hT e1
    go_enter Tryd.func18, Tryd.ntmps18
    go_upto_region 3 with (go_at_call 43; go_loud (refine HV.out.mono ?_; rintro e w' ⟨rfl, hb⟩; rw [e2.out]; replace H := bstep H hb; clear hb))
    go_wp2
    go_loopw [3, 12] (fun v i wr => ∃ k : Nat, k ≤ l.length ∧ i = .int .i64 k ∧ Hid (OwnS tcs wr w.heap.size 9 1 v ((l.take k).map wantT)) ∧ Below w.heap.size w wr) (fun _ i _ => l.length - (intOf i).toNat)
    case atStart => exact ⟨0, Nat.zero_le _, rfl, OwnS.lit H.size, H.alloc H.size _⟩
    case round =>
      obtain ⟨k, hk, rfl, HO, hb⟩ := hrel
      by_cases hlt : k < l.length
      · have HX := (HC.out.1.below hb HC.out.2).el wc_length hlt
        have hok := HOK.out k hlt
        have hlt2 : (k : Int) < (l.length : Int) := by omega
        have HTK : Hid ((l.take (k + 1)).map wantT = (l.take k).map wantT ++ [wantT l[k]!]) := by
          rw [Hid, List.take_succ_eq_append_getElem hlt, List.map_append, getB hlt]
          rfl
        generalize l[k]! = x at HX hok HTK
        have x0 : wr.cell? ⟨b, off + k * 3, none⟩ = some (.int .u8 x.b.k) := HX 0 _ rfl
        have x1 : wr.cell? ⟨b, off + k * 3 + 1, none⟩ = some (.int .i16 x.b.y) := HX 1 _ rfl
        have x2 : wr.cell? ⟨b, off + k * 3 + 2, none⟩ = some (.int .i16 x.n) := HX 2 _ rfl
        clear HX
        go_upto_region 7 with fail
        generalize hW5 : World.alloc wr (.cells #[.int .u8 x.b.k, .int .i16 x.b.y, .int .i16 x.n] 70) = W5
        have hB5 : Below wr.heap.size wr W5 := by rw [← hW5]; exact (Below.refl _ wr).alloc (Nat.le_refl _) _
        have r5 : rowOf W5 wr.heap.size = some (#[.int .u8 x.b.k, .int .i16 x.b.y, .int .i16 x.n] : Array Value) := by rw [← hW5, rowOf_alloc, if_pos rfl]
        clear hW5 x0 x1 x2
        have hg5 := rowOf_lt r5
        have HO5 := Lib.hid (HO.out.kept hB5)
        have hb5 := bstep hb hB5
        have HT5 := Lib.hid (HT.out.below hb5)
        clear hB5
        have hv5 : u3.ownBlock ≠ some wr.heap.size := fun e => Nat.lt_irrefl _ (own_lt HO.out.1 _ e)
        generalize wr.heap.size = g5 at r5 hg5 hv5 ⊢
        have HBT := fun W hW => BottleText_any x.b W hW
        have hif : (if x.b.ok = true then botT x.b else []) = botT x.b := if_pos hok.1
        rw [hif] at HBT
        have HDT := fun W hW => decimal_any x.n (by omega) (by omega) W hW
        have hs1 := size_text (botT x.b)
        have hs2 := size_text (Lib.itoa x.n)
        have hl1 := botT_len hok.1
        have hl2 := itoa_short (n := x.n) (by omega) (by omega)
        have hwl := Lib.hid (show (⟨(wantT x).toArray⟩ : ByteArray) = (⟨(botT x.b).toArray⟩ : ByteArray) ++ ⟨#[120]⟩ ++ ⟨(Lib.itoa x.n).toArray⟩ by
          rw [itoa_nat (by omega)]
          unfold wantT
          refine ByteArray.ext ?_
          simp [ByteArray.data_append])
        generalize (⟨(botT x.b).toArray⟩ : ByteArray) = SA at HBT hs1 hwl
        generalize (⟨(Lib.itoa x.n).toArray⟩ : ByteArray) = SB at HDT hs2 hwl
        have f1 : ¬ (9223372036854775807 < SA.size + 1) := by omega
        have f2 : ¬ (9223372036854775807 < SA.size + 1 + SB.size) := by omega
        have hwn : IntKind.i64.wrap x.n = x.n := by rw [IntKind.wrap_i64]; omega
        clear hs1 hs2 hl1 hl2 hif
        replace HBT := Lib.hid HBT
        replace HDT := Lib.hid HDT
        have hrs : ∀ w2 w3 : World, rowOf w2 g5 = some (#[.int .u8 x.b.k, .int .i16 x.b.y, .int .i16 x.n] : Array Value) → BelowOf w2 w3 → rowOf w3 g5 = some (#[.int .u8 x.b.k, .int .i16 x.b.y, .int .i16 x.n] : Array Value) := fun w2 w3 h hb => row_kept h hb
        have CB : ∀ w2, (Below w.heap.size w w2 ∧ rowOf w2 g5 = some (#[.int .u8 x.b.k, .int .i16 x.b.y, .int .i16 x.n] : Array Value)) → ∀ i v, (bc x.b)[i]? = some v → w2.cell? ⟨g5, 0 + i, none⟩ = some v := fun w2 hw i v hi => by
          rw [Nat.zero_add, rowOf_cell hw.2]
          match i, hi with
          | 0, hi => exact hi
          | 1, hi => exact hi
          | i + 2, hi => simp [bc] at hi
        have CN : ∀ p : {w2 : World // Fact.p ⟨fun w2 => Below w.heap.size w w2 ∧ rowOf w2 g5 = some (#[.int .u8 x.b.k, .int .i16 x.b.y, .int .i16 x.n] : Array Value), fun w2 w3 h hb => ⟨bstep h.1 hb, row_kept h.2 hb⟩⟩ w2}, p.1.cell? ⟨g5, 2, none⟩ = some (.int .i16 x.n) := fun p => by
          have h : Below w.heap.size w p.1 ∧ rowOf p.1 g5 = some (#[.int .u8 x.b.k, .int .i16 x.b.y, .int .i16 x.n] : Array Value) := p.2
          rw [rowOf_cell h.2]
          rfl
        have hq0 : Below w.heap.size w W5.drew ∧ rowOf W5.drew g5 = some (#[.int .u8 x.b.k, .int .i16 x.b.y, .int .i16 x.n] : Array Value) := ⟨hb5.drew, r5⟩
        refine e_start ⟨fun w2 => Below w.heap.size w w2 ∧ rowOf w2 g5 = some (#[.int .u8 x.b.k, .int .i16 x.b.y, .int .i16 x.n] : Array Value), fun w2 w3 h hb => ⟨bstep h.1 hb, row_kept h.2 hb⟩⟩ ⟨fun w2 => OwnS tcs w2 w.heap.size 9 1 u3 ((l.take k).map wantT), fun w2 w3 h hb => h.kept hb⟩ hq0 HO5.out 13 rfl (by kernel_rfl) ?_
        haveI : Nonempty {w2 : World // Fact.p ⟨fun w2 => Below w.heap.size w w2 ∧ rowOf w2 g5 = some (#[.int .u8 x.b.k, .int .i16 x.b.y, .int .i16 x.n] : Array Value), fun w2 w3 h hb => ⟨bstep h.1 hb, row_kept h.2 hb⟩⟩ w2} := ⟨⟨_, hq0⟩⟩
        (refine e_quiet 0 (by kernel_rfl) rfl (fun K hK => ?_); first | ((first | (refine qK_CAt rfl _ _ rfl _ _ rfl (bc x.b) CB _ Tryd.underlying26 rfl (sziBot2 x.b) (hK _ ?_))); clear hK K) | (go_simp; first | (refine hK _ ?_; clear hK K) | (apply Exists.intro; refine ⟨?_, hK _ ?_⟩; (intros; first | (go_at_call 11 <;> exact HBT.out _ (HT.out.below (by assumption))) | (go_at_call 33 <;> exact HDT.out _ (HT.out.below (by assumption)))); clear hK K)))
        (refine e_quiet 1 (by kernel_rfl) rfl (fun K hK => ?_); first | ((first | (refine qK_CAt rfl _ _ rfl _ _ rfl (bc x.b) CB _ Tryd.underlying26 rfl (sziBot2 x.b) (hK _ ?_))); clear hK K) | (go_simp; first | (refine hK _ ?_; clear hK K) | (apply Exists.intro; refine ⟨?_, hK _ ?_⟩; (intros; first | (go_at_call 11 <;> exact HBT.out _ (HT.out.below (by assumption))) | (go_at_call 33 <;> exact HDT.out _ (HT.out.below (by assumption)))); clear hK K)))
        (refine e_quiet 2 (by kernel_rfl) rfl (fun K hK => ?_); first | ((first | (refine qK_CAt rfl _ _ rfl _ _ rfl (bc x.b) CB _ Tryd.underlying26 rfl (sziBot2 x.b) (hK _ ?_))); clear hK K) | (go_simp; first | (refine hK _ ?_; clear hK K) | (apply Exists.intro; refine ⟨?_, hK _ ?_⟩; (intros; first | (go_at_call 11 <;> exact HBT.out _ (HT.out.below (by assumption))) | (go_at_call 33 <;> exact HDT.out _ (HT.out.below (by assumption)))); clear hK K)))
        refine e_quiet 3 (by kernel_rfl) rfl (fun K hK => ?_)
        go_simp
        refine ⟨_, fun w2 h1 h2 => HBT.out _ (HT.out.below h1), hK _ ?_⟩
        clear hK K
        (refine e_quiet 4 (by kernel_rfl) rfl (fun K hK => ?_); first | ((first | fail); clear hK K) | (go_simp; first | (refine hK _ ?_; clear hK K) | (apply Exists.intro; refine ⟨?_, hK _ ?_⟩; (intros; first | fail); clear hK K)))
        (refine e_quiet 5 (by kernel_rfl) rfl (fun K hK => ?_); first | ((first | fail); clear hK K) | (go_simp; first | (refine hK _ ?_; clear hK K) | (apply Exists.intro; refine ⟨?_, hK _ ?_⟩; (intros; first | fail); clear hK K)))
        (refine e_quiet 6 (by kernel_rfl) rfl (fun K hK => ?_); first | ((first | fail); clear hK K) | (go_simp; first | (refine hK _ ?_; clear hK K) | (apply Exists.intro; refine ⟨?_, hK _ ?_⟩; (intros; first | fail); clear hK K)))
        (refine e_quiet 7 (by kernel_rfl) rfl (fun K hK => ?_); first | ((first | fail); clear hK K) | (go_simp; first | (refine hK _ ?_; clear hK K) | (apply Exists.intro; refine ⟨?_, hK _ ?_⟩; (intros; first | fail); clear hK K)))
        refine e_quiet 8 (by kernel_rfl) rfl (fun K hK => ?_)
        go_simp
        refine ⟨_, fun w2 h1 h2 => HDT.out _ (HT.out.below h1), hK _ ?_⟩
        clear hK K
        (refine e_quiet 9 (by kernel_rfl) rfl (fun K hK => ?_); first | ((first | fail); clear hK K) | (go_simp; first | (refine hK _ ?_; clear hK K) | (apply Exists.intro; refine ⟨?_, hK _ ?_⟩; (intros; first | fail); clear hK K)))
        refine e_alone 10 (by kernel_rfl) rfl rfl (fun K hK wx hP hG => ?_)
        go_simp
        refine e_val ⟨fun w2 => OwnS tcs w2 w.heap.size 9 1 u3 ((l.take k).map wantT) ∧ (w2.cell? ⟨wx.heap.size, 0, none⟩ = some (.string ⟨(wantT x).toArray⟩) ∧ wx.heap.size < w2.heap.size), fun w2 w3 h hb => ⟨h.1.kept hb, (hb.cell h.2.2).trans h.2.1, Nat.lt_of_lt_of_le h.2.2 hb.size⟩⟩ rfl ⟨hP.1.alloc hP.1.size _, row_kept hP.2 ((Below.refl _ wx).alloc (Nat.le_refl _) _)⟩ ⟨hG.kept ((Below.refl _ wx).alloc (Nat.le_refl _) _), by rw [hwl.out]; simp [go_sem], by simp⟩ (hK _ _ ?_)
        clear hK K hP hG
        generalize wx.heap.size = g10
        refine e_alone 11 (by kernel_rfl) rfl rfl (fun K hK wy hP hG => ?_)
        obtain ⟨v1, w1, hrun, O1, hb1, hkp⟩ := app_t w.heap.size wy u3 ((l.take k).map wantT) (wantT x) g10 hG.1 hG.2.1 hP.1.size (by rw [List.length_map, List.length_take]; omega) 74
        refine e_val ⟨fun w2 => OwnS tcs w2 w.heap.size 9 1 v1 ((l.take k).map wantT ++ [wantT x]), fun w2 w3 h hb => h.kept hb⟩ (app_exec _ _ _ rfl _ _ rfl rfl v1 hrun) ⟨hP.1.trans hb1, ?_⟩ O1 (hK _ _ ?_)
        · have hr5 : rowOf wy g5 = some (#[.int .u8 x.b.k, .int .i16 x.b.y, .int .i16 x.n] : Array Value) := hP.2
          unfold rowOf at hr5 ⊢
          rw [hkp g5 (rowOf_lt hP.2) hv5]
          exact hr5
        clear hK K hP hG hrun O1 hb1 hkp wx wy
        (refine e_quiet 12 (by kernel_rfl) rfl (fun K hK => ?_); first | ((first | fail); clear hK K) | (go_simp; first | (refine hK _ ?_; clear hK K) | (apply Exists.intro; refine ⟨?_, hK _ ?_⟩; (intros; first | fail); clear hK K)))
        refine e_done (by kernel_rfl) ?_
        rintro w6 hP hG
        go_wp2
        go_roundw
        case rel => exact ⟨k + 1, by omega, by go_num, by rw [HTK.out]; exact hG, hP.1⟩
        case measure => simp [intOf]; omega
      · obtain rfl : k = l.length := by omega
        obtain ⟨g, cp, rfl, HL, -, -, hcp⟩ := HO.out.lies
        rw [List.take_length] at HL hcp ⊢
        have HJ := Join_any g cp (l.map wantT) wr HL (by rw [List.length_map]; omega) hcp (Nat.le_trans HLN.out (by decide))
        rw [List.length_map] at HJ
        replace HJ := Lib.hid HJ
        go_wp2_with (go_at_call 44; go_loud (refine HJ.out.mono ?_; rintro e w2 ⟨rfl, hb2⟩))
        go_ret
        exact ⟨rfl, bstep hb hb2⟩
end Go.Proofs.YtbngpcghognojaaDoor
