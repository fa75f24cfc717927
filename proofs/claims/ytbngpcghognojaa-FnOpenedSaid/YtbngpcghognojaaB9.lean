/- Texts of the claim, joined (9 of 18): Choice, Opened, Filled. -/
import Derived.Test.YtbngpcghognojaaB5
import Derived.Test.YtbngpcghognojaaB7
import Derived.Test.YtbngpcghognojaaB8
namespace Go.Proofs.Ytbngpcghognojaa
open Go Go.RowKit
set_option linter.unusedVariables false
set_option linter.unusedSimpArgs false
set_option maxRecDepth 100000
set_option maxHeartbeats 1000000
attribute [local go_sem] Oper.qB
theorem iv_one (x : Int) : ∀ u ∈ iv x, u.oneCell' = true := fun u hu => by
  obtain rfl : u = .int .i64 x := by simpa [iv] using hu
  rfl
/-- The numbers from f on, m of them. -/
def upI (f : Int) (m : Nat) : List Int := (List.range m).map fun (i : Nat) => f + (i : Int)
/-- All ascending lists of n numbers out of m from f on, in their order. -/
def chF : Nat → Int → Nat → List (List Int)
  | 0, _, _ => [[]]
  | n + 1, f, m => (List.range m).flatMap fun (i : Nat) => (chF n (f + (i : Int) + 1) (m - (i + 1))).map fun l => (f + (i : Int)) :: l
/-- The same, between two bounds. -/
def ch (n : Nat) (f t : Int) : List (List Int) := chF n f (t + 1 - f).toNat
def chK (n : Nat) (f : Int) (m i : Nat) : List (List Int) := (List.range i).flatMap fun (i : Nat) => (chF n (f + (i : Int) + 1) (m - (i + 1))).map fun l => (f + (i : Int)) :: l
theorem chK_succ (n : Nat) (f : Int) (m i : Nat) : chK n f m (i + 1) = chK n f m i ++ (chF n (f + (i : Int) + 1) (m - (i + 1))).map (fun l => (f + (i : Int)) :: l) := by
  unfold chK
  rw [List.range_succ, List.flatMap_append]
  simp
theorem chF_le : ∀ (n : Nat) (f : Int) (m : Nat), (chF n f m).length ≤ 2 ^ m
  | 0, f, m => by simp [chF]; exact Nat.one_le_two_pow
  | n + 1, f, m => by
    have key : ∀ i, i ≤ m → (chK n f m i).length + 2 ^ (m - i) ≤ 2 ^ m := by
      intro i
      induction i with
      | zero => intro _; simp [chK]
      | succ i ih =>
        intro hi
        have h1 := ih (by omega)
        have h2 := chF_le n (f + (i : Int) + 1) (m - (i + 1))
        have h3 : 2 ^ (m - i) = 2 * 2 ^ (m - (i + 1)) := by rw [show m - i = (m - (i + 1)) + 1 by omega, Nat.pow_succ, Nat.mul_comm]
        rw [chK_succ, List.length_append, List.length_map]
        omega
    have := key m (Nat.le_refl _)
    exact Nat.le_trans (Nat.le_add_right _ _) this
theorem chK_le {n : Nat} {f : Int} {m i : Nat} (hi : i ≤ m) : (chK n f m i).length ≤ 2 ^ m := by
  have h := chF_le (n + 1) f m
  have e : chF (n + 1) f m = chK n f m m := rfl
  have hs : ∀ j, (chK n f m i).length ≤ (chK n f m (i + j)).length := by
    intro j
    induction j with
    | zero => exact Nat.le_refl _
    | succ j ih =>
      rw [← Nat.add_assoc, chK_succ, List.length_append]
      omega
  have := hs (m - i)
  rw [show i + (m - i) = m by omega, ← e] at this
  omega
theorem chF_len : ∀ (n : Nat) (f : Int) (m : Nat), ∀ x ∈ chF n f m, x.length = n
  | 0, f, m => by simp [chF]
  | n + 1, f, m => by
    intro x hx
    simp only [chF, List.mem_flatMap, List.mem_map] at hx
    obtain ⟨i, _, y, hy, rfl⟩ := hx
    simp [chF_len n _ _ y hy]
theorem map_step {rs : List (List Int)} {j : Nat} (x : Int) (h : j < rs.length) : (rs.take (j + 1)).map (fun l => x :: l) = (rs.take j).map (fun l => x :: l) ++ [x :: rs[j]!] := by
  rw [List.take_succ_eq_append_getElem h, List.map_append, getB h]
  rfl
theorem info47 : (Try.prog.info? 28).map (fun i => (i.zero, i.size, i.bytes)) = some (some (.slice none 0 0), 1, 24) := by kernel_rfl
theorem choices_any (n : Nat) : ∀ (f : Int) (m : Nat) (w : World), 0 ≤ f → f + m ≤ 100 → m ≤ 12 → n ≤ 12 →
    Calls Try.prog 67 #[.int .i64 n, .int .i64 f, .int .i64 (f + (m : Int) - 1)] w fun e w' => ∃ v, e = .returned v ∧ OwnL iv 1 2 28 w' w.heap.size v (chF n f m) ∧ Below w.heap.size w w' := by
  induction n with
  | zero =>
    intro f m w h0 h1 hm hn
    go_enter Try.func67, Try.ntmps67
    go_wp2
    go_ret
    have h := OwnL.one (f := iv) (k := 1) (e := 2) (w := w.alloc (.cells #[] 2)) (B := w.heap.size) (E := 28) (by simp) ((OwnS.lit (f := iv) (Nat.le_refl _)).n)
    rw [World.size_alloc] at h
    exact ⟨_, rfl, h, by go_grown⟩
  | succ n IH =>
    intro f m w h0 h1 hm hn
    obtain ⟨N, hN⟩ : ∃ N : Int, N = ((n + 1 : Nat) : Int) := ⟨_, rfl⟩
    rw [← hN]
    have hN1 : 1 ≤ N := by omega
    have hN2 : N ≤ 12 := by omega
    have hz : (N == 0) = false := by rw [beq_eq_false_iff_ne]; omega
    have IH2 := Lib.hid (fun (a b c : Int) (m' : Nat) (W : World) (ha : a = n) (hb : 0 ≤ b) (hbm : b + m' ≤ 100) (hm' : m' ≤ 12) (hc : c = b + m' - 1) => by
      have := IH b m' W hb hbm hm' (by omega)
      rw [← ha, ← hc] at this
      exact this)
    have hNn : N - 1 = n := by omega
    replace hN := Lib.hid hN
    replace hNn := Lib.hid hNn
    have hle := fun i (hi : i ≤ m) => chK_le (n := n) (f := f) (i := i) hi
    have hpow : 2 ^ m ≤ 4096 := Nat.pow_le_pow_right (n := 2) (by decide) hm
    have HLE := Lib.hid (fun i (hi : i ≤ m) => Nat.le_trans (hle i hi) hpow)
    clear hle hpow IH
    obtain ⟨T, hT⟩ : ∃ T : Int, T = f + (m : Int) - 1 := ⟨_, rfl⟩
    rw [← hT]
    have hT1 : T ≤ 100 := by omega
    have hT2 : -1 ≤ T := by omega
    replace hT := Lib.hid hT
    have hwN : IntKind.i64.wrap (N - 1) = N - 1 := by rw [IntKind.wrap_i64]; omega
    go_enter Try.func67, Try.ntmps67
    go_wp2
    go_loopw [7, 8] (fun v x wr => ∃ i : Nat, i ≤ m ∧ x = .int .i64 (f + (i : Int)) ∧ Hid (OwnL iv 1 2 28 wr w.heap.size v (chK n f m i)) ∧ Below w.heap.size w wr) (fun _ x _ => (f + (m : Int) - intOf x).toNat)
    case atStart => exact ⟨0, Nat.zero_le _, by rw [Int.natCast_zero, Int.add_zero], OwnL.lit (Nat.le_refl _), by go_grown⟩
    case round =>
      obtain ⟨i, hi, rfl, HO, hb⟩ := hrel
      obtain ⟨wo, hwo⟩ : ∃ wo, wo = wr := ⟨_, rfl⟩
      subst hwo
      have HLi := HLE.out i hi
      by_cases hlt : i < m
      · have HLs := Lib.hid (HLE.out (i + 1) hlt)
        have HS := Lib.hid (chK_succ n f m i)
        have hi2 : f + (i : Int) ≤ T := by rw [hT.out]; omega
        have HC : Hid (∀ W, Calls Try.prog 67 #[.int .i64 (N - 1), .int .i64 (f + (i : Int) + 1), .int .i64 T] W fun e w' => ∃ v, e = .returned v ∧ OwnL iv 1 2 28 w' W.heap.size v (chF n (f + (i : Int) + 1) (m - (i + 1))) ∧ Below W.heap.size W w') :=
          fun W => IH2.out _ _ _ _ W hNn.out (by omega) (by omega) (by omega) (by rw [hT.out]; omega)
        have HSL := chF_len n (f + (i : Int) + 1) (m - (i + 1))
        have hxe : Hid (f + ((i + 1 : Nat) : Int) = f + (i : Int) + 1) := by show _ = _; omega
        have hx0 : 0 ≤ f + (i : Int) := by omega
        have hms : Hid ((f + (m : Int) - (f + (i : Int) + 1)).toNat < (f + (m : Int) - (f + (i : Int))).toNat) := by show _ < _; omega
        generalize chF n (f + (i : Int) + 1) (m - (i + 1)) = rs at HS HC HSL
        generalize chK n f m i = os at HO HS HLi
        generalize f + (i : Int) = x at *
        have hx1 : x ≤ 100 := by omega
        have hwx : IntKind.i64.wrap (x + 1) = x + 1 := by rw [IntKind.wrap_i64]; omega
        have hrl : rs.length ≤ 4096 := by
          have := HLs.out
          rw [HS.out, List.length_append, List.length_map] at this
          omega
        go_wp2_with (go_at_call 67; with_reducible refine (HC.out _).mono ?_; rintro e wi ⟨v2, rfl, R0, hb2⟩; have HA0 := Lib.hid (R0.away HO.out (Nat.le_refl _)); obtain ⟨g2, p2, hv2, -, -⟩ := R0.lies'; subst hv2)
        have HO0 := Lib.hid (HO.out.kept hb2)
        replace R0 := Lib.hid R0
        have hb3 := bstep hb hb2
        go_loopw [7, 29] (fun v j wr => ∃ k : Nat, k ≤ rs.length ∧ j = .int .i64 k ∧ Hid (OwnL iv 1 2 28 wr w.heap.size v (os ++ (rs.take k).map (fun l => x :: l))) ∧ Hid (OwnL iv 1 2 28 wr wo.heap.size (.slice (some ⟨g2, 0, none⟩) rs.length p2) rs ∧ Apart v (.slice (some ⟨g2, 0, none⟩) rs.length p2)) ∧ Below w.heap.size w wr) (fun _ j _ => rs.length - (intOf j).toNat)
        case atStart => exact ⟨0, Nat.zero_le _, rfl, by rw [List.take_zero, List.map_nil, List.append_nil]; exact HO0.out, ⟨R0.out, HA0.out⟩, hb3⟩
        case round =>
          clear hb3 HO0 R0 HA0
          obtain ⟨k, hk, rfl, HOk, HR, hbk⟩ := hrel
          by_cases hltk : k < rs.length
          · obtain ⟨g3, cap3, hv3, hg3, hB3, HEL⟩ := HR.out.1.lies
            obtain ⟨rfl, rfl⟩ : g2 = g3 ∧ p2 = cap3 := by simpa using hv3
            obtain ⟨u, x0, HU⟩ := HEL k hltk
            have HM := Lib.hid (map_step x hltk)
            have hRl : rs[k]!.length ≤ 12 := by rw [getB hltk, HSL _ (List.getElem_mem hltk)]; omega
            have hkl : (os ++ (rs.take k).map (fun l => x :: l)).length ≤ 100000 := by simp; omega
            have hk2 : (k : Int) < (rs.length : Int) := by omega
            have HMA : Hid (os ++ (rs.take (k + 1)).map (fun l => x :: l) = (os ++ (rs.take k).map (fun l => x :: l)) ++ [x :: rs[k]!]) := by rw [Hid, HM.out, List.append_assoc]
            clear hv3 HEL HM hg3 hB3
            generalize os ++ (rs.take k).map (fun l => x :: l) = oo at HOk HMA hkl
            generalize rs[k]! = ys at HU HMA hRl
            replace HU := Lib.hid HU
            go_wp2_with (first | (at_builtin; refine wp_app_any (f := iv) wr.heap.size rfl _ _ 28 2 rfl (.int .i64 0) 1 8 Try.underlying28 info64 rfl (by decide) iv_length iv_one _ [x] rfl _ wo.heap.size ys rfl ?hO ?hY ?hB ?hn (by decide) ?_; (case hn => show 1 + ys.length ≤ 100000000; omega); (case hO => exact ⟨World.ownsRow_lit (base := wr.heap.size) (e := 2) (size := 1) wr #[.int .i64 x] 1 (Nat.le_refl _) (by simp [maxLen]) (by simp), _, _, rfl⟩); (case hY => exact HU.out.below ((Below.refl _ wr).alloc (Nat.le_refl _) _)); (case hB => simp); intro v5 w5 H5 hb5; obtain ⟨g5, p5, hv5, -⟩ := H5.lies; subst hv5; have hA5 := ((Below.refl wr.heap.size wr).alloc (Nat.le_refl _) _).trans hb5.1; have HO5 := Lib.hid (HOk.out.kept hA5); have HR5 := Lib.hid (HR.out.1.kept hA5); have HU5 := Lib.hid (H5.n.down hbk.size); have hb5' := Lib.hid (bstep hbk hA5); clear hb5 hA5 H5) | (at_builtin; refine wp_app_in (f := iv) w.heap.size rfl _ _ 98 28 rfl (.slice none 0 0) Try.underlying98 info47 rfl 1 2 (by decide) _ oo (x :: ys) _ rfl _ rfl ?hg ?hO ?hU ?hB ?hn ?_; (case hg => simp); (case hO => exact HO5.out); (case hU => exact HU5.out); (case hB => exact hb5'.out.size); (case hn => omega); intro v6 w6 H6 hb6))
            have HR6 := HR5.out.but HO5.out hb6.2.1 HR.out.2 (by decide)
            have HA6 := HR5.out.apart_away HR.out.2 hb6.2.2
            go_roundw
            case rel => exact ⟨k + 1, by omega, by go_num, by rw [HMA.out]; exact H6, ⟨HR6, HA6⟩, hb5'.out.trans hb6.1⟩
            case measure => simp [intOf]; omega
          · obtain rfl : k = rs.length := by omega
            rw [List.take_length] at HOk
            go_wp2
            go_roundw
            case rel => exact ⟨i + 1, by omega, by rw [hxe.out], by rw [HS.out]; exact HOk.out, hbk⟩
            case measure => exact hms.out
      · obtain rfl : i = m := by omega
        have hi2 : ¬ f + (i : Int) ≤ T := by rw [hT.out]; omega
        go_wp2
        go_ret
        exact ⟨_, rfl, HO.out, hb⟩
end Go.Proofs.Ytbngpcghognojaa
namespace Go.Proofs.Ytbngpcghognojaa
open Go.RowKit
set_option linter.unusedVariables false
set_option linter.unusedSimpArgs false
set_option maxRecDepth 100000
set_option maxHeartbeats 1000000
attribute [local go_sem] Oper.qB
def inR (lo hi x : Int) : Bool := decide (lo ≤ x) && decide (x ≤ hi)
/-- All numbers are numbers of crates. -/
def kin (n : Nat) (ks : List Int) : Bool := ks.all (inR 0 ((n : Int) - 1))
def openI (lc : List Cr) (l : List Wt) (ks : List Int) : Int := if askOk lc l = true then (if kin lc.length ks = true then 0 else 2) else 1
def lackR (lc : List Cr) (l : List Wt) (ks : List Int) : List Wt × Int := if openI lc l ks = 0 then (lackL (cntL (opL lc ks)) l, 0) else ([], openI lc l ks)
def checkR (lc : List Cr) (l : List Wt) (ks : List Int) : Bool × Int := if openI lc l ks = 0 then ((lackL (cntL (opL lc ks)) l).isEmpty, 0) else (false, openI lc l ks)
theorem kin_all {n : Nat} {ks : List Int} (h : kin n ks = true) : ∀ x ∈ ks, 0 ≤ x ∧ x < n := fun x hx => by
  have := (List.all_eq_true.1 h) x hx
  simp [inR] at this
  omega
theorem openI_zero {lc : List Cr} {l : List Wt} {ks : List Int} (h : openI lc l ks = 0) : askOk lc l = true ∧ kin lc.length ks = true := by
  unfold openI at h
  split at h
  · split at h
    · exact ⟨‹_›, ‹_›⟩
    · cases h
  · cases h
theorem openI_cases (lc : List Cr) (l : List Wt) (ks : List Int) : openI lc l ks = 0 ∨ openI lc l ks = 1 ∨ openI lc l ks = 2 := by
  unfold openI
  split
  · split
    · exact .inl rfl
    · exact .inr (.inr rfl)
  · exact .inr (.inl rfl)
theorem lackR_le (lc : List Cr) (l : List Wt) (ks : List Int) : (lackR lc l ks).1.length ≤ 8 := by
  unfold lackR
  split
  · rename_i h
    have := lackL_le (cntL (opL lc ks)) l
    have := ask_le (openI_zero h).1
    show (lackL (cntL (opL lc ks)) l).length ≤ 8
    omega
  · simp
theorem allWithin1_any (x lo hi : Int) (b1 b2 : Nat) (w : World) (h1 : w.cell? ⟨b1, 0, none⟩ = some (.int .i64 lo)) (h2 : w.cell? ⟨b2, 0, none⟩ = some (.int .i64 hi)) :
    Calls Try.prog 90 #[.int .i64 x, .pointer (some ⟨b1, 0, none⟩), .pointer (some ⟨b2, 0, none⟩)] w fun e w' => e = .returned (.bool (!inR lo hi x)) ∧ w = w' := by
  have HB : Hid ((!inR lo hi x) = !(decide (lo ≤ x) && decide (x ≤ hi))) := rfl
  go_enter Try.func90, Try.ntmps90
  go_wp2_with (go_at_call 75; with_reducible refine (within_any x lo hi _).mono ?_; rintro e w' ⟨rfl, rfl⟩)
  rw [HB.out]
  go_ret
  exact ⟨ret_bool (Bool.not_and _ _).symm, rfl⟩
theorem ContainsFunc_int (lo hi : Int) (b1 b2 : Nat) (A : Option Addr) (c : Nat) (l : List Int) (w : World) (h1 : w.cell? ⟨b1, 0, none⟩ = some (.int .i64 lo)) (h2 : w.cell? ⟨b2, 0, none⟩ = some (.int .i64 hi)) (l1 : b1 < w.heap.size) (l2 : b2 < w.heap.size) (hR : RdA w A (vi l)) (hm : l.length ≤ 1000000000) :
    Calls Try.prog 89 #[.slice A l.length c, .func (.func 90) #[] #[.pointer (some ⟨b1, 0, none⟩), .pointer (some ⟨b2, 0, none⟩)]] w fun e w' => e = .returned (.bool (l.any fun x => !inR lo hi x)) ∧ Below w.heap.size w w' := by
  rcases hR with h | ⟨g, off, rfl, hg, hC⟩
  · have h0 : l = [] := by cases l <;> simp [vi] at h ⊢
    subst h0
    exact below_of_same ((AnyE.slices_ContainsFunc_empty Try.lx89 A c _ w).mono fun _ _ ⟨he, hw⟩ => ⟨he, hw.symm⟩)
  · have := AnyE.slices_ContainsFunc Try.lx89 (Value.int .i64) (fun x => !inR lo hi x) 90 #[.pointer (some ⟨b1, 0, none⟩), .pointer (some ⟨b2, 0, none⟩)] (enters_of Try.func90 (by kernel_rfl) rfl) g off l.length c l w
      (fun W x hb => (allWithin1_any x lo hi b1 b2 W ((hb.cell l1).trans h1) ((hb.cell l2).trans h2)).mono fun _ _ ⟨he, hw⟩ => ⟨he, 0, hw.symm⟩) (Nat.le_refl _) (by omega)
      (fun j hj => by rw [hC j _ (vi_at l j hj)]; simp [List.getD_eq_getElem?_getD, hj])
    rw [List.take_length] at this
    exact this.mono fun _ _ ⟨he, q, hq⟩ => ⟨he, by rw [hq]; exact bdrewN (Below.refl _ _) q⟩
theorem allWithin_any (A : Option Addr) (c : Nat) (l : List Int) (lo hi : Int) (w : World) (h : RdA w A (vi l)) (hm : l.length ≤ 1000000000) :
    Calls Try.prog 73 #[.slice A l.length c, .int .i64 lo, .int .i64 hi] w fun e w' => e = .returned (.bool (l.all (inR lo hi))) ∧ Below w.heap.size w w' := by
  have HA : (!(l.any fun x => !inR lo hi x)) = l.all (inR lo hi) := by rw [← List.not_all_eq_any_not, Bool.not_not]
  have HC := fun w b1 b2 h1 h2 l1 l2 hr => ContainsFunc_int lo hi b1 b2 A c l w h1 h2 l1 l2 hr hm
  generalize l.any (fun x => !inR lo hi x) = r at HA HC
  rw [← HA]
  clear HA
  have HR := Lib.hid h
  clear h
  go_enter Try.func73, Try.ntmps73
  go_wp2_with fail
  have hb0 : Below w.heap.size w ((w.alloc (.cells #[.int .i64 lo] 2)).alloc (.cells #[.int .i64 hi] 2)) := by go_grown
  refine (HC _ w.heap.size (w.heap.size + 1) (rowOf_cell (cs := #[.int .i64 lo]) ?_ 0) (rowOf_cell (cs := #[.int .i64 hi]) ?_ 0) (by simp; omega) (by simp) (HR.out.below hb0)).mono ?_
  · rw [rowOf_alloc, if_neg (by simp), rowOf_alloc, if_pos rfl]
  · rw [rowOf_alloc, if_pos (by simp)]
  rintro e w' ⟨rfl, hb⟩
  replace hb := bstepB hb0 hb0.size hb
  go_wp2
  go_ret
  exact ⟨rfl, hb⟩
theorem openCode_any (g0 c0 : Nat) (lc : List Cr) (g1 c1 : Nat) (l : List Wt) (A2 : Option Addr) (c2 : Nat) (ks : List Int) (w : World) (K0 : Lies cc w g0 lc) (K1 : Lies wc w g1 l) (K2 : RdA w A2 (vi ks)) (hn : lc.length ≤ 1048576) (hl : l.length ≤ 1048576) (hk : ks.length ≤ 1048576) :
    Calls Try.prog 47 #[.slice (some ⟨g0, 0, none⟩) lc.length c0, .slice (some ⟨g1, 0, none⟩) l.length c1, .slice A2 ks.length c2] w fun e w' => e = .returned (.int .i64 (openI lc l ks)) ∧ Below w.heap.size w w' := by
  have H := Below.refl w.heap.size w
  replace K0 := Lib.hid K0
  replace K1 := Lib.hid K1
  replace K2 := Lib.hid K2
  have hk9 : ks.length ≤ 1000000000 := by omega
  have HI : Hid (openI lc l ks = if askOk lc l = true then (if kin lc.length ks = true then 0 else 2) else 1) := rfl
  have HW := fun W h => allWithin_any A2 c2 ks 0 ((lc.length : Int) - 1) W h hk9
  have HQ : Hid (kin lc.length ks = ks.all (inR 0 ((lc.length : Int) - 1))) := rfl
  generalize ks.all (inR 0 ((lc.length : Int) - 1)) = r at HW HQ
  cases e1 : stackOk lc with
  | false =>
    have HA := Lib.hid (show askOk lc l = false by simp [askOk, e1])
    go_enter Try.func47, Try.ntmps47
    go_wp2_with (first | (go_at_call 58; with_reducible refine (ValidStack_any g0 0 c0 lc _ (K0.out.below H).c (K0.out.below H).lt (by omega)).mono ?_; rintro e w' ⟨rfl, hb⟩; replace H := bstep H hb; clear hb; have hc := bcell H) | (go_at_call 73; with_reducible refine (HW _ (K2.out.below H)).mono ?_; rintro e w' ⟨rfl, hb⟩; replace H := bstep H hb; clear hb; have hc := bcell H) | (go_at_call 72; with_reducible refine (codeOf_any _ _ _).mono ?_; rintro e w' ⟨rfl, rfl⟩))
    go_ret
    exact ⟨ret_int (by rw [HI.out, HA.out]; rfl), H⟩
  | true =>
    cases e2 : ordOk l with
    | false =>
      have HA := Lib.hid (show askOk lc l = false by simp [askOk, e1, e2])
      go_enter Try.func47, Try.ntmps47
      go_wp2_with (first | (go_at_call 58; with_reducible refine (ValidStack_any g0 0 c0 lc _ (K0.out.below H).c (K0.out.below H).lt (by omega)).mono ?_; rintro e w' ⟨rfl, hb⟩; replace H := bstep H hb; clear hb; have hc := bcell H) | (go_at_call 48; with_reducible refine (ValidOrder_any g1 0 c1 l _ (K1.out.below H).c (K1.out.below H).lt (by omega)).mono ?_; rintro e w' ⟨rfl, hb⟩; replace H := bstep H hb; clear hb; have hc := bcell H) | (go_at_call 73; with_reducible refine (HW _ (K2.out.below H)).mono ?_; rintro e w' ⟨rfl, hb⟩; replace H := bstep H hb; clear hb; have hc := bcell H) | (go_at_call 72; with_reducible refine (codeOf_any _ _ _).mono ?_; rintro e w' ⟨rfl, rfl⟩))
      go_ret
      exact ⟨ret_int (by rw [HI.out, HA.out]; rfl), H⟩
    | true =>
      have HA := Lib.hid (show askOk lc l = true by simp [askOk, e1, e2])
      go_enter Try.func47, Try.ntmps47
      go_wp2_with (first | (go_at_call 58; with_reducible refine (ValidStack_any g0 0 c0 lc _ (K0.out.below H).c (K0.out.below H).lt (by omega)).mono ?_; rintro e w' ⟨rfl, hb⟩; replace H := bstep H hb; clear hb; have hc := bcell H) | (go_at_call 48; with_reducible refine (ValidOrder_any g1 0 c1 l _ (K1.out.below H).c (K1.out.below H).lt (by omega)).mono ?_; rintro e w' ⟨rfl, hb⟩; replace H := bstep H hb; clear hb; have hc := bcell H) | (go_at_call 73; with_reducible refine (HW _ (K2.out.below H)).mono ?_; rintro e w' ⟨rfl, hb⟩; replace H := bstep H hb; clear hb; have hc := bcell H) | (go_at_call 72; with_reducible refine (codeOf_any _ _ _).mono ?_; rintro e w' ⟨rfl, rfl⟩))
      all_goals
        go_ret
        exact ⟨ret_int (by rw [HI.out, HA.out, HQ.out, if_pos rfl]; first | exact (if_pos ‹_›).symm | exact (if_neg ‹_›).symm), H⟩
theorem Contains_int (g off n c : Nat) (l : List Int) (x : Int) (w : World) (hC : CAt w g off (vi l)) (hn : n ≤ l.length) (hm : n ≤ 1000000000) :
    Calls Try.prog 43 #[.slice (some ⟨g, off, none⟩) n c, .int .i64 x] w fun e w' => e = .returned (.bool ((l.take n).contains x)) ∧ w = w' := by
  have := AnyE.slices_Contains Try.lx43 (Value.int .i64) _ (EqlAt.int _ _ .i64) g off n c l x w hn (by omega)
      (fun j hj => by rw [hC j _ (vi_at l j hj)]; simp [List.getD_eq_getElem?_getD, hj])
  rw [List.any_beq] at this
  exact this.mono fun _ _ ⟨he, hw⟩ => ⟨he, hw.symm⟩
attribute [local go_sem] fold_cc cc_len
theorem opened_any (A0 : Option Addr) (c0 : Nat) (lc : List Cr) (A2 : Option Addr) (c2 : Nat) (ks : List Int) (w : World) (hr : RdA w A0 (fl cc lc)) (h2 : RdA w A2 (vi ks))
    (hk : ∀ x ∈ ks, 0 ≤ x ∧ x < lc.length) (hc2 : ks.length ≤ c2) (hn : lc.length ≤ 1048576) (hkn : ks.length ≤ 1048576) :
    Calls Try.prog 41 #[.slice A0 lc.length c0, .slice A2 ks.length c2] w fun e w' => ∃ v, e = .returned v ∧ OwnS cc w' w.heap.size 44 24 v (opL lc ks) ∧ Below w.heap.size w w' := by
  have HR := Lib.hid hr
  have H2 := Lib.hid h2
  have HK := Lib.hid hk
  clear hr h2 hk
  go_enter Try.func41, Try.ntmps41
  go_wp2
  go_loopw [5, 11] (fun v i wr => ∃ j : Nat, j ≤ ks.length ∧ i = .int .i64 j ∧ Hid (OwnS cc wr w.heap.size 44 24 v (opK lc ks j)) ∧ Below w.heap.size w wr) (fun _ i _ => ks.length - (intOf i).toNat)
  case atStart => exact ⟨0, Nat.zero_le _, rfl, OwnS.lit (Nat.le_refl _), by go_grown⟩
  case round =>
    obtain ⟨j, hj, rfl, HO, hb⟩ := hrel
    by_cases hltj : j < ks.length
    · obtain ⟨g2, off2, rfl, hg2, hC2⟩ := (H2.out.below hb).some (by rw [vi_length]; omega)
      obtain ⟨hy1, hy2⟩ := HK.out (ks.getD j 0) (by rw [List.getD_eq_getElem?_getD, List.getElem?_eq_getElem hltj]; exact List.getElem_mem hltj)
      obtain ⟨g0, off0, rfl, hg0, hC0⟩ := (HR.out.below hb).some (by rw [fl_length cc_length]; omega)
      have HY := Lib.hid (@opK_yes lc ks j)
      have HN := Lib.hid (@opK_no lc ks j)
      have HF : Hid (fresh ks j = !(ks.take j).contains (ks.getD j 0)) := rfl
      have HLE := Lib.hid (opK_le lc ks j)
      have y0 := hC2 j _ (vi_at ks j hltj)
      have HCX := Lib.hid (hC0.el cc_length (i := (ks.getD j 0).toNat) (by omega))
      have hHas := Contains_int g2 off2 j c2 ks (ks.getD j 0) wr hC2 hj (by omega)
      clear hC2 hC0 hg2 hg0
      generalize ks.getD j 0 = y at y0 HF HY HN HCX hy1 hy2 hHas
      obtain ⟨i, rfl⟩ : ∃ i : Nat, y = (i : Int) := ⟨y.toNat, by omega⟩
      rw [Int.toNat_natCast] at HY HCX
      have hi2 : i < lc.length := by omega
      generalize lc[i]! = c at HY HCX
      have hj2 : (j : Int) < (ks.length : Int) := by omega
      have hjc : j ≤ c2 := by omega
      have hjc2 : (j : Int) ≤ (c2 : Int) := by omega
      generalize (ks.take j).contains (i : Int) = r at hHas HF
      cases r with
      | true =>
        have HE := Lib.hid (HN.out HF.out)
        go_wp2_with (go_at_call 43; with_reducible refine hHas.mono ?_; rintro e w' ⟨rfl, rfl⟩)
        go_roundw
        case rel => exact ⟨j + 1, by omega, by go_num, by rw [HE.out]; exact HO.out, hb⟩
        case measure => simp [intOf]; omega
      | false =>
        have HE := Lib.hid (HY.out HF.out)
        go_wp2_with (first | (go_at_call 43; with_reducible refine hHas.mono ?_; rintro e w' ⟨rfl, rfl⟩) | (with_reducible refine wp_load_CAt rfl _ _ rfl _ _ rfl (cc c) HCX.out _ Try.underlying44 rfl (infoCl c) ?_) | (at_builtin; refine wp_app_crate w.heap.size rfl _ _ rfl _ (opK lc ks j) c rfl _ rfl ?hg ?HO ?hB ?hn ?_; (case hg => simp); (case HO => exact HO.out); (case hB => exact hb.size); (case hn => have := HLE.out; omega); intro v1 w1 hown hb2))
        go_roundw
        case rel => exact ⟨j + 1, by omega, by go_num, by rw [HE.out]; exact hown, hb.trans hb2⟩
        case measure => simp [intOf]; omega
    · obtain rfl : j = ks.length := by omega
      go_wp2
      go_ret
      exact ⟨_, rfl, HO.out, hb⟩
theorem l02Opened_any (g0 c0 : Nat) (lc : List Cr) (g1 c1 : Nat) (l : List Wt) (A2 : Option Addr) (c2 : Nat) (ks : List Int) (w : World) (K0 : Lies cc w g0 lc) (K1 : Lies wc w g1 l) (K2 : RdA w A2 (vi ks)) (hn : lc.length ≤ 1048576) (hl : l.length ≤ 1048576) (hk : ks.length ≤ 1048576) :
    Calls Try.prog 50 #[.slice (some ⟨g0, 0, none⟩) lc.length c0, .slice (some ⟨g1, 0, none⟩) l.length c1, .slice A2 ks.length c2] w fun e w' => e = .returned (.int .i64 (openI lc l ks)) ∧ Below w.heap.size w w' := by
  have H := Below.refl w.heap.size w
  replace K0 := Lib.hid K0
  replace K1 := Lib.hid K1
  replace K2 := Lib.hid K2
  cases e1 : askOk lc l with
  | false =>
    have HA := Lib.hid (show askI lc l = 1 by simp [askI, e1])
    have HF := Lib.hid (show openI lc l ks = 1 by simp [openI, e1])
    go_enter Try.func50, Try.ntmps50
    go_wp2_with (go_at_call 62; with_reducible refine (l02Asked_any g0 c0 lc g1 0 c1 l _ (K0.out.below H) (K1.out.below H).c (K1.out.below H).lt hn hl).mono ?_; rintro e w' ⟨rfl, hb⟩; rw [HA.out]; replace H := bstep H hb; clear hb)
    clear HA
    go_loopw [7, 8] (fun cd i wr => i = .int .i64 0 ∧ cd = .int .i64 1 ∧ Below w.heap.size w wr) (fun _ i _ => 0)
    case atStart => exact ⟨rfl, rfl, H⟩
    case round =>
      obtain ⟨rfl, rfl, hb⟩ := hrel
      by_cases h0 : 0 < ks.length
      · have h00 : (0 : Int) < (ks.length : Int) := by omega
        go_wp2
        go_ret
        exact ⟨ret_int HF.out.symm, hb⟩
      · have h00 : ¬ (0 : Int) < (ks.length : Int) := by omega
        go_wp2
        go_ret
        exact ⟨ret_int HF.out.symm, hb⟩
  | true =>
    have HA := Lib.hid (show askI lc l = 0 by simp [askI, e1])
    have HF : Hid (openI lc l ks = if kin lc.length ks = true then 0 else 2) := by rw [Hid, openI, e1, if_pos rfl]
    go_enter Try.func50, Try.ntmps50
    go_wp2_with (go_at_call 62; with_reducible refine (l02Asked_any g0 c0 lc g1 0 c1 l _ (K0.out.below H) (K1.out.below H).c (K1.out.below H).lt hn hl).mono ?_; rintro e w' ⟨rfl, hb⟩; rw [HA.out]; replace H := bstep H hb; clear hb)
    clear HA
    go_loopw [7, 8] (fun cd i wr => ∃ k : Nat, k ≤ ks.length ∧ i = .int .i64 k ∧ ((cd = .int .i64 0 ∧ Hid (kin lc.length (ks.take k) = true)) ∨ (cd = .int .i64 2 ∧ Hid (kin lc.length ks = false))) ∧ Below w.heap.size w wr) (fun _ i _ => ks.length - (intOf i).toNat)
    case atStart => exact ⟨0, Nat.zero_le _, rfl, .inl ⟨rfl, rfl⟩, H⟩
    case round =>
      obtain ⟨k, hk, rfl, hcd, hb⟩ := hrel
      rcases hcd with ⟨rfl, HK⟩ | ⟨rfl, HK⟩
      · by_cases hlt : k < ks.length
        · obtain ⟨g2, off2, rfl, hg2, hC2⟩ := (K2.out.below hb).some (by rw [vi_length]; omega)
          have y0 := hC2 k _ (vi_at ks k hlt)
          have HS : Hid (kin lc.length (ks.take (k + 1)) = inR 0 ((lc.length : Int) - 1) (ks.getD k 0)) := by
            have e : ks[k] = ks.getD k 0 := by simp [List.getD_eq_getElem?_getD, hlt]
            have hk' : kin lc.length (ks.take k) = true := HK.out
            rw [Hid, kin, List.take_succ_eq_append_getElem hlt, List.all_append, ← kin, hk', e]
            simp
          have HT : Hid (inR 0 ((lc.length : Int) - 1) (ks.getD k 0) = false → kin lc.length ks = false) := fun h => by
            have e : ks[k] = ks.getD k 0 := by simp [List.getD_eq_getElem?_getD, hlt]
            rw [kin, List.all_eq_false]
            exact ⟨_, List.getElem_mem hlt, by rw [e, h]; simp⟩
          clear hC2 hg2
          generalize ks.getD k 0 = y at y0 HS HT
          have hlt2 : (k : Int) < (ks.length : Int) := by omega
          have hIn := fun W => l00In_any y 0 ((lc.length : Int) - 1) W
          have HI : Hid (inR 0 ((lc.length : Int) - 1) y = (decide (0 ≤ y) && decide (y ≤ (lc.length : Int) - 1))) := rfl
          generalize (decide (0 ≤ y) && decide (y ≤ (lc.length : Int) - 1)) = r at hIn HI
          cases r with
          | true =>
            have HS2 := Lib.hid (HS.out.trans HI.out)
            go_wp2_with (go_at_call 77; with_reducible refine (hIn _).mono ?_; rintro e w' ⟨rfl, rfl⟩)
            go_roundw
            case rel => exact ⟨k + 1, by omega, by go_num, .inl ⟨rfl, HS2.out⟩, hb⟩
            case measure => simp [intOf]; omega
          | false =>
            have HS2 := Lib.hid (HT.out HI.out)
            go_wp2_with (go_at_call 77; with_reducible refine (hIn _).mono ?_; rintro e w' ⟨rfl, rfl⟩)
            go_roundw
            case rel => exact ⟨k + 1, by omega, by go_num, .inr ⟨rfl, HS2.out⟩, hb⟩
            case measure => simp [intOf]; omega
        · obtain rfl : k = ks.length := by omega
          have HF2 : Hid (openI lc l ks = 0) := by
            have := HK.out
            rw [List.take_length] at this
            rw [Hid, HF.out, this, if_pos rfl]
          go_wp2
          go_ret
          exact ⟨ret_int HF2.out.symm, hb⟩
      · have HF2 : Hid (openI lc l ks = 2) := by
          rw [Hid, HF.out, HK.out, if_neg (by simp)]
        by_cases hlt : k < ks.length
        · have hlt2 : (k : Int) < (ks.length : Int) := by omega
          go_wp2
          go_ret
          exact ⟨ret_int HF2.out.symm, hb⟩
        · have hlt2 : ¬ (k : Int) < (ks.length : Int) := by omega
          go_wp2
          go_ret
          exact ⟨ret_int HF2.out.symm, hb⟩
theorem sLackBehind_any (g0 c0 : Nat) (lc : List Cr) (g1 c1 : Nat) (l : List Wt) (g2 c2 : Nat) (ks : List Int) (w : World) (K0 : Lies cc w g0 lc) (K1 : Lies wc w g1 l) (K2 : Lies iv w g2 ks) (hc : ks.length ≤ c2) (hn : lc.length ≤ 1048576) (hl : l.length ≤ 1048576) (hk : ks.length ≤ 1048576) :
    Calls Try.prog 17 #[.slice (some ⟨g0, 0, none⟩) lc.length c0, .slice (some ⟨g1, 0, none⟩) l.length c1, .slice (some ⟨g2, 0, none⟩) ks.length c2] w fun e w' => ∃ v, e = .returned (.tuple #[v, .int .i64 (lackR lc l ks).2]) ∧ OwnN wc w' w.heap.size 54 3 v (lackR lc l ks).1 ∧ Below w.heap.size w w' := by
  have H := Below.refl w.heap.size w
  replace K0 := Lib.hid K0
  replace K1 := Lib.hid K1
  replace K2 := Lib.hid K2
  by_cases e1 : openI lc l ks = 0
  · have h8 := ask_le (openI_zero e1).1
    have HK := Lib.hid (kin_all (openI_zero e1).2)
    have HF := Lib.hid (show lackR lc l ks = (lackL (cntL (opL lc ks)) l, 0) by rw [lackR, if_pos e1])
    have HI := Lib.hid e1
    have HL := Lib.hid (len_none _ (lackL (cntL (opL lc ks)) l) rfl)
    have HLE := lackL_le (cntL (opL lc ks)) l
    have HOL : (opL lc ks).length ≤ 1048576 := Nat.le_trans (opK_le lc ks ks.length) hk
    clear e1
    go_enter Try.func17, Try.ntmps17
    go_wp2_with (first | (go_at_call 50; with_reducible refine (l02Opened_any g0 c0 lc g1 c1 l (some ⟨g2, 0, none⟩) c2 ks _ (K0.out.below H) (K1.out.below H) (by rw [← fl_iv]; exact (K2.out.below H).rd) hn hl hk).mono ?_; rintro e w' ⟨rfl, hb⟩; rw [HI.out]; replace H := bstep H hb; clear hb) | (go_at_call 34; with_reducible refine (l02Lack_any (some ⟨g0, 0, none⟩) c0 lc g1 0 c1 l (some ⟨g2, 0, none⟩) c2 ks _ (K0.out.below H).rd (K1.out.below H).c (K1.out.below H).lt (by rw [← fl_iv]; exact (K2.out.below H).rd) HK.out hc hn (by omega) hk).mono ?_; rintro e w3 ⟨v3, rfl, O3, hb⟩; replace O3 := O3.down H.size; replace H := bstep H hb; clear hb))
    rw [HF.out]
    exact bodyPost_ret (results_tt rfl) rfl ⟨_, rfl, O3.n, H⟩
  · have HF := Lib.hid (show lackR lc l ks = ([], openI lc l ks) by rw [lackR, if_neg e1])
    rcases openI_cases lc l ks with e | e | e
    · exact absurd e e1
    all_goals
      have HI := Lib.hid e
      clear e e1
      rw [HI.out] at HF
      go_enter Try.func17, Try.ntmps17
      go_wp2_with (go_at_call 50; with_reducible refine (l02Opened_any g0 c0 lc g1 c1 l (some ⟨g2, 0, none⟩) c2 ks _ (K0.out.below H) (K1.out.below H) (by rw [← fl_iv]; exact (K2.out.below H).rd) hn hl hk).mono ?_; rintro e w' ⟨rfl, hb⟩; rw [HI.out]; replace H := bstep H hb; clear hb)
      rw [HF.out]
      exact bodyPost_ret (results_tt rfl) rfl ⟨_, rfl, (OwnS.lit (f := wc) H.size).n, H.alloc H.size _⟩
theorem LackBehind_any (g0 c0 : Nat) (lc : List Cr) (g1 c1 : Nat) (l : List Wt) (g2 c2 : Nat) (ks : List Int) (w : World) (K0 : Lies cc w g0 lc) (K1 : Lies wc w g1 l) (K2 : Lies iv w g2 ks) (hc : ks.length ≤ c2) (hn : lc.length ≤ 1048576) (hl : l.length ≤ 1048576) (hk : ks.length ≤ 1048576) :
    Calls Try.prog 16 #[.slice (some ⟨g0, 0, none⟩) lc.length c0, .slice (some ⟨g1, 0, none⟩) l.length c1, .slice (some ⟨g2, 0, none⟩) ks.length c2] w fun e w' => ∃ v, e = .returned (.tuple #[v, .int .i64 (lackR lc l ks).2]) ∧ OwnN wc w' w.heap.size 54 3 v (lackR lc l ks).1 ∧ Below w.heap.size w w' := by
  have H := Below.refl w.heap.size w
  replace K0 := Lib.hid K0
  replace K1 := Lib.hid K1
  replace K2 := Lib.hid K2
  by_cases e1 : openI lc l ks = 0
  · have h8 := ask_le (openI_zero e1).1
    have HK := Lib.hid (kin_all (openI_zero e1).2)
    have HF := Lib.hid (show lackR lc l ks = (lackL (cntL (opL lc ks)) l, 0) by rw [lackR, if_pos e1])
    have HI := Lib.hid e1
    have HL := Lib.hid (len_none _ (lackL (cntL (opL lc ks)) l) rfl)
    have HLE := lackL_le (cntL (opL lc ks)) l
    have HOL : (opL lc ks).length ≤ 1048576 := Nat.le_trans (opK_le lc ks ks.length) hk
    clear e1
    go_enter Try.func16, Try.ntmps16
    go_wp2_with (first | (go_at_call 47; with_reducible refine (openCode_any g0 c0 lc g1 c1 l (some ⟨g2, 0, none⟩) c2 ks _ (K0.out.below H) (K1.out.below H) (by rw [← fl_iv]; exact (K2.out.below H).rd) hn hl hk).mono ?_; rintro e w' ⟨rfl, hb⟩; rw [HI.out]; replace H := bstep H hb; clear hb) | (go_at_call 41; with_reducible refine (opened_any (some ⟨g0, 0, none⟩) c0 lc (some ⟨g2, 0, none⟩) c2 ks _ (K0.out.below H).rd (by rw [← fl_iv]; exact (K2.out.below H).rd) HK.out hc hn hk).mono ?_; rintro e w2 ⟨v2, rfl, O2, hb⟩; obtain ⟨g3, p3, rfl, KO, -⟩ := O2.lies; replace KO := Lib.hid KO; replace H := bstep H hb; clear hb O2) | (go_at_call 40; with_reducible refine (lack_any _ p3 (opL lc ks) g1 0 c1 l _ KO.out.rd (K1.out.below H).c (K1.out.below H).lt HOL (by omega)).mono ?_; rintro e w3 ⟨v3, rfl, O3, hb⟩; replace O3 := O3.down H.size; replace H := bstep H hb; clear hb))
    rw [HF.out]
    exact bodyPost_ret (results_tt rfl) rfl ⟨_, rfl, O3.n, H⟩
  · have HF := Lib.hid (show lackR lc l ks = ([], openI lc l ks) by rw [lackR, if_neg e1])
    rcases openI_cases lc l ks with e | e | e
    · exact absurd e e1
    all_goals
      have HI := Lib.hid e
      clear e e1
      rw [HI.out] at HF
      go_enter Try.func16, Try.ntmps16
      go_wp2_with (go_at_call 47; with_reducible refine (openCode_any g0 c0 lc g1 c1 l (some ⟨g2, 0, none⟩) c2 ks _ (K0.out.below H) (K1.out.below H) (by rw [← fl_iv]; exact (K2.out.below H).rd) hn hl hk).mono ?_; rintro e w' ⟨rfl, hb⟩; rw [HI.out]; replace H := bstep H hb; clear hb)
      rw [HF.out]
      exact bodyPost_ret (results_tt rfl) rfl ⟨_, rfl, OwnN.nil, H⟩
theorem CheckOpen_any (g0 c0 : Nat) (lc : List Cr) (g1 c1 : Nat) (l : List Wt) (g2 c2 : Nat) (ks : List Int) (w : World) (K0 : Lies cc w g0 lc) (K1 : Lies wc w g1 l) (K2 : Lies iv w g2 ks) (hc : ks.length ≤ c2) (hn : lc.length ≤ 1048576) (hl : l.length ≤ 1048576) (hk : ks.length ≤ 1048576) :
    Calls Try.prog 13 #[.slice (some ⟨g0, 0, none⟩) lc.length c0, .slice (some ⟨g1, 0, none⟩) l.length c1, .slice (some ⟨g2, 0, none⟩) ks.length c2] w fun e w' => e = .returned (.tuple #[.bool (checkR lc l ks).1, .int .i64 (checkR lc l ks).2]) ∧ Below w.heap.size w w' := by
  have H := Below.refl w.heap.size w
  replace K0 := Lib.hid K0
  replace K1 := Lib.hid K1
  replace K2 := Lib.hid K2
  by_cases e1 : openI lc l ks = 0
  · have h8 := ask_le (openI_zero e1).1
    have HK := Lib.hid (kin_all (openI_zero e1).2)
    have HF := Lib.hid (show checkR lc l ks = ((lackL (cntL (opL lc ks)) l).isEmpty, 0) by rw [checkR, if_pos e1])
    have HI := Lib.hid e1
    have HL := Lib.hid (len_none _ (lackL (cntL (opL lc ks)) l) rfl)
    have HLE := lackL_le (cntL (opL lc ks)) l
    have HOL : (opL lc ks).length ≤ 1048576 := Nat.le_trans (opK_le lc ks ks.length) hk
    clear e1
    go_enter Try.func13, Try.ntmps13
    go_wp2_with (first | (go_at_call 47; with_reducible refine (openCode_any g0 c0 lc g1 c1 l (some ⟨g2, 0, none⟩) c2 ks _ (K0.out.below H) (K1.out.below H) (by rw [← fl_iv]; exact (K2.out.below H).rd) hn hl hk).mono ?_; rintro e w' ⟨rfl, hb⟩; rw [HI.out]; replace H := bstep H hb; clear hb) | (go_at_call 41; with_reducible refine (opened_any (some ⟨g0, 0, none⟩) c0 lc (some ⟨g2, 0, none⟩) c2 ks _ (K0.out.below H).rd (by rw [← fl_iv]; exact (K2.out.below H).rd) HK.out hc hn hk).mono ?_; rintro e w2 ⟨v2, rfl, O2, hb⟩; obtain ⟨g3, p3, rfl, KO, -⟩ := O2.lies; replace KO := Lib.hid KO; replace H := bstep H hb; clear hb O2) | (go_at_call 40; with_reducible refine (lack_any _ p3 (opL lc ks) g1 0 c1 l _ KO.out.rd (K1.out.below H).c (K1.out.below H).lt HOL (by omega)).mono ?_; rintro e w3 ⟨v3, rfl, O3, hb⟩; obtain ⟨g3, p3, rfl, -⟩ := O3.lies; replace H := bstep H hb; clear hb O3))
    rw [HF.out]
    exact bodyPost_ret (results_tt rfl) rfl ⟨congrArg (fun b => Ending.returned (.tuple #[.bool b, .int .i64 0])) HL.out, H⟩
  · have HF := Lib.hid (show checkR lc l ks = (false, openI lc l ks) by rw [checkR, if_neg e1])
    rcases openI_cases lc l ks with e | e | e
    · exact absurd e e1
    all_goals
      have HI := Lib.hid e
      clear e e1
      rw [HI.out] at HF
      go_enter Try.func13, Try.ntmps13
      go_wp2_with (go_at_call 47; with_reducible refine (openCode_any g0 c0 lc g1 c1 l (some ⟨g2, 0, none⟩) c2 ks _ (K0.out.below H) (K1.out.below H) (by rw [← fl_iv]; exact (K2.out.below H).rd) hn hl hk).mono ?_; rintro e w' ⟨rfl, hb⟩; rw [HI.out]; replace H := bstep H hb; clear hb)
      rw [HF.out]
      exact bodyPost_ret (results_tt rfl) rfl ⟨rfl, H⟩
end Go.Proofs.Ytbngpcghognojaa
namespace Go.Proofs.Ytbngpcghognojaa
open Go.RowKit
set_option linter.unusedVariables false
set_option linter.unusedSimpArgs false
set_option maxRecDepth 100000
set_option maxHeartbeats 1000000
attribute [local go_sem] Oper.qB
/-- The code of a stack and an order that can be filled. -/
def fillI (lc : List Cr) (l : List Wt) : Int := if askOk lc l = true then (if lackL (cntL lc) l = [] then 0 else 6) else 1
theorem fillI_cases (lc : List Cr) (l : List Wt) : (fillI lc l = 0 ∧ askOk lc l = true ∧ lackL (cntL lc) l = []) ∨ fillI lc l = 1 ∨ fillI lc l = 6 := by
  unfold fillI
  split
  · split
    · exact .inl ⟨rfl, ‹_›, ‹_›⟩
    · exact .inr (.inr rfl)
  · exact .inr (.inl rfl)
theorem fresh_nodup {ks : List Int} (h : ks.Nodup) {i : Nat} (hi : i < ks.length) : fresh ks i = true := by
  unfold fresh
  have e : ks.getD i 0 = ks[i] := by simp [List.getD_eq_getElem?_getD, hi]
  rw [e, Bool.not_eq_true', ← Bool.not_eq_true, List.contains_eq_mem, decide_eq_true_iff]
  intro hm
  obtain ⟨j, hj, hj2⟩ := List.getElem_of_mem hm
  rw [List.length_take] at hj
  rw [List.getElem_take] at hj2
  have := (List.getElem_inj h).1 hj2
  omega
theorem opL_nodup (lc : List Cr) {ks : List Int} (h : ks.Nodup) : opL lc ks = ks.map fun y => lc[y.toNat]! := by
  unfold opL opK
  rw [List.filter_eq_self.2 (fun i hi => fresh_nodup h (List.mem_range.1 hi))]
  apply List.ext_getElem
  · simp
  · intro i h1 h2
    have hi : i < ks.length := by simpa using h1
    simp [List.getD_eq_getElem?_getD, hi]
theorem cntL_perm {l l' : List Cr} (h : l.Perm l') (b : Bt) : cntL l b = cntL l' b := (h.map _).sum_nat
theorem everyL_nodup (n : Nat) : (everyL n).Nodup := List.pairwise_map.2 (List.Pairwise.imp (fun h q => h (Int.ofNat.inj q)) List.nodup_range)
theorem everyL_mem {n : Nat} {x : Int} (h0 : 0 ≤ x) (h : x < n) : x ∈ everyL n := by
  simp only [everyL, List.mem_map, List.mem_range]
  exact ⟨x.toNat, by omega, by show (x.toNat : Int) = x; omega⟩
/-- Numbers of crates, each once. -/
structure Good (n : Nat) (ks : List Int) : Prop where
  nd : ks.Nodup
  inn : ∀ x ∈ ks, 0 ≤ x ∧ x < n
theorem Good.le {n : Nat} {ks : List Int} (h : Good n ks) : ks.length ≤ n := by
  have := h.nd.length_le_of_subset (l₂ := everyL n) fun x hx => everyL_mem (h.inn x hx).1 (h.inn x hx).2
  rwa [everyL_length] at this
/-- All crates are told: nothing more is lacking than in all. -/
theorem Good.all {lc : List Cr} {ks : List Int} (h : Good lc.length ks) (ha : ∀ i, i < lc.length → (i : Int) ∈ ks) (b : Bt) : cntL (opL lc ks) b = cntL lc b := by
  have hp : ks.Perm (everyL lc.length) := (List.perm_ext_iff_of_nodup h.nd (everyL_nodup _)).2 fun x => ⟨fun hx => everyL_mem (h.inn x hx).1 (h.inn x hx).2, fun hx => by
    have := everyL_in hx
    have := ha x.toNat (by omega)
    rwa [show ((x.toNat : Nat) : Int) = x by omega] at this⟩
  have e := opL_every lc
  rw [opL_nodup lc (everyL_nodup _)] at e
  rw [opL_nodup lc h.nd]
  conv => rhs; rw [← e]
  exact cntL_perm (hp.map _) b
theorem fillCode_any (g0 c0 : Nat) (lc : List Cr) (g1 c1 : Nat) (l : List Wt) (w : World) (K0 : Lies cc w g0 lc) (K1 : Lies wc w g1 l) (hn : lc.length ≤ 1048576) (hl : l.length ≤ 1048576) :
    Calls Try.prog 36 #[.slice (some ⟨g0, 0, none⟩) lc.length c0, .slice (some ⟨g1, 0, none⟩) l.length c1] w fun e w' => e = .returned (.int .i64 (fillI lc l)) ∧ Below w.heap.size w w' := by
  have H := Below.refl w.heap.size w
  replace K0 := Lib.hid K0
  replace K1 := Lib.hid K1
  cases e1 : stackOk lc with
  | false =>
    have HF := Lib.hid (show fillI lc l = 1 by simp [fillI, askOk, e1])
    go_enter Try.func36, Try.ntmps36
    go_wp2_with (go_at_call 58; with_reducible refine (ValidStack_any g0 0 c0 lc _ (K0.out.below H).c (K0.out.below H).lt (by omega)).mono ?_; rintro e w' ⟨rfl, hb⟩; replace H := bstep H hb; clear hb; have hc := bcell H)
    go_ret
    exact ⟨ret_int HF.out.symm, H⟩
  | true =>
    cases e2 : ordOk l with
    | false =>
      have HF := Lib.hid (show fillI lc l = 1 by simp [fillI, askOk, e1, e2])
      go_enter Try.func36, Try.ntmps36
      go_wp2_with (first | (go_at_call 58; with_reducible refine (ValidStack_any g0 0 c0 lc _ (K0.out.below H).c (K0.out.below H).lt (by omega)).mono ?_; rintro e w' ⟨rfl, hb⟩; replace H := bstep H hb; clear hb; have hc := bcell H) | (go_at_call 48; with_reducible refine (ValidOrder_any g1 0 c1 l _ (K1.out.below H).c (K1.out.below H).lt (by omega)).mono ?_; rintro e w' ⟨rfl, hb⟩; replace H := bstep H hb; clear hb; have hc := bcell H))
      go_ret
      exact ⟨ret_int HF.out.symm, H⟩
    | true =>
      have ea : askOk lc l = true := by simp [askOk, e1, e2]
      have h8 := ask_le ea
      have HF : Hid (fillI lc l = if lackL (cntL lc) l = [] then 0 else 6) := by rw [Hid, fillI, if_pos ea]
      have HLE := lackL_le (cntL lc) l
      have HK := fun A c W h b hb1 => lack_any A c lc g1 0 c1 l W h b hb1 hn (by omega)
      clear ea
      generalize lackL (cntL lc) l = ll at HF HLE HK
      rcases Nat.eq_zero_or_pos ll.length with h0 | h0
      · have HF2 := Lib.hid (show fillI lc l = 0 by rw [HF.out, if_pos (List.length_eq_zero_iff.1 h0)])
        go_enter Try.func36, Try.ntmps36
        go_wp2_with (first | (go_at_call 58; with_reducible refine (ValidStack_any g0 0 c0 lc _ (K0.out.below H).c (K0.out.below H).lt (by omega)).mono ?_; rintro e w' ⟨rfl, hb⟩; replace H := bstep H hb; clear hb; have hc := bcell H) | (go_at_call 48; with_reducible refine (ValidOrder_any g1 0 c1 l _ (K1.out.below H).c (K1.out.below H).lt (by omega)).mono ?_; rintro e w' ⟨rfl, hb⟩; replace H := bstep H hb; clear hb; have hc := bcell H) | (go_at_call 40; with_reducible refine (HK _ c0 _ (K0.out.below H).rd (K1.out.below H).c (K1.out.below H).lt).mono ?_; rintro e w3 ⟨v3, rfl, O3, hb⟩; obtain ⟨g3, p3, rfl, -⟩ := O3.lies; replace H := bstep H hb; clear hb O3))
        go_ret
        exact ⟨ret_int HF2.out.symm, H⟩
      · have HF2 := Lib.hid (show fillI lc l = 6 by rw [HF.out, if_neg (fun q => by simp [q] at h0)])
        go_enter Try.func36, Try.ntmps36
        go_wp2_with (first | (go_at_call 58; with_reducible refine (ValidStack_any g0 0 c0 lc _ (K0.out.below H).c (K0.out.below H).lt (by omega)).mono ?_; rintro e w' ⟨rfl, hb⟩; replace H := bstep H hb; clear hb; have hc := bcell H) | (go_at_call 48; with_reducible refine (ValidOrder_any g1 0 c1 l _ (K1.out.below H).c (K1.out.below H).lt (by omega)).mono ?_; rintro e w' ⟨rfl, hb⟩; replace H := bstep H hb; clear hb; have hc := bcell H) | (go_at_call 40; with_reducible refine (HK _ c0 _ (K0.out.below H).rd (K1.out.below H).c (K1.out.below H).lt).mono ?_; rintro e w3 ⟨v3, rfl, O3, hb⟩; obtain ⟨g3, p3, rfl, -⟩ := O3.lies; replace H := bstep H hb; clear hb O3))
        go_ret
        exact ⟨ret_int HF2.out.symm, H⟩
theorem l02Filled_any (g0 c0 : Nat) (lc : List Cr) (g1 c1 : Nat) (l : List Wt) (w : World) (K0 : Lies cc w g0 lc) (K1 : Lies wc w g1 l) (hn : lc.length ≤ 1048576) (hl : l.length ≤ 1048576) :
    Calls Try.prog 38 #[.slice (some ⟨g0, 0, none⟩) lc.length c0, .slice (some ⟨g1, 0, none⟩) l.length c1] w fun e w' => e = .returned (.int .i64 (fillI lc l)) ∧ Below w.heap.size w w' := by
  have H := Below.refl w.heap.size w
  replace K0 := Lib.hid K0
  replace K1 := Lib.hid K1
  cases e1 : askOk lc l with
  | false =>
    have HF := Lib.hid (show fillI lc l = 1 by simp [fillI, e1])
    have HA := Lib.hid (show askI lc l = 1 by simp [askI, e1])
    go_enter Try.func38, Try.ntmps38
    go_wp2_with (go_at_call 62; with_reducible refine (l02Asked_any g0 c0 lc g1 0 c1 l _ (K0.out.below H) (K1.out.below H).c (K1.out.below H).lt hn hl).mono ?_; rintro e w' ⟨rfl, hb⟩; rw [HA.out]; replace H := bstep H hb; clear hb)
    go_ret
    exact ⟨ret_int HF.out.symm, H⟩
  | true =>
    have h8 := ask_le e1
    have HF : Hid (fillI lc l = if lackL (cntL lc) l = [] then 0 else 6) := by rw [Hid, fillI, if_pos e1]
    have HA := Lib.hid (show askI lc l = 0 by simp [askI, e1])
    have HLE := lackL_le (cntL lc) l
    have HK := fun v B W k0 h hb1 O => l02LackAll_any g0 c0 lc g1 0 c1 l v B W k0 h hb1 O hn (by omega)
    clear e1
    generalize lackL (cntL lc) l = ll at HF HLE HK
    rcases Nat.eq_zero_or_pos ll.length with h0 | h0
    · have HF2 := Lib.hid (show fillI lc l = 0 by rw [HF.out, if_pos (List.length_eq_zero_iff.1 h0)])
      go_enter Try.func38, Try.ntmps38
      go_wp2_with (first | (go_at_call 62; with_reducible refine (l02Asked_any g0 c0 lc g1 0 c1 l _ (K0.out.below H) (K1.out.below H).c (K1.out.below H).lt hn hl).mono ?_; rintro e w' ⟨rfl, hb⟩; rw [HA.out]; replace H := bstep H hb; clear hb) | (go_at_call 35; with_reducible refine (l02Every_any _ lc.length c0 _ hn).mono ?_; rintro e w2 ⟨v2, rfl, O2, hb⟩; replace H := bstep H hb; clear hb) | (go_at_call 34; with_reducible refine (HK v2 _ _ (K0.out.below H) (K1.out.below H).c (K1.out.below H).lt O2).mono ?_; rintro e w3 ⟨v3, rfl, O3, hb⟩; obtain ⟨g3, p3, rfl, -⟩ := O3.lies; replace H := bstep H hb; clear hb O3))
      go_ret
      exact ⟨ret_int HF2.out.symm, H⟩
    · have HF2 := Lib.hid (show fillI lc l = 6 by rw [HF.out, if_neg (fun q => by simp [q] at h0)])
      go_enter Try.func38, Try.ntmps38
      go_wp2_with (first | (go_at_call 62; with_reducible refine (l02Asked_any g0 c0 lc g1 0 c1 l _ (K0.out.below H) (K1.out.below H).c (K1.out.below H).lt hn hl).mono ?_; rintro e w' ⟨rfl, hb⟩; rw [HA.out]; replace H := bstep H hb; clear hb) | (go_at_call 35; with_reducible refine (l02Every_any _ lc.length c0 _ hn).mono ?_; rintro e w2 ⟨v2, rfl, O2, hb⟩; replace H := bstep H hb; clear hb) | (go_at_call 34; with_reducible refine (HK v2 _ _ (K0.out.below H) (K1.out.below H).c (K1.out.below H).lt O2).mono ?_; rintro e w3 ⟨v3, rfl, O3, hb⟩; obtain ⟨g3, p3, rfl, -⟩ := O3.lies; replace H := bstep H hb; clear hb O3))
      go_ret
      exact ⟨ret_int HF2.out.symm, H⟩
end Go.Proofs.Ytbngpcghognojaa
