/- Contracts of choices: all ascending lists of so many numbers. -/
import Derived.Test.YtnhpgahapjjjbaaNest
import Derived.Test.YtnhpgahapjjjbaaWhole
namespace Go.Proofs.Ytnhpgahapjjjbaa
open Go Go.RowKit
set_option linter.unusedVariables false
set_option linter.unusedSimpArgs false
set_option maxRecDepth 100000
set_option maxHeartbeats 1000000
attribute [local go_sem] Oper.qB
theorem iv_one (x : Int) : ∀ u ∈ iv x, u.oneCell' = true := fun u hu => by
  obtain rfl : u = .int .i64 x := by simpa [iv] using hu
  rfl
/-- The numbers from f on, m of them. -/
def upI (f : Int) (m : Nat) : List Int := (List.range m).map fun (i : Nat) => f + (i : Int)
/-- All ascending lists of n numbers out of m from f on, in their order. -/
def chF : Nat → Int → Nat → List (List Int)
  | 0, _, _ => [[]]
  | n + 1, f, m => (List.range m).flatMap fun (i : Nat) => (chF n (f + (i : Int) + 1) (m - (i + 1))).map fun l => (f + (i : Int)) :: l
/-- The same, between two bounds. -/
def ch (n : Nat) (f t : Int) : List (List Int) := chF n f (t + 1 - f).toNat
def chK (n : Nat) (f : Int) (m i : Nat) : List (List Int) := (List.range i).flatMap fun (i : Nat) => (chF n (f + (i : Int) + 1) (m - (i + 1))).map fun l => (f + (i : Int)) :: l
theorem chK_succ (n : Nat) (f : Int) (m i : Nat) : chK n f m (i + 1) = chK n f m i ++ (chF n (f + (i : Int) + 1) (m - (i + 1))).map (fun l => (f + (i : Int)) :: l) := by
  unfold chK
  rw [List.range_succ, List.flatMap_append]
  simp
theorem chF_le : ∀ (n : Nat) (f : Int) (m : Nat), (chF n f m).length ≤ 2 ^ m
  | 0, f, m => by simp [chF]; exact Nat.one_le_two_pow
  | n + 1, f, m => by
    have key : ∀ i, i ≤ m → (chK n f m i).length + 2 ^ (m - i) ≤ 2 ^ m := by
      intro i
      induction i with
      | zero => intro _; simp [chK]
      | succ i ih =>
        intro hi
        have h1 := ih (by omega)
        have h2 := chF_le n (f + (i : Int) + 1) (m - (i + 1))
        have h3 : 2 ^ (m - i) = 2 * 2 ^ (m - (i + 1)) := by rw [show m - i = (m - (i + 1)) + 1 by omega, Nat.pow_succ, Nat.mul_comm]
        rw [chK_succ, List.length_append, List.length_map]
        omega
    have := key m (Nat.le_refl _)
    exact Nat.le_trans (Nat.le_add_right _ _) this
theorem chK_le {n : Nat} {f : Int} {m i : Nat} (hi : i ≤ m) : (chK n f m i).length ≤ 2 ^ m := by
  have h := chF_le (n + 1) f m
  have e : chF (n + 1) f m = chK n f m m := rfl
  have hs : ∀ j, (chK n f m i).length ≤ (chK n f m (i + j)).length := by
    intro j
    induction j with
    | zero => exact Nat.le_refl _
    | succ j ih =>
      rw [← Nat.add_assoc, chK_succ, List.length_append]
      omega
  have := hs (m - i)
  rw [show i + (m - i) = m by omega, ← e] at this
  omega
theorem chF_len : ∀ (n : Nat) (f : Int) (m : Nat), ∀ x ∈ chF n f m, x.length = n
  | 0, f, m => by simp [chF]
  | n + 1, f, m => by
    intro x hx
    simp only [chF, List.mem_flatMap, List.mem_map] at hx
    obtain ⟨i, _, y, hy, rfl⟩ := hx
    simp [chF_len n _ _ y hy]
theorem map_step {rs : List (List Int)} {j : Nat} (x : Int) (h : j < rs.length) : (rs.take (j + 1)).map (fun l => x :: l) = (rs.take j).map (fun l => x :: l) ++ [x :: rs[j]!] := by
  rw [List.take_succ_eq_append_getElem h, List.map_append, getB h]
  rfl
theorem info47 : (Try.prog.info? 47).map (fun i => (i.zero, i.size, i.bytes)) = some (some (.slice none 0 0), 1, 24) := by kernel_rfl
theorem choices_any (n : Nat) : ∀ (f : Int) (m : Nat) (w : World), 0 ≤ f → f + m ≤ 100 → m ≤ 12 → n ≤ 12 →
    Calls Try.prog 70 #[.int .i64 n, .int .i64 f, .int .i64 (f + (m : Int) - 1)] w fun e w' => ∃ v, e = .returned v ∧ OwnL iv 1 2 47 w' w.heap.size v (chF n f m) ∧ Below w.heap.size w w' := by
  induction n with
  | zero =>
    intro f m w h0 h1 hm hn
    go_enter Try.func70, Try.ntmps70
    go_wp2
    go_ret
    have h := OwnL.one (f := iv) (k := 1) (e := 2) (w := w.alloc (.cells #[] 2)) (B := w.heap.size) (E := 47) (by simp) ((OwnS.lit (f := iv) (Nat.le_refl _)).n)
    rw [World.size_alloc] at h
    exact ⟨_, rfl, h, by go_grown⟩
  | succ n IH =>
    intro f m w h0 h1 hm hn
    obtain ⟨N, hN⟩ : ∃ N : Int, N = ((n + 1 : Nat) : Int) := ⟨_, rfl⟩
    rw [← hN]
    have hN1 : 1 ≤ N := by omega
    have hN2 : N ≤ 12 := by omega
    have hz : (N == 0) = false := by rw [beq_eq_false_iff_ne]; omega
    have IH2 := Lib.hid (fun (a b c : Int) (m' : Nat) (W : World) (ha : a = n) (hb : 0 ≤ b) (hbm : b + m' ≤ 100) (hm' : m' ≤ 12) (hc : c = b + m' - 1) => by
      have := IH b m' W hb hbm hm' (by omega)
      rw [← ha, ← hc] at this
      exact this)
    have hNn : N - 1 = n := by omega
    replace hN := Lib.hid hN
    replace hNn := Lib.hid hNn
    have hle := fun i (hi : i ≤ m) => chK_le (n := n) (f := f) (i := i) hi
    have hpow : 2 ^ m ≤ 4096 := Nat.pow_le_pow_right (n := 2) (by decide) hm
    have HLE := Lib.hid (fun i (hi : i ≤ m) => Nat.le_trans (hle i hi) hpow)
    clear hle hpow IH
    obtain ⟨T, hT⟩ : ∃ T : Int, T = f + (m : Int) - 1 := ⟨_, rfl⟩
    rw [← hT]
    have hT1 : T ≤ 100 := by omega
    have hT2 : -1 ≤ T := by omega
    replace hT := Lib.hid hT
    have hwN : IntKind.i64.wrap (N - 1) = N - 1 := by rw [IntKind.wrap_i64]; omega
    go_enter Try.func70, Try.ntmps70
    go_wp2
    go_loopw [7, 8] (fun v x wr => ∃ i : Nat, i ≤ m ∧ x = .int .i64 (f + (i : Int)) ∧ Hid (OwnL iv 1 2 47 wr w.heap.size v (chK n f m i)) ∧ Below w.heap.size w wr) (fun _ x _ => (f + (m : Int) - intOf x).toNat)
    case atStart => exact ⟨0, Nat.zero_le _, by rw [Int.natCast_zero, Int.add_zero], OwnL.lit (Nat.le_refl _), by go_grown⟩
    case round =>
      obtain ⟨i, hi, rfl, HO, hb⟩ := hrel
      obtain ⟨wo, hwo⟩ : ∃ wo, wo = wr := ⟨_, rfl⟩
      subst hwo
      have HLi := HLE.out i hi
      by_cases hlt : i < m
      · have HLs := Lib.hid (HLE.out (i + 1) hlt)
        have HS := Lib.hid (chK_succ n f m i)
        have hi2 : f + (i : Int) ≤ T := by rw [hT.out]; omega
        have HC : Hid (∀ W, Calls Try.prog 70 #[.int .i64 (N - 1), .int .i64 (f + (i : Int) + 1), .int .i64 T] W fun e w' => ∃ v, e = .returned v ∧ OwnL iv 1 2 47 w' W.heap.size v (chF n (f + (i : Int) + 1) (m - (i + 1))) ∧ Below W.heap.size W w') :=
          fun W => IH2.out _ _ _ _ W hNn.out (by omega) (by omega) (by omega) (by rw [hT.out]; omega)
        have HSL := chF_len n (f + (i : Int) + 1) (m - (i + 1))
        have hxe : Hid (f + ((i + 1 : Nat) : Int) = f + (i : Int) + 1) := by show _ = _; omega
        have hx0 : 0 ≤ f + (i : Int) := by omega
        have hms : Hid ((f + (m : Int) - (f + (i : Int) + 1)).toNat < (f + (m : Int) - (f + (i : Int))).toNat) := by show _ < _; omega
        generalize chF n (f + (i : Int) + 1) (m - (i + 1)) = rs at HS HC HSL
        generalize chK n f m i = os at HO HS HLi
        generalize f + (i : Int) = x at *
        have hx1 : x ≤ 100 := by omega
        have hwx : IntKind.i64.wrap (x + 1) = x + 1 := by rw [IntKind.wrap_i64]; omega
        have hrl : rs.length ≤ 4096 := by
          have := HLs.out
          rw [HS.out, List.length_append, List.length_map] at this
          omega
        go_wp2_with (go_at_call 70; with_reducible refine (HC.out _).mono ?_; rintro e wi ⟨v2, rfl, R0, hb2⟩; have HA0 := Lib.hid (R0.away HO.out (Nat.le_refl _)); obtain ⟨g2, p2, hv2, -, -⟩ := R0.lies'; subst hv2)
        have HO0 := Lib.hid (HO.out.kept hb2)
        replace R0 := Lib.hid R0
        have hb3 := bstep hb hb2
        go_loopw [7, 29] (fun v j wr => ∃ k : Nat, k ≤ rs.length ∧ j = .int .i64 k ∧ Hid (OwnL iv 1 2 47 wr w.heap.size v (os ++ (rs.take k).map (fun l => x :: l))) ∧ Hid (OwnL iv 1 2 47 wr wo.heap.size (.slice (some ⟨g2, 0, none⟩) rs.length p2) rs ∧ Apart v (.slice (some ⟨g2, 0, none⟩) rs.length p2)) ∧ Below w.heap.size w wr) (fun _ j _ => rs.length - (intOf j).toNat)
        case atStart => exact ⟨0, Nat.zero_le _, rfl, by rw [List.take_zero, List.map_nil, List.append_nil]; exact HO0.out, ⟨R0.out, HA0.out⟩, hb3⟩
        case round =>
          clear hb3 HO0 R0 HA0
          obtain ⟨k, hk, rfl, HOk, HR, hbk⟩ := hrel
          by_cases hltk : k < rs.length
          · obtain ⟨g3, cap3, hv3, hg3, hB3, HEL⟩ := HR.out.1.lies
            obtain ⟨rfl, rfl⟩ : g2 = g3 ∧ p2 = cap3 := by simpa using hv3
            obtain ⟨u, x0, HU⟩ := HEL k hltk
            have HM := Lib.hid (map_step x hltk)
            have hRl : rs[k]!.length ≤ 12 := by rw [getB hltk, HSL _ (List.getElem_mem hltk)]; omega
            have hkl : (os ++ (rs.take k).map (fun l => x :: l)).length ≤ 100000 := by simp; omega
            have hk2 : (k : Int) < (rs.length : Int) := by omega
            have HMA : Hid (os ++ (rs.take (k + 1)).map (fun l => x :: l) = (os ++ (rs.take k).map (fun l => x :: l)) ++ [x :: rs[k]!]) := by rw [Hid, HM.out, List.append_assoc]
            clear hv3 HEL HM hg3 hB3
            generalize os ++ (rs.take k).map (fun l => x :: l) = oo at HOk HMA hkl
            generalize rs[k]! = ys at HU HMA hRl
            replace HU := Lib.hid HU
            go_wp2_with (first | (at_builtin; refine wp_app_any (f := iv) wr.heap.size rfl _ _ 47 2 rfl (.int .i64 0) 1 8 Try.underlying47 info64 rfl (by decide) iv_length iv_one _ [x] rfl _ wo.heap.size ys rfl ?hO ?hY ?hB ?hn (by decide) ?_; (case hn => show 1 + ys.length ≤ 100000000; omega); (case hO => exact ⟨World.ownsRow_lit (base := wr.heap.size) (e := 2) (size := 1) wr #[.int .i64 x] 1 (Nat.le_refl _) (by simp [maxLen]) (by simp), _, _, rfl⟩); (case hY => exact HU.out.below ((Below.refl _ wr).alloc (Nat.le_refl _) _)); (case hB => simp); intro v5 w5 H5 hb5; obtain ⟨g5, p5, hv5, -⟩ := H5.lies; subst hv5; have hA5 := ((Below.refl wr.heap.size wr).alloc (Nat.le_refl _) _).trans hb5.1; have HO5 := Lib.hid (HOk.out.kept hA5); have HR5 := Lib.hid (HR.out.1.kept hA5); have HU5 := Lib.hid (H5.n.down hbk.size); have hb5' := Lib.hid (bstep hbk hA5); clear hb5 hA5 H5) | (at_builtin; refine wp_app_in (f := iv) w.heap.size rfl _ _ 90 47 rfl (.slice none 0 0) Try.underlying90 info47 rfl 1 2 (by decide) _ oo (x :: ys) _ rfl _ rfl ?hg ?hO ?hU ?hB ?hn ?_; (case hg => simp); (case hO => exact HO5.out); (case hU => exact HU5.out); (case hB => exact hb5'.out.size); (case hn => omega); intro v6 w6 H6 hb6))
            have HR6 := HR5.out.but HO5.out hb6.2.1 HR.out.2 (by decide)
            have HA6 := HR5.out.apart_away HR.out.2 hb6.2.2
            go_roundw
            case rel => exact ⟨k + 1, by omega, by go_num, by rw [HMA.out]; exact H6, ⟨HR6, HA6⟩, hb5'.out.trans hb6.1⟩
            case measure => simp [intOf]; omega
          · obtain rfl : k = rs.length := by omega
            rw [List.take_length] at HOk
            go_wp2
            go_roundw
            case rel => exact ⟨i + 1, by omega, by rw [hxe.out], by rw [HS.out]; exact HOk.out, hbk⟩
            case measure => exact hms.out
      · obtain rfl : i = m := by omega
        have hi2 : ¬ f + (i : Int) ≤ T := by rw [hT.out]; omega
        go_wp2
        go_ret
        exact ⟨_, rfl, HO.out, hb⟩
end Go.Proofs.Ytnhpgahapjjjbaa
