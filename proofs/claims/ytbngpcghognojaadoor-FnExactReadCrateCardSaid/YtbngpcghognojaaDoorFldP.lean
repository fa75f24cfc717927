/- The fields of a text of words, each with a space or a line's end behind it. -/
import Derived.Shelf.Strings.FieldsAny
import Derived.Laws.RangeString
namespace Go.Proofs.YtbngpcghognojaaDoor
open Go Go.Lib
set_option linter.unusedVariables false
set_option linter.unusedSimpArgs false
theorem fieldsGo_word : ∀ (w cur rest : List UInt8), (∀ c ∈ w, isSp c = false) → fieldsGo cur (w ++ rest) = fieldsGo (cur ++ w) rest
  | [], cur, rest, _ => by simp
  | c :: w, cur, rest, h => by
    rw [List.cons_append, fieldsGo_more cur c _ (h c (List.mem_cons_self ..)), fieldsGo_word w (cur ++ [c]) rest fun d hd => h d (List.mem_cons_of_mem _ hd)]
    simp
theorem fields_words (f : Nat → List UInt8) (e : Nat → UInt8) : ∀ (is : List Nat), (∀ i ∈ is, f i ≠ [] ∧ (∀ c ∈ f i, isSp c = false) ∧ isSp (e i) = true) → fieldsGo [] (is.flatMap fun i => f i ++ [e i]) = is.map f
  | [], _ => by simp [fieldsGo]
  | i :: is, h => by
    obtain ⟨h1, h2, h3⟩ := h i (List.mem_cons_self ..)
    rw [List.flatMap_cons, List.append_assoc, fieldsGo_word _ _ _ h2, List.nil_append, List.cons_append, List.nil_append, fieldsGo_end _ _ _ h3 h1, fields_words f e is fun j hj => h j (List.mem_cons_of_mem _ hj), List.map_cons]
theorem spansP_congr {p q : Nat → Bool} {s : ByteArray} (h : ∀ pos, pos < s.size → p (Utf8.decode s pos).1 = q (Utf8.decode s pos).1) : ∀ (f pos : Nat) (st : Option Nat) (acc : List (Nat × Nat)), spansFromP p s f pos st acc = spansFromP q s f pos st acc
  | 0, _, _, _ => rfl
  | f + 1, pos, st, acc => by
    unfold spansFromP
    by_cases hp : pos < s.size
    · rw [if_pos hp, if_pos hp, h pos hp]
      split <;> cases st <;> exact spansP_congr h f _ _ _
    · rw [if_neg hp, if_neg hp]
theorem goFieldsP_congr {p q : Nat → Bool} {s : ByteArray} (h : ∀ pos, pos < s.size → p (Utf8.decode s pos).1 = q (Utf8.decode s pos).1) : goFieldsP p s = goFieldsP q s := by
  unfold goFieldsP spansOfP
  rw [spansP_congr h]
/-- Space or a line's end. -/
def isSL (r : Nat) : Bool := r == 32 || r == 10
/-- The fields of an ASCII text in which white space is spaces and line ends alone. -/
theorem goFields_sl {l : List UInt8} (h : ∀ c ∈ l, c.toNat < 128 ∧ isSp c = isSL c.toNat) : (goFieldsP isSL ⟨l.toArray⟩).map (·.data.toList) = fields l := by
  have e : goFieldsP isSL ⟨l.toArray⟩ = goFieldsP isSpaceR ⟨l.toArray⟩ := by
    refine goFieldsP_congr fun pos hp => ?_
    have hl : pos < l.length := by
      have : pos < l.toArray.size := hp
      simpa using this
    have hg : (⟨l.toArray⟩ : ByteArray)[pos] = l[pos] := by
      show l.toArray[pos] = _
      simp
    have hm := h _ (List.getElem_mem hl)
    rw [decode_ascii _ pos hp (by rw [hg]; exact hm.1), hg]
    show isSL l[pos].toNat = isSpaceR l[pos].toNat
    rw [← hm.2]
    cases hs : isSp l[pos] with
    | true => rw [(isSp_true hs).2]
    | false => rw [isSp_false hs hm.1]
  rw [e, goFieldsP_space, goFields_eq, fieldsD_ascii _ fun c hc => (h c (by simpa using hc)).1]
end Go.Proofs.YtbngpcghognojaaDoor
