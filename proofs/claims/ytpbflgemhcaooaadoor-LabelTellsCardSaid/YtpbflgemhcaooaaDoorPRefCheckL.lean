import Derived.Test.YtpbflgemhcaooaaDoorPRefKX
/- evref1.Check: what is wrong with a program, by the document. -/
namespace Ev
theorem findP_take (l : List Par) (n : List UInt8) : ∀ k, k ≤ l.length → ((findP (l.take k) n).isSome = true ↔ ∃ i, i < k ∧ (l[i]?).map Par.name = some n)
  | 0, _ => by
    rw [List.take_zero, findP_nil]
    exact ⟨fun h => (by cases h), fun ⟨i, h, _⟩ => absurd h (by omega)⟩
  | k + 1, h => by
    have hk : l[k]? = some l[k] := List.getElem?_eq_getElem (by omega)
    rw [List.take_add_one, hk]
    show (findP (l.take k ++ [l[k]]) n).isSome = true ↔ _
    rw [findP_snoc]
    have ih := findP_take l n k (by omega)
    by_cases e : l[k].name = n
    · rw [if_pos e]
      exact ⟨fun _ => ⟨k, by omega, by rw [hk, ← e]; rfl⟩, fun _ => rfl⟩
    · rw [if_neg e, ih]
      refine ⟨fun ⟨i, h1, h2⟩ => ⟨i, by omega, h2⟩, fun ⟨i, h1, h2⟩ => ⟨i, ?_, h2⟩⟩
      rcases Nat.lt_succ_iff_lt_or_eq.1 h1 with h3 | h3
      · exact h3
      · subst h3
        rw [hk] at h2
        injection h2 with h2
        exact absurd h2 e
theorem nameTo_some (l : List Par) (n : List UInt8) : ∀ k, k ≤ l.length → (0 ≤ nameTo l n k ↔ ∃ i, i < k ∧ (l[i]?).map Par.name = some n)
  | 0, _ => ⟨fun h => absurd h (by show ¬ (0 : Int) ≤ -1; omega), fun ⟨i, h, _⟩ => absurd h (by omega)⟩
  | k + 1, h => by
    have ih := nameTo_some l n k (by omega)
    unfold nameTo
    by_cases e : (l[k]?).map Par.name = some n
    · rw [if_pos e]
      exact ⟨fun _ => ⟨k, by omega, e⟩, fun _ => by omega⟩
    · rw [if_neg e, ih]
      refine ⟨fun ⟨i, h1, h2⟩ => ⟨i, by omega, h2⟩, fun ⟨i, h1, h2⟩ => ⟨i, ?_, h2⟩⟩
      rcases Nat.lt_succ_iff_lt_or_eq.1 h1 with h3 | h3
      · exact h3
      · subst h3; exact absurd h2 e
/-- a parameter's name is there ahead of it -/
theorem twice_par {l m : List Par} {i : Nat} {p : Par} (h : twiceTo (l ++ m) i = false) (hp : l[i]? = some p) : twiceTo (l ++ m) (i + 1) = (findP (l.take i) p.name).isSome := by
  have hi := (List.getElem?_eq_some_iff.1 hp).1
  rw [twice_next h (by rw [List.getElem?_append_left hi]; exact hp)]
  have h1 := nameTo_some (l ++ m) p.name i (by simp; omega)
  have h2 := findP_take l p.name i (by omega)
  have h3 : (∃ j, j < i ∧ ((l ++ m)[j]?).map Par.name = some p.name) ↔ ∃ j, j < i ∧ (l[j]?).map Par.name = some p.name := by
    constructor
    · rintro ⟨j, a, b⟩; rw [List.getElem?_append_left (by omega)] at b; exact ⟨j, a, b⟩
    · rintro ⟨j, a, b⟩; exact ⟨j, a, by rw [List.getElem?_append_left (by omega)]; exact b⟩
  rw [h3, ← h2] at h1
  cases h4 : (findP (l.take i) p.name).isSome with
  | true => exact decide_eq_true (h1.2 h4)
  | false => exact decide_eq_false (fun h => by rw [h1.1 h] at h4; cases h4)
/-- an array's name is there ahead of it -/
theorem twice_arr {l m : List Par} {j : Nat} {p : Par} (h : twiceTo (l ++ m) (l.length + j) = false) (hp : m[j]? = some p) : twiceTo (l ++ m) (l.length + j + 1) = ((findP l p.name).isSome || (findP (m.take j) p.name).isSome) := by
  have hj := (List.getElem?_eq_some_iff.1 hp).1
  rw [twice_next h (by rw [List.getElem?_append_right (by omega), show l.length + j - l.length = j by omega]; exact hp)]
  have h1 := nameTo_some (l ++ m) p.name (l.length + j) (by simp; omega)
  have h2 := findP_take m p.name j (by omega)
  have h5 := findP_take l p.name l.length (Nat.le_refl _)
  rw [List.take_length] at h5
  have h3 : (∃ i, i < l.length + j ∧ ((l ++ m)[i]?).map Par.name = some p.name) ↔ ((∃ i, i < l.length ∧ (l[i]?).map Par.name = some p.name) ∨ ∃ i, i < j ∧ (m[i]?).map Par.name = some p.name) := by
    constructor
    · rintro ⟨i, a, b⟩
      by_cases hi : i < l.length
      · rw [List.getElem?_append_left hi] at b; exact .inl ⟨i, hi, b⟩
      · rw [List.getElem?_append_right (by omega)] at b; exact .inr ⟨i - l.length, by omega, b⟩
    · rintro (⟨i, a, b⟩ | ⟨i, a, b⟩)
      · exact ⟨i, by omega, by rw [List.getElem?_append_left a]; exact b⟩
      · exact ⟨l.length + i, by omega, by rw [List.getElem?_append_right (by omega), show l.length + i - l.length = i by omega]; exact b⟩
  rw [h3, ← h2, ← h5] at h1
  cases h4 : (findP l p.name).isSome with
  | true => exact decide_eq_true (h1.2 (.inl h4))
  | false =>
    rw [Bool.false_or]
    cases h6 : (findP (m.take j) p.name).isSome with
    | true => exact decide_eq_true (h1.2 (.inr h6))
    | false => exact decide_eq_false (fun h => by rcases h1.1 h with h | h; (rw [h] at h4; cases h4); (rw [h] at h6; cases h6))
end Ev
