import Derived.Test.YtljcgcllhcdleaaMm27
import Derived.Test.YtljcgcllhcdleaaMm32
/- What a machine is given, for the laws' walks (as in MachTells; the two are never imported together). -/
namespace Ev
theorem len_flattenM {l : List (List Int)} {a : List Int} (h : a ∈ l) : a.length ≤ l.flatten.length := by
  induction l with
  | nil => cases h
  | cons b r ih =>
    rw [List.flatten_cons, List.length_append]
    rcases List.mem_cons.1 h with rfl | h
    · omega
    · have := ih h; omega
end Ev
namespace Go.Proofs.Ytljcgcllhcdleaa
open Go.RowKit
set_option linter.unusedSimpArgs false
set_option linter.unusedVariables false
theorem mgiven_of {g : Ev.Given} (h : Ev.wordsOk g = true) (h2 : g.arrays.length ≤ 1073741824) (h3 : ∀ a ∈ g.arrays, a.length ≤ 1073741824) : MGiven g := by
  unfold Ev.wordsOk at h
  rw [List.all_eq_true] at h
  have hw : ∀ a ∈ g.arrays ++ [g.words], ∀ x ∈ a, Ev.Wd x := fun a ha x hx => by
    have := List.all_eq_true.1 (h a ha) x hx
    unfold Ev.isWord at this
    simp at this
    exact this
  exact ⟨hw _ (by simp), fun a ha => hw a (by simp [ha]), h3, h2⟩
theorem RGiven.atM {w w' : World} {v : Value} {g : Ev.Given} (h : RGiven w w.heap.size v g) (hb : Below w.heap.size w w') : RGiven w' w'.heap.size v g := by
  obtain ⟨vw, va, h1, h2, h3⟩ := h
  exact ⟨vw, va, h1, SL.at_ h2 hb (Nat.le_refl _), h3.at_ hb (Nat.le_refl _)⟩
theorem RRan.stays {w w' : World} {v : Value} {r : Ev.Ran} (h : RRan w v r) (hb : Below w.heap.size w w') : RRan w' v r := by
  obtain ⟨va, vl, h1, h2, h3⟩ := h
  exact ⟨va, vl, h1, h2.at_ hb (Nat.le_refl _), h3.stays hb⟩
theorem slice_form {w : World} {B : Nat} {v : Value} {l : List (List Int)} (h : RLists w B v l) : ∃ A c, v = .slice A l.length c ∧ l.length ≤ c ∧ c ≤ maxLen := by
  obtain ⟨_, _, h, _⟩ := h; exact SL.form h
end Go.Proofs.Ytljcgcllhcdleaa
