import Derived.Test.YtpbflgemhcaooaaDoorPt4
/- What is read is small. -/
namespace Ev
inductive Sm : St1 → Prop
  | mk (k n : Int) (nm : List UInt8) (b : Bool) (a : List Ex) (t e : List St1) : t.length ≤ 1201 → e.length ≤ 1201 → (∀ s ∈ t, Sm s) → (∀ s ∈ e, Sm s) → Sm (.mk k n nm b a t e)
theorem Sm.parts {s : St1} (h : Sm s) : s.thn.length ≤ 1201 ∧ s.els.length ≤ 1201 ∧ (∀ t ∈ s.thn, Sm t) ∧ (∀ t ∈ s.els, Sm t) := by
  cases h with
  | mk k n nm b a t e h1 h2 h3 h4 => exact ⟨h1, h2, h3, h4⟩
theorem all_len {α : Type} {f : PS → α × PS} (hf : ∀ p, Steps p (f p).2) : ∀ k p, (allW f k p).1.length ≤ if p.err = 0 then p.s.length + 1 else 0
  | 0, p => Nat.zero_le _
  | k + 1, p => by
    unfold allW
    by_cases h : p.err = 0 ∧ peekW p.s ≠ [41]
    · rw [if_pos h, if_pos h.1]
      have h1 := all_len hf k (f p.skip).2
      have h2 := (hf p.skip).2 h.1
      have h3 : p.skip.s.length ≤ p.s.length := skip_le p.s
      show (allW f k (f p.skip).2).1.length + 1 ≤ _
      by_cases e : (f p.skip).2.err = 0
      · rw [if_pos e] at h1
        rcases h2 with h2 | h2
        · exact absurd e h2
        · omega
      · rw [if_neg e] at h1
        omega
    · rw [if_neg h]; exact Nat.zero_le _
theorem all_sm {α : Type} {f : PS → α × PS} {R : α → Prop} (hg : ∀ p, Goes p (f p).2) (hf : ∀ p, p.s.length ≤ 1200 → R (f p).1) : ∀ k p, p.s.length ≤ 1200 → ∀ x ∈ (allW f k p).1, R x
  | 0, p, _ => fun x hx => by cases hx
  | k + 1, p, h => by
    unfold allW
    split
    · intro x hx
      have h3 : p.skip.s.length ≤ p.s.length := skip_le p.s
      rcases List.mem_cons.1 hx with rfl | hx
      · exact hf _ (by omega)
      · exact all_sm hg hf k _ (by have := (hg p.skip).len; omega) x hx
    · intro x hx; cases hx
theorem all_few {α : Type} {f : PS → α × PS} (hf : ∀ p, Steps p (f p).2) (k : Nat) (p : PS) (h : p.s.length ≤ 1200) : (allW f k p).1.length ≤ 1201 := by
  have := all_len hf k p
  split at this <;> omega
theorem stmt_sm : ∀ d p, p.s.length ≤ 1200 → Sm (stmtW d p).1
  | 0, p, _ => .mk _ _ _ _ _ _ _ (Nat.zero_le _) (Nat.zero_le _) (fun s hs => by cases hs) (fun s hs => by cases hs)
  | d + 1, p, h => by
    have hg : ∀ p, Goes p (stmtW d p).2 := fun q => (stmt_steps d q).1
    have hb : ∀ q : PS, q.s.length ≤ 1200 → (blockW (stmtW d) q).1.length ≤ 1201 ∧ ∀ t ∈ (blockW (stmtW d) q).1, Sm t := fun q hq => ⟨all_few (stmt_steps d) _ q hq, all_sm hg (stmt_sm d) _ q hq⟩
    have h3 := ((kind_steps p).1.trans (sec_goes (kindW p).1 (kindW p).2)).trans (nm_goes (kindW p).1 (secW (kindW p).1 (kindW p).2).2)
    have n0 : ∀ s ∈ ([] : List St1), Sm s := fun s hs => by cases hs
    unfold stmtW
    dsimp only
    split
    · unfold forW
      dsimp only
      have h4 := (num_steps 0 8 (nmW (kindW p).1 (secW (kindW p).1 (kindW p).2).2).2).1.len
      have h5 := hb (numW 0 8 (nmW (kindW p).1 (secW (kindW p).1 (kindW p).2).2).2).2 (by have := h3.len; omega)
      exact .mk _ _ _ _ _ _ _ h5.1 (Nat.zero_le _) h5.2 n0
    · split
      · unfold ifW
        dsimp only
        have ht := (times_goes (fun q => (expr_steps d q).1) 1 (nmW (kindW p).1 (secW (kindW p).1 (kindW p).2).2).2).len
        generalize (timesW (exprW d) 1 (nmW (kindW p).1 (secW (kindW p).1 (kindW p).2).2).2) = a at *
        have h4 := (is_steps [40] a.2).1.len
        generalize isW [40] a.2 = q1 at *
        have h5 := hb q1 (by have := h3.len; omega)
        have h6 := (block_goes hg q1).len
        generalize blockW (stmtW d) q1 = b1 at *
        have h7 := (is_steps [40] b1.2).1.len
        generalize isW [40] b1.2 = q2 at *
        have h8 := hb q2 (by have := h3.len; omega)
        exact .mk _ _ _ _ _ _ _ h5.1 h8.1 h5.2 h8.2
      · exact .mk _ _ _ _ _ _ _ (Nat.zero_le _) (Nat.zero_le _) n0 n0
structure SmF (f : Fn1) : Prop where
  params : f.params.length ≤ 1201
  arrays : f.arrays.length ≤ 1201
  body : f.body.length ≤ 1201
  all_ : ∀ s ∈ f.body, Sm s
theorem parse_sm (s : List UInt8) : SmF (parseW s).1 := by
  have hz : SmF noFn := ⟨Nat.zero_le _, Nat.zero_le _, Nat.zero_le _, fun s hs => by cases hs⟩
  unfold parseW
  split
  · exact hz
  · rename_i h1
    dsimp only
    have g0 := ((is_steps [40] ⟨s, 0⟩).1.trans (is_steps [102, 110] (isW [40] ⟨s, 0⟩)).1).trans (is_steps [40] (isW [102, 110] (isW [40] ⟨s, 0⟩))).1
    have g1 := g0.len
    generalize isW [40] (isW [102, 110] (isW [40] ⟨s, 0⟩)) = p0 at *
    have l0 : p0.s.length ≤ 1200 := by simp only at g1; omega
    have hp := all_few par_steps (p0.s.length + 1) p0 l0
    have hpg := (all_goes (fun q => (par_steps q).1) (p0.s.length + 1) p0).len
    generalize allW parW (p0.s.length + 1) p0 = ps at *
    have hag := (is_steps [40] ps.2).1.len
    generalize isW [40] ps.2 = p1 at *
    have ha := all_few arr_steps (p1.s.length + 1) p1 (by omega)
    have hag2 := (all_goes (fun q => (arr_steps q).1) (p1.s.length + 1) p1).len
    generalize allW arrW (p1.s.length + 1) p1 = ay at *
    have hb : (blockW (stmtW 9) ay.2).1.length ≤ 1201 ∧ ∀ t ∈ (blockW (stmtW 9) ay.2).1, Sm t := ⟨all_few (stmt_steps 9) _ _ (by omega), all_sm (fun q => (stmt_steps 9 q).1) (stmt_sm 9) _ _ (by omega)⟩
    generalize blockW (stmtW 9) ay.2 = b at *
    generalize (if b.2.err = 0 ∧ peekW b.2.s ≠ [] then b.2.bad 2 else b.2) = p2
    by_cases h2 : p2.err ≠ 0
    · rw [if_pos h2]; exact hz
    · rw [if_neg h2]; exact ⟨hp, ha, hb.1, hb.2⟩
end Ev
