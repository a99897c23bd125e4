import Derived.Test.YtpbflgemhcaooaaDoorPt2
/- Chapter 3, plainly: each reader goes on, or fails; loops have rounds enough. -/
namespace Ev
/-- goes on: the text gets no longer, the first fault stays -/
structure Goes (p q : PS) : Prop where
  len : q.s.length ≤ p.s.length
  err : p.err ≠ 0 → q.err = p.err
/-- goes on truly, or fails -/
def Steps (p q : PS) : Prop := Goes p q ∧ (p.err = 0 → q.err ≠ 0 ∨ q.s.length < p.s.length)
theorem Goes.refl (p : PS) : Goes p p := ⟨Nat.le_refl _, fun _ => rfl⟩
theorem Goes.trans {p q r : PS} (h : Goes p q) (k : Goes q r) : Goes p r :=
  ⟨Nat.le_trans k.len h.len, fun e => (k.err (by rw [h.err e]; exact e)).trans (h.err e)⟩
theorem Steps.trans {p q r : PS} (h : Steps p q) (k : Goes q r) : Steps p r := by
  refine ⟨h.1.trans k, fun e => ?_⟩
  by_cases e1 : q.err = 0
  · rcases h.2 e with h1 | h1
    · exact absurd e1 h1
    · exact .inr (Nat.lt_of_le_of_lt k.len h1)
  · left
    rw [k.err e1]
    exact e1
theorem Goes.steps {p q r : PS} (h : Goes p q) (k : Steps q r) : Steps p r := by
  refine ⟨h.trans k.1, fun e => ?_⟩
  by_cases e1 : q.err = 0
  · rcases k.2 e1 with h1 | h1
    · exact .inl h1
    · exact .inr (Nat.lt_of_lt_of_le h1 h.len)
  · left
    rw [k.1.err e1]
    exact e1
theorem goes_bad (p : PS) (e : Int) : Goes p (p.bad e) := by
  unfold PS.bad
  by_cases h : p.err = 0
  · rw [if_pos h]; exact ⟨Nat.le_refl _, fun e => absurd h e⟩
  · rw [if_neg h]; exact Goes.refl p
theorem bad_err (p : PS) (e : Int) (he : e ≠ 0) : (p.bad e).err ≠ 0 := by
  unfold PS.bad
  by_cases h : p.err = 0
  · rw [if_pos h]; exact he
  · rw [if_neg h]; exact h
theorem bad_s (p : PS) (e : Int) : (p.bad e).s = p.s := by
  unfold PS.bad
  by_cases h : p.err = 0
  · rw [if_pos h]
  · rw [if_neg h]
theorem steps_bad (p : PS) (e : Int) (he : e ≠ 0) : Steps p (p.bad e) := ⟨goes_bad p e, fun _ => .inl (bad_err p e he)⟩
theorem skip_le : ∀ s, (skipB s).length ≤ s.length
  | [] => Nat.le_refl _
  | c :: s => by
    unfold skipB
    by_cases h : blank c = true
    · rw [if_pos h]; exact Nat.le_succ_of_le (skip_le s)
    · rw [if_neg h]; exact Nat.le_refl _
theorem goes_skip (p : PS) : Goes p p.skip := ⟨skip_le p.s, fun _ => rfl⟩
theorem run_le : ∀ s, runLen s ≤ s.length
  | [] => Nat.le_refl _
  | c :: s => by
    unfold runLen
    by_cases h : sepc c = true
    · rw [if_pos h]; exact Nat.zero_le _
    · rw [if_neg h]; exact Nat.succ_le_succ (run_le s)
theorem word_le (s : List UInt8) : wordLen s ≤ s.length := by
  unfold wordLen
  by_cases h : runLen s = 0 ∧ s ≠ []
  · rw [if_pos h]
    rcases s with _ | ⟨c, s⟩
    · exact absurd rfl h.2
    · simp
  · rw [if_neg h]; exact run_le s
theorem peek_len (s : List UInt8) : (peekW s).length = wordLen (skipB s) := by
  unfold peekW
  rw [List.length_take]
  exact Nat.min_eq_left (word_le _)
theorem take_steps (p : PS) : Steps p (takeW p).2 := by
  refine ⟨⟨?_, ?_⟩, ?_⟩
  · show ((skipB p.s).drop _).length ≤ _
    rw [List.length_drop]
    have := skip_le p.s
    omega
  · intro e
    show (if peekW p.s = [] then (p.bad 8).err else p.err) = p.err
    split
    · exact (goes_bad p 8).err e
    · rfl
  · intro e
    by_cases h : peekW p.s = []
    · left
      show (if peekW p.s = [] then (p.bad 8).err else p.err) ≠ 0
      rw [if_pos h]
      exact bad_err p 8 (by decide)
    · right
      show ((skipB p.s).drop _).length < _
      rw [List.length_drop]
      have h1 := skip_le p.s
      have h2 : 0 < (peekW p.s).length := List.length_pos_iff.2 h
      have h3 := word_le (skipB p.s)
      rw [peek_len] at h2 ⊢
      omega
theorem is_steps (w : List UInt8) (p : PS) : Steps p (isW w p) := by
  unfold isW
  split
  · exact (take_steps p).trans (goes_bad _ _)
  · exact take_steps p
theorem name_steps (p : PS) : Steps p (nameW p).2 := by
  unfold nameW
  dsimp only
  split
  · exact take_steps p
  · exact (take_steps p).trans (goes_bad _ _)
theorem num_steps (lo hi : Int) (p : PS) : Steps p (numW lo hi p).2 := by
  unfold numW
  dsimp only
  split
  · exact (take_steps p).trans (goes_bad _ _)
  · split
    · exact (take_steps p).trans (goes_bad _ _)
    · exact take_steps p
theorem lab_steps (p : PS) : Steps p (labW p).2 := by
  unfold labW
  split
  · exact take_steps p
  · dsimp only
    split
    · exact take_steps p
    · exact (take_steps p).trans (goes_bad _ _)
theorem times_goes {α : Type} {f : PS → α × PS} (hf : ∀ p, Goes p (f p).2) : ∀ k p, Goes p (timesW f k p).2
  | 0, p => Goes.refl p
  | k + 1, p => (hf p).trans (times_goes hf k _)
theorem expr_steps : ∀ d p, Steps p (exprW d p).2
  | 0, p => by unfold exprW; exact steps_bad p 9 (by decide)
  | d + 1, p => by
    unfold exprW
    dsimp only
    split
    · split
      · exact take_steps p
      · dsimp only
        split
        · exact take_steps p
        · exact (take_steps p).trans (goes_bad _ _)
    · have ht : ∀ k q, Goes q (timesW (exprW d) k q).2 := times_goes (fun q => (expr_steps d q).1)
      have h1 := (take_steps p).trans (take_steps (takeW p).2).1
      split
      · exact (h1.trans (ht _ _)).trans (is_steps _ _).1
      · split
        · exact ((h1.trans (name_steps _).1).trans (ht _ _)).trans (is_steps _ _).1
        · refine (h1.trans ?_).trans (is_steps _ _).1
          split
          · exact (goes_bad _ _).trans (ht _ _)
          · exact ht _ _
theorem all_goes {α : Type} {f : PS → α × PS} (hf : ∀ p, Goes p (f p).2) : ∀ k p, Goes p (allW f k p).2
  | 0, p => (is_steps _ p).1
  | k + 1, p => by
    unfold allW
    split
    · exact ((goes_skip p).trans (hf _)).trans (all_goes hf k _)
    · exact (is_steps _ p).1
/-- with rounds enough it is no matter how many -/
theorem all_fuel {α : Type} {f : PS → α × PS} (hf : ∀ p, Steps p (f p).2) : ∀ (n : Nat) (p : PS) (k j : Nat), p.s.length ≤ n → (p.err = 0 → p.s.length < k) → (p.err = 0 → p.s.length < j) → allW f k p = allW f j p := by
  intro n
  induction n with
  | zero =>
    intro p k j hn hk hj
    have hs : p.s = [] := List.eq_nil_of_length_eq_zero (by omega)
    have base : ∀ m, (p.err = 0 → p.s.length < m) → allW f m p = if p.err = 0 then (((f p.skip).1 :: []), isW [41] (f p.skip).2) else ([], isW [41] p) := by
      intro m hm
      rcases m with _ | m
      · by_cases he : p.err = 0
        · exact absurd (hm he) (by omega)
        · rw [if_neg he]; rfl
      · unfold allW
        by_cases he : p.err = 0
        · have hp : peekW p.s ≠ [41] := by rw [hs]; decide
          rw [if_pos ⟨he, hp⟩, if_pos he]
          have hb : (f p.skip).2.err ≠ 0 := by
            rcases (hf p.skip).2 he with h | h
            · exact h
            · exfalso
              have : p.skip.s.length = 0 := by show (skipB p.s).length = 0; rw [hs]; rfl
              omega
          have hb2 : allW f m (f p.skip).2 = ([], isW [41] (f p.skip).2) := by
            rcases m with _ | m
            · rfl
            · unfold allW
              rw [if_neg (fun h => hb h.1)]
          rw [hb2]
        · rw [if_neg (fun h => he h.1), if_neg he]
    rw [base k hk, base j hj]
  | succ n ih =>
    intro p k j hn hk hj
    by_cases he : p.err = 0
    · obtain ⟨k, rfl⟩ : ∃ k', k = k' + 1 := ⟨k - 1, by have := hk he; omega⟩
      obtain ⟨j, rfl⟩ : ∃ j', j = j' + 1 := ⟨j - 1, by have := hj he; omega⟩
      unfold allW
      split
      · have h2 := hf p.skip
        have h3 := (goes_skip p).len
        have e : allW f k (f p.skip).2 = allW f j (f p.skip).2 := by
          by_cases hb : (f p.skip).2.err = 0
          · have h4 : (f p.skip).2.s.length < p.s.length := by
              rcases h2.2 he with h | h
              · exact absurd hb h
              · omega
            have := hk he
            have := hj he
            exact ih _ k j (by omega) (fun _ => by omega) (fun _ => by omega)
          · have z : ∀ m, allW f m (f p.skip).2 = ([], isW [41] (f p.skip).2) := by
              intro m
              rcases m with _ | m
              · rfl
              · unfold allW
                rw [if_neg (fun h => hb h.1)]
            rw [z, z]
        rw [e]
      · rfl
    · have z : ∀ m, allW f m p = ([], isW [41] p) := by
        intro m
        rcases m with _ | m
        · rfl
        · unfold allW
          rw [if_neg (fun h => he h.1)]
      rw [z, z]
theorem kind_steps (p : PS) : Steps p (kindW p).2 := by
  unfold kindW
  dsimp only
  split
  · exact ((is_steps _ p).trans (take_steps _).1).trans (goes_bad _ _)
  · exact (is_steps _ p).trans (take_steps _).1
theorem sec_goes (k : Int) (p : PS) : Goes p (secW k p).2 := by
  unfold secW
  split
  · exact (lab_steps p).1
  · exact Goes.refl p
theorem nm_goes (k : Int) (p : PS) : Goes p (nmW k p).2 := by
  unfold nmW
  split
  · exact (name_steps p).1
  · exact Goes.refl p
theorem block_goes {f : PS → St1 × PS} (hf : ∀ p, Goes p (f p).2) (p : PS) : Goes p (blockW f p).2 := all_goes hf _ _
theorem for_goes {f : PS → St1 × PS} (hf : ∀ p, Goes p (f p).2) (b : Bool) (n : List UInt8) (p : PS) : Goes p (forW f b n p).2 :=
  (num_steps 0 8 p).1.trans (block_goes hf _)
theorem if_goes {f : PS → St1 × PS} (hf : ∀ p, Goes p (f p).2) (b : Bool) (n : List UInt8) (a : List Ex × PS) : Goes a.2 (ifW f b n a).2 :=
  by
  unfold ifW
  dsimp only
  have h1 := (is_steps [40] a.2).1
  generalize isW [40] a.2 = q1 at *
  have h2 := h1.trans (block_goes hf q1)
  generalize (blockW f q1).2 = q2 at *
  have h3 := h2.trans (is_steps [40] q2).1
  generalize isW [40] q2 = q3 at *
  have h4 := h3.trans (block_goes hf q3)
  generalize (blockW f q3).2 = q4 at *
  exact h4.trans (is_steps [41] q4).1
theorem stmt_steps : ∀ d p, Steps p (stmtW d p).2
  | 0, p => by unfold stmtW; exact steps_bad p 9 (by decide)
  | d + 1, p => by
    have h3 : Steps p (nmW (kindW p).1 (secW (kindW p).1 (kindW p).2).2).2 := ((kind_steps p).trans (sec_goes _ _)).trans (nm_goes _ _)
    have hg : ∀ p, Goes p (stmtW d p).2 := fun q => (stmt_steps d q).1
    have ht : ∀ k q, Goes q (timesW (exprW d) k q).2 := times_goes (fun q => (expr_steps d q).1)
    unfold stmtW
    dsimp only
    split
    · exact h3.trans (for_goes hg _ _ _)
    · split
      · exact (h3.trans (ht _ _)).trans (if_goes hg _ _ _)
      · exact (h3.trans (ht _ _)).trans (is_steps _ _).1
theorem par_steps (p : PS) : Steps p (parW p).2 := by
  unfold parW
  dsimp only
  have h1 := is_steps [40] p
  generalize isW [40] p = q1 at *
  have h2 := h1.trans (lab_steps q1).1
  generalize (labW q1).2 = q2 at *
  have h3 := h2.trans (name_steps q2).1
  generalize (nameW q2).2 = q3 at *
  exact h3.trans (is_steps [41] q3).1
theorem arr_steps (p : PS) : Steps p (arrW p).2 := by
  unfold arrW
  dsimp only
  have h1 := is_steps [40] p
  generalize isW [40] p = q1 at *
  have h2 := h1.trans (lab_steps q1).1
  generalize (labW q1).2 = q2 at *
  have h3 := h2.trans (name_steps q2).1
  generalize (nameW q2).2 = q3 at *
  have h4 := h3.trans (num_steps 1 8 q3).1
  generalize (numW 1 8 q3).2 = q4 at *
  exact h4.trans (is_steps [41] q4).1
end Ev
