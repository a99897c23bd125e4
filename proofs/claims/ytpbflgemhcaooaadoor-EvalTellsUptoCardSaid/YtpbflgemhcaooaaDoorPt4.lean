import Derived.Test.YtpbflgemhcaooaaDoorPt3
/- Chapter 3, plainly: what is read without a fault is formed rightly. -/
namespace Ev
set_option linter.unusedVariables false
/-- an expression that is formed rightly -/
inductive WfE : Ex → Prop
  | num (n : Int) : 0 ≤ n → n < 4294967296 → WfE (.mk 1 n [] [])
  | name (s : List UInt8) : nameOk s = true → WfE (.mk 2 0 s [])
  | op (n : Int) (a b : Ex) : 1 ≤ n → n ≤ 12 → WfE a → WfE b → WfE (.mk 3 n [] [a, b])
  | sel (a b c : Ex) : WfE a → WfE b → WfE c → WfE (.mk 4 0 [] [a, b, c])
  | at (s : List UInt8) (a : Ex) : nameOk s = true → WfE a → WfE (.mk 5 0 s [a])
/-- a statement that is formed rightly -/
inductive WfS : St1 → Prop
  | let_ (s : List UInt8) (b : Bool) (a : Ex) : nameOk s = true → WfE a → WfS (.mk 1 0 s b [a] [] [])
  | set_ (s : List UInt8) (a : Ex) : nameOk s = true → WfE a → WfS (.mk 2 0 s false [a] [] [])
  | put (s : List UInt8) (a c : Ex) : nameOk s = true → WfE a → WfE c → WfS (.mk 3 0 s false [a, c] [] [])
  | if_ (a : Ex) (thn els : List St1) : WfE a → (∀ t ∈ thn, WfS t) → (∀ t ∈ els, WfS t) → WfS (.mk 4 0 [] false [a] thn els)
  | for_ (n : Int) (s : List UInt8) (thn : List St1) : 0 ≤ n → n ≤ 8 → nameOk s = true → (∀ t ∈ thn, WfS t) → WfS (.mk 5 n s false [] thn [])
  | ret (a : Ex) : WfE a → WfS (.mk 6 0 [] false [a] [] [])
structure WfP (p : Par) : Prop where
  name : nameOk p.name = true
  size : p.size = 0
structure WfA (p : Par) : Prop where
  name : nameOk p.name = true
  low : 1 ≤ p.size
  high : p.size ≤ 8
structure WfF (f : Fn1) : Prop where
  params : ∀ p ∈ f.params, WfP p
  arrays : ∀ p ∈ f.arrays, WfA p
  body : ∀ t ∈ f.body, WfS t
theorem Goes.ok {p q : PS} (h : Goes p q) (e : q.err = 0) : p.err = 0 := Decidable.byContradiction fun k => k ((h.err k).symm.trans e)
theorem ok_bad {p : PS} {e : Int} (he : e ≠ 0) (h : (p.bad e).err = 0) : False := bad_err p e he h
theorem name_ok {p : PS} (h : (nameW p).2.err = 0) : nameOk (nameW p).1 = true := by
  unfold nameW at h ⊢
  dsimp only at h ⊢
  split at h
  · assumption
  · exact (ok_bad (by decide) h).elim
theorem num_ok {lo hi : Int} {p : PS} (h : (numW lo hi p).2.err = 0) : lo ≤ (numW lo hi p).1 ∧ (numW lo hi p).1 ≤ hi := by
  unfold numW at h ⊢
  dsimp only at h ⊢
  split at h
  · exact (ok_bad (by decide) h).elim
  · split at h
    · exact (ok_bad (by decide) h).elim
    · omega
theorem sign_in (w : List UInt8) : ∀ k, signTo w k ≤ k
  | 0 => Nat.le_refl _
  | k + 1 => by
    unfold signTo
    split
    · exact Nat.le_refl _
    · exact Nat.le_succ_of_le (sign_in w k)
theorem times_wf {α : Type} {f : PS → α × PS} {R : α → Prop} (hg : ∀ p, Goes p (f p).2) (hf : ∀ p, (f p).2.err = 0 → R (f p).1) : ∀ k p, (timesW f k p).2.err = 0 → (timesW f k p).1.length = k ∧ ∀ x ∈ (timesW f k p).1, R x
  | 0, p, _ => ⟨rfl, fun x hx => by cases hx⟩
  | k + 1, p, h => by
    have h1 := times_wf hg hf k (f p).2 h
    have h2 := hf p ((times_goes hg k (f p).2).ok h)
    unfold timesW
    refine ⟨by simp [h1.1], fun x hx => ?_⟩
    rcases List.mem_cons.1 hx with rfl | hx
    · exact h2
    · exact h1.2 x hx
theorem all_wf {α : Type} {f : PS → α × PS} {R : α → Prop} (hg : ∀ p, Goes p (f p).2) (hf : ∀ p, (f p).2.err = 0 → R (f p).1) : ∀ k p, (allW f k p).2.err = 0 → ∀ x ∈ (allW f k p).1, R x
  | 0, p, _ => fun x hx => by cases hx
  | k + 1, p, h => by
    unfold allW at h ⊢
    split at h
    · rename_i hc
      rw [if_pos hc]
      intro x hx
      rcases List.mem_cons.1 hx with rfl | hx
      · exact hf _ ((all_goes hg k _).ok h)
      · exact all_wf hg hf k _ h x hx
    · rename_i hc
      rw [if_neg hc]
      intro x hx
      cases hx
theorem expr_wf : ∀ d p, (exprW d p).2.err = 0 → WfE (exprW d p).1
  | 0, p, h => by unfold exprW at h; exact (ok_bad (by decide) h).elim
  | d + 1, p, h => by
    have ht : ∀ k q, Goes q (timesW (exprW d) k q).2 := times_goes (fun q => (expr_steps d q).1)
    have hw := times_wf (R := WfE) (fun q => (expr_steps d q).1) (expr_wf d)
    unfold exprW at h ⊢
    dsimp only at h ⊢
    split at h
    · rename_i h1
      rw [if_pos h1]
      split at h
      · rename_i h2
        rw [if_pos h2]
        unfold numOk at h2
        simp only [Bool.and_eq_true, decide_eq_true_eq] at h2
        exact .num _ h2.1.1.2 h2.1.2
      · rename_i h2
        rw [if_neg h2]
        dsimp only at h
        split at h
        · exact .name _ (by assumption)
        · exact (ok_bad (by decide) h).elim
    · rename_i h1
      rw [if_neg h1]
      split at h
      · rename_i h2
        rw [if_pos h2]
        dsimp only at h ⊢
        obtain ⟨hl, hm⟩ := hw 3 _ ((is_steps _ _).1.ok h)
        generalize (timesW (exprW d) 3 (takeW (takeW p).2).2).1 = l at *
        match l, hl, hm with
        | [a, b, c], _, hm => exact .sel a b c (hm a (by simp)) (hm b (by simp)) (hm c (by simp))
      · rename_i h2
        rw [if_neg h2]
        split at h
        · rename_i h3
          rw [if_pos h3]
          dsimp only at h ⊢
          have h4 := (is_steps _ _).1.ok h
          obtain ⟨hl, hm⟩ := hw 1 _ h4
          have h5 := name_ok ((ht _ _).ok h4)
          generalize (timesW (exprW d) 1 (nameW (takeW (takeW p).2).2).2).1 = l at *
          match l, hl, hm with
          | [a], _, hm => exact .at _ a h5 (hm a (by simp))
        · rename_i h3
          rw [if_neg h3]
          dsimp only at h ⊢
          have h4 := (is_steps _ _).1.ok h
          obtain ⟨hl, hm⟩ := hw 2 _ h4
          have h5 := (ht _ _).ok h4
          have h6 : signOf (takeW (takeW p).2).1 ≠ 0 := fun e => by
            rw [if_pos e] at h5
            exact ok_bad (by decide) h5
          have h7 : signOf (takeW (takeW p).2).1 ≤ 12 := sign_in _ 12
          generalize (timesW (exprW d) 2 (if signOf (takeW (takeW p).2).1 = 0 then PS.bad (takeW (takeW p).2).2 1 else (takeW (takeW p).2).2)).1 = l at *
          match l, hl, hm with
          | [a, b], _, hm => exact .op _ a b (by omega) (by omega) (hm a (by simp)) (hm b (by simp))
theorem kind_ok {p : PS} (h : (kindW p).2.err = 0) : (kindW p).1 ≠ 0 := fun e => by
  have e1 : stKind (takeW (isW [40] p)).1 = 0 := e
  have h1 : (if stKind (takeW (isW [40] p)).1 = 0 then (takeW (isW [40] p)).2.bad 1 else (takeW (isW [40] p)).2).err = 0 := h
  rw [if_pos e1] at h1
  exact ok_bad (by decide) h1
theorem kind_any (w : List UInt8) : stKind w = 0 ∨ stKind w = 1 ∨ stKind w = 2 ∨ stKind w = 3 ∨ stKind w = 4 ∨ stKind w = 5 ∨ stKind w = 6 := by
  unfold stKind
  repeat' split
  all_goals simp
theorem stmt_wf : ∀ d p, (stmtW d p).2.err = 0 → WfS (stmtW d p).1
  | 0, p, h => by unfold stmtW at h; exact (ok_bad (by decide) h).elim
  | d + 1, p, h => by
    have hg : ∀ p, Goes p (stmtW d p).2 := fun q => (stmt_steps d q).1
    have ht : ∀ k q, Goes q (timesW (exprW d) k q).2 := times_goes (fun q => (expr_steps d q).1)
    have hw := times_wf (R := WfE) (fun q => (expr_steps d q).1) (expr_wf d)
    have hb : ∀ q, (blockW (stmtW d) q).2.err = 0 → ∀ t ∈ (blockW (stmtW d) q).1, WfS t := fun q => all_wf hg (stmt_wf d) _ q
    have hbg : ∀ q, Goes q (blockW (stmtW d) q).2 := block_goes hg
    have ng := nm_goes (kindW p).1 (secW (kindW p).1 (kindW p).2).2
    have sg := sec_goes (kindW p).1 (kindW p).2
    have kk := kind_any (takeW (isW [40] p)).1
    have k0 := @kind_ok p
    have hk : (kindW p).1 = stKind (takeW (isW [40] p)).1 := rfl
    rw [← hk] at kk
    clear hk
    unfold stmtW at h ⊢
    dsimp only at h ⊢
    have hs : ((kindW p).1 ≠ 1) → (secW (kindW p).1 (kindW p).2).1 = false := fun e => by unfold secW; rw [if_neg e]
    have hn : (nmW (kindW p).1 (secW (kindW p).1 (kindW p).2).2).2.err = 0 → ((kindW p).1 = 1 ∨ (kindW p).1 = 2 ∨ (kindW p).1 = 3 ∨ (kindW p).1 = 5) → nameOk (nmW (kindW p).1 (secW (kindW p).1 (kindW p).2).2).1 = true := fun e o => by
      unfold nmW at e ⊢
      rw [if_pos o] at e ⊢
      exact name_ok e
    have hn0 : ¬ ((kindW p).1 = 1 ∨ (kindW p).1 = 2 ∨ (kindW p).1 = 3 ∨ (kindW p).1 = 5) → (nmW (kindW p).1 (secW (kindW p).1 (kindW p).2).2).1 = [] := fun o => by
      unfold nmW
      rw [if_neg o]
    generalize (nmW (kindW p).1 (secW (kindW p).1 (kindW p).2).2).1 = nm at *
    generalize (nmW (kindW p).1 (secW (kindW p).1 (kindW p).2).2).2 = q3 at *
    generalize (secW (kindW p).1 (kindW p).2).1 = sec at *
    generalize (secW (kindW p).1 (kindW p).2).2 = q2 at *
    generalize (kindW p).1 = k at *
    generalize (kindW p).2 = q1 at *
    split at h
    · rename_i h5
      rw [if_pos h5]
      subst h5
      unfold forW at h ⊢
      dsimp only at h ⊢
      have e1 := (hbg _).ok h
      have e2 := (num_steps 0 8 q3).1.ok e1
      have e3 := num_ok e1
      have hs' := hs (by decide)
      subst hs'
      exact .for_ _ _ _ e3.1 e3.2 (hn e2 (.inr (.inr (.inr rfl)))) (hb _ h)
    · rename_i h5
      rw [if_neg h5]
      split at h
      · rename_i h4
        rw [if_pos h4]
        subst h4
        unfold ifW at h ⊢
        dsimp only at h ⊢
        have hs' := hs (by decide)
        have hn' := hn0 (by decide)
        subst hs' hn'
        have e1 := (is_steps _ _).1.ok h
        have w2 := hb _ e1
        have e2 := (is_steps _ _).1.ok ((hbg _).ok e1)
        have w1 := hb _ e2
        have e3 := (is_steps _ _).1.ok ((hbg _).ok e2)
        obtain ⟨hl, hm⟩ := hw 1 _ e3
        generalize (timesW (exprW d) 1 q3).1 = l at *
        match l, hl, hm with
        | [a], _, hm => exact .if_ a _ _ (hm a (by simp)) w1 w2
      · rename_i h4
        rw [if_neg h4]
        dsimp only at h ⊢
        have e1 := (is_steps _ _).1.ok h
        have e2 := (ht _ _).ok e1
        have e3 := k0 (sg.ok (ng.ok e2))
        obtain ⟨hl, hm⟩ := hw _ _ e1
        generalize (timesW (exprW d) (stArgs k) q3).1 = l at *
        rcases kk with rfl | rfl | rfl | rfl | rfl | rfl | rfl
        · exact absurd rfl e3
        · have := hn e2 (.inl rfl)
          match l, hl, hm with
          | [a], _, hm => exact .let_ _ _ a this (hm a (by simp))
        · have := hn e2 (.inr (.inl rfl))
          have hs' := hs (by decide)
          subst hs'
          match l, hl, hm with
          | [a], _, hm => exact .set_ _ a this (hm a (by simp))
        · have := hn e2 (.inr (.inr (.inl rfl)))
          have hs' := hs (by decide)
          subst hs'
          match l, hl, hm with
          | [a, b], _, hm => exact .put _ a b this (hm a (by simp)) (hm b (by simp))
        · exact absurd rfl h4
        · exact absurd rfl h5
        · have hs' := hs (by decide)
          have hn' := hn0 (by decide)
          subst hs' hn'
          match l, hl, hm with
          | [a], _, hm => exact .ret a (hm a (by simp))
theorem par_wf (p : PS) (h : (parW p).2.err = 0) : WfP (parW p).1 := by
  have h1 : (isW [41] (nameW (labW (isW [40] p)).2).2).err = 0 := h
  have h2 : nameOk (nameW (labW (isW [40] p)).2).1 = true := name_ok ((is_steps [41] (nameW (labW (isW [40] p)).2).2).1.ok h1)
  exact ⟨h2, rfl⟩
theorem arr_wf (p : PS) (h : (arrW p).2.err = 0) : WfA (arrW p).1 := by
  obtain ⟨q1, e1⟩ : ∃ q1, labW (isW [40] p) = q1 := ⟨_, rfl⟩
  obtain ⟨q2, e2⟩ : ∃ q2, nameW q1.2 = q2 := ⟨_, rfl⟩
  obtain ⟨q3, e3⟩ : ∃ q3, numW 1 8 q2.2 = q3 := ⟨_, rfl⟩
  have e : arrW p = (⟨q2.1, q1.1, q3.1⟩, isW [41] q3.2) := by
    rw [← e3, ← e2, ← e1]
    rfl
  rw [e] at h ⊢
  have h1 := (is_steps [41] q3.2).1.ok h
  have h3 : 1 ≤ q3.1 ∧ q3.1 ≤ 8 := by
    rw [← e3] at h1 ⊢
    exact num_ok h1
  have h2 : nameOk q2.1 = true := by
    rw [← e3] at h1
    have h4 := (num_steps 1 8 q2.2).1.ok h1
    rw [← e2] at h4 ⊢
    exact name_ok h4
  exact ⟨h2, h3.1, h3.2⟩
/-- a text's program is formed rightly -/
theorem parse_wf (s : List UInt8) (h : (parseW s).2 = 0) : WfF (parseW s).1 := by
  have hz : WfF noFn := ⟨fun x hx => (by cases hx), fun x hx => (by cases hx), fun x hx => (by cases hx)⟩
  unfold parseW at h ⊢
  split at h
  · rename_i h1
    rw [if_pos h1]
    exact hz
  · rename_i h1
    rw [if_neg h1]
    dsimp only at h ⊢
    generalize isW [40] (isW [102, 110] (isW [40] ⟨s, 0⟩)) = p0 at *
    have hp := all_wf (R := WfP) (fun q => (par_steps q).1) par_wf (p0.s.length + 1) p0
    have hpg := all_goes (fun q => (par_steps q).1) (p0.s.length + 1) p0
    generalize allW parW (p0.s.length + 1) p0 = ps at *
    have hag := (is_steps [40] ps.2).1
    generalize isW [40] ps.2 = p1 at *
    have ha := all_wf (R := WfA) (fun q => (arr_steps q).1) arr_wf (p1.s.length + 1) p1
    have hag2 := all_goes (fun q => (arr_steps q).1) (p1.s.length + 1) p1
    generalize allW arrW (p1.s.length + 1) p1 = ay at *
    have hb := all_wf (R := WfS) (fun q => (stmt_steps 9 q).1) (stmt_wf 9) (ay.2.s.length + 1) ay.2
    have hbg := all_goes (fun q => (stmt_steps 9 q).1) (ay.2.s.length + 1) ay.2
    change (blockW (stmtW 9) ay.2).2.err = 0 → ∀ t ∈ (blockW (stmtW 9) ay.2).1, WfS t at hb
    change Goes ay.2 (blockW (stmtW 9) ay.2).2 at hbg
    generalize blockW (stmtW 9) ay.2 = b at *
    have hc : Goes b.2 (if b.2.err = 0 ∧ peekW b.2.s ≠ [] then b.2.bad 2 else b.2) := by
      split
      · exact goes_bad _ _
      · exact Goes.refl _
    generalize (if b.2.err = 0 ∧ peekW b.2.s ≠ [] then b.2.bad 2 else b.2) = p2 at *
    split at h
    · rename_i h2
      rw [if_pos h2]
      exact hz
    · rename_i h2
      rw [if_neg h2]
      have e2 : p2.err = 0 := Decidable.byContradiction h2
      have e1 := hc.ok e2
      have e0 := hbg.ok e1
      have e9 := hag.ok (hag2.ok e0)
      exact ⟨hp e9, ha e0, hb e1⟩
end Ev
