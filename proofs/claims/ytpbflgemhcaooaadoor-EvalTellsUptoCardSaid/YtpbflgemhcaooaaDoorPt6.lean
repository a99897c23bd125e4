import Derived.Test.YtpbflgemhcaooaaDoorPt5
/- Chapter 4, plainly: how much is counted. -/
namespace Ev
theorem stC_eq (A l : List Par) (dark : Bool) (k : LK) (t : St1) : stC A l dark k t =
    if 300 < k.work + 1 then (([], 4), ⟨k.work + 1, k.lets⟩)
    else if (argsC A l dark t.args).2 ≠ 0 then (([], (argsC A l dark t.args).2), ⟨k.work + 1, k.lets⟩)
    else if t.kind = 4 then
      if (blC A l (dark || (argsC A l dark t.args).1.headD false) ⟨k.work + 1, k.lets⟩ t.thn).1 ≠ 0 then (([], (blC A l (dark || (argsC A l dark t.args).1.headD false) ⟨k.work + 1, k.lets⟩ t.thn).1), (blC A l (dark || (argsC A l dark t.args).1.headD false) ⟨k.work + 1, k.lets⟩ t.thn).2)
      else if (blC A l (dark || (argsC A l dark t.args).1.headD false) (blC A l (dark || (argsC A l dark t.args).1.headD false) ⟨k.work + 1, k.lets⟩ t.thn).2 t.els).1 ≠ 0 then (([], (blC A l (dark || (argsC A l dark t.args).1.headD false) (blC A l (dark || (argsC A l dark t.args).1.headD false) ⟨k.work + 1, k.lets⟩ t.thn).2 t.els).1), (blC A l (dark || (argsC A l dark t.args).1.headD false) (blC A l (dark || (argsC A l dark t.args).1.headD false) ⟨k.work + 1, k.lets⟩ t.thn).2 t.els).2)
      else ((l, 0), (blC A l (dark || (argsC A l dark t.args).1.headD false) (blC A l (dark || (argsC A l dark t.args).1.headD false) ⟨k.work + 1, k.lets⟩ t.thn).2 t.els).2)
    else if t.kind = 5 then
      if 0 ≤ nameI l t.name ∨ 0 ≤ nameI A t.name then (([], 7), ⟨k.work + 1, k.lets⟩)
      else if (timesC (fun k => blC A (l ++ [⟨t.name, false, -1⟩]) dark k t.thn) t.n.toNat ⟨k.work + 1, k.lets⟩).1 ≠ 0 then (([], (timesC (fun k => blC A (l ++ [⟨t.name, false, -1⟩]) dark k t.thn) t.n.toNat ⟨k.work + 1, k.lets⟩).1), (timesC (fun k => blC A (l ++ [⟨t.name, false, -1⟩]) dark k t.thn) t.n.toNat ⟨k.work + 1, k.lets⟩).2)
      else ((l, 0), (timesC (fun k => blC A (l ++ [⟨t.name, false, -1⟩]) dark k t.thn) t.n.toNat ⟨k.work + 1, k.lets⟩).2)
    else oneC A l dark ⟨k.work + 1, k.lets⟩ t.kind t.name t.secret (t.args.headD Ex.none) ((argsC A l dark t.args).1.getD 0 false) ((argsC A l dark t.args).1.getD 1 false) := by
  cases t
  rw [stC]
  rfl
/-- what is counted goes up, but not too far -/
structure Up (k k' : LK) : Prop where
  work : k.work ≤ k'.work
  most : k.work ≤ 300 → k'.work ≤ 300
  lets : k.lets ≤ k'.lets
  few : k.lets ≤ 24 → k'.lets ≤ 24
theorem Up.refl (k : LK) : Up k k := ⟨Int.le_refl _, fun h => h, Int.le_refl _, fun h => h⟩
theorem Up.trans {a b c : LK} (h : Up a b) (k : Up b c) : Up a c := ⟨Int.le_trans h.work k.work, fun e => k.most (h.most e), Int.le_trans h.lets k.lets, fun e => k.few (h.few e)⟩
theorem timesC_up {f : LK → Int × LK} (h : ∀ k, (f k).1 = 0 → Up k (f k).2) : ∀ n k, (timesC f n k).1 = 0 → Up k (timesC f n k).2
  | 0, k, _ => Up.refl k
  | n + 1, k, e => by
    unfold timesC at e ⊢
    by_cases h0 : (f k).1 = 0
    · rw [if_neg (not_not_intro h0)] at e ⊢
      exact (h k h0).trans (timesC_up h n _ e)
    · rw [if_pos h0] at e
      exact absurd e h0
theorem oneC_up {A l : List Par} {dark : Bool} {k : LK} {kind : Int} {nm : List UInt8} {sec : Bool} {a : Ex} {s0 s1 : Bool} (h : (oneC A l dark k kind nm sec a s0 s1).1.2 = 0) : Up k (oneC A l dark k kind nm sec a s0 s1).2 ∧ (oneC A l dark k kind nm sec a s0 s1).1.1.length ≤ l.length + 1 := by
  unfold oneC at h ⊢
  by_cases k1 : kind = 1
  · rw [if_pos k1] at h ⊢
    by_cases e1 : 0 ≤ nameI l nm ∨ 0 ≤ nameI A nm
    · rw [if_pos e1] at h; cases h
    · rw [if_neg e1] at h ⊢
      by_cases e2 : sec = false ∧ (s0 = true ∨ dark = true)
      · rw [if_pos e2] at h; cases h
      · rw [if_neg e2] at h ⊢
        by_cases e3 : 24 < k.lets + 1
        · rw [if_pos e3] at h; cases h
        · rw [if_neg e3]
          exact ⟨⟨Int.le_refl _, fun h => h, by show k.lets ≤ k.lets + 1; omega, fun _ => by show k.lets + 1 ≤ 24; omega⟩, by simp⟩
  · rw [if_neg k1] at h ⊢
    by_cases k2 : kind = 2
    · rw [if_pos k2] at h ⊢
      cases e : findP l nm with
      | none => rw [e] at h; cases h
      | some v =>
        rw [e] at h
        dsimp only at h ⊢
        by_cases e1 : v.size < 0
        · rw [if_pos e1] at h; cases h
        · rw [if_neg e1] at h ⊢
          by_cases e2 : v.secret = false ∧ (s0 = true ∨ dark = true)
          · rw [if_pos e2] at h; cases h
          · rw [if_neg e2]; exact ⟨Up.refl k, Nat.le_succ _⟩
    · rw [if_neg k2] at h ⊢
      by_cases k3 : kind = 3
      · rw [if_pos k3] at h ⊢
        by_cases e1 : (plC A nm a s0 dark).2 = 0
        · rw [if_neg (not_not_intro e1)] at h ⊢
          by_cases e2 : (plC A nm a s0 dark).1 = false ∧ (s1 = true ∨ dark = true)
          · rw [if_pos e2] at h; cases h
          · rw [if_neg e2]; exact ⟨Up.refl k, Nat.le_succ _⟩
        · rw [if_pos e1] at h; exact absurd h e1
      · rw [if_neg k3] at h ⊢
        by_cases e1 : dark = true
        · rw [if_pos e1] at h; cases h
        · rw [if_neg e1]; exact ⟨Up.refl k, Nat.le_succ _⟩
theorem up_one {k : LK} (h : ¬ 300 < k.work + 1) : Up k ⟨k.work + 1, k.lets⟩ := ⟨by show k.work ≤ k.work + 1; omega, fun _ => by show k.work + 1 ≤ 300; omega, Int.le_refl _, fun h => h⟩
mutual
theorem stC_up (A l : List Par) (dark : Bool) (k : LK) : ∀ t, (stC A l dark k t).1.2 = 0 → (Up k (stC A l dark k t).2 ∧ k.work + 1 ≤ (stC A l dark k t).2.work) ∧ (stC A l dark k t).1.1.length ≤ l.length + 1
  | .mk kind n nm sec args thn els => by
    intro h
    rw [stC] at h ⊢
    by_cases e1 : 300 < k.work + 1
    · rw [if_pos e1] at h; cases h
    · rw [if_neg e1] at h ⊢
      have u1 := up_one e1
      by_cases e2 : (argsC A l dark args).2 = 0
      · rw [if_neg (not_not_intro e2)] at h ⊢
        by_cases k4 : kind = 4
        · rw [if_pos k4] at h ⊢
          generalize hd : (dark || (argsC A l dark args).1.headD false) = d2 at h ⊢
          by_cases e3 : (blC A l d2 ⟨k.work + 1, k.lets⟩ thn).1 = 0
          · rw [if_neg (not_not_intro e3)] at h ⊢
            have u2 := blC_up A d2 thn l ⟨k.work + 1, k.lets⟩ e3
            by_cases e4 : (blC A l d2 (blC A l d2 ⟨k.work + 1, k.lets⟩ thn).2 els).1 = 0
            · rw [if_neg (not_not_intro e4)]
              have u3 := blC_up A d2 els l _ e4
              exact ⟨⟨(u1.trans u2).trans u3, (u2.trans u3).work⟩, Nat.le_succ _⟩
            · rw [if_pos e4] at h; exact absurd h e4
          · rw [if_pos e3] at h; exact absurd h e3
        · rw [if_neg k4] at h ⊢
          by_cases k5 : kind = 5
          · rw [if_pos k5] at h ⊢
            by_cases e3 : 0 ≤ nameI l nm ∨ 0 ≤ nameI A nm
            · rw [if_pos e3] at h; cases h
            · rw [if_neg e3] at h ⊢
              by_cases e4 : (timesC (fun k => blC A (l ++ [⟨nm, false, -1⟩]) dark k thn) n.toNat ⟨k.work + 1, k.lets⟩).1 = 0
              · rw [if_neg (not_not_intro e4)]
                have u2 := timesC_up (f := fun k => blC A (l ++ [⟨nm, false, -1⟩]) dark k thn) (fun k e => blC_up A dark thn (l ++ [⟨nm, false, -1⟩]) k e) _ _ e4
                exact ⟨⟨u1.trans u2, u2.work⟩, Nat.le_succ _⟩
              · rw [if_pos e4] at h; exact absurd h e4
          · rw [if_neg k5] at h ⊢
            have u2 := oneC_up h
            exact ⟨⟨u1.trans u2.1, u2.1.work⟩, u2.2⟩
      · rw [if_pos e2] at h; exact absurd h e2
theorem blC_up (A : List Par) (dark : Bool) : ∀ (ts : List St1) (l : List Par) (k : LK), (blC A l dark k ts).1 = 0 → Up k (blC A l dark k ts).2
  | [], l, k, _ => by rw [blC]; exact Up.refl k
  | t :: ts, l, k, h => by
    rw [blC] at h ⊢
    by_cases e : (stC A l dark k t).1.2 = 0
    · rw [if_neg (not_not_intro e)] at h ⊢
      exact (stC_up A l dark k t e).1.1.trans (blC_up A dark ts _ _ h)
    · rw [if_pos e] at h; exact absurd h e
end
/-- a statement that is formed rightly, by its parts -/
structure StOk (t : St1) : Prop where
  args : ∀ a ∈ t.args, WfE a
  thn : ∀ s ∈ t.thn, WfS s
  els : ∀ s ∈ t.els, WfS s
  few : t.args.length ≤ 2
  kinds : (t.kind = 1 ∧ ∃ a, t.args = [a]) ∨ (t.kind = 2 ∧ ∃ a, t.args = [a]) ∨ (t.kind = 3 ∧ ∃ a c, t.args = [a, c]) ∨ (t.kind = 4 ∧ ∃ a, t.args = [a]) ∨ (t.kind = 5 ∧ t.args = [] ∧ 0 ≤ t.n ∧ t.n ≤ 8) ∨ (t.kind = 6 ∧ ∃ a, t.args = [a])
theorem wf_st {t : St1} (h : WfS t) : StOk t := by
  have n0 : ∀ s ∈ ([] : List St1), WfS s := fun s hs => by cases hs
  have one : ∀ {a : Ex}, WfE a → ∀ x ∈ [a], WfE x := fun {a} ha x hx => by
    rw [List.mem_singleton] at hx
    rw [hx]; exact ha
  cases h with
  | let_ s b a h1 h2 => exact ⟨one h2, n0, n0, by show 1 ≤ 2; decide, .inl ⟨rfl, a, rfl⟩⟩
  | set_ s a h1 h2 => exact ⟨one h2, n0, n0, by show 1 ≤ 2; decide, .inr (.inl ⟨rfl, a, rfl⟩)⟩
  | put s a c h1 h2 h3 =>
    refine ⟨fun x hx => ?_, n0, n0, by show 2 ≤ 2; decide, .inr (.inr (.inl ⟨rfl, a, c, rfl⟩))⟩
    simp only [St1.args, List.mem_cons, List.not_mem_nil, or_false] at hx
    rcases hx with rfl | rfl
    · exact h2
    · exact h3
  | if_ a thn els h1 h2 h3 => exact ⟨one h1, h2, h3, by show 1 ≤ 2; decide, .inr (.inr (.inr (.inl ⟨rfl, a, rfl⟩)))⟩
  | for_ n s thn h1 h2 h3 h4 => exact ⟨fun x hx => (by cases hx), h4, n0, by show 0 ≤ 2; decide, .inr (.inr (.inr (.inr (.inl ⟨rfl, rfl, h1, h2⟩))))⟩
  | ret a h1 => exact ⟨one h1, n0, n0, by show 1 ≤ 2; decide, .inr (.inr (.inr (.inr (.inr ⟨rfl, a, rfl⟩))))⟩
end Ev
