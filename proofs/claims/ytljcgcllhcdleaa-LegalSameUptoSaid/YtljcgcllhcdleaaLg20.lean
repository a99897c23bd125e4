import Derived.Test.YtljcgcllhcdleaaLg19
/- Chapter 8, in plain words: small laws for the walk through legal.Legal. -/
namespace Ev
theorem out_both {m : Mk} {i : Instr} {r : Int × Mk} (h : mkOut m i = some r) : r.2.secret.length + m.code.length = r.2.code.length + m.secret.length := by
  unfold mkOut at h
  have c1 := mulTo_code m i.a i.b 32
  have c2 := divTo_code m i.a i.b 32
  have c3 := shTo_code m i.op i.a i.b 5
  have c4 := less_code m i.a i.b
  split at h
  · injection h with h; subst h; omega
  split at h
  · injection h with h; subst h; simp only; omega
  split at h
  · injection h with h; subst h; simp only; omega
  split at h
  · injection h with h; subst h; omega
  split at h
  · injection h with h; subst h; omega
  split at h
  · injection h with h; subst h; simp [some_code, two_code, num_code]; omega
  split at h
  · injection h with h; subst h; simp [some_code, mask_code, sel_code]; omega
  · cases h
theorem other_bound {m m' : Mk} {i : Instr} (h : mkOther m i = some m') : m'.code.length ≤ m.code.length + 963 ∧ m.code.length + 2 ≤ m'.code.length ∧ m'.secret.length + m.code.length + 1 = m'.code.length + m.secret.length := by
  unfold mkOther at h
  cases hr : mkOut m i with
  | none => rw [hr] at h; cases h
  | some r =>
    rw [hr] at h
    simp only [Option.map_some] at h
    injection h with h
    subst h
    have h1 := out_code hr
    have h2 := out_both hr
    simp [Mk.put]
    omega
theorem drop_at {α : Type} {l : List α} {k : Nat} {i : α} (h : l[k]? = some i) : l.drop k = i :: l.drop (k + 1) := by
  obtain ⟨hlt, rfl⟩ := List.getElem?_eq_some_iff.1 h
  exact List.drop_eq_getElem_cons hlt
theorem lg_put {t : List Int} {i : Instr} {r : List Instr} {m : Mk} {at_ : List Nat} (h : 17 < i.op ∨ mkShows m t i = false) : lgFrom t (i :: r) m at_ = lgFrom t r (m.put i) (at_ ++ [m.code.length]) := by
  conv => lhs; unfold lgFrom
  rw [if_pos h]
theorem lg_no {t : List Int} {i : Instr} {r : List Instr} {m : Mk} {at_ : List Nat} (h : ¬ (17 < i.op ∨ mkShows m t i = false)) (ho : mkOther m i = none) : (lgFrom t (i :: r) m at_).1 = if 12000 < m.code.length then 4 else 11 := by
  unfold lgFrom
  rw [if_neg h, ho]
theorem lg_big {t : List Int} {i : Instr} {r : List Instr} {m m' : Mk} {at_ : List Nat} (h : ¬ (17 < i.op ∨ mkShows m t i = false)) (ho : mkOther m i = some m') (hl : 12000 < m'.code.length) : (lgFrom t (i :: r) m at_).1 = 4 := by
  unfold lgFrom
  rw [if_neg h, ho]
  dsimp only
  rw [if_pos hl]
theorem lg_on {t : List Int} {i : Instr} {r : List Instr} {m m' : Mk} {at_ : List Nat} (h : ¬ (17 < i.op ∨ mkShows m t i = false)) (ho : mkOther m i = some m') (hl : ¬ 12000 < m'.code.length) : lgFrom t (i :: r) m at_ = lgFrom t r m' (at_ ++ [m.code.length]) := by
  conv => lhs; unfold lgFrom
  rw [if_neg h, ho]
  dsimp only
  rw [if_neg hl]
theorem legal_no {f : Flat} {t : List Int} {e : Int} (h : (lgFrom t f.code ⟨[], f.secret⟩ []).1 = e) (he : e ≠ 0) : legal f t = (e, noFlat) := by
  unfold legal legalOf
  rw [h, if_pos he]
end Ev
namespace Ev
/-- the code, whose first j instructions are led to where they are now -/
def relTo (at_ : List Nat) (l : List Instr) (j : Nat) : List Instr := (l.take j).map (reloc at_) ++ l.drop j
theorem relTo_zero (at_ : List Nat) (l : List Instr) : relTo at_ l 0 = l := by unfold relTo; simp
theorem relTo_len (at_ : List Nat) (l : List Instr) (j : Nat) (h : j ≤ l.length) : (relTo at_ l j).length = l.length := by unfold relTo; simp; omega
theorem relTo_end (at_ : List Nat) (l : List Instr) : relTo at_ l l.length = l.map (reloc at_) := by unfold relTo; simp
theorem relTo_at {at_ : List Nat} {l : List Instr} {j : Nat} {x : Instr} (h : l[j]? = some x) : (relTo at_ l j)[j]? = some x := by
  have hl := (List.getElem?_eq_some_iff.1 h).1
  unfold relTo
  rw [List.getElem?_append_right (by simp; omega)]
  simp
  rw [show j + (j - min j l.length) = j by omega]
  exact h
theorem relTo_set {at_ : List Nat} {l : List Instr} {j : Nat} {x : Instr} (h : l[j]? = some x) : (relTo at_ l j).set j (reloc at_ x) = relTo at_ l (j + 1) := by
  have hl := (List.getElem?_eq_some_iff.1 h).1
  have hd := drop_at h
  unfold relTo
  rw [hd, List.set_append_right (h := by simp; omega)]
  simp only [List.length_map, List.length_take]
  rw [show j - min j l.length = 0 by omega, List.set_cons_zero, List.take_add_one, h]
  simp
theorem relTo_same {at_ : List Nat} {l : List Instr} {j : Nat} {x : Instr} (h : l[j]? = some x) (hr : reloc at_ x = x) : relTo at_ l (j + 1) = relTo at_ l j := by
  rw [← relTo_set h, hr]
  have := relTo_at (at_ := at_) h
  obtain ⟨h1, h2⟩ := List.getElem?_eq_some_iff.1 this
  rw [← h2]
  exact List.set_getElem_self h1
/-- of what stands there -/
theorem LgInv.there {f : Flat} {at_ : List Nat} {m : Mk} (h : LgInv f f.code.length at_ m) (hr : Right f) {p : Nat} {x : Instr} (hp : m.code[p]? = some x) : (1 ≤ x.op ∧ x.op ≤ 21) ∧ (∀ q ∈ reads x, InP m.secret q) ∧ (x.op = 18 ∨ x.op = 19 → 0 ≤ x.imm ∧ x.imm < (at_.length : Int)) := by
  have hs := made_at h hr hp
  obtain ⟨e1, e2, e3, e4, e5⟩ := reloc_op at_ x
  refine ⟨by rw [← e1]; exact hs.op, fun q hq => hs.reads q (by rw [reads_reloc]; exact hq), fun hop => ?_⟩
  obtain ⟨j, i, l, q, hj, hi, rfl, hq, hb⟩ := h.cov p x hp
  rcases hb with rfl | ⟨_, _, seg, out, rfl, _, hg, _⟩
  · have hq0 : q = 0 := by
      rcases Nat.eq_zero_or_pos q with h0 | h0
      · exact h0
      · rw [List.getElem?_eq_none (by simp; omega)] at hq; cases hq
    subst hq0
    simp at hq
    subst hq
    have := (hr.sound hi).jump hop
    rw [h.len]
    omega
  · exfalso
    rcases List.mem_append.1 (List.mem_of_getElem? hq) with h1 | h1
    · rcases (hg x h1).1.op with ⟨h2, _⟩ | ⟨h2, _⟩ <;> omega
    · simp at h1
      subst h1
      exact absurd hop (by show ¬ ((15 : Int) = 18 ∨ (15 : Int) = 19); decide)
theorem legal_big {f : Flat} {t : List Int} {at_ : List Nat} {m : Mk} (h : lgFrom t f.code ⟨[], f.secret⟩ [] = (0, at_, m)) (hl : 12000 < m.code.length) : legal f t = (4, noFlat) := by
  unfold legal legalOf
  rw [h]
  dsimp only
  rw [if_neg (by simp), if_pos hl]
theorem legal_shown {f : Flat} {t : List Int} {at_ : List Nat} {m : Mk} (h : lgFrom t f.code ⟨[], f.secret⟩ [] = (0, at_, m)) (hl : ¬ 12000 < m.code.length) {j : Nat} {x : Instr} (hx : m.code[j]? = some x) (h17 : x.op ≤ 17) (hs : mkShows m t x = true) : legal f t = (11, noFlat) := by
  unfold legal legalOf
  rw [h]
  dsimp only
  rw [if_neg (by simp), if_neg hl, if_pos (List.any_eq_true.2 ⟨x, List.mem_of_getElem? hx, by rw [hs, decide_eq_true h17]; rfl⟩)]
theorem legal_done {f : Flat} {t : List Int} {at_ : List Nat} {m : Mk} (h : lgFrom t f.code ⟨[], f.secret⟩ [] = (0, at_, m)) (hl : ¬ 12000 < m.code.length) (hs : ∀ (j : Nat) x, m.code[j]? = some x → x.op ≤ 17 → mkShows m t x = false) : legal f t = (0, made f at_ m) := by
  unfold legal legalOf
  rw [h]
  dsimp only
  rw [if_neg (by simp), if_neg hl, if_neg ?_]
  · rfl
  · intro hany
    obtain ⟨x, hx, h2⟩ := List.any_eq_true.1 hany
    obtain ⟨j, hj, rfl⟩ := List.getElem_of_mem hx
    simp only [Bool.and_eq_true, decide_eq_true_eq] at h2
    rw [hs j _ (List.getElem?_eq_getElem hj) h2.1] at h2
    cases h2.2
end Ev
