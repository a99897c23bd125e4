import Derived.Test.YtljcgcllhcdleaaRunPlain
/- The run's equations, step by step. -/
namespace Ev
theorem step_two {i : Instr} {k : Nat} {s : St} (h : i.op ≤ 12) : step i k s = ({ s with v := s.v.set i.d.toNat (two i.op (val s.v i.a) (val s.v i.b)) }, some (k + 1)) := by
  unfold step; rw [if_pos h]
theorem step_sel {i : Instr} {k : Nat} {s : St} (h : i.op = 13) : step i k s = ({ s with v := s.v.set i.d.toNat (sel (val s.v i.a) (val s.v i.b) (val s.v i.c)) }, some (k + 1)) := by
  unfold step; rw [if_neg (by omega), if_pos h]
theorem step_const {i : Instr} {k : Nat} {s : St} (h : i.op = 14) : step i k s = ({ s with v := s.v.set i.d.toNat i.imm }, some (k + 1)) := by
  unfold step; rw [if_neg (by omega), if_neg (by omega), if_pos h]
theorem step_move {i : Instr} {k : Nat} {s : St} (h : i.op = 15) : step i k s = ({ s with v := s.v.set i.d.toNat (val s.v i.a) }, some (k + 1)) := by
  unfold step; rw [if_neg (by omega), if_neg (by omega), if_neg (by omega), if_pos h]
theorem step_load {i : Instr} {k : Nat} {s : St} (h : i.op = 16) : step i k s = ({ s with v := s.v.set i.d.toNat (arrAt s.arrs i.b (val s.v i.a)) }, some (k + 1)) := by
  unfold step; rw [if_neg (by omega), if_neg (by omega), if_neg (by omega), if_neg (by omega), if_pos h]
theorem step_store_in {i : Instr} {k : Nat} {s : St} (h : i.op = 17) {a : List Int} (ha : s.arrs[i.b.toNat]? = some a) (hn : val s.v i.a < a.length) :
    step i k s = ({ s with arrs := s.arrs.set i.b.toNat (a.set (val s.v i.a).toNat (val s.v i.d)) }, some (k + 1)) := by
  have e : s.arrs.getD i.b.toNat [] = a := by rw [List.getD_eq_getElem?_getD, ha]; rfl
  unfold step; rw [if_neg (by omega), if_neg (by omega), if_neg (by omega), if_neg (by omega), if_neg (by omega), if_pos h, e, if_pos hn]
theorem step_store_out {i : Instr} {k : Nat} {s : St} (h : i.op = 17) {a : List Int} (ha : s.arrs[i.b.toNat]? = some a) (hn : ¬ val s.v i.a < a.length) : step i k s = (s, some (k + 1)) := by
  have e : s.arrs.getD i.b.toNat [] = a := by rw [List.getD_eq_getElem?_getD, ha]; rfl
  unfold step; rw [if_neg (by omega), if_neg (by omega), if_neg (by omega), if_neg (by omega), if_neg (by omega), if_pos h, e, if_neg hn]
theorem step_jump {i : Instr} {k : Nat} {s : St} (h : i.op = 18) : step i k s = (s, some i.imm.toNat) := by
  unfold step; rw [if_neg (by omega), if_neg (by omega), if_neg (by omega), if_neg (by omega), if_neg (by omega), if_neg (by omega), if_pos h]
theorem step_zero_yes {i : Instr} {k : Nat} {s : St} (h : i.op = 19) (h0 : val s.v i.a = 0) : step i k s = (s, some i.imm.toNat) := by
  unfold step; rw [if_neg (by omega), if_neg (by omega), if_neg (by omega), if_neg (by omega), if_neg (by omega), if_neg (by omega), if_neg (by omega), if_pos h, if_pos h0]
theorem step_zero_no {i : Instr} {k : Nat} {s : St} (h : i.op = 19) (h0 : ¬ val s.v i.a = 0) : step i k s = (s, some (k + 1)) := by
  unfold step; rw [if_neg (by omega), if_neg (by omega), if_neg (by omega), if_neg (by omega), if_neg (by omega), if_neg (by omega), if_neg (by omega), if_pos h, if_neg h0]
theorem step_end {i : Instr} {k : Nat} {s : St} (h : i.op = 20 ∨ i.op = 21) : step i k s = (s, none) := by
  unfold step; rw [if_neg (by omega), if_neg (by omega), if_neg (by omega), if_neg (by omega), if_neg (by omega), if_neg (by omega), if_neg (by omega), if_neg (by omega), if_pos h]
theorem runFrom_on {c : List Instr} {t : List Int} {n k k' : Nat} {i : Instr} {s s' : St} (hi : c[k]? = some i) (h : step i k s = (s', some k')) :
    runFrom c t (n + 1) k s = ((runFrom c t n k' s').1, leak t i k s false :: (runFrom c t n k' s').2) := by
  have e : c.getD k default = i := by rw [List.getD_eq_getElem?_getD, hi]; rfl
  rw [runFrom]
  simp only [e, h]
theorem runFrom_end {c : List Instr} {t : List Int} {n k : Nat} {i : Instr} {s s' : St} (hi : c[k]? = some i) (h : step i k s = (s', none)) :
    runFrom c t (n + 1) k s = (endOf i s', [leak t i k s false]) := by
  have e : c.getD k default = i := by rw [List.getD_eq_getElem?_getD, hi]; rfl
  rw [runFrom]
  simp only [e, h]
/-- the round's plain part -/
theorem round_on {f : Flat} (hr : Right f) {t : List Int} {n k k' : Nat} {i : Instr} {s s' : St} {R : Ended × List Leak} {lk : List Leak} (hi : f.code[k]? = some i) (hF : Fine f s)
    (h1 : (runFrom f.code t (n + 1) k s).1 = R.1) (h2 : lk ++ (runFrom f.code t (n + 1) k s).2 = R.2) (h : step i k s = (s', some k')) :
    (runFrom f.code t n k' s').1 = R.1 ∧ (lk ++ [leak t i k s false]) ++ (runFrom f.code t n k' s').2 = R.2 ∧ Fine f s' ∧ k < k' ∧ k' < f.code.length := by
  rw [runFrom_on hi h] at h1 h2
  have hs := hF.step (hr.sound hi)
  rw [h] at hs
  have ho := step_on hr (s := s) (k' := k') hi (by rw [h])
  exact ⟨h1, by rw [← h2]; simp, hs, ho.1, ho.2⟩
theorem round_end {f : Flat} {t : List Int} {n k : Nat} {i : Instr} {s : St} {R : Ended × List Leak} {lk : List Leak} (hi : f.code[k]? = some i)
    (h1 : (runFrom f.code t (n + 1) k s).1 = R.1) (h2 : lk ++ (runFrom f.code t (n + 1) k s).2 = R.2) (h : i.op = 20 ∨ i.op = 21) : R.1 = endOf i s ∧ R.2 = lk ++ [leak t i k s false] := by
  rw [runFrom_end hi (step_end h)] at h1 h2
  exact ⟨h1.symm, h2.symm⟩
theorem start_fine {f : Flat} {g : Given} (h1 : g.words.length ≤ f.secret.length) (h2 : ∀ x ∈ g.words, Wd x) (h3 : g.arrays.length = f.arrays.length) (h4 : ∀ a ∈ g.arrays, ∀ x ∈ a, Wd x) : Fine f (start f.secret.length g) := by
  refine ⟨by unfold start; simp; omega, fun x hx => ?_, h3, h4⟩
  unfold start at hx
  have := List.mem_of_mem_take hx
  rcases List.mem_append.1 this with h | h
  · exact h2 x h
  · rw [List.mem_replicate] at h
    rw [h.2]
    exact ⟨by decide, by decide⟩
end Ev
