import Derived.Test.YtljcgcllhcdleaaFo4
/- Chapter 7, in plain words: right instructions, and one step of a run. -/
namespace Ev
structure Right (f : Flat) : Prop where
  len1 : 1 ≤ f.code.length
  len2 : f.code.length ≤ 12000
  p0 : 0 ≤ f.params
  p1 : f.params ≤ f.secret.length
  at_ : ∀ (k : Nat) i, f.code[k]? = some i → checkAt f k i = 0
  last : lastOp f = 20 ∨ lastOp f = 21 ∨ lastOp f = 18
theorem checkFrom_zero (f : Flat) : ∀ (l : List Instr) (k : Nat), (checkFrom f k l).1 = 0 → ∀ (m : Nat) i, l[m]? = some i → checkAt f (k + m) i = 0
  | [], k, _, m, i, h => by simp at h
  | x :: r, k, h, m, i, hm => by
    unfold checkFrom at h
    by_cases hx : checkAt f k x = 0
    · rw [if_pos hx] at h
      cases m with
      | zero => simp at hm; subst hm; exact hx
      | succ m =>
        have := checkFrom_zero f r (k + 1) h m i (by simpa using hm)
        rw [show k + (m + 1) = k + 1 + m by omega]
        exact this
    · rw [if_neg hx] at h
      exact absurd h hx
theorem right_of_check {f : Flat} (h : (check f).1 = 0) : Right f := by
  unfold check at h
  by_cases h1 : f.code.length < 1 ∨ 12000 < f.code.length ∨ f.params < 0 ∨ f.secret.length < f.params
  · rw [if_pos h1] at h; cases h
  · rw [if_neg h1] at h
    by_cases h2 : (checkFrom f 0 f.code).1 ≠ 0
    · rw [if_pos h2] at h; exact absurd h h2
    · rw [if_neg h2] at h
      by_cases h3 : lastOp f = 20 ∨ lastOp f = 21 ∨ lastOp f = 18
      · exact ⟨by omega, by omega, by omega, by omega, fun k i hk => by
          have := checkFrom_zero f f.code 0 (by omega) k i hk
          simpa using this, h3⟩
      · rw [if_neg h3] at h; cases h
theorem check_of_right {f : Flat} (h : Right f) : check f = (0, -1) := by
  have hz : ∀ (l : List Instr) (k : Nat), (∀ (m : Nat) i, l[m]? = some i → checkAt f (k + m) i = 0) → checkFrom f k l = (0, -1) := by
    intro l
    induction l with
    | nil => intro k _; rfl
    | cons x r ih =>
      intro k hk
      have hx : checkAt f k x = 0 := by simpa using hk 0 x rfl
      unfold checkFrom
      rw [if_pos hx]
      exact ih (k + 1) (fun m i hm => by
        have := hk (m + 1) i (by simpa using hm)
        rw [show k + 1 + m = k + (m + 1) by omega]
        exact this)
  have h0 := hz f.code 0 (fun m i hm => by simpa using h.at_ m i hm)
  have := h.len1
  have := h.len2
  have := h.p0
  have := h.p1
  unfold check
  rw [if_neg (by omega), h0, if_neg (by simp), if_pos h.last]
/-- what a right instruction is -/
structure Sound (f : Flat) (k : Nat) (i : Instr) : Prop where
  op : 1 ≤ i.op ∧ i.op ≤ 21
  reads : ∀ p ∈ reads i, 0 ≤ p ∧ p < (f.secret.length : Int)
  makes : i.op ≤ 16 → 0 ≤ i.d ∧ i.d < (f.secret.length : Int)
  imm : i.op = 14 → 0 ≤ i.imm ∧ i.imm ≤ 4294967295
  arr : i.op = 16 ∨ i.op = 17 → 0 ≤ i.b ∧ i.b < (f.arrays.length : Int)
  jump : i.op = 18 ∨ i.op = 19 → (k : Int) < i.imm ∧ i.imm < (f.code.length : Int)
  labels : secrets f i = false
theorem sound_of {f : Flat} {k : Nat} {i : Instr} (h : checkAt f k i = 0) : Sound f k i := by
  unfold checkAt at h
  by_cases h1 : ¬ (1 ≤ i.op ∧ i.op ≤ 21)
  · rw [if_pos h1] at h; cases h
  rw [if_neg h1] at h
  by_cases h2 : numbers f k i = false
  · rw [if_pos h2] at h; cases h
  rw [if_neg h2] at h
  have hs : secrets f i = false := by
    cases hs : secrets f i with
    | false => rfl
    | true => rw [hs] at h; simp at h
  have h3 : numbers f k i = true := by simpa using h2
  unfold numbers at h3
  rw [Bool.and_eq_true, Bool.and_eq_true, List.all_eq_true] at h3
  obtain ⟨⟨h4, h5⟩, h6⟩ := h3
  refine ⟨by omega, fun p hp => ?_, fun hop => ?_, fun hop => ?_, fun hop => ?_, fun hop => ?_, hs⟩
  · have := h4 p hp; simpa [isPlace] using this
  · have hm : Ev.makes i = true := by unfold Ev.makes; simp; omega
    rw [hm] at h5
    simpa [isPlace] using h5
  · rw [if_pos hop] at h6; simpa [isWord] using h6
  · rw [if_neg (by omega), if_pos hop] at h6; simpa using h6
  · rw [if_neg (by omega), if_neg (by omega), if_pos hop] at h6; simpa using h6
theorem Right.sound {f : Flat} (h : Right f) {k : Nat} {i : Instr} (hk : f.code[k]? = some i) : Sound f k i := sound_of (h.at_ k i hk)
def Wd (x : Int) : Prop := 0 ≤ x ∧ x ≤ 4294967295
/-- a state that a run may come to -/
structure Fine (f : Flat) (s : St) : Prop where
  len : s.v.length = f.secret.length
  word : ∀ x ∈ s.v, Wd x
  alen : s.arrs.length = f.arrays.length
  aword : ∀ a ∈ s.arrs, ∀ x ∈ a, Wd x
theorem two_wd (op a b : Int) : Wd (two op a b) := by
  have : ∀ x y : Nat, x < 4294967296 → y < 4294967296 → twoN op x y < 4294967296 := by
    intro x y hx hy
    unfold twoN
    by_cases h1 : op = 1
    · rw [if_pos h1]; exact Nat.mod_lt _ (by decide)
    rw [if_neg h1]
    by_cases h2 : op = 2
    · rw [if_pos h2]; exact wsub_lt _ _
    rw [if_neg h2]
    by_cases h3 : op = 3
    · rw [if_pos h3]; exact and_lt hx
    rw [if_neg h3]
    by_cases h4 : op = 4
    · rw [if_pos h4]; exact or_lt hx hy
    rw [if_neg h4]
    by_cases h5 : op = 5
    · rw [if_pos h5]; exact xor_lt hx hy
    rw [if_neg h5]
    by_cases h6 : op = 6
    · rw [if_pos h6]; exact Nat.mod_lt _ (by decide)
    rw [if_neg h6]
    by_cases h7 : op = 7
    · rw [if_pos h7]; exact Nat.lt_of_le_of_lt (Nat.div_le_self _ _) hx
    rw [if_neg h7]
    by_cases h8 : op = 8
    · rw [if_pos h8]; exact Nat.mod_lt _ (by decide)
    rw [if_neg h8]
    by_cases h9 : op = 9
    · rw [if_pos h9]
      by_cases h : y = 0
      · rw [if_pos h]; decide
      · rw [if_neg h]; exact Nat.lt_of_le_of_lt (Nat.div_le_self _ _) hx
    rw [if_neg h9]
    by_cases h10 : op = 10
    · rw [if_pos h10]
      by_cases h : y = 0
      · rw [if_pos h]; exact hx
      · rw [if_neg h]; exact Nat.lt_of_le_of_lt (Nat.mod_le _ _) hx
    rw [if_neg h10]
    by_cases h11 : op = 11
    · rw [if_pos h11]
      by_cases h : x < y
      · rw [if_pos h]; decide
      · rw [if_neg h]; decide
    rw [if_neg h11]
    by_cases h12 : op = 12
    · rw [if_pos h12]
      by_cases h : x = y
      · rw [if_pos h]; decide
      · rw [if_neg h]; decide
    rw [if_neg h12]
    decide
  have h := this _ _ (low_lt a) (low_lt b)
  unfold two Wd
  omega
theorem sel_wd (a b c : Int) : Wd (sel a b c) := by
  have := low_lt b
  have := low_lt c
  unfold sel Wd
  split <;> omega
theorem mem_set {α : Type} {l : List α} {k : Nat} {x y : α} (h : y ∈ l.set k x) : y ∈ l ∨ y = x := by
  rcases List.mem_or_eq_of_mem_set h with h | h
  · exact .inl h
  · exact .inr h
theorem Fine.set {f : Flat} {s : St} (h : Fine f s) (k : Nat) {x : Int} (hx : Wd x) : Fine f { s with v := s.v.set k x } :=
  ⟨by simpa using h.len, fun y hy => (mem_set hy).elim (fun hy => h.word y hy) (fun e => by rw [e]; exact hx), h.alen, h.aword⟩
theorem Fine.val {f : Flat} {s : St} (h : Fine f s) (p : Int) : Wd (Ev.val s.v p) := by
  unfold Ev.val
  rw [List.getD_eq_getElem?_getD]
  cases hx : s.v[p.toNat]? with
  | none => exact ⟨by decide, by decide⟩
  | some x => exact h.word x (List.mem_of_getElem? hx)
theorem Fine.arr {f : Flat} {s : St} (h : Fine f s) (b n : Int) : Wd (arrAt s.arrs b n) := by
  unfold arrAt
  split
  · unfold Ev.val
    rw [List.getD_eq_getElem?_getD]
    cases hx : (s.arrs.getD b.toNat [])[n.toNat]? with
    | none => exact ⟨by decide, by decide⟩
    | some x =>
      have hm := List.mem_of_getElem? hx
      rw [List.getD_eq_getElem?_getD] at hm
      cases ha : s.arrs[b.toNat]? with
      | none => rw [ha] at hm; simp at hm
      | some a => rw [ha] at hm; exact h.aword a (List.mem_of_getElem? ha) x hm
  · exact ⟨by decide, by decide⟩
/-- one step leaves a state that may be -/
theorem Fine.step {f : Flat} {k : Nat} {i : Instr} {s : St} (h : Fine f s) (hs : Sound f k i) : Fine f (Ev.step i k s).1 := by
  have hop := hs.op
  unfold Ev.step
  by_cases h12 : i.op ≤ 12
  · rw [if_pos h12]; exact h.set _ (two_wd _ _ _)
  rw [if_neg h12]
  by_cases h13 : i.op = 13
  · rw [if_pos h13]; exact h.set _ (sel_wd _ _ _)
  rw [if_neg h13]
  by_cases h14 : i.op = 14
  · rw [if_pos h14]; exact h.set _ (hs.imm h14)
  rw [if_neg h14]
  by_cases h15 : i.op = 15
  · rw [if_pos h15]; exact h.set _ (h.val _)
  rw [if_neg h15]
  by_cases h16 : i.op = 16
  · rw [if_pos h16]; exact h.set _ (h.arr _ _)
  rw [if_neg h16]
  by_cases h17 : i.op = 17
  · rw [if_pos h17]
    simp only
    split
    · refine ⟨h.len, h.word, by simpa using h.alen, fun a ha x hx => ?_⟩
      rcases mem_set ha with ha | rfl
      · exact h.aword a ha x hx
      · rcases mem_set hx with hx | rfl
        · rw [List.getD_eq_getElem?_getD] at hx
          cases hb : s.arrs[i.b.toNat]? with
          | none => rw [hb] at hx; simp at hx
          | some a => rw [hb] at hx; exact h.aword a (List.mem_of_getElem? hb) x hx
        · exact h.val _
    · exact h
  rw [if_neg h17]
  by_cases h18 : i.op = 18
  · rw [if_pos h18]; exact h
  rw [if_neg h18]
  by_cases h19 : i.op = 19
  · rw [if_pos h19]; exact h
  rw [if_neg h19, if_pos (by omega)]
  exact h
/-- where it goes on -/
theorem step_on {f : Flat} (hr : Right f) {k k' : Nat} {i : Instr} {s : St} (hk : f.code[k]? = some i) (h : (Ev.step i k s).2 = some k') : k < k' ∧ k' < f.code.length := by
  have hs := hr.sound hk
  have hop := hs.op
  have hlt : k < f.code.length := (List.getElem?_eq_some_iff.1 hk).1
  have hlast : i.op ≠ 20 → i.op ≠ 21 → i.op ≠ 18 → k + 1 < f.code.length := by
    intro h1 h2 h3
    rcases Nat.lt_or_ge (k + 1) f.code.length with h4 | h4
    · exact h4
    · exfalso
      have : f.code.length - 1 = k := by omega
      have hl := hr.last
      unfold lastOp at hl
      rw [this, List.getD_eq_getElem?_getD, hk] at hl
      simp only [Option.getD_some] at hl
      omega
  unfold Ev.step at h
  by_cases h12 : i.op ≤ 12
  · rw [if_pos h12] at h; simp at h; have := hlast (by omega) (by omega) (by omega); omega
  rw [if_neg h12] at h
  by_cases h13 : i.op = 13
  · rw [if_pos h13] at h; simp at h; have := hlast (by omega) (by omega) (by omega); omega
  rw [if_neg h13] at h
  by_cases h14 : i.op = 14
  · rw [if_pos h14] at h; simp at h; have := hlast (by omega) (by omega) (by omega); omega
  rw [if_neg h14] at h
  by_cases h15 : i.op = 15
  · rw [if_pos h15] at h; simp at h; have := hlast (by omega) (by omega) (by omega); omega
  rw [if_neg h15] at h
  by_cases h16 : i.op = 16
  · rw [if_pos h16] at h; simp at h; have := hlast (by omega) (by omega) (by omega); omega
  rw [if_neg h16] at h
  by_cases h17 : i.op = 17
  · rw [if_pos h17] at h; simp at h; have := hlast (by omega) (by omega) (by omega); omega
  rw [if_neg h17] at h
  by_cases h18 : i.op = 18
  · rw [if_pos h18] at h; simp at h; have := hs.jump (.inl h18); omega
  rw [if_neg h18] at h
  by_cases h19 : i.op = 19
  · rw [if_pos h19] at h
    simp at h
    have := hs.jump (.inr h19)
    have := hlast (by omega) (by omega) (by omega)
    split at h <;> omega
  rw [if_neg h19, if_pos (by omega)] at h
  cases h
theorem wrongFrom_zero (t : List Int) : ∀ (n k : Nat), wrongFrom t n k = 0 → ∀ m, m < n → subBits (seenOf t ((k + m : Nat) : Int)) (most ((k + m : Nat) : Int)) = true
  | 0, k, _, m, hm => absurd hm (by omega)
  | n + 1, k, h, m, hm => by
    unfold wrongFrom at h
    by_cases hx : subBits (seenOf t (k : Int)) (most (k : Int)) = true
    · rw [if_pos hx] at h
      cases m with
      | zero => exact hx
      | succ m =>
        have := wrongFrom_zero t n (k + 1) h m (by omega)
        rw [show k + (m + 1) = k + 1 + m by omega]
        exact this
    · rw [if_neg hx] at h; cases h
theorem table_bits {t : List Int} (h : wrong t = 0) {op : Int} (h1 : 1 ≤ op) (h17 : op ≤ 17) : subBits (seenOf t op) (most op) = true := by
  unfold wrong at h
  by_cases h0 : seenOf t 0 ≠ 0
  · rw [if_pos h0] at h; cases h
  · rw [if_neg h0] at h
    have := wrongFrom_zero t 17 1 h (op.toNat - 1) (by omega)
    rw [show ((1 + (op.toNat - 1) : Nat) : Int) = op by omega] at this
    exact this
theorem sub_small {n m : Int} (hm : m = 0 ∨ m = 1 ∨ m = 3 ∨ m = 7) (h : subBits n m = true) : (0 ≤ n ∧ n ≤ 7) ∧ ∀ k, k < 3 → hasBit n k = true → hasBit m k = true := by
  unfold subBits at h
  rw [Bool.and_eq_true, decide_eq_true_eq, beq_iff_eq] at h
  obtain ⟨h0, h⟩ := h
  obtain ⟨j, rfl⟩ : ∃ j : Nat, n = j := ⟨n.toNat, by omega⟩
  have hle : j ≤ m.toNat := by
    rw [← h]
    exact Nat.left_le_or
  have hj : j < 8 := by omega
  refine ⟨by omega, ?_⟩
  simp only [Int.toNat_natCast] at h
  clear h0 hle
  rcases hm with rfl | rfl | rfl | rfl <;> (revert h; revert j; decide)
end Ev
namespace Go.Proofs.Ytljcgcllhcdleaa
/-- by a right table only what is read is seen -/
theorem seenIn_right {t : List Int} (ht : Ev.wrong t = 0) {i : Ev.Instr} {n : Nat} (h1 : 1 ≤ i.op) (hr : ∀ p ∈ Ev.reads i, inR n p) : SeenIn i n (whichOf t i.op false) := by
  have h19 : i.op = 19 → inR n i.a := fun h => hr _ (by unfold Ev.reads; rw [if_neg (by omega), if_neg (by omega), if_neg (by omega), if_pos (by omega)]; simp)
  by_cases h17 : i.op ≤ 17
  · have hw : whichOf t i.op false = Ev.seenOf t i.op := by unfold whichOf; rw [if_neg (by decide), if_pos h17]
    rw [hw]
    have hb := Ev.table_bits ht h1 h17
    have hm : Ev.most i.op = 0 ∨ Ev.most i.op = 1 ∨ Ev.most i.op = 3 ∨ Ev.most i.op = 7 := by
      unfold Ev.most Ev.all
      repeat' split
      all_goals simp
    obtain ⟨h2, h3⟩ := Ev.sub_small hm hb
    refine ⟨h2, fun k hk hbit => ?_, h19⟩
    have hmb := h3 k hk hbit
    have b0 : ∀ k, k < 3 → Ev.hasBit 0 k = true → False := by decide
    have b1 : ∀ k, k < 3 → Ev.hasBit 1 k = true → k = 0 := by decide
    have b3 : ∀ k, k < 3 → Ev.hasBit 3 k = true → k = 0 ∨ k = 1 := by decide
    by_cases c1 : i.op ≤ 12
    · have e : Ev.most i.op = 3 := by unfold Ev.most Ev.all; rw [if_neg (by omega), if_pos (by omega)]
      have er : Ev.reads i = [i.a, i.b] := by unfold Ev.reads; rw [if_pos (by omega)]
      rw [e] at hmb
      refine ⟨fun h => by omega, fun _ _ => ?_⟩
      rcases b3 k hk hmb with rfl | rfl
      · exact hr _ (by rw [er]; simp [placeOf])
      · exact hr _ (by rw [er]; simp [placeOf])
    by_cases c2 : i.op = 13
    · have er : Ev.reads i = [i.a, i.b, i.c] := by unfold Ev.reads; rw [if_neg (by omega), if_pos c2]
      refine ⟨fun h => by omega, fun _ _ => ?_⟩
      rcases (show k = 0 ∨ k = 1 ∨ k = 2 by omega) with rfl | rfl | rfl <;> exact hr _ (by rw [er]; simp [placeOf])
    by_cases c3 : i.op = 14
    · have e : Ev.most i.op = 0 := by unfold Ev.most Ev.all; rw [if_neg (by omega), if_neg (by omega), if_neg (by omega), if_neg (by omega), if_neg (by omega), if_neg (by omega)]
      rw [e] at hmb
      exact absurd hmb (fun h => b0 k hk h)
    by_cases c4 : i.op = 17
    · have e : Ev.most i.op = 3 := by unfold Ev.most Ev.all; rw [if_neg (by omega), if_neg (by omega), if_neg (by omega), if_neg (by omega), if_neg (by omega), if_pos (by omega)]
      have er : Ev.reads i = [i.a, i.d] := by unfold Ev.reads; rw [if_neg (by omega), if_neg (by omega), if_pos c4]
      rw [e] at hmb
      refine ⟨fun h => hr _ (by rw [er]; simp), fun h _ => ?_⟩
      rcases b3 k hk hmb with rfl | rfl
      · exact hr _ (by rw [er]; simp [placeOf])
      · exact absurd ⟨c4, rfl⟩ h
    · have e : Ev.most i.op = 1 := by
        unfold Ev.most Ev.all
        by_cases c5 : i.op = 16
        · rw [if_pos c5]
        · rw [if_neg c5, if_neg (by omega), if_neg (by omega), if_pos (by omega)]
      have er : Ev.reads i = [i.a] := by unfold Ev.reads; rw [if_neg (by omega), if_neg (by omega), if_neg (by omega), if_pos (by omega)]
      rw [e] at hmb
      have := b1 k hk hmb
      subst this
      exact ⟨fun h => by omega, fun _ _ => hr _ (by rw [er]; simp [placeOf])⟩
  · have hw : whichOf t i.op false = 0 := by unfold whichOf; rw [if_neg (by decide), if_neg h17]
    rw [hw]
    exact ⟨by omega, fun k hk h => False.elim ((by decide : ∀ k, k < 3 → Ev.hasBit 0 k = true → False) k hk h), h19⟩
end Go.Proofs.Ytljcgcllhcdleaa
/- The run's equations, step by step. -/
namespace Ev
theorem step_two {i : Instr} {k : Nat} {s : St} (h : i.op ≤ 12) : step i k s = ({ s with v := s.v.set i.d.toNat (two i.op (val s.v i.a) (val s.v i.b)) }, some (k + 1)) := by
  unfold step; rw [if_pos h]
theorem step_sel {i : Instr} {k : Nat} {s : St} (h : i.op = 13) : step i k s = ({ s with v := s.v.set i.d.toNat (sel (val s.v i.a) (val s.v i.b) (val s.v i.c)) }, some (k + 1)) := by
  unfold step; rw [if_neg (by omega), if_pos h]
theorem step_const {i : Instr} {k : Nat} {s : St} (h : i.op = 14) : step i k s = ({ s with v := s.v.set i.d.toNat i.imm }, some (k + 1)) := by
  unfold step; rw [if_neg (by omega), if_neg (by omega), if_pos h]
theorem step_move {i : Instr} {k : Nat} {s : St} (h : i.op = 15) : step i k s = ({ s with v := s.v.set i.d.toNat (val s.v i.a) }, some (k + 1)) := by
  unfold step; rw [if_neg (by omega), if_neg (by omega), if_neg (by omega), if_pos h]
theorem step_load {i : Instr} {k : Nat} {s : St} (h : i.op = 16) : step i k s = ({ s with v := s.v.set i.d.toNat (arrAt s.arrs i.b (val s.v i.a)) }, some (k + 1)) := by
  unfold step; rw [if_neg (by omega), if_neg (by omega), if_neg (by omega), if_neg (by omega), if_pos h]
theorem step_store_in {i : Instr} {k : Nat} {s : St} (h : i.op = 17) {a : List Int} (ha : s.arrs[i.b.toNat]? = some a) (hn : val s.v i.a < a.length) :
    step i k s = ({ s with arrs := s.arrs.set i.b.toNat (a.set (val s.v i.a).toNat (val s.v i.d)) }, some (k + 1)) := by
  have e : s.arrs.getD i.b.toNat [] = a := by rw [List.getD_eq_getElem?_getD, ha]; rfl
  unfold step; rw [if_neg (by omega), if_neg (by omega), if_neg (by omega), if_neg (by omega), if_neg (by omega), if_pos h, e, if_pos hn]
theorem step_store_out {i : Instr} {k : Nat} {s : St} (h : i.op = 17) {a : List Int} (ha : s.arrs[i.b.toNat]? = some a) (hn : ¬ val s.v i.a < a.length) : step i k s = (s, some (k + 1)) := by
  have e : s.arrs.getD i.b.toNat [] = a := by rw [List.getD_eq_getElem?_getD, ha]; rfl
  unfold step; rw [if_neg (by omega), if_neg (by omega), if_neg (by omega), if_neg (by omega), if_neg (by omega), if_pos h, e, if_neg hn]
theorem step_jump {i : Instr} {k : Nat} {s : St} (h : i.op = 18) : step i k s = (s, some i.imm.toNat) := by
  unfold step; rw [if_neg (by omega), if_neg (by omega), if_neg (by omega), if_neg (by omega), if_neg (by omega), if_neg (by omega), if_pos h]
theorem step_zero_yes {i : Instr} {k : Nat} {s : St} (h : i.op = 19) (h0 : val s.v i.a = 0) : step i k s = (s, some i.imm.toNat) := by
  unfold step; rw [if_neg (by omega), if_neg (by omega), if_neg (by omega), if_neg (by omega), if_neg (by omega), if_neg (by omega), if_neg (by omega), if_pos h, if_pos h0]
theorem step_zero_no {i : Instr} {k : Nat} {s : St} (h : i.op = 19) (h0 : ¬ val s.v i.a = 0) : step i k s = (s, some (k + 1)) := by
  unfold step; rw [if_neg (by omega), if_neg (by omega), if_neg (by omega), if_neg (by omega), if_neg (by omega), if_neg (by omega), if_neg (by omega), if_pos h, if_neg h0]
theorem step_end {i : Instr} {k : Nat} {s : St} (h : i.op = 20 ∨ i.op = 21) : step i k s = (s, none) := by
  unfold step; rw [if_neg (by omega), if_neg (by omega), if_neg (by omega), if_neg (by omega), if_neg (by omega), if_neg (by omega), if_neg (by omega), if_neg (by omega), if_pos h]
theorem runFrom_on {c : List Instr} {t : List Int} {n k k' : Nat} {i : Instr} {s s' : St} (hi : c[k]? = some i) (h : step i k s = (s', some k')) :
    runFrom c t (n + 1) k s = ((runFrom c t n k' s').1, leak t i k s false :: (runFrom c t n k' s').2) := by
  have e : c.getD k default = i := by rw [List.getD_eq_getElem?_getD, hi]; rfl
  rw [runFrom]
  simp only [e, h]
theorem runFrom_end {c : List Instr} {t : List Int} {n k : Nat} {i : Instr} {s s' : St} (hi : c[k]? = some i) (h : step i k s = (s', none)) :
    runFrom c t (n + 1) k s = (endOf i s', [leak t i k s false]) := by
  have e : c.getD k default = i := by rw [List.getD_eq_getElem?_getD, hi]; rfl
  rw [runFrom]
  simp only [e, h]
/-- the round's plain part -/
theorem round_on {f : Flat} (hr : Right f) {t : List Int} {n k k' : Nat} {i : Instr} {s s' : St} {R : Ended × List Leak} {lk : List Leak} (hi : f.code[k]? = some i) (hF : Fine f s)
    (h1 : (runFrom f.code t (n + 1) k s).1 = R.1) (h2 : lk ++ (runFrom f.code t (n + 1) k s).2 = R.2) (h : step i k s = (s', some k')) :
    (runFrom f.code t n k' s').1 = R.1 ∧ (lk ++ [leak t i k s false]) ++ (runFrom f.code t n k' s').2 = R.2 ∧ Fine f s' ∧ k < k' ∧ k' < f.code.length := by
  rw [runFrom_on hi h] at h1 h2
  have hs := hF.step (hr.sound hi)
  rw [h] at hs
  have ho := step_on hr (s := s) (k' := k') hi (by rw [h])
  exact ⟨h1, by rw [← h2]; simp, hs, ho.1, ho.2⟩
theorem round_end {f : Flat} {t : List Int} {n k : Nat} {i : Instr} {s : St} {R : Ended × List Leak} {lk : List Leak} (hi : f.code[k]? = some i)
    (h1 : (runFrom f.code t (n + 1) k s).1 = R.1) (h2 : lk ++ (runFrom f.code t (n + 1) k s).2 = R.2) (h : i.op = 20 ∨ i.op = 21) : R.1 = endOf i s ∧ R.2 = lk ++ [leak t i k s false] := by
  rw [runFrom_end hi (step_end h)] at h1 h2
  exact ⟨h1.symm, h2.symm⟩
theorem start_fine {f : Flat} {g : Given} (h1 : g.words.length ≤ f.secret.length) (h2 : ∀ x ∈ g.words, Wd x) (h3 : g.arrays.length = f.arrays.length) (h4 : ∀ a ∈ g.arrays, ∀ x ∈ a, Wd x) : Fine f (start f.secret.length g) := by
  refine ⟨by unfold start; simp; omega, fun x hx => ?_, h3, h4⟩
  unfold start at hx
  have := List.mem_of_mem_take hx
  rcases List.mem_append.1 this with h | h
  · exact h2 x h
  · rw [List.mem_replicate] at h
    rw [h.2]
    exact ⟨by decide, by decide⟩
end Ev
/- Chapter 7, the plain law: two runs of right flat instructions that are given the same, but for what is secret, go the same way; where nothing secret is shown all that is seen is the same. -/
namespace Ev
/-- the same, but for what is secret -/
structure Low (f : Flat) (s u : St) : Prop where
  v : ∀ p : Nat, f.secret.getD p false = false → s.v.getD p 0 = u.v.getD p 0
  len : ∀ b : Nat, (s.arrs.getD b []).length = (u.arrs.getD b []).length
  arr : ∀ b : Nat, (f.arrays.getD b default).secret = false → s.arrs.getD b [] = u.arrs.getD b []
theorem Low.val {f : Flat} {s u : St} (h : Low f s u) {p : Int} (hp : sec f.secret p = false) : val s.v p = val u.v p := h.v _ hp
theorem getD_set_nat {α : Type} (l : List α) (k p : Nat) (x d : α) : (l.set k x).getD p d = if k = p ∧ p < l.length then x else l.getD p d := by
  rw [List.getD_eq_getElem?_getD, List.getD_eq_getElem?_getD, List.getElem?_set]
  by_cases hk : k = p
  · subst hk
    by_cases hl : k < l.length
    · simp [hl]
    · simp [hl]
  · simp [hk]
theorem Low.set {f : Flat} {s u : St} (h : Low f s u) (hl : s.v.length = u.v.length) (d : Int) (x y : Int) (hxy : sec f.secret d = false → x = y) : Low f { s with v := s.v.set d.toNat x } { u with v := u.v.set d.toNat y } := by
  refine ⟨fun p hp => ?_, h.len, h.arr⟩
  show (s.v.set d.toNat x).getD p 0 = (u.v.set d.toNat y).getD p 0
  rw [getD_set_nat, getD_set_nat, hl]
  by_cases hd : d.toNat = p ∧ p < u.v.length
  · rw [if_pos hd, if_pos hd]
    exact hxy (by unfold sec; rw [hd.1]; exact hp)
  · rw [if_neg hd, if_neg hd]
    exact h.v p hp
theorem Low.store {f : Flat} {s u : St} (h : Low f s u) (ha : s.arrs.length = u.arrs.length) (b : Int) (n : Nat) (x y : Int) (hxy : arrSec f.arrays b = false → x = y) :
    Low f { s with arrs := s.arrs.set b.toNat ((s.arrs.getD b.toNat []).set n x) } { u with arrs := u.arrs.set b.toNat ((u.arrs.getD b.toNat []).set n y) } := by
  refine ⟨h.v, fun c => ?_, fun c hc => ?_⟩
  · show ((s.arrs.set _ _).getD c []).length = ((u.arrs.set _ _).getD c []).length
    rw [getD_set_nat, getD_set_nat, ha]
    by_cases hd : b.toNat = c ∧ c < u.arrs.length
    · rw [if_pos hd, if_pos hd, List.length_set, List.length_set]; exact h.len _
    · rw [if_neg hd, if_neg hd]; exact h.len c
  · show (s.arrs.set _ _).getD c [] = (u.arrs.set _ _).getD c []
    rw [getD_set_nat, getD_set_nat, ha]
    by_cases hd : b.toNat = c ∧ c < u.arrs.length
    · rw [if_pos hd, if_pos hd]
      obtain ⟨rfl, _⟩ := hd
      rw [h.arr _ hc, hxy hc]
    · rw [if_neg hd, if_neg hd]; exact h.arr c hc
theorem pub_reads {f : Flat} {k : Nat} {i : Instr} (h : Sound f k i) (h15 : i.op ≤ 15) : sec f.secret i.d = false → ∀ p ∈ reads i, sec f.secret p = false := by
  intro hd p hp
  have hl := h.labels
  unfold secrets at hl
  rw [if_neg (by omega), if_neg (by omega), if_neg (by omega), if_neg (by omega), hd] at hl
  simp at hl
  exact hl p hp
theorem step_store {i : Instr} {k : Nat} {s : St} (h : i.op = 17) : step i k s =
    ((if val s.v i.a < (s.arrs.getD i.b.toNat []).length then { s with arrs := s.arrs.set i.b.toNat ((s.arrs.getD i.b.toNat []).set (val s.v i.a).toNat (val s.v i.d)) } else s), some (k + 1)) := by
  unfold step; rw [if_neg (by omega), if_neg (by omega), if_neg (by omega), if_neg (by omega), if_neg (by omega), if_pos h]
theorem seen_most {t : List Int} {i : Instr} (v : List Int) (h19 : ¬ i.op = 19) (h17 : 1 ≤ i.op ∧ i.op ≤ 17) : seen t i v false =
    (if hasBit (seenOf t i.op) 0 then [val v i.a] else []) ++ (if hasBit (seenOf t i.op) 1 then (if i.op = 17 then [val v i.d] else if i.op = 16 then [] else [val v i.b]) else []) ++ (if hasBit (seenOf t i.op) 2 then [val v i.c] else []) := by
  unfold seen; rw [if_neg h19, if_neg (fun hh => hh h17)]; rfl
theorem seen_none {t : List Int} {i : Instr} (v : List Int) (h19 : ¬ i.op = 19) (h17 : ¬ (1 ≤ i.op ∧ i.op ≤ 17)) : seen t i v false = [] := by
  unfold seen; rw [if_neg h19, if_pos h17]
theorem low_step {f : Flat} {k : Nat} {i : Instr} {s u : St} (h : Low f s u) (hi : Sound f k i) (hs : Fine f s) (hu : Fine f u) : (step i k s).2 = (step i k u).2 ∧ Low f (step i k s).1 (step i k u).1 := by
  have hl : s.v.length = u.v.length := hs.len.trans hu.len.symm
  have ha : s.arrs.length = u.arrs.length := hs.alen.trans hu.alen.symm
  have hop := hi.op
  have hlab := hi.labels
  rcases (show i.op ≤ 12 ∨ i.op = 13 ∨ i.op = 14 ∨ i.op = 15 ∨ i.op = 16 ∨ i.op = 17 ∨ i.op = 18 ∨ i.op = 19 ∨ (i.op = 20 ∨ i.op = 21) by omega) with h1 | h1 | h1 | h1 | h1 | h1 | h1 | h1 | h1
  · rw [step_two h1, step_two h1]
    refine ⟨rfl, h.set hl _ _ _ fun hd => ?_⟩
    have hr := pub_reads hi (by omega) hd
    have e : reads i = [i.a, i.b] := by unfold reads; rw [if_pos (by omega)]
    rw [e] at hr
    rw [h.val (hr i.a (by simp)), h.val (hr i.b (by simp))]
  · rw [step_sel h1, step_sel h1]
    refine ⟨rfl, h.set hl _ _ _ fun hd => ?_⟩
    have hr := pub_reads hi (by omega) hd
    have e : reads i = [i.a, i.b, i.c] := by unfold reads; rw [if_neg (by omega), if_pos h1]
    rw [e] at hr
    rw [h.val (hr i.a (by simp)), h.val (hr i.b (by simp)), h.val (hr i.c (by simp))]
  · rw [step_const h1, step_const h1]
    exact ⟨rfl, h.set hl _ _ _ fun _ => rfl⟩
  · rw [step_move h1, step_move h1]
    refine ⟨rfl, h.set hl _ _ _ fun hd => ?_⟩
    have hr := pub_reads hi (by omega) hd
    have e : reads i = [i.a] := by unfold reads; rw [if_neg (by omega), if_neg (by omega), if_neg (by omega), if_pos (by omega)]
    rw [e] at hr
    rw [h.val (hr i.a (by simp))]
  · rw [step_load h1, step_load h1]
    unfold secrets at hlab
    rw [if_pos h1] at hlab
    simp at hlab
    refine ⟨rfl, h.set hl _ _ _ fun hd => ?_⟩
    have hb : arrSec f.arrays i.b = false := by
      cases hb : arrSec f.arrays i.b with
      | false => rfl
      | true => have := hlab.2 hb; rw [hd] at this; cases this
    rw [h.val hlab.1]
    unfold arrAt
    rw [h.arr _ hb]
  · unfold secrets at hlab
    rw [if_neg (by omega), if_pos h1] at hlab
    simp at hlab
    have hva := h.val hlab.1
    rw [step_store h1, step_store h1]
    refine ⟨rfl, ?_⟩
    dsimp only
    rw [← hva, ← h.len]
    by_cases hn : val s.v i.a < (s.arrs.getD i.b.toNat []).length
    · rw [if_pos hn, if_pos hn]
      refine h.store ha _ _ _ _ fun hb => ?_
      have hd : sec f.secret i.d = false := by
        cases hd : sec f.secret i.d with
        | false => rfl
        | true => have := hlab.2 hd; rw [hb] at this; cases this
      exact h.val hd
    · rw [if_neg hn, if_neg hn]; exact h
  · rw [step_jump h1, step_jump h1]; exact ⟨rfl, h⟩
  · unfold secrets at hlab
    rw [if_neg (by omega), if_neg (by omega), if_pos h1] at hlab
    have hva := h.val hlab
    by_cases h0 : val s.v i.a = 0
    · rw [step_zero_yes h1 h0, step_zero_yes h1 (by rw [← hva]; exact h0)]; exact ⟨rfl, h⟩
    · rw [step_zero_no h1 h0, step_zero_no h1 (by rw [← hva]; exact h0)]; exact ⟨rfl, h⟩
  · rw [step_end h1, step_end h1]; exact ⟨rfl, h⟩
/-- does an instruction show what is secret, by a table? -/
def shows (f : Flat) (t : List Int) (i : Instr) : Bool :=
  decide (1 ≤ i.op ∧ i.op ≤ 17) && ((hasBit (seenOf t i.op) 0 && sec f.secret i.a) || (hasBit (seenOf t i.op) 1 && !decide (i.op = 16) && sec f.secret (if i.op = 17 then i.d else i.b)) || (hasBit (seenOf t i.op) 2 && sec f.secret i.c))
theorem low_seen {f : Flat} {t : List Int} {k : Nat} {i : Instr} {s u : St} (h : Low f s u) (hi : Sound f k i) (hn : shows f t i = false) : seen t i s.v false = seen t i u.v false := by
  by_cases h19 : i.op = 19
  · unfold seen
    rw [if_pos h19, if_pos h19]
    have hlab := hi.labels
    unfold secrets at hlab
    rw [if_neg (by omega), if_neg (by omega), if_pos h19] at hlab
    rw [h.val hlab]
  by_cases h17 : 1 ≤ i.op ∧ i.op ≤ 17
  · rw [seen_most _ h19 h17, seen_most _ h19 h17]
    unfold shows at hn
    rw [decide_eq_true h17, Bool.true_and] at hn
    simp only [Bool.or_eq_false_iff] at hn
    obtain ⟨⟨n0, n1⟩, n2⟩ := hn
    congr 1
    · congr 1
      · cases hb : hasBit (seenOf t i.op) 0 with
        | false => rfl
        | true =>
          rw [hb, Bool.true_and] at n0
          simp only [if_true]
          rw [h.val n0]
      · cases hb : hasBit (seenOf t i.op) 1 with
        | false => rfl
        | true =>
          rw [hb, Bool.true_and] at n1
          simp only [if_true]
          by_cases h1 : i.op = 17
          · rw [if_pos h1, if_pos h1]
            rw [if_pos h1, decide_eq_false (by omega : ¬ i.op = 16)] at n1
            rw [h.val (by simpa using n1)]
          · rw [if_neg h1, if_neg h1]
            by_cases h2 : i.op = 16
            · rw [if_pos h2, if_pos h2]
            · rw [if_neg h2, if_neg h2]
              rw [if_neg h1, decide_eq_false h2] at n1
              rw [h.val (by simpa using n1)]
    · cases hb : hasBit (seenOf t i.op) 2 with
      | false => rfl
      | true =>
        rw [hb, Bool.true_and] at n2
        simp only [if_true]
        rw [h.val n2]
  · rw [seen_none _ h19 h17, seen_none _ h19 h17]
/-- the same way -/
structure Ways (A B : Ended × List Leak) : Prop where
  trap : A.1.trap = B.1.trap
  len : A.2.length = B.2.length
  at_ : ∀ (j : Nat) l m, A.2[j]? = some l → B.2[j]? = some m → l.pc = m.pc ∧ l.op = m.op
theorem low_run {f : Flat} (hr : Right f) (t : List Int) : ∀ (n k : Nat) (s u : St), f.code.length ≤ n + k → k < f.code.length → Low f s u → Fine f s → Fine f u → Ways (runFrom f.code t n k s) (runFrom f.code t n k u) ∧
    ((∀ i ∈ f.code, shows f t i = false) → (runFrom f.code t n k s).2 = (runFrom f.code t n k u).2)
  | 0, k, s, u, hn, hk, _, _, _ => by omega
  | n + 1, k, s, u, hn, hk, h, hs, hu => by
    obtain ⟨i, hi⟩ : ∃ i, f.code[k]? = some i := ⟨f.code[k], List.getElem?_eq_getElem hk⟩
    have hsd := hr.sound hi
    obtain ⟨e2, e1⟩ := low_step h hsd hs hu
    have hmem : i ∈ f.code := List.mem_of_getElem? hi
    rcases hss : step i k s with ⟨s', os⟩
    rcases huu : step i k u with ⟨u', ou⟩
    rw [hss, huu] at e2 e1
    dsimp only at e2 e1
    subst e2
    cases os with
    | none =>
      rw [runFrom_end hi hss, runFrom_end hi huu]
      refine ⟨⟨rfl, rfl, fun j l m hl hm => ?_⟩, fun hno => ?_⟩
      · cases j with
        | zero => simp at hl hm; subst hl hm; exact ⟨rfl, rfl⟩
        | succ j => simp at hl
      · have := low_seen (t := t) h hsd (hno i hmem)
        simp only [leak, this]
    | some k' =>
      rw [runFrom_on hi hss, runFrom_on hi huu]
      have hs' := hs.step hsd
      have hu' := hu.step hsd
      rw [hss] at hs'
      rw [huu] at hu'
      obtain ⟨h1, h2⟩ := step_on hr (s := s) (k' := k') hi (by rw [hss])
      obtain ⟨w, r⟩ := low_run hr t n k' s' u' (by omega) h2 e1 hs' hu'
      refine ⟨⟨w.trap, by simp [w.len], fun j l m hl hm => ?_⟩, fun hno => ?_⟩
      · cases j with
        | zero => simp at hl hm; subst hl hm; exact ⟨rfl, rfl⟩
        | succ j => exact w.at_ j l m (by simpa using hl) (by simpa using hm)
      · have := low_seen (t := t) h hsd (hno i hmem)
        simp only [leak, this, r hno]
/-- given the same, but for what is secret -/
structure AlikeF (f : Flat) (g h : Given) : Prop where
  gl : (g.words.length : Int) = f.params
  hl : (h.words.length : Int) = f.params
  words : ∀ p : Nat, (p : Int) < f.params → f.secret.getD p false = false → g.words.getD p 0 = h.words.getD p 0
  alen : ∀ b : Nat, (g.arrays.getD b []).length = (h.arrays.getD b []).length
  arrs : ∀ b : Nat, (f.arrays.getD b default).secret = false → g.arrays.getD b [] = h.arrays.getD b []
theorem start_at (n : Nat) (g : Given) (p : Nat) (hn : g.words.length ≤ n) : (start n g).v.getD p 0 = if p < g.words.length then g.words.getD p 0 else 0 := by
  unfold start
  show ((g.words ++ List.replicate (n - g.words.length) 0).take n).getD p 0 = _
  rw [List.take_of_length_le (by simp; omega), List.getD_eq_getElem?_getD, List.getD_eq_getElem?_getD]
  by_cases hp : p < g.words.length
  · rw [List.getElem?_append_left hp, if_pos hp]
  · rw [List.getElem?_append_right (by omega), if_neg hp, List.getElem?_replicate]
    split <;> rfl
theorem low_start {f : Flat} {g h : Given} (hr : Right f) (ha : AlikeF f g h) : Low f (start f.secret.length g) (start f.secret.length h) := by
  have h1 := ha.gl
  have h2 := ha.hl
  have h3 := hr.p1
  refine ⟨fun p hp => ?_, ha.alen, ha.arrs⟩
  rw [start_at _ _ _ (by omega), start_at _ _ _ (by omega)]
  by_cases hp' : p < g.words.length
  · rw [if_pos hp', if_pos (by omega)]
    exact ha.words p (by omega) hp
  · rw [if_neg hp', if_neg (by omega)]
theorem ways {f : Flat} {g h : Given} (hr : Right f) (t : List Int) (ha : AlikeF f g h) (hg : Fine f (start f.secret.length g)) (hh : Fine f (start f.secret.length h)) :
    Ways (run f t g) (run f t h) ∧ ((∀ i ∈ f.code, shows f t i = false) → (run f t g).2 = (run f t h).2) :=
  low_run hr t f.code.length 0 _ _ (by omega) (by have := hr.len1; omega) (low_start hr ha) hg hh
end Ev
