import Derived.Test.YtljcgcllhcdleaaMm7
/- Chapter 7, in plain words: right instructions, and one step of a run. -/
namespace Ev
structure Right (f : Flat) : Prop where
  len1 : 1 ≤ f.code.length
  len2 : f.code.length ≤ 12000
  p0 : 0 ≤ f.params
  p1 : f.params ≤ f.secret.length
  at_ : ∀ (k : Nat) i, f.code[k]? = some i → checkAt f k i = 0
  last : lastOp f = 20 ∨ lastOp f = 21 ∨ lastOp f = 18
theorem checkFrom_zero (f : Flat) : ∀ (l : List Instr) (k : Nat), (checkFrom f k l).1 = 0 → ∀ (m : Nat) i, l[m]? = some i → checkAt f (k + m) i = 0
  | [], k, _, m, i, h => by simp at h
  | x :: r, k, h, m, i, hm => by
    unfold checkFrom at h
    by_cases hx : checkAt f k x = 0
    · rw [if_pos hx] at h
      cases m with
      | zero => simp at hm; subst hm; exact hx
      | succ m =>
        have := checkFrom_zero f r (k + 1) h m i (by simpa using hm)
        rw [show k + (m + 1) = k + 1 + m by omega]
        exact this
    · rw [if_neg hx] at h
      exact absurd h hx
theorem right_of_check {f : Flat} (h : (check f).1 = 0) : Right f := by
  unfold check at h
  by_cases h1 : f.code.length < 1 ∨ 12000 < f.code.length ∨ f.params < 0 ∨ f.secret.length < f.params
  · rw [if_pos h1] at h; cases h
  · rw [if_neg h1] at h
    by_cases h2 : (checkFrom f 0 f.code).1 ≠ 0
    · rw [if_pos h2] at h; exact absurd h h2
    · rw [if_neg h2] at h
      by_cases h3 : lastOp f = 20 ∨ lastOp f = 21 ∨ lastOp f = 18
      · exact ⟨by omega, by omega, by omega, by omega, fun k i hk => by
          have := checkFrom_zero f f.code 0 (by omega) k i hk
          simpa using this, h3⟩
      · rw [if_neg h3] at h; cases h
theorem check_of_right {f : Flat} (h : Right f) : check f = (0, -1) := by
  have hz : ∀ (l : List Instr) (k : Nat), (∀ (m : Nat) i, l[m]? = some i → checkAt f (k + m) i = 0) → checkFrom f k l = (0, -1) := by
    intro l
    induction l with
    | nil => intro k _; rfl
    | cons x r ih =>
      intro k hk
      have hx : checkAt f k x = 0 := by simpa using hk 0 x rfl
      unfold checkFrom
      rw [if_pos hx]
      exact ih (k + 1) (fun m i hm => by
        have := hk (m + 1) i (by simpa using hm)
        rw [show k + 1 + m = k + (m + 1) by omega]
        exact this)
  have h0 := hz f.code 0 (fun m i hm => by simpa using h.at_ m i hm)
  have := h.len1
  have := h.len2
  have := h.p0
  have := h.p1
  unfold check
  rw [if_neg (by omega), h0, if_neg (by simp), if_pos h.last]
/-- what a right instruction is -/
structure Sound (f : Flat) (k : Nat) (i : Instr) : Prop where
  op : 1 ≤ i.op ∧ i.op ≤ 21
  reads : ∀ p ∈ reads i, 0 ≤ p ∧ p < (f.secret.length : Int)
  makes : i.op ≤ 16 → 0 ≤ i.d ∧ i.d < (f.secret.length : Int)
  imm : i.op = 14 → 0 ≤ i.imm ∧ i.imm ≤ 4294967295
  arr : i.op = 16 ∨ i.op = 17 → 0 ≤ i.b ∧ i.b < (f.arrays.length : Int)
  jump : i.op = 18 ∨ i.op = 19 → (k : Int) < i.imm ∧ i.imm < (f.code.length : Int)
  labels : secrets f i = false
theorem sound_of {f : Flat} {k : Nat} {i : Instr} (h : checkAt f k i = 0) : Sound f k i := by
  unfold checkAt at h
  by_cases h1 : ¬ (1 ≤ i.op ∧ i.op ≤ 21)
  · rw [if_pos h1] at h; cases h
  rw [if_neg h1] at h
  by_cases h2 : numbers f k i = false
  · rw [if_pos h2] at h; cases h
  rw [if_neg h2] at h
  have hs : secrets f i = false := by
    cases hs : secrets f i with
    | false => rfl
    | true => rw [hs] at h; simp at h
  have h3 : numbers f k i = true := by simpa using h2
  unfold numbers at h3
  rw [Bool.and_eq_true, Bool.and_eq_true, List.all_eq_true] at h3
  obtain ⟨⟨h4, h5⟩, h6⟩ := h3
  refine ⟨by omega, fun p hp => ?_, fun hop => ?_, fun hop => ?_, fun hop => ?_, fun hop => ?_, hs⟩
  · have := h4 p hp; simpa [isPlace] using this
  · have hm : Ev.makes i = true := by unfold Ev.makes; simp; omega
    rw [hm] at h5
    simpa [isPlace] using h5
  · rw [if_pos hop] at h6; simpa [isWord] using h6
  · rw [if_neg (by omega), if_pos hop] at h6; simpa using h6
  · rw [if_neg (by omega), if_neg (by omega), if_pos hop] at h6; simpa using h6
theorem Right.sound {f : Flat} (h : Right f) {k : Nat} {i : Instr} (hk : f.code[k]? = some i) : Sound f k i := sound_of (h.at_ k i hk)
def Wd (x : Int) : Prop := 0 ≤ x ∧ x ≤ 4294967295
/-- a state that a run may come to -/
structure Fine (f : Flat) (s : St) : Prop where
  len : s.v.length = f.secret.length
  word : ∀ x ∈ s.v, Wd x
  alen : s.arrs.length = f.arrays.length
  aword : ∀ a ∈ s.arrs, ∀ x ∈ a, Wd x
theorem two_wd (op a b : Int) : Wd (two op a b) := by
  have : ∀ x y : Nat, x < 4294967296 → y < 4294967296 → twoN op x y < 4294967296 := by
    intro x y hx hy
    unfold twoN
    by_cases h1 : op = 1
    · rw [if_pos h1]; exact Nat.mod_lt _ (by decide)
    rw [if_neg h1]
    by_cases h2 : op = 2
    · rw [if_pos h2]; exact wsub_lt _ _
    rw [if_neg h2]
    by_cases h3 : op = 3
    · rw [if_pos h3]; exact and_lt hx
    rw [if_neg h3]
    by_cases h4 : op = 4
    · rw [if_pos h4]; exact or_lt hx hy
    rw [if_neg h4]
    by_cases h5 : op = 5
    · rw [if_pos h5]; exact xor_lt hx hy
    rw [if_neg h5]
    by_cases h6 : op = 6
    · rw [if_pos h6]; exact Nat.mod_lt _ (by decide)
    rw [if_neg h6]
    by_cases h7 : op = 7
    · rw [if_pos h7]; exact Nat.lt_of_le_of_lt (Nat.div_le_self _ _) hx
    rw [if_neg h7]
    by_cases h8 : op = 8
    · rw [if_pos h8]; exact Nat.mod_lt _ (by decide)
    rw [if_neg h8]
    by_cases h9 : op = 9
    · rw [if_pos h9]
      by_cases h : y = 0
      · rw [if_pos h]; decide
      · rw [if_neg h]; exact Nat.lt_of_le_of_lt (Nat.div_le_self _ _) hx
    rw [if_neg h9]
    by_cases h10 : op = 10
    · rw [if_pos h10]
      by_cases h : y = 0
      · rw [if_pos h]; exact hx
      · rw [if_neg h]; exact Nat.lt_of_le_of_lt (Nat.mod_le _ _) hx
    rw [if_neg h10]
    by_cases h11 : op = 11
    · rw [if_pos h11]
      by_cases h : x < y
      · rw [if_pos h]; decide
      · rw [if_neg h]; decide
    rw [if_neg h11]
    by_cases h12 : op = 12
    · rw [if_pos h12]
      by_cases h : x = y
      · rw [if_pos h]; decide
      · rw [if_neg h]; decide
    rw [if_neg h12]
    decide
  have h := this _ _ (low_lt a) (low_lt b)
  unfold two Wd
  omega
theorem sel_wd (a b c : Int) : Wd (sel a b c) := by
  have := low_lt b
  have := low_lt c
  unfold sel Wd
  split <;> omega
theorem mem_set {α : Type} {l : List α} {k : Nat} {x y : α} (h : y ∈ l.set k x) : y ∈ l ∨ y = x := by
  rcases List.mem_or_eq_of_mem_set h with h | h
  · exact .inl h
  · exact .inr h
theorem Fine.set {f : Flat} {s : St} (h : Fine f s) (k : Nat) {x : Int} (hx : Wd x) : Fine f { s with v := s.v.set k x } :=
  ⟨by simpa using h.len, fun y hy => (mem_set hy).elim (fun hy => h.word y hy) (fun e => by rw [e]; exact hx), h.alen, h.aword⟩
theorem Fine.val {f : Flat} {s : St} (h : Fine f s) (p : Int) : Wd (Ev.val s.v p) := by
  unfold Ev.val
  rw [List.getD_eq_getElem?_getD]
  cases hx : s.v[p.toNat]? with
  | none => exact ⟨by decide, by decide⟩
  | some x => exact h.word x (List.mem_of_getElem? hx)
theorem Fine.arr {f : Flat} {s : St} (h : Fine f s) (b n : Int) : Wd (arrAt s.arrs b n) := by
  unfold arrAt
  split
  · unfold Ev.val
    rw [List.getD_eq_getElem?_getD]
    cases hx : (s.arrs.getD b.toNat [])[n.toNat]? with
    | none => exact ⟨by decide, by decide⟩
    | some x =>
      have hm := List.mem_of_getElem? hx
      rw [List.getD_eq_getElem?_getD] at hm
      cases ha : s.arrs[b.toNat]? with
      | none => rw [ha] at hm; simp at hm
      | some a => rw [ha] at hm; exact h.aword a (List.mem_of_getElem? ha) x hm
  · exact ⟨by decide, by decide⟩
/-- one step leaves a state that may be -/
theorem Fine.step {f : Flat} {k : Nat} {i : Instr} {s : St} (h : Fine f s) (hs : Sound f k i) : Fine f (Ev.step i k s).1 := by
  have hop := hs.op
  unfold Ev.step
  by_cases h12 : i.op ≤ 12
  · rw [if_pos h12]; exact h.set _ (two_wd _ _ _)
  rw [if_neg h12]
  by_cases h13 : i.op = 13
  · rw [if_pos h13]; exact h.set _ (sel_wd _ _ _)
  rw [if_neg h13]
  by_cases h14 : i.op = 14
  · rw [if_pos h14]; exact h.set _ (hs.imm h14)
  rw [if_neg h14]
  by_cases h15 : i.op = 15
  · rw [if_pos h15]; exact h.set _ (h.val _)
  rw [if_neg h15]
  by_cases h16 : i.op = 16
  · rw [if_pos h16]; exact h.set _ (h.arr _ _)
  rw [if_neg h16]
  by_cases h17 : i.op = 17
  · rw [if_pos h17]
    simp only
    split
    · refine ⟨h.len, h.word, by simpa using h.alen, fun a ha x hx => ?_⟩
      rcases mem_set ha with ha | rfl
      · exact h.aword a ha x hx
      · rcases mem_set hx with hx | rfl
        · rw [List.getD_eq_getElem?_getD] at hx
          cases hb : s.arrs[i.b.toNat]? with
          | none => rw [hb] at hx; simp at hx
          | some a => rw [hb] at hx; exact h.aword a (List.mem_of_getElem? hb) x hx
        · exact h.val _
    · exact h
  rw [if_neg h17]
  by_cases h18 : i.op = 18
  · rw [if_pos h18]; exact h
  rw [if_neg h18]
  by_cases h19 : i.op = 19
  · rw [if_pos h19]; exact h
  rw [if_neg h19, if_pos (by omega)]
  exact h
/-- where it goes on -/
theorem step_on {f : Flat} (hr : Right f) {k k' : Nat} {i : Instr} {s : St} (hk : f.code[k]? = some i) (h : (Ev.step i k s).2 = some k') : k < k' ∧ k' < f.code.length := by
  have hs := hr.sound hk
  have hop := hs.op
  have hlt : k < f.code.length := (List.getElem?_eq_some_iff.1 hk).1
  have hlast : i.op ≠ 20 → i.op ≠ 21 → i.op ≠ 18 → k + 1 < f.code.length := by
    intro h1 h2 h3
    rcases Nat.lt_or_ge (k + 1) f.code.length with h4 | h4
    · exact h4
    · exfalso
      have : f.code.length - 1 = k := by omega
      have hl := hr.last
      unfold lastOp at hl
      rw [this, List.getD_eq_getElem?_getD, hk] at hl
      simp only [Option.getD_some] at hl
      omega
  unfold Ev.step at h
  by_cases h12 : i.op ≤ 12
  · rw [if_pos h12] at h; simp at h; have := hlast (by omega) (by omega) (by omega); omega
  rw [if_neg h12] at h
  by_cases h13 : i.op = 13
  · rw [if_pos h13] at h; simp at h; have := hlast (by omega) (by omega) (by omega); omega
  rw [if_neg h13] at h
  by_cases h14 : i.op = 14
  · rw [if_pos h14] at h; simp at h; have := hlast (by omega) (by omega) (by omega); omega
  rw [if_neg h14] at h
  by_cases h15 : i.op = 15
  · rw [if_pos h15] at h; simp at h; have := hlast (by omega) (by omega) (by omega); omega
  rw [if_neg h15] at h
  by_cases h16 : i.op = 16
  · rw [if_pos h16] at h; simp at h; have := hlast (by omega) (by omega) (by omega); omega
  rw [if_neg h16] at h
  by_cases h17 : i.op = 17
  · rw [if_pos h17] at h; simp at h; have := hlast (by omega) (by omega) (by omega); omega
  rw [if_neg h17] at h
  by_cases h18 : i.op = 18
  · rw [if_pos h18] at h; simp at h; have := hs.jump (.inl h18); omega
  rw [if_neg h18] at h
  by_cases h19 : i.op = 19
  · rw [if_pos h19] at h
    simp at h
    have := hs.jump (.inr h19)
    have := hlast (by omega) (by omega) (by omega)
    split at h <;> omega
  rw [if_neg h19, if_pos (by omega)] at h
  cases h
theorem wrongFrom_zero (t : List Int) : ∀ (n k : Nat), wrongFrom t n k = 0 → ∀ m, m < n → subBits (seenOf t ((k + m : Nat) : Int)) (most ((k + m : Nat) : Int)) = true
  | 0, k, _, m, hm => absurd hm (by omega)
  | n + 1, k, h, m, hm => by
    unfold wrongFrom at h
    by_cases hx : subBits (seenOf t (k : Int)) (most (k : Int)) = true
    · rw [if_pos hx] at h
      cases m with
      | zero => exact hx
      | succ m =>
        have := wrongFrom_zero t n (k + 1) h m (by omega)
        rw [show k + (m + 1) = k + 1 + m by omega]
        exact this
    · rw [if_neg hx] at h; cases h
theorem table_bits {t : List Int} (h : wrong t = 0) {op : Int} (h1 : 1 ≤ op) (h17 : op ≤ 17) : subBits (seenOf t op) (most op) = true := by
  unfold wrong at h
  by_cases h0 : seenOf t 0 ≠ 0
  · rw [if_pos h0] at h; cases h
  · rw [if_neg h0] at h
    have := wrongFrom_zero t 17 1 h (op.toNat - 1) (by omega)
    rw [show ((1 + (op.toNat - 1) : Nat) : Int) = op by omega] at this
    exact this
theorem sub_small {n m : Int} (hm : m = 0 ∨ m = 1 ∨ m = 3 ∨ m = 7) (h : subBits n m = true) : (0 ≤ n ∧ n ≤ 7) ∧ ∀ k, k < 3 → hasBit n k = true → hasBit m k = true := by
  unfold subBits at h
  rw [Bool.and_eq_true, decide_eq_true_eq, beq_iff_eq] at h
  obtain ⟨h0, h⟩ := h
  obtain ⟨j, rfl⟩ : ∃ j : Nat, n = j := ⟨n.toNat, by omega⟩
  have hle : j ≤ m.toNat := by
    rw [← h]
    exact Nat.left_le_or
  have hj : j < 8 := by omega
  refine ⟨by omega, ?_⟩
  simp only [Int.toNat_natCast] at h
  clear h0 hle
  rcases hm with rfl | rfl | rfl | rfl <;> (revert h; revert j; decide)
end Ev
namespace Go.Proofs.Ytljcgcllhcdleaa
/-- by a right table only what is read is seen -/
theorem seenIn_right {t : List Int} (ht : Ev.wrong t = 0) {i : Ev.Instr} {n : Nat} (h1 : 1 ≤ i.op) (hr : ∀ p ∈ Ev.reads i, inR n p) : SeenIn i n (whichOf t i.op false) := by
  have h19 : i.op = 19 → inR n i.a := fun h => hr _ (by unfold Ev.reads; rw [if_neg (by omega), if_neg (by omega), if_neg (by omega), if_pos (by omega)]; simp)
  by_cases h17 : i.op ≤ 17
  · have hw : whichOf t i.op false = Ev.seenOf t i.op := by unfold whichOf; rw [if_neg (by decide), if_pos h17]
    rw [hw]
    have hb := Ev.table_bits ht h1 h17
    have hm : Ev.most i.op = 0 ∨ Ev.most i.op = 1 ∨ Ev.most i.op = 3 ∨ Ev.most i.op = 7 := by
      unfold Ev.most Ev.all
      repeat' split
      all_goals simp
    obtain ⟨h2, h3⟩ := Ev.sub_small hm hb
    refine ⟨h2, fun k hk hbit => ?_, h19⟩
    have hmb := h3 k hk hbit
    have b0 : ∀ k, k < 3 → Ev.hasBit 0 k = true → False := by decide
    have b1 : ∀ k, k < 3 → Ev.hasBit 1 k = true → k = 0 := by decide
    have b3 : ∀ k, k < 3 → Ev.hasBit 3 k = true → k = 0 ∨ k = 1 := by decide
    by_cases c1 : i.op ≤ 12
    · have e : Ev.most i.op = 3 := by unfold Ev.most Ev.all; rw [if_neg (by omega), if_pos (by omega)]
      have er : Ev.reads i = [i.a, i.b] := by unfold Ev.reads; rw [if_pos (by omega)]
      rw [e] at hmb
      refine ⟨fun h => by omega, fun _ _ => ?_⟩
      rcases b3 k hk hmb with rfl | rfl
      · exact hr _ (by rw [er]; simp [placeOf])
      · exact hr _ (by rw [er]; simp [placeOf])
    by_cases c2 : i.op = 13
    · have er : Ev.reads i = [i.a, i.b, i.c] := by unfold Ev.reads; rw [if_neg (by omega), if_pos c2]
      refine ⟨fun h => by omega, fun _ _ => ?_⟩
      rcases (show k = 0 ∨ k = 1 ∨ k = 2 by omega) with rfl | rfl | rfl <;> exact hr _ (by rw [er]; simp [placeOf])
    by_cases c3 : i.op = 14
    · have e : Ev.most i.op = 0 := by unfold Ev.most Ev.all; rw [if_neg (by omega), if_neg (by omega), if_neg (by omega), if_neg (by omega), if_neg (by omega), if_neg (by omega)]
      rw [e] at hmb
      exact absurd hmb (fun h => b0 k hk h)
    by_cases c4 : i.op = 17
    · have e : Ev.most i.op = 3 := by unfold Ev.most Ev.all; rw [if_neg (by omega), if_neg (by omega), if_neg (by omega), if_neg (by omega), if_neg (by omega), if_pos (by omega)]
      have er : Ev.reads i = [i.a, i.d] := by unfold Ev.reads; rw [if_neg (by omega), if_neg (by omega), if_pos c4]
      rw [e] at hmb
      refine ⟨fun h => hr _ (by rw [er]; simp), fun h _ => ?_⟩
      rcases b3 k hk hmb with rfl | rfl
      · exact hr _ (by rw [er]; simp [placeOf])
      · exact absurd ⟨c4, rfl⟩ h
    · have e : Ev.most i.op = 1 := by
        unfold Ev.most Ev.all
        by_cases c5 : i.op = 16
        · rw [if_pos c5]
        · rw [if_neg c5, if_neg (by omega), if_neg (by omega), if_pos (by omega)]
      have er : Ev.reads i = [i.a] := by unfold Ev.reads; rw [if_neg (by omega), if_neg (by omega), if_neg (by omega), if_pos (by omega)]
      rw [e] at hmb
      have := b1 k hk hmb
      subst this
      exact ⟨fun h => by omega, fun _ _ => hr _ (by rw [er]; simp [placeOf])⟩
  · have hw : whichOf t i.op false = 0 := by unfold whichOf; rw [if_neg (by decide), if_neg h17]
    rw [hw]
    exact ⟨by omega, fun k hk h => False.elim ((by decide : ∀ k, k < 3 → Ev.hasBit 0 k = true → False) k hk h), h19⟩
end Go.Proofs.Ytljcgcllhcdleaa
