import Derived.Test.YtpbflgemhcaooaaDoorWord
namespace Ev
def wshl (a n : Nat) : Nat := (a * 2 ^ n) % 4294967296
def wshr (a n : Nat) : Nat := a / 2 ^ n
theorem wshl_add (a m n : Nat) : wshl (wshl a m) n = wshl a (m + n) := by
  unfold wshl
  rw [Nat.mod_mul_mod, Nat.mul_assoc, ← Nat.pow_add]
theorem wshr_add (a m n : Nat) : wshr (wshr a m) n = wshr a (m + n) := by
  unfold wshr
  rw [Nat.div_div_eq_div_mul, ← Nat.pow_add]
def bitN (b k : Nat) : Nat := if b.testBit k then 1 else 0
theorem low5 (b : Nat) : (if b.testBit 0 then 1 else 0) + (if b.testBit 1 then 2 else 0) + (if b.testBit 2 then 4 else 0) + (if b.testBit 3 then 8 else 0) + (if b.testBit 4 then 16 else 0) = b % 32 := by
  have h : ∀ k, k < 5 → b.testBit k = (b % 32).testBit k := fun k hk => by
    have := Nat.testBit_mod_two_pow b 5 k
    simp at this; rw [this]; simp [hk]
  rw [h 0 (by decide), h 1 (by decide), h 2 (by decide), h 3 (by decide), h 4 (by decide)]
  have hb : b % 32 < 32 := Nat.mod_lt _ (by decide)
  generalize b % 32 = m at hb
  clear h
  revert m
  decide
/-- one step of a move by bits -/
def shStep (left : Bool) (b : Nat) (a k : Nat) : Nat := if b.testBit k then (if left then wshl a (2 ^ k) else wshr a (2 ^ k)) else a
theorem shift_bits {left : Bool} {a b : Nat} (ha : a < 4294967296) :
    shStep left b (shStep left b (shStep left b (shStep left b (shStep left b a 0) 1) 2) 3) 4 = if left then wshl a (b % 32) else wshr a (b % 32) := by
  have hl : ∀ a, a < 4294967296 → wshl a 0 = a := fun a h => by unfold wshl; simp; omega
  have hr : ∀ a, wshr a 0 = a := fun a => by unfold wshr; simp
  rw [← low5 b]
  unfold shStep
  cases left
  · simp only [Bool.false_eq_true, if_false]
    cases b.testBit 0 <;> cases b.testBit 1 <;> cases b.testBit 2 <;> cases b.testBit 3 <;> cases b.testBit 4 <;> simp [wshr_add, hr]
  · simp only [if_true]
    cases b.testBit 0 <;> cases b.testBit 1 <;> cases b.testBit 2 <;> cases b.testBit 3 <;> cases b.testBit 4 <;> simp [wshl_add, hl a ha]

theorem mod_succ (b k : Nat) : b % 2 ^ (k + 1) = b % 2 ^ k + 2 ^ k * bitN b k := by
  rw [Nat.mod_pow_succ]
  unfold bitN
  rw [Nat.testBit_eq_decide_div_mod_eq]
  have := Nat.mod_two_eq_zero_or_one (b / 2^k)
  rcases this with h | h <;> simp [h]
def mulTo (a b : Nat) : Nat → Nat
  | 0 => 0
  | k + 1 => wadd (mulTo a b k) (if b.testBit k then wshl a k else 0)
theorem mulTo_eq (a b k : Nat) : mulTo a b k = a * (b % 2 ^ k) % 4294967296 := by
  induction k with
  | zero => simp [mulTo, Nat.mod_one]
  | succ k ih =>
    rw [mulTo, ih, mod_succ]
    unfold wadd wshl bitN
    cases b.testBit k
    · simp
    · simp only [if_true, Nat.mul_one, Nat.mul_add]
      omega
theorem mul_bits {a b : Nat} (hb : b < 4294967296) : mulTo a b 32 = a * b % 4294967296 := by
  rw [mulTo_eq]
  have : (2:Nat)^32 = 4294967296 := by decide
  rw [this, Nat.mod_eq_of_lt hb]

/-- one step of a division, bit by bit: quot, rest -/
def divStep (a b : Nat) (qr : Nat × Nat) (k : Nat) : Nat × Nat :=
  let r2 := wshl qr.2 1 ||| bitN a k
  let fits := bitN qr.2 31 ||| ((if r2 < b then 1 else 0) ^^^ 1)
  (qr.1 ||| wshl fits k, wsub r2 (if fits = 1 then b else 0))
/-- bits 31 down to 32 - n -/
def divTo (a b : Nat) : Nat → Nat × Nat
  | 0 => (0, 0)
  | n + 1 => divStep a b (divTo a b n) (31 - n)
theorem bitN_le (b k : Nat) : bitN b k ≤ 1 := by unfold bitN; split <;> omega
theorem or_low {x y k : Nat} (h : y < 2 ^ k) : (x * 2 ^ k) ||| y = x * 2 ^ k + y := by
  rw [Nat.mul_comm, Nat.two_pow_add_eq_or_of_lt h]
theorem div_succ (a k : Nat) : a / 2 ^ k = 2 * (a / 2 ^ (k + 1)) + bitN a k := by
  unfold bitN
  rw [Nat.testBit_eq_decide_div_mod_eq, Nat.pow_succ, ← Nat.div_div_eq_div_mul]
  have := Nat.mod_two_eq_zero_or_one (a / 2^k)
  rcases this with h | h <;> simp [h] <;> omega
theorem divTo_inv {a b : Nat} (ha : a < 4294967296) (hb : b < 4294967296) (h0 : 0 < b) : ∀ n, n ≤ 32 →
    divTo a b n = (a / 2 ^ (32 - n) / b * 2 ^ (32 - n), a / 2 ^ (32 - n) % b) := by
  intro n
  induction n with
  | zero =>
    intro _
    have h32 : (2:Nat)^32 = 4294967296 := by decide
    have : a / 2 ^ 32 = 0 := Nat.div_eq_of_lt (by omega)
    simp only [divTo, Nat.sub_zero, this]; simp
  | succ n ih =>
    intro hn
    rw [divTo, ih (by omega)]
    have hk : 32 - n = (31 - n) + 1 := by omega
    have hk2 : 32 - (n + 1) = 31 - n := by omega
    rw [hk2]
    have hkl : 31 - n < 32 := by omega
    generalize 31 - n = k at hk hkl
    rw [hk]
    have hA := div_succ a k
    have hbit := bitN_le a k
    generalize hAA : a / 2 ^ (k + 1) = A at hA
    have hAlt : A < 2 ^ (31 - k) := by
      rw [← hAA]
      apply Nat.div_lt_of_lt_mul
      rw [← Nat.pow_add]
      have : k + 1 + (31 - k) = 32 := by omega
      rw [this]
      have : (2:Nat)^32 = 4294967296 := by decide
      omega
    unfold divStep
    simp only
    have hr : A % b < b := Nat.mod_lt _ h0
    have hr2 : wshl (A % b) 1 ||| bitN a k = (2 * (A % b) + bitN a k) % 4294967296 := by
      unfold wshl
      have e : (A % b * 2 ^ 1) % 4294967296 = (A % b % 2147483648) * 2 ^ 1 := by omega
      rw [e, or_low (by omega)]
      omega
    rw [hr2]
    have hover : bitN (A % b) 31 = if 2147483648 ≤ A % b then 1 else 0 := by
      unfold bitN; rw [top_iff (by omega)]; simp
    rw [hover, hA]
    generalize hR : A % b = r at hr
    generalize bitN a k = t at hbit
    have hq : (2 * A + t) / b = 2 * (A / b) + (if b ≤ 2 * r + t then 1 else 0) ∧ (2 * A + t) % b = 2 * r + t - (if b ≤ 2 * r + t then b else 0) := by
      have e : 2 * A + t = b * (2 * (A / b)) + (2 * r + t) := by
        have := Nat.div_add_mod A b
        rw [hR] at this
        rw [Nat.mul_left_comm]; omega
      rw [e, Nat.mul_add_div h0, Nat.mul_add_mod]
      by_cases hc : b ≤ 2 * r + t
      · simp only [hc, if_true]
        have h1 : (2 * r + t) / b = 1 := by
          rw [Nat.div_eq_sub_div h0 hc, Nat.div_eq_of_lt (by omega)]
        have h2 : (2 * r + t) % b = 2 * r + t - b := by
          rw [Nat.mod_eq_sub_mod hc, Nat.mod_eq_of_lt (by omega)]
        exact ⟨by rw [h1], h2⟩
      · simp only [hc, if_false]
        have h1 : (2 * r + t) / b = 0 := Nat.div_eq_of_lt (by omega)
        have h2 : (2 * r + t) % b = 2 * r + t := Nat.mod_eq_of_lt (by omega)
        exact ⟨by rw [h1], by rw [h2]; rfl⟩
    rw [hq.1, hq.2]
    have hfits : ((if 2147483648 ≤ r then 1 else 0) ||| ((if (2 * r + t) % 4294967296 < b then 1 else 0) ^^^ 1)) = if b ≤ 2 * r + t then 1 else 0 := by
      by_cases h1 : 2147483648 ≤ r <;> by_cases h2 : (2 * r + t) % 4294967296 < b <;> by_cases h3 : b ≤ 2 * r + t <;> simp [h1, h2, h3] <;> omega
    rw [hfits]
    refine Prod.ext ?_ ?_
    · simp only
      have hp : 2 ^ k ≤ 2147483648 := by
        have : (2:Nat)^31 = 2147483648 := by decide
        rw [← this]; exact Nat.pow_le_pow_right (by decide) (by omega)
      have hw : ∀ f : Nat, f ≤ 1 → wshl f k = f * 2 ^ k := by
        intro f hf
        unfold wshl
        apply Nat.mod_eq_of_lt
        have : f * 2 ^ k ≤ 1 * 2 ^ k := Nat.mul_le_mul_right _ hf
        omega
      rw [hw _ (by split <;> omega)]
      have e : A / b * 2 ^ (k + 1) = (2 * (A / b)) * 2 ^ k := by rw [Nat.pow_succ]; rw [Nat.mul_comm (2 ^ k) 2, ← Nat.mul_assoc, Nat.mul_comm (A / b) 2]
      rw [e, Nat.add_mul]
      have e2 : (2 * (A / b)) * 2 ^ k = (A / b) * 2 ^ (k + 1) := e.symm
      rw [e2]
      by_cases hc : b ≤ 2 * r + t
      · simp only [hc, if_true, Nat.one_mul]
        exact or_low (Nat.pow_lt_pow_right (by decide) (by omega))
      · simp [hc]
    · simp only
      unfold wsub
      by_cases hc : b ≤ 2 * r + t
      · simp only [hc, if_true]; omega
      · simp only [hc, if_false]; simp; omega
theorem div_bits {a b : Nat} (ha : a < 4294967296) (hb : b < 4294967296) (h0 : 0 < b) : divTo a b 32 = (a / b, a % b) := by
  rw [divTo_inv ha hb h0 32 (Nat.le_refl _)]; simp
theorem divTo_zero {a : Nat} (ha : a < 4294967296) : ∀ n, n ≤ 32 → divTo a 0 n = (4294967296 - 2 ^ (32 - n), a / 2 ^ (32 - n)) := by
  intro n
  induction n with
  | zero =>
    intro _
    have h32 : (2:Nat)^32 = 4294967296 := by decide
    have : a / 2 ^ 32 = 0 := Nat.div_eq_of_lt (by omega)
    simp only [divTo, Nat.sub_zero, this]
  | succ n ih =>
    intro hn
    rw [divTo, ih (by omega)]
    have hk : 32 - n = (31 - n) + 1 := by omega
    have hk2 : 32 - (n + 1) = 31 - n := by omega
    rw [hk2]
    have hkl : 31 - n < 32 := by omega
    generalize 31 - n = k at hk hkl
    rw [hk]
    have hA := div_succ a k
    have hbit := bitN_le a k
    have hAlt : a / 2 ^ (k + 1) < 2147483648 := by
      apply Nat.div_lt_of_lt_mul
      have : 2 ≤ 2 ^ (k + 1) := by
        have := Nat.pow_le_pow_right (n := 2) (by decide) (show 1 ≤ k + 1 by omega); simpa using this
      have : 2 * 2147483648 ≤ 2 ^ (k + 1) * 2147483648 := Nat.mul_le_mul_right _ this
      omega
    unfold divStep
    simp only
    have hr2 : wshl (a / 2 ^ (k + 1)) 1 ||| bitN a k = (2 * (a / 2 ^ (k + 1)) + bitN a k) := by
      unfold wshl
      have e : (a / 2 ^ (k + 1) * 2 ^ 1) % 4294967296 = (a / 2 ^ (k + 1)) * 2 ^ 1 := by omega
      rw [e, or_low (by omega)]
      omega
    have hover : bitN (a / 2 ^ (k + 1)) 31 = 0 := by
      unfold bitN; rw [top_iff (by omega)]; simp; omega
    rw [hr2, hover, ← hA]
    have hp : 2 ^ k ≤ 2147483648 := by
      have : (2:Nat)^31 = 2147483648 := by decide
      rw [← this]; exact Nat.pow_le_pow_right (by decide) (by omega)
    have hpp : 2 ^ (k + 1) = 2 * 2 ^ k := by rw [Nat.pow_succ]; omega
    have hdvd : ∃ q, 4294967296 - 2 ^ (k + 1) = q * 2 ^ (k + 1) := by
      refine ⟨2 ^ (31 - k) - 1, ?_⟩
      have e : (2:Nat) ^ (31 - k) * 2 ^ (k + 1) = 4294967296 := by
        rw [← Nat.pow_add]
        have : 31 - k + (k + 1) = 32 := by omega
        rw [this]
      rw [Nat.sub_mul, e]; omega
    obtain ⟨q, hq⟩ := hdvd
    have hadiv : a / 2 ^ k < 4294967296 := Nat.lt_of_le_of_lt (Nat.div_le_self _ _) ha
    refine Prod.ext ?_ ?_
    · simp only [Nat.not_lt_zero, if_false]
      have : wshl (0 ||| (0 ^^^ 1)) k = 2 ^ k := by
        unfold wshl; simp only [Nat.zero_or, Nat.zero_xor, Nat.one_mul]; omega
      rw [this, hq, or_low (Nat.pow_lt_pow_right (by decide) (by omega)), ← hq]
      omega
    · simp only [Nat.not_lt_zero, if_false]
      unfold wsub; split <;> omega
theorem div_bits_zero {a : Nat} (ha : a < 4294967296) : divTo a 0 32 = (4294967295, a) := by
  rw [divTo_zero ha 32 (Nat.le_refl _)]; simp
end Ev
