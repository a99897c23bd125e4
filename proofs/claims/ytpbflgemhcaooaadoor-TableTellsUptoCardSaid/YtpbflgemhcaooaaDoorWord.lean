/- Words of 32 bits as natural numbers: what the tricks by bits come to. -/
namespace Ev
def W : Nat := 4294967296
/-- the bitwise not of a word -/
def wnot (a : Nat) : Nat := a ^^^ 4294967295
def wsub (a b : Nat) : Nat := (a + 4294967296 - b) % 4294967296
def wadd (a b : Nat) : Nat := (a + b) % 4294967296

theorem top_iff {a : Nat} (h : a < 4294967296) : a.testBit 31 = decide (2147483648 ≤ a) := by
  rw [Nat.testBit_eq_decide_div_mod_eq]
  congr 1
  have : (2:Nat)^31 = 2147483648 := by decide
  rw [this]
  apply propext
  constructor <;> intro h' <;> omega

theorem shr31 {a : Nat} (h : a < 4294967296) : a >>> 31 = if a.testBit 31 then 1 else 0 := by
  rw [top_iff h, Nat.shiftRight_eq_div_pow]
  have : (2:Nat)^31 = 2147483648 := by decide
  rw [this]
  by_cases h2 : 2147483648 ≤ a
  · simp [h2]; omega
  · simp [h2]; omega

theorem and_lt {a b : Nat} (h : a < 4294967296) : a &&& b < 4294967296 := Nat.lt_of_le_of_lt Nat.and_le_left h
theorem or_lt {a b : Nat} (h : a < 4294967296) (k : b < 4294967296) : a ||| b < 4294967296 := Nat.or_lt_two_pow (n := 32) h k
theorem xor_lt {a b : Nat} (h : a < 4294967296) (k : b < 4294967296) : a ^^^ b < 4294967296 := Nat.xor_lt_two_pow (n := 32) h k
theorem wsub_lt (a b : Nat) : wsub a b < 4294967296 := Nat.mod_lt _ (by decide)
theorem wnot_top {a : Nat} : (wnot a).testBit 31 = !a.testBit 31 := by
  unfold wnot
  rw [Nat.testBit_xor]
  have : (4294967295 : Nat).testBit 31 = true := by decide
  rw [this]; cases a.testBit 31 <;> rfl
theorem wnot_lt {a : Nat} (h : a < 4294967296) : wnot a < 4294967296 := xor_lt h (by decide)

/-- 1, if a is below b: by the borrow's bit -/
theorem less_bits {a b : Nat} (ha : a < 4294967296) (hb : b < 4294967296) :
    (((wnot a) &&& b) ||| (((wnot a) ||| b) &&& (wsub a b))) >>> 31 = if a < b then 1 else 0 := by
  rw [shr31 (or_lt (and_lt (wnot_lt ha)) (and_lt (or_lt (wnot_lt ha) hb)))]
  simp only [Nat.testBit_or, Nat.testBit_and, wnot_top]
  rw [top_iff ha, top_iff hb, top_iff (wsub_lt a b)]
  unfold wsub
  by_cases h1 : 2147483648 ≤ a <;> by_cases h2 : 2147483648 ≤ b <;> by_cases h3 : a < b <;> simp [h1, h2, h3] <;> omega

theorem some_bits {a : Nat} (ha : a < 4294967296) : (a ||| wsub 0 a) >>> 31 = if a = 0 then 0 else 1 := by
  rw [shr31 (or_lt ha (wsub_lt 0 a)), Nat.testBit_or, top_iff ha, top_iff (wsub_lt 0 a)]
  unfold wsub
  by_cases h1 : a = 0 <;> by_cases h2 : 2147483648 ≤ a <;> simp [h1, h2] <;> omega

theorem and_ones {a : Nat} (h : a < 4294967296) : a &&& 4294967295 = a := by
  have := Nat.and_two_pow_sub_one_eq_mod a 32
  simp at this; rw [this]; omega

/-- c where the mask is none, b where it is all -/
theorem sel_bits {b c : Nat} (hb : b < 4294967296) (hc : c < 4294967296) (p : Bool) :
    ((b &&& wsub 0 (if p then 1 else 0)) ||| (c &&& wnot (wsub 0 (if p then 1 else 0)))) = if p then b else c := by
  cases p
  · have e1 : wsub 0 0 = 0 := by decide
    have e2 : wnot 0 = 4294967295 := by decide
    simp [e1, e2, and_ones hc]
  · have e1 : wsub 0 1 = 4294967295 := by decide
    have e2 : wnot 4294967295 = 0 := by decide
    simp [e1, e2, and_ones hb]

theorem bit_of {a n : Nat} : (a >>> n) &&& 1 = if a.testBit n then 1 else 0 := by
  rw [Nat.and_one_is_mod, Nat.shiftRight_eq_div_pow, Nat.testBit_eq_decide_div_mod_eq]
  have := Nat.mod_two_eq_zero_or_one (a / 2^n)
  rcases this with h | h <;> simp [h]
end Ev
