import Derived.WalkKit
import Derived.Deep.Draws
/- Words of 32 bits as natural numbers: what the tricks by bits come to. -/
namespace Ev
def W : Nat := 4294967296
/-- the bitwise not of a word -/
def wnot (a : Nat) : Nat := a ^^^ 4294967295
def wsub (a b : Nat) : Nat := (a + 4294967296 - b) % 4294967296
def wadd (a b : Nat) : Nat := (a + b) % 4294967296

theorem top_iff {a : Nat} (h : a < 4294967296) : a.testBit 31 = decide (2147483648 ≤ a) := by
  rw [Nat.testBit_eq_decide_div_mod_eq]
  congr 1
  have : (2:Nat)^31 = 2147483648 := by decide
  rw [this]
  apply propext
  constructor <;> intro h' <;> omega

theorem shr31 {a : Nat} (h : a < 4294967296) : a >>> 31 = if a.testBit 31 then 1 else 0 := by
  rw [top_iff h, Nat.shiftRight_eq_div_pow]
  have : (2:Nat)^31 = 2147483648 := by decide
  rw [this]
  by_cases h2 : 2147483648 ≤ a
  · simp [h2]; omega
  · simp [h2]; omega

theorem and_lt {a b : Nat} (h : a < 4294967296) : a &&& b < 4294967296 := Nat.lt_of_le_of_lt Nat.and_le_left h
theorem or_lt {a b : Nat} (h : a < 4294967296) (k : b < 4294967296) : a ||| b < 4294967296 := Nat.or_lt_two_pow (n := 32) h k
theorem xor_lt {a b : Nat} (h : a < 4294967296) (k : b < 4294967296) : a ^^^ b < 4294967296 := Nat.xor_lt_two_pow (n := 32) h k
theorem wsub_lt (a b : Nat) : wsub a b < 4294967296 := Nat.mod_lt _ (by decide)
theorem wnot_top {a : Nat} : (wnot a).testBit 31 = !a.testBit 31 := by
  unfold wnot
  rw [Nat.testBit_xor]
  have : (4294967295 : Nat).testBit 31 = true := by decide
  rw [this]; cases a.testBit 31 <;> rfl
theorem wnot_lt {a : Nat} (h : a < 4294967296) : wnot a < 4294967296 := xor_lt h (by decide)

/-- 1, if a is below b: by the borrow's bit -/
theorem less_bits {a b : Nat} (ha : a < 4294967296) (hb : b < 4294967296) :
    (((wnot a) &&& b) ||| (((wnot a) ||| b) &&& (wsub a b))) >>> 31 = if a < b then 1 else 0 := by
  rw [shr31 (or_lt (and_lt (wnot_lt ha)) (and_lt (or_lt (wnot_lt ha) hb)))]
  simp only [Nat.testBit_or, Nat.testBit_and, wnot_top]
  rw [top_iff ha, top_iff hb, top_iff (wsub_lt a b)]
  unfold wsub
  by_cases h1 : 2147483648 ≤ a <;> by_cases h2 : 2147483648 ≤ b <;> by_cases h3 : a < b <;> simp [h1, h2, h3] <;> omega

theorem some_bits {a : Nat} (ha : a < 4294967296) : (a ||| wsub 0 a) >>> 31 = if a = 0 then 0 else 1 := by
  rw [shr31 (or_lt ha (wsub_lt 0 a)), Nat.testBit_or, top_iff ha, top_iff (wsub_lt 0 a)]
  unfold wsub
  by_cases h1 : a = 0 <;> by_cases h2 : 2147483648 ≤ a <;> simp [h1, h2] <;> omega

theorem and_ones {a : Nat} (h : a < 4294967296) : a &&& 4294967295 = a := by
  have := Nat.and_two_pow_sub_one_eq_mod a 32
  simp at this; rw [this]; omega

/-- c where the mask is none, b where it is all -/
theorem sel_bits {b c : Nat} (hb : b < 4294967296) (hc : c < 4294967296) (p : Bool) :
    ((b &&& wsub 0 (if p then 1 else 0)) ||| (c &&& wnot (wsub 0 (if p then 1 else 0)))) = if p then b else c := by
  cases p
  · have e1 : wsub 0 0 = 0 := by decide
    have e2 : wnot 0 = 4294967295 := by decide
    simp [e1, e2, and_ones hc]
  · have e1 : wsub 0 1 = 4294967295 := by decide
    have e2 : wnot 4294967295 = 0 := by decide
    simp [e1, e2, and_ones hb]

theorem bit_of {a n : Nat} : (a >>> n) &&& 1 = if a.testBit n then 1 else 0 := by
  rw [Nat.and_one_is_mod, Nat.shiftRight_eq_div_pow, Nat.testBit_eq_decide_div_mod_eq]
  have := Nat.mod_two_eq_zero_or_one (a / 2^n)
  rcases this with h | h <;> simp [h]
end Ev
namespace Ev
def wshl (a n : Nat) : Nat := (a * 2 ^ n) % 4294967296
def wshr (a n : Nat) : Nat := a / 2 ^ n
theorem wshl_add (a m n : Nat) : wshl (wshl a m) n = wshl a (m + n) := by
  unfold wshl
  rw [Nat.mod_mul_mod, Nat.mul_assoc, ← Nat.pow_add]
theorem wshr_add (a m n : Nat) : wshr (wshr a m) n = wshr a (m + n) := by
  unfold wshr
  rw [Nat.div_div_eq_div_mul, ← Nat.pow_add]
def bitN (b k : Nat) : Nat := if b.testBit k then 1 else 0
theorem low5 (b : Nat) : (if b.testBit 0 then 1 else 0) + (if b.testBit 1 then 2 else 0) + (if b.testBit 2 then 4 else 0) + (if b.testBit 3 then 8 else 0) + (if b.testBit 4 then 16 else 0) = b % 32 := by
  have h : ∀ k, k < 5 → b.testBit k = (b % 32).testBit k := fun k hk => by
    have := Nat.testBit_mod_two_pow b 5 k
    simp at this; rw [this]; simp [hk]
  rw [h 0 (by decide), h 1 (by decide), h 2 (by decide), h 3 (by decide), h 4 (by decide)]
  have hb : b % 32 < 32 := Nat.mod_lt _ (by decide)
  generalize b % 32 = m at hb
  clear h
  revert m
  decide
/-- one step of a move by bits -/
def shStep (left : Bool) (b : Nat) (a k : Nat) : Nat := if b.testBit k then (if left then wshl a (2 ^ k) else wshr a (2 ^ k)) else a
theorem shift_bits {left : Bool} {a b : Nat} (ha : a < 4294967296) :
    shStep left b (shStep left b (shStep left b (shStep left b (shStep left b a 0) 1) 2) 3) 4 = if left then wshl a (b % 32) else wshr a (b % 32) := by
  have hl : ∀ a, a < 4294967296 → wshl a 0 = a := fun a h => by unfold wshl; simp; omega
  have hr : ∀ a, wshr a 0 = a := fun a => by unfold wshr; simp
  rw [← low5 b]
  unfold shStep
  cases left
  · simp only [Bool.false_eq_true, if_false]
    cases b.testBit 0 <;> cases b.testBit 1 <;> cases b.testBit 2 <;> cases b.testBit 3 <;> cases b.testBit 4 <;> simp [wshr_add, hr]
  · simp only [if_true]
    cases b.testBit 0 <;> cases b.testBit 1 <;> cases b.testBit 2 <;> cases b.testBit 3 <;> cases b.testBit 4 <;> simp [wshl_add, hl a ha]

theorem mod_succ (b k : Nat) : b % 2 ^ (k + 1) = b % 2 ^ k + 2 ^ k * bitN b k := by
  rw [Nat.mod_pow_succ]
  unfold bitN
  rw [Nat.testBit_eq_decide_div_mod_eq]
  have := Nat.mod_two_eq_zero_or_one (b / 2^k)
  rcases this with h | h <;> simp [h]
def mulTo (a b : Nat) : Nat → Nat
  | 0 => 0
  | k + 1 => wadd (mulTo a b k) (if b.testBit k then wshl a k else 0)
theorem mulTo_eq (a b k : Nat) : mulTo a b k = a * (b % 2 ^ k) % 4294967296 := by
  induction k with
  | zero => simp [mulTo, Nat.mod_one]
  | succ k ih =>
    rw [mulTo, ih, mod_succ]
    unfold wadd wshl bitN
    cases b.testBit k
    · simp
    · simp only [if_true, Nat.mul_one, Nat.mul_add]
      omega
theorem mul_bits {a b : Nat} (hb : b < 4294967296) : mulTo a b 32 = a * b % 4294967296 := by
  rw [mulTo_eq]
  have : (2:Nat)^32 = 4294967296 := by decide
  rw [this, Nat.mod_eq_of_lt hb]

/-- one step of a division, bit by bit: quot, rest -/
def divStep (a b : Nat) (qr : Nat × Nat) (k : Nat) : Nat × Nat :=
  let r2 := wshl qr.2 1 ||| bitN a k
  let fits := bitN qr.2 31 ||| ((if r2 < b then 1 else 0) ^^^ 1)
  (qr.1 ||| wshl fits k, wsub r2 (if fits = 1 then b else 0))
/-- bits 31 down to 32 - n -/
def divTo (a b : Nat) : Nat → Nat × Nat
  | 0 => (0, 0)
  | n + 1 => divStep a b (divTo a b n) (31 - n)
theorem bitN_le (b k : Nat) : bitN b k ≤ 1 := by unfold bitN; split <;> omega
theorem or_low {x y k : Nat} (h : y < 2 ^ k) : (x * 2 ^ k) ||| y = x * 2 ^ k + y := by
  rw [Nat.mul_comm, Nat.two_pow_add_eq_or_of_lt h]
theorem div_succ (a k : Nat) : a / 2 ^ k = 2 * (a / 2 ^ (k + 1)) + bitN a k := by
  unfold bitN
  rw [Nat.testBit_eq_decide_div_mod_eq, Nat.pow_succ, ← Nat.div_div_eq_div_mul]
  have := Nat.mod_two_eq_zero_or_one (a / 2^k)
  rcases this with h | h <;> simp [h] <;> omega
theorem divTo_inv {a b : Nat} (ha : a < 4294967296) (hb : b < 4294967296) (h0 : 0 < b) : ∀ n, n ≤ 32 →
    divTo a b n = (a / 2 ^ (32 - n) / b * 2 ^ (32 - n), a / 2 ^ (32 - n) % b) := by
  intro n
  induction n with
  | zero =>
    intro _
    have h32 : (2:Nat)^32 = 4294967296 := by decide
    have : a / 2 ^ 32 = 0 := Nat.div_eq_of_lt (by omega)
    simp only [divTo, Nat.sub_zero, this]; simp
  | succ n ih =>
    intro hn
    rw [divTo, ih (by omega)]
    have hk : 32 - n = (31 - n) + 1 := by omega
    have hk2 : 32 - (n + 1) = 31 - n := by omega
    rw [hk2]
    have hkl : 31 - n < 32 := by omega
    generalize 31 - n = k at hk hkl
    rw [hk]
    have hA := div_succ a k
    have hbit := bitN_le a k
    generalize hAA : a / 2 ^ (k + 1) = A at hA
    have hAlt : A < 2 ^ (31 - k) := by
      rw [← hAA]
      apply Nat.div_lt_of_lt_mul
      rw [← Nat.pow_add]
      have : k + 1 + (31 - k) = 32 := by omega
      rw [this]
      have : (2:Nat)^32 = 4294967296 := by decide
      omega
    unfold divStep
    simp only
    have hr : A % b < b := Nat.mod_lt _ h0
    have hr2 : wshl (A % b) 1 ||| bitN a k = (2 * (A % b) + bitN a k) % 4294967296 := by
      unfold wshl
      have e : (A % b * 2 ^ 1) % 4294967296 = (A % b % 2147483648) * 2 ^ 1 := by omega
      rw [e, or_low (by omega)]
      omega
    rw [hr2]
    have hover : bitN (A % b) 31 = if 2147483648 ≤ A % b then 1 else 0 := by
      unfold bitN; rw [top_iff (by omega)]; simp
    rw [hover, hA]
    generalize hR : A % b = r at hr
    generalize bitN a k = t at hbit
    have hq : (2 * A + t) / b = 2 * (A / b) + (if b ≤ 2 * r + t then 1 else 0) ∧ (2 * A + t) % b = 2 * r + t - (if b ≤ 2 * r + t then b else 0) := by
      have e : 2 * A + t = b * (2 * (A / b)) + (2 * r + t) := by
        have := Nat.div_add_mod A b
        rw [hR] at this
        rw [Nat.mul_left_comm]; omega
      rw [e, Nat.mul_add_div h0, Nat.mul_add_mod]
      by_cases hc : b ≤ 2 * r + t
      · simp only [hc, if_true]
        have h1 : (2 * r + t) / b = 1 := by
          rw [Nat.div_eq_sub_div h0 hc, Nat.div_eq_of_lt (by omega)]
        have h2 : (2 * r + t) % b = 2 * r + t - b := by
          rw [Nat.mod_eq_sub_mod hc, Nat.mod_eq_of_lt (by omega)]
        exact ⟨by rw [h1], h2⟩
      · simp only [hc, if_false]
        have h1 : (2 * r + t) / b = 0 := Nat.div_eq_of_lt (by omega)
        have h2 : (2 * r + t) % b = 2 * r + t := Nat.mod_eq_of_lt (by omega)
        exact ⟨by rw [h1], by rw [h2]; rfl⟩
    rw [hq.1, hq.2]
    have hfits : ((if 2147483648 ≤ r then 1 else 0) ||| ((if (2 * r + t) % 4294967296 < b then 1 else 0) ^^^ 1)) = if b ≤ 2 * r + t then 1 else 0 := by
      by_cases h1 : 2147483648 ≤ r <;> by_cases h2 : (2 * r + t) % 4294967296 < b <;> by_cases h3 : b ≤ 2 * r + t <;> simp [h1, h2, h3] <;> omega
    rw [hfits]
    refine Prod.ext ?_ ?_
    · simp only
      have hp : 2 ^ k ≤ 2147483648 := by
        have : (2:Nat)^31 = 2147483648 := by decide
        rw [← this]; exact Nat.pow_le_pow_right (by decide) (by omega)
      have hw : ∀ f : Nat, f ≤ 1 → wshl f k = f * 2 ^ k := by
        intro f hf
        unfold wshl
        apply Nat.mod_eq_of_lt
        have : f * 2 ^ k ≤ 1 * 2 ^ k := Nat.mul_le_mul_right _ hf
        omega
      rw [hw _ (by split <;> omega)]
      have e : A / b * 2 ^ (k + 1) = (2 * (A / b)) * 2 ^ k := by rw [Nat.pow_succ]; rw [Nat.mul_comm (2 ^ k) 2, ← Nat.mul_assoc, Nat.mul_comm (A / b) 2]
      rw [e, Nat.add_mul]
      have e2 : (2 * (A / b)) * 2 ^ k = (A / b) * 2 ^ (k + 1) := e.symm
      rw [e2]
      by_cases hc : b ≤ 2 * r + t
      · simp only [hc, if_true, Nat.one_mul]
        exact or_low (Nat.pow_lt_pow_right (by decide) (by omega))
      · simp [hc]
    · simp only
      unfold wsub
      by_cases hc : b ≤ 2 * r + t
      · simp only [hc, if_true]; omega
      · simp only [hc, if_false]; simp; omega
theorem div_bits {a b : Nat} (ha : a < 4294967296) (hb : b < 4294967296) (h0 : 0 < b) : divTo a b 32 = (a / b, a % b) := by
  rw [divTo_inv ha hb h0 32 (Nat.le_refl _)]; simp
theorem divTo_zero {a : Nat} (ha : a < 4294967296) : ∀ n, n ≤ 32 → divTo a 0 n = (4294967296 - 2 ^ (32 - n), a / 2 ^ (32 - n)) := by
  intro n
  induction n with
  | zero =>
    intro _
    have h32 : (2:Nat)^32 = 4294967296 := by decide
    have : a / 2 ^ 32 = 0 := Nat.div_eq_of_lt (by omega)
    simp only [divTo, Nat.sub_zero, this]
  | succ n ih =>
    intro hn
    rw [divTo, ih (by omega)]
    have hk : 32 - n = (31 - n) + 1 := by omega
    have hk2 : 32 - (n + 1) = 31 - n := by omega
    rw [hk2]
    have hkl : 31 - n < 32 := by omega
    generalize 31 - n = k at hk hkl
    rw [hk]
    have hA := div_succ a k
    have hbit := bitN_le a k
    have hAlt : a / 2 ^ (k + 1) < 2147483648 := by
      apply Nat.div_lt_of_lt_mul
      have : 2 ≤ 2 ^ (k + 1) := by
        have := Nat.pow_le_pow_right (n := 2) (by decide) (show 1 ≤ k + 1 by omega); simpa using this
      have : 2 * 2147483648 ≤ 2 ^ (k + 1) * 2147483648 := Nat.mul_le_mul_right _ this
      omega
    unfold divStep
    simp only
    have hr2 : wshl (a / 2 ^ (k + 1)) 1 ||| bitN a k = (2 * (a / 2 ^ (k + 1)) + bitN a k) := by
      unfold wshl
      have e : (a / 2 ^ (k + 1) * 2 ^ 1) % 4294967296 = (a / 2 ^ (k + 1)) * 2 ^ 1 := by omega
      rw [e, or_low (by omega)]
      omega
    have hover : bitN (a / 2 ^ (k + 1)) 31 = 0 := by
      unfold bitN; rw [top_iff (by omega)]; simp; omega
    rw [hr2, hover, ← hA]
    have hp : 2 ^ k ≤ 2147483648 := by
      have : (2:Nat)^31 = 2147483648 := by decide
      rw [← this]; exact Nat.pow_le_pow_right (by decide) (by omega)
    have hpp : 2 ^ (k + 1) = 2 * 2 ^ k := by rw [Nat.pow_succ]; omega
    have hdvd : ∃ q, 4294967296 - 2 ^ (k + 1) = q * 2 ^ (k + 1) := by
      refine ⟨2 ^ (31 - k) - 1, ?_⟩
      have e : (2:Nat) ^ (31 - k) * 2 ^ (k + 1) = 4294967296 := by
        rw [← Nat.pow_add]
        have : 31 - k + (k + 1) = 32 := by omega
        rw [this]
      rw [Nat.sub_mul, e]; omega
    obtain ⟨q, hq⟩ := hdvd
    have hadiv : a / 2 ^ k < 4294967296 := Nat.lt_of_le_of_lt (Nat.div_le_self _ _) ha
    refine Prod.ext ?_ ?_
    · simp only [Nat.not_lt_zero, if_false]
      have : wshl (0 ||| (0 ^^^ 1)) k = 2 ^ k := by
        unfold wshl; simp only [Nat.zero_or, Nat.zero_xor, Nat.one_mul]; omega
      rw [this, hq, or_low (Nat.pow_lt_pow_right (by decide) (by omega)), ← hq]
      omega
    · simp only [Nat.not_lt_zero, if_false]
      unfold wsub; split <;> omega
theorem div_bits_zero {a : Nat} (ha : a < 4294967296) : divTo a 0 32 = (4294967295, a) := by
  rw [divTo_zero ha 32 (Nat.le_refl _)]; simp
end Ev
/- The plain models: what the functions of chapters 1, 2, 7, 8, 11 compute, over lists and integers. -/
namespace Ev
structure Instr where
  op : Int
  d : Int
  a : Int
  b : Int
  c : Int
  imm : Int
structure Vr where
  name : List UInt8
  secret : Bool
  size : Int
structure Flat where
  code : List Instr
  secret : List Bool
  params : Int
  arrays : List Vr
structure Given where
  words : List Int
  arrays : List (List Int)
structure Ended where
  word : Int
  trap : Bool
  arrays : List (List Int)
structure Leak where
  pc : Int
  op : Int
  vals : List Int
structure Ran where
  ended : Ended
  err : Int
  steps : Int
  mode : Int
  leaks : List Leak
structure Image where
  bytes : List UInt8
  params : Int
  arrays : List Vr
instance : Inhabited Instr := ⟨⟨0, 0, 0, 0, 0, 0⟩⟩
instance : Inhabited Vr := ⟨⟨[], false, 0⟩⟩

/-! ### Words -/
def low (n : Int) : Nat := (n % 4294967296).toNat
theorem low_lt (n : Int) : low n < 4294967296 := by unfold low; omega
def isWord (n : Int) : Bool := decide (0 ≤ n) && decide (n ≤ 4294967295)
/-- what an op makes of two words -/
def twoN (op : Int) (x y : Nat) : Nat :=
  if op = 1 then wadd x y
  else if op = 2 then wsub x y
  else if op = 3 then x &&& y
  else if op = 4 then x ||| y
  else if op = 5 then x ^^^ y
  else if op = 6 then wshl x (y % 32)
  else if op = 7 then wshr x (y % 32)
  else if op = 8 then x * y % 4294967296
  else if op = 9 then (if y = 0 then 4294967295 else x / y)
  else if op = 10 then (if y = 0 then x else x % y)
  else if op = 11 then (if x < y then 1 else 0)
  else if op = 12 then (if x = y then 1 else 0)
  else 0
def two (op a b : Int) : Int := (twoN op (low a) (low b) : Int)
/-- ErrKind, if there is no such op -/
def twoErr (op : Int) : Int := if 1 ≤ op ∧ op ≤ 12 then 0 else 1
def sel (a b c : Int) : Int := if low a = 0 then (low c : Int) else (low b : Int)

/-! ### Tables -/
def seenOf (t : List Int) (op : Int) : Int := t.getD op.toNat 0
def all (op : Int) : Int :=
  if 1 ≤ op ∧ op ≤ 12 then 3 else if op = 13 then 7 else if op = 15 then 1 else if op = 16 then 3 else if op = 17 then 3 else 0
/-- All of an op in a table: of a load A alone -/
def most (op : Int) : Int := if op = 16 then 1 else all op
def hasBit (n : Int) (k : Nat) : Bool := (n % 2 ^ (k + 1)) / 2 ^ k == 1
def subBits (n m : Int) : Bool := decide (0 ≤ n) && n.toNat ||| m.toNat == m.toNat
def wrongFrom (t : List Int) : Nat → Nat → Int
  | 0, _ => 0
  | n + 1, op => if subBits (seenOf t op) (most op) then wrongFrom t n (op + 1) else 3
def wrong (t : List Int) : Int := if seenOf t 0 ≠ 0 then 1 else wrongFrom t 17 1

/-! ### Flat instructions -/
def reads (i : Instr) : List Int :=
  if 1 ≤ i.op ∧ i.op ≤ 12 then [i.a, i.b]
  else if i.op = 13 then [i.a, i.b, i.c]
  else if i.op = 17 then [i.a, i.d]
  else if i.op = 15 ∨ i.op = 16 ∨ i.op = 19 ∨ i.op = 20 then [i.a]
  else []
def makes (i : Instr) : Bool := decide (1 ≤ i.op) && decide (i.op ≤ 16)
def isPlace (f : Flat) (p : Int) : Bool := decide (0 ≤ p) && decide (p < f.secret.length)
def sec (s : List Bool) (p : Int) : Bool := s.getD p.toNat false
def arrSec (l : List Vr) (b : Int) : Bool := (l.getD b.toNat default).secret
def numbers (f : Flat) (k : Nat) (i : Instr) : Bool :=
  (reads i).all (isPlace f) && (!makes i || isPlace f i.d) &&
  (if i.op = 14 then isWord i.imm
   else if i.op = 16 ∨ i.op = 17 then decide (0 ≤ i.b) && decide (i.b < f.arrays.length)
   else if i.op = 18 ∨ i.op = 19 then decide ((k : Int) < i.imm) && decide (i.imm < f.code.length)
   else true)
def secrets (f : Flat) (i : Instr) : Bool :=
  if i.op = 16 then sec f.secret i.a || (arrSec f.arrays i.b && !sec f.secret i.d)
  else if i.op = 17 then sec f.secret i.a || (sec f.secret i.d && !arrSec f.arrays i.b)
  else if i.op = 19 then sec f.secret i.a
  else if i.op = 20 then false
  else (reads i).any (sec f.secret) && !sec f.secret i.d
def checkAt (f : Flat) (k : Nat) (i : Instr) : Int :=
  if ¬ (1 ≤ i.op ∧ i.op ≤ 21) then 1 else if numbers f k i = false then 3 else if secrets f i then 10 else 0
def checkFrom (f : Flat) : Nat → List Instr → Int × Int
  | _, [] => (0, -1)
  | k, i :: r => if checkAt f k i = 0 then checkFrom f (k + 1) r else (checkAt f k i, k)
def lastOp (f : Flat) : Int := (f.code.getD (f.code.length - 1) default).op
def check (f : Flat) : Int × Int :=
  if f.code.length < 1 ∨ 12000 < f.code.length ∨ f.params < 0 ∨ f.secret.length < f.params then (4, -1)
  else if (checkFrom f 0 f.code).1 ≠ 0 then checkFrom f 0 f.code
  else if lastOp f = 20 ∨ lastOp f = 21 ∨ lastOp f = 18 then (0, -1) else (8, (f.code.length : Int) - 1)

/-! ### Runs -/
def val (v : List Int) (p : Int) : Int := v.getD p.toNat 0
def seen (t : List Int) (i : Instr) (v : List Int) (al : Bool) : List Int :=
  if i.op = 19 then [val v i.a]
  else if ¬ (1 ≤ i.op ∧ i.op ≤ 17) then []
  else
    let w := if al then all i.op else seenOf t i.op
    (if hasBit w 0 then [val v i.a] else []) ++
    (if hasBit w 1 then (if i.op = 17 then [val v i.d] else if i.op = 16 then [] else [val v i.b]) else []) ++
    (if hasBit w 2 then [val v i.c] else [])
structure St where
  v : List Int
  arrs : List (List Int)
  mode : Int
def arrAt (l : List (List Int)) (b n : Int) : Int := if n < (l.getD b.toNat []).length then val (l.getD b.toNat []) n else 0
/-- one instruction; where it goes on; none: it has ended -/
def step (i : Instr) (k : Nat) (s : St) : St × Option Nat :=
  if i.op ≤ 12 then ({ s with v := s.v.set i.d.toNat (two i.op (val s.v i.a) (val s.v i.b)) }, some (k + 1))
  else if i.op = 13 then ({ s with v := s.v.set i.d.toNat (sel (val s.v i.a) (val s.v i.b) (val s.v i.c)) }, some (k + 1))
  else if i.op = 14 then ({ s with v := s.v.set i.d.toNat i.imm }, some (k + 1))
  else if i.op = 15 then ({ s with v := s.v.set i.d.toNat (val s.v i.a) }, some (k + 1))
  else if i.op = 16 then ({ s with v := s.v.set i.d.toNat (arrAt s.arrs i.b (val s.v i.a)) }, some (k + 1))
  else if i.op = 17 then
    ((if val s.v i.a < (s.arrs.getD i.b.toNat []).length then { s with arrs := s.arrs.set i.b.toNat ((s.arrs.getD i.b.toNat []).set (val s.v i.a).toNat (val s.v i.d)) } else s), some (k + 1))
  else if i.op = 18 then (s, some i.imm.toNat)
  else if i.op = 19 then (s, some (if val s.v i.a = 0 then i.imm.toNat else k + 1))
  else if i.op = 20 ∨ i.op = 21 then (s, none)
  else if i.op = 22 then ({ s with v := s.v.set i.d.toNat s.mode, mode := 1 }, some (k + 1))
  else if i.op = 23 then ({ s with mode := val s.v i.a % 2 }, some (k + 1))
  else (s, some (k + 1))
def endOf (i : Instr) (s : St) : Ended := { word := if i.op = 21 then 0 else val s.v i.a, trap := decide (i.op = 21), arrays := s.arrs }
def leak (t : List Int) (i : Instr) (k : Nat) (s : St) (al : Bool) : Leak := { pc := k, op := i.op, vals := seen t i s.v al }
/-- the run of flat instructions, from one on -/
def runFrom (c : List Instr) (t : List Int) : Nat → Nat → St → Ended × List Leak
  | 0, _, s => (endOf default s, [])
  | n + 1, k, s =>
    let i := c.getD k default
    match step i k s with
    | (s', none) => (endOf i s', [leak t i k s false])
    | (s', some k') => ((runFrom c t n k' s').1, leak t i k s false :: (runFrom c t n k' s').2)
def start (n : Nat) (g : Given) : St := { v := (g.words ++ List.replicate (n - g.words.length) 0).take n, arrs := g.arrays, mode := 0 }
def run (f : Flat) (t : List Int) (g : Given) : Ended × List Leak := runFrom f.code t f.code.length 0 (start f.secret.length g)
end Ev
/- How values in memory read as plain data. -/
namespace Go.Proofs.Ytljcgcllhcdleaa
open Go.RowKit

/-- the slice value v: n elements of 'size' cells each, their cells xs, in a block below B -/
def SL (w : World) (B size : Nat) (v : Value) (n : Nat) (xs : List Value) : Prop :=
  xs.length = n * size ∧ ∃ (A : Option Addr) (c : Nat), v = .slice A n c ∧ n ≤ c ∧ c ≤ maxLen ∧ (A = none → c = 0) ∧
    (0 < n → ∃ b o, A = some ⟨b, o, none⟩ ∧ b < B ∧ ∀ j u, xs[j]? = some u → w.cell? ⟨b, o + j, none⟩ = some u)

section
variable {w w' : World} {B B' size n : Nat} {v : Value} {xs : List Value}
theorem SL.nil_ (w : World) (B size : Nat) : SL w B size (.slice none 0 0) 0 [] :=
  ⟨by simp, none, 0, rfl, Nat.le_refl _, by simp [maxLen], fun _ => rfl, fun h => absurd h (by omega)⟩
theorem SL.below (h : SL w B size v n xs) (hb : Below B w w') : SL w' B size v n xs := by
  obtain ⟨h1, A, c, h2, h3, h4, h5, h6⟩ := h
  refine ⟨h1, A, c, h2, h3, h4, h5, fun hn => ?_⟩
  obtain ⟨b, o, e, hlt, hc⟩ := h6 hn
  exact ⟨b, o, e, hlt, fun j u hu => (hb.cell (p := ⟨b, o + j, none⟩) hlt).trans (hc j u hu)⟩
theorem SL.more (h : SL w B size v n xs) (hB : B ≤ B') : SL w B' size v n xs := by
  obtain ⟨h1, A, c, h2, h3, h4, h5, h6⟩ := h
  refine ⟨h1, A, c, h2, h3, h4, h5, fun hn => ?_⟩
  obtain ⟨b, o, e, hlt, hc⟩ := h6 hn
  exact ⟨b, o, e, by omega, hc⟩
/-- a new block, whole -/
theorem SL.new (w : World) (cs : List Value) (t : TypeId) (k : Nat) (hl : cs.length = n * size) (hm : n ≤ maxLen)
    (hw : w.heap[k]? = some (.cells cs.toArray t)) (hk : k < B) : SL w B size (.slice (some ⟨k, 0, none⟩) n n) n cs := by
  refine ⟨hl, _, _, rfl, Nat.le_refl _, hm, (fun h => by cases h), fun hn => ⟨k, 0, rfl, hk, fun j u hu => ?_⟩⟩
  simp [World.cell?, hw, hu]
end

def RInts (w : World) (B : Nat) (v : Value) (l : List Int) : Prop := SL w B 1 v l.length (l.map (Value.int .i64))
def RBools (w : World) (B : Nat) (v : Value) (l : List Bool) : Prop := SL w B 1 v l.length (l.map Value.bool)
def cellsI (i : Ev.Instr) : List Value := [.int .i64 i.op, .int .i64 i.d, .int .i64 i.a, .int .i64 i.b, .int .i64 i.c, .int .i64 i.imm]
def RCode (w : World) (B : Nat) (v : Value) (l : List Ev.Instr) : Prop := SL w B 6 v l.length (l.flatMap cellsI)
def cellsV (x : Ev.Vr) : List Value := [.string ⟨x.name.toArray⟩, .bool x.secret, .int .i64 x.size]
def RVars (w : World) (B : Nat) (v : Value) (l : List Ev.Vr) : Prop := SL w B 3 v l.length (l.flatMap cellsV)
theorem RInts.lit {W : World} {k n : Nat} {cs : Array Value} {t : TypeId} {l : List Int} (hk : k = W.heap.size) (hn : n = l.length) (hc : cs.toList = l.map (Value.int .i64)) (hm : n ≤ maxLen) :
    RInts (W.alloc (.cells cs t)) (W.alloc (.cells cs t)).heap.size (.slice (some ⟨k, 0, none⟩) n n) l := by
  subst hk hn
  obtain ⟨c⟩ := cs
  simp only at hc
  subst hc
  exact SL.new _ _ t _ (by simp) hm (heap_alloc_new W _) (by simp)
def RBytes (w : World) (B : Nat) (v : Value) (l : List Int) : Prop := SL w B 1 v l.length (l.map (Value.int .u8))
theorem RBytes.lit {W : World} {k n : Nat} {cs : Array Value} {t : TypeId} {l : List Int} (hk : k = W.heap.size) (hn : n = l.length) (hc : cs.toList = l.map (Value.int .u8)) (hm : n ≤ maxLen) :
    RBytes (W.alloc (.cells cs t)) (W.alloc (.cells cs t)).heap.size (.slice (some ⟨k, 0, none⟩) n n) l := by
  subst hk hn
  obtain ⟨c⟩ := cs
  simp only at hc
  subst hc
  exact SL.new _ _ t _ (by simp) hm (heap_alloc_new W _) (by simp)
theorem RBytes.str {P : Program} {w : World} {B : Nat} {v : Value} {l : List Int} (h : RBytes w B v l) (src e : TypeId) (hs : P.underlying src = some (.slice e)) (he : P.underlying e = some (.int .u8)) (dst : TypeId) (hd : P.underlying dst = some .string) :
    (convert src dst v).run P w = .ok (.string (strOfNums l)) w := by
  obtain ⟨hl, A, c, rfl, h1, h2, h3, h4⟩ := h
  by_cases h0 : l.length = 0
  · have : l = [] := List.eq_nil_of_length_eq_zero h0
    subst this
    cases A with
    | none => exact run_convert_bytes_nil w src e hs he _ _ dst hd
    | some a =>
      rw [run_convert_bytes_string w src dst e _ _ c hs he hd]
      have : (loadCells a 0).run P w = .ok #[] w := by
        have := run_loadCells_list (P := P) w a [] (fun j v hj => by simp at hj)
        simpa using this
      show (Conv.bytesToString (.slice (some a) 0 c)).run P w = _
      rw [run_bytesToString w a 0 c [] (by simpa using this)]
      rfl
  · obtain ⟨b, o, rfl, _, hc⟩ := h4 (by omega)
    exact run_convert_bytes_arg w src e hs he b o l.length c l rfl (fun i hi => hc i _ (by simp [List.getD, hi])) dst hd
theorem SL.at_ {w w' : World} {B size n : Nat} {v : Value} {xs : List Value} (h : SL w B size v n xs) (hb : Below w.heap.size w w') (hB : B ≤ w.heap.size) : SL w' w'.heap.size size v n xs := ((h.more hB).below hb).more hb.size
theorem RInts.nil_ {W : World} {B : Nat} {l : List Int} (h : l = []) : RInts W B (.slice none 0 0) l := by subst h; exact SL.nil_ _ _ _
end Go.Proofs.Ytljcgcllhcdleaa
/- Small laws on memory that every walk uses. -/
namespace Go.Proofs.Ytljcgcllhcdleaa
open Go.RowKit
/-- behind a call: what lay there reads as it did -/
theorem bcell {B : Nat} {W w1 : World} (hb : Below B W w1) : (∀ b o, b < B → w1.cell? ⟨b, o, none⟩ = W.cell? ⟨b, o, none⟩) ∧ (∀ b o, b < B → w1.frozen? ⟨b, o, none⟩ = W.frozen? ⟨b, o, none⟩) :=
  ⟨fun b o h => hb.cell (p := ⟨b, o, none⟩) h, fun b o h => hb.frozen (p := ⟨b, o, none⟩) h⟩
theorem bfacts {B : Nat} {W w1 : World} (hb : Below B W w1) : (∀ b o, b < B → w1.cell? ⟨b, o, none⟩ = W.cell? ⟨b, o, none⟩) ∧ (∀ b o, b < B → w1.frozen? ⟨b, o, none⟩ = W.frozen? ⟨b, o, none⟩) ∧ W.heap.size ≤ w1.heap.size :=
  ⟨fun b o h => hb.cell (p := ⟨b, o, none⟩) h, fun b o h => hb.frozen (p := ⟨b, o, none⟩) h, hb.size⟩
end Go.Proofs.Ytljcgcllhcdleaa
/- An element of a slice that reads as a list. -/
namespace Go.Proofs.Ytljcgcllhcdleaa
open Go.RowKit
theorem flatMap_at {α β : Type} {size : Nat} (f : α → List β) (hf : ∀ a, (f a).length = size) : ∀ (l : List α) (k : Nat) (a : α) (j : Nat) (u : β), l[k]? = some a → (f a)[j]? = some u → (l.flatMap f)[k * size + j]? = some u
  | [], k, a, j, u, h, _ => by simp at h
  | x :: r, 0, a, j, u, h, hu => by
    simp at h
    subst h
    have hl := hf x
    simp only [List.flatMap_cons, Nat.zero_mul, Nat.zero_add]
    have hj : j < (f x).length := by
      rcases Nat.lt_or_ge j (f x).length with h1 | h1
      · exact h1
      · rw [List.getElem?_eq_none h1] at hu; cases hu
    rw [List.getElem?_append_left hj]
    exact hu
  | x :: r, k + 1, a, j, u, h, hu => by
    have ih := flatMap_at f hf r k a j u (by simpa using h) hu
    have hl := hf x
    simp only [List.flatMap_cons]
    rw [List.getElem?_append_right (by rw [hl, Nat.succ_mul]; omega)]
    have : (k + 1) * size + j - (f x).length = k * size + j := by rw [hl, Nat.succ_mul]; omega
    rw [this]
    exact ih
theorem SL.form {w : World} {B size n : Nat} {v : Value} {xs : List Value} (h : SL w B size v n xs) : ∃ (A : Option Addr) (c : Nat), v = .slice A n c ∧ n ≤ c ∧ c ≤ maxLen := by
  obtain ⟨_, A, c, rfl, h1, h2, _⟩ := h
  exact ⟨A, c, rfl, h1, h2⟩
/-- the slice's row, where there is an element -/
theorem SL.row {w : World} {B size n : Nat} {v : Value} {xs : List Value} (h : SL w B size v n xs) (hn : 0 < n) :
    ∃ b o c, v = .slice (some ⟨b, o, none⟩) n c ∧ b < B ∧ n ≤ c ∧ c ≤ maxLen ∧ ∀ j u, xs[j]? = some u → w.cell? ⟨b, o + j, none⟩ = some u := by
  obtain ⟨_, A, c, rfl, h1, h2, _, h4⟩ := h
  obtain ⟨b, o, rfl, hb, hc⟩ := h4 hn
  exact ⟨b, o, c, rfl, hb, h1, h2, hc⟩
theorem RInts.at_ {w : World} {B : Nat} {v : Value} {l : List Int} (h : RInts w B v l) {k : Nat} {x : Int} (hk : l[k]? = some x) :
    ∃ b o c, v = .slice (some ⟨b, o, none⟩) l.length c ∧ b < B ∧ k < l.length ∧ l.length ≤ c ∧ c ≤ maxLen ∧ w.cell? ⟨b, o + k, none⟩ = some (.int .i64 x) := by
  have hlt : k < l.length := (List.getElem?_eq_some_iff.1 hk).1
  obtain ⟨b, o, c, e, hb, h1, h2, hc⟩ := SL.row h (by omega)
  exact ⟨b, o, c, e, hb, hlt, h1, h2, hc k _ (by simp [hk])⟩
theorem RBools.at_ {w : World} {B : Nat} {v : Value} {l : List Bool} (h : RBools w B v l) {k : Nat} {x : Bool} (hk : l[k]? = some x) :
    ∃ b o c, v = .slice (some ⟨b, o, none⟩) l.length c ∧ b < B ∧ k < l.length ∧ l.length ≤ c ∧ c ≤ maxLen ∧ w.cell? ⟨b, o + k, none⟩ = some (.bool x) := by
  have hlt : k < l.length := (List.getElem?_eq_some_iff.1 hk).1
  obtain ⟨b, o, c, e, hb, h1, h2, hc⟩ := SL.row h (by omega)
  exact ⟨b, o, c, e, hb, hlt, h1, h2, hc k _ (by simp [hk])⟩
theorem RCode.at_ {w : World} {B : Nat} {v : Value} {l : List Ev.Instr} (h : RCode w B v l) {k : Nat} {i : Ev.Instr} (hk : l[k]? = some i) :
    ∃ b o c, v = .slice (some ⟨b, o, none⟩) l.length c ∧ b < B ∧ k < l.length ∧ l.length ≤ c ∧ c ≤ maxLen ∧ w.cell? ⟨b, o + k * 6, none⟩ = some (.int .i64 i.op) ∧ w.cell? ⟨b, o + k * 6 + 1, none⟩ = some (.int .i64 i.d) ∧
      w.cell? ⟨b, o + k * 6 + 2, none⟩ = some (.int .i64 i.a) ∧ w.cell? ⟨b, o + k * 6 + 3, none⟩ = some (.int .i64 i.b) ∧ w.cell? ⟨b, o + k * 6 + 4, none⟩ = some (.int .i64 i.c) ∧ w.cell? ⟨b, o + k * 6 + 5, none⟩ = some (.int .i64 i.imm) := by
  have hlt : k < l.length := (List.getElem?_eq_some_iff.1 hk).1
  obtain ⟨b, o, c, e, hb, h1, h2, hc⟩ := SL.row h (by omega)
  have hj := fun j u (hu : (cellsI i)[j]? = some u) => hc (k * 6 + j) u (flatMap_at cellsI (fun _ => rfl) l k i j u hk hu)
  simp only [← Nat.add_assoc] at hj
  exact ⟨b, o, c, e, hb, hlt, h1, h2, hj 0 _ rfl, hj 1 _ rfl, hj 2 _ rfl, hj 3 _ rfl, hj 4 _ rfl, hj 5 _ rfl⟩
theorem RVars.at_ {w : World} {B : Nat} {v : Value} {l : List Ev.Vr} (h : RVars w B v l) {k : Nat} {i : Ev.Vr} (hk : l[k]? = some i) :
    ∃ b o c, v = .slice (some ⟨b, o, none⟩) l.length c ∧ b < B ∧ k < l.length ∧ l.length ≤ c ∧ c ≤ maxLen ∧ w.cell? ⟨b, o + k * 3, none⟩ = some (.string ⟨i.name.toArray⟩) ∧ w.cell? ⟨b, o + k * 3 + 1, none⟩ = some (.bool i.secret) ∧
      w.cell? ⟨b, o + k * 3 + 2, none⟩ = some (.int .i64 i.size) := by
  have hlt : k < l.length := (List.getElem?_eq_some_iff.1 hk).1
  obtain ⟨b, o, c, e, hb, h1, h2, hc⟩ := SL.row h (by omega)
  have hj := fun j u (hu : (cellsV i)[j]? = some u) => hc (k * 3 + j) u (flatMap_at cellsV (fun _ => rfl) l k i j u hk hu)
  simp only [← Nat.add_assoc] at hj
  exact ⟨b, o, c, e, hb, hlt, h1, h2, hj 0 _ rfl, hj 1 _ rfl, hj 2 _ rfl⟩
end Go.Proofs.Ytljcgcllhcdleaa
/- The row of a slice, its elements by number. -/
namespace Go.Proofs.Ytljcgcllhcdleaa
open Go.RowKit
theorem RBools.row {w : World} {B : Nat} {v : Value} {l : List Bool} (h : RBools w B v l) (hn : 0 < l.length) :
    ∃ b o c, v = .slice (some ⟨b, o, none⟩) l.length c ∧ b < B ∧ l.length ≤ c ∧ c ≤ maxLen ∧ ∀ k : Nat, k < l.length → w.cell? ⟨b, o + k, none⟩ = some (.bool (Ev.sec l k)) := by
  obtain ⟨b, o, c, e, hb, h1, h2, hc⟩ := SL.row h hn
  exact ⟨b, o, c, e, hb, h1, h2, fun k hk => hc k _ (by simp [Ev.sec, hk])⟩
theorem RInts.row {w : World} {B : Nat} {v : Value} {l : List Int} (h : RInts w B v l) (hn : 0 < l.length) :
    ∃ b o c, v = .slice (some ⟨b, o, none⟩) l.length c ∧ b < B ∧ l.length ≤ c ∧ c ≤ maxLen ∧ ∀ k : Nat, k < l.length → w.cell? ⟨b, o + k, none⟩ = some (.int .i64 (Ev.val l k)) := by
  obtain ⟨b, o, c, e, hb, h1, h2, hc⟩ := SL.row h hn
  exact ⟨b, o, c, e, hb, h1, h2, fun k hk => hc k _ (by simp [Ev.val, hk])⟩
theorem RVars.row {w : World} {B : Nat} {v : Value} {l : List Ev.Vr} (h : RVars w B v l) (hn : 0 < l.length) :
    ∃ b o c, v = .slice (some ⟨b, o, none⟩) l.length c ∧ b < B ∧ l.length ≤ c ∧ c ≤ maxLen ∧ ∀ k : Nat, k < l.length →
      w.cell? ⟨b, o + k * 3, none⟩ = some (.string ⟨(l.getD k default).name.toArray⟩) ∧ w.cell? ⟨b, o + k * 3 + 1, none⟩ = some (.bool (Ev.arrSec l k)) ∧ w.cell? ⟨b, o + k * 3 + 2, none⟩ = some (.int .i64 (l.getD k default).size) := by
  obtain ⟨b, o, c, e, hb, h1, h2, hc⟩ := SL.row h hn
  refine ⟨b, o, c, e, hb, h1, h2, fun k hk => ?_⟩
  have hx : l[k]? = some (l.getD k default) := by simp [hk]
  have hj := fun j u (hu : (cellsV (l.getD k default))[j]? = some u) => hc (k * 3 + j) u (flatMap_at cellsV (fun _ => rfl) l k _ j u hx hu)
  simp only [← Nat.add_assoc] at hj
  exact ⟨hj 0 _ rfl, hj 1 _ (by simp [cellsV, Ev.arrSec]), hj 2 _ rfl⟩
theorem RCode.row {w : World} {B : Nat} {v : Value} {l : List Ev.Instr} (h : RCode w B v l) (hn : 0 < l.length) :
    ∃ b o c, v = .slice (some ⟨b, o, none⟩) l.length c ∧ b < B ∧ l.length ≤ c ∧ c ≤ maxLen ∧ ∀ k i, l[k]? = some i →
      w.cell? ⟨b, o + k * 6, none⟩ = some (.int .i64 i.op) ∧ w.cell? ⟨b, o + k * 6 + 1, none⟩ = some (.int .i64 i.d) ∧
      w.cell? ⟨b, o + k * 6 + 2, none⟩ = some (.int .i64 i.a) ∧ w.cell? ⟨b, o + k * 6 + 3, none⟩ = some (.int .i64 i.b) ∧ w.cell? ⟨b, o + k * 6 + 4, none⟩ = some (.int .i64 i.c) ∧ w.cell? ⟨b, o + k * 6 + 5, none⟩ = some (.int .i64 i.imm) := by
  obtain ⟨b, o, c, e, hb, h1, h2, hc⟩ := SL.row h hn
  refine ⟨b, o, c, e, hb, h1, h2, fun k i hk => ?_⟩
  have hj := fun j u (hu : (cellsI i)[j]? = some u) => hc (k * 6 + j) u (flatMap_at cellsI (fun _ => rfl) l k i j u hk hu)
  simp only [← Nat.add_assoc] at hj
  exact ⟨hj 0 _ rfl, hj 1 _ rfl, hj 2 _ rfl, hj 3 _ rfl, hj 4 _ rfl, hj 5 _ rfl⟩
end Go.Proofs.Ytljcgcllhcdleaa
/- Slices whose row lies from some block on. -/
namespace Go.Proofs.Ytljcgcllhcdleaa
open Go.RowKit
/-- the slice's row, if there is one, lies in a block from lo on -/
def from_ (lo : Nat) (v : Value) : Prop := ∀ a n c, v = .slice (some a) n c → lo ≤ a.block
theorem from_nil (lo n c : Nat) : from_ lo (.slice none n c) := fun a n c h => by cases h
theorem from_some {lo : Nat} {a : Addr} (n c : Nat) (h : lo ≤ a.block) : from_ lo (.slice (some a) n c) := fun a' n' c' e => by cases e; exact h
theorem from_.less {lo lo' : Nat} {v : Value} (h : from_ lo v) (hl : lo' ≤ lo) : from_ lo' v := fun a n c e => Nat.le_trans hl (h a n c e)
/-- a store ahead of it leaves it -/
theorem SL.aside {w : World} {B size n lo : Nat} {v : Value} {xs : List Value} (h : SL w B size v n xs) (hf : from_ lo v) (k o : Nat) (u : Value) (hk : k < lo) : SL (w.setCell ⟨k, o, none⟩ u) B size v n xs := by
  obtain ⟨h1, A, c, rfl, h3, h4, h5, h6⟩ := h
  refine ⟨h1, A, c, rfl, h3, h4, h5, fun hn => ?_⟩
  obtain ⟨b, o', rfl, hlt, hc⟩ := h6 hn
  have hb := hf _ _ _ rfl
  refine ⟨b, o', rfl, hlt, fun j u' hu => ?_⟩
  have hne : k ≠ b := by simp only at hb; omega
  rw [← hc j u' hu]
  unfold World.setCell World.cell?
  simp only [Array.getElem?_modify, hne, if_false]

end Go.Proofs.Ytljcgcllhcdleaa
/- An operation on a map, taken by what its run is known to be. -/
namespace Go.Proofs.Ytljcgcllhcdleaa
open Go.RowKit
section
variable {P : Program} {w : World} {ops : Array Oper} {rest : List Oper} {o : Oper} {a : Act} {Q : Exit → Act → World → Prop}
theorem wpList_insert_run (hg : o.guard = none) (m x v : Operand) (t : TypeId) (hop : o.op = Op.insert t m x v) (mv xv vv : Value) (hm : a.eval m = mv) (hx : a.eval x = xv) (hv : a.eval v = vv) (w' : World)
    (hrun : (Instr.mapUpdate t mv xv vv).run P w = .ok () w') (hK : wpList P ops Q rest (a.put o.dst undef) w') : wpList P ops Q (o :: rest) a w := by
  refine wpList_plain hg fun K' hK' => ?_
  unfold Oper.wp
  simp [execOp, hop, hm, hx, hv, hrun, Result.andThen]
  exact hK' _ _ hK
theorem wpList_update_run (hg : o.guard = none) (m x v : Operand) (t : TypeId) (hop : o.op = Op.mapUpdate t m x v) (mv xv vv : Value) (hm : a.eval m = mv) (hx : a.eval x = xv) (hv : a.eval v = vv) (w' : World)
    (hrun : (Instr.mapUpdate t mv xv vv).run P w = .ok () w') (hK : wpList P ops Q rest (a.put o.dst undef) w') : wpList P ops Q (o :: rest) a w := by
  refine wpList_plain hg fun K' hK' => ?_
  unfold Oper.wp
  simp [execOp, hop, hm, hx, hv, hrun, Result.andThen]
  exact hK' _ _ hK
theorem wpList_lookup_run (hg : o.guard = none) (m x : Operand) (t : TypeId) (ok : Bool) (hop : o.op = Op.lookup t m x ok) (mv xv r : Value) (hm : a.eval m = mv) (hx : a.eval x = xv) (w' : World)
    (hrun : (Instr.lookup t mv xv ok).run P w = .ok r w') (hK : wpList P ops Q rest (a.put o.dst r) w') : wpList P ops Q (o :: rest) a w := by
  refine wpList_plain hg fun K' hK' => ?_
  unfold Oper.wp
  simp [execOp, hop, hm, hx, hrun, Result.andThen]
  exact hK' _ _ hK
end
end Go.Proofs.Ytljcgcllhcdleaa
