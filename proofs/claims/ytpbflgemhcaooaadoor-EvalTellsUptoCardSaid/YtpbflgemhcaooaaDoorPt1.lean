import Derived.Lib.AtoiAll
import Derived.Lib.ItoaNum
import Derived.Lib.IndexMore
/- Words of 32 bits as natural numbers: what the tricks by bits come to. -/
namespace Ev
def W : Nat := 4294967296
/-- the bitwise not of a word -/
def wnot (a : Nat) : Nat := a ^^^ 4294967295
def wsub (a b : Nat) : Nat := (a + 4294967296 - b) % 4294967296
def wadd (a b : Nat) : Nat := (a + b) % 4294967296

theorem top_iff {a : Nat} (h : a < 4294967296) : a.testBit 31 = decide (2147483648 ≤ a) := by
  rw [Nat.testBit_eq_decide_div_mod_eq]
  congr 1
  have : (2:Nat)^31 = 2147483648 := by decide
  rw [this]
  apply propext
  constructor <;> intro h' <;> omega

theorem shr31 {a : Nat} (h : a < 4294967296) : a >>> 31 = if a.testBit 31 then 1 else 0 := by
  rw [top_iff h, Nat.shiftRight_eq_div_pow]
  have : (2:Nat)^31 = 2147483648 := by decide
  rw [this]
  by_cases h2 : 2147483648 ≤ a
  · simp [h2]; omega
  · simp [h2]; omega

theorem and_lt {a b : Nat} (h : a < 4294967296) : a &&& b < 4294967296 := Nat.lt_of_le_of_lt Nat.and_le_left h
theorem or_lt {a b : Nat} (h : a < 4294967296) (k : b < 4294967296) : a ||| b < 4294967296 := Nat.or_lt_two_pow (n := 32) h k
theorem xor_lt {a b : Nat} (h : a < 4294967296) (k : b < 4294967296) : a ^^^ b < 4294967296 := Nat.xor_lt_two_pow (n := 32) h k
theorem wsub_lt (a b : Nat) : wsub a b < 4294967296 := Nat.mod_lt _ (by decide)
theorem wnot_top {a : Nat} : (wnot a).testBit 31 = !a.testBit 31 := by
  unfold wnot
  rw [Nat.testBit_xor]
  have : (4294967295 : Nat).testBit 31 = true := by decide
  rw [this]; cases a.testBit 31 <;> rfl
theorem wnot_lt {a : Nat} (h : a < 4294967296) : wnot a < 4294967296 := xor_lt h (by decide)

/-- 1, if a is below b: by the borrow's bit -/
theorem less_bits {a b : Nat} (ha : a < 4294967296) (hb : b < 4294967296) :
    (((wnot a) &&& b) ||| (((wnot a) ||| b) &&& (wsub a b))) >>> 31 = if a < b then 1 else 0 := by
  rw [shr31 (or_lt (and_lt (wnot_lt ha)) (and_lt (or_lt (wnot_lt ha) hb)))]
  simp only [Nat.testBit_or, Nat.testBit_and, wnot_top]
  rw [top_iff ha, top_iff hb, top_iff (wsub_lt a b)]
  unfold wsub
  by_cases h1 : 2147483648 ≤ a <;> by_cases h2 : 2147483648 ≤ b <;> by_cases h3 : a < b <;> simp [h1, h2, h3] <;> omega

theorem some_bits {a : Nat} (ha : a < 4294967296) : (a ||| wsub 0 a) >>> 31 = if a = 0 then 0 else 1 := by
  rw [shr31 (or_lt ha (wsub_lt 0 a)), Nat.testBit_or, top_iff ha, top_iff (wsub_lt 0 a)]
  unfold wsub
  by_cases h1 : a = 0 <;> by_cases h2 : 2147483648 ≤ a <;> simp [h1, h2] <;> omega

theorem and_ones {a : Nat} (h : a < 4294967296) : a &&& 4294967295 = a := by
  have := Nat.and_two_pow_sub_one_eq_mod a 32
  simp at this; rw [this]; omega

/-- c where the mask is none, b where it is all -/
theorem sel_bits {b c : Nat} (hb : b < 4294967296) (hc : c < 4294967296) (p : Bool) :
    ((b &&& wsub 0 (if p then 1 else 0)) ||| (c &&& wnot (wsub 0 (if p then 1 else 0)))) = if p then b else c := by
  cases p
  · have e1 : wsub 0 0 = 0 := by decide
    have e2 : wnot 0 = 4294967295 := by decide
    simp [e1, e2, and_ones hc]
  · have e1 : wsub 0 1 = 4294967295 := by decide
    have e2 : wnot 4294967295 = 0 := by decide
    simp [e1, e2, and_ones hb]

theorem bit_of {a n : Nat} : (a >>> n) &&& 1 = if a.testBit n then 1 else 0 := by
  rw [Nat.and_one_is_mod, Nat.shiftRight_eq_div_pow, Nat.testBit_eq_decide_div_mod_eq]
  have := Nat.mod_two_eq_zero_or_one (a / 2^n)
  rcases this with h | h <;> simp [h]
end Ev
namespace Ev
def wshl (a n : Nat) : Nat := (a * 2 ^ n) % 4294967296
def wshr (a n : Nat) : Nat := a / 2 ^ n
theorem wshl_add (a m n : Nat) : wshl (wshl a m) n = wshl a (m + n) := by
  unfold wshl
  rw [Nat.mod_mul_mod, Nat.mul_assoc, ← Nat.pow_add]
theorem wshr_add (a m n : Nat) : wshr (wshr a m) n = wshr a (m + n) := by
  unfold wshr
  rw [Nat.div_div_eq_div_mul, ← Nat.pow_add]
def bitN (b k : Nat) : Nat := if b.testBit k then 1 else 0
theorem low5 (b : Nat) : (if b.testBit 0 then 1 else 0) + (if b.testBit 1 then 2 else 0) + (if b.testBit 2 then 4 else 0) + (if b.testBit 3 then 8 else 0) + (if b.testBit 4 then 16 else 0) = b % 32 := by
  have h : ∀ k, k < 5 → b.testBit k = (b % 32).testBit k := fun k hk => by
    have := Nat.testBit_mod_two_pow b 5 k
    simp at this; rw [this]; simp [hk]
  rw [h 0 (by decide), h 1 (by decide), h 2 (by decide), h 3 (by decide), h 4 (by decide)]
  have hb : b % 32 < 32 := Nat.mod_lt _ (by decide)
  generalize b % 32 = m at hb
  clear h
  revert m
  decide
/-- one step of a move by bits -/
def shStep (left : Bool) (b : Nat) (a k : Nat) : Nat := if b.testBit k then (if left then wshl a (2 ^ k) else wshr a (2 ^ k)) else a
theorem shift_bits {left : Bool} {a b : Nat} (ha : a < 4294967296) :
    shStep left b (shStep left b (shStep left b (shStep left b (shStep left b a 0) 1) 2) 3) 4 = if left then wshl a (b % 32) else wshr a (b % 32) := by
  have hl : ∀ a, a < 4294967296 → wshl a 0 = a := fun a h => by unfold wshl; simp; omega
  have hr : ∀ a, wshr a 0 = a := fun a => by unfold wshr; simp
  rw [← low5 b]
  unfold shStep
  cases left
  · simp only [Bool.false_eq_true, if_false]
    cases b.testBit 0 <;> cases b.testBit 1 <;> cases b.testBit 2 <;> cases b.testBit 3 <;> cases b.testBit 4 <;> simp [wshr_add, hr]
  · simp only [if_true]
    cases b.testBit 0 <;> cases b.testBit 1 <;> cases b.testBit 2 <;> cases b.testBit 3 <;> cases b.testBit 4 <;> simp [wshl_add, hl a ha]

theorem mod_succ (b k : Nat) : b % 2 ^ (k + 1) = b % 2 ^ k + 2 ^ k * bitN b k := by
  rw [Nat.mod_pow_succ]
  unfold bitN
  rw [Nat.testBit_eq_decide_div_mod_eq]
  have := Nat.mod_two_eq_zero_or_one (b / 2^k)
  rcases this with h | h <;> simp [h]
def mulTo (a b : Nat) : Nat → Nat
  | 0 => 0
  | k + 1 => wadd (mulTo a b k) (if b.testBit k then wshl a k else 0)
theorem mulTo_eq (a b k : Nat) : mulTo a b k = a * (b % 2 ^ k) % 4294967296 := by
  induction k with
  | zero => simp [mulTo, Nat.mod_one]
  | succ k ih =>
    rw [mulTo, ih, mod_succ]
    unfold wadd wshl bitN
    cases b.testBit k
    · simp
    · simp only [if_true, Nat.mul_one, Nat.mul_add]
      omega
theorem mul_bits {a b : Nat} (hb : b < 4294967296) : mulTo a b 32 = a * b % 4294967296 := by
  rw [mulTo_eq]
  have : (2:Nat)^32 = 4294967296 := by decide
  rw [this, Nat.mod_eq_of_lt hb]

/-- one step of a division, bit by bit: quot, rest -/
def divStep (a b : Nat) (qr : Nat × Nat) (k : Nat) : Nat × Nat :=
  let r2 := wshl qr.2 1 ||| bitN a k
  let fits := bitN qr.2 31 ||| ((if r2 < b then 1 else 0) ^^^ 1)
  (qr.1 ||| wshl fits k, wsub r2 (if fits = 1 then b else 0))
/-- bits 31 down to 32 - n -/
def divTo (a b : Nat) : Nat → Nat × Nat
  | 0 => (0, 0)
  | n + 1 => divStep a b (divTo a b n) (31 - n)
theorem bitN_le (b k : Nat) : bitN b k ≤ 1 := by unfold bitN; split <;> omega
theorem or_low {x y k : Nat} (h : y < 2 ^ k) : (x * 2 ^ k) ||| y = x * 2 ^ k + y := by
  rw [Nat.mul_comm, Nat.two_pow_add_eq_or_of_lt h]
theorem div_succ (a k : Nat) : a / 2 ^ k = 2 * (a / 2 ^ (k + 1)) + bitN a k := by
  unfold bitN
  rw [Nat.testBit_eq_decide_div_mod_eq, Nat.pow_succ, ← Nat.div_div_eq_div_mul]
  have := Nat.mod_two_eq_zero_or_one (a / 2^k)
  rcases this with h | h <;> simp [h] <;> omega
theorem divTo_inv {a b : Nat} (ha : a < 4294967296) (hb : b < 4294967296) (h0 : 0 < b) : ∀ n, n ≤ 32 →
    divTo a b n = (a / 2 ^ (32 - n) / b * 2 ^ (32 - n), a / 2 ^ (32 - n) % b) := by
  intro n
  induction n with
  | zero =>
    intro _
    have h32 : (2:Nat)^32 = 4294967296 := by decide
    have : a / 2 ^ 32 = 0 := Nat.div_eq_of_lt (by omega)
    simp only [divTo, Nat.sub_zero, this]; simp
  | succ n ih =>
    intro hn
    rw [divTo, ih (by omega)]
    have hk : 32 - n = (31 - n) + 1 := by omega
    have hk2 : 32 - (n + 1) = 31 - n := by omega
    rw [hk2]
    have hkl : 31 - n < 32 := by omega
    generalize 31 - n = k at hk hkl
    rw [hk]
    have hA := div_succ a k
    have hbit := bitN_le a k
    generalize hAA : a / 2 ^ (k + 1) = A at hA
    have hAlt : A < 2 ^ (31 - k) := by
      rw [← hAA]
      apply Nat.div_lt_of_lt_mul
      rw [← Nat.pow_add]
      have : k + 1 + (31 - k) = 32 := by omega
      rw [this]
      have : (2:Nat)^32 = 4294967296 := by decide
      omega
    unfold divStep
    simp only
    have hr : A % b < b := Nat.mod_lt _ h0
    have hr2 : wshl (A % b) 1 ||| bitN a k = (2 * (A % b) + bitN a k) % 4294967296 := by
      unfold wshl
      have e : (A % b * 2 ^ 1) % 4294967296 = (A % b % 2147483648) * 2 ^ 1 := by omega
      rw [e, or_low (by omega)]
      omega
    rw [hr2]
    have hover : bitN (A % b) 31 = if 2147483648 ≤ A % b then 1 else 0 := by
      unfold bitN; rw [top_iff (by omega)]; simp
    rw [hover, hA]
    generalize hR : A % b = r at hr
    generalize bitN a k = t at hbit
    have hq : (2 * A + t) / b = 2 * (A / b) + (if b ≤ 2 * r + t then 1 else 0) ∧ (2 * A + t) % b = 2 * r + t - (if b ≤ 2 * r + t then b else 0) := by
      have e : 2 * A + t = b * (2 * (A / b)) + (2 * r + t) := by
        have := Nat.div_add_mod A b
        rw [hR] at this
        rw [Nat.mul_left_comm]; omega
      rw [e, Nat.mul_add_div h0, Nat.mul_add_mod]
      by_cases hc : b ≤ 2 * r + t
      · simp only [hc, if_true]
        have h1 : (2 * r + t) / b = 1 := by
          rw [Nat.div_eq_sub_div h0 hc, Nat.div_eq_of_lt (by omega)]
        have h2 : (2 * r + t) % b = 2 * r + t - b := by
          rw [Nat.mod_eq_sub_mod hc, Nat.mod_eq_of_lt (by omega)]
        exact ⟨by rw [h1], h2⟩
      · simp only [hc, if_false]
        have h1 : (2 * r + t) / b = 0 := Nat.div_eq_of_lt (by omega)
        have h2 : (2 * r + t) % b = 2 * r + t := Nat.mod_eq_of_lt (by omega)
        exact ⟨by rw [h1], by rw [h2]; rfl⟩
    rw [hq.1, hq.2]
    have hfits : ((if 2147483648 ≤ r then 1 else 0) ||| ((if (2 * r + t) % 4294967296 < b then 1 else 0) ^^^ 1)) = if b ≤ 2 * r + t then 1 else 0 := by
      by_cases h1 : 2147483648 ≤ r <;> by_cases h2 : (2 * r + t) % 4294967296 < b <;> by_cases h3 : b ≤ 2 * r + t <;> simp [h1, h2, h3] <;> omega
    rw [hfits]
    refine Prod.ext ?_ ?_
    · simp only
      have hp : 2 ^ k ≤ 2147483648 := by
        have : (2:Nat)^31 = 2147483648 := by decide
        rw [← this]; exact Nat.pow_le_pow_right (by decide) (by omega)
      have hw : ∀ f : Nat, f ≤ 1 → wshl f k = f * 2 ^ k := by
        intro f hf
        unfold wshl
        apply Nat.mod_eq_of_lt
        have : f * 2 ^ k ≤ 1 * 2 ^ k := Nat.mul_le_mul_right _ hf
        omega
      rw [hw _ (by split <;> omega)]
      have e : A / b * 2 ^ (k + 1) = (2 * (A / b)) * 2 ^ k := by rw [Nat.pow_succ]; rw [Nat.mul_comm (2 ^ k) 2, ← Nat.mul_assoc, Nat.mul_comm (A / b) 2]
      rw [e, Nat.add_mul]
      have e2 : (2 * (A / b)) * 2 ^ k = (A / b) * 2 ^ (k + 1) := e.symm
      rw [e2]
      by_cases hc : b ≤ 2 * r + t
      · simp only [hc, if_true, Nat.one_mul]
        exact or_low (Nat.pow_lt_pow_right (by decide) (by omega))
      · simp [hc]
    · simp only
      unfold wsub
      by_cases hc : b ≤ 2 * r + t
      · simp only [hc, if_true]; omega
      · simp only [hc, if_false]; simp; omega
theorem div_bits {a b : Nat} (ha : a < 4294967296) (hb : b < 4294967296) (h0 : 0 < b) : divTo a b 32 = (a / b, a % b) := by
  rw [divTo_inv ha hb h0 32 (Nat.le_refl _)]; simp
theorem divTo_zero {a : Nat} (ha : a < 4294967296) : ∀ n, n ≤ 32 → divTo a 0 n = (4294967296 - 2 ^ (32 - n), a / 2 ^ (32 - n)) := by
  intro n
  induction n with
  | zero =>
    intro _
    have h32 : (2:Nat)^32 = 4294967296 := by decide
    have : a / 2 ^ 32 = 0 := Nat.div_eq_of_lt (by omega)
    simp only [divTo, Nat.sub_zero, this]
  | succ n ih =>
    intro hn
    rw [divTo, ih (by omega)]
    have hk : 32 - n = (31 - n) + 1 := by omega
    have hk2 : 32 - (n + 1) = 31 - n := by omega
    rw [hk2]
    have hkl : 31 - n < 32 := by omega
    generalize 31 - n = k at hk hkl
    rw [hk]
    have hA := div_succ a k
    have hbit := bitN_le a k
    have hAlt : a / 2 ^ (k + 1) < 2147483648 := by
      apply Nat.div_lt_of_lt_mul
      have : 2 ≤ 2 ^ (k + 1) := by
        have := Nat.pow_le_pow_right (n := 2) (by decide) (show 1 ≤ k + 1 by omega); simpa using this
      have : 2 * 2147483648 ≤ 2 ^ (k + 1) * 2147483648 := Nat.mul_le_mul_right _ this
      omega
    unfold divStep
    simp only
    have hr2 : wshl (a / 2 ^ (k + 1)) 1 ||| bitN a k = (2 * (a / 2 ^ (k + 1)) + bitN a k) := by
      unfold wshl
      have e : (a / 2 ^ (k + 1) * 2 ^ 1) % 4294967296 = (a / 2 ^ (k + 1)) * 2 ^ 1 := by omega
      rw [e, or_low (by omega)]
      omega
    have hover : bitN (a / 2 ^ (k + 1)) 31 = 0 := by
      unfold bitN; rw [top_iff (by omega)]; simp; omega
    rw [hr2, hover, ← hA]
    have hp : 2 ^ k ≤ 2147483648 := by
      have : (2:Nat)^31 = 2147483648 := by decide
      rw [← this]; exact Nat.pow_le_pow_right (by decide) (by omega)
    have hpp : 2 ^ (k + 1) = 2 * 2 ^ k := by rw [Nat.pow_succ]; omega
    have hdvd : ∃ q, 4294967296 - 2 ^ (k + 1) = q * 2 ^ (k + 1) := by
      refine ⟨2 ^ (31 - k) - 1, ?_⟩
      have e : (2:Nat) ^ (31 - k) * 2 ^ (k + 1) = 4294967296 := by
        rw [← Nat.pow_add]
        have : 31 - k + (k + 1) = 32 := by omega
        rw [this]
      rw [Nat.sub_mul, e]; omega
    obtain ⟨q, hq⟩ := hdvd
    have hadiv : a / 2 ^ k < 4294967296 := Nat.lt_of_le_of_lt (Nat.div_le_self _ _) ha
    refine Prod.ext ?_ ?_
    · simp only [Nat.not_lt_zero, if_false]
      have : wshl (0 ||| (0 ^^^ 1)) k = 2 ^ k := by
        unfold wshl; simp only [Nat.zero_or, Nat.zero_xor, Nat.one_mul]; omega
      rw [this, hq, or_low (Nat.pow_lt_pow_right (by decide) (by omega)), ← hq]
      omega
    · simp only [Nat.not_lt_zero, if_false]
      unfold wsub; split <;> omega
theorem div_bits_zero {a : Nat} (ha : a < 4294967296) : divTo a 0 32 = (4294967295, a) := by
  rw [divTo_zero ha 32 (Nat.le_refl _)]; simp
end Ev
/- The plain models: what the functions of chapters 1, 2, 7, 8, 11 compute, over lists and integers. -/
namespace Ev
structure Instr where
  op : Int
  d : Int
  a : Int
  b : Int
  c : Int
  imm : Int
structure Vr where
  name : List UInt8
  secret : Bool
  size : Int
structure Flat where
  code : List Instr
  secret : List Bool
  params : Int
  arrays : List Vr
structure Given where
  words : List Int
  arrays : List (List Int)
structure Ended where
  word : Int
  trap : Bool
  arrays : List (List Int)
structure Leak where
  pc : Int
  op : Int
  vals : List Int
structure Ran where
  ended : Ended
  err : Int
  steps : Int
  mode : Int
  leaks : List Leak
structure Image where
  bytes : List UInt8
  params : Int
  arrays : List Vr
instance : Inhabited Instr := ⟨⟨0, 0, 0, 0, 0, 0⟩⟩
instance : Inhabited Vr := ⟨⟨[], false, 0⟩⟩

/-! ### Words -/
def low (n : Int) : Nat := (n % 4294967296).toNat
theorem low_lt (n : Int) : low n < 4294967296 := by unfold low; omega
def isWord (n : Int) : Bool := decide (0 ≤ n) && decide (n ≤ 4294967295)
/-- what an op makes of two words -/
def twoN (op : Int) (x y : Nat) : Nat :=
  if op = 1 then wadd x y
  else if op = 2 then wsub x y
  else if op = 3 then x &&& y
  else if op = 4 then x ||| y
  else if op = 5 then x ^^^ y
  else if op = 6 then wshl x (y % 32)
  else if op = 7 then wshr x (y % 32)
  else if op = 8 then x * y % 4294967296
  else if op = 9 then (if y = 0 then 4294967295 else x / y)
  else if op = 10 then (if y = 0 then x else x % y)
  else if op = 11 then (if x < y then 1 else 0)
  else if op = 12 then (if x = y then 1 else 0)
  else 0
def two (op a b : Int) : Int := (twoN op (low a) (low b) : Int)
/-- ErrKind, if there is no such op -/
def twoErr (op : Int) : Int := if 1 ≤ op ∧ op ≤ 12 then 0 else 1
def sel (a b c : Int) : Int := if low a = 0 then (low c : Int) else (low b : Int)

/-! ### Tables -/
def seenOf (t : List Int) (op : Int) : Int := t.getD op.toNat 0
def all (op : Int) : Int :=
  if 1 ≤ op ∧ op ≤ 12 then 3 else if op = 13 then 7 else if op = 15 then 1 else if op = 16 then 3 else if op = 17 then 3 else 0
/-- All of an op in a table: of a load A alone -/
def most (op : Int) : Int := if op = 16 then 1 else all op
def hasBit (n : Int) (k : Nat) : Bool := (n % 2 ^ (k + 1)) / 2 ^ k == 1
def subBits (n m : Int) : Bool := decide (0 ≤ n) && n.toNat ||| m.toNat == m.toNat
def wrongFrom (t : List Int) : Nat → Nat → Int
  | 0, _ => 0
  | n + 1, op => if subBits (seenOf t op) (most op) then wrongFrom t n (op + 1) else 3
def wrong (t : List Int) : Int := if seenOf t 0 ≠ 0 then 1 else wrongFrom t 17 1

/-! ### Flat instructions -/
def reads (i : Instr) : List Int :=
  if 1 ≤ i.op ∧ i.op ≤ 12 then [i.a, i.b]
  else if i.op = 13 then [i.a, i.b, i.c]
  else if i.op = 17 then [i.a, i.d]
  else if i.op = 15 ∨ i.op = 16 ∨ i.op = 19 ∨ i.op = 20 then [i.a]
  else []
def makes (i : Instr) : Bool := decide (1 ≤ i.op) && decide (i.op ≤ 16)
def isPlace (f : Flat) (p : Int) : Bool := decide (0 ≤ p) && decide (p < f.secret.length)
def sec (s : List Bool) (p : Int) : Bool := s.getD p.toNat false
def arrSec (l : List Vr) (b : Int) : Bool := (l.getD b.toNat default).secret
def numbers (f : Flat) (k : Nat) (i : Instr) : Bool :=
  (reads i).all (isPlace f) && (!makes i || isPlace f i.d) &&
  (if i.op = 14 then isWord i.imm
   else if i.op = 16 ∨ i.op = 17 then decide (0 ≤ i.b) && decide (i.b < f.arrays.length)
   else if i.op = 18 ∨ i.op = 19 then decide ((k : Int) < i.imm) && decide (i.imm < f.code.length)
   else true)
def secrets (f : Flat) (i : Instr) : Bool :=
  if i.op = 16 then sec f.secret i.a || (arrSec f.arrays i.b && !sec f.secret i.d)
  else if i.op = 17 then sec f.secret i.a || (sec f.secret i.d && !arrSec f.arrays i.b)
  else if i.op = 19 then sec f.secret i.a
  else if i.op = 20 then false
  else (reads i).any (sec f.secret) && !sec f.secret i.d
def checkAt (f : Flat) (k : Nat) (i : Instr) : Int :=
  if ¬ (1 ≤ i.op ∧ i.op ≤ 21) then 1 else if numbers f k i = false then 3 else if secrets f i then 10 else 0
def checkFrom (f : Flat) : Nat → List Instr → Int × Int
  | _, [] => (0, -1)
  | k, i :: r => if checkAt f k i = 0 then checkFrom f (k + 1) r else (checkAt f k i, k)
def lastOp (f : Flat) : Int := (f.code.getD (f.code.length - 1) default).op
def check (f : Flat) : Int × Int :=
  if f.code.length < 1 ∨ 12000 < f.code.length ∨ f.params < 0 ∨ f.secret.length < f.params then (4, -1)
  else if (checkFrom f 0 f.code).1 ≠ 0 then checkFrom f 0 f.code
  else if lastOp f = 20 ∨ lastOp f = 21 ∨ lastOp f = 18 then (0, -1) else (8, (f.code.length : Int) - 1)

/-! ### Runs -/
def val (v : List Int) (p : Int) : Int := v.getD p.toNat 0
def seen (t : List Int) (i : Instr) (v : List Int) (al : Bool) : List Int :=
  if i.op = 19 then [val v i.a]
  else if ¬ (1 ≤ i.op ∧ i.op ≤ 17) then []
  else
    let w := if al then all i.op else seenOf t i.op
    (if hasBit w 0 then [val v i.a] else []) ++
    (if hasBit w 1 then (if i.op = 17 then [val v i.d] else if i.op = 16 then [] else [val v i.b]) else []) ++
    (if hasBit w 2 then [val v i.c] else [])
structure St where
  v : List Int
  arrs : List (List Int)
  mode : Int
def arrAt (l : List (List Int)) (b n : Int) : Int := if n < (l.getD b.toNat []).length then val (l.getD b.toNat []) n else 0
/-- one instruction; where it goes on; none: it has ended -/
def step (i : Instr) (k : Nat) (s : St) : St × Option Nat :=
  if i.op ≤ 12 then ({ s with v := s.v.set i.d.toNat (two i.op (val s.v i.a) (val s.v i.b)) }, some (k + 1))
  else if i.op = 13 then ({ s with v := s.v.set i.d.toNat (sel (val s.v i.a) (val s.v i.b) (val s.v i.c)) }, some (k + 1))
  else if i.op = 14 then ({ s with v := s.v.set i.d.toNat i.imm }, some (k + 1))
  else if i.op = 15 then ({ s with v := s.v.set i.d.toNat (val s.v i.a) }, some (k + 1))
  else if i.op = 16 then ({ s with v := s.v.set i.d.toNat (arrAt s.arrs i.b (val s.v i.a)) }, some (k + 1))
  else if i.op = 17 then
    ((if val s.v i.a < (s.arrs.getD i.b.toNat []).length then { s with arrs := s.arrs.set i.b.toNat ((s.arrs.getD i.b.toNat []).set (val s.v i.a).toNat (val s.v i.d)) } else s), some (k + 1))
  else if i.op = 18 then (s, some i.imm.toNat)
  else if i.op = 19 then (s, some (if val s.v i.a = 0 then i.imm.toNat else k + 1))
  else if i.op = 20 ∨ i.op = 21 then (s, none)
  else if i.op = 22 then ({ s with v := s.v.set i.d.toNat s.mode, mode := 1 }, some (k + 1))
  else if i.op = 23 then ({ s with mode := val s.v i.a % 2 }, some (k + 1))
  else (s, some (k + 1))
def endOf (i : Instr) (s : St) : Ended := { word := if i.op = 21 then 0 else val s.v i.a, trap := decide (i.op = 21), arrays := s.arrs }
def leak (t : List Int) (i : Instr) (k : Nat) (s : St) (al : Bool) : Leak := { pc := k, op := i.op, vals := seen t i s.v al }
/-- the run of flat instructions, from one on -/
def runFrom (c : List Instr) (t : List Int) : Nat → Nat → St → Ended × List Leak
  | 0, _, s => (endOf default s, [])
  | n + 1, k, s =>
    let i := c.getD k default
    match step i k s with
    | (s', none) => (endOf i s', [leak t i k s false])
    | (s', some k') => ((runFrom c t n k' s').1, leak t i k s false :: (runFrom c t n k' s').2)
def start (n : Nat) (g : Given) : St := { v := (g.words ++ List.replicate (n - g.words.length) 0).take n, arrs := g.arrays, mode := 0 }
def run (f : Flat) (t : List Int) (g : Given) : Ended × List Leak := runFrom f.code t f.code.length 0 (start f.secret.length g)
end Ev
/- Chapter 2, plainly: a table's text, and a text's table. -/
namespace Ev
open Go
def opNames : List (List UInt8) := [[97, 100, 100], [115, 117, 98], [97, 110, 100], [111, 114], [120, 111, 114], [115, 104, 108], [115, 104, 114], [109, 117, 108], [100, 105, 118], [114, 101, 109], [108, 101, 115, 115], [115, 97, 109, 101], [115, 101, 108], [99, 111, 110, 115, 116], [109, 111, 118, 101], [108, 111, 97, 100], [115, 116, 111, 114, 101]]
/-- the op of a name, among the first k -/
def opTo (name : List UInt8) : Nat → Nat
  | 0 => 0
  | k + 1 => if opNames.getD k [] = name then k + 1 else opTo name k
def opOf (name : List UInt8) : Nat := opTo name 17
def atoiN (s : List UInt8) : Int := match Lib.atoiAll s with | .ok v => v | .range => Lib.atoiSat s | _ => 0
def atoiY (s : List UInt8) : Bool := match Lib.atoiAll s with | .ok _ => true | _ => false
def zeros18 : List Int := List.replicate 18 0
/-- the place of the first byte b; the length: there is none -/
def first (b : UInt8) : List UInt8 → Nat
  | [] => 0
  | c :: l => if c = b then 0 else first b l + 1
theorem first_le (b : UInt8) : ∀ l, first b l ≤ l.length
  | [] => Nat.le_refl _
  | c :: l => by unfold first; split; omega; have := first_le b l; simp; omega
theorem first_at {b : UInt8} : ∀ {l : List UInt8}, first b l < l.length → l = l.take (first b l) ++ b :: l.drop (first b l + 1)
  | [], h => by simp [first] at h
  | c :: l, h => by
    unfold first at h ⊢
    by_cases hc : c = b
    · rw [if_pos hc]; simp [hc]
    · rw [if_neg hc] at h ⊢
      have := first_at (b := b) (l := l) (by simp at h; omega)
      simp only [List.take_succ_cons, List.drop_succ_cons, List.cons_append]
      rw [← this]
theorem first_not {b : UInt8} : ∀ {l : List UInt8} {k : Nat}, k ≤ first b l → b ∉ l.take k
  | [], k, _ => by simp
  | c :: l, 0, _ => by simp
  | c :: l, k + 1, h => by
    unfold first at h
    by_cases hc : c = b
    · rw [if_pos hc] at h; omega
    · rw [if_neg hc] at h
      have := first_not (b := b) (l := l) (k := k) (by omega)
      simp only [List.take_succ_cons, List.mem_cons, not_or]
      exact ⟨fun h => hc h.symm, this⟩
theorem first_none {b : UInt8} : ∀ {l : List UInt8}, b ∉ l → first b l = l.length
  | [], _ => rfl
  | c :: l, h => by
    simp only [List.mem_cons, not_or] at h
    unfold first
    rw [if_neg (fun e => h.1 e.symm), first_none h.2]
    rfl
theorem first_app {b : UInt8} : ∀ {l r : List UInt8}, b ∉ l → first b (l ++ b :: r) = l.length
  | [], r, _ => by simp [first]
  | c :: l, r, h => by
    simp only [List.mem_cons, not_or] at h
    show (if c = b then 0 else first b (l ++ b :: r) + 1) = _
    rw [if_neg (fun e => h.1 e.symm), first_app h.2]
    rfl
theorem index_first1 (b : UInt8) : ∀ l, Lib.index l [b] = if first b l < l.length then (first b l : Int) else -1
  | [] => by simp [Lib.index, first]
  | c :: l => by
    unfold Lib.index first
    by_cases hc : c = b
    · rw [if_pos (by simp [hc]), if_pos hc, if_pos (by simp)]; rfl
    · rw [if_neg (by simp; exact fun h => hc h.symm), if_neg hc, index_first1 b l]
      by_cases hl : first b l < l.length
      · rw [if_pos hl, if_neg (by simp <;> omega), if_pos (by simp; omega)]; (try simp)
      · rw [if_neg hl, if_pos (by simp), if_neg (by simp; omega)]
theorem cut_first (b : UInt8) (l : List UInt8) : Lib.cut l [b] = if first b l < l.length then (l.take (first b l), l.drop (first b l + 1), true) else (l, [], false) := by
  unfold Lib.cut
  rw [index_first1]
  by_cases h : first b l < l.length
  · rw [if_pos h, if_pos (by omega), if_pos h]; simp
  · rw [if_neg h, if_neg (by omega), if_neg h]
/-- a line: the error, the table, the last op -/
def tline (l : List UInt8) (t : List Int) (last : Nat) : Int × List Int × Nat :=
  if first 32 l = l.length then (2, t, last)
  else if opOf (l.take (first 32 l)) = 0 then (7, t, last)
  else if atoiY (l.drop (first 32 l + 1)) = true ∧ Lib.itoa (atoiN (l.drop (first 32 l + 1))) = l.drop (first 32 l + 1) ∧ 1 ≤ atoiN (l.drop (first 32 l + 1)) ∧ last < opOf (l.take (first 32 l)) then
    (0, t.set (opOf (l.take (first 32 l))) (atoiN (l.drop (first 32 l + 1))), opOf (l.take (first 32 l)))
  else (2, t, last)
def tend (t : List Int) : Int × List Int := if wrong t = 0 then (0, t) else (wrong t, zeros18)
/-- what is left of the text, what was read of the line -/
def tscan : List UInt8 → List UInt8 → List Int → Nat → Int × List Int
  | [], acc, t, _ => if acc = [] then tend t else (2, zeros18)
  | c :: s, acc, t, last =>
    if c = 10 then
      if (tline acc t last).1 = 0 then tscan s [] (tline acc t last).2.1 (tline acc t last).2.2 else ((tline acc t last).1, zeros18)
    else tscan s (acc ++ [c]) t last
def tparse (s : List UInt8) : Int × List Int := tscan s [] zeros18 0
theorem scan_line : ∀ (l : List UInt8) {s acc : List UInt8} {t : List Int} {last : Nat}, 10 ∉ l →
    tscan (l ++ 10 :: s) acc t last = if (tline (acc ++ l) t last).1 = 0 then tscan s [] (tline (acc ++ l) t last).2.1 (tline (acc ++ l) t last).2.2 else ((tline (acc ++ l) t last).1, zeros18)
  | [], s, acc, t, last, _ => by
    simp only [List.nil_append, List.append_nil]
    conv => lhs; unfold tscan
    rw [if_pos rfl]
  | c :: l, s, acc, t, last, h => by
    simp only [List.mem_cons, not_or] at h
    rw [List.cons_append]
    conv => lhs; unfold tscan
    rw [if_neg (fun e => h.1 e.symm), scan_line l h.2]
    simp
theorem scan_tail : ∀ (l : List UInt8) {acc : List UInt8} {t : List Int} {last : Nat}, 10 ∉ l → acc ++ l ≠ [] → tscan l acc t last = (2, zeros18)
  | [], acc, t, last, _, h => by
    unfold tscan
    rw [if_neg (by simpa using h)]
  | c :: l, acc, t, last, h, hn => by
    simp only [List.mem_cons, not_or] at h
    unfold tscan
    rw [if_neg (fun e => h.1 e.symm), scan_tail l h.2 (by simp)]
/-! ### The text -/
def tlineOf (op : Nat) (n : Int) : List UInt8 := opNames.getD (op - 1) [] ++ [32] ++ Lib.itoa n ++ [10]
def ttextTo (t : List Int) : Nat → List UInt8
  | 0 => []
  | k + 1 => ttextTo t k ++ (if t.getD (k + 1) 0 ≠ 0 then tlineOf (k + 1) (t.getD (k + 1) 0) else [])
def ttext (t : List Int) : List UInt8 := ttextTo t 17
theorem names_good : ∀ k, k < 17 → 10 ∉ opNames.getD k [] ∧ 32 ∉ opNames.getD k [] ∧ opOf (opNames.getD k []) = k + 1 := by decide
theorem opTo_name (name : List UInt8) : ∀ k, k ≤ 17 → opTo name k ≤ k ∧ (opTo name k ≠ 0 → opNames.getD (opTo name k - 1) [] = name)
  | 0, _ => ⟨Nat.le_refl _, fun h => absurd rfl h⟩
  | k + 1, hk => by
    unfold opTo
    by_cases h : opNames.getD k [] = name
    · rw [if_pos h]; exact ⟨Nat.le_refl _, fun _ => h⟩
    · rw [if_neg h]
      have := opTo_name name k (by omega)
      exact ⟨by omega, this.2⟩
theorem digits_good : ∀ n : Nat, 1 ≤ n → n ≤ 7 → Lib.itoa (n : Int) = [UInt8.ofNat (48 + n)] ∧ atoiY [UInt8.ofNat (48 + n)] = true ∧ atoiN [UInt8.ofNat (48 + n)] = n ∧ (10 : UInt8) ∉ [UInt8.ofNat (48 + n)] := by
  intro n h1 h2
  obtain rfl | rfl | rfl | rfl | rfl | rfl | rfl : n = 1 ∨ n = 2 ∨ n = 3 ∨ n = 4 ∨ n = 5 ∨ n = 6 ∨ n = 7 := by omega
  all_goals decide +kernel
theorem wrong_bits {t : List Int} (h : wrong t = 0) : seenOf t 0 = 0 ∧ ∀ op : Nat, 1 ≤ op → op ≤ 17 → 0 ≤ t.getD op 0 ∧ t.getD op 0 ≤ 7 := by
  have hw : ∀ n op : Nat, wrongFrom t n op = 0 → ∀ j, op ≤ j → j < op + n → subBits (seenOf t j) (most j) = true := by
    intro n
    induction n with
    | zero => intro op _ j h1 h2; omega
    | succ n ih =>
      intro op h j h1 h2
      unfold wrongFrom at h
      by_cases hs : subBits (seenOf t op) (most op) = true
      · rw [if_pos hs] at h
        by_cases e : j = op
        · subst e; exact hs
        · exact ih (op + 1) h j (by omega) (by omega)
      · rw [if_neg hs] at h; cases h
  unfold wrong at h
  by_cases h0 : seenOf t 0 ≠ 0
  · rw [if_pos h0] at h; cases h
  · rw [if_neg h0] at h
    refine ⟨by simpa using h0, fun op h1 h2 => ?_⟩
    have h3 := hw 17 1 h op h1 (by omega)
    unfold subBits seenOf at h3
    simp only [Int.toNat_natCast, Bool.and_eq_true, decide_eq_true_eq, beq_iff_eq] at h3
    have h4 : (most op).toNat ≤ 7 := by
      unfold most all
      repeat' split
      all_goals decide
    have h5 : (t.getD op 0).toNat ≤ (t.getD op 0).toNat ||| (most op).toNat := Nat.left_le_or
    omega
/-- the first entries -/
def trunc (t : List Int) (k : Nat) : List Int := (List.range 18).map fun j => if j ≤ k then t.getD j 0 else 0
def lastTo (t : List Int) : Nat → Nat
  | 0 => 0
  | k + 1 => if t.getD (k + 1) 0 ≠ 0 then k + 1 else lastTo t k
theorem lastTo_le (t : List Int) : ∀ k, lastTo t k ≤ k
  | 0 => Nat.le_refl _
  | k + 1 => by unfold lastTo; split; omega; have := lastTo_le t k; omega
theorem trunc_succ0 {t : List Int} {k : Nat} (h : t.getD (k + 1) 0 = 0) : trunc t (k + 1) = trunc t k := by
  unfold trunc
  apply List.map_congr_left
  intro j _
  by_cases h1 : j ≤ k
  · rw [if_pos h1, if_pos (by omega)]
  · by_cases h2 : j = k + 1
    · rw [if_neg h1, if_pos (by omega), h2, h]
    · rw [if_neg h1, if_neg (by omega)]
theorem trunc_succ {t : List Int} {k : Nat} (hk : k < 17) : trunc t (k + 1) = (trunc t k).set (k + 1) (t.getD (k + 1) 0) := by
  unfold trunc
  apply List.ext_getElem?
  intro j
  rw [List.getElem?_map, List.getElem?_set]
  by_cases h18 : j < 18
  · rw [List.getElem?_range h18]
    by_cases h : k + 1 = j
    · subst h
      rw [if_pos rfl, if_pos (by simp; omega)]
      simp
    · rw [if_neg h, List.getElem?_map, List.getElem?_range h18]
      simp only [Option.map_some, Option.some.injEq]
      by_cases h1 : j ≤ k
      · rw [if_pos h1, if_pos (by omega)]
      · rw [if_neg h1, if_neg (by omega)]
  · rw [List.getElem?_eq_none (by simp; omega)]
    rw [if_neg (by omega), List.getElem?_eq_none (by simp; omega)]
    rfl
theorem trunc_all {t : List Int} (h : t.length = 18) : trunc t 17 = t := by
  unfold trunc
  apply List.ext_getElem?
  intro j
  rw [List.getElem?_map]
  by_cases h18 : j < 18
  · rw [List.getElem?_range h18]
    simp only [Option.map_some]
    rw [if_pos (by omega), List.getD_eq_getElem?_getD, List.getElem?_eq_getElem (by omega)]
    rfl
  · rw [List.getElem?_eq_none (by simp; omega), List.getElem?_eq_none (by omega)]
    rfl
theorem trunc_zero {t : List Int} (h : seenOf t 0 = 0) : trunc t 0 = zeros18 := by
  unfold trunc zeros18
  have h : t.getD 0 0 = 0 := h
  apply List.ext_getElem?
  intro j
  rw [List.getElem?_map, List.getElem?_replicate]
  by_cases h18 : j < 18
  · rw [List.getElem?_range h18, if_pos h18]
    simp only [Option.map_some]
    by_cases h1 : j ≤ 0
    · obtain rfl : j = 0 := by omega
      rw [if_pos h1, h]
    · rw [if_neg h1]
  · rw [List.getElem?_eq_none (by simp; omega), if_neg h18]
    rfl
theorem tline_of {t : List Int} {op : Nat} {n : Nat} {last : Nat} (h1 : 1 ≤ op) (h2 : op ≤ 17) (h3 : 1 ≤ n) (h4 : n ≤ 7) (h5 : last < op) :
    tline (opNames.getD (op - 1) [] ++ [32] ++ Lib.itoa (n : Int)) t last = (0, t.set op (n : Int), op) ∧ 10 ∉ opNames.getD (op - 1) [] ++ [32] ++ Lib.itoa (n : Int) := by
  obtain ⟨g1, g2, g3⟩ := names_good (op - 1) (by omega)
  obtain ⟨d1, d2, d3, d4⟩ := digits_good n h3 h4
  rw [show op - 1 + 1 = op by omega] at g3
  have hf : first 32 (opNames.getD (op - 1) [] ++ [32] ++ Lib.itoa (n : Int)) = (opNames.getD (op - 1) []).length := by
    rw [List.append_assoc]
    exact first_app g2
  refine ⟨?_, ?_⟩
  · unfold tline
    rw [hf]
    have e1 : (opNames.getD (op - 1) [] ++ [32] ++ Lib.itoa (n : Int)).take (opNames.getD (op - 1) []).length = opNames.getD (op - 1) [] := by rw [List.append_assoc, List.take_left']; rfl
    have e2 : (opNames.getD (op - 1) [] ++ [32] ++ Lib.itoa (n : Int)).drop ((opNames.getD (op - 1) []).length + 1) = Lib.itoa (n : Int) := by
      rw [List.drop_left']
      simp
    rw [e1, e2, g3, d1, if_neg (by simp), if_neg (by omega), if_pos ⟨d2, by rw [d3, d1], by rw [d3]; omega, h5⟩, d3]
  · rw [d1]
    simp only [List.mem_append, not_or]
    exact ⟨⟨g1, by decide⟩, d4⟩
theorem scan_text {t : List Int} (hw : wrong t = 0) (rest : List UInt8) : ∀ k, k ≤ 17 → tscan (ttextTo t k ++ rest) [] (trunc t 0) 0 = tscan rest [] (trunc t k) (lastTo t k)
  | 0, _ => rfl
  | k + 1, hk => by
    obtain ⟨_, hb⟩ := wrong_bits hw
    obtain ⟨b1, b2⟩ := hb (k + 1) (by omega) hk
    unfold ttextTo lastTo
    by_cases h0 : t.getD (k + 1) 0 = 0
    · rw [if_neg (by simpa using h0), if_neg (by simpa using h0), List.append_nil, scan_text hw rest k (by omega), trunc_succ0 h0]
    · rw [if_pos h0, if_pos h0, List.append_assoc, scan_text hw _ k (by omega)]
      obtain ⟨n, hn⟩ : ∃ n : Nat, t.getD (k + 1) 0 = n := ⟨(t.getD (k + 1) 0).toNat, by omega⟩
      obtain ⟨e1, e2⟩ := tline_of (t := trunc t k) (op := k + 1) (n := n) (last := lastTo t k) (by omega) hk (by omega) (by omega) (by have := lastTo_le t k; omega)
      rw [trunc_succ (by omega), hn]
      unfold tlineOf
      rw [List.append_assoc _ [10] rest, List.singleton_append, scan_line _ e2, List.nil_append, e1, if_pos rfl]
/-- a right table comes back from its text -/
theorem text_parse {t : List Int} (hl : t.length = 18) (hw : wrong t = 0) : tparse (ttext t) = (0, t) := by
  unfold tparse ttext
  have h := scan_text hw [] 17 (Nat.le_refl _)
  rw [List.append_nil, trunc_zero (wrong_bits hw).1, trunc_all hl] at h
  rw [h]
  unfold tscan tend
  rw [if_pos rfl, if_pos hw]
theorem textTo_set {t : List Int} {op : Nat} {n : Int} : ∀ k, k < op → ttextTo (t.set op n) k = ttextTo t k
  | 0, _ => rfl
  | k + 1, hk => by
    have e : (t.set op n).getD (k + 1) 0 = t.getD (k + 1) 0 := by rw [List.getD_eq_getElem?_getD, List.getD_eq_getElem?_getD, List.getElem?_set, if_neg (by omega)]
    unfold ttextTo
    rw [textTo_set k (by omega), e]
theorem textTo_zero {t : List Int} {b : Nat} (hz : ∀ j, b < j → t.getD j 0 = 0) : ∀ k, b ≤ k → ttextTo t k = ttextTo t b
  | 0, hk => by obtain rfl : b = 0 := by omega
                rfl
  | k + 1, hk => by
    by_cases e : b = k + 1
    · rw [e]
    · conv => lhs; unfold ttextTo
      rw [if_neg (by rw [hz (k + 1) (by omega)]; simp), List.append_nil, textTo_zero hz k (by omega)]
theorem text_set {t : List Int} {op last : Nat} {n : Int} (hl : t.length = 18) (h1 : last < op) (h2 : op ≤ 17) (hn : n ≠ 0) (hz : ∀ j, last < j → t.getD j 0 = 0) : ttext (t.set op n) = ttext t ++ tlineOf op n := by
  unfold ttext
  have hz' : ∀ j, op < j → (t.set op n).getD j 0 = 0 := fun j hj => by rw [List.getD_eq_getElem?_getD, List.getElem?_set, if_neg (by omega), ← List.getD_eq_getElem?_getD]; exact hz j (by omega)
  rw [textTo_zero hz' 17 h2, textTo_zero hz 17 (by omega)]
  obtain ⟨m, rfl⟩ : ∃ m, op = m + 1 := ⟨op - 1, by omega⟩
  have e : (t.set (m + 1) n).getD (m + 1) 0 = n := by rw [List.getD_eq_getElem?_getD, List.getElem?_set, if_pos rfl, if_pos (by omega)]; rfl
  conv => lhs; unfold ttextTo
  rw [e, if_pos hn, textTo_set m (by omega)]
  congr 1
  exact textTo_zero hz m (by omega)
theorem tline_ok {l : List UInt8} {t t' : List Int} {last last' : Nat} (h : tline l t last = (0, t', last')) (hl : t.length = 18) (hz : ∀ j, last < j → t.getD j 0 = 0) :
    t'.length = 18 ∧ (∀ j, last' < j → t'.getD j 0 = 0) ∧ last' ≤ 17 ∧ ttext t' = ttext t ++ l ++ [10] := by
  unfold tline at h
  by_cases c1 : first 32 l = l.length
  · rw [if_pos c1] at h; injection h with h; cases h
  rw [if_neg c1] at h
  by_cases c2 : opOf (l.take (first 32 l)) = 0
  · rw [if_pos c2] at h; injection h with h; cases h
  rw [if_neg c2] at h
  split at h
  case isFalse => injection h with h; cases h
  case isTrue hc =>
  obtain ⟨h1, h2, h3, h4⟩ := hc
  injection h with _ h
  injection h with e1 e2
  obtain ⟨o1, o2⟩ := opTo_name (l.take (first 32 l)) 17 (Nat.le_refl _)
  have o3 := o2 c2
  have hat := first_at (b := 32) (l := l) (by have := first_le 32 l; omega)
  subst e1 e2
  refine ⟨by simp [hl], fun j hj => ?_, o1, ?_⟩
  · rw [List.getD_eq_getElem?_getD, List.getElem?_set, if_neg (by omega), ← List.getD_eq_getElem?_getD]
    exact hz j (by omega)
  · rw [text_set hl h4 o1 (by omega) hz, List.append_assoc]
    congr 1
    unfold tlineOf
    have o4 : opNames.getD (opOf (l.take (first 32 l)) - 1) [] = l.take (first 32 l) := o3
    rw [o4, h2]
    conv => rhs; rw [hat]
    simp
theorem scan_ok : ∀ (s acc : List UInt8) {t x : List Int} {last : Nat}, t.length = 18 → (∀ j, last < j → t.getD j 0 = 0) → tscan s acc t last = (0, x) → x.length = 18 ∧ wrong x = 0 ∧ ttext x = ttext t ++ acc ++ s
  | [], acc, t, x, last, hl, hz, h => by
    unfold tscan at h
    by_cases c : acc = []
    · rw [if_pos c] at h
      unfold tend at h
      by_cases hw : wrong t = 0
      · rw [if_pos hw] at h
        injection h with _ h
        subst h c
        exact ⟨hl, hw, by simp⟩
      · rw [if_neg hw] at h; injection h with h; exact absurd h hw
    · rw [if_neg c] at h; injection h with h; cases h
  | c :: s, acc, t, x, last, hl, hz, h => by
    unfold tscan at h
    by_cases hc : c = 10
    · rw [if_pos hc] at h
      by_cases h0 : (tline acc t last).1 = 0
      · rw [if_pos h0] at h
        obtain ⟨e1, e2, _, e4⟩ := tline_ok (l := acc) (t := t) (last := last) (t' := (tline acc t last).2.1) (last' := (tline acc t last).2.2) (Prod.ext h0 rfl) hl hz
        obtain ⟨f1, f2, f3⟩ := scan_ok s [] e1 e2 h
        refine ⟨f1, f2, ?_⟩
        rw [f3, e4, hc]
        simp
      · rw [if_neg h0] at h; injection h with h; exact absurd h h0
    · rw [if_neg hc] at h
      obtain ⟨f1, f2, f3⟩ := scan_ok s (acc ++ [c]) hl hz h
      exact ⟨f1, f2, by rw [f3]; simp⟩
/-- a text that is read is its table's -/
theorem parse_text {s : List UInt8} {x : List Int} (h : tparse s = (0, x)) : x.length = 18 ∧ wrong x = 0 ∧ ttext x = s := by
  obtain ⟨h1, h2, h3⟩ := scan_ok s [] (t := zeros18) (last := 0) rfl (fun j _ => by unfold zeros18; rw [List.getD_eq_getElem?_getD, List.getElem?_replicate]; split <;> rfl) h
  exact ⟨h1, h2, by rw [h3]; rfl⟩
theorem scan_err : ∀ (s acc : List UInt8) {t : List Int} {last : Nat}, (tscan s acc t last).1 ≠ 0 → (tscan s acc t last).2 = zeros18
  | [], acc, t, last, h => by
    unfold tscan at h ⊢
    by_cases c : acc = []
    · rw [if_pos c] at h ⊢
      unfold tend at h ⊢
      by_cases hw : wrong t = 0
      · rw [if_pos hw] at h; exact absurd rfl h
      · rw [if_neg hw]
    · rw [if_neg c]
  | c :: s, acc, t, last, h => by
    unfold tscan at h ⊢
    by_cases hc : c = 10
    · rw [if_pos hc] at h ⊢
      by_cases h0 : (tline acc t last).1 = 0
      · rw [if_pos h0] at h ⊢
        exact scan_err s [] h
      · rw [if_neg h0]
    · rw [if_neg hc] at h ⊢
      exact scan_err s (acc ++ [c]) h
end Ev
