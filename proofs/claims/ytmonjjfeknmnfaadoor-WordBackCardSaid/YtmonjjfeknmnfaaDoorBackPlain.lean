import Derived.Test.YtmonjjfeknmnfaaDoorFlat
/- Chapter 1, in plain numbers: there, and back. -/
namespace Ev
theorem twoN_lt (op : Int) {x y : Nat} (hx : x < 4294967296) (hy : y < 4294967296) : twoN op x y < 4294967296 := by
  unfold twoN
  by_cases h1 : op = 1
  · rw [if_pos h1]; exact Nat.mod_lt _ (by decide)
  rw [if_neg h1]
  by_cases h2 : op = 2
  · rw [if_pos h2]; exact wsub_lt _ _
  rw [if_neg h2]
  by_cases h3 : op = 3
  · rw [if_pos h3]; exact and_lt hx
  rw [if_neg h3]
  by_cases h4 : op = 4
  · rw [if_pos h4]; exact or_lt hx hy
  rw [if_neg h4]
  by_cases h5 : op = 5
  · rw [if_pos h5]; exact xor_lt hx hy
  rw [if_neg h5]
  by_cases h6 : op = 6
  · rw [if_pos h6]; exact Nat.mod_lt _ (by decide)
  rw [if_neg h6]
  by_cases h7 : op = 7
  · rw [if_pos h7]; exact Nat.lt_of_le_of_lt (Nat.div_le_self _ _) hx
  rw [if_neg h7]
  by_cases h8 : op = 8
  · rw [if_pos h8]; exact Nat.mod_lt _ (by decide)
  rw [if_neg h8]
  by_cases h9 : op = 9
  · rw [if_pos h9]
    by_cases h : y = 0
    · rw [if_pos h]; decide
    · rw [if_neg h]; exact Nat.lt_of_le_of_lt (Nat.div_le_self _ _) hx
  rw [if_neg h9]
  by_cases h10 : op = 10
  · rw [if_pos h10]
    by_cases h : y = 0
    · rw [if_pos h]; exact hx
    · rw [if_neg h]; exact Nat.lt_of_le_of_lt (Nat.mod_le _ _) hx
  rw [if_neg h10]
  by_cases h11 : op = 11
  · rw [if_pos h11]
    by_cases h : x < y
    · rw [if_pos h]; decide
    · rw [if_neg h]; decide
  rw [if_neg h11]
  by_cases h12 : op = 12
  · rw [if_pos h12]
    by_cases h : x = y
    · rw [if_pos h]; decide
    · rw [if_neg h]; decide
  rw [if_neg h12]
  decide
theorem two_word (op a b : Int) : 0 ≤ two op a b ∧ two op a b ≤ 4294967295 := by
  have h := twoN_lt op (low_lt a) (low_lt b)
  unfold two
  omega
theorem low_nat {x : Nat} (h : x < 4294967296) : low (x : Int) = x := by unfold low; omega
theorem two_nat (op : Int) {x y : Nat} (hx : x < 4294967296) (hy : y < 4294967296) : two op x y = (twoN op x y : Nat) := by
  unfold two
  rw [low_nat hx, low_nat hy]
theorem and_add_or (x y : Nat) : (x &&& y) + (x ||| y) = x + y := by
  induction x using Nat.strongRecOn generalizing y with
  | ind x ih =>
    by_cases h : x = 0
    · subst h; simp
    · have h1 := ih (x / 2) (by omega) (y / 2)
      rw [← Nat.and_div_two, ← Nat.or_div_two] at h1
      have hx := Nat.mod_two_eq_zero_or_one x
      have hy := Nat.mod_two_eq_zero_or_one y
      have e1 : (x &&& y) % 2 = (x % 2) * (y % 2) := by
        have := Nat.and_mod_two_pow (a := x) (b := y) (n := 1)
        rw [Nat.pow_one] at this
        rw [this]
        rcases hx with hx | hx <;> rcases hy with hy | hy <;> rw [hx, hy] <;> rfl
      have e2 : (x ||| y) % 2 = (x % 2) + (y % 2) - (x % 2) * (y % 2) := by
        have := Nat.or_mod_two_pow (a := x) (b := y) (n := 1)
        rw [Nat.pow_one] at this
        rw [this]
        rcases hx with hx | hx <;> rcases hy with hy | hy <;> rw [hx, hy] <;> rfl
      rcases hx with hx | hx <;> rcases hy with hy | hy <;> rw [hx, hy] at e1 e2 <;> omega
/-- what the law asks of two words -/
theorem back {a b : Int} (ha : 0 ≤ a ∧ a ≤ 4294967295) (hb : 0 ≤ b ∧ b ≤ 4294967295) :
    two 2 (two 1 a b) b = a ∧ two 5 (two 5 a b) b = a ∧ two 1 (two 8 (two 9 a b) b) (two 10 a b) = a ∧ two 11 a b + two 11 b a + two 12 a b = 1 ∧ two 1 (two 3 a b) (two 4 a b) = two 1 a b ∧ (b ≠ 0 → two 11 (two 10 a b) b = 1) := by
  obtain ⟨x, rfl⟩ : ∃ x : Nat, a = x := ⟨a.toNat, by omega⟩
  obtain ⟨y, rfl⟩ : ∃ y : Nat, b = y := ⟨b.toNat, by omega⟩
  have hx : x < 4294967296 := by omega
  have hy : y < 4294967296 := by omega
  have l := fun op => @two_nat op x y hx hy
  have L := fun op => twoN_lt op hx hy
  refine ⟨?_, ?_, ?_, ?_, ?_, ?_⟩
  · rw [l, two_nat _ (L _) hy]
    simp [twoN, wadd, wsub]; omega
  · rw [l, two_nat _ (L _) hy]
    simp [twoN, Nat.xor_assoc]
  · rw [l, l, two_nat _ (L _) hy, two_nat _ (twoN_lt _ (L _) hy) (L _)]
    have h9 : twoN 9 x y = if y = 0 then 4294967295 else x / y := rfl
    have h10 : twoN 10 x y = if y = 0 then x else x % y := rfl
    have h8 : ∀ p q, twoN 8 p q = p * q % 4294967296 := fun _ _ => rfl
    have h1 : ∀ p q, twoN 1 p q = (p + q) % 4294967296 := fun _ _ => rfl
    rw [h9, h10, h8, h1]
    by_cases h0 : y = 0
    · simp [h0]; omega
    · rw [if_neg h0, if_neg h0]
      have e := Nat.div_add_mod x y
      rw [Nat.mul_comm] at e
      have e2 : x / y * y ≤ x := Nat.div_mul_le_self x y
      rw [Nat.mod_eq_of_lt (by omega : x / y * y < 4294967296), e]
      omega
  · rw [l, l, two_nat 11 hy hx]
    have h11 : ∀ p q, twoN 11 p q = if p < q then 1 else 0 := fun _ _ => rfl
    have h12 : ∀ p q, twoN 12 p q = if p = q then 1 else 0 := fun _ _ => rfl
    rw [h11, h11, h12]
    split <;> split <;> split <;> omega
  · rw [l, l, l, two_nat _ (L _) (L _)]
    have h3 : twoN 3 x y = x &&& y := rfl
    have h4 : twoN 4 x y = x ||| y := rfl
    have h1 : ∀ p q, twoN 1 p q = (p + q) % 4294967296 := fun _ _ => rfl
    rw [h3, h4, h1, h1, and_add_or]
  · intro h0
    rw [l, two_nat _ (L _) hy]
    have h10 : twoN 10 x y = if y = 0 then x else x % y := rfl
    have h11 : ∀ p q, twoN 11 p q = if p < q then 1 else 0 := fun _ _ => rfl
    rw [h10, if_neg (show ¬ y = 0 by omega), h11, if_pos (Nat.mod_lt _ (by omega))]
    rfl
end Ev
