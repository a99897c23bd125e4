import Derived.Test.YtbanhnoggcddjaaRep
/- Chapter 10: an instruction's bytes, and eight bytes' instruction. -/
namespace Ev
/-- four bytes, the uppermost one first -/
def be (n : Int) : List Int := [n / 16777216, n / 65536 % 256, n / 256 % 256, n % 256]
def isByte (n : Int) : Bool := decide (0 ≤ n) && decide (n ≤ 255)
def bytesErr (i : Instr) : Int :=
  if ¬ ((0 ≤ i.op ∧ i.op ≤ 255) ∧ (0 ≤ i.d ∧ i.d ≤ 255) ∧ (0 ≤ i.a ∧ i.a ≤ 255) ∧ (0 ≤ i.b ∧ i.b ≤ 255) ∧ (0 ≤ i.c ∧ i.c ≤ 255)) then 3
  else if i.op < 1 ∨ 23 < i.op then 1
  else if i.imm < 0 ∨ 4294967295 < i.imm then 3
  else if (i.op = 13 ∧ i.imm ≠ 0) ∨ (i.op ≠ 13 ∧ i.c ≠ 0) then 2
  else 0
theorem be3 {i : Instr} (h : ¬ ((0 ≤ i.op ∧ i.op ≤ 255) ∧ (0 ≤ i.d ∧ i.d ≤ 255) ∧ (0 ≤ i.a ∧ i.a ≤ 255) ∧ (0 ≤ i.b ∧ i.b ≤ 255) ∧ (0 ≤ i.c ∧ i.c ≤ 255))) : bytesErr i = 3 := by
  unfold bytesErr; rw [if_pos h]
theorem be1 {i : Instr} (h : (0 ≤ i.op ∧ i.op ≤ 255) ∧ (0 ≤ i.d ∧ i.d ≤ 255) ∧ (0 ≤ i.a ∧ i.a ≤ 255) ∧ (0 ≤ i.b ∧ i.b ≤ 255) ∧ (0 ≤ i.c ∧ i.c ≤ 255)) (h2 : i.op < 1 ∨ 23 < i.op) : bytesErr i = 1 := by
  unfold bytesErr; rw [if_neg (fun k => k h), if_pos h2]
theorem be33 {i : Instr} (h : (0 ≤ i.op ∧ i.op ≤ 255) ∧ (0 ≤ i.d ∧ i.d ≤ 255) ∧ (0 ≤ i.a ∧ i.a ≤ 255) ∧ (0 ≤ i.b ∧ i.b ≤ 255) ∧ (0 ≤ i.c ∧ i.c ≤ 255)) (h2 : ¬ (i.op < 1 ∨ 23 < i.op)) (h3 : i.imm < 0 ∨ 4294967295 < i.imm) : bytesErr i = 3 := by
  unfold bytesErr; rw [if_neg (fun k => k h), if_neg h2, if_pos h3]
theorem be2 {i : Instr} (h : (0 ≤ i.op ∧ i.op ≤ 255) ∧ (0 ≤ i.d ∧ i.d ≤ 255) ∧ (0 ≤ i.a ∧ i.a ≤ 255) ∧ (0 ≤ i.b ∧ i.b ≤ 255) ∧ (0 ≤ i.c ∧ i.c ≤ 255)) (h2 : ¬ (i.op < 1 ∨ 23 < i.op)) (h3 : ¬ (i.imm < 0 ∨ 4294967295 < i.imm))
    (h4 : (i.op = 13 ∧ i.imm ≠ 0) ∨ (i.op ≠ 13 ∧ i.c ≠ 0)) : bytesErr i = 2 := by
  unfold bytesErr; rw [if_neg (fun k => k h), if_neg h2, if_neg h3, if_pos h4]
theorem be0 {i : Instr} (h : (0 ≤ i.op ∧ i.op ≤ 255) ∧ (0 ≤ i.d ∧ i.d ≤ 255) ∧ (0 ≤ i.a ∧ i.a ≤ 255) ∧ (0 ≤ i.b ∧ i.b ≤ 255) ∧ (0 ≤ i.c ∧ i.c ≤ 255)) (h2 : ¬ (i.op < 1 ∨ 23 < i.op)) (h3 : ¬ (i.imm < 0 ∨ 4294967295 < i.imm))
    (h4 : ¬ ((i.op = 13 ∧ i.imm ≠ 0) ∨ (i.op ≠ 13 ∧ i.c ≠ 0))) : bytesErr i = 0 := by
  unfold bytesErr; rw [if_neg (fun k => k h), if_neg h2, if_neg h3, if_neg h4]
def bytesOf (i : Instr) : List Int := if bytesErr i = 0 then [i.op, i.d, i.a, i.b] ++ be (if i.op = 13 then i.c else i.imm) else []
theorem bytes_bad {i : Instr} (h : bytesErr i ≠ 0) : bytesOf i = [] := by unfold bytesOf; rw [if_neg h]
theorem bytes_sel {i : Instr} (h : bytesErr i = 0) (k : i.op = 13) : bytesOf i = [i.op, i.d, i.a, i.b, i.c / 16777216, i.c / 65536 % 256, i.c / 256 % 256, i.c % 256] := by
  unfold bytesOf; rw [if_pos h, if_pos k]; rfl
theorem bytes_imm {i : Instr} (h : bytesErr i = 0) (k : i.op ≠ 13) : bytesOf i = [i.op, i.d, i.a, i.b, i.imm / 16777216, i.imm / 65536 % 256, i.imm / 256 % 256, i.imm % 256] := by
  unfold bytesOf; rw [if_pos h, if_neg k]; rfl
def ofBe (b4 b5 b6 b7 : Int) : Int := b4 * 16777216 + b5 * 65536 + b6 * 256 + b7
def parseErr (b : List Int) : Int :=
  match b with
  | [b0, _, _, _, b4, b5, b6, b7] =>
    if b0 < 1 ∨ 23 < b0 then 1 else if b0 = 13 ∧ 255 < ofBe b4 b5 b6 b7 then 3 else 0
  | _ => 2
def parseOf (b : List Int) : Instr :=
  if parseErr b ≠ 0 then ⟨0, 0, 0, 0, 0, 0⟩ else
  match b with
  | [b0, b1, b2, b3, b4, b5, b6, b7] =>
    if b0 = 13 then ⟨b0, b1, b2, b3, ofBe b4 b5 b6 b7, 0⟩ else ⟨b0, b1, b2, b3, 0, ofBe b4 b5 b6 b7⟩
  | _ => ⟨0, 0, 0, 0, 0, 0⟩
end Ev
