import Derived.Test.YtljcgcllhcdleaaMt29
import Derived.Test.YtljcgcllhcdleaaMt30
/- Chapter 7, the reference: one right instruction of the machine. -/
namespace Go.Proofs.Ytljcgcllhcdleaa
open Go.RowKit
set_option linter.unusedSimpArgs false
set_option linter.unusedVariables false
/-- where it goes on, as the reference says it: below 0: it has ended -/
def nextOf : Option Nat → Int
  | none => -1
  | some k => (k : Int)
theorem do_any (f : Ev.Flat) (i : Ev.Instr) (k : Nat) (s : Ev.St) (bv mb : Nat) (va : Value) (vs : List Value) (hi : Nat) (w : World) (hM : MAt w bv mb va vs hi s) (hk : k ≤ 1099511627776) (hs : Ev.Sound f k i) (hF : Ev.Fine f s) :
    Calls Try.prog 58 #[.pointer (some ⟨mb, 0, none⟩), .agg #[.int .i64 i.op, .int .i64 i.d, .int .i64 i.a, .int .i64 i.b, .int .i64 i.c, .int .i64 i.imm], .int .i64 (k : Int)] w fun e w' => e = .returned (.int .i64 (nextOf (Ev.step i k s).2)) ∧ MAt w' bv mb va vs hi (Ev.step i k s).1 ∧ Sets bv hi w w' := by
  have hop := hs.op
  have rd : ∀ p ∈ Ev.reads i, inR s.v.length p := fun p hp => by rw [hF.len]; exact hs.reads p hp
  have mk : i.op ≤ 16 → inR s.v.length i.d := fun h => by rw [hF.len]; exact hs.makes h
  have va0 := (hF.val i.a).1
  have ar : i.op = 16 ∨ i.op = 17 → 0 ≤ i.b ∧ i.b < (s.arrs.length : Int) := fun h => by rw [hF.alen]; exact hs.arr h
  rcases (show i.op ≤ 12 ∨ i.op = 13 ∨ i.op = 14 ∨ i.op = 15 ∨ i.op = 16 ∨ i.op = 17 ∨ i.op = 18 ∨ i.op = 19 ∨ (i.op = 20 ∨ i.op = 21) by omega) with h | h | h | h | h | h | h | h | h
  · have er : Ev.reads i = [i.a, i.b] := by unfold Ev.reads; rw [if_pos (by omega)]
    have := do_two i k s bv mb va vs hi w hM hk h (rd _ (by rw [er]; simp)) (rd _ (by rw [er]; simp)) (mk (by omega))
    rw [Ev.step_two h] at this ⊢
    exact this
  · have er : Ev.reads i = [i.a, i.b, i.c] := by unfold Ev.reads; rw [if_neg (by omega), if_pos h]
    have := do_sel i k s bv mb va vs hi w hM hk h (rd _ (by rw [er]; simp)) (rd _ (by rw [er]; simp)) (rd _ (by rw [er]; simp)) (mk (by omega))
    rw [Ev.step_sel h] at this ⊢
    exact this
  · have := do_const i k s bv mb va vs hi w hM hk h (mk (by omega))
    rw [Ev.step_const h] at this ⊢
    exact this
  · have er : Ev.reads i = [i.a] := by unfold Ev.reads; rw [if_neg (by omega), if_neg (by omega), if_neg (by omega), if_pos (by omega)]
    have := do_move i k s bv mb va vs hi w hM hk h (rd _ (by rw [er]; simp)) (mk (by omega))
    rw [Ev.step_move h] at this ⊢
    exact this
  · have er : Ev.reads i = [i.a] := by unfold Ev.reads; rw [if_neg (by omega), if_neg (by omega), if_neg (by omega), if_pos (by omega)]
    obtain ⟨b0, b1⟩ := ar (.inl h)
    by_cases hn : Ev.val s.v i.a < (s.arrs.getD i.b.toNat []).length
    · have := do_load_in i k s bv mb va vs hi w hM hk h (rd _ (by rw [er]; simp)) (mk (by omega)) b0 b1 va0 hn
      rw [Ev.step_load h] at this ⊢
      exact this
    · have := do_load_out i k s bv mb va vs hi w hM hk h (rd _ (by rw [er]; simp)) (mk (by omega)) b0 b1 va0 hn
      rw [Ev.step_load h] at this ⊢
      exact this
  · have er : Ev.reads i = [i.a, i.d] := by unfold Ev.reads; rw [if_neg (by omega), if_neg (by omega), if_pos h]
    obtain ⟨b0, b1⟩ := ar (.inr h)
    have hst : (Ev.step i k s).2 = some (k + 1) := by unfold Ev.step; rw [if_neg (by omega), if_neg (by omega), if_neg (by omega), if_neg (by omega), if_neg (by omega), if_pos h]
    rw [hst]
    by_cases hn : Ev.val s.v i.a < (s.arrs.getD i.b.toNat []).length
    · exact do_store_in i k s bv mb va vs hi w hM hk h (rd _ (by rw [er]; simp)) (rd _ (by rw [er]; simp)) b0 b1 va0 hn
    · exact do_store_out i k s bv mb va vs hi w hM hk h (rd _ (by rw [er]; simp)) (rd _ (by rw [er]; simp)) b0 b1 va0 hn
  · have hj := hs.jump (.inl h)
    have := do_jump i k s bv mb va vs hi w hM hk h (by omega)
    rw [Ev.step_jump h] at this ⊢
    rw [show nextOf (s, some i.imm.toNat).2 = i.imm by show ((i.imm.toNat : Nat) : Int) = i.imm; omega]
    exact this
  · have hj := hs.jump (.inr h)
    have er : Ev.reads i = [i.a] := by unfold Ev.reads; rw [if_neg (by omega), if_neg (by omega), if_neg (by omega), if_pos (by omega)]
    by_cases h0 : Ev.val s.v i.a = 0
    · have := do_zero_yes i k s bv mb va vs hi w hM hk h (rd _ (by rw [er]; simp)) (by omega) h0
      rw [Ev.step_zero_yes h h0] at this ⊢
      rw [show nextOf (s, some i.imm.toNat).2 = i.imm by show ((i.imm.toNat : Nat) : Int) = i.imm; omega]
      exact this
    · have := do_zero_no i k s bv mb va vs hi w hM hk h (rd _ (by rw [er]; simp)) (by omega) h0
      rw [Ev.step_zero_no h h0] at this ⊢
      exact this
  · have := do_end i k s bv mb va vs hi w hM hk h
    rw [Ev.step_end h] at this ⊢
    exact this
end Go.Proofs.Ytljcgcllhcdleaa
