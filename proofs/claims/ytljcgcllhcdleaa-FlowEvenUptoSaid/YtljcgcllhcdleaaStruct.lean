import Derived.Test.YtljcgcllhcdleaaProg
import Derived.Test.YtljcgcllhcdleaaLib
/- '!=' on the program's structs. -/
namespace Go.Proofs.Ytljcgcllhcdleaa
open Go.RowKit
set_option linter.unusedSimpArgs false
set_option linter.unusedVariables false
instance : DecidableEq Ev.Instr := fun x y =>
  if h : x.op = y.op ∧ x.d = y.d ∧ x.a = y.a ∧ x.b = y.b ∧ x.c = y.c ∧ x.imm = y.imm then .isTrue (by cases x; cases y; simp_all) else .isFalse (fun e => h (by subst e; simp))
instance : DecidableEq Ev.Vr := fun x y =>
  if h : x.name = y.name ∧ x.secret = y.secret ∧ x.size = y.size then .isTrue (by cases x; cases y; simp_all) else .isFalse (fun e => h (by subst e; simp))
instance : DecidableEq Ev.Leak := fun x y =>
  if h : x.pc = y.pc ∧ x.op = y.op ∧ x.vals = y.vals then .isTrue (by cases x; cases y; simp_all) else .isFalse (fun e => h (by subst e; simp))
instance : DecidableEq Ev.Ended := fun x y =>
  if h : x.word = y.word ∧ x.trap = y.trap ∧ x.arrays = y.arrays then .isTrue (by cases x; cases y; simp_all) else .isFalse (fun e => h (by subst e; simp))
instance : DecidableEq Ev.Flat := fun x y =>
  if h : x.code = y.code ∧ x.secret = y.secret ∧ x.params = y.params ∧ x.arrays = y.arrays then .isTrue (by cases x; cases y; simp_all) else .isFalse (fun e => h (by subst e; simp))
instance : DecidableEq Ev.Ran := fun x y =>
  if h : x.ended = y.ended ∧ x.err = y.err ∧ x.steps = y.steps ∧ x.mode = y.mode ∧ x.leaks = y.leaks then .isTrue (by cases x; cases y; simp_all) else .isFalse (fun e => h (by subst e; simp))
def aggI (i : Ev.Instr) : Value := .agg #[.int .i64 i.op, .int .i64 i.d, .int .i64 i.a, .int .i64 i.b, .int .i64 i.c, .int .i64 i.imm]
def aggV (x : Ev.Vr) : Value := .agg #[.string ⟨x.name.toArray⟩, .bool x.secret, .int .i64 x.size]
theorem neq_var (x y : Ev.Vr) (w : World) (b : Bool) (hb : decide (x = y) = !b) : (binOp .neq 88 (aggV x) (aggV y)).run Try.prog w = .ok (.bool b) w := by
  by_cases h : x = y
  · have : b = false := by cases b <;> simp_all
    subst this
    subst h
    clear hb
    unfold aggV
    go_simp
  · have : b = true := by cases b <;> simp_all
    subst this
    clear hb
    obtain ⟨n1, s1, z1⟩ := x
    obtain ⟨n2, s2, z2⟩ := y
    unfold aggV
    dsimp only
    by_cases h1 : n1 = n2
    · subst h1
      by_cases h2 : s1 = s2
      · subst h2
        have h3 : z1 ≠ z2 := fun e => h (by rw [e])
        clear h
        go_simp
      · clear h
        go_simp
    · clear h
      go_simp
theorem neq_instr (x y : Ev.Instr) (w : World) (b : Bool) (hb : decide (x = y) = !b) : (binOp .neq 39 (aggI x) (aggI y)).run Try.prog w = .ok (.bool b) w := by
  by_cases h : x = y
  · have : b = false := by cases b <;> simp_all
    subst this
    subst h
    clear hb
    unfold aggI
    go_simp
  · have : b = true := by cases b <;> simp_all
    subst this
    clear hb
    obtain ⟨a1, a2, a3, a4, a5, a6⟩ := x
    obtain ⟨b1, b2, b3, b4, b5, b6⟩ := y
    unfold aggI
    dsimp only
    by_cases h1 : a1 = b1
    · subst h1
      by_cases h2 : a2 = b2
      · subst h2
        by_cases h3 : a3 = b3
        · subst h3
          by_cases h4 : a4 = b4
          · subst h4
            by_cases h5 : a5 = b5
            · subst h5
              have h6 : a6 ≠ b6 := fun e => h (by rw [e])
              clear h
              go_simp
            · clear h
              go_simp
          · clear h
            go_simp
        · clear h
          go_simp
      · clear h
        go_simp
    · clear h
      go_simp
end Go.Proofs.Ytljcgcllhcdleaa
