import Derived.Test.YtbanhnoggcddjaaProg
import Derived.Test.YtbanhnoggcddjaaCode
import Derived.WalkSpells
import Derived.WalkLawsBesides
import Derived.Handy
import Derived.BigQuiet
import Derived.Deep.QuietTactic
namespace Go.Proofs.Ytbanhnoggcddjaa
open Go.RowKit
set_option linter.unusedSimpArgs false
set_option linter.unusedVariables false

set_option maxHeartbeats 1000000 in
theorem bytes_any (i : Ev.Instr) (w : World) :
    Calls Try.prog 18 #[.agg #[.int .i64 i.op, .int .i64 i.d, .int .i64 i.a, .int .i64 i.b, .int .i64 i.c, .int .i64 i.imm]] w fun e w' => ∃ v, e = .returned (.tuple #[v, .int .i64 (Ev.bytesErr i)]) ∧ RBytes w' w'.heap.size v (Ev.bytesOf i) ∧ Below w.heap.size w w' := by
  go_enter Try.func18, Try.ntmps18
  go_wp2
  go_rounds 6
  all_goals
    go_ret2
    (try simp only [bne_iff_ne, ne_eq, bne_eq_false_iff_eq, beq_iff_eq, beq_eq_false_iff_ne] at *)
    first
    | (have he := Ev.be3 (i := i) (by omega)
       exact ⟨_, by rw [he]; rfl, by rw [Ev.bytes_bad (by omega)]; exact SL.nil_ _ _ _, by go_grown⟩)
    | (have he := Ev.be1 (i := i) (by omega) (by omega)
       exact ⟨_, by rw [he]; rfl, by rw [Ev.bytes_bad (by omega)]; exact SL.nil_ _ _ _, by go_grown⟩)
    | (have he := Ev.be33 (i := i) (by omega) (by omega) (by omega)
       exact ⟨_, by rw [he]; rfl, by rw [Ev.bytes_bad (by omega)]; exact SL.nil_ _ _ _, by go_grown⟩)
    | (have he := Ev.be2 (i := i) (by omega) (by omega) (by omega) (by omega)
       exact ⟨_, by rw [he]; rfl, by rw [Ev.bytes_bad (by omega)]; exact SL.nil_ _ _ _, by go_grown⟩)
    | (have he := Ev.be0 (i := i) (by omega) (by omega) (by omega) (by omega)
       have hb := Ev.bytes_sel he (by omega)
       refine ⟨_, by rw [he]; rfl, RBytes.lit (by simp) (by rw [hb]; rfl) ?_ (by decide), by go_grown⟩
       rw [hb]; simp [IntKind.wrap_u8]; try omega)
    | (have he := Ev.be0 (i := i) (by omega) (by omega) (by omega) (by omega)
       have hb := Ev.bytes_imm he (by omega)
       refine ⟨_, by rw [he]; rfl, RBytes.lit (by simp) (by rw [hb]; rfl) ?_ (by decide), by go_grown⟩
       rw [hb]; simp [IntKind.wrap_u8]; try omega)
set_option maxHeartbeats 1000000 in
theorem refBytes_any (i : Ev.Instr) (w : World) :
    Calls Try.prog 19 #[.agg #[.int .i64 i.op, .int .i64 i.d, .int .i64 i.a, .int .i64 i.b, .int .i64 i.c, .int .i64 i.imm]] w fun e w' => ∃ v, e = .returned (.tuple #[v, .int .i64 (Ev.bytesErr i)]) ∧ RBytes w' w'.heap.size v (Ev.bytesOf i) ∧ Below w.heap.size w w' := by
  go_enter Try.func19, Try.ntmps19
  go_wp2
  go_rounds 6
  all_goals
    go_ret2
    (try simp only [bne_iff_ne, ne_eq, bne_eq_false_iff_eq, beq_iff_eq, beq_eq_false_iff_ne] at *)
    first
    | (have he := Ev.be3 (i := i) (by omega)
       exact ⟨_, by rw [he]; rfl, by rw [Ev.bytes_bad (by omega)]; exact SL.nil_ _ _ _, by go_grown⟩)
    | (have he := Ev.be1 (i := i) (by omega) (by omega)
       exact ⟨_, by rw [he]; rfl, by rw [Ev.bytes_bad (by omega)]; exact SL.nil_ _ _ _, by go_grown⟩)
    | (have he := Ev.be33 (i := i) (by omega) (by omega) (by omega)
       exact ⟨_, by rw [he]; rfl, by rw [Ev.bytes_bad (by omega)]; exact SL.nil_ _ _ _, by go_grown⟩)
    | (have he := Ev.be2 (i := i) (by omega) (by omega) (by omega) (by omega)
       exact ⟨_, by rw [he]; rfl, by rw [Ev.bytes_bad (by omega)]; exact SL.nil_ _ _ _, by go_grown⟩)
    | (have he := Ev.be0 (i := i) (by omega) (by omega) (by omega) (by omega)
       have hb := Ev.bytes_sel he (by omega)
       refine ⟨_, by rw [he]; rfl, RBytes.lit (by simp) (by rw [hb]; rfl) ?_ (by decide), by go_grown⟩
       rw [hb]; simp [IntKind.wrap_u8]; try omega)
    | (have he := Ev.be0 (i := i) (by omega) (by omega) (by omega) (by omega)
       have hb := Ev.bytes_imm he (by omega)
       refine ⟨_, by rw [he]; rfl, RBytes.lit (by simp) (by rw [hb]; rfl) ?_ (by decide), by go_grown⟩
       rw [hb]; simp [IntKind.wrap_u8]; try omega)
end Go.Proofs.Ytbanhnoggcddjaa
