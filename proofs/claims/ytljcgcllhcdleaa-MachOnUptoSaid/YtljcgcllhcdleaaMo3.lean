import Derived.Test.YtljcgcllhcdleaaProg
import Derived.Test.YtljcgcllhcdleaaMo1
import Derived.WalkSpells
import Derived.WalkLawsBesides
import Derived.Handy
import Derived.Lib.Hide
import Derived.BigQuiet
import Derived.Deep.QuietTactic
import Derived.Deep.DeepCutAuto
import Derived.Test.YtljcgcllhcdleaaMo2
/- Small functions of chapters 1, 2, 7. -/
namespace Go.Proofs.Ytljcgcllhcdleaa
open Go.RowKit
set_option linter.unusedSimpArgs false
set_option linter.unusedVariables false

set_option maxHeartbeats 400000 in
theorem all_any (op : Int) (w : World) :
    Calls Try.prog 91 #[.int .i64 op] w fun e w' => e = .returned (.int .i64 (Ev.all op)) ∧ Below w.heap.size w w' := by
  go_enter Try.func91, Try.ntmps91
  go_wp2
  all_goals (go_ret; (try simp only [beq_iff_eq, beq_eq_false_iff_ne] at *); refine ⟨?_, by (repeat' first | with_reducible (first | exact Below.refl _ _ | assumption | refine Below.alloc ?_ ?_ _ | refine below_drewN ?_ _ | refine Below.drew ?_ | refine Below.setCell ?_ ?_ _ | refine Below.trans ?_ (Below.mono (by with_reducible assumption) ?_)) | go_size)⟩; unfold Ev.all; (repeat' split) <;> first | rfl | (exfalso; omega))

set_option maxHeartbeats 400000 in
theorem makes_any (i : Ev.Instr) (w : World) :
    Calls Try.prog 37 #[.agg #[.int .i64 i.op, .int .i64 i.d, .int .i64 i.a, .int .i64 i.b, .int .i64 i.c, .int .i64 i.imm]] w fun e w' => e = .returned (.bool (Ev.makes i)) ∧ Below w.heap.size w w' := by
  go_enter Try.func37, Try.ntmps37
  go_wp2
  all_goals (go_ret; refine ⟨?_, by (repeat' first | with_reducible (first | exact Below.refl _ _ | assumption | refine Below.alloc ?_ ?_ _ | refine below_drewN ?_ _ | refine Below.drew ?_ | refine Below.setCell ?_ ?_ _ | refine Below.trans ?_ (Below.mono (by with_reducible assumption) ?_)) | go_size)⟩; simp [Ev.makes]; try omega)

set_option maxHeartbeats 400000 in
theorem reads_any (i : Ev.Instr) (w : World) :
    Calls Try.prog 35 #[.agg #[.int .i64 i.op, .int .i64 i.d, .int .i64 i.a, .int .i64 i.b, .int .i64 i.c, .int .i64 i.imm]] w fun e w' => ∃ v, e = .returned v ∧ RInts w' w'.heap.size v (Ev.reads i) ∧ Below w.heap.size w w' := by
  go_enter Try.func35, Try.ntmps35
  go_wp2
  all_goals go_ret
  all_goals
    first
    | (have hr : Ev.reads i = [i.a, i.b] := by (simp_all [Ev.reads]; done)
       exact ⟨_, rfl, RInts.lit (by simp) (by rw [hr]; rfl) (by rw [hr]; rfl) (by decide), by (repeat' first | with_reducible (first | exact Below.refl _ _ | assumption | refine Below.alloc ?_ ?_ _ | refine below_drewN ?_ _ | refine Below.drew ?_ | refine Below.setCell ?_ ?_ _ | refine Below.trans ?_ (Below.mono (by with_reducible assumption) ?_)) | go_size)⟩)
    | (have hr : Ev.reads i = [i.a, i.b, i.c] := by (simp_all [Ev.reads]; done)
       exact ⟨_, rfl, RInts.lit (by simp) (by rw [hr]; rfl) (by rw [hr]; rfl) (by decide), by (repeat' first | with_reducible (first | exact Below.refl _ _ | assumption | refine Below.alloc ?_ ?_ _ | refine below_drewN ?_ _ | refine Below.drew ?_ | refine Below.setCell ?_ ?_ _ | refine Below.trans ?_ (Below.mono (by with_reducible assumption) ?_)) | go_size)⟩)
    | (have hr : Ev.reads i = [i.a, i.d] := by (simp_all [Ev.reads]; done)
       exact ⟨_, rfl, RInts.lit (by simp) (by rw [hr]; rfl) (by rw [hr]; rfl) (by decide), by (repeat' first | with_reducible (first | exact Below.refl _ _ | assumption | refine Below.alloc ?_ ?_ _ | refine below_drewN ?_ _ | refine Below.drew ?_ | refine Below.setCell ?_ ?_ _ | refine Below.trans ?_ (Below.mono (by with_reducible assumption) ?_)) | go_size)⟩)
    | (have hr : Ev.reads i = [i.a] := by (simp_all [Ev.reads]; done)
       exact ⟨_, rfl, RInts.lit (by simp) (by rw [hr]; rfl) (by rw [hr]; rfl) (by decide), by (repeat' first | with_reducible (first | exact Below.refl _ _ | assumption | refine Below.alloc ?_ ?_ _ | refine below_drewN ?_ _ | refine Below.drew ?_ | refine Below.setCell ?_ ?_ _ | refine Below.trans ?_ (Below.mono (by with_reducible assumption) ?_)) | go_size)⟩)
    | (have hr : Ev.reads i = [] := by (simp_all [Ev.reads]; (try omega); done)
       exact ⟨_, rfl, RInts.nil_ hr, by (repeat' first | with_reducible (first | exact Below.refl _ _ | assumption | refine Below.alloc ?_ ?_ _ | refine below_drewN ?_ _ | refine Below.drew ?_ | refine Below.setCell ?_ ?_ _ | refine Below.trans ?_ (Below.mono (by with_reducible assumption) ?_)) | go_size)⟩)

end Go.Proofs.Ytljcgcllhcdleaa
/- A table in memory. -/
namespace Go.Proofs.Ytljcgcllhcdleaa
open Go.RowKit
set_option linter.unusedSimpArgs false
set_option linter.unusedVariables false
/-- a table in a block -/
structure TableAt (w : World) (b : Nat) (t : List Int) : Prop where
  len : t.length = 18
  lt : b < w.heap.size
  cell : ∀ k, k < 18 → w.cell? ⟨b, k, none⟩ = some (.int .i64 (t.getD k 0))
theorem TableAt.stays {w w' : World} {b : Nat} {t : List Int} (h : TableAt w b t) (hb : Below w.heap.size w w') : TableAt w' b t :=
  ⟨h.len, Nat.lt_of_lt_of_le h.lt hb.size, fun k hk => (hb.cell (p := ⟨b, k, none⟩) h.lt).trans (h.cell k hk)⟩
theorem TableAt.keeps {w w' : World} {b B : Nat} {t : List Int} (h : TableAt w b t) (hb : Below B w w') (hB : b < B) (hs : w.heap.size ≤ w'.heap.size) : TableAt w' b t :=
  ⟨h.len, Nat.lt_of_lt_of_le h.lt hs, fun k hk => (hb.cell (p := ⟨b, k, none⟩) hB).trans (h.cell k hk)⟩
theorem box_table {w : World} {t : List Int} (ht : t.length = 18) (T : TypeId) : TableAt (w.alloc (.cells (t.map (Value.int .i64)).toArray T)) w.heap.size t :=
  ⟨ht, by simp, fun k hk => by
    have hx : t[k]? = some (t.getD k 0) := by rw [List.getD_eq_getElem?_getD, List.getElem?_eq_getElem (by omega)]; rfl
    unfold World.cell?
    simp only [heap_alloc_new]
    show (t.map (Value.int .i64)).toArray[k]? = _
    rw [List.getElem?_toArray, List.getElem?_map, hx]
    rfl⟩
def tableV (t : List Int) : Value := .agg (t.map (Value.int .i64)).toArray
end Go.Proofs.Ytljcgcllhcdleaa
