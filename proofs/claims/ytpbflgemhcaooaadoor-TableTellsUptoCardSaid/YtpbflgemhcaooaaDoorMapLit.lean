import Derived.Test.YtpbflgemhcaooaaDoorProg
import Derived.Test.YtpbflgemhcaooaaDoorLib
import Derived.Maps.OwnOps
/- The literal map[bool]int{true: 1, false: 0}, made and asked in one statement. -/
namespace Go.Proofs.YtpbflgemhcaooaaDoor
open Go.RowKit
set_option linter.unusedSectionVars false
def ent1 : MapEntry := { key := .bool true, val := .int .i64 1, born := 0 }
def ent2 : MapEntry := { key := .bool false, val := .int .i64 0, born := 1 }
theorem heap_set_new (w : World) (o o' : Obj) : ({ w.alloc o with heap := (w.alloc o).heap.setIfInBounds w.heap.size o' } : World) = w.alloc o' := by
  simp only [World.alloc]
  congr 1
  apply Array.ext_getElem?
  intro i
  simp only [Array.getElem?_setIfInBounds, Array.size_push, Array.getElem?_push]
  split
  · rename_i h; subst h; simp
  · rename_i h; simp [Ne.symm h]
section
variable (P : Program) (t : TypeId) (kt et : TypeId) (ht : P.underlying t = some (.map kt et)) (hk : P.underlying kt = some .bool)
include ht hk
theorem find_nil (x : Value) (w : World) : (Instr.findKey kt x []).run P w = .ok none w := by
  simp [Instr.findKey, run_underlying hk, Instr.findNow]
theorem find_one (w : World) : (Instr.findKey kt (.bool false) [ent1]).run P w = .ok none w := by
  simp [Instr.findKey, run_underlying hk, Instr.findNow, ent1, Instr.sameNow]
theorem find_two (w : World) (x : Bool) : (Instr.findKey kt (.bool x) [ent1, ent2]).run P w = .ok (some (if x then (0, .int .i64 1) else (1, .int .i64 0))) w := by
  cases x <;> simp [Instr.findKey, run_underlying hk, Instr.findNow, ent1, ent2, Instr.sameNow]
theorem chk (em x : Bool) (w : World) : (Instr.checkKey em 10000 kt (.bool x)).run P w = .ok () w := (Maps.bool_keyed hk).check w em (Maps.keyOf_bool_mk hk x)
theorem ins_one (w : World) : (Instr.mapUpdate t (.map (some w.heap.size)) (.bool true) (.int .i64 1)).run P (w.alloc (.map #[] 0)) = .ok () (w.alloc (.map #[ent1] 1)) := by
  have h0 : (w.alloc (.map #[] 0)).heap[w.heap.size]? = some (.map #[] 0) := heap_alloc_new w _
  have hs : ChangeMaps.setBlock (w.alloc (.map #[] 0)) w.heap.size (.map #[ent1] 1) = w.alloc (.map #[ent1] 1) := heap_set_new w _ _
  have hf := find_nil P t kt et ht hk (.bool true) (w.alloc (.map #[] 0))
  have hc := chk P t kt et ht hk false true (w.alloc (.map #[] 0))
  simp [Instr.mapUpdate, run_underlying ht, MapKept.run_getObj_map h0, hc, hf, MapKept.run_setObj_map _ h0, Result.andThen]
  exact hs
theorem ins_two (w : World) : (Instr.mapUpdate t (.map (some w.heap.size)) (.bool false) (.int .i64 0)).run P (w.alloc (.map #[ent1] 1)) = .ok () (w.alloc (.map #[ent1, ent2] 2)) := by
  have h0 : (w.alloc (.map #[ent1] 1)).heap[w.heap.size]? = some (.map #[ent1] 1) := heap_alloc_new w _
  have hs : ChangeMaps.setBlock (w.alloc (.map #[ent1] 1)) w.heap.size (.map #[ent1, ent2] 2) = w.alloc (.map #[ent1, ent2] 2) := heap_set_new w _ _
  have hf := find_one P t kt et ht hk (w.alloc (.map #[ent1] 1))
  have hc := chk P t kt et ht hk false false (w.alloc (.map #[ent1] 1))
  simp [Instr.mapUpdate, run_underlying ht, MapKept.run_getObj_map h0, hc, hf, MapKept.run_setObj_map _ h0, Result.andThen]
  exact hs
theorem look_two (w : World) (x : Bool) : (Instr.lookup t (.map (some w.heap.size)) (.bool x) false).run P (w.alloc (.map #[ent1, ent2] 2)) = .ok (.int .i64 (if x then 1 else 0)) (w.alloc (.map #[ent1, ent2] 2)) := by
  have h0 : (w.alloc (.map #[ent1, ent2] 2)).heap[w.heap.size]? = some (.map #[ent1, ent2] 2) := heap_alloc_new w _
  have hf := find_two P t kt et ht hk (w.alloc (.map #[ent1, ent2] 2)) x
  have hc := chk P t kt et ht hk false x (w.alloc (.map #[ent1, ent2] 2))
  simp [Instr.lookup, run_underlying ht, MapKept.run_getObj_map h0, hc, hf, Result.andThen]
  cases x <;> rfl
end
end Go.Proofs.YtpbflgemhcaooaaDoor
