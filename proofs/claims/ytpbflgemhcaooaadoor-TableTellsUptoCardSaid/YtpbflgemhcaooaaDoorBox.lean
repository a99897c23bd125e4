import Derived.Test.YtpbflgemhcaooaaDoorApp
import Derived.Test.YtpbflgemhcaooaaDoorProg
import Derived.Deep.MidRow
/- Boxes of arguments: their cells, and whole loads out of them (as in FlowTells; the two are never imported together). -/
namespace Go.Proofs.YtpbflgemhcaooaaDoor
open Go.RowKit
set_option linter.unusedSimpArgs false
set_option linter.unusedVariables false
theorem boxes3 (w : World) (c0 c1 c2 : Array Value) (t0 t1 t2 : TypeId) :
    (∀ (j : Nat) u, c0[j]? = some u → (((w.alloc (.cells c0 t0)).alloc (.cells c1 t1)).alloc (.cells c2 t2)).cell? ⟨w.heap.size, j, none⟩ = some u) ∧
    (∀ (j : Nat) u, c1[j]? = some u → (((w.alloc (.cells c0 t0)).alloc (.cells c1 t1)).alloc (.cells c2 t2)).cell? ⟨w.heap.size + 1, j, none⟩ = some u) ∧
    (∀ (j : Nat) u, c2[j]? = some u → (((w.alloc (.cells c0 t0)).alloc (.cells c1 t1)).alloc (.cells c2 t2)).cell? ⟨w.heap.size + 1 + 1, j, none⟩ = some u) := by
  have new : ∀ (v : World) (c : Array Value) (t : TypeId) (n j : Nat) u, n = v.heap.size → c[j]? = some u → (v.alloc (.cells c t)).cell? ⟨n, j, none⟩ = some u := fun v c t n j u hn hu => by
    subst hn
    rw [World.cell?_alloc_at _ _ _ _ rfl]
    exact hu
  have old : ∀ (v : World) (c : Array Value) (t : TypeId) (n j : Nat) u, n < v.heap.size → v.cell? ⟨n, j, none⟩ = some u → (v.alloc (.cells c t)).cell? ⟨n, j, none⟩ = some u := fun v c t n j u hn hu =>
    (((Below.refl v.heap.size v).alloc (Nat.le_refl _) (.cells c t)).cell (p := ⟨n, j, none⟩) hn).trans hu
  refine ⟨fun j u h => ?_, fun j u h => ?_, fun j u h => ?_⟩
  · exact old _ _ _ _ _ _ (by simp <;> omega) (old _ _ _ _ _ _ (by simp) (new _ _ _ _ _ _ rfl h))
  · exact old _ _ _ _ _ _ (by simp) (new _ _ _ _ _ _ (by simp) h)
  · exact new _ _ _ _ _ _ (by simp) h
theorem load_box {w u : World} {b : Nat} {T : TypeId} {cs : Array Value} {d : TypeDesc} (hu : Tryd.prog.underlying T = some d) (hd : d.isRow = true) (hs : cs.toList.toArray = cs) (hi : (Tryd.prog.info? T).map (·.size) = some cs.toList.length)
    (hc : ∀ (j : Nat) v, cs[j]? = some v → w.cell? ⟨b, j, none⟩ = some v) (hb : b < w.heap.size) (hbl : Below w.heap.size w u) : (Go.Instr.loadAt T (.pointer (some ⟨b, 0, none⟩))).run Tryd.prog u = .ok (.agg cs) u := by
  have h := run_loadAt_mid (P := Tryd.prog) u b 0 T cs.toList d (fun j v hj => by
    rw [Nat.zero_add]
    exact (hbl.cell (p := ⟨b, j, none⟩) hb).trans (hc j v (by simpa using hj))) hu hd hi
  rw [hs] at h
  exact h
theorem exec_load {ev : Operand → Value} {o : Oper} {w : World} {T : TypeId} {x : Operand} {p v : Value} (ho : o.op = .load T x) (hx : ev x = p) (h : (Go.Instr.loadAt T p).run Tryd.prog w = .ok v w) :
    (execOp ev o).run Tryd.prog w = .ok (.value v) w := by
  unfold execOp
  simp only [ho, hx, Sem.run_bind, h, Result.andThen_ok, Sem.run_pure]
theorem wpList_load_box {ops : Array Oper} {rest : List Oper} {op : Oper} {a : Act} {w : World} {Q : Exit → Act → World → Prop} (hgd : op.guard = none) (T : TypeId) (x : Operand) (ho : op.op = .load T x) {p v : Value} (hx : a.eval x = p)
    (hl : (Go.Instr.loadAt T p).run Tryd.prog w = .ok v w) (h : wpList Tryd.prog ops Q rest (a.put op.dst v) w) : wpList Tryd.prog ops Q (op :: rest) a w :=
  wpList_plain hgd fun K hK => by
    unfold Oper.wp
    rw [exec_load ho hx hl]
    exact hK _ _ h
theorem wpList_load_boxg {ops : Array Oper} {rest : List Oper} {op : Oper} {a : Act} {w : World} {Q : Exit → Act → World → Prop} (hw : Region.wanted op (yielded ops a.tmps) = true) (T : TypeId) (x : Operand) (ho : op.op = .load T x) {p v : Value} (hx : a.eval x = p)
    (hl : (Go.Instr.loadAt T p).run Tryd.prog w = .ok v w) (h : wpList Tryd.prog ops Q rest (a.put op.dst v) w) : wpList Tryd.prog ops Q (op :: rest) a w :=
  wpList_step fun K hK => by
    rw [if_pos hw]
    unfold Oper.wp
    rw [exec_load ho hx hl]
    exact hK _ _ h
end Go.Proofs.YtpbflgemhcaooaaDoor
