import Derived.Test.YtljcgcllhcdleaaMo2
import Derived.Test.YtljcgcllhcdleaaProg
import Derived.Deep.MidRow
import Derived.Test.YtljcgcllhcdleaaMo8
/- Boxes of arguments: their cells, and whole loads out of them (as in FlowTells; the two are never imported together). -/
namespace Go.Proofs.Ytljcgcllhcdleaa
open Go.RowKit
set_option linter.unusedSimpArgs false
set_option linter.unusedVariables false
theorem boxes3 (w : World) (c0 c1 c2 : Array Value) (t0 t1 t2 : TypeId) :
    (∀ (j : Nat) u, c0[j]? = some u → (((w.alloc (.cells c0 t0)).alloc (.cells c1 t1)).alloc (.cells c2 t2)).cell? ⟨w.heap.size, j, none⟩ = some u) ∧
    (∀ (j : Nat) u, c1[j]? = some u → (((w.alloc (.cells c0 t0)).alloc (.cells c1 t1)).alloc (.cells c2 t2)).cell? ⟨w.heap.size + 1, j, none⟩ = some u) ∧
    (∀ (j : Nat) u, c2[j]? = some u → (((w.alloc (.cells c0 t0)).alloc (.cells c1 t1)).alloc (.cells c2 t2)).cell? ⟨w.heap.size + 1 + 1, j, none⟩ = some u) := by
  have new : ∀ (v : World) (c : Array Value) (t : TypeId) (n j : Nat) u, n = v.heap.size → c[j]? = some u → (v.alloc (.cells c t)).cell? ⟨n, j, none⟩ = some u := fun v c t n j u hn hu => by
    subst hn
    rw [World.cell?_alloc_at _ _ _ _ rfl]
    exact hu
  have old : ∀ (v : World) (c : Array Value) (t : TypeId) (n j : Nat) u, n < v.heap.size → v.cell? ⟨n, j, none⟩ = some u → (v.alloc (.cells c t)).cell? ⟨n, j, none⟩ = some u := fun v c t n j u hn hu =>
    (((Below.refl v.heap.size v).alloc (Nat.le_refl _) (.cells c t)).cell (p := ⟨n, j, none⟩) hn).trans hu
  refine ⟨fun j u h => ?_, fun j u h => ?_, fun j u h => ?_⟩
  · exact old _ _ _ _ _ _ (by simp <;> omega) (old _ _ _ _ _ _ (by simp) (new _ _ _ _ _ _ rfl h))
  · exact old _ _ _ _ _ _ (by simp) (new _ _ _ _ _ _ (by simp) h)
  · exact new _ _ _ _ _ _ (by simp) h
theorem load_box {w u : World} {b : Nat} {T : TypeId} {cs : Array Value} {d : TypeDesc} (hu : Try.prog.underlying T = some d) (hd : d.isRow = true) (hs : cs.toList.toArray = cs) (hi : (Try.prog.info? T).map (·.size) = some cs.toList.length)
    (hc : ∀ (j : Nat) v, cs[j]? = some v → w.cell? ⟨b, j, none⟩ = some v) (hb : b < w.heap.size) (hbl : Below w.heap.size w u) : (Go.Instr.loadAt T (.pointer (some ⟨b, 0, none⟩))).run Try.prog u = .ok (.agg cs) u := by
  have h := run_loadAt_mid (P := Try.prog) u b 0 T cs.toList d (fun j v hj => by
    rw [Nat.zero_add]
    exact (hbl.cell (p := ⟨b, j, none⟩) hb).trans (hc j v (by simpa using hj))) hu hd hi
  rw [hs] at h
  exact h
theorem exec_load {ev : Operand → Value} {o : Oper} {w : World} {T : TypeId} {x : Operand} {p v : Value} (ho : o.op = .load T x) (hx : ev x = p) (h : (Go.Instr.loadAt T p).run Try.prog w = .ok v w) :
    (execOp ev o).run Try.prog w = .ok (.value v) w := by
  unfold execOp
  simp only [ho, hx, Sem.run_bind, h, Result.andThen_ok, Sem.run_pure]
theorem wpList_load_box {ops : Array Oper} {rest : List Oper} {op : Oper} {a : Act} {w : World} {Q : Exit → Act → World → Prop} (hgd : op.guard = none) (T : TypeId) (x : Operand) (ho : op.op = .load T x) {p v : Value} (hx : a.eval x = p)
    (hl : (Go.Instr.loadAt T p).run Try.prog w = .ok v w) (h : wpList Try.prog ops Q rest (a.put op.dst v) w) : wpList Try.prog ops Q (op :: rest) a w :=
  wpList_plain hgd fun K hK => by
    unfold Oper.wp
    rw [exec_load ho hx hl]
    exact hK _ _ h
theorem wpList_load_boxg {ops : Array Oper} {rest : List Oper} {op : Oper} {a : Act} {w : World} {Q : Exit → Act → World → Prop} (hw : Region.wanted op (yielded ops a.tmps) = true) (T : TypeId) (x : Operand) (ho : op.op = .load T x) {p v : Value} (hx : a.eval x = p)
    (hl : (Go.Instr.loadAt T p).run Try.prog w = .ok v w) (h : wpList Try.prog ops Q rest (a.put op.dst v) w) : wpList Try.prog ops Q (op :: rest) a w :=
  wpList_step fun K hK => by
    rw [if_pos hw]
    unfold Oper.wp
    rw [exec_load ho hx hl]
    exact hK _ _ h
end Go.Proofs.Ytljcgcllhcdleaa
/- Chapter 11: more on the machine in memory. -/
namespace Go.Proofs.Ytljcgcllhcdleaa
open Go.RowKit
set_option linter.unusedSimpArgs false
set_option linter.unusedVariables false
theorem grown_trans {w w' w'' : World} {row : Option Nat} (h : w.grownBy w' row) (h2 : w'.grownBy w'' row) : w.grownBy w'' row :=
  ⟨h2.os.trans h.os, h2.tape.trans h.tape, h2.output.trans h.output, Nat.le_trans h.size h2.size, fun k hk hne => (h2.block k (Nat.lt_of_lt_of_le hk h.size) hne).trans (h.block k hk hne)⟩
theorem MacAt.vints {w : World} {lo mb : Nat} {va vl : Value} {vs : List Value} {m : Ev.Mc} (h : MacAt w lo mb va vs vl m) : RInts w w.heap.size (.slice (some ⟨mb, 0, none⟩) 120 120) m.s.v := by
  have hl := h.len
  refine ⟨by simp, _, _, by rw [hl], by rw [hl]; exact Nat.le_refl _, by decide, (fun h => by cases h), fun _ => ⟨mb, 0, rfl, h.lt, fun j u hu => ?_⟩⟩
  rw [Nat.zero_add, h.at_]
  unfold macCells
  have hj := (List.getElem?_eq_some_iff.1 hu).1
  rw [List.getElem?_append_left hj]
  exact hu
theorem loadAt_cells {w : World} {b : Nat} {T : TypeId} {cs : Array Value} {d : TypeDesc} (hu : Try.prog.underlying T = some d) (hd : d.isRow = true) (hs : cs.toList.toArray = cs) (hi : (Try.prog.info? T).map (·.size) = some cs.toList.length)
    (hc : ∀ (j : Nat) v, cs[j]? = some v → w.cell? ⟨b, j, none⟩ = some v) : (Go.Instr.loadAt T (.pointer (some ⟨b, 0, none⟩))).run Try.prog w = .ok (.agg cs) w := by
  have h := run_loadAt_mid (P := Try.prog) w b 0 T cs.toList d (fun j v hj => by
    rw [Nat.zero_add]
    exact hc j v (by simpa using hj)) hu hd hi
  rw [hs] at h
  exact h
/-- the machine behind its end: what its ran-struct holds -/
structure FinAt (W : World) (lo mb : Nat) (va vl : Value) (us : List Value) (m : Ev.Mc) : Prop where
  c3 : W.cell? ⟨mb, 123, none⟩ = some (.int .i64 m.wd)
  c4 : W.cell? ⟨mb, 124, none⟩ = some (.bool m.tr)
  c5 : W.cell? ⟨mb, 125, none⟩ = some va
  c6 : W.cell? ⟨mb, 126, none⟩ = some (.int .i64 0)
  c7 : W.cell? ⟨mb, 127, none⟩ = some (.int .i64 (m.st : Int))
  c8 : W.cell? ⟨mb, 128, none⟩ = some (.int .i64 m.s.mode)
  c9 : W.cell? ⟨mb, 129, none⟩ = some vl
  arrs : Arrs W lo va m.s.arrs us
  lt : mb < W.heap.size
  lm : lo ≤ mb
section
variable {w : World} {lo mb : Nat} {va vl : Value} {us : List Value} {m : Ev.Mc}
theorem MacAt.fin (h : MacAt w lo mb va us vl m) : FinAt ((w.setCell ⟨mb, 128, none⟩ (.int .i64 m.s.mode)).setCell ⟨mb, 125, none⟩ va) lo mb va vl us m := by
  have h3 := h.cwd
  have h4 := h.ctr
  have h5 := h.cea
  have h6 := h.cer
  have h7 := h.cst
  have h8 := h.crm
  have h9 := h.cvl
  refine ⟨by go_simp, by go_simp, by go_simp, by go_simp, by go_simp, by go_simp, by go_simp, ?_, by simpa using h.lt, h.lm⟩
  exact (h.arrs.apartFrom (fun b hb => by have := h.hio b hb; omega) (fun k u b hu hb => by have := h.his k u b hu hb; omega) _ _).apartFrom (fun b hb => by have := h.hio b hb; omega) (fun k u b hu hb => by have := h.his k u b hu hb; omega) _ _
theorem MacAt.fin' (h : MacAt w lo mb va us vl m) : FinAt ((w.setCell ⟨mb, 125, none⟩ va).setCell ⟨mb, 128, none⟩ (.int .i64 m.s.mode)) lo mb va vl us m := by
  have h3 := h.cwd
  have h4 := h.ctr
  have h5 := h.cea
  have h6 := h.cer
  have h7 := h.cst
  have h8 := h.crm
  have h9 := h.cvl
  refine ⟨by go_simp, by go_simp, by go_simp, by go_simp, by go_simp, by go_simp, by go_simp, ?_, by simpa using h.lt, h.lm⟩
  exact (h.arrs.apartFrom (fun b hb => by have := h.hio b hb; omega) (fun k u b hu hb => by have := h.his k u b hu hb; omega) _ _).apartFrom (fun b hb => by have := h.hio b hb; omega) (fun k u b hu hb => by have := h.his k u b hu hb; omega) _ _
theorem FinAt.drew {W : World} (h : FinAt W lo mb va vl us m) : FinAt W.drew lo mb va vl us m := ⟨h.c3, h.c4, h.c5, h.c6, h.c7, h.c8, h.c9, h.arrs.stays (Below.refl _ _).drew, h.lt, h.lm⟩
theorem Arrs.aside2 {w : World} {lo : Nat} {v : Value} {l : List (List Int)} {vs : List Value} (h : Arrs w lo v l vs) {q o : Nat} {c : Value} (hq : q < lo) : Arrs (w.setCell ⟨q, o, none⟩ c) lo v l vs :=
  ⟨ownsRow_setCell_below h.outer hq _, h.len, fun k u a hu ha => ownsRow_setCell_below (h.row k u a hu ha) hq _, h.apart, h.out⟩
end
end Go.Proofs.Ytljcgcllhcdleaa
