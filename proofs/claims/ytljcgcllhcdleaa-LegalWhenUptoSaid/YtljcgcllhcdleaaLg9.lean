import Derived.Test.YtljcgcllhcdleaaLg8
import Derived.Test.YtljcgcllhcdleaaLg2
import Derived.Test.YtljcgcllhcdleaaProg
import Derived.Deep.MidRow
import Derived.Test.YtljcgcllhcdleaaLg1
/- Chapter 11: the machine of an image in memory. -/
namespace Go.Proofs.Ytljcgcllhcdleaa
open Go.RowKit
set_option linter.unusedSimpArgs false
set_option linter.unusedVariables false
def macTail (m : Ev.Mc) (va vl : Value) : List Value := [va, .int .i64 m.s.mode, .int .i64 (m.pc : Int), .int .i64 m.wd, .bool m.tr, .slice none 0 0, .int .i64 0, .int .i64 (m.st : Int), .int .i64 0, vl]
def macCells (m : Ev.Mc) (va vl : Value) : List Value := m.s.v.map (Value.int .i64) ++ macTail m va vl
theorem Arrs.apartFrom {w : World} {lo q : Nat} {v : Value} {l : List (List Int)} {vs : List Value} (h : Arrs w lo v l vs) (h1 : ∀ b, v.ownBlock = some b → b ≠ q) (h2 : ∀ (k : Nat) u b, vs[k]? = some u → u.ownBlock = some b → b ≠ q) (o : Nat) (c : Value) : Arrs (w.setCell ⟨q, o, none⟩ c) lo v l vs :=
  ⟨ownsRow_setCell_other h.outer (fun e => h1 q e rfl) _, h.len, fun k u a hu ha => ownsRow_setCell_other (h.row k u a hu ha) (fun e => h2 k u q hu e rfl) _, h.apart, h.out⟩
/-- the machine: its struct in block mb; its arrays' rows from lo on, all below mb; vl is what it has of its leaks -/
structure MacAt (w : World) (lo mb : Nat) (va : Value) (vs : List Value) (vl : Value) (m : Ev.Mc) : Prop where
  len : m.s.v.length = 120
  blk : w.heap[mb]? = some (.cells (macCells m va vl).toArray 131 (0, 0))
  arrs : Arrs w lo va m.s.arrs vs
  hio : ∀ b, va.ownBlock = some b → b < mb
  his : ∀ (k : Nat) u b, vs[k]? = some u → u.ownBlock = some b → b < mb
  lm : lo ≤ mb
section
variable {w w' : World} {lo mb : Nat} {va vl : Value} {vs : List Value} {m : Ev.Mc}
theorem MacAt.lt (h : MacAt w lo mb va vs vl m) : mb < w.heap.size := (Array.getElem?_eq_some_iff.1 h.blk).1
theorem MacAt.grown {row : Option Nat} (h : MacAt w lo mb va vs vl m) (hg : w.grownBy w' row) (hr : ∀ q, row = some q → mb < q) : MacAt w' lo mb va vs vl m := by
  have ne : ∀ (u : Value), (∀ b, u.ownBlock = some b → b < mb) → u.ownBlock = none ∨ u.ownBlock ≠ row := fun u hu => by
    cases hb : u.ownBlock with
    | none => exact .inl rfl
    | some b =>
      refine .inr fun e => ?_
      have := hr b e.symm
      have := hu b hb
      omega
  exact ⟨h.len, (hg.block mb h.lt (fun e => by have := hr mb e.symm; omega)).trans h.blk, ⟨h.arrs.outer.kept hg (ne _ h.hio), h.arrs.len, fun k u a hu ha => (h.arrs.row k u a hu ha).kept hg (ne _ (h.his k u · hu)), h.arrs.apart, h.arrs.out⟩, h.hio, h.his, h.lm⟩
theorem MacAt.stays (h : MacAt w lo mb va vs vl m) (hb : Below w.heap.size w w') : MacAt w' lo mb va vs vl m := h.grown (grown_of_below hb none) (fun q e => by cases e)
theorem MacAt.loose (h : MacAt w lo mb va vs vl m) (j : Nat) : w.frozen? ⟨mb, j, none⟩ = false := by
  unfold World.frozen?
  rw [h.blk]
  simp
theorem MacAt.at_ (h : MacAt w lo mb va vs vl m) (j : Nat) : w.cell? ⟨mb, j, none⟩ = (macCells m va vl)[j]? := by
  unfold World.cell?
  rw [h.blk]
  simp
theorem MacAt.cell (h : MacAt w lo mb va vs vl m) {p : Int} (hp : inR 120 p) : w.cell? ⟨mb, p.toNat, none⟩ = some (.int .i64 (Ev.val m.s.v p)) := by
  have hl := h.len
  unfold inR at hp
  rw [h.at_]
  unfold macCells
  rw [List.getElem?_append_left (by simp; omega), List.getElem?_map]
  unfold Ev.val
  rw [List.getD_eq_getElem?_getD, List.getElem?_eq_getElem (by omega)]
  rfl
theorem MacAt.tail (h : MacAt w lo mb va vs vl m) (k : Nat) : w.cell? ⟨mb, 120 + k, none⟩ = (macTail m va vl)[k]? := by
  have hl := h.len
  rw [h.at_]
  unfold macCells
  rw [List.getElem?_append_right (by simp; omega)]
  simp [hl]
theorem MacAt.cva (h : MacAt w lo mb va vs vl m) : w.cell? ⟨mb, 120, none⟩ = some va := h.tail 0
theorem MacAt.cmode (h : MacAt w lo mb va vs vl m) : w.cell? ⟨mb, 121, none⟩ = some (.int .i64 m.s.mode) := h.tail 1
theorem MacAt.cpc (h : MacAt w lo mb va vs vl m) : w.cell? ⟨mb, 122, none⟩ = some (.int .i64 (m.pc : Int)) := h.tail 2
theorem MacAt.cwd (h : MacAt w lo mb va vs vl m) : w.cell? ⟨mb, 123, none⟩ = some (.int .i64 m.wd) := h.tail 3
theorem MacAt.ctr (h : MacAt w lo mb va vs vl m) : w.cell? ⟨mb, 124, none⟩ = some (.bool m.tr) := h.tail 4
theorem MacAt.cea (h : MacAt w lo mb va vs vl m) : w.cell? ⟨mb, 125, none⟩ = some (.slice none 0 0) := h.tail 5
theorem MacAt.cer (h : MacAt w lo mb va vs vl m) : w.cell? ⟨mb, 126, none⟩ = some (.int .i64 0) := h.tail 6
theorem MacAt.cst (h : MacAt w lo mb va vs vl m) : w.cell? ⟨mb, 127, none⟩ = some (.int .i64 (m.st : Int)) := h.tail 7
theorem MacAt.crm (h : MacAt w lo mb va vs vl m) : w.cell? ⟨mb, 128, none⟩ = some (.int .i64 0) := h.tail 8
theorem MacAt.cvl (h : MacAt w lo mb va vs vl m) : w.cell? ⟨mb, 129, none⟩ = some vl := h.tail 9
/-- a cell of the struct set -/
theorem MacAt.put (h : MacAt w lo mb va vs vl m) (j : Nat) (c : Value) {m' : Ev.Mc} {vl' : Value} (hc : (macCells m va vl).set j c = macCells m' va vl') (hl : m'.s.v.length = 120) (ha : m'.s.arrs = m.s.arrs) :
    MacAt (w.setCell ⟨mb, j, none⟩ c) lo mb va vs vl' m' := by
  refine ⟨hl, ?_, ?_, h.hio, h.his, h.lm⟩
  · rw [heap_setCell_same w mb j _ _ c h.blk, ← hc]
    simp
  · rw [ha]
    exact h.arrs.apartFrom (fun b hb => by have := h.hio b hb; omega) (fun k u b hu hb => by have := h.his k u b hu hb; omega) _ _
theorem macCells_tail (m : Ev.Mc) (va vl : Value) (hl : m.s.v.length = 120) (k : Nat) (c : Value) : (macCells m va vl).set (120 + k) c = m.s.v.map (Value.int .i64) ++ (macTail m va vl).set k c := by
  unfold macCells
  rw [List.set_append_right (h := by simp; omega)]
  simp [hl]
theorem MacAt.setV (h : MacAt w lo mb va vs vl m) {p : Nat} (hp : p < 120) (x : Int) : MacAt (w.setCell ⟨mb, p, none⟩ (.int .i64 x)) lo mb va vs vl { m with s := { m.s with v := m.s.v.set p x } } := by
  have hl := h.len
  refine h.put p _ ?_ (by simpa using h.len) rfl
  unfold macCells
  rw [List.set_append_left (h := by simp; omega), ← List.map_set]
  rfl
theorem MacAt.setMode (h : MacAt w lo mb va vs vl m) (x : Int) : MacAt (w.setCell ⟨mb, 121, none⟩ (.int .i64 x)) lo mb va vs vl { m with s := { m.s with mode := x } } :=
  h.put (120 + 1) _ (by rw [macCells_tail _ _ _ h.len]; rfl) h.len rfl
theorem MacAt.setPc (h : MacAt w lo mb va vs vl m) (k : Nat) {x : Int} (hx : x = (k : Int)) : MacAt (w.setCell ⟨mb, 122, none⟩ (.int .i64 x)) lo mb va vs vl { m with pc := k } := by
  subst hx
  exact h.put (120 + 2) _ (by rw [macCells_tail _ _ _ h.len]; rfl) h.len rfl
theorem MacAt.setWd (h : MacAt w lo mb va vs vl m) (x : Int) : MacAt (w.setCell ⟨mb, 123, none⟩ (.int .i64 x)) lo mb va vs vl { m with wd := x } :=
  h.put (120 + 3) _ (by rw [macCells_tail _ _ _ h.len]; rfl) h.len rfl
theorem MacAt.setTr (h : MacAt w lo mb va vs vl m) (x : Bool) : MacAt (w.setCell ⟨mb, 124, none⟩ (.bool x)) lo mb va vs vl { m with tr := x } :=
  h.put (120 + 4) _ (by rw [macCells_tail _ _ _ h.len]; rfl) h.len rfl
theorem MacAt.setSt (h : MacAt w lo mb va vs vl m) (k : Nat) {x : Int} (hx : x = (k : Int)) : MacAt (w.setCell ⟨mb, 127, none⟩ (.int .i64 x)) lo mb va vs vl { m with st := k } := by
  subst hx
  exact h.put (120 + 7) _ (by rw [macCells_tail _ _ _ h.len]; rfl) h.len rfl
theorem MacAt.setVl (h : MacAt w lo mb va vs vl m) (u : Value) : MacAt (w.setCell ⟨mb, 129, none⟩ u) lo mb va vs u m :=
  h.put (120 + 9) _ (by rw [macCells_tail _ _ _ h.len]; rfl) h.len rfl
theorem MacAt.setA (h : MacAt w lo mb va vs vl m) {k g : Nat} {a : List Int} {ca : Nat} (hk : m.s.arrs[k]? = some a) (hu : vs[k]? = some (.slice (some ⟨g, 0, none⟩) a.length ca)) (j : Nat) (x : Int) :
    MacAt (w.setCell ⟨g, j, none⟩ (.int .i64 x)) lo mb va vs vl { m with s := { m.s with arrs := m.s.arrs.set k (a.set j x) } } := by
  have hr := h.arrs.row k _ a hu hk
  obtain ⟨h1, h2⟩ := hr.stored j (.int .i64 x)
  have hgm := h.his k _ g hu rfl
  refine ⟨h.len, ?_, ⟨ownsRow_setCell_other h.arrs.outer (h.arrs.out k _ g hu rfl) _, by simpa using h.arrs.len, fun k' u b hu' hb => ?_, h.arrs.apart, h.arrs.out⟩, h.hio, h.his, h.lm⟩
  · rw [heap_setCell_other w ⟨g, j, none⟩ mb _ (by show mb ≠ g; omega)]
    exact h.blk
  · by_cases hkk : k' = k
    · subst hkk
      rw [hu] at hu'
      injection hu' with hu'
      subst hu'
      have hb' : b = a.set j x := by
        simp only [List.getElem?_set] at hb
        split at hb
        · split at hb
          · exact (Option.some.inj hb).symm
          · cases hb
        · rename_i hne; exact absurd trivial hne
      subst hb'
      rw [List.length_set, map_set_int]
      exact h1
    · have hb' : m.s.arrs[k']? = some b := by
        simp only [List.getElem?_set] at hb
        rw [if_neg (fun e => hkk e.symm)] at hb
        exact hb
      refine ownsRow_setCell_other (h.arrs.row k' u b hu' hb') ?_ _
      intro e
      exact hkk (h.arrs.apart k' k u _ g hu' hu e rfl)
end
end Go.Proofs.Ytljcgcllhcdleaa
/- Boxes of arguments: their cells, and whole loads out of them (as in FlowTells; the two are never imported together). -/
namespace Go.Proofs.Ytljcgcllhcdleaa
open Go.RowKit
set_option linter.unusedSimpArgs false
set_option linter.unusedVariables false
theorem boxes3 (w : World) (c0 c1 c2 : Array Value) (t0 t1 t2 : TypeId) :
    (∀ (j : Nat) u, c0[j]? = some u → (((w.alloc (.cells c0 t0)).alloc (.cells c1 t1)).alloc (.cells c2 t2)).cell? ⟨w.heap.size, j, none⟩ = some u) ∧
    (∀ (j : Nat) u, c1[j]? = some u → (((w.alloc (.cells c0 t0)).alloc (.cells c1 t1)).alloc (.cells c2 t2)).cell? ⟨w.heap.size + 1, j, none⟩ = some u) ∧
    (∀ (j : Nat) u, c2[j]? = some u → (((w.alloc (.cells c0 t0)).alloc (.cells c1 t1)).alloc (.cells c2 t2)).cell? ⟨w.heap.size + 1 + 1, j, none⟩ = some u) := by
  have new : ∀ (v : World) (c : Array Value) (t : TypeId) (n j : Nat) u, n = v.heap.size → c[j]? = some u → (v.alloc (.cells c t)).cell? ⟨n, j, none⟩ = some u := fun v c t n j u hn hu => by
    subst hn
    rw [World.cell?_alloc_at _ _ _ _ rfl]
    exact hu
  have old : ∀ (v : World) (c : Array Value) (t : TypeId) (n j : Nat) u, n < v.heap.size → v.cell? ⟨n, j, none⟩ = some u → (v.alloc (.cells c t)).cell? ⟨n, j, none⟩ = some u := fun v c t n j u hn hu =>
    (((Below.refl v.heap.size v).alloc (Nat.le_refl _) (.cells c t)).cell (p := ⟨n, j, none⟩) hn).trans hu
  refine ⟨fun j u h => ?_, fun j u h => ?_, fun j u h => ?_⟩
  · exact old _ _ _ _ _ _ (by simp <;> omega) (old _ _ _ _ _ _ (by simp) (new _ _ _ _ _ _ rfl h))
  · exact old _ _ _ _ _ _ (by simp) (new _ _ _ _ _ _ (by simp) h)
  · exact new _ _ _ _ _ _ (by simp) h
theorem load_box {w u : World} {b : Nat} {T : TypeId} {cs : Array Value} {d : TypeDesc} (hu : Try.prog.underlying T = some d) (hd : d.isRow = true) (hs : cs.toList.toArray = cs) (hi : (Try.prog.info? T).map (·.size) = some cs.toList.length)
    (hc : ∀ (j : Nat) v, cs[j]? = some v → w.cell? ⟨b, j, none⟩ = some v) (hb : b < w.heap.size) (hbl : Below w.heap.size w u) : (Go.Instr.loadAt T (.pointer (some ⟨b, 0, none⟩))).run Try.prog u = .ok (.agg cs) u := by
  have h := run_loadAt_mid (P := Try.prog) u b 0 T cs.toList d (fun j v hj => by
    rw [Nat.zero_add]
    exact (hbl.cell (p := ⟨b, j, none⟩) hb).trans (hc j v (by simpa using hj))) hu hd hi
  rw [hs] at h
  exact h
theorem exec_load {ev : Operand → Value} {o : Oper} {w : World} {T : TypeId} {x : Operand} {p v : Value} (ho : o.op = .load T x) (hx : ev x = p) (h : (Go.Instr.loadAt T p).run Try.prog w = .ok v w) :
    (execOp ev o).run Try.prog w = .ok (.value v) w := by
  unfold execOp
  simp only [ho, hx, Sem.run_bind, h, Result.andThen_ok, Sem.run_pure]
theorem wpList_load_box {ops : Array Oper} {rest : List Oper} {op : Oper} {a : Act} {w : World} {Q : Exit → Act → World → Prop} (hgd : op.guard = none) (T : TypeId) (x : Operand) (ho : op.op = .load T x) {p v : Value} (hx : a.eval x = p)
    (hl : (Go.Instr.loadAt T p).run Try.prog w = .ok v w) (h : wpList Try.prog ops Q rest (a.put op.dst v) w) : wpList Try.prog ops Q (op :: rest) a w :=
  wpList_plain hgd fun K hK => by
    unfold Oper.wp
    rw [exec_load ho hx hl]
    exact hK _ _ h
theorem wpList_load_boxg {ops : Array Oper} {rest : List Oper} {op : Oper} {a : Act} {w : World} {Q : Exit → Act → World → Prop} (hw : Region.wanted op (yielded ops a.tmps) = true) (T : TypeId) (x : Operand) (ho : op.op = .load T x) {p v : Value} (hx : a.eval x = p)
    (hl : (Go.Instr.loadAt T p).run Try.prog w = .ok v w) (h : wpList Try.prog ops Q rest (a.put op.dst v) w) : wpList Try.prog ops Q (op :: rest) a w :=
  wpList_step fun K hK => by
    rw [if_pos hw]
    unfold Oper.wp
    rw [exec_load ho hx hl]
    exact hK _ _ h
end Go.Proofs.Ytljcgcllhcdleaa
/- Chapter 11: more on the machine in memory. -/
namespace Go.Proofs.Ytljcgcllhcdleaa
open Go.RowKit
set_option linter.unusedSimpArgs false
set_option linter.unusedVariables false
theorem grown_trans {w w' w'' : World} {row : Option Nat} (h : w.grownBy w' row) (h2 : w'.grownBy w'' row) : w.grownBy w'' row :=
  ⟨h2.os.trans h.os, h2.tape.trans h.tape, h2.output.trans h.output, Nat.le_trans h.size h2.size, fun k hk hne => (h2.block k (Nat.lt_of_lt_of_le hk h.size) hne).trans (h.block k hk hne)⟩
theorem MacAt.vints {w : World} {lo mb : Nat} {va vl : Value} {vs : List Value} {m : Ev.Mc} (h : MacAt w lo mb va vs vl m) : RInts w w.heap.size (.slice (some ⟨mb, 0, none⟩) 120 120) m.s.v := by
  have hl := h.len
  refine ⟨by simp, _, _, by rw [hl], by rw [hl]; exact Nat.le_refl _, by decide, (fun h => by cases h), fun _ => ⟨mb, 0, rfl, h.lt, fun j u hu => ?_⟩⟩
  rw [Nat.zero_add, h.at_]
  unfold macCells
  have hj := (List.getElem?_eq_some_iff.1 hu).1
  rw [List.getElem?_append_left hj]
  exact hu
theorem loadAt_cells {w : World} {b : Nat} {T : TypeId} {cs : Array Value} {d : TypeDesc} (hu : Try.prog.underlying T = some d) (hd : d.isRow = true) (hs : cs.toList.toArray = cs) (hi : (Try.prog.info? T).map (·.size) = some cs.toList.length)
    (hc : ∀ (j : Nat) v, cs[j]? = some v → w.cell? ⟨b, j, none⟩ = some v) : (Go.Instr.loadAt T (.pointer (some ⟨b, 0, none⟩))).run Try.prog w = .ok (.agg cs) w := by
  have h := run_loadAt_mid (P := Try.prog) w b 0 T cs.toList d (fun j v hj => by
    rw [Nat.zero_add]
    exact hc j v (by simpa using hj)) hu hd hi
  rw [hs] at h
  exact h
/-- the machine behind its end: what its ran-struct holds -/
structure FinAt (W : World) (lo mb : Nat) (va vl : Value) (us : List Value) (m : Ev.Mc) : Prop where
  c3 : W.cell? ⟨mb, 123, none⟩ = some (.int .i64 m.wd)
  c4 : W.cell? ⟨mb, 124, none⟩ = some (.bool m.tr)
  c5 : W.cell? ⟨mb, 125, none⟩ = some va
  c6 : W.cell? ⟨mb, 126, none⟩ = some (.int .i64 0)
  c7 : W.cell? ⟨mb, 127, none⟩ = some (.int .i64 (m.st : Int))
  c8 : W.cell? ⟨mb, 128, none⟩ = some (.int .i64 m.s.mode)
  c9 : W.cell? ⟨mb, 129, none⟩ = some vl
  arrs : Arrs W lo va m.s.arrs us
  lt : mb < W.heap.size
  lm : lo ≤ mb
section
variable {w : World} {lo mb : Nat} {va vl : Value} {us : List Value} {m : Ev.Mc}
theorem MacAt.fin (h : MacAt w lo mb va us vl m) : FinAt ((w.setCell ⟨mb, 128, none⟩ (.int .i64 m.s.mode)).setCell ⟨mb, 125, none⟩ va) lo mb va vl us m := by
  have h3 := h.cwd
  have h4 := h.ctr
  have h5 := h.cea
  have h6 := h.cer
  have h7 := h.cst
  have h8 := h.crm
  have h9 := h.cvl
  refine ⟨by go_simp, by go_simp, by go_simp, by go_simp, by go_simp, by go_simp, by go_simp, ?_, by simpa using h.lt, h.lm⟩
  exact (h.arrs.apartFrom (fun b hb => by have := h.hio b hb; omega) (fun k u b hu hb => by have := h.his k u b hu hb; omega) _ _).apartFrom (fun b hb => by have := h.hio b hb; omega) (fun k u b hu hb => by have := h.his k u b hu hb; omega) _ _
theorem MacAt.fin' (h : MacAt w lo mb va us vl m) : FinAt ((w.setCell ⟨mb, 125, none⟩ va).setCell ⟨mb, 128, none⟩ (.int .i64 m.s.mode)) lo mb va vl us m := by
  have h3 := h.cwd
  have h4 := h.ctr
  have h5 := h.cea
  have h6 := h.cer
  have h7 := h.cst
  have h8 := h.crm
  have h9 := h.cvl
  refine ⟨by go_simp, by go_simp, by go_simp, by go_simp, by go_simp, by go_simp, by go_simp, ?_, by simpa using h.lt, h.lm⟩
  exact (h.arrs.apartFrom (fun b hb => by have := h.hio b hb; omega) (fun k u b hu hb => by have := h.his k u b hu hb; omega) _ _).apartFrom (fun b hb => by have := h.hio b hb; omega) (fun k u b hu hb => by have := h.his k u b hu hb; omega) _ _
theorem FinAt.drew {W : World} (h : FinAt W lo mb va vl us m) : FinAt W.drew lo mb va vl us m := ⟨h.c3, h.c4, h.c5, h.c6, h.c7, h.c8, h.c9, h.arrs.stays (Below.refl _ _).drew, h.lt, h.lm⟩
theorem Arrs.aside2 {w : World} {lo : Nat} {v : Value} {l : List (List Int)} {vs : List Value} (h : Arrs w lo v l vs) {q o : Nat} {c : Value} (hq : q < lo) : Arrs (w.setCell ⟨q, o, none⟩ c) lo v l vs :=
  ⟨ownsRow_setCell_below h.outer hq _, h.len, fun k u a hu ha => ownsRow_setCell_below (h.row k u a hu ha) hq _, h.apart, h.out⟩
end
end Go.Proofs.Ytljcgcllhcdleaa
/- '!=' on the program's structs. -/
namespace Go.Proofs.Ytljcgcllhcdleaa
open Go.RowKit
set_option linter.unusedSimpArgs false
set_option linter.unusedVariables false
instance : DecidableEq Ev.Instr := fun x y =>
  if h : x.op = y.op ∧ x.d = y.d ∧ x.a = y.a ∧ x.b = y.b ∧ x.c = y.c ∧ x.imm = y.imm then .isTrue (by cases x; cases y; simp_all) else .isFalse (fun e => h (by subst e; simp))
instance : DecidableEq Ev.Vr := fun x y =>
  if h : x.name = y.name ∧ x.secret = y.secret ∧ x.size = y.size then .isTrue (by cases x; cases y; simp_all) else .isFalse (fun e => h (by subst e; simp))
instance : DecidableEq Ev.Leak := fun x y =>
  if h : x.pc = y.pc ∧ x.op = y.op ∧ x.vals = y.vals then .isTrue (by cases x; cases y; simp_all) else .isFalse (fun e => h (by subst e; simp))
instance : DecidableEq Ev.Ended := fun x y =>
  if h : x.word = y.word ∧ x.trap = y.trap ∧ x.arrays = y.arrays then .isTrue (by cases x; cases y; simp_all) else .isFalse (fun e => h (by subst e; simp))
instance : DecidableEq Ev.Flat := fun x y =>
  if h : x.code = y.code ∧ x.secret = y.secret ∧ x.params = y.params ∧ x.arrays = y.arrays then .isTrue (by cases x; cases y; simp_all) else .isFalse (fun e => h (by subst e; simp))
instance : DecidableEq Ev.Ran := fun x y =>
  if h : x.ended = y.ended ∧ x.err = y.err ∧ x.steps = y.steps ∧ x.mode = y.mode ∧ x.leaks = y.leaks then .isTrue (by cases x; cases y; simp_all) else .isFalse (fun e => h (by subst e; simp))
def aggI (i : Ev.Instr) : Value := .agg #[.int .i64 i.op, .int .i64 i.d, .int .i64 i.a, .int .i64 i.b, .int .i64 i.c, .int .i64 i.imm]
def aggV (x : Ev.Vr) : Value := .agg #[.string ⟨x.name.toArray⟩, .bool x.secret, .int .i64 x.size]
theorem neq_var (x y : Ev.Vr) (w : World) (b : Bool) (hb : decide (x = y) = !b) : (binOp .neq 88 (aggV x) (aggV y)).run Try.prog w = .ok (.bool b) w := by
  by_cases h : x = y
  · have : b = false := by cases b <;> simp_all
    subst this
    subst h
    clear hb
    unfold aggV
    go_simp
  · have : b = true := by cases b <;> simp_all
    subst this
    clear hb
    obtain ⟨n1, s1, z1⟩ := x
    obtain ⟨n2, s2, z2⟩ := y
    unfold aggV
    dsimp only
    by_cases h1 : n1 = n2
    · subst h1
      by_cases h2 : s1 = s2
      · subst h2
        have h3 : z1 ≠ z2 := fun e => h (by rw [e])
        clear h
        go_simp
      · clear h
        go_simp
    · clear h
      go_simp
theorem neq_instr (x y : Ev.Instr) (w : World) (b : Bool) (hb : decide (x = y) = !b) : (binOp .neq 39 (aggI x) (aggI y)).run Try.prog w = .ok (.bool b) w := by
  by_cases h : x = y
  · have : b = false := by cases b <;> simp_all
    subst this
    subst h
    clear hb
    unfold aggI
    go_simp
  · have : b = true := by cases b <;> simp_all
    subst this
    clear hb
    obtain ⟨a1, a2, a3, a4, a5, a6⟩ := x
    obtain ⟨b1, b2, b3, b4, b5, b6⟩ := y
    unfold aggI
    dsimp only
    by_cases h1 : a1 = b1
    · subst h1
      by_cases h2 : a2 = b2
      · subst h2
        by_cases h3 : a3 = b3
        · subst h3
          by_cases h4 : a4 = b4
          · subst h4
            by_cases h5 : a5 = b5
            · subst h5
              have h6 : a6 ≠ b6 := fun e => h (by rw [e])
              clear h
              go_simp
            · clear h
              go_simp
          · clear h
            go_simp
        · clear h
          go_simp
      · clear h
        go_simp
    · clear h
      go_simp
end Go.Proofs.Ytljcgcllhcdleaa
/- Chapter 7, the plain law: two runs of right flat instructions that are given the same, but for what is secret, go the same way; where nothing secret is shown all that is seen is the same. -/
namespace Ev
/-- the same, but for what is secret -/
structure Low (f : Flat) (s u : St) : Prop where
  v : ∀ p : Nat, f.secret.getD p false = false → s.v.getD p 0 = u.v.getD p 0
  len : ∀ b : Nat, (s.arrs.getD b []).length = (u.arrs.getD b []).length
  arr : ∀ b : Nat, (f.arrays.getD b default).secret = false → s.arrs.getD b [] = u.arrs.getD b []
theorem Low.val {f : Flat} {s u : St} (h : Low f s u) {p : Int} (hp : sec f.secret p = false) : val s.v p = val u.v p := h.v _ hp
theorem getD_set_nat {α : Type} (l : List α) (k p : Nat) (x d : α) : (l.set k x).getD p d = if k = p ∧ p < l.length then x else l.getD p d := by
  rw [List.getD_eq_getElem?_getD, List.getD_eq_getElem?_getD, List.getElem?_set]
  by_cases hk : k = p
  · subst hk
    by_cases hl : k < l.length
    · simp [hl]
    · simp [hl]
  · simp [hk]
theorem Low.set {f : Flat} {s u : St} (h : Low f s u) (hl : s.v.length = u.v.length) (d : Int) (x y : Int) (hxy : sec f.secret d = false → x = y) : Low f { s with v := s.v.set d.toNat x } { u with v := u.v.set d.toNat y } := by
  refine ⟨fun p hp => ?_, h.len, h.arr⟩
  show (s.v.set d.toNat x).getD p 0 = (u.v.set d.toNat y).getD p 0
  rw [getD_set_nat, getD_set_nat, hl]
  by_cases hd : d.toNat = p ∧ p < u.v.length
  · rw [if_pos hd, if_pos hd]
    exact hxy (by unfold sec; rw [hd.1]; exact hp)
  · rw [if_neg hd, if_neg hd]
    exact h.v p hp
theorem Low.store {f : Flat} {s u : St} (h : Low f s u) (ha : s.arrs.length = u.arrs.length) (b : Int) (n : Nat) (x y : Int) (hxy : arrSec f.arrays b = false → x = y) :
    Low f { s with arrs := s.arrs.set b.toNat ((s.arrs.getD b.toNat []).set n x) } { u with arrs := u.arrs.set b.toNat ((u.arrs.getD b.toNat []).set n y) } := by
  refine ⟨h.v, fun c => ?_, fun c hc => ?_⟩
  · show ((s.arrs.set _ _).getD c []).length = ((u.arrs.set _ _).getD c []).length
    rw [getD_set_nat, getD_set_nat, ha]
    by_cases hd : b.toNat = c ∧ c < u.arrs.length
    · rw [if_pos hd, if_pos hd, List.length_set, List.length_set]; exact h.len _
    · rw [if_neg hd, if_neg hd]; exact h.len c
  · show (s.arrs.set _ _).getD c [] = (u.arrs.set _ _).getD c []
    rw [getD_set_nat, getD_set_nat, ha]
    by_cases hd : b.toNat = c ∧ c < u.arrs.length
    · rw [if_pos hd, if_pos hd]
      obtain ⟨rfl, _⟩ := hd
      rw [h.arr _ hc, hxy hc]
    · rw [if_neg hd, if_neg hd]; exact h.arr c hc
theorem pub_reads {f : Flat} {k : Nat} {i : Instr} (h : Sound f k i) (h15 : i.op ≤ 15) : sec f.secret i.d = false → ∀ p ∈ reads i, sec f.secret p = false := by
  intro hd p hp
  have hl := h.labels
  unfold secrets at hl
  rw [if_neg (by omega), if_neg (by omega), if_neg (by omega), if_neg (by omega), hd] at hl
  simp at hl
  exact hl p hp
theorem step_store {i : Instr} {k : Nat} {s : St} (h : i.op = 17) : step i k s =
    ((if val s.v i.a < (s.arrs.getD i.b.toNat []).length then { s with arrs := s.arrs.set i.b.toNat ((s.arrs.getD i.b.toNat []).set (val s.v i.a).toNat (val s.v i.d)) } else s), some (k + 1)) := by
  unfold step; rw [if_neg (by omega), if_neg (by omega), if_neg (by omega), if_neg (by omega), if_neg (by omega), if_pos h]
theorem seen_most {t : List Int} {i : Instr} (v : List Int) (h19 : ¬ i.op = 19) (h17 : 1 ≤ i.op ∧ i.op ≤ 17) : seen t i v false =
    (if hasBit (seenOf t i.op) 0 then [val v i.a] else []) ++ (if hasBit (seenOf t i.op) 1 then (if i.op = 17 then [val v i.d] else if i.op = 16 then [] else [val v i.b]) else []) ++ (if hasBit (seenOf t i.op) 2 then [val v i.c] else []) := by
  unfold seen; rw [if_neg h19, if_neg (fun hh => hh h17)]; rfl
theorem seen_none {t : List Int} {i : Instr} (v : List Int) (h19 : ¬ i.op = 19) (h17 : ¬ (1 ≤ i.op ∧ i.op ≤ 17)) : seen t i v false = [] := by
  unfold seen; rw [if_neg h19, if_pos h17]
theorem low_step {f : Flat} {k : Nat} {i : Instr} {s u : St} (h : Low f s u) (hi : Sound f k i) (hs : Fine f s) (hu : Fine f u) : (step i k s).2 = (step i k u).2 ∧ Low f (step i k s).1 (step i k u).1 := by
  have hl : s.v.length = u.v.length := hs.len.trans hu.len.symm
  have ha : s.arrs.length = u.arrs.length := hs.alen.trans hu.alen.symm
  have hop := hi.op
  have hlab := hi.labels
  rcases (show i.op ≤ 12 ∨ i.op = 13 ∨ i.op = 14 ∨ i.op = 15 ∨ i.op = 16 ∨ i.op = 17 ∨ i.op = 18 ∨ i.op = 19 ∨ (i.op = 20 ∨ i.op = 21) by omega) with h1 | h1 | h1 | h1 | h1 | h1 | h1 | h1 | h1
  · rw [step_two h1, step_two h1]
    refine ⟨rfl, h.set hl _ _ _ fun hd => ?_⟩
    have hr := pub_reads hi (by omega) hd
    have e : reads i = [i.a, i.b] := by unfold reads; rw [if_pos (by omega)]
    rw [e] at hr
    rw [h.val (hr i.a (by simp)), h.val (hr i.b (by simp))]
  · rw [step_sel h1, step_sel h1]
    refine ⟨rfl, h.set hl _ _ _ fun hd => ?_⟩
    have hr := pub_reads hi (by omega) hd
    have e : reads i = [i.a, i.b, i.c] := by unfold reads; rw [if_neg (by omega), if_pos h1]
    rw [e] at hr
    rw [h.val (hr i.a (by simp)), h.val (hr i.b (by simp)), h.val (hr i.c (by simp))]
  · rw [step_const h1, step_const h1]
    exact ⟨rfl, h.set hl _ _ _ fun _ => rfl⟩
  · rw [step_move h1, step_move h1]
    refine ⟨rfl, h.set hl _ _ _ fun hd => ?_⟩
    have hr := pub_reads hi (by omega) hd
    have e : reads i = [i.a] := by unfold reads; rw [if_neg (by omega), if_neg (by omega), if_neg (by omega), if_pos (by omega)]
    rw [e] at hr
    rw [h.val (hr i.a (by simp))]
  · rw [step_load h1, step_load h1]
    unfold secrets at hlab
    rw [if_pos h1] at hlab
    simp at hlab
    refine ⟨rfl, h.set hl _ _ _ fun hd => ?_⟩
    have hb : arrSec f.arrays i.b = false := by
      cases hb : arrSec f.arrays i.b with
      | false => rfl
      | true => have := hlab.2 hb; rw [hd] at this; cases this
    rw [h.val hlab.1]
    unfold arrAt
    rw [h.arr _ hb]
  · unfold secrets at hlab
    rw [if_neg (by omega), if_pos h1] at hlab
    simp at hlab
    have hva := h.val hlab.1
    rw [step_store h1, step_store h1]
    refine ⟨rfl, ?_⟩
    dsimp only
    rw [← hva, ← h.len]
    by_cases hn : val s.v i.a < (s.arrs.getD i.b.toNat []).length
    · rw [if_pos hn, if_pos hn]
      refine h.store ha _ _ _ _ fun hb => ?_
      have hd : sec f.secret i.d = false := by
        cases hd : sec f.secret i.d with
        | false => rfl
        | true => have := hlab.2 hd; rw [hb] at this; cases this
      exact h.val hd
    · rw [if_neg hn, if_neg hn]; exact h
  · rw [step_jump h1, step_jump h1]; exact ⟨rfl, h⟩
  · unfold secrets at hlab
    rw [if_neg (by omega), if_neg (by omega), if_pos h1] at hlab
    have hva := h.val hlab
    by_cases h0 : val s.v i.a = 0
    · rw [step_zero_yes h1 h0, step_zero_yes h1 (by rw [← hva]; exact h0)]; exact ⟨rfl, h⟩
    · rw [step_zero_no h1 h0, step_zero_no h1 (by rw [← hva]; exact h0)]; exact ⟨rfl, h⟩
  · rw [step_end h1, step_end h1]; exact ⟨rfl, h⟩
/-- does an instruction show what is secret, by a table? -/
def shows (f : Flat) (t : List Int) (i : Instr) : Bool :=
  decide (1 ≤ i.op ∧ i.op ≤ 17) && ((hasBit (seenOf t i.op) 0 && sec f.secret i.a) || (hasBit (seenOf t i.op) 1 && !decide (i.op = 16) && sec f.secret (if i.op = 17 then i.d else i.b)) || (hasBit (seenOf t i.op) 2 && sec f.secret i.c))
theorem low_seen {f : Flat} {t : List Int} {k : Nat} {i : Instr} {s u : St} (h : Low f s u) (hi : Sound f k i) (hn : shows f t i = false) : seen t i s.v false = seen t i u.v false := by
  by_cases h19 : i.op = 19
  · unfold seen
    rw [if_pos h19, if_pos h19]
    have hlab := hi.labels
    unfold secrets at hlab
    rw [if_neg (by omega), if_neg (by omega), if_pos h19] at hlab
    rw [h.val hlab]
  by_cases h17 : 1 ≤ i.op ∧ i.op ≤ 17
  · rw [seen_most _ h19 h17, seen_most _ h19 h17]
    unfold shows at hn
    rw [decide_eq_true h17, Bool.true_and] at hn
    simp only [Bool.or_eq_false_iff] at hn
    obtain ⟨⟨n0, n1⟩, n2⟩ := hn
    congr 1
    · congr 1
      · cases hb : hasBit (seenOf t i.op) 0 with
        | false => rfl
        | true =>
          rw [hb, Bool.true_and] at n0
          simp only [if_true]
          rw [h.val n0]
      · cases hb : hasBit (seenOf t i.op) 1 with
        | false => rfl
        | true =>
          rw [hb, Bool.true_and] at n1
          simp only [if_true]
          by_cases h1 : i.op = 17
          · rw [if_pos h1, if_pos h1]
            rw [if_pos h1, decide_eq_false (by omega : ¬ i.op = 16)] at n1
            rw [h.val (by simpa using n1)]
          · rw [if_neg h1, if_neg h1]
            by_cases h2 : i.op = 16
            · rw [if_pos h2, if_pos h2]
            · rw [if_neg h2, if_neg h2]
              rw [if_neg h1, decide_eq_false h2] at n1
              rw [h.val (by simpa using n1)]
    · cases hb : hasBit (seenOf t i.op) 2 with
      | false => rfl
      | true =>
        rw [hb, Bool.true_and] at n2
        simp only [if_true]
        rw [h.val n2]
  · rw [seen_none _ h19 h17, seen_none _ h19 h17]
/-- the same way -/
structure Ways (A B : Ended × List Leak) : Prop where
  trap : A.1.trap = B.1.trap
  len : A.2.length = B.2.length
  at_ : ∀ (j : Nat) l m, A.2[j]? = some l → B.2[j]? = some m → l.pc = m.pc ∧ l.op = m.op
theorem low_run {f : Flat} (hr : Right f) (t : List Int) : ∀ (n k : Nat) (s u : St), f.code.length ≤ n + k → k < f.code.length → Low f s u → Fine f s → Fine f u → Ways (runFrom f.code t n k s) (runFrom f.code t n k u) ∧
    ((∀ i ∈ f.code, shows f t i = false) → (runFrom f.code t n k s).2 = (runFrom f.code t n k u).2)
  | 0, k, s, u, hn, hk, _, _, _ => by omega
  | n + 1, k, s, u, hn, hk, h, hs, hu => by
    obtain ⟨i, hi⟩ : ∃ i, f.code[k]? = some i := ⟨f.code[k], List.getElem?_eq_getElem hk⟩
    have hsd := hr.sound hi
    obtain ⟨e2, e1⟩ := low_step h hsd hs hu
    have hmem : i ∈ f.code := List.mem_of_getElem? hi
    rcases hss : step i k s with ⟨s', os⟩
    rcases huu : step i k u with ⟨u', ou⟩
    rw [hss, huu] at e2 e1
    dsimp only at e2 e1
    subst e2
    cases os with
    | none =>
      rw [runFrom_end hi hss, runFrom_end hi huu]
      refine ⟨⟨rfl, rfl, fun j l m hl hm => ?_⟩, fun hno => ?_⟩
      · cases j with
        | zero => simp at hl hm; subst hl hm; exact ⟨rfl, rfl⟩
        | succ j => simp at hl
      · have := low_seen (t := t) h hsd (hno i hmem)
        simp only [leak, this]
    | some k' =>
      rw [runFrom_on hi hss, runFrom_on hi huu]
      have hs' := hs.step hsd
      have hu' := hu.step hsd
      rw [hss] at hs'
      rw [huu] at hu'
      obtain ⟨h1, h2⟩ := step_on hr (s := s) (k' := k') hi (by rw [hss])
      obtain ⟨w, r⟩ := low_run hr t n k' s' u' (by omega) h2 e1 hs' hu'
      refine ⟨⟨w.trap, by simp [w.len], fun j l m hl hm => ?_⟩, fun hno => ?_⟩
      · cases j with
        | zero => simp at hl hm; subst hl hm; exact ⟨rfl, rfl⟩
        | succ j => exact w.at_ j l m (by simpa using hl) (by simpa using hm)
      · have := low_seen (t := t) h hsd (hno i hmem)
        simp only [leak, this, r hno]
/-- given the same, but for what is secret -/
structure AlikeF (f : Flat) (g h : Given) : Prop where
  gl : (g.words.length : Int) = f.params
  hl : (h.words.length : Int) = f.params
  words : ∀ p : Nat, (p : Int) < f.params → f.secret.getD p false = false → g.words.getD p 0 = h.words.getD p 0
  alen : ∀ b : Nat, (g.arrays.getD b []).length = (h.arrays.getD b []).length
  arrs : ∀ b : Nat, (f.arrays.getD b default).secret = false → g.arrays.getD b [] = h.arrays.getD b []
theorem start_at (n : Nat) (g : Given) (p : Nat) (hn : g.words.length ≤ n) : (start n g).v.getD p 0 = if p < g.words.length then g.words.getD p 0 else 0 := by
  unfold start
  show ((g.words ++ List.replicate (n - g.words.length) 0).take n).getD p 0 = _
  rw [List.take_of_length_le (by simp; omega), List.getD_eq_getElem?_getD, List.getD_eq_getElem?_getD]
  by_cases hp : p < g.words.length
  · rw [List.getElem?_append_left hp, if_pos hp]
  · rw [List.getElem?_append_right (by omega), if_neg hp, List.getElem?_replicate]
    split <;> rfl
theorem low_start {f : Flat} {g h : Given} (hr : Right f) (ha : AlikeF f g h) : Low f (start f.secret.length g) (start f.secret.length h) := by
  have h1 := ha.gl
  have h2 := ha.hl
  have h3 := hr.p1
  refine ⟨fun p hp => ?_, ha.alen, ha.arrs⟩
  rw [start_at _ _ _ (by omega), start_at _ _ _ (by omega)]
  by_cases hp' : p < g.words.length
  · rw [if_pos hp', if_pos (by omega)]
    exact ha.words p (by omega) hp
  · rw [if_neg hp', if_neg (by omega)]
theorem ways {f : Flat} {g h : Given} (hr : Right f) (t : List Int) (ha : AlikeF f g h) (hg : Fine f (start f.secret.length g)) (hh : Fine f (start f.secret.length h)) :
    Ways (run f t g) (run f t h) ∧ ((∀ i ∈ f.code, shows f t i = false) → (run f t g).2 = (run f t h).2) :=
  low_run hr t f.code.length 0 _ _ (by omega) (by have := hr.len1; omega) (low_start hr ha) hg hh
end Ev
