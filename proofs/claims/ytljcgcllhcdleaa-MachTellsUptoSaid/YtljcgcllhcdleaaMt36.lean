import Derived.Test.YtljcgcllhcdleaaMt15
import Derived.Test.YtljcgcllhcdleaaMt26
/- Chapter 11, the reference: what it has of a run, in memory. -/
namespace Go.Proofs.Ytljcgcllhcdleaa
open Go.RowKit
set_option linter.unusedSimpArgs false
set_option linter.unusedVariables false
theorem MAt.grownM {w w' : World} {bv mb hi : Nat} {va : Value} {vs : List Value} {s : Ev.St} {row : Option Nat} (h : MAt w bv mb va vs hi s) (hg : w.grownBy w' row) (hr : ∀ q, row = some q → hi ≤ q) : MAt w' bv mb va vs hi s := by
  have hm := h.mh
  have hl := h.le
  have hbm := h.bm
  have ne : ∀ b, b < hi → some b ≠ row := fun b hb e => by have := hr b e.symm; omega
  have nev : ∀ (u : Value), (∀ b, u.ownBlock = some b → b < hi) → u.ownBlock = none ∨ u.ownBlock ≠ row := fun u hu => by
    cases hb : u.ownBlock with
    | none => exact .inl rfl
    | some b => exact .inr (ne b (hu b hb))
  have c := fun o x (hx : w.cell? ⟨mb, o, none⟩ = some x) => hg.cell hx (ne mb hm)
  refine ⟨h.v.kept hg (nev _ (fun b hb => by simp [Value.ownBlock] at hb; omega)), ⟨h.arrs.outer.kept hg (nev _ h.hio), h.arrs.len, fun k u a hu ha => (h.arrs.row k u a hu ha).kept hg (nev _ (fun b hb => h.his k u b hu hb)), h.arrs.apart, h.arrs.out⟩, c 0 _ h.m0, c 1 _ h.m1, c 2 _ h.m2, fun j => ?_, h.bm, h.mh, h.hio, h.his, Nat.le_trans h.le hg.size⟩
  have := h.loose j
  unfold World.frozen? at this ⊢
  rw [hg.block mb (by omega) (ne mb hm)]
  exact this
theorem Sets.highM {lo hi q : Nat} {w W : World} (h : Sets lo hi w W) (h1 : hi ≤ q) (h2 : q < w.heap.size) : W.heap[q]? = w.heap[q]? := by
  induction h with
  | here => rfl
  | more hs hb ih => exact (hb.block q (Nat.lt_of_lt_of_le h2 hs.size)).trans ih
  | @set W b j c hs h3 h4 ih => exact (heap_setCell_other W ⟨b, j, none⟩ q c (fun e => absurd (show q = b from e) (by omega))).trans ih
/-- the struct r: nothing but how many steps, and leaks -/
structure RBox (w : World) (rb st : Nat) (vl : Value) : Prop where
  c0 : w.cell? ⟨rb, 0, none⟩ = some (.int .i64 0)
  c1 : w.cell? ⟨rb, 1, none⟩ = some (.bool false)
  c2 : w.cell? ⟨rb, 2, none⟩ = some (.slice none 0 0)
  c3 : w.cell? ⟨rb, 3, none⟩ = some (.int .i64 0)
  c4 : w.cell? ⟨rb, 4, none⟩ = some (.int .i64 (st : Int))
  c5 : w.cell? ⟨rb, 5, none⟩ = some (.int .i64 0)
  c6 : w.cell? ⟨rb, 6, none⟩ = some vl
  loose : ∀ j, w.frozen? ⟨rb, j, none⟩ = false
theorem RBox.lt {w : World} {rb st : Nat} {vl : Value} (h : RBox w rb st vl) : rb < w.heap.size := World.block_lt_of_cell? w _ h.c0
theorem RBox.same {w w' : World} {rb st : Nat} {vl : Value} (h : RBox w rb st vl) (e : w'.heap[rb]? = w.heap[rb]?) : RBox w' rb st vl := by
  have c : ∀ j, w'.cell? ⟨rb, j, none⟩ = w.cell? ⟨rb, j, none⟩ := fun j => World.cell?_of_block (a := ⟨rb, j, none⟩) e
  refine ⟨(c 0).trans h.c0, (c 1).trans h.c1, (c 2).trans h.c2, (c 3).trans h.c3, (c 4).trans h.c4, (c 5).trans h.c5, (c 6).trans h.c6, fun j => ?_⟩
  have := h.loose j
  unfold World.frozen? at this ⊢
  rw [e]
  exact this
theorem RBox.stays {w w' : World} {rb st : Nat} {vl : Value} (h : RBox w rb st vl) (hb : Below w.heap.size w w') : RBox w' rb st vl := h.same (hb.block rb h.lt)
theorem RBox.grown {w w' : World} {rb st : Nat} {vl : Value} {row : Option Nat} (h : RBox w rb st vl) (hg : w.grownBy w' row) (hr : some rb ≠ row) : RBox w' rb st vl := h.same (hg.block rb h.lt hr)
theorem RBox.setSt {w : World} {rb st : Nat} {vl : Value} (h : RBox w rb st vl) (k : Nat) {x : Int} (hx : x = (k : Int)) : RBox (w.setCell ⟨rb, 4, none⟩ (.int .i64 x)) rb k vl := by
  subst hx
  have h0 := h.c0
  have h1 := h.c1
  have h2 := h.c2
  have h3 := h.c3
  have h4 := h.c4
  have h5 := h.c5
  have h6 := h.c6
  have hl := h.loose
  exact ⟨by go_simp, by go_simp, by go_simp, by go_simp, by go_simp, by go_simp, by go_simp, fun j => by have := hl j; go_simp⟩
theorem RBox.setVl {w : World} {rb st : Nat} {vl : Value} (h : RBox w rb st vl) (u : Value) : RBox (w.setCell ⟨rb, 6, none⟩ u) rb st u := by
  have h0 := h.c0
  have h1 := h.c1
  have h2 := h.c2
  have h3 := h.c3
  have h4 := h.c4
  have h5 := h.c5
  have h6 := h.c6
  have hl := h.loose
  exact ⟨by go_simp, by go_simp, by go_simp, by go_simp, by go_simp, by go_simp, by go_simp, fun j => by have := hl j; go_simp⟩
theorem MAt.aside {w : World} {bv mb hi : Nat} {va : Value} {vs : List Value} {s : Ev.St} (h : MAt w bv mb va vs hi s) {rb : Nat} (hr : hi ≤ rb) (j : Nat) (c : Value) : MAt (w.setCell ⟨rb, j, none⟩ c) bv mb va vs hi s := by
  have e : ∀ k, k ≠ rb → (w.setCell ⟨rb, j, none⟩ c).heap[k]? = w.heap[k]? := fun k hk => heap_setCell_other w ⟨rb, j, none⟩ k c hk
  exact h.grownM (row := some rb) ⟨rfl, rfl, rfl, by simp, fun k _ hne => e k (fun h' => hne (by rw [h']))⟩ (fun q hq => by injection hq with hq; omega)
theorem Leaks.asideHi {w : World} {lo : Nat} {v : Value} {l : List Ev.Leak} {us : List Value} (h : Leaks w lo v l us) (k o : Nat) (c : Value) (hk : k < lo) : Leaks (w.setCell ⟨k, o, none⟩ c) lo v l us := h.aside k o c hk
end Go.Proofs.Ytljcgcllhcdleaa
