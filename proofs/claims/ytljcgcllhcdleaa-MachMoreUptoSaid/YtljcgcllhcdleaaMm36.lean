import Derived.Test.YtljcgcllhcdleaaMm24
import Derived.Test.YtljcgcllhcdleaaMm34
import Derived.Test.YtljcgcllhcdleaaMm35
import Derived.Test.YtljcgcllhcdleaaMm27
/- What a run of a machine hands back, as a heavy operation's result. -/
namespace Go.Proofs.Ytljcgcllhcdleaa
open Go.RowKit
set_option linter.unusedVariables false
def Hv.ran (r : Ev.Ran) : Hv where
  R v w := RRan w v r
  ok v := ∃ (A c : Option Addr × Nat), v = .agg #[.int .i64 r.ended.word, .bool r.ended.trap, .slice A.1 r.ended.arrays.length A.2, .int .i64 r.err, .int .i64 r.steps, .int .i64 r.mode, .slice c.1 r.leaks.length c.2]
  imp v w h := by
    obtain ⟨va, vl, rfl, ha, hl⟩ := h
    obtain ⟨A, a, rfl, _, _⟩ := slice_form ha
    obtain ⟨_, h3, hl, _⟩ := hl
    obtain ⟨A2, c2, rfl, _, _⟩ := SL.form hl
    exact ⟨(A, a), (A2, c2), rfl⟩
  dum := ⟨_, (none, 0), (none, 0), rfl⟩
  stay v w w' hb h := h.stays hb
/-- a new box, from lo on -/
def Hv.boxFrom (lo : Nat) (cs : Array Value) (t : TypeId) : Hv where
  R v w := ∃ g, v = .pointer (some ⟨g, 0, none⟩) ∧ lo ≤ g ∧ w.heap[g]? = some (.cells cs t (0, 0))
  ok v := ∃ g, v = .pointer (some ⟨g, 0, none⟩)
  imp v w h := by obtain ⟨g, e, _⟩ := h; exact ⟨g, e⟩
  dum := ⟨_, 0, rfl⟩
  stay v w w' hb h := by obtain ⟨g, e, h1, hg⟩ := h; exact ⟨g, e, h1, (hb.block g (Array.getElem?_eq_some_iff.1 hg).1).trans hg⟩
theorem boxFrom_heap {w : World} {A lo : Nat} {cs : Array Value} {t : TypeId} (h : (Hv.boxFrom lo cs t).R (.pointer (some ⟨A, 0, none⟩)) w) : lo ≤ A ∧ w.heap[A]? = some (.cells cs t (0, 0)) := by
  obtain ⟨g, e, h1, hg⟩ := h
  injection e with e
  injection e with e
  injection e with e
  subst e
  exact ⟨h1, hg⟩
theorem box_loose {w : World} {g : Nat} {cs : Array Value} {t : TypeId} (h : w.heap[g]? = some (.cells cs t (0, 0))) (j : Nat) : w.frozen? ⟨g, j, none⟩ = false := by
  unfold World.frozen?
  rw [h]
  simp
end Go.Proofs.Ytljcgcllhcdleaa
/- What is known of heavy operations' results, with the blocks that were born. -/
namespace Go.Proofs.Ytljcgcllhcdleaa
open Go.RowKit
set_option linter.unusedVariables false
def Bv.is (c : Value) : Bv where
  B _ v _ := v = c
  ok v := v = c
  imp _ v w h := h
  dum := ⟨c, rfl⟩
  stay _ v w w' _ h := h
/-- a new box -/
def Bv.box (lo : Nat) (cs : Array Value) (t : TypeId) : Bv where
  B x v w := ∃ g, v = .pointer (some ⟨g, 0, none⟩) ∧ lo ≤ g ∧ x.1 ≤ g ∧ g < x.2 ∧ w.heap[g]? = some (.cells cs t (0, 0))
  ok v := ∃ g, v = .pointer (some ⟨g, 0, none⟩)
  imp _ v w h := by obtain ⟨g, e, _⟩ := h; exact ⟨g, e⟩
  dum := ⟨_, 0, rfl⟩
  stay _ v w w' hb h := by obtain ⟨g, e, h0, h1, h2, hg⟩ := h; exact ⟨g, e, h0, h1, h2, (hb.block g (Array.getElem?_eq_some_iff.1 hg).1).trans hg⟩
/-- a machine's run -/
def Bv.ran (r : Ev.Ran) : Bv where
  B x v w := Dep x.1 x.2 w (fun u => RRan u v r)
  ok v := ∃ (A c : Option Addr × Nat), v = .agg #[.int .i64 r.ended.word, .bool r.ended.trap, .slice A.1 r.ended.arrays.length A.2, .int .i64 r.err, .int .i64 r.steps, .int .i64 r.mode, .slice c.1 r.leaks.length c.2]
  imp _ v w h := (Hv.ran r).imp v w h.here
  dum := (Hv.ran r).dum
  stay _ v w w' hb h := h.stays hb
theorem pw_get {l : List (Nat × Nat)} (h : l.Pairwise apartD) (i j : Nat) (hij : decide (i < j) = true) {x y : Nat × Nat} (hx : l[i]? = some x) (hy : l[j]? = some y) : apartD x y := by
  have hi := (List.getElem?_eq_some_iff.1 hx)
  have hj := (List.getElem?_eq_some_iff.1 hy)
  obtain ⟨h1, rfl⟩ := hi
  obtain ⟨h2, rfl⟩ := hj
  exact List.pairwise_iff_getElem.1 h i j h1 h2 (of_decide_eq_true hij)
theorem bvbox {w : World} {A l lo hi : Nat} {o : Obj} (h : ∃ g, Value.pointer (some ⟨A, 0, none⟩) = .pointer (some ⟨g, 0, none⟩) ∧ l ≤ g ∧ lo ≤ g ∧ g < hi ∧ w.heap[g]? = some o) : l ≤ A ∧ lo ≤ A ∧ A < hi ∧ w.heap[A]? = some o := by
  obtain ⟨g, e, h0, h1, h2, hg⟩ := h
  injection e with e
  injection e with e
  injection e with e
  subst e
  exact ⟨h0, h1, h2, hg⟩
theorem heap_set {w : World} {b j : Nat} {cs : Array Value} {T : TypeId} (h : w.heap[b]? = some (.cells cs T (0, 0))) (v : Value) : (w.setCell ⟨b, j, none⟩ v).heap[b]? = some (.cells (cs.setIfInBounds j v) T (0, 0)) := heap_setCell_same w b j cs T v h
def row7 (w : World) (b : Nat) (c0 c1 c2 c3 c4 c5 c6 : Value) : World := (((((((w.setCell ⟨b, 0, none⟩ c0).setCell ⟨b, 1, none⟩ c1).setCell ⟨b, 2, none⟩ c2).setCell ⟨b, 3, none⟩ c3).setCell ⟨b, 4, none⟩ c4).setCell ⟨b, 5, none⟩ c5).setCell ⟨b, 6, none⟩ c6)
theorem row7_same {w : World} {b : Nat} {T : TypeId} {a0 a1 a2 a3 a4 a5 a6 c0 c1 c2 c3 c4 c5 c6 : Value} (h : w.heap[b]? = some (.cells #[a0, a1, a2, a3, a4, a5, a6] T (0, 0))) : (row7 w b c0 c1 c2 c3 c4 c5 c6).heap[b]? = some (.cells #[c0, c1, c2, c3, c4, c5, c6] T (0, 0)) :=
  (heap_set (heap_set (heap_set (heap_set (heap_set (heap_set (heap_set h c0) c1) c2) c3) c4) c5) c6).trans (by simp only [List.setIfInBounds_toArray, List.set_cons_zero, List.set_cons_succ])
theorem row7_other {w : World} {b k : Nat} (c0 c1 c2 c3 c4 c5 c6 : Value) (h : k ≠ b) : (row7 w b c0 c1 c2 c3 c4 c5 c6).heap[k]? = w.heap[k]? := by
  unfold row7
  rw [Below.heap_setCell _ _ _ _ h, Below.heap_setCell _ _ _ _ h, Below.heap_setCell _ _ _ _ h, Below.heap_setCell _ _ _ _ h, Below.heap_setCell _ _ _ _ h, Below.heap_setCell _ _ _ _ h, Below.heap_setCell _ _ _ _ h]
theorem row7_size (w : World) (b : Nat) (c0 c1 c2 c3 c4 c5 c6 : Value) : (row7 w b c0 c1 c2 c3 c4 c5 c6).heap.size = w.heap.size := by unfold row7; simp
theorem row7_below {W w : World} {lo b : Nat} (h : Below lo W w) (hb : lo ≤ b) (c0 c1 c2 c3 c4 c5 c6 : Value) : Below lo W (row7 w b c0 c1 c2 c3 c4 c5 c6) := by
  unfold row7
  exact ((((((h.setCell hb _).setCell hb _).setCell hb _).setCell hb _).setCell hb _).setCell hb _).setCell hb _
theorem Dep.heap {lo hi : Nat} {w w' : World} {R : World → Prop} (h : Dep lo hi w R) (hs : w.heap.size ≤ w'.heap.size) (hh : ∀ b, lo ≤ b → b < hi → w'.heap[b]? = w.heap[b]?) : Dep lo hi w' R :=
  ⟨Nat.le_trans h.1 hs, fun u h1 h2 => h.2 u h1 fun b h3 h4 => (h2 b h3 h4).trans (hh b h3 h4)⟩
theorem Dep.row7 {lo hi : Nat} {w : World} {R : World → Prop} {b : Nat} (h : Dep lo hi w R) (hb : b < lo ∨ hi ≤ b) (c0 c1 c2 c3 c4 c5 c6 : Value) : Dep lo hi (row7 w b c0 c1 c2 c3 c4 c5 c6) R :=
  h.heap (by rw [row7_size]; exact Nat.le_refl _) fun k h1 h2 => row7_other c0 c1 c2 c3 c4 c5 c6 (by omega)
/-- an address that was born with one is not born with another -/
theorem apart_box {x y : Nat × Nat} {A : Nat} (h : apartD x y) (h1 : y.1 ≤ A) (h2 : A < y.2) : A < x.1 ∨ x.2 ≤ A := by unfold apartD at h; omega
theorem apart_box' {x y : Nat × Nat} {A : Nat} (h : apartD y x) (h1 : y.1 ≤ A) (h2 : A < y.2) : A < x.1 ∨ x.2 ≤ A := by unfold apartD at h; omega
theorem apart_ne {x y : Nat × Nat} {A B : Nat} (h : apartD x y) (h1 : x.1 ≤ A) (h2 : A < x.2) (h3 : y.1 ≤ B) (h4 : B < y.2) : A ≠ B := by unfold apartD at h; omega
end Go.Proofs.Ytljcgcllhcdleaa
