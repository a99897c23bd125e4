import Derived.Test.YtpbflgemhcaooaaDoorFlock
import Derived.Test.YtpbflgemhcaooaaDoorGrown
/- What is known of heavy operations' results. -/
namespace Go.Proofs.YtpbflgemhcaooaaDoor
open Go.RowKit
set_option linter.unusedVariables false
/-- a row of one's own -/
def Hv.own (base : Nat) (e : TypeId) (size n : Nat) (xs : List Value) : Hv where
  R v w := w.ownsRow base e size v n xs
  ok v := ∃ A c, v = .slice A n c
  imp v w h := by obtain ⟨A, c, e, _⟩ := SL.form (SL.of_own h); exact ⟨A, c, e⟩
  dum := ⟨_, none, 0, rfl⟩
  stay v w w' hb h := owns_below h hb
/-- one value -/
def Hv.is (c : Value) : Hv where
  R v _ := v = c
  ok v := v = c
  imp v w h := h
  dum := ⟨c, rfl⟩
  stay v w w' _ h := h
/-- a new slice, n elements -/
def Hv.lit (cs : Array Value) (t : TypeId) (n : Nat) : Hv where
  R v w := ∃ g, v = .slice (some ⟨g, 0, none⟩) n n ∧ w.heap[g]? = some (.cells cs t (0, 0))
  ok v := ∃ g, v = .slice (some ⟨g, 0, none⟩) n n
  imp v w h := by obtain ⟨g, e, _⟩ := h; exact ⟨g, e⟩
  dum := ⟨_, 0, rfl⟩
  stay v w w' hb h := by obtain ⟨g, e, hg⟩ := h; exact ⟨g, e, (hb.block g (Array.getElem?_eq_some_iff.1 hg).1).trans hg⟩
/-- a new cell block -/
def Hv.box (cs : Array Value) (t : TypeId) : Hv where
  R v w := ∃ g, v = .pointer (some ⟨g, 0, none⟩) ∧ w.heap[g]? = some (.cells cs t (0, 0))
  ok v := ∃ g, v = .pointer (some ⟨g, 0, none⟩)
  imp v w h := by obtain ⟨g, e, _⟩ := h; exact ⟨g, e⟩
  dum := ⟨_, 0, rfl⟩
  stay v w w' hb h := by obtain ⟨g, e, hg⟩ := h; exact ⟨g, e, (hb.block g (Array.getElem?_eq_some_iff.1 hg).1).trans hg⟩
/-- a slice that reads so -/
def Hv.sl (size n : Nat) (xs : List Value) : Hv where
  R v w := SL w w.heap.size size v n xs
  ok v := ∃ A c, v = .slice A n c
  imp v w h := by obtain ⟨A, c, e, _⟩ := SL.form h; exact ⟨A, c, e⟩
  dum := ⟨_, none, 0, rfl⟩
  stay v w w' hb h := SL.at_ h hb (Nat.le_refl _)
theorem lit_heap {w : World} {A n : Nat} {o : Obj} (h : ∃ g, Value.slice (some ⟨A, 0, none⟩) n n = .slice (some ⟨g, 0, none⟩) n n ∧ w.heap[g]? = some o) : w.heap[A]? = some o := by
  obtain ⟨g, e, hg⟩ := h
  injection e with e
  injection e with e
  injection e with e
  subst e
  exact hg
theorem box_heap {w : World} {A : Nat} {o : Obj} (h : ∃ g, Value.pointer (some ⟨A, 0, none⟩) = .pointer (some ⟨g, 0, none⟩) ∧ w.heap[g]? = some o) : w.heap[A]? = some o := by
  obtain ⟨g, e, hg⟩ := h
  injection e with e
  injection e with e
  injection e with e
  subst e
  exact hg
theorem cell_of_block {w : World} {g : Nat} {cs : Array Value} {t : TypeId} (h : w.heap[g]? = some (.cells cs t (0, 0))) (j : Nat) : w.cell? ⟨g, j, none⟩ = cs[j]? := by
  unfold World.cell?
  rw [h]
  simp
theorem cells_of_block {w : World} {g : Nat} {cs : Array Value} {t : TypeId} (h : w.heap[g]? = some (.cells cs t (0, 0))) : ∀ j u, cs.toList[j]? = some u → w.cell? ((⟨g, 0, none⟩ : Addr).add j) = some u := by
  intro j u hj
  rw [show (⟨g, 0, none⟩ : Addr).add j = ⟨g, j, none⟩ by unfold Addr.add; split <;> simp_all, cell_of_block h]
  simpa using hj
end Go.Proofs.YtpbflgemhcaooaaDoor
