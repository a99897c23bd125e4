import Derived.Test.YtpbflgemhcaooaaDoorBox
import Derived.Test.YtpbflgemhcaooaaDoorHvBase
import Derived.Deep.Upon
/- A whole value stored into a box. -/
namespace Go.Proofs.YtpbflgemhcaooaaDoor
open Go.RowKit
set_option linter.unusedSimpArgs false
set_option linter.unusedVariables false
theorem below_setCells {B b : Nat} (hB : B ≤ b) : ∀ (vs : List Value) (o : Nat) (w W : World), Below B W w → Below B W (w.setCells b o vs)
  | [], o, w, W, h => h
  | v :: r, o, w, W, h => below_setCells hB r (o + 1) _ W (h.setCell hB _)
theorem box_there {w : World} {b : Nat} {T : TypeId} {cs : Array Value} (h : w.heap[b]? = some (.cells cs T (0, 0))) : w.there b 0 cs.size := fun j hj => by
  rw [Nat.zero_add]
  refine ⟨?_, ?_⟩
  · rw [cell_of_block h j]
    simp [hj]
  · unfold World.frozen?
    rw [h]
    simp
theorem wpList_put_box {ops : Array Oper} {rest : List Oper} {op : Oper} {a : Act} {w : World} {Q : Exit → Act → World → Prop} (hgd : op.guard = none) (ty : TypeId) (x y : Operand) (ho : op.op = .store ty x y)
    {b : Nat} {cells old : Array Value} {T : TypeId} (hx : a.eval x = .pointer (some ⟨b, 0, none⟩)) (hy : a.eval y = .agg cells) (hb : w.heap[b]? = some (.cells old T (0, 0))) (hz : old.size = cells.size)
    (hi : (Tryd.prog.info? ty).map (·.size) = some cells.size) (h1 : cells.all (·.oneCell') = true)
    (h : ∀ w', w'.rangeAt b 0 cells.toList → Below b w w' → w'.heap.size = w.heap.size → wpList Tryd.prog ops Q rest (a.put op.dst undef) w') : wpList Tryd.prog ops Q (op :: rest) a w := by
  have ht : w.there b 0 cells.size := hz ▸ box_there hb
  refine wpList_store_mid hgd ty x y ho b 0 cells hx hy ht hi h1 (h _ (World.rangeAt_setCells_same w b 0 cells.toList (by simpa using ht)) (below_setCells (Nat.le_refl _) _ _ _ _ (Below.refl _ _)) ?_)
  have hs : ∀ (vs : List Value) (o : Nat) (u : World), (u.setCells b o vs).heap.size = u.heap.size := by
    intro vs
    induction vs with
    | nil => intro o u; rfl
    | cons v r ih =>
      intro o u
      show ((u.setCell ⟨b, o, none⟩ v).setCells b (o + 1) r).heap.size = _
      rw [ih]
      simp
  exact hs _ _ _
theorem load_range {w : World} {b : Nat} {T : TypeId} {cs : Array Value} {d : TypeDesc} (hu : Tryd.prog.underlying T = some d) (hd : d.isRow = true) (hs : cs.toList.toArray = cs) (hi : (Tryd.prog.info? T).map (·.size) = some cs.toList.length)
    (hc : w.rangeAt b 0 cs.toList) : (loadVar T ⟨b, 0, none⟩).run Tryd.prog w = .ok (.agg cs) w := by
  have h := run_loadVar_mid (P := Tryd.prog) w b 0 T cs.toList d hc hu hd hi
  rw [hs] at h
  exact h
end Go.Proofs.YtpbflgemhcaooaaDoor
