import Derived.Test.YtpbflgemhcaooaaDoorProg
import Derived.Test.YtpbflgemhcaooaaDoorLib
import Derived.Test.YtpbflgemhcaooaaDoorFlat
/- A table in memory. -/
namespace Go.Proofs.YtpbflgemhcaooaaDoor
open Go.RowKit
set_option linter.unusedSimpArgs false
set_option linter.unusedVariables false
/-- a table in a block -/
structure TableAt (w : World) (b : Nat) (t : List Int) : Prop where
  len : t.length = 18
  lt : b < w.heap.size
  cell : ∀ k, k < 18 → w.cell? ⟨b, k, none⟩ = some (.int .i64 (t.getD k 0))
theorem TableAt.stays {w w' : World} {b : Nat} {t : List Int} (h : TableAt w b t) (hb : Below w.heap.size w w') : TableAt w' b t :=
  ⟨h.len, Nat.lt_of_lt_of_le h.lt hb.size, fun k hk => (hb.cell (p := ⟨b, k, none⟩) h.lt).trans (h.cell k hk)⟩
theorem TableAt.keeps {w w' : World} {b B : Nat} {t : List Int} (h : TableAt w b t) (hb : Below B w w') (hB : b < B) (hs : w.heap.size ≤ w'.heap.size) : TableAt w' b t :=
  ⟨h.len, Nat.lt_of_lt_of_le h.lt hs, fun k hk => (hb.cell (p := ⟨b, k, none⟩) hB).trans (h.cell k hk)⟩
theorem box_table {w : World} {t : List Int} (ht : t.length = 18) (T : TypeId) : TableAt (w.alloc (.cells (t.map (Value.int .i64)).toArray T)) w.heap.size t :=
  ⟨ht, by simp, fun k hk => by
    have hx : t[k]? = some (t.getD k 0) := by rw [List.getD_eq_getElem?_getD, List.getElem?_eq_getElem (by omega)]; rfl
    unfold World.cell?
    simp only [heap_alloc_new]
    show (t.map (Value.int .i64)).toArray[k]? = _
    rw [List.getElem?_toArray, List.getElem?_map, hx]
    rfl⟩
def tableV (t : List Int) : Value := .agg (t.map (Value.int .i64)).toArray
end Go.Proofs.YtpbflgemhcaooaaDoor
