import Derived.Test.YtpbflgemhcaooaaDoorOpenA
import Derived.Test.YtpbflgemhcaooaaDoorProg
import Derived.Test.YtpbflgemhcaooaaDoorBase
/- A table, out of the form's reading of an argument. -/
namespace Go.Proofs.YtpbflgemhcaooaaDoor
open Go.RowKit Go.ChangeShapes Go.WideShapes Go.Deep
set_option linter.unusedSimpArgs false
set_option linter.unusedVariables false
theorem Tryd.cells3 : Tryd.prog.cellsOf 3 = 1 := by kernel_rfl
theorem Tryd.cells56 : Tryd.prog.cellsOf 56 = 18 := by kernel_rfl
theorem Tryd.cells58 : Tryd.prog.cellsOf 58 = 18 := by kernel_rfl
section
variable {H : Type} {enc : TypeId × Value → H} {P : Program} {w : World} {base : Nat} {spare : Nat → Bool} {held : Bool}
def I64 (n : Int) : Prop := -9223372036854775808 ≤ n ∧ n ≤ 9223372036854775807
theorem trod_i64 {t : TypeId} (ht : P.underlying t = some (.int .i64)) {fuel : Nat} {cs : List Value} {x : DataW H × List MemPlace} (h : DataW.trod enc P w base spare held fuel t cs = some x) : ∃ n, cs = [.int .i64 n] ∧ I64 n := by
  obtain ⟨n, rfl, _, hw⟩ := DataW.trod_int ht h
  exact ⟨n, rfl, bounds_i64 hw⟩
theorem trod_parts {t : TypeId} {fs : Array Field} {fuel : Nat} {cs : List Value} {x : DataW H × List MemPlace} (ht : P.underlying t = some (.struct fs)) (h : DataW.trod enc P w base spare held fuel t cs = some x) :
    cs.length = P.cellsOf t ∧ ∃ (n : Nat) (xs : List (DataW H × List MemPlace)), xs.length = fs.size ∧ x.1 = .agg (xs.map (·.1)) ∧ ∀ (j : Nat) (u : TypeId) (o : Nat), (fs.toList.map fun f => (f.type, f.offset))[j]? = some (u, o) → DataW.trod enc P w base spare held n u ((cs.drop o).take (P.cellsOf u)) = xs[j]? := by
  obtain ⟨xs, n, _, rfl, hl, hxl, hf⟩ := DataW.trod_struct ht h
  refine ⟨hl, n, xs, hxl, rfl, fun j u o hj => ?_⟩
  rw [List.getElem?_map, Option.map_eq_some_iff] at hj
  obtain ⟨f, hj, hfe⟩ := hj
  simp only [Prod.mk.injEq] at hfe
  obtain ⟨rfl, rfl⟩ := hfe
  have hj : fs[j]? = some f := by simpa using hj
  exact hf j f hj
end
section
variable {H : Type} {enc : TypeId × Value → H} {w : World} {base : Nat} {spare : Nat → Bool} {held : Bool} {fuel : Nat} {cs : List Value} {x : DataW H × List MemPlace}
theorem open_table (h : DataW.trod enc Tryd.prog w base spare held fuel 58 cs = some x) :
    ∃ t : List Int, cs = t.map (Value.int .i64) ∧ t.length = 18 ∧ ∀ n ∈ t, I64 n := by
  obtain ⟨hl, n, xs, hxl, hx, hf⟩ := trod_parts Tryd.underlying58 h
  rw [Tryd.cells58] at hl
  have hxl1 : xs.length = 1 := hxl
  obtain ⟨x0, hx0⟩ : ∃ x0, xs[0]? = some x0 := ⟨xs[0], List.getElem?_eq_getElem (by omega)⟩
  have h0 := hf 0 56 0 rfl
  rw [Tryd.cells56, List.drop_zero, List.take_of_length_le (by omega), hx0] at h0
  obtain ⟨ys, m, _, _, _, hyl, hy⟩ := DataW.trod_array Tryd.underlying56 h0
  rw [Tryd.cells3] at hy
  have hat : ∀ i, i < 18 → ∃ n, cs[i]? = some (.int .i64 n) ∧ I64 n := fun i hi => by
    have := hy i hi
    rw [List.getElem?_eq_getElem (by omega)] at this
    obtain ⟨n, e, hn⟩ := trod_i64 Tryd.underlying3 this
    refine ⟨n, ?_, hn⟩
    have e' := congrArg (fun l : List Value => l[0]?) e
    simp only [List.getElem?_take, List.getElem?_drop] at e'
    simpa using e'
  obtain ⟨t, ht, hr⟩ := pick_list (fun i n => cs[i]? = some (.int .i64 n) ∧ I64 n) 18 hat
  refine ⟨t, ?_, ht, fun n hn => ?_⟩
  · apply List.ext_getElem?
    intro i
    by_cases hi : i < 18
    · have hti : t[i]? = some t[i] := List.getElem?_eq_getElem (by omega)
      rw [(hr i _ hti).1, List.getElem?_map, hti]
      rfl
    · rw [List.getElem?_eq_none (by omega), List.getElem?_eq_none (by simp; omega)]
  · obtain ⟨i, hi, rfl⟩ := List.getElem_of_mem hn
    exact (hr i _ (List.getElem?_eq_getElem hi)).2
end
theorem arg_struct {P : Program} {w : World} {base : Nat} {r : Reach} {t : TypeId} {v : Value} {fs : Array Field} (ht : P.underlying t = some (.struct fs)) (hv : Value.okWide P w r base t v) {l : List Value} (h : v.cells.toList = l) : v = .agg l.toArray := by
  obtain ⟨cs, rfl, _⟩ := okWide_struct ht hv
  simp only [Value.cells] at h
  subst h
  simp
end Go.Proofs.YtpbflgemhcaooaaDoor
