import Derived.Test.YtljcgcllhcdleaaMm39
/- Images, from the form's reading to plain data, with their bulk. -/
namespace Go.Proofs.Ytljcgcllhcdleaa
open Go.RowKit Go.ChangeShapes Go.WideShapes Go.Deep
theorem Try.cells74 : Try.prog.cellsOf 74 = 1 := by kernel_rfl
theorem Try.cells76 : Try.prog.cellsOf 76 = 3 := by kernel_rfl
section
variable {H : Type} {enc : TypeId × Value → H} {w : World} {base : Nat} {spare : Nat → Bool} {held : Bool} {fuel : Nat} {cs : List Value} {x : DataW H × List MemPlace}
theorem open_bytesb (h : DataW.trod enc Try.prog w base spare held fuel 74 cs = some x) :
    ∃ v l, cs = [v] ∧ RBytes w w.heap.size v l ∧ (∀ n ∈ l, 0 ≤ n ∧ n ≤ 255) ∧ l.length + 1 ≤ Rows.uptoBulk x.1 := by
  obtain ⟨v, l, rfl, hsl, hw, hb⟩ := open_cellsb (fun n => [Value.int .u8 n]) (fun n => 0 ≤ n ∧ n ≤ 255) (fun _ => 1) (by decide) Try.cells5 (fun _ _ x h => (trod_u8 Try.underlying5 h).elim fun n hn => ⟨n, hn, bulk_one _⟩) Try.underlying74 h
  rw [sum_const] at hb
  exact ⟨v, l, rfl, by unfold RBytes; rw [List.map_eq_flatMap]; exact hsl, hw, hb⟩
theorem open_image (h : DataW.trod enc Try.prog w base spare held fuel 76 cs = some x) :
    ∃ vb va b p ay, cs = [vb, .int .i64 p, va] ∧ RBytes w w.heap.size vb b ∧ RVars w w.heap.size va ay ∧ ((∀ n ∈ b, 0 ≤ n ∧ n ≤ 255) ∧ I64 p) ∧ b.length + ay.length + 1 ≤ Rows.uptoBulk x.1 := by
  obtain ⟨hl, n, xs, hxl, hx, hf⟩ := trod_parts Try.underlying76 h
  rw [Try.cells76] at hl
  obtain ⟨c0, c1, c2, rfl⟩ := list3 hl
  obtain ⟨x0, x1, x2, rfl⟩ := list3 hxl
  have h0 := hf 0 74 0 rfl
  have h1 := hf 1 3 1 rfl
  have h2 := hf 2 24 2 rfl
  rw [Try.cells74] at h0
  rw [Try.cells3] at h1
  rw [Try.cells24] at h2
  obtain ⟨vb, lb, e0, r0, w0, b0⟩ := open_bytesb h0
  obtain ⟨p, e1, w1⟩ := trod_i64 Try.underlying3 h1
  obtain ⟨va, la, e2, r2, w2, b2⟩ := open_vars h2
  simp at e0 e1 e2
  subst e0 e1 e2
  refine ⟨_, _, lb, p, la, rfl, r0, r2, ⟨w0, w1⟩, ?_⟩
  rw [hx]
  simp only [List.map_cons, List.map_nil, Rows.uptoBulk, Rows.uptoBulkAll]
  omega
end
end Go.Proofs.Ytljcgcllhcdleaa
