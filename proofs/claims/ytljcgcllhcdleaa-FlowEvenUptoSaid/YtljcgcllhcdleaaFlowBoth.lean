import Derived.Test.YtljcgcllhcdleaaLives
import Derived.Test.YtljcgcllhcdleaaAlikes
import Derived.Test.YtljcgcllhcdleaaRefCheck
import Derived.Test.YtljcgcllhcdleaaFlowLaw
import Derived.Test.YtljcgcllhcdleaaSameB
/- What FlowWays and FlowEven share: the contracts of the two runs. -/
namespace Ev
theorem len_flatten2 {l : List (List Int)} {a : List Int} (h : a ∈ l) : a.length ≤ l.flatten.length := by
  induction l with
  | nil => cases h
  | cons b r ih =>
    rw [List.flatten_cons, List.length_append]
    rcases List.mem_cons.1 h with rfl | h
    · omega
    · have := ih h; omega
end Ev
namespace Go.Proofs.Ytljcgcllhcdleaa
open Go.RowKit
set_option linter.unusedSimpArgs false
set_option linter.unusedVariables false
theorem given_of {f : Ev.Flat} {g : Ev.Given} {np : Nat} (hnp : f.params = (np : Int)) (hf : Ev.fits np f.arrays g = 0) (h1 : f.secret.length ≤ 1048576) (h2 : g.arrays.length + g.arrays.flatten.length ≤ 1048576) : Given f g := by
  obtain ⟨l1, l2⟩ := Ev.fits_lens hf
  obtain ⟨w1, w2⟩ := Ev.fits_words hf
  exact ⟨by omega, l2, w1, w2, fun a ha => by have := Ev.len_flatten2 ha; omega, by omega, by omega⟩
theorem fine_of {f : Ev.Flat} {g : Ev.Given} (hr : Ev.Right f) (h : Given f g) : Ev.Fine f (Ev.start f.secret.length g) := by
  have h1 := h.words
  have h2 := hr.p1
  exact Ev.start_fine (by omega) h.wword h.arrays h.aword
/-- flow.Run, what the law looks at -/
theorem run_told (f : Ev.Flat) (t : List Int) (g : Ev.Given) (vf vg : Value) (w : World) (hf : RFlat w w.heap.size vf f) (hg : RGiven w w.heap.size vg g) (hl : t.length = 18) (ht : Ev.wrong t = 0) (hr : Ev.Right f) (hgv : Given f g)
    (tr : Bool) (L : List Ev.Leak) (N : Nat) (e1 : (Ev.run f t g).1.trap = tr) (e2 : (Ev.run f t g).2 = L) (e3 : L.length = N) :
    Calls Try.prog 41 #[vf, tableV t, vg] w fun e w' => ∃ wd A n c A2 c2, e = .returned (.tuple #[.agg #[.int .i64 wd, .bool tr, .slice A n c], .slice A2 N c2]) ∧ RLeaks w' (.slice A2 N c2) L ∧ Below w.heap.size w w' := by
  subst e3
  refine (run_any f t g vf vg w hf hg hl ht hr hgv).mono ?_
  rintro e w' ⟨ve, vl, rfl, hE, hK, hb⟩
  rw [e2] at hK
  obtain ⟨va, rfl, hE⟩ := hE
  obtain ⟨vs, h1, h2, _⟩ := hE
  obtain ⟨A, c, rfl, _, _⟩ := SL.form h2
  have hK' := hK
  obtain ⟨us, _, h3, _⟩ := hK
  obtain ⟨A2, c2, rfl, _, _⟩ := SL.form h3
  rw [e1]
  exact ⟨_, A, _, c, A2, c2, rfl, hK', hb⟩
end Go.Proofs.Ytljcgcllhcdleaa
