import Derived.Test.YtljcgcllhcdleaaFo14
import Derived.Test.YtljcgcllhcdleaaPFits
import Derived.Test.YtljcgcllhcdleaaFo32
import Derived.Test.YtljcgcllhcdleaaFo30
import Derived.Test.YtljcgcllhcdleaaPSameB
/- make([]api.Var, n); what may be given; how two runs end (as in FlowTells; the two are never imported together). -/
namespace Ev
theorem fits_given {f : Flat} {g : Given} {np : Nat} (h : fits np f.arrays g = 0) : g.arrays.length = f.arrays.length ∧ (∀ x ∈ g.words, Wd x) ∧ ∀ a ∈ g.arrays, ∀ x ∈ a, Wd x := by
  unfold fits at h
  split at h
  · exact absurd h (by decide)
  rename_i h1
  split at h
  · exact absurd h (by decide)
  split at h
  case isFalse => exact absurd h (by decide)
  rename_i h2
  rw [List.all_eq_true] at h2
  have hw : ∀ x ∈ g.words ++ g.arrays.flatten, Wd x := fun x hx => by
    have := h2 x hx
    unfold isWord at this
    simp at this
    exact this
  refine ⟨by omega, fun x hx => hw x (by simp [hx]), fun a ha x hx => hw x ?_⟩
  rw [List.mem_append, List.mem_flatten]
  exact .inr ⟨a, ha, hx⟩
theorem len_flatten {l : List (List Int)} {a : List Int} (h : a ∈ l) : a.length ≤ l.flatten.length := by
  induction l with
  | nil => cases h
  | cons b r ih =>
    rw [List.flatten_cons, List.length_append]
    rcases List.mem_cons.1 h with rfl | h
    · omega
    · have := ih h; omega
theorem fits_np {np : Nat} {ay : List Vr} {g : Given} (h : fits np ay g = 0) : g.words.length = np := by
  unfold fits at h
  split at h
  · exact absurd h (by decide)
  · omega
end Ev
namespace Go.Proofs.Ytljcgcllhcdleaa
open Go.RowKit
set_option linter.unusedSimpArgs false
set_option linter.unusedVariables false
theorem var_info : (Try.prog.info? 88).map (fun i => (i.zero, i.size, i.bytes)) = some (some (.agg #[.string .empty, .bool false, .int .i64 0]), 3, 32) := by kernel_rfl
theorem made_vars (n : Nat) : (madeCells #[.string .empty, .bool false, .int .i64 0] (n * 3)).toList = (List.replicate n (default : Ev.Vr)).flatMap cellsV := by
  have hc : ∀ c ∈ List.replicate n (cellsV default), c.length = 3 := fun c h => by rw [List.eq_of_mem_replicate h]; rfl
  rw [List.flatMap_def, List.map_replicate]
  apply List.ext_getElem?
  intro m
  by_cases hm : m < n * 3
  · have hd : m = m / 3 * 3 + m % 3 := by omega
    have h1 : (madeCells #[.string .empty, .bool false, .int .i64 0] (n * 3)).toList[m]? = some ((#[Value.string .empty, .bool false, .int .i64 0])[m % 3]!) := by
      simp [madeCells, hm]
    have hk : m / 3 < n := by omega
    rw [h1, hd, flatten_at _ hc (m / 3) (m % 3) (Nat.mod_lt _ (by decide)), List.getElem?_replicate, if_pos hk]
    have hmod : (m / 3 * 3 + m % 3) % 3 = m % 3 := by omega
    rw [hmod]
    rcases (show m % 3 = 0 ∨ m % 3 = 1 ∨ m % 3 = 2 by omega) with h | h | h <;> rw [h] <;> rfl
  · rw [List.getElem?_eq_none (by simp [madeCells]; omega), List.getElem?_eq_none (by rw [flatten_len _ hc, List.length_replicate]; omega)]
theorem params_make {n : Nat} {p : Int} (hp : (n : Int) = p) (hn : n ≤ 1048576) (u : World) :
    (Go.Instr.makeSlice 24 (.int .i64 p) (.int .i64 p)).run Try.prog u = .ok (.slice (some ⟨u.heap.size, 0, none⟩) n n) (u.alloc (.cells (madeCells #[.string .empty, .bool false, .int .i64 0] (n * 3)) 88)) := by
  obtain ⟨i, hi, hz0, hz1, hz2⟩ := info_parts var_info
  subst hp
  have h := run_make (P := Try.prog) (w := u) 24 88 i _ Try.underlying24 hi hz0 .i64 .i64 (n : Int) (n : Int) (by omega) (Int.le_refl _) (by rw [hz2]; omega) (by omega)
  rw [hz1] at h
  simpa [Value.cells] using h
theorem params_vars {n : Nat} (hn : n ≤ 1048576) (u : World) :
    RVars (u.alloc (.cells (madeCells #[.string .empty, .bool false, .int .i64 0] (n * 3)) 88)) (u.alloc (.cells (madeCells #[.string .empty, .bool false, .int .i64 0] (n * 3)) 88)).heap.size (.slice (some ⟨u.heap.size, 0, none⟩) n n) (List.replicate n default) := by
  unfold RVars
  rw [List.length_replicate, ← made_vars]
  have hl : (madeCells #[Value.string .empty, .bool false, .int .i64 0] (n * 3)).toList.length = n * 3 := by simp [madeCells]
  refine SL.new _ _ 88 u.heap.size hl (by unfold maxLen; omega) ?_ (by simp)
  rw [heap_alloc_new]
theorem params_drew {n : Nat} (hn : n ≤ 1048576) (u : World) :
    RVars (u.alloc (.cells (madeCells #[.string .empty, .bool false, .int .i64 0] (n * 3)) 88)).drew (u.alloc (.cells (madeCells #[.string .empty, .bool false, .int .i64 0] (n * 3)) 88)).drew.heap.size (.slice (some ⟨u.heap.size, 0, none⟩) n n) (List.replicate n default) :=
  SL.at_ (params_vars hn u) (Below.drew (Below.refl _ _)) (Nat.le_refl _)
theorem sameEnded_same (x : Ev.Ended) (u v : Value) (w : World) (hx : REnded w u x) (hy : REnded w v x) :
    Calls Try.prog 24 #[u, v] w fun e w' => e = .returned (.bool true) ∧ Below w.heap.size w w' :=
  (sameEnded_any x x u v w hx hy).mono fun e w' ⟨h, hb⟩ => ⟨by rw [h]; simp, hb⟩
theorem REnded.on {w w' : World} {v : Value} {e : Ev.Ended} (h : Hid (REnded w v e)) (hb : Below w.heap.size w w') : Hid (REnded w' v e) := Lib.hid (h.out.stays hb)
theorem RGiven.on {w w' : World} {v : Value} {g : Ev.Given} (h : Hid (RGiven w w.heap.size v g)) (hb : Below w.heap.size w w') : Hid (RGiven w' w'.heap.size v g) := Lib.hid (h.out.at_ hb (Nat.le_refl _))
theorem given_fits {f : Ev.Flat} {g : Ev.Given} {np : Nat} (hnp : f.params = (np : Int)) (hf : Ev.fits np f.arrays g = 0) (h1 : f.secret.length ≤ 1073741824) (h2 : g.arrays.length + g.arrays.flatten.length ≤ 1048576) : Given f g := by
  have hw := Ev.fits_np hf
  obtain ⟨l2, w1, w2⟩ := Ev.fits_given hf
  exact ⟨by omega, l2, w1, w2, fun a ha => by have := Ev.len_flatten ha; omega, by omega, by omega⟩
end Go.Proofs.Ytljcgcllhcdleaa
