import Derived.Test.YtljcgcllhcdleaaLg21
import Derived.Test.YtljcgcllhcdleaaLg25
import Derived.Test.YtljcgcllhcdleaaLg30
import Derived.Test.YtljcgcllhcdleaaLg19
import Derived.Test.YtljcgcllhcdleaaLg9
import Derived.Deep.DeepCutAuto
/- What the laws of chapter 8 look at: boxes in memory; legal.Legal's answer. -/
namespace Ev
theorem lg_slots (t : List Int) : ∀ (r : List Instr) (m : Mk) (at_ : List Nat), (lgFrom t r m at_).1 = 0 → (lgFrom t r m at_).2.2.secret.length + m.code.length ≤ (lgFrom t r m at_).2.2.code.length + m.secret.length
  | [], m, at_, h => by unfold lgFrom; dsimp only; omega
  | i :: r, m, at_, h => by
    unfold lgFrom at h ⊢
    by_cases hc : 17 < i.op ∨ mkShows m t i = false
    · rw [if_pos hc] at h ⊢
      have := lg_slots t r (m.put i) _ h
      simp [Mk.put] at this ⊢
      omega
    · rw [if_neg hc] at h ⊢
      cases ho : mkOther m i with
      | none => rw [ho] at h; dsimp only at h; split at h <;> cases h
      | some m2 =>
        rw [ho] at h
        dsimp only at h ⊢
        by_cases hl : 12000 < m2.code.length
        · rw [if_pos hl] at h; cases h
        rw [if_neg hl] at h ⊢
        have := lg_slots t r m2 _ h
        have := other_bound ho
        omega
theorem legal_slots {f : Flat} {t : List Int} (h : (legal f t).1 = 0) : (legal f t).2.secret.length ≤ f.secret.length + 12000 ∧ (legal f t).2.code.length ≤ 12000 := by
  unfold legal legalOf at *
  have hs := lg_slots t f.code ⟨[], f.secret⟩ []
  generalize lgFrom t f.code ⟨[], f.secret⟩ [] = X at *
  obtain ⟨e, at_, m⟩ := X
  dsimp only at *
  by_cases h1 : e ≠ 0
  · rw [if_pos h1] at h; exact absurd h h1
  rw [if_neg h1] at h ⊢
  by_cases h2 : 12000 < m.code.length
  · rw [if_pos h2] at h; exact absurd h (by decide)
  rw [if_neg h2] at h ⊢
  split
  · simp [noFlat]
  · have := hs (by omega)
    simp at this ⊢
    omega
end Ev
namespace Go.Proofs.Ytljcgcllhcdleaa
open Go.RowKit
set_option linter.unusedSimpArgs false
set_option linter.unusedVariables false
theorem box_on {w w' : World} {b : Nat} {o : Obj} (h : Hid (w.heap[b]? = some o)) (hb : Below w.heap.size w w') : Hid (w'.heap[b]? = some o) :=
  Lib.hid ((hb.block b (Array.getElem?_eq_some_iff.1 h.out).1).trans h.out)
theorem box_lt {w : World} {b : Nat} {o : Obj} (h : Hid (w.heap[b]? = some o)) : b < w.heap.size := (Array.getElem?_eq_some_iff.1 h.out).1
theorem box_load {w : World} {b : Nat} {T : TypeId} {cs : Array Value} {d : TypeDesc} (hu : Try.prog.underlying T = some d) (hd : d.isRow = true) (hs : cs.toList.toArray = cs) (hi : (Try.prog.info? T).map (·.size) = some cs.toList.length)
    (h : Hid (w.heap[b]? = some (.cells cs T (0, 0)))) : (Go.Instr.loadAt T (.pointer (some ⟨b, 0, none⟩))).run Try.prog w = .ok (.agg cs) w :=
  load_box hu hd hs hi (fun j v hj => (cell_of_block h.out j).trans hj) (box_lt h) (Below.refl _ _)
theorem box_cell {w : World} {b : Nat} {T : TypeId} {cs : Array Value} (h : Hid (w.heap[b]? = some (.cells cs T (0, 0)))) (j : Nat) {v : Value} (hv : cs[j]? = some v) : w.cell? ⟨b, j, none⟩ = some v := (cell_of_block h.out j).trans hv
theorem box_free {w : World} {b : Nat} {T : TypeId} {cs : Array Value} (h : Hid (w.heap[b]? = some (.cells cs T (0, 0)))) (j : Nat) : w.frozen? ⟨b, j, none⟩ = false := box_looseM h.out j
theorem box_new (w : World) (o : Obj) : Hid ((w.alloc o).heap[w.heap.size]? = some o) := Lib.hid (heap_alloc_new w o)
theorem RFlat.on {w w' : World} {v : Value} {f : Ev.Flat} (h : Hid (RFlat w w.heap.size v f)) (hb : Below w.heap.size w w') : Hid (RFlat w' w'.heap.size v f) := by
  obtain ⟨vc, vs, va, h1, h2, h3, h4⟩ := h.out
  exact Lib.hid ⟨vc, vs, va, h1, SL.at_ h2 hb (Nat.le_refl _), SL.at_ h3 hb (Nat.le_refl _), SL.at_ h4 hb (Nat.le_refl _)⟩
theorem RFlat.slices {w : World} {v : Value} {f : Ev.Flat} (h : RFlat w w.heap.size v f) : ∃ A1 c1 A2 c2 A3 c3, v = .agg #[.slice A1 f.code.length c1, .slice A2 f.secret.length c2, .int .i64 f.params, .slice A3 f.arrays.length c3] := by
  obtain ⟨vc, vs, va, rfl, h2, h3, h4⟩ := h
  obtain ⟨A1, c1, rfl, _, _⟩ := SL.form h2
  obtain ⟨A2, c2, rfl, _, _⟩ := SL.form h3
  obtain ⟨A3, c3, rfl, _, _⟩ := SL.form h4
  exact ⟨A1, c1, A2, c2, A3, c3, rfl⟩
/-- legal.Legal, what the laws look at -/
theorem legal_told (f : Ev.Flat) (t : List Int) (vf : Value) (w : World) (hf : RFlat w w.heap.size vf f) (hl : t.length = 18) (ht : Ev.wrong t = 0) (hr : Ev.Right f) (hn : f.secret.length ≤ 268435456) (hna : f.arrays.length ≤ 268435456)
    (er : Int) (x : Ev.Flat) (hx : Ev.legal f t = (er, x)) :
    Calls Try.prog 19 #[vf, tableV t] w fun e w' => ∃ A1 c1 A2 c2 A3 c3, e = .returned (.tuple #[.agg #[.slice A1 x.code.length c1, .slice A2 x.secret.length c2, .int .i64 x.params, .slice A3 x.arrays.length c3], .int .i64 er]) ∧ Hid (RFlat w' w'.heap.size (.agg #[.slice A1 x.code.length c1, .slice A2 x.secret.length c2, .int .i64 x.params, .slice A3 x.arrays.length c3]) x) ∧ Hid (FromFlat w.heap.size (.agg #[.slice A1 x.code.length c1, .slice A2 x.secret.length c2, .int .i64 x.params, .slice A3 x.arrays.length c3])) ∧ Below w.heap.size w w' := by
  have h := legal_any f t vf w hf hl ht hr hn hna
  rw [hx] at h
  refine h.mono ?_
  rintro e w' ⟨v, rfl, hR, hF, hb⟩
  obtain ⟨A1, c1, A2, c2, A3, c3, rfl⟩ := hR.slices
  exact ⟨A1, c1, A2, c2, A3, c3, rfl, Lib.hid hR, Lib.hid hF, hb⟩
/-- evref6.Check of what is right -/
theorem check_right (x : Ev.Flat) (v : Value) (w : World) (hR : RFlat w w.heap.size v x) (hr : Ev.Right x) :
    Calls Try.prog 17 #[v] w fun e w' => e = .returned (.tuple #[.int .i64 0, .int .i64 (-1)]) ∧ Below w.heap.size w w' := by
  have h := refCheck_any x v w hR
  rw [Ev.check_of_right hr] at h
  exact h
/-- evref6.Run, what the laws look at -/
theorem refRun_told (f : Ev.Flat) (t : List Int) (g : Ev.Given) (vf vg : Value) (w : World) (hf : RFlat w w.heap.size vf f) (hg : RGiven w w.heap.size vg g) (hl : t.length = 18) (ht : Ev.wrong t = 0) (hr : Ev.Right f) (hgv : Given f g) (E : Ev.Ended) (hE : (Ev.run f t g).1 = E) :
    Calls Try.prog 23 #[vf, tableV t, vg] w fun e w' => ∃ A n c A2 n2 c2, e = .returned (.tuple #[.agg #[.int .i64 E.word, .bool E.trap, .slice A n c], .slice A2 n2 c2]) ∧ Hid (REnded w' (.agg #[.int .i64 E.word, .bool E.trap, .slice A n c]) E) ∧ Below w.heap.size w w' := by
  refine (refRun_any f t g vf vg w hf hg hl ht hr hgv).mono ?_
  rintro e w' ⟨ve, vl, rfl, hEn, hK, hb⟩
  rw [hE] at hEn
  have hEn' := hEn
  obtain ⟨va, rfl, hE2⟩ := hEn
  obtain ⟨vs, h1, h2, _⟩ := hE2
  obtain ⟨A, c, rfl, _, _⟩ := SL.form h2
  obtain ⟨us, _, h3, _⟩ := hK
  obtain ⟨A2, c2, rfl, _, _⟩ := SL.form h3
  exact ⟨A, _, c, A2, _, c2, rfl, Lib.hid hEn', hb⟩
end Go.Proofs.Ytljcgcllhcdleaa
/- evlaw8.alive: a closed fact. -/
namespace Ev
def l8 : Flat := ⟨[⟨8, 1, 0, 0, 0, 0⟩, ⟨20, 0, 1, 0, 0, 0⟩], [true, true], 1, []⟩
def l1 : Flat := ⟨[⟨1, 1, 0, 0, 0, 0⟩, ⟨20, 0, 1, 0, 0, 0⟩], [true, true], 1, []⟩
def lg9 : Given := ⟨[9], []⟩
def lt8 : List Int := [0, 0, 0, 0, 0, 0, 0, 0, 1, 0, 0, 0, 0, 0, 0, 0, 0, 0]
def lt81 : List Int := [0, 1, 0, 0, 0, 0, 0, 0, 1, 0, 0, 0, 0, 0, 0, 0, 0, 0]
def k8 : Int × Flat := legal l8 lt8
theorem l8_right : Right l8 := right_of_check (by decide)
theorem l1_right : Right l1 := right_of_check (by decide)
theorem lt8_ok : wrong lt8 = 0 := by decide
theorem lt81_ok : wrong lt81 = 0 := by decide
theorem k8_err : k8.1 = 0 := by decide +kernel
theorem k8_len : 3 ≤ k8.2.code.length := by decide +kernel
theorem k8_eq : legal l8 lt8 = k8 := rfl
theorem pair_of {x : Int × Flat} {e : Int} (h : x.1 = e) : x = (e, x.2) := by rw [← h]
theorem k8_pair : legal l8 lt8 = (0, k8.2) := by rw [k8_eq]; exact pair_of k8_err
theorem k1_is : legal l1 lt81 = (11, noFlat) := by
  have h : (legal l1 lt81).1 = 11 := by decide +kernel
  rcases legal_err l1 lt81 with h1 | ⟨_, h2⟩
  · omega
  · exact Prod.ext h h2
theorem k8_good : LegalGood l8 k8.2 lt8 := legal_shows l8_right lt8_ok k8_err
theorem l8_fine : Fine l8 (start l8.secret.length lg9) := start_fine (by decide) (by intro x hx; simp [lg9] at hx; subst hx; exact ⟨by decide, by decide⟩) rfl (by intro a ha; simp [lg9] at ha)
theorem k8_run : (run k8.2 lt81 lg9).1.word = 81 := by
  rw [show (run k8.2 lt81 lg9).1 = (run l8 lt81 lg9).1 from (legal_same l8_right lt8_ok k8_err (by decide) l8_fine lt81).symm]
  decide
end Ev
namespace Go.Proofs.Ytljcgcllhcdleaa
open Go.RowKit
set_option linter.unusedSimpArgs false
set_option linter.unusedVariables false
theorem flat_lit {w : World} {b : Nat} {op : Int} {t1 t2 : TypeId} (h1 : w.heap[b]? = some (.cells #[.int .i64 op, .int .i64 1, .int .i64 0, .int .i64 0, .int .i64 0, .int .i64 0, .int .i64 20, .int .i64 0, .int .i64 1, .int .i64 0, .int .i64 0, .int .i64 0] t1 (0, 0))) (h2 : w.heap[b + 1]? = some (.cells #[.bool true, .bool true] t2 (0, 0))) :
    RFlat w w.heap.size (.agg #[.slice (some ⟨b, 0, none⟩) 2 2, .slice (some ⟨b + 1, 0, none⟩) 2 2, .int .i64 1, .slice none 0 0]) ⟨[⟨op, 1, 0, 0, 0, 0⟩, ⟨20, 0, 1, 0, 0, 0⟩], [true, true], 1, []⟩ := by
  have z1 := (Array.getElem?_eq_some_iff.1 h1).1
  have z2 := (Array.getElem?_eq_some_iff.1 h2).1
  refine ⟨_, _, _, rfl, ?_, ?_, SL.nil_ _ _ _⟩
  · exact ⟨rfl, _, _, rfl, Nat.le_refl _, by simp [maxLen], (by intro h; cases h), fun _ => ⟨b, 0, rfl, z1, fun j u hu => by rw [Nat.zero_add]; exact (cell_of_block h1 j).trans (by rw [← Array.getElem?_toList]; exact hu)⟩⟩
  · exact ⟨rfl, _, _, rfl, Nat.le_refl _, by simp [maxLen], (by intro h; cases h), fun _ => ⟨b + 1, 0, rfl, z2, fun j u hu => by rw [Nat.zero_add]; exact (cell_of_block h2 j).trans (by rw [← Array.getElem?_toList]; exact hu)⟩⟩
theorem l8_any (vf : Value) (u : World) (hf : RFlat u u.heap.size vf Ev.l8) :
    Calls Try.prog 19 #[vf, .agg #[.int .i64 0, .int .i64 0, .int .i64 0, .int .i64 0, .int .i64 0, .int .i64 0, .int .i64 0, .int .i64 0, .int .i64 1, .int .i64 0, .int .i64 0, .int .i64 0, .int .i64 0, .int .i64 0, .int .i64 0, .int .i64 0, .int .i64 0, .int .i64 0]] u fun e w' => ∃ A1 c1 A2 c2 A3 c3, e = .returned (.tuple #[.agg #[.slice A1 Ev.k8.2.code.length c1, .slice A2 Ev.k8.2.secret.length c2, .int .i64 Ev.k8.2.params, .slice A3 Ev.k8.2.arrays.length c3], .int .i64 0]) ∧ Hid (RFlat w' w'.heap.size (.agg #[.slice A1 Ev.k8.2.code.length c1, .slice A2 Ev.k8.2.secret.length c2, .int .i64 Ev.k8.2.params, .slice A3 Ev.k8.2.arrays.length c3]) Ev.k8.2) ∧ Hid (FromFlat u.heap.size (.agg #[.slice A1 Ev.k8.2.code.length c1, .slice A2 Ev.k8.2.secret.length c2, .int .i64 Ev.k8.2.params, .slice A3 Ev.k8.2.arrays.length c3])) ∧ Below u.heap.size u w' :=
  legal_told Ev.l8 Ev.lt8 vf u hf rfl Ev.lt8_ok Ev.l8_right (by decide) (by decide) 0 Ev.k8.2 Ev.k8_pair
theorem l1_any (vf : Value) (u : World) (hf : RFlat u u.heap.size vf Ev.l1) :
    Calls Try.prog 19 #[vf, .agg #[.int .i64 0, .int .i64 1, .int .i64 0, .int .i64 0, .int .i64 0, .int .i64 0, .int .i64 0, .int .i64 0, .int .i64 1, .int .i64 0, .int .i64 0, .int .i64 0, .int .i64 0, .int .i64 0, .int .i64 0, .int .i64 0, .int .i64 0, .int .i64 0]] u fun e w' => ∃ B1 d1 B2 d2 B3 d3, e = .returned (.tuple #[.agg #[.slice B1 Ev.noFlat.code.length d1, .slice B2 Ev.noFlat.secret.length d2, .int .i64 Ev.noFlat.params, .slice B3 Ev.noFlat.arrays.length d3], .int .i64 11]) ∧ Below u.heap.size u w' :=
  (legal_told Ev.l1 Ev.lt81 vf u hf rfl Ev.lt81_ok Ev.l1_right (by decide) (by decide) 11 Ev.noFlat Ev.k1_is).mono fun _ _ ⟨B1, d1, B2, d2, B3, d3, he, _, _, hb⟩ => ⟨B1, d1, B2, d2, B3, d3, he, hb⟩
theorem k8_check (vf : Value) (u : World) (hf : RFlat u u.heap.size vf Ev.k8.2) :
    Calls Try.prog 17 #[vf] u fun e w' => e = .returned (.tuple #[.int .i64 0, .int .i64 (-1)]) ∧ Below u.heap.size u w' := check_right _ vf u hf Ev.k8_good.right
theorem k8_given : Given Ev.k8.2 Ev.lg9 := by
  have h := Ev.legal_slots (f := Ev.l8) (t := Ev.lt8) Ev.k8_err
  rw [Ev.k8_eq] at h
  obtain ⟨h2, _⟩ := h
  have h3 : Ev.l8.secret.length = 2 := rfl
  rw [h3] at h2
  exact ⟨by rw [Ev.k8_good.params]; rfl, by rw [Ev.k8_good.arrays]; rfl, by intro x hx; simp [Ev.lg9] at hx; subst hx; exact ⟨by decide, by decide⟩, by intro a ha; simp [Ev.lg9] at ha, by intro a ha; simp [Ev.lg9] at ha, by decide, by omega⟩
theorem k8_run_any (vf vw : Value) (u : World) (hf : RFlat u u.heap.size vf Ev.k8.2) (hw : RInts u u.heap.size vw [9]) :
    Calls Try.prog 23 #[vf, .agg #[.int .i64 0, .int .i64 1, .int .i64 0, .int .i64 0, .int .i64 0, .int .i64 0, .int .i64 0, .int .i64 0, .int .i64 1, .int .i64 0, .int .i64 0, .int .i64 0, .int .i64 0, .int .i64 0, .int .i64 0, .int .i64 0, .int .i64 0, .int .i64 0], .agg #[vw, .slice none 0 0]] u fun e w' => ∃ tr A n c A2 n2 c2, e = .returned (.tuple #[.agg #[.int .i64 81, .bool tr, .slice A n c], .slice A2 n2 c2]) ∧ Below u.heap.size u w' := by
  have hg : RGiven u u.heap.size (.agg #[vw, .slice none 0 0]) Ev.lg9 := ⟨_, _, rfl, hw, [], rfl, SL.nil_ _ _ _, fun k u a hu => by simp at hu⟩
  refine (refRun_told Ev.k8.2 Ev.lt81 Ev.lg9 vf _ u hf hg rfl Ev.lt81_ok Ev.k8_good.right k8_given _ rfl).mono ?_
  rintro e w' ⟨A, n, c, A2, n2, c2, rfl, _, hb⟩
  rw [Ev.k8_run]
  exact ⟨_, A, n, c, A2, n2, c2, rfl, hb⟩
set_option maxRecDepth 8000 in
set_option maxHeartbeats 6400000 in
theorem alive_leg (w : World) : Calls Try.prog 16 #[] w fun e w' => e = .returned (.bool true) ∧ Below w.heap.size w w' := by
  go_enter Try.func16, Try.ntmps16
  go_upto_region 2 with fail
  have bA : Below w.heap.size w (((w.alloc (.cells #[.int .i64 8, .int .i64 1, .int .i64 0, .int .i64 0, .int .i64 0, .int .i64 0, .int .i64 20, .int .i64 0, .int .i64 1, .int .i64 0, .int .i64 0, .int .i64 0] 39)).alloc (.cells #[.bool true, .bool true] 4)).alloc (.cells #[.slice (some ⟨w.heap.size, 0, none⟩) 2 2, .slice (some ⟨w.heap.size + 1, 0, none⟩) 2 2, .int .i64 1, .slice none 0 0] 26)) := by (repeat' first | with_reducible (first | exact Below.refl _ _ | assumption | refine Below.alloc ?_ ?_ _ | refine below_drewN ?_ _ | refine Below.drew ?_ | refine Below.setCell ?_ ?_ _ | refine Below.trans ?_ (Below.mono (by with_reducible assumption) ?_)) | go_size)
  have HF : Hid (RFlat (((w.alloc (.cells #[.int .i64 8, .int .i64 1, .int .i64 0, .int .i64 0, .int .i64 0, .int .i64 0, .int .i64 20, .int .i64 0, .int .i64 1, .int .i64 0, .int .i64 0, .int .i64 0] 39)).alloc (.cells #[.bool true, .bool true] 4)).alloc (.cells #[.slice (some ⟨w.heap.size, 0, none⟩) 2 2, .slice (some ⟨w.heap.size + 1, 0, none⟩) 2 2, .int .i64 1, .slice none 0 0] 26)) ((((w.alloc (.cells #[.int .i64 8, .int .i64 1, .int .i64 0, .int .i64 0, .int .i64 0, .int .i64 0, .int .i64 20, .int .i64 0, .int .i64 1, .int .i64 0, .int .i64 0, .int .i64 0] 39)).alloc (.cells #[.bool true, .bool true] 4)).alloc (.cells #[.slice (some ⟨w.heap.size, 0, none⟩) 2 2, .slice (some ⟨w.heap.size + 1, 0, none⟩) 2 2, .int .i64 1, .slice none 0 0] 26))).heap.size (.agg #[.slice (some ⟨w.heap.size, 0, none⟩) 2 2, .slice (some ⟨w.heap.size + 1, 0, none⟩) 2 2, .int .i64 1, .slice none 0 0]) Ev.l8) := by
    refine Lib.hid (flat_lit (b := w.heap.size) (t1 := 39) (t2 := 4) ?_ ?_)
    · exact (box_on (box_on (box_new w _) ((Below.refl _ _).alloc (Nat.le_refl _) _)) ((Below.refl _ _).alloc (Nat.le_refl _) _)).out
    · have h := (box_on (box_new (w.alloc (.cells #[.int .i64 8, .int .i64 1, .int .i64 0, .int .i64 0, .int .i64 0, .int .i64 0, .int .i64 20, .int .i64 0, .int .i64 1, .int .i64 0, .int .i64 0, .int .i64 0] 39)) (.cells #[.bool true, .bool true] 4)) ((Below.refl _ _).alloc (Nat.le_refl _) (.cells #[.slice (some ⟨w.heap.size, 0, none⟩) 2 2, .slice (some ⟨w.heap.size + 1, 0, none⟩) 2 2, .int .i64 1, .slice none 0 0] 26))).out
      simpa using h
  have HBF : Hid (((((w.alloc (.cells #[.int .i64 8, .int .i64 1, .int .i64 0, .int .i64 0, .int .i64 0, .int .i64 0, .int .i64 20, .int .i64 0, .int .i64 1, .int .i64 0, .int .i64 0, .int .i64 0] 39)).alloc (.cells #[.bool true, .bool true] 4)).alloc (.cells #[.slice (some ⟨w.heap.size, 0, none⟩) 2 2, .slice (some ⟨w.heap.size + 1, 0, none⟩) 2 2, .int .i64 1, .slice none 0 0] 26))).heap[w.heap.size + 1 + 1]? = some (.cells #[.slice (some ⟨w.heap.size, 0, none⟩) 2 2, .slice (some ⟨w.heap.size + 1, 0, none⟩) 2 2, .int .i64 1, .slice none 0 0] 26 (0, 0))) := by
    have h := (box_new ((w.alloc (.cells #[.int .i64 8, .int .i64 1, .int .i64 0, .int .i64 0, .int .i64 0, .int .i64 0, .int .i64 20, .int .i64 0, .int .i64 1, .int .i64 0, .int .i64 0, .int .i64 0] 39)).alloc (.cells #[.bool true, .bool true] 4)) (.cells #[.slice (some ⟨w.heap.size, 0, none⟩) 2 2, .slice (some ⟨w.heap.size + 1, 0, none⟩) 2 2, .int .i64 1, .slice none 0 0] 26)).out
    exact Lib.hid (by simpa using h)
  generalize (((w.alloc (.cells #[.int .i64 8, .int .i64 1, .int .i64 0, .int .i64 0, .int .i64 0, .int .i64 0, .int .i64 20, .int .i64 0, .int .i64 1, .int .i64 0, .int .i64 0, .int .i64 0] 39)).alloc (.cells #[.bool true, .bool true] 4)).alloc (.cells #[.slice (some ⟨w.heap.size, 0, none⟩) 2 2, .slice (some ⟨w.heap.size + 1, 0, none⟩) 2 2, .int .i64 1, .slice none 0 0] 26)) = wA at *
  have zA := bA.size
  go_upto_region 4 with fail
  have HBT := box_new wA (.cells #[.int .i64 0, .int .i64 0, .int .i64 0, .int .i64 0, .int .i64 0, .int .i64 0, .int .i64 0, .int .i64 0, .int .i64 1, .int .i64 0, .int .i64 0, .int .i64 0, .int .i64 0, .int .i64 0, .int .i64 0, .int .i64 0, .int .i64 0, .int .i64 0] 29)
  have bB : Below wA.heap.size wA (wA.alloc (.cells #[.int .i64 0, .int .i64 0, .int .i64 0, .int .i64 0, .int .i64 0, .int .i64 0, .int .i64 0, .int .i64 0, .int .i64 1, .int .i64 0, .int .i64 0, .int .i64 0, .int .i64 0, .int .i64 0, .int .i64 0, .int .i64 0, .int .i64 0, .int .i64 0] 29)) := (Below.refl _ _).alloc (Nat.le_refl _) _
  replace HF := RFlat.on HF bB
  replace HBF := box_on HBF bB
  have b1 : Below w.heap.size w (wA.alloc (.cells #[.int .i64 0, .int .i64 0, .int .i64 0, .int .i64 0, .int .i64 0, .int .i64 0, .int .i64 0, .int .i64 0, .int .i64 1, .int .i64 0, .int .i64 0, .int .i64 0, .int .i64 0, .int .i64 0, .int .i64 0, .int .i64 0, .int .i64 0, .int .i64 0] 29)) := by (repeat' first | with_reducible (first | exact Below.refl _ _ | assumption | refine Below.alloc ?_ ?_ _ | refine below_drewN ?_ _ | refine Below.drew ?_ | refine Below.setCell ?_ ?_ _ | refine Below.trans ?_ (Below.mono (by with_reducible assumption) ?_)) | go_size)
  generalize wA.alloc (.cells #[.int .i64 0, .int .i64 0, .int .i64 0, .int .i64 0, .int .i64 0, .int .i64 0, .int .i64 0, .int .i64 0, .int .i64 1, .int .i64 0, .int .i64 0, .int .i64 0, .int .i64 0, .int .i64 0, .int .i64 0, .int .i64 0, .int .i64 0, .int .i64 0] 29) = wB at *
  have zt := box_lt HBT
  clear bA bB
  go_upto_region 5 with (first | (refine wpList_load_box rfl 26 _ rfl rfl (box_load Try.underlying26 (by kernel_rfl) rfl (by kernel_rfl) HBF) ?_) | (refine wpList_load_box rfl 29 _ rfl rfl (box_load Try.underlying29 (by kernel_rfl) rfl (by kernel_rfl) (box_on HBT (by (repeat' first | with_reducible (first | exact Below.refl _ _ | assumption | refine Below.alloc ?_ ?_ _ | refine below_drewN ?_ _ | refine Below.drew ?_ | refine Below.setCell ?_ ?_ _ | refine Below.trans ?_ (Below.mono (by with_reducible assumption) ?_)) | go_size)))) ?_) | (go_at_call 19; refine (l8_any _ _ HF.out).mono ?_; rintro e w1 ⟨A1, c1, A2, c2, A3, c3, rfl, HX, HFX, hb1⟩))
  have bC : Below w1.heap.size w1 (w1.alloc (.cells #[.slice A1 Ev.k8.2.code.length c1, .slice A2 Ev.k8.2.secret.length c2, .int .i64 Ev.k8.2.params, .slice A3 Ev.k8.2.arrays.length c3] 26)) := (Below.refl _ _).alloc (Nat.le_refl _) _
  have HBX := box_new w1 (.cells #[.slice A1 Ev.k8.2.code.length c1, .slice A2 Ev.k8.2.secret.length c2, .int .i64 Ev.k8.2.params, .slice A3 Ev.k8.2.arrays.length c3] 26)
  replace HX := RFlat.on HX bC
  replace HBT := box_on (box_on HBT hb1) bC
  have s0 := b1.size
  have s1 := hb1.size
  replace b1 : Below w.heap.size w (w1.alloc (.cells #[.slice A1 Ev.k8.2.code.length c1, .slice A2 Ev.k8.2.secret.length c2, .int .i64 Ev.k8.2.params, .slice A3 Ev.k8.2.arrays.length c3] 26)) := (b1.trans (hb1.mono s0)).alloc (by omega) _
  generalize w1.alloc (.cells #[.slice A1 Ev.k8.2.code.length c1, .slice A2 Ev.k8.2.secret.length c2, .int .i64 Ev.k8.2.params, .slice A3 Ev.k8.2.arrays.length c3] 26) = wC at *
  have tc : wC.cell? ⟨wA.heap.size, 1, none⟩ = some (.int .i64 0) := box_cell HBT 1 rfl
  have tf : wC.frozen? ⟨wA.heap.size, 1, none⟩ = false := box_free HBT 1
  clear HF HBF hb1 bC
  go_upto_region 6 with fail
  have HBT2 : Hid ((wC.setCell ⟨wA.heap.size, 1, none⟩ (.int .i64 1)).heap[wA.heap.size]? = some (.cells #[.int .i64 0, .int .i64 1, .int .i64 0, .int .i64 0, .int .i64 0, .int .i64 0, .int .i64 0, .int .i64 0, .int .i64 1, .int .i64 0, .int .i64 0, .int .i64 0, .int .i64 0, .int .i64 0, .int .i64 0, .int .i64 0, .int .i64 0, .int .i64 0] 29 (0, 0))) := Lib.hid (by rw [heap_setCell_same wC wA.heap.size 1 _ _ (.int .i64 1) HBT.out]; rfl)
  have HX2 : Hid (RFlat (wC.setCell ⟨wA.heap.size, 1, none⟩ (.int .i64 1)) (wC.setCell ⟨wA.heap.size, 1, none⟩ (.int .i64 1)).heap.size (.agg #[.slice A1 Ev.k8.2.code.length c1, .slice A2 Ev.k8.2.secret.length c2, .int .i64 Ev.k8.2.params, .slice A3 Ev.k8.2.arrays.length c3]) Ev.k8.2) := Lib.hid (RFlat.aside HX.out HFX.out wA.heap.size 1 _ zt)
  have HBX2 : Hid ((wC.setCell ⟨wA.heap.size, 1, none⟩ (.int .i64 1)).heap[w1.heap.size]? = some (.cells #[.slice A1 Ev.k8.2.code.length c1, .slice A2 Ev.k8.2.secret.length c2, .int .i64 Ev.k8.2.params, .slice A3 Ev.k8.2.arrays.length c3] 26 (0, 0))) := Lib.hid ((heap_setCell_other wC ⟨wA.heap.size, 1, none⟩ w1.heap.size _ (by show w1.heap.size ≠ wA.heap.size; omega)).trans HBX.out)
  replace b1 : Below w.heap.size w (wC.setCell ⟨wA.heap.size, 1, none⟩ (.int .i64 1)) := b1.setCell (by show w.heap.size ≤ wA.heap.size; omega) _
  clear HBT HX HBX tc tf HFX
  generalize wC.setCell ⟨wA.heap.size, 1, none⟩ (.int .i64 1) = wD at *
  have HF1 : Hid (RFlat ((wD.alloc (.cells #[.int .i64 1, .int .i64 1, .int .i64 0, .int .i64 0, .int .i64 0, .int .i64 0, .int .i64 20, .int .i64 0, .int .i64 1, .int .i64 0, .int .i64 0, .int .i64 0] 39)).alloc (.cells #[.bool true, .bool true] 4)) ((wD.alloc (.cells #[.int .i64 1, .int .i64 1, .int .i64 0, .int .i64 0, .int .i64 0, .int .i64 0, .int .i64 20, .int .i64 0, .int .i64 1, .int .i64 0, .int .i64 0, .int .i64 0] 39)).alloc (.cells #[.bool true, .bool true] 4)).heap.size (.agg #[.slice (some ⟨wD.heap.size, 0, none⟩) 2 2, .slice (some ⟨wD.heap.size + 1, 0, none⟩) 2 2, .int .i64 1, .slice none 0 0]) Ev.l1) := by
    refine Lib.hid (flat_lit (b := wD.heap.size) (t1 := 39) (t2 := 4) ?_ ?_)
    · exact (box_on (box_new wD _) ((Below.refl _ _).alloc (Nat.le_refl _) _)).out
    · have h := (box_new (wD.alloc (.cells #[.int .i64 1, .int .i64 1, .int .i64 0, .int .i64 0, .int .i64 0, .int .i64 0, .int .i64 20, .int .i64 0, .int .i64 1, .int .i64 0, .int .i64 0, .int .i64 0] 39)) (.cells #[.bool true, .bool true] 4)).out
      simpa using h
  have s2 := b1.size
  go_upto_region 7 with (first | (refine wpList_load_box rfl 29 _ rfl rfl (box_load Try.underlying29 (by kernel_rfl) rfl (by kernel_rfl) (box_on HBT2 (by (repeat' first | with_reducible (first | exact Below.refl _ _ | assumption | refine Below.alloc ?_ ?_ _ | refine below_drewN ?_ _ | refine Below.drew ?_ | refine Below.setCell ?_ ?_ _ | refine Below.trans ?_ (Below.mono (by with_reducible assumption) ?_)) | go_size)))) ?_) | (go_at_call 19; refine (l1_any _ _ HF1.out).mono ?_; rintro e w2 ⟨B1, d1, B2, d2, B3, d3, rfl, hb2⟩))
  have s3 := hb2.size
  simp only [World.size_alloc] at s3
  have bE : Below wD.heap.size wD (w2.alloc (.cells #[.slice B1 Ev.noFlat.code.length d1, .slice B2 Ev.noFlat.secret.length d2, .int .i64 Ev.noFlat.params, .slice B3 Ev.noFlat.arrays.length d3] 26)) := by (repeat' first | with_reducible (first | exact Below.refl _ _ | assumption | refine Below.alloc ?_ ?_ _ | refine below_drewN ?_ _ | refine Below.drew ?_ | refine Below.setCell ?_ ?_ _ | refine Below.trans ?_ (Below.mono (by with_reducible assumption) ?_)) | go_size)
  have HX := RFlat.on HX2 bE
  have HBX := box_on HBX2 bE
  have HBT := box_on HBT2 bE
  replace b1 : Below w.heap.size w (w2.alloc (.cells #[.slice B1 Ev.noFlat.code.length d1, .slice B2 Ev.noFlat.secret.length d2, .int .i64 Ev.noFlat.params, .slice B3 Ev.noFlat.arrays.length d3] 26)) := by (repeat' first | with_reducible (first | exact Below.refl _ _ | assumption | refine Below.alloc ?_ ?_ _ | refine below_drewN ?_ _ | refine Below.drew ?_ | refine Below.setCell ?_ ?_ _ | refine Below.trans ?_ (Below.mono (by with_reducible assumption) ?_)) | go_size)
  clear HX2 HBX2 HBT2 HF1 bE hb2
  generalize w2.alloc (.cells #[.slice B1 Ev.noFlat.code.length d1, .slice B2 Ev.noFlat.secret.length d2, .int .i64 Ev.noFlat.params, .slice B3 Ev.noFlat.arrays.length d3] 26) = wE at *
  have x0 : wE.cell? ⟨w1.heap.size, 0, none⟩ = some (.slice A1 Ev.k8.2.code.length c1) := box_cell HBX 0 rfl
  have gN : decide ((Ev.k8.2.code.length : Int) < 3) = false := decide_eq_false (by have := Ev.k8_len; omega)
  go_upto_region 10 with (first | (refine wpList_load_box rfl 26 _ rfl rfl (box_load Try.underlying26 (by kernel_rfl) rfl (by kernel_rfl) HBX) ?_) | (go_at_call 17; refine (k8_check _ _ HX.out).mono ?_; rintro e w3 ⟨rfl, hb3⟩))
  have s4 := b1.size
  have s5 := hb3.size
  replace HX := RFlat.on HX hb3
  replace HBX := box_on HBX hb3
  replace HBT := box_on HBT hb3
  replace b1 : Below w.heap.size w w3 := b1.trans (hb3.mono s4)
  clear x0 hb3
  have HW1 := Lib.hid (RInts.lit (W := w3) (t := 3) (cs := #[.int .i64 9]) (l := [9]) rfl rfl rfl (by unfold maxLen; decide))
  go_upto_region 13 with (first | (refine wpList_load_box rfl 26 _ rfl rfl (box_load Try.underlying26 (by kernel_rfl) rfl (by kernel_rfl) HBX) ?_) | (refine wpList_load_box rfl 29 _ rfl rfl (box_load Try.underlying29 (by kernel_rfl) rfl (by kernel_rfl) (box_on HBT (by (repeat' first | with_reducible (first | exact Below.refl _ _ | assumption | refine Below.alloc ?_ ?_ _ | refine below_drewN ?_ _ | refine Below.drew ?_ | refine Below.setCell ?_ ?_ _ | refine Below.trans ?_ (Below.mono (by with_reducible assumption) ?_)) | go_size)))) ?_) | (go_at_call 23; refine (k8_run_any _ _ _ (RFlat.on HX (by (repeat' first | with_reducible (first | exact Below.refl _ _ | assumption | refine Below.alloc ?_ ?_ _ | refine below_drewN ?_ _ | refine Below.drew ?_ | refine Below.setCell ?_ ?_ _ | refine Below.trans ?_ (Below.mono (by with_reducible assumption) ?_)) | go_size))).out HW1.out).mono ?_; rintro e w4 ⟨tr, A5, n5, c5, A6, n6, c6, rfl, hb4⟩))
  go_wp2_with fail
  go_ret
  exact ⟨rfl, by have s6 := hb4.size; simp only [World.size_alloc] at s6; (repeat' first | with_reducible (first | exact Below.refl _ _ | assumption | refine Below.alloc ?_ ?_ _ | refine below_drewN ?_ _ | refine Below.drew ?_ | refine Below.setCell ?_ ?_ _ | refine Below.trans ?_ (Below.mono (by with_reducible assumption) ?_)) | go_size)⟩
end Go.Proofs.Ytljcgcllhcdleaa
