import Derived.Test.YtljcgcllhcdleaaFo21
import Derived.Test.YtljcgcllhcdleaaFo31
import Derived.Deep.DeepCutAuto
import Derived.ProofKit
import Derived.OpenShut
import Derived.Deep.Slices
import Derived.Deep.Fields
import Derived.ChangeSame
import Derived.Test.YtljcgcllhcdleaaFo1
import Derived.Test.YtljcgcllhcdleaaProg
/- evlaw9.alive: a closed fact. -/
namespace Go.Proofs.Ytljcgcllhcdleaa
open Go.RowKit
set_option linter.unusedSimpArgs false
set_option linter.unusedVariables false
/-- a flat program, its rows born with it -/
def Bv.flat (f : Ev.Flat) : Bv where
  B x v w := Dep x.1 x.2 w (fun u => RFlat u u.heap.size v f)
  ok v := ∃ (A c S : Option Addr × Nat), v = .agg #[.slice A.1 f.code.length A.2, .slice c.1 f.secret.length c.2, .int .i64 f.params, .slice S.1 f.arrays.length S.2]
  imp _ v w h := by obtain ⟨A1, c1, A2, c2, A3, c3, e⟩ := h.here.slices; exact ⟨(A1, c1), (A2, c2), (A3, c3), e⟩
  dum := ⟨_, (none, 0), (none, 0), (none, 0), rfl⟩
  stay _ v w w' hb h := h.stays hb
theorem flat_dep {w : World} {lo : Nat} {v : Value} {f : Ev.Flat} (h : RFlat w w.heap.size v f) (hf : FromFlat lo v) : Dep lo w.heap.size w (fun u => RFlat u u.heap.size v f) := by
  obtain ⟨vc, vs, va, e, h1, h2, h3⟩ := h
  obtain ⟨vc', vs', va', p, rfl, f1, f2, f3⟩ := hf
  injection e with e
  simp only [Array.mk.injEq, List.cons.injEq] at e
  obtain ⟨rfl, rfl, rfl, rfl, _⟩ := e
  have d := (SL.dep h1 f1).and ((SL.dep h2 f2).and (SL.dep h3 f3))
  exact ⟨d.1, fun u a b => ⟨_, _, _, rfl, (d.2 u a b).1, (d.2 u a b).2.1, (d.2 u a b).2.2⟩⟩
theorem flat_lit9 {w : World} {b : Nat} {t1 t2 : TypeId} (h1 : w.heap[b]? = some (.cells #[.int .i64 14, .int .i64 0, .int .i64 0, .int .i64 0, .int .i64 0, .int .i64 5, .int .i64 1, .int .i64 1, .int .i64 0, .int .i64 0, .int .i64 0, .int .i64 0, .int .i64 20, .int .i64 0, .int .i64 1, .int .i64 0, .int .i64 0, .int .i64 0] t1 (0, 0))) (h2 : w.heap[b + 1]? = some (.cells #[.bool false, .bool false] t2 (0, 0))) :
    RFlat w w.heap.size (.agg #[.slice (some ⟨b, 0, none⟩) 3 3, .slice (some ⟨b + 1, 0, none⟩) 2 2, .int .i64 0, .slice none 0 0]) Ev.f9 := by
  have z1 := (Array.getElem?_eq_some_iff.1 h1).1
  have z2 := (Array.getElem?_eq_some_iff.1 h2).1
  refine ⟨_, _, _, rfl, ?_, ?_, SL.nil_ _ _ _⟩
  · exact ⟨rfl, _, _, rfl, Nat.le_refl _, by simp [maxLen], (by intro h; cases h), fun _ => ⟨b, 0, rfl, z1, fun j u hu => by rw [Nat.zero_add]; exact (cell_of_block h1 j).trans (by rw [← Array.getElem?_toList]; exact hu)⟩⟩
  · exact ⟨rfl, _, _, rfl, Nat.le_refl _, by simp [maxLen], (by intro h; cases h), fun _ => ⟨b + 1, 0, rfl, z2, fun j u hu => by rw [Nat.zero_add]; exact (cell_of_block h2 j).trans (by rw [← Array.getElem?_toList]; exact hu)⟩⟩
theorem num9_any (vf : Value) (u : World) (hf : RFlat u u.heap.size vf Ev.f9) :
    Calls Try.prog 27 #[vf] u fun e w' => ∃ v, e = .returned v ∧ RFlat w' w'.heap.size v Ev.n9 ∧ FromFlat (u.heap.size + 2) v ∧ Below u.heap.size u w' := by
  have h := numbersF_any Ev.f9 vf u hf Ev.f9_right (by decide) (by decide)
  rw [Ev.f9_numbers] at h
  exact h
theorem use9_any (vf : Value) (u : World) (hf : RFlat u u.heap.size vf Ev.n9) :
    Calls Try.prog 28 #[vf] u fun e w' => ∃ v, e = .returned v ∧ RFlat w' w'.heap.size v Ev.g9 ∧ FromFlat (u.heap.size + 2) v ∧ Below u.heap.size u w' := by
  have h := usedF_any Ev.n9 vf u hf Ev.n9_right (by decide) (by decide)
  rw [Ev.n9_used] at h
  exact h
theorem fold9_any (vf : Value) (u : World) (hf : RFlat u u.heap.size vf Ev.f9) :
    Calls Try.prog 29 #[vf] u fun e w' => ∃ A1 c1 A2 c2 A3 c3, e = .returned (.agg #[.slice A1 2 c1, .slice A2 2 c2, .int .i64 0, .slice A3 0 c3]) ∧ Hid (RFlat w' w'.heap.size (.agg #[.slice A1 2 c1, .slice A2 2 c2, .int .i64 0, .slice A3 0 c3]) Ev.g9) ∧ Below u.heap.size u w' := by
  have h := fold_any Ev.f9 vf u hf Ev.f9_right (by decide) (by decide)
  rw [Ev.f9_fold] at h
  refine h.mono ?_
  rintro e w' ⟨v, rfl, hR, _, hb⟩
  obtain ⟨A1, c1, A2, c2, A3, c3, rfl⟩ := hR.slices
  exact ⟨A1, c1, A2, c2, A3, c3, rfl, Lib.hid hR, hb⟩
set_option maxRecDepth 8000 in
set_option maxHeartbeats 6400000 in
theorem alive_fold (w : World) : Calls Try.prog 26 #[] w fun e w' => e = .returned (.bool true) ∧ Below w.heap.size w w' := by
  go_enter Try.func26, Try.ntmps26
  go_upto_region 2 with fail
  have bA : Below w.heap.size w (((w.alloc (.cells #[.int .i64 14, .int .i64 0, .int .i64 0, .int .i64 0, .int .i64 0, .int .i64 5, .int .i64 1, .int .i64 1, .int .i64 0, .int .i64 0, .int .i64 0, .int .i64 0, .int .i64 20, .int .i64 0, .int .i64 1, .int .i64 0, .int .i64 0, .int .i64 0] 39)).alloc (.cells #[.bool false, .bool false] 4)).alloc (.cells #[.slice (some ⟨w.heap.size, 0, none⟩) 3 3, .slice (some ⟨w.heap.size + 1, 0, none⟩) 2 2, .int .i64 0, .slice none 0 0] 26)) := by (repeat' first | with_reducible (first | exact Below.refl _ _ | assumption | refine Below.alloc ?_ ?_ _ | refine below_drewN ?_ _ | refine Below.drew ?_ | refine Below.setCell ?_ ?_ _ | refine Below.trans ?_ (Below.mono (by with_reducible assumption) ?_)) | go_size)
  have HF : Hid (RFlat (((w.alloc (.cells #[.int .i64 14, .int .i64 0, .int .i64 0, .int .i64 0, .int .i64 0, .int .i64 5, .int .i64 1, .int .i64 1, .int .i64 0, .int .i64 0, .int .i64 0, .int .i64 0, .int .i64 20, .int .i64 0, .int .i64 1, .int .i64 0, .int .i64 0, .int .i64 0] 39)).alloc (.cells #[.bool false, .bool false] 4)).alloc (.cells #[.slice (some ⟨w.heap.size, 0, none⟩) 3 3, .slice (some ⟨w.heap.size + 1, 0, none⟩) 2 2, .int .i64 0, .slice none 0 0] 26)) ((((w.alloc (.cells #[.int .i64 14, .int .i64 0, .int .i64 0, .int .i64 0, .int .i64 0, .int .i64 5, .int .i64 1, .int .i64 1, .int .i64 0, .int .i64 0, .int .i64 0, .int .i64 0, .int .i64 20, .int .i64 0, .int .i64 1, .int .i64 0, .int .i64 0, .int .i64 0] 39)).alloc (.cells #[.bool false, .bool false] 4)).alloc (.cells #[.slice (some ⟨w.heap.size, 0, none⟩) 3 3, .slice (some ⟨w.heap.size + 1, 0, none⟩) 2 2, .int .i64 0, .slice none 0 0] 26))).heap.size (.agg #[.slice (some ⟨w.heap.size, 0, none⟩) 3 3, .slice (some ⟨w.heap.size + 1, 0, none⟩) 2 2, .int .i64 0, .slice none 0 0]) Ev.f9) := by
    refine Lib.hid (flat_lit9 (b := w.heap.size) (t1 := 39) (t2 := 4) ?_ ?_)
    · exact (box_on (box_on (box_new w _) ((Below.refl _ _).alloc (Nat.le_refl _) _)) ((Below.refl _ _).alloc (Nat.le_refl _) _)).out
    · have h := (box_on (box_new (w.alloc (.cells #[.int .i64 14, .int .i64 0, .int .i64 0, .int .i64 0, .int .i64 0, .int .i64 5, .int .i64 1, .int .i64 1, .int .i64 0, .int .i64 0, .int .i64 0, .int .i64 0, .int .i64 20, .int .i64 0, .int .i64 1, .int .i64 0, .int .i64 0, .int .i64 0] 39)) (.cells #[.bool false, .bool false] 4)) ((Below.refl _ _).alloc (Nat.le_refl _) (.cells #[.slice (some ⟨w.heap.size, 0, none⟩) 3 3, .slice (some ⟨w.heap.size + 1, 0, none⟩) 2 2, .int .i64 0, .slice none 0 0] 26))).out
      simpa using h
  have HBF : Hid (((((w.alloc (.cells #[.int .i64 14, .int .i64 0, .int .i64 0, .int .i64 0, .int .i64 0, .int .i64 5, .int .i64 1, .int .i64 1, .int .i64 0, .int .i64 0, .int .i64 0, .int .i64 0, .int .i64 20, .int .i64 0, .int .i64 1, .int .i64 0, .int .i64 0, .int .i64 0] 39)).alloc (.cells #[.bool false, .bool false] 4)).alloc (.cells #[.slice (some ⟨w.heap.size, 0, none⟩) 3 3, .slice (some ⟨w.heap.size + 1, 0, none⟩) 2 2, .int .i64 0, .slice none 0 0] 26))).heap[w.heap.size + 2]? = some (.cells #[.slice (some ⟨w.heap.size, 0, none⟩) 3 3, .slice (some ⟨w.heap.size + 1, 0, none⟩) 2 2, .int .i64 0, .slice none 0 0] 26 (0, 0))) := by
    have h := (box_new ((w.alloc (.cells #[.int .i64 14, .int .i64 0, .int .i64 0, .int .i64 0, .int .i64 0, .int .i64 5, .int .i64 1, .int .i64 1, .int .i64 0, .int .i64 0, .int .i64 0, .int .i64 0, .int .i64 20, .int .i64 0, .int .i64 1, .int .i64 0, .int .i64 0, .int .i64 0] 39)).alloc (.cells #[.bool false, .bool false] 4)) (.cells #[.slice (some ⟨w.heap.size, 0, none⟩) 3 3, .slice (some ⟨w.heap.size + 1, 0, none⟩) 2 2, .int .i64 0, .slice none 0 0] 26))
    exact Lib.hid (by simpa using h.out)
  generalize (((w.alloc (.cells #[.int .i64 14, .int .i64 0, .int .i64 0, .int .i64 0, .int .i64 0, .int .i64 5, .int .i64 1, .int .i64 1, .int .i64 0, .int .i64 0, .int .i64 0, .int .i64 0, .int .i64 20, .int .i64 0, .int .i64 1, .int .i64 0, .int .i64 0, .int .i64 0] 39)).alloc (.cells #[.bool false, .bool false] 4)).alloc (.cells #[.slice (some ⟨w.heap.size, 0, none⟩) 3 3, .slice (some ⟨w.heap.size + 1, 0, none⟩) 2 2, .int .i64 0, .slice none 0 0] 26)) = wA at *
  have zA := bA.size
  go_upto_region 3 with (first | (refine wpList_load_box rfl 26 _ rfl rfl (box_load Try.underlying26 (by kernel_rfl) rfl (by kernel_rfl) HBF) ?_) | (go_at_call 29; refine (fold9_any _ _ HF.out).mono ?_; rintro e w1 ⟨A1, c1, A2, c2, A3, c3, rfl, HX, hb1⟩))
  have bC : Below w1.heap.size w1 (w1.alloc (.cells #[.slice A1 2 c1, .slice A2 2 c2, .int .i64 0, .slice A3 0 c3] 26)) := (Below.refl _ _).alloc (Nat.le_refl _) _
  have HBX := box_new w1 (.cells #[.slice A1 2 c1, .slice A2 2 c2, .int .i64 0, .slice A3 0 c3] 26)
  replace HX := RFlat.on HX bC
  have s1 := hb1.size
  have bAC : Below wA.heap.size wA (w1.alloc (.cells #[.slice A1 2 c1, .slice A2 2 c2, .int .i64 0, .slice A3 0 c3] 26)) := hb1.alloc s1 _
  replace HF := RFlat.on HF bAC
  replace HBF := box_on HBF bAC
  have b1 : Below w.heap.size w (w1.alloc (.cells #[.slice A1 2 c1, .slice A2 2 c2, .int .i64 0, .slice A3 0 c3] 26)) := bA.trans (bAC.mono zA)
  have hbx : w1.heap.size < (w1.alloc (.cells #[.slice A1 2 c1, .slice A2 2 c2, .int .i64 0, .slice A3 0 c3] 26)).heap.size := by simp
  generalize w1.alloc (.cells #[.slice A1 2 c1, .slice A2 2 c2, .int .i64 0, .slice A3 0 c3] 26) = wC at *
  generalize w1.heap.size = bx at *
  clear bC bAC hb1 bA
  refine wp_region_flockD_tail 7 (fun k => match k with | 0 => some (Bv.is (.agg #[.slice (some ⟨w.heap.size, 0, none⟩) 3 3, .slice (some ⟨w.heap.size + 1, 0, none⟩) 2 2, .int .i64 0, .slice none 0 0])) | 1 => some (Bv.flat Ev.n9) | 2 => some (Bv.is (.agg #[.slice (some ⟨w.heap.size, 0, none⟩) 3 3, .slice (some ⟨w.heap.size + 1, 0, none⟩) 2 2, .int .i64 0, .slice none 0 0])) | 3 => some (Bv.flat Ev.n9) | 4 => some (Bv.flat Ev.g9) | 5 => some (Bv.box wC.heap.size #[.slice none 0 0, .slice none 0 0, .int .i64 0, .slice none 0 0] 26) | 6 => some (Bv.box wC.heap.size #[.slice none 0 0, .slice none 0 0, .int .i64 0, .slice none 0 0] 26) | _ => none) (by kernel_rfl) (by kernel_rfl) (by kernel_rfl) (by kernel_rfl) ?_
  simp only [List.take_succ_cons, List.take_zero, List.drop_succ_cons, List.drop_zero]
  refine flockD_heavy _ rfl ?_ ?_
  · intro w9 hb9 hh9
    have hB9 : Below wC.heap.size wC w9 := (by (repeat' first | with_reducible (first | exact Below.refl _ _ | assumption | refine Below.alloc ?_ ?_ _ | refine below_drewN ?_ _ | refine Below.drew ?_ | refine Below.setCell ?_ ?_ _ | refine Below.trans ?_ (Below.mono (by with_reducible assumption) ?_)) | go_size))
    obtain ⟨kc9, kf9, s9⟩ := bfacts hb9
    obtain ⟨kd9, kg9, _⟩ := bfacts hB9
    skip
    (refine wpList_load_box rfl 26 _ rfl rfl (box_load Try.underlying26 (by kernel_rfl) rfl (by kernel_rfl) (box_on HBF hB9)) ?_)
    refine bornTo_at (by rfl) (by (repeat' first | with_reducible (first | exact Below.refl _ _ | assumption | refine Below.alloc ?_ ?_ _ | refine below_drewN ?_ _ | refine Below.drew ?_ | refine Below.setCell ?_ ?_ _ | refine Below.trans ?_ (Below.mono (by with_reducible assumption) ?_)) | go_size)) ?_
    exact rfl
  intro x0 y0 ok0
  (try simp only [Act.put, List.setIfInBounds_toArray, List.set_cons_zero, List.set_cons_succ])
  (try dsimp only [Bv.box, Bv.flat, Bv.is] at ok0)
  first | subst ok0 | (obtain ⟨A0, c0, ok0⟩ := ok0; subst ok0) | (obtain ⟨A0, ok0⟩ := ok0; subst ok0) | skip
  refine flockD_heavy _ rfl ?_ ?_
  · intro w9 hb9 hh9
    have hB9 : Below wC.heap.size wC w9 := (by (repeat' first | with_reducible (first | exact Below.refl _ _ | assumption | refine Below.alloc ?_ ?_ _ | refine below_drewN ?_ _ | refine Below.drew ?_ | refine Below.setCell ?_ ?_ _ | refine Below.trans ?_ (Below.mono (by with_reducible assumption) ?_)) | go_size))
    obtain ⟨kc9, kf9, s9⟩ := bfacts hb9
    obtain ⟨kd9, kg9, _⟩ := bfacts hB9
    have r0 := hh9 _ (.head _) (by kernel_rfl); dsimp only [Bv.box, Bv.flat, Bv.is] at r0; (first | replace r0 := lit_heap r0 | replace r0 := box_heap r0 | skip); skip
    go_wp2_with (go_at_call 27; refine (num9_any _ _ (RFlat.on HF hB9).out).mono ?_; rintro e w6 ⟨v6, rfl, hR6, hF6, hb6⟩)
    refine bornTo_at (by rfl) (by (repeat' first | with_reducible (first | exact Below.refl _ _ | assumption | refine Below.alloc ?_ ?_ _ | refine below_drewN ?_ _ | refine Below.drew ?_ | refine Below.setCell ?_ ?_ _ | refine Below.trans ?_ (Below.mono (by with_reducible assumption) ?_)) | go_size)) ?_
    exact flat_dep hR6 (hF6.less (by omega))
  intro x1 y1 ok1
  (try simp only [Act.put, List.setIfInBounds_toArray, List.set_cons_zero, List.set_cons_succ])
  (try dsimp only [Bv.box, Bv.flat, Bv.is] at ok1)
  first | subst ok1 | (obtain ⟨A1, c1, ok1⟩ := ok1; subst ok1) | (obtain ⟨A1, ok1⟩ := ok1; subst ok1) | skip
  refine flockD_heavy _ rfl ?_ ?_
  · intro w9 hb9 hh9
    have hB9 : Below wC.heap.size wC w9 := (by (repeat' first | with_reducible (first | exact Below.refl _ _ | assumption | refine Below.alloc ?_ ?_ _ | refine below_drewN ?_ _ | refine Below.drew ?_ | refine Below.setCell ?_ ?_ _ | refine Below.trans ?_ (Below.mono (by with_reducible assumption) ?_)) | go_size))
    obtain ⟨kc9, kf9, s9⟩ := bfacts hb9
    obtain ⟨kd9, kg9, _⟩ := bfacts hB9
    skip
    (refine wpList_load_box rfl 26 _ rfl rfl (box_load Try.underlying26 (by kernel_rfl) rfl (by kernel_rfl) (box_on HBF hB9)) ?_)
    refine bornTo_at (by rfl) (by (repeat' first | with_reducible (first | exact Below.refl _ _ | assumption | refine Below.alloc ?_ ?_ _ | refine below_drewN ?_ _ | refine Below.drew ?_ | refine Below.setCell ?_ ?_ _ | refine Below.trans ?_ (Below.mono (by with_reducible assumption) ?_)) | go_size)) ?_
    exact rfl
  intro x2 y2 ok2
  (try simp only [Act.put, List.setIfInBounds_toArray, List.set_cons_zero, List.set_cons_succ])
  (try dsimp only [Bv.box, Bv.flat, Bv.is] at ok2)
  first | subst ok2 | (obtain ⟨A2, c2, ok2⟩ := ok2; subst ok2) | (obtain ⟨A2, ok2⟩ := ok2; subst ok2) | skip
  refine flockD_heavy _ rfl ?_ ?_
  · intro w9 hb9 hh9
    have hB9 : Below wC.heap.size wC w9 := (by (repeat' first | with_reducible (first | exact Below.refl _ _ | assumption | refine Below.alloc ?_ ?_ _ | refine below_drewN ?_ _ | refine Below.drew ?_ | refine Below.setCell ?_ ?_ _ | refine Below.trans ?_ (Below.mono (by with_reducible assumption) ?_)) | go_size))
    obtain ⟨kc9, kf9, s9⟩ := bfacts hb9
    obtain ⟨kd9, kg9, _⟩ := bfacts hB9
    have r2 := hh9 _ (.head _) (by kernel_rfl); dsimp only [Bv.box, Bv.flat, Bv.is] at r2; (first | replace r2 := lit_heap r2 | replace r2 := box_heap r2 | skip); have r1 := hh9 _ (.tail _ (.head _)) (by kernel_rfl); dsimp only [Bv.box, Bv.flat, Bv.is] at r1; (first | replace r1 := lit_heap r1 | replace r1 := box_heap r1 | skip); have r0 := hh9 _ (.tail _ (.tail _ (.head _))) (by kernel_rfl); dsimp only [Bv.box, Bv.flat, Bv.is] at r0; (first | replace r0 := lit_heap r0 | replace r0 := box_heap r0 | skip); skip
    go_wp2_with (go_at_call 27; refine (num9_any _ _ (RFlat.on HF hB9).out).mono ?_; rintro e w6 ⟨v6, rfl, hR6, hF6, hb6⟩)
    refine bornTo_at (by rfl) (by (repeat' first | with_reducible (first | exact Below.refl _ _ | assumption | refine Below.alloc ?_ ?_ _ | refine below_drewN ?_ _ | refine Below.drew ?_ | refine Below.setCell ?_ ?_ _ | refine Below.trans ?_ (Below.mono (by with_reducible assumption) ?_)) | go_size)) ?_
    exact flat_dep hR6 (hF6.less (by omega))
  intro x3 y3 ok3
  (try simp only [Act.put, List.setIfInBounds_toArray, List.set_cons_zero, List.set_cons_succ])
  (try dsimp only [Bv.box, Bv.flat, Bv.is] at ok3)
  first | subst ok3 | (obtain ⟨A3, c3, ok3⟩ := ok3; subst ok3) | (obtain ⟨A3, ok3⟩ := ok3; subst ok3) | skip
  refine flockD_heavy _ rfl ?_ ?_
  · intro w9 hb9 hh9
    have hB9 : Below wC.heap.size wC w9 := (by (repeat' first | with_reducible (first | exact Below.refl _ _ | assumption | refine Below.alloc ?_ ?_ _ | refine below_drewN ?_ _ | refine Below.drew ?_ | refine Below.setCell ?_ ?_ _ | refine Below.trans ?_ (Below.mono (by with_reducible assumption) ?_)) | go_size))
    obtain ⟨kc9, kf9, s9⟩ := bfacts hb9
    obtain ⟨kd9, kg9, _⟩ := bfacts hB9
    have r3 := hh9 _ (.head _) (by kernel_rfl); dsimp only [Bv.box, Bv.flat, Bv.is] at r3; (first | replace r3 := lit_heap r3 | replace r3 := box_heap r3 | skip); have r2 := hh9 _ (.tail _ (.head _)) (by kernel_rfl); dsimp only [Bv.box, Bv.flat, Bv.is] at r2; (first | replace r2 := lit_heap r2 | replace r2 := box_heap r2 | skip); have r1 := hh9 _ (.tail _ (.tail _ (.head _))) (by kernel_rfl); dsimp only [Bv.box, Bv.flat, Bv.is] at r1; (first | replace r1 := lit_heap r1 | replace r1 := box_heap r1 | skip); have r0 := hh9 _ (.tail _ (.tail _ (.tail _ (.head _)))) (by kernel_rfl); dsimp only [Bv.box, Bv.flat, Bv.is] at r0; (first | replace r0 := lit_heap r0 | replace r0 := box_heap r0 | skip); skip
    go_wp2_with (go_at_call 28; refine (use9_any _ _ r3.here).mono ?_; rintro e w6 ⟨v6, rfl, hR6, hF6, hb6⟩)
    refine bornTo_at (by rfl) (by (repeat' first | with_reducible (first | exact Below.refl _ _ | assumption | refine Below.alloc ?_ ?_ _ | refine below_drewN ?_ _ | refine Below.drew ?_ | refine Below.setCell ?_ ?_ _ | refine Below.trans ?_ (Below.mono (by with_reducible assumption) ?_)) | go_size)) ?_
    exact flat_dep hR6 (hF6.less (by omega))
  intro x4 y4 ok4
  (try simp only [Act.put, List.setIfInBounds_toArray, List.set_cons_zero, List.set_cons_succ])
  (try dsimp only [Bv.box, Bv.flat, Bv.is] at ok4)
  first | subst ok4 | (obtain ⟨A4, c4, ok4⟩ := ok4; subst ok4) | (obtain ⟨A4, ok4⟩ := ok4; subst ok4) | skip
  refine flockD_heavy _ rfl ?_ ?_
  · intro w9 hb9 hh9
    have hB9 : Below wC.heap.size wC w9 := (by (repeat' first | with_reducible (first | exact Below.refl _ _ | assumption | refine Below.alloc ?_ ?_ _ | refine below_drewN ?_ _ | refine Below.drew ?_ | refine Below.setCell ?_ ?_ _ | refine Below.trans ?_ (Below.mono (by with_reducible assumption) ?_)) | go_size))
    obtain ⟨kc9, kf9, s9⟩ := bfacts hb9
    obtain ⟨kd9, kg9, _⟩ := bfacts hB9
    skip
    go_wp2_with fail
    refine bornTo_at (by rfl) (by (repeat' first | with_reducible (first | exact Below.refl _ _ | assumption | refine Below.alloc ?_ ?_ _ | refine below_drewN ?_ _ | refine Below.drew ?_ | refine Below.setCell ?_ ?_ _ | refine Below.trans ?_ (Below.mono (by with_reducible assumption) ?_)) | go_size)) ?_
    exact ⟨_, rfl, by go_size, Nat.le_refl _, by go_size, heap_alloc_new _ _⟩
  intro x5 y5 ok5
  (try simp only [Act.put, List.setIfInBounds_toArray, List.set_cons_zero, List.set_cons_succ])
  (try dsimp only [Bv.box, Bv.flat, Bv.is] at ok5)
  first | subst ok5 | (obtain ⟨A5, c5, ok5⟩ := ok5; subst ok5) | (obtain ⟨A5, ok5⟩ := ok5; subst ok5) | skip
  refine flockD_heavy _ rfl ?_ ?_
  · intro w9 hb9 hh9
    have hB9 : Below wC.heap.size wC w9 := (by (repeat' first | with_reducible (first | exact Below.refl _ _ | assumption | refine Below.alloc ?_ ?_ _ | refine below_drewN ?_ _ | refine Below.drew ?_ | refine Below.setCell ?_ ?_ _ | refine Below.trans ?_ (Below.mono (by with_reducible assumption) ?_)) | go_size))
    obtain ⟨kc9, kf9, s9⟩ := bfacts hb9
    obtain ⟨kd9, kg9, _⟩ := bfacts hB9
    skip
    go_wp2_with fail
    refine bornTo_at (by rfl) (by (repeat' first | with_reducible (first | exact Below.refl _ _ | assumption | refine Below.alloc ?_ ?_ _ | refine below_drewN ?_ _ | refine Below.drew ?_ | refine Below.setCell ?_ ?_ _ | refine Below.trans ?_ (Below.mono (by with_reducible assumption) ?_)) | go_size)) ?_
    exact ⟨_, rfl, by go_size, Nat.le_refl _, by go_size, heap_alloc_new _ _⟩
  intro x6 y6 ok6
  (try simp only [Act.put, List.setIfInBounds_toArray, List.set_cons_zero, List.set_cons_succ])
  (try dsimp only [Bv.box, Bv.flat, Bv.is] at ok6)
  first | subst ok6 | (obtain ⟨A6, c6, ok6⟩ := ok6; subst ok6) | (obtain ⟨A6, ok6⟩ := ok6; subst ok6) | skip
  refine flockD_nil ?_
  intro w9 hb9 hh9 hd9
  have hB9 : Below wC.heap.size wC w9 := (by (repeat' first | with_reducible (first | exact Below.refl _ _ | assumption | refine Below.alloc ?_ ?_ _ | refine below_drewN ?_ _ | refine Below.drew ?_ | refine Below.setCell ?_ ?_ _ | refine Below.trans ?_ (Below.mono (by with_reducible assumption) ?_)) | go_size))
  have r6 := hh9 _ (.head _); dsimp only [Bv.box, Bv.flat, Bv.is] at r6; (first | replace r6 := lit_heap r6 | replace r6 := box_heap r6 | skip); have r5 := hh9 _ (.tail _ (.head _)); dsimp only [Bv.box, Bv.flat, Bv.is] at r5; (first | replace r5 := lit_heap r5 | replace r5 := box_heap r5 | skip); have r4 := hh9 _ (.tail _ (.tail _ (.head _))); dsimp only [Bv.box, Bv.flat, Bv.is] at r4; (first | replace r4 := lit_heap r4 | replace r4 := box_heap r4 | skip); have r3 := hh9 _ (.tail _ (.tail _ (.tail _ (.head _)))); dsimp only [Bv.box, Bv.flat, Bv.is] at r3; (first | replace r3 := lit_heap r3 | replace r3 := box_heap r3 | skip); have r2 := hh9 _ (.tail _ (.tail _ (.tail _ (.tail _ (.head _))))); dsimp only [Bv.box, Bv.flat, Bv.is] at r2; (first | replace r2 := lit_heap r2 | replace r2 := box_heap r2 | skip); have r1 := hh9 _ (.tail _ (.tail _ (.tail _ (.tail _ (.tail _ (.head _)))))); dsimp only [Bv.box, Bv.flat, Bv.is] at r1; (first | replace r1 := lit_heap r1 | replace r1 := box_heap r1 | skip); have r0 := hh9 _ (.tail _ (.tail _ (.tail _ (.tail _ (.tail _ (.tail _ (.head _))))))); dsimp only [Bv.box, Bv.flat, Bv.is] at r0; (first | replace r0 := lit_heap r0 | replace r0 := box_heap r0 | skip); clear hh9
  have d9_1_3 := (pw_get hd9 3 5 (by decide) rfl rfl).symm
  have d9_1_4 := (pw_get hd9 2 5 (by decide) rfl rfl).symm
  have d9_1_5 := (pw_get hd9 1 5 (by decide) rfl rfl).symm
  have d9_1_6 := (pw_get hd9 0 5 (by decide) rfl rfl).symm
  have d9_3_4 := (pw_get hd9 2 3 (by decide) rfl rfl).symm
  have d9_3_5 := (pw_get hd9 1 3 (by decide) rfl rfl).symm
  have d9_3_6 := (pw_get hd9 0 3 (by decide) rfl rfl).symm
  have d9_4_5 := (pw_get hd9 1 2 (by decide) rfl rfl).symm
  have d9_4_6 := (pw_get hd9 0 2 (by decide) rfl rfl).symm
  have d9_5_6 := (pw_get hd9 0 1 (by decide) rfl rfl).symm
  clear hd9
  (try dsimp only)
  clear r0 r2 r3 d9_1_3 d9_1_4 d9_3_4 d9_3_5 d9_3_6 hb9
  obtain ⟨⟨N1, n1⟩, ⟨N2, n2⟩, ⟨N3, n3⟩, rfl⟩ := ok1
  obtain ⟨⟨U1, v1⟩, ⟨U2, v2⟩, ⟨U3, v3⟩, rfl⟩ := ok4
  have R1 : Hid (Dep y1.1 y1.2 w9 (fun u => RFlat u u.heap.size (.agg #[.slice N1 3 n1, .slice N2 2 n2, .int .i64 0, .slice N3 0 n3]) Ev.n9)) := Lib.hid r1
  have R4 : Hid (Dep y4.1 y4.2 w9 (fun u => RFlat u u.heap.size (.agg #[.slice U1 2 v1, .slice U2 2 v2, .int .i64 0, .slice U3 0 v3]) Ev.g9)) := Lib.hid r4
  clear r1 r4 ok3
  simp only [show Ev.n9.code.length = 3 from rfl, show Ev.n9.secret.length = 2 from rfl, show Ev.n9.params = 0 from rfl, show Ev.n9.arrays.length = 0 from rfl, show Ev.g9.code.length = 2 from rfl, show Ev.g9.secret.length = 2 from rfl, show Ev.g9.params = 0 from rfl, show Ev.g9.arrays.length = 0 from rfl]
  obtain ⟨l5, g5, n5, p5⟩ := bvbox r5
  obtain ⟨l6, g6, n6, p6⟩ := bvbox r6
  have d1 : A5 ≠ A6 := apart_ne d9_5_6 g5 n5 g6 n6
  have d2 := d1.symm
  have a15 := apart_box d9_1_5 g5 n5
  have a16 := apart_box d9_1_6 g6 n6
  have a45 := apart_box d9_4_5 g5 n5
  have a46 := apart_box d9_4_6 g6 n6
  have kp5_0 : w9.cell? ⟨A5, 0, none⟩ = some (.slice none 0 0) := (cell_of_block p5 0).trans rfl
  have kp5_1 : w9.cell? ⟨A5, 1, none⟩ = some (.slice none 0 0) := (cell_of_block p5 1).trans rfl
  have kp5_2 : w9.cell? ⟨A5, 2, none⟩ = some (.int .i64 0) := (cell_of_block p5 2).trans rfl
  have kp5_3 : w9.cell? ⟨A5, 3, none⟩ = some (.slice none 0 0) := (cell_of_block p5 3).trans rfl
  have fp5 := fun j => box_looseM p5 j
  have kp6_0 : w9.cell? ⟨A6, 0, none⟩ = some (.slice none 0 0) := (cell_of_block p6 0).trans rfl
  have kp6_1 : w9.cell? ⟨A6, 1, none⟩ = some (.slice none 0 0) := (cell_of_block p6 1).trans rfl
  have kp6_2 : w9.cell? ⟨A6, 2, none⟩ = some (.int .i64 0) := (cell_of_block p6 2).trans rfl
  have kp6_3 : w9.cell? ⟨A6, 3, none⟩ = some (.slice none 0 0) := (cell_of_block p6 3).trans rfl
  have fp6 := fun j => box_looseM p6 j
  have D1 := Lib.hid ((((((((R1.out.aside A5 0 (.slice N1 3 n1) a15).aside A5 1 (.slice N2 2 n2) a15).aside A5 2 (.int .i64 0) a15).aside A5 3 (.slice N3 0 n3) a15).aside A6 0 (.slice U1 2 v1) a16).aside A6 1 (.slice U2 2 v2) a16).aside A6 2 (.int .i64 0) a16).aside A6 3 (.slice U3 0 v3) a16)
  have D4 := Lib.hid ((((((((R4.out.aside A5 0 (.slice N1 3 n1) a45).aside A5 1 (.slice N2 2 n2) a45).aside A5 2 (.int .i64 0) a45).aside A5 3 (.slice N3 0 n3) a45).aside A6 0 (.slice U1 2 v1) a46).aside A6 1 (.slice U2 2 v2) a46).aside A6 2 (.int .i64 0) a46).aside A6 3 (.slice U3 0 v3) a46)
  have o6 : ∀ b, b ≠ A6 → (((((((((w9.setCell ⟨A5, 0, none⟩ (.slice N1 3 n1)).setCell ⟨A5, 1, none⟩ (.slice N2 2 n2)).setCell ⟨A5, 2, none⟩ (.int .i64 0)).setCell ⟨A5, 3, none⟩ (.slice N3 0 n3)).setCell ⟨A6, 0, none⟩ (.slice U1 2 v1)).setCell ⟨A6, 1, none⟩ (.slice U2 2 v2)).setCell ⟨A6, 2, none⟩ (.int .i64 0)).setCell ⟨A6, 3, none⟩ (.slice U3 0 v3))).heap[b]? = (((((w9.setCell ⟨A5, 0, none⟩ (.slice N1 3 n1)).setCell ⟨A5, 1, none⟩ (.slice N2 2 n2)).setCell ⟨A5, 2, none⟩ (.int .i64 0)).setCell ⟨A5, 3, none⟩ (.slice N3 0 n3))).heap[b]? := fun b hb => by rw [Below.heap_setCell _ ⟨A6, 3, none⟩ _ b hb, Below.heap_setCell _ ⟨A6, 2, none⟩ _ b hb, Below.heap_setCell _ ⟨A6, 1, none⟩ _ b hb, Below.heap_setCell _ ⟨A6, 0, none⟩ _ b hb]
  have o5 : ∀ b, b ≠ A5 → (((((w9.setCell ⟨A5, 0, none⟩ (.slice N1 3 n1)).setCell ⟨A5, 1, none⟩ (.slice N2 2 n2)).setCell ⟨A5, 2, none⟩ (.int .i64 0)).setCell ⟨A5, 3, none⟩ (.slice N3 0 n3))).heap[b]? = w9.heap[b]? := fun b hb => by rw [Below.heap_setCell _ ⟨A5, 3, none⟩ _ b hb, Below.heap_setCell _ ⟨A5, 2, none⟩ _ b hb, Below.heap_setCell _ ⟨A5, 1, none⟩ _ b hb, Below.heap_setCell _ ⟨A5, 0, none⟩ _ b hb]
  have HB5 : Hid ((((((((((w9.setCell ⟨A5, 0, none⟩ (.slice N1 3 n1)).setCell ⟨A5, 1, none⟩ (.slice N2 2 n2)).setCell ⟨A5, 2, none⟩ (.int .i64 0)).setCell ⟨A5, 3, none⟩ (.slice N3 0 n3)).setCell ⟨A6, 0, none⟩ (.slice U1 2 v1)).setCell ⟨A6, 1, none⟩ (.slice U2 2 v2)).setCell ⟨A6, 2, none⟩ (.int .i64 0)).setCell ⟨A6, 3, none⟩ (.slice U3 0 v3))).heap[A5]? = some (.cells #[.slice N1 3 n1, .slice N2 2 n2, .int .i64 0, .slice N3 0 n3] 26 (0, 0))) := Lib.hid ((o6 A5 d1).trans ((heap_set (heap_set (heap_set (heap_set p5 _) _) _) _).trans (by simp only [List.setIfInBounds_toArray, List.set_cons_zero, List.set_cons_succ])))
  have HB6 : Hid ((((((((((w9.setCell ⟨A5, 0, none⟩ (.slice N1 3 n1)).setCell ⟨A5, 1, none⟩ (.slice N2 2 n2)).setCell ⟨A5, 2, none⟩ (.int .i64 0)).setCell ⟨A5, 3, none⟩ (.slice N3 0 n3)).setCell ⟨A6, 0, none⟩ (.slice U1 2 v1)).setCell ⟨A6, 1, none⟩ (.slice U2 2 v2)).setCell ⟨A6, 2, none⟩ (.int .i64 0)).setCell ⟨A6, 3, none⟩ (.slice U3 0 v3))).heap[A6]? = some (.cells #[.slice U1 2 v1, .slice U2 2 v2, .int .i64 0, .slice U3 0 v3] 26 (0, 0))) := Lib.hid ((heap_set (heap_set (heap_set (heap_set ((o5 A6 d2).trans p6) _) _) _) _).trans (by simp only [List.setIfInBounds_toArray, List.set_cons_zero, List.set_cons_succ]))
  have HBX9 : Hid ((((((((((w9.setCell ⟨A5, 0, none⟩ (.slice N1 3 n1)).setCell ⟨A5, 1, none⟩ (.slice N2 2 n2)).setCell ⟨A5, 2, none⟩ (.int .i64 0)).setCell ⟨A5, 3, none⟩ (.slice N3 0 n3)).setCell ⟨A6, 0, none⟩ (.slice U1 2 v1)).setCell ⟨A6, 1, none⟩ (.slice U2 2 v2)).setCell ⟨A6, 2, none⟩ (.int .i64 0)).setCell ⟨A6, 3, none⟩ (.slice U3 0 v3))).heap[bx]? = some (.cells #[.slice A1 2 c1, .slice A2 2 c2, .int .i64 0, .slice A3 0 c3] 26 (0, 0))) := Lib.hid ((o6 bx (by omega)).trans ((o5 bx (by omega)).trans (box_on HBX hB9).out))
  have b9 : Below wC.heap.size wC ((((((((w9.setCell ⟨A5, 0, none⟩ (.slice N1 3 n1)).setCell ⟨A5, 1, none⟩ (.slice N2 2 n2)).setCell ⟨A5, 2, none⟩ (.int .i64 0)).setCell ⟨A5, 3, none⟩ (.slice N3 0 n3)).setCell ⟨A6, 0, none⟩ (.slice U1 2 v1)).setCell ⟨A6, 1, none⟩ (.slice U2 2 v2)).setCell ⟨A6, 2, none⟩ (.int .i64 0)).setCell ⟨A6, 3, none⟩ (.slice U3 0 v3)) := by (repeat' first | with_reducible (first | exact Below.refl _ _ | assumption | refine Below.alloc ?_ ?_ _ | refine below_drewN ?_ _ | refine Below.drew ?_ | refine Below.setCell ?_ ?_ _ | refine Below.trans ?_ (Below.mono (by with_reducible assumption) ?_)) | go_size)
  have HX9 := RFlat.on HX b9
  have b2 := b1.trans (b9.mono b1.size)
  clear o5 o6 R1 R4 b9 b1 HX HBX HF HBF hB9 r5 r6 p5 p6 d9_1_5 d9_1_6 d9_4_5 d9_4_6 d9_5_6
  go_upto_region 4 with fail
  generalize ((((((((w9.setCell ⟨A5, 0, none⟩ (.slice N1 3 n1)).setCell ⟨A5, 1, none⟩ (.slice N2 2 n2)).setCell ⟨A5, 2, none⟩ (.int .i64 0)).setCell ⟨A5, 3, none⟩ (.slice N3 0 n3)).setCell ⟨A6, 0, none⟩ (.slice U1 2 v1)).setCell ⟨A6, 1, none⟩ (.slice U2 2 v2)).setCell ⟨A6, 2, none⟩ (.int .i64 0)).setCell ⟨A6, 3, none⟩ (.slice U3 0 v3)) = wD at *
  clear kp5_0 kp5_1 kp5_2 kp5_3 kp6_0 kp6_1 kp6_2 kp6_3 fp5 fp6
  obtain ⟨_, _, _, e1, hx1, _, _⟩ := HX9.out
  injection e1 with e1
  simp only [Array.mk.injEq, List.cons.injEq] at e1
  obtain ⟨rfl, rfl, _, rfl, _⟩ := e1
  obtain ⟨_, _, _, e2, hx2, _, _⟩ := D1.out.here
  injection e2 with e2
  simp only [Array.mk.injEq, List.cons.injEq] at e2
  obtain ⟨rfl, rfl, _, rfl, _⟩ := e2
  obtain ⟨m1, o1, r1, hv1, _, _, _, _, q0, q1, q2, q3, q4, q5⟩ := RCode.at_ hx1 (k := 0) rfl
  obtain ⟨m2, o2, r2, hv2, _, _, _, _, s0, s1, s2, s3, s4, s5⟩ := RCode.at_ hx2 (k := 1) rfl
  injection hv1 with hA1 hz1 hc1
  injection hv2 with hA2 hz2 hc2
  subst hA1 hc1 hA2 hc2
  clear hz1 hz2
  simp at q0 q1 q2 q3 q4 q5 s5
  clear hx1 hx2 s0 s1 s2 s3 s4
  have cx : wD.cell? ⟨bx, 0, none⟩ = some (.slice (some ⟨m1, o1, none⟩) 2 c1) := box_cell HBX9 0 rfl
  have cn : wD.cell? ⟨A5, 0, none⟩ = some (.slice (some ⟨m2, o2, none⟩) 3 n1) := box_cell HB5 0 rfl
  have cu : wD.cell? ⟨A6, 0, none⟩ = some (.slice U1 2 v1) := box_cell HB6 0 rfl
  go_wp2_with fail
  go_ret
  exact ⟨rfl, b2⟩
end Go.Proofs.Ytljcgcllhcdleaa
/- From the form's reading of an argument to plain data: slices of whatever elements. -/
namespace Go.Proofs.Ytljcgcllhcdleaa
open Go.RowKit Go.ChangeShapes Go.WideShapes Go.Deep
section
variable {H : Type} {enc : TypeId × Value → H} {P : Program} {w : World} {base : Nat} {spare : Nat → Bool} {held : Bool}

theorem plain_add (b off j : Nat) : (⟨b, off, none⟩ : Addr).add j = ⟨b, off + j, none⟩ := by
  unfold Addr.add
  by_cases h : j = 0
  · subst h; rfl
  · rw [if_neg h]

theorem pick_list {α : Type} (R : Nat → α → Prop) : ∀ n, (∀ i, i < n → ∃ a, R i a) → ∃ l : List α, l.length = n ∧ ∀ i a, l[i]? = some a → R i a
  | 0, _ => ⟨[], rfl, fun i a h => by simp at h⟩
  | n + 1, h => by
    obtain ⟨l, hl, hr⟩ := pick_list R n (fun i hi => h i (by omega))
    obtain ⟨a, ha⟩ := h n (by omega)
    refine ⟨l ++ [a], by simp [hl], fun i b hb => ?_⟩
    by_cases hi : i < n
    · rw [List.getElem?_append_left (by omega)] at hb
      exact hr i b hb
    · have hlt : i < (l ++ [a]).length := by
        rcases Nat.lt_or_ge i (l ++ [a]).length with h1 | h1
        · exact h1
        · simp [List.getElem?_eq_none h1] at hb
      have : i = n := by simp [hl] at hlt; omega
      subst this
      rw [List.getElem?_append_right (by omega)] at hb
      simp [hl] at hb
      subst hb
      exact ha

theorem flatten_at {α : Type} {size : Nat} : ∀ (css : List (List α)), (∀ c ∈ css, c.length = size) → ∀ k j, j < size → css.flatten[k * size + j]? = (css[k]?).bind (fun c => c[j]?)
  | [], _, k, j, _ => by simp
  | c :: r, h, 0, j, hj => by
    have hc : c.length = size := h c (by simp)
    simp only [List.flatten_cons, Nat.zero_mul, Nat.zero_add]
    rw [List.getElem?_append_left (by omega)]
    simp
  | c :: r, h, k + 1, j, hj => by
    have hc : c.length = size := h c (by simp)
    have ih := flatten_at r (fun c' h' => h c' (by simp [h'])) k j hj
    simp only [List.flatten_cons]
    rw [List.getElem?_append_right (by rw [hc, Nat.succ_mul]; omega)]
    have : (k + 1) * size + j - c.length = k * size + j := by rw [hc, Nat.succ_mul]; omega
    rw [this, ih]
    simp

theorem flatten_len {α : Type} {size : Nat} : ∀ (css : List (List α)), (∀ c ∈ css, c.length = size) → css.flatten.length = css.length * size
  | [], _ => by simp
  | c :: r, h => by
    have hc : c.length = size := h c (by simp)
    have ih := flatten_len r (fun c' h' => h c' (by simp [h']))
    simp [List.flatten_cons, ih, hc, Nat.succ_mul]
    omega

theorem open_SL {α : Type} (R : List Value → α → Prop) {size : Nat} {t e : TypeId} {fuel : Nat} {cs : List Value} {x : DataW H × List MemPlace} (hs : 0 < size) (hC : P.cellsOf e = size)
    (hel : ∀ fuel cs x, DataW.trod enc P w base spare held fuel e cs = some x → ∃ a, R cs a) (ht : P.underlying t = some (.slice e)) (h : DataW.trod enc P w base spare held fuel t cs = some x) :
    ∃ (v : Value) (css : List (List Value)) (l : List α), cs = [v] ∧ SL w w.heap.size size v l.length (List.flatten css) ∧ css.length = l.length ∧ (∀ c ∈ css, c.length = size) ∧ ∀ (i : Nat) c a, css[i]? = some c → l[i]? = some a → R c a := by
  rcases open_slice ht h with ⟨rfl, _⟩ | ⟨a, len, cap, m, n, D, Pl, rfl, _, hl, hm, hmm, _, hi⟩
  · exact ⟨_, [], [], rfl, SL.nil_ _ _ _, rfl, (by simp), (by simp)⟩
  · have hle : len ≤ m := by rw [hmm]; split <;> omega
    obtain ⟨ps, hpl, hp⟩ := pick_list (fun i (p : List Value × α) => w.cells? base (a.add (i * size)) size = some p.1 ∧ R p.1 p.2) len (fun i hlt => by
      obtain ⟨cs', hc, htr⟩ := hi i (by omega)
      obtain ⟨b, hb⟩ := hel _ _ _ htr
      exact ⟨(cs', b), by rw [hC] at hc; exact hc, hb⟩)
    have hlen : ∀ c ∈ ps.map (·.1), c.length = size := by
      intro c hc
      obtain ⟨p, hpm, rfl⟩ := List.mem_map.1 hc
      obtain ⟨i, hilt, hie⟩ := List.getElem_of_mem hpm
      have := (hp i p (by rw [List.getElem?_eq_getElem hilt, hie])).1
      obtain ⟨_, hlc, _⟩ := World.cells?_some this
      exact hlc
    refine ⟨_, ps.map (·.1), ps.map (·.2), rfl, ?_, by simp, hlen, ?_⟩
    · refine ⟨by rw [flatten_len _ hlen]; simp, some a, cap, by simp [hpl], by simpa [hpl] using hl, hm, (fun h => by cases h), fun hn => ?_⟩
      have h0 : 0 < len := by simpa [hpl] using hn
      obtain ⟨b, off, spot⟩ := a
      have hcell : ∀ i j, i < len → j < size → w.cell? ((⟨b, off, spot⟩ : Addr).add (i * size + j)) = (ps.map (·.1)).flatten[i * size + j]? := by
        intro i j hil hj
        have hilt : i < ps.length := by omega
        have hpi := hp i (ps[i]) (List.getElem?_eq_getElem hilt)
        obtain ⟨_, _, hat⟩ := World.cells?_some hpi.1
        have := hat j hj
        rw [← Go.Deep.add_add] 
        rw [this, flatten_at _ hlen i j hj]
        simp [hilt]
      have hfl : (ps.map (·.1)).flatten.length = len * size := by rw [flatten_len _ hlen]; simp [hpl]
      have c0 := hcell 0 0 h0 hs
      have hpos : 0 < (ps.map (·.1)).flatten.length := by rw [hfl]; exact Nat.mul_pos h0 hs
      simp only [Nat.zero_mul, Nat.zero_add] at c0
      rw [List.getElem?_eq_getElem hpos] at c0
      have hspot : spot = none := by simpa [Addr.add] using World.cell?_spot c0
      subst hspot
      have hlt := World.block_lt_of_cell? w _ c0
      refine ⟨b, off, rfl, by simpa [Addr.add] using hlt, fun j u hu => ?_⟩
      have hjl : j < len * size := by
        rcases Nat.lt_or_ge j (len * size) with h1 | h1
        · exact h1
        · rw [List.getElem?_eq_none (by omega)] at hu; cases hu
      have hdm : j = j / size * size + j % size := by rw [Nat.mul_comm]; exact (Nat.div_add_mod j size).symm
      have h1 : j / size < len := Nat.div_lt_of_lt_mul (by rw [Nat.mul_comm]; exact hjl)
      have := hcell (j / size) (j % size) h1 (Nat.mod_lt _ hs)
      rw [← hdm, hu] at this
      rw [plain_add] at this
      exact this
    · intro i c b hc hb
      simp only [List.getElem?_map, Option.map_eq_some_iff] at hc hb
      obtain ⟨p, hpi, rfl⟩ := hc
      obtain ⟨q, hqi, rfl⟩ := hb
      rw [hpi] at hqi
      cases hqi
      exact (hp i p hpi).2
end
end Go.Proofs.Ytljcgcllhcdleaa
/- Two closed facts of the program. -/
namespace Go.Proofs.Ytljcgcllhcdleaa
open Go
theorem Try.own : ownKnob Try.prog.godebug = none := by kernel_rfl
theorem Try.laidOut : laidOutB Try.prog = true := by kernel_rfl
end Go.Proofs.Ytljcgcllhcdleaa
/- The types of this program, from the form's reading to plain data. -/
namespace Go.Proofs.Ytljcgcllhcdleaa
open Go.RowKit Go.ChangeShapes Go.WideShapes Go.Deep
def I64 (n : Int) : Prop := -9223372036854775808 ≤ n ∧ n ≤ 9223372036854775807
def WfI (i : Ev.Instr) : Prop := I64 i.op ∧ I64 i.d ∧ I64 i.a ∧ I64 i.b ∧ I64 i.c ∧ I64 i.imm
theorem Try.cells3 : Try.prog.cellsOf 3 = 1 := by kernel_rfl
theorem Try.cells5 : Try.prog.cellsOf 5 = 1 := by kernel_rfl
theorem Try.cells39 : Try.prog.cellsOf 39 = 6 := by kernel_rfl
theorem list6 {α : Type} {l : List α} (h : l.length = 6) : ∃ c0 c1 c2 c3 c4 c5, l = [c0, c1, c2, c3, c4, c5] := by
  match l, h with
  | [c0, c1, c2, c3, c4, c5], _ => exact ⟨_, _, _, _, _, _, rfl⟩
section
variable {H : Type} {enc : TypeId × Value → H} {P : Program} {w : World} {base : Nat} {spare : Nat → Bool} {held : Bool}

/-- a struct, field by field -/
theorem trod_fields {t : TypeId} {fs : Array Field} {fuel : Nat} {cs : List Value} {x : DataW H × List MemPlace} (ht : P.underlying t = some (.struct fs)) (h : DataW.trod enc P w base spare held fuel t cs = some x) :
    cs.length = P.cellsOf t ∧ ∃ n, ∀ (j : Nat) (u : TypeId) (o : Nat), (fs.toList.map fun f => (f.type, f.offset))[j]? = some (u, o) → ∃ y, DataW.trod enc P w base spare held n u ((cs.drop o).take (P.cellsOf u)) = some y := by
  obtain ⟨xs, n, _, _, hl, hxl, hf⟩ := DataW.trod_struct ht h
  refine ⟨hl, n, fun j u o hj => ?_⟩
  rw [List.getElem?_map, Option.map_eq_some_iff] at hj
  obtain ⟨f, hj, hfe⟩ := hj
  simp only [Prod.mk.injEq] at hfe
  obtain ⟨rfl, rfl⟩ := hfe
  have hj : fs[j]? = some f := by simpa using hj
  have hjl : j < fs.size := (Array.getElem?_eq_some_iff.1 hj).1
  exact ⟨xs[j], by rw [hf j f hj, List.getElem?_eq_getElem]⟩

theorem trod_i64 {t : TypeId} (ht : P.underlying t = some (.int .i64)) {fuel : Nat} {cs : List Value} {x : DataW H × List MemPlace} (h : DataW.trod enc P w base spare held fuel t cs = some x) : ∃ n, cs = [.int .i64 n] ∧ I64 n := by
  obtain ⟨n, rfl, _, hw⟩ := DataW.trod_int ht h
  exact ⟨n, rfl, bounds_i64 hw⟩
theorem trod_u8 {t : TypeId} (ht : P.underlying t = some (.int .u8)) {fuel : Nat} {cs : List Value} {x : DataW H × List MemPlace} (h : DataW.trod enc P w base spare held fuel t cs = some x) : ∃ n, cs = [.int .u8 n] ∧ 0 ≤ n ∧ n ≤ 255 := by
  obtain ⟨n, rfl, _, hw⟩ := DataW.trod_int ht h
  exact ⟨n, rfl, bounds_u8 hw⟩

theorem trod_instr {fuel : Nat} {cs : List Value} {x : DataW H × List MemPlace} (h : DataW.trod enc Try.prog w base spare held fuel 39 cs = some x) : ∃ i, cs = cellsI i ∧ WfI i := by
  obtain ⟨hl, n, hf⟩ := trod_fields Try.underlying39 h
  rw [Try.cells39] at hl
  obtain ⟨c0, c1, c2, c3, c4, c5, rfl⟩ := list6 hl
  obtain ⟨y0, h0⟩ := hf 0 3 0 rfl
  obtain ⟨y1, h1⟩ := hf 1 3 1 rfl
  obtain ⟨y2, h2⟩ := hf 2 3 2 rfl
  obtain ⟨y3, h3⟩ := hf 3 3 3 rfl
  obtain ⟨y4, h4⟩ := hf 4 3 4 rfl
  obtain ⟨y5, h5⟩ := hf 5 3 5 rfl
  rw [Try.cells3] at h0 h1 h2 h3 h4 h5
  obtain ⟨n0, e0, w0⟩ := trod_i64 Try.underlying3 h0
  obtain ⟨n1, e1, w1⟩ := trod_i64 Try.underlying3 h1
  obtain ⟨n2, e2, w2⟩ := trod_i64 Try.underlying3 h2
  obtain ⟨n3, e3, w3⟩ := trod_i64 Try.underlying3 h3
  obtain ⟨n4, e4, w4⟩ := trod_i64 Try.underlying3 h4
  obtain ⟨n5, e5, w5⟩ := trod_i64 Try.underlying3 h5
  simp at e0 e1 e2 e3 e4 e5
  subst e0 e1 e2 e3 e4 e5
  exact ⟨⟨n0, n1, n2, n3, n4, n5⟩, rfl, w0, w1, w2, w3, w4, w5⟩

/-- a slice whose elements are told by their cells -/
theorem open_cells {α : Type} (cells : α → List Value) (wf : α → Prop) {size : Nat} {t e : TypeId} {fuel : Nat} {cs : List Value} {x : DataW H × List MemPlace} (hs : 0 < size) (hC : P.cellsOf e = size)
    (hel : ∀ fuel cs x, DataW.trod enc P w base spare held fuel e cs = some x → ∃ a, cs = cells a ∧ wf a) (ht : P.underlying t = some (.slice e)) (h : DataW.trod enc P w base spare held fuel t cs = some x) :
    ∃ (v : Value) (l : List α), cs = [v] ∧ SL w w.heap.size size v l.length (l.flatMap cells) ∧ ∀ a ∈ l, wf a := by
  obtain ⟨v, css, l, rfl, hsl, hlen, _, hr⟩ := open_SL (fun cs a => cs = cells a ∧ wf a) hs hC hel ht h
  have e : css = l.map cells := by
    apply List.ext_getElem?
    intro i
    by_cases hi : i < l.length
    · have h1 := hr i css[i] l[i] (List.getElem?_eq_getElem (by omega)) (List.getElem?_eq_getElem hi)
      rw [List.getElem?_eq_getElem (by omega), List.getElem?_eq_getElem (by simpa using hi), h1.1]
      simp
    · rw [List.getElem?_eq_none (by omega), List.getElem?_eq_none (by simpa using hi)]
  refine ⟨v, l, rfl, by rw [e] at hsl; rw [List.flatMap_def]; exact hsl, fun a ha => ?_⟩
  obtain ⟨i, hi, rfl⟩ := List.getElem_of_mem ha
  exact (hr i css[i] l[i] (List.getElem?_eq_getElem (by omega)) (List.getElem?_eq_getElem hi)).2

theorem open_bytes {fuel : Nat} {cs : List Value} {x : DataW H × List MemPlace} (h : DataW.trod enc Try.prog w base spare held fuel 74 cs = some x) :
    ∃ v l, cs = [v] ∧ RBytes w w.heap.size v l ∧ ∀ n ∈ l, 0 ≤ n ∧ n ≤ 255 := by
  obtain ⟨v, l, rfl, hsl, hw⟩ := open_cells (fun n => [Value.int .u8 n]) (fun n => 0 ≤ n ∧ n ≤ 255) (by decide) Try.cells5 (fun _ _ _ h => trod_u8 Try.underlying5 h) Try.underlying74 h
  exact ⟨v, l, rfl, by unfold RBytes; rw [List.map_eq_flatMap]; exact hsl, hw⟩
end

/-- an argument of a struct's type is its cells -/
theorem arg_struct {P : Program} {w : World} {base : Nat} {r : Reach} {t : TypeId} {v : Value} {fs : Array Field} (ht : P.underlying t = some (.struct fs)) (hv : Value.okWide P w r base t v) {l : List Value} (h : v.cells.toList = l) : v = .agg l.toArray := by
  obtain ⟨cs, rfl, _⟩ := okWide_struct ht hv
  simp only [Value.cells] at h
  subst h
  simp
/-- an argument of a slice's type is its one cell -/
theorem arg_slice {P : Program} {w : World} {base : Nat} {r : Reach} {t e : TypeId} {v : Value} (ht : P.underlying t = some (.slice e)) (hv : Value.okWide P w r base t v) {u : Value} (h : v.cells.toList = [u]) : v = u := by
  obtain ⟨a, len, cap, rfl⟩ := okWide_slice ht hv
  simpa [Value.cells] using h
end Go.Proofs.Ytljcgcllhcdleaa
