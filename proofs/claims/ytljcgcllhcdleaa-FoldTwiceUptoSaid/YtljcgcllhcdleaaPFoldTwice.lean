import Derived.Test.YtljcgcllhcdleaaFo32
import Derived.Test.YtljcgcllhcdleaaFo14
import Derived.Deep.DeepCutAuto
/- evlaw9.FoldTwice. -/
namespace Go.Proofs.Ytljcgcllhcdleaa
open Go.RowKit
set_option linter.unusedSimpArgs false
set_option linter.unusedVariables false
/-- a value of the form of a flat program -/
def Hv.flatV (f : Ev.Flat) : Hv where
  R v _ := ∃ (A : Option Addr × Nat) (c : (Option Addr × Nat) × (Option Addr × Nat)), v = .agg #[.slice A.1 f.code.length A.2, .slice c.1.1 f.secret.length c.1.2, .int .i64 f.params, .slice c.2.1 f.arrays.length c.2.2]
  ok v := ∃ (A : Option Addr × Nat) (c : (Option Addr × Nat) × (Option Addr × Nat)), v = .agg #[.slice A.1 f.code.length A.2, .slice c.1.1 f.secret.length c.1.2, .int .i64 f.params, .slice c.2.1 f.arrays.length c.2.2]
  imp v w h := h
  dum := ⟨_, (none, 0), ((none, 0), (none, 0)), rfl⟩
  stay v w w' _ h := h
set_option maxRecDepth 16000 in
set_option maxHeartbeats 6400000 in
theorem foldTwice_walk (f : Ev.Flat) (vf : Value) (w : World) (hf : RFlat w w.heap.size vf f) (hbf : f.code.length + f.secret.length + f.arrays.length ≤ 1048576) :
    Calls Try.prog 8 #[vf] w fun e w' => e = .returned (.bool true) ∧ Below w.heap.size w w' := by
  have HF0 := Lib.hid hf
  obtain ⟨Ac, cc, As, cs, Av, cv, rfl⟩ := hf.slices
  have HBF := Lib.hid hbf
  clear hf hbf
  obtain ⟨er, ek, hck⟩ : ∃ er ek, Ev.check f = (er, ek) := ⟨_, _, rfl⟩
  have HRT := Lib.hid (show er = 0 → Ev.Right f from fun h0 => Ev.right_of_check (by rw [hck]; exact h0))
  have CC : Hid (∀ u : World, Below w.heap.size w u → Calls Try.prog 17 #[.agg #[.slice Ac f.code.length cc, .slice As f.secret.length cs, .int .i64 f.params, .slice Av f.arrays.length cv]] u fun e w' => e = .returned (.tuple #[.int .i64 er, .int .i64 ek]) ∧ Below u.heap.size u w') := by
    intro u hb
    have h := refCheck_any f _ u (RFlat.on HF0 hb).out
    rw [hck] at h
    exact h
  clear hck
  obtain ⟨x, hx⟩ : ∃ x, Ev.foldF f = x := ⟨_, rfl⟩
  have HX := Lib.hid hx
  have HXR := Lib.hid (show er = 0 → Ev.Right x from fun h0 => by rw [← hx]; exact Ev.fold_right (HRT.out h0))
  have CF : Hid (er = 0 → ∀ u : World, Below w.heap.size w u → Calls Try.prog 29 #[.agg #[.slice Ac f.code.length cc, .slice As f.secret.length cs, .int .i64 f.params, .slice Av f.arrays.length cv]] u fun e w' => ∃ Ap cp Aq cq Ar cr, e = .returned (.agg #[.slice Ap x.code.length cp, .slice Aq x.secret.length cq, .int .i64 x.params, .slice Ar x.arrays.length cr]) ∧ Hid (RFlat w' w'.heap.size (.agg #[.slice Ap x.code.length cp, .slice Aq x.secret.length cq, .int .i64 x.params, .slice Ar x.arrays.length cr]) x) ∧ Below u.heap.size u w') := by
    intro h0 u hb
    have h := fold_any f _ u (RFlat.on HF0 hb).out (HRT.out h0) (by have := HBF.out; omega) (by have := HBF.out; omega)
    rw [hx] at h
    refine h.mono ?_
    rintro e w' ⟨v, rfl, hR, _, hb⟩
    obtain ⟨Ap, cp, Aq, cq, Ar, cr, rfl⟩ := hR.slices
    exact ⟨Ap, cp, Aq, cq, Ar, cr, rfl, Lib.hid hR, hb⟩
  have HXS : Hid (x.secret = f.secret ∧ x.arrays = f.arrays) := Lib.hid (by rw [← hx]; exact ⟨rfl, rfl⟩)
  clear hx
  go_enter Try.func8, Try.ntmps8
  go_upto_region 1 with fail
  have bA : Below w.heap.size w (w.alloc (.cells #[.slice Ac f.code.length cc, .slice As f.secret.length cs, .int .i64 f.params, .slice Av f.arrays.length cv] 26)) := by (repeat' first | with_reducible (first | exact Below.refl _ _ | assumption | refine Below.alloc ?_ ?_ _ | refine below_drewN ?_ _ | refine Below.drew ?_ | refine Below.setCell ?_ ?_ _ | refine Below.trans ?_ (Below.mono (by with_reducible assumption) ?_)) | go_size)
  have HBF1 := box_new w (.cells #[.slice Ac f.code.length cc, .slice As f.secret.length cs, .int .i64 f.params, .slice Av f.arrays.length cv] 26)
  have HF := RFlat.on HF0 bA
  generalize w.alloc (.cells #[.slice Ac f.code.length cc, .slice As f.secret.length cs, .int .i64 f.params, .slice Av f.arrays.length cv] 26) = wA at *
  go_upto_region 3 with (go_at_call 26; refine (alive_fold _).mono ?_; rintro e w1 ⟨rfl, hb1⟩)
  have s1 := bA.size
  have b1 : Below w.heap.size w w1 := bA.trans (hb1.mono s1)
  replace HBF1 := box_on HBF1 hb1
  replace HF := RFlat.on HF hb1
  clear bA hb1 s1
  go_upto_region 4 with (first | (refine wpList_load_box rfl 26 _ rfl rfl (box_load Try.underlying26 (by kernel_rfl) rfl (by kernel_rfl) (box_on HBF1 (by (repeat' first | with_reducible (first | exact Below.refl _ _ | assumption | refine Below.alloc ?_ ?_ _ | refine below_drewN ?_ _ | refine Below.drew ?_ | refine Below.setCell ?_ ?_ _ | refine Below.trans ?_ (Below.mono (by with_reducible assumption) ?_)) | go_size)))) ?_) | (go_at_call 17; refine (CC.out _ b1).mono ?_; rintro e w2 ⟨rfl, hb2⟩))
  have s1 := b1.size
  have b2 : Below w.heap.size w w2 := b1.trans (hb2.mono s1)
  replace HBF1 := box_on HBF1 hb2
  replace HF := RFlat.on HF hb2
  clear b1 hb2 s1
  by_cases h0 : er = 0
  case neg =>
    have g0 : (er != 0) = true := bne_iff_ne.2 h0
    clear h0
    go_wp2_with fail
    go_ret
    exact ⟨rfl, b2⟩
  case pos =>
  subst h0
  have HR := Lib.hid (HRT.out rfl)
  have HXR1 := Lib.hid (HXR.out rfl)
  have CF1 := Lib.hid (CF.out rfl)
  clear HRT HXR CF
  go_upto_region 7 with (first | (refine wpList_load_box rfl 26 _ rfl rfl (box_load Try.underlying26 (by kernel_rfl) rfl (by kernel_rfl) (box_on HBF1 (by (repeat' first | with_reducible (first | exact Below.refl _ _ | assumption | refine Below.alloc ?_ ?_ _ | refine below_drewN ?_ _ | refine Below.drew ?_ | refine Below.setCell ?_ ?_ _ | refine Below.trans ?_ (Below.mono (by with_reducible assumption) ?_)) | go_size)))) ?_) | (go_at_call 29; refine (CF1.out _ b2).mono ?_; rintro e w3 ⟨Ap, cp, Aq, cq, Ar, cr, rfl, HX1, hb3⟩))
  have HBX := box_new w3 (.cells #[.slice Ap x.code.length cp, .slice Aq x.secret.length cq, .int .i64 x.params, .slice Ar x.arrays.length cr] 26)
  have bX : Below w3.heap.size w3 (w3.alloc (.cells #[.slice Ap x.code.length cp, .slice Aq x.secret.length cq, .int .i64 x.params, .slice Ar x.arrays.length cr] 26)) := (Below.refl _ _).alloc (Nat.le_refl _) _
  replace HX1 := RFlat.on HX1 bX
  have s2 := b2.size
  have s3 := hb3.size
  have b3 : Below w.heap.size w (w3.alloc (.cells #[.slice Ap x.code.length cp, .slice Aq x.secret.length cq, .int .i64 x.params, .slice Ar x.arrays.length cr] 26)) := (b2.trans (hb3.mono s2)).alloc (by omega) _
  generalize w3.alloc (.cells #[.slice Ap x.code.length cp, .slice Aq x.secret.length cq, .int .i64 x.params, .slice Ar x.arrays.length cr] 26) = w4 at *
  generalize w3.heap.size = bx at *
  clear b2 hb3 bX HBF1 HF
  have CX := Lib.hid (fun (u : World) (hb : Below w4.heap.size w4 u) => check_right x _ u (RFlat.on HX1 hb).out HXR1.out)
  go_upto_region 10 with (first | (refine wpList_load_box rfl 26 _ rfl rfl (box_load Try.underlying26 (by kernel_rfl) rfl (by kernel_rfl) HBX) ?_) | (go_at_call 17; refine (CX.out _ (Below.refl _ _)).mono ?_; rintro e w5 ⟨rfl, hb5⟩))
  replace HX1 := RFlat.on HX1 hb5
  replace HBX := box_on HBX hb5
  have s4 := b3.size
  have b5 : Below w.heap.size w w5 := b3.trans (hb5.mono s4)
  clear hb5 b3 CX
  have gL : decide ((Ev.foldF x).code.length ≤ x.code.length) = true := decide_eq_true (Ev.fold_short x)
  have HU : Hid ((Ev.usedF x).code.length = x.code.length) := Lib.hid (by rw [← HX.out]; exact (Ev.fold_twice HR.out).2)
  have CF2 : Hid (∀ u : World, Below w5.heap.size w5 u → Calls Try.prog 29 #[.agg #[.slice Ap x.code.length cp, .slice Aq x.secret.length cq, .int .i64 x.params, .slice Ar x.arrays.length cr]] u fun e w' => ∃ Ap cp Aq cq Ar cr, e = .returned (.agg #[.slice Ap (Ev.foldF x).code.length cp, .slice Aq (Ev.foldF x).secret.length cq, .int .i64 (Ev.foldF x).params, .slice Ar (Ev.foldF x).arrays.length cr]) ∧ Below u.heap.size u w') := Lib.hid (fun u hb => by
    refine (fold_any x _ u (RFlat.on HX1 hb).out HXR1.out (by rw [HXS.out.1]; have := HBF.out; omega) (by rw [HXS.out.2]; have := HBF.out; omega)).mono ?_
    rintro e w' ⟨v, rfl, hR, _, hb⟩
    obtain ⟨Ap, cp, Aq, cq, Ar, cr, rfl⟩ := hR.slices
    exact ⟨Ap, cp, Aq, cq, Ar, cr, rfl, hb⟩)
  have CU2 : Hid (∀ u : World, Below w5.heap.size w5 u → Calls Try.prog 28 #[.agg #[.slice Ap x.code.length cp, .slice Aq x.secret.length cq, .int .i64 x.params, .slice Ar x.arrays.length cr]] u fun e w' => ∃ Ap cp Aq cq Ar cr, e = .returned (.agg #[.slice Ap (Ev.usedF x).code.length cp, .slice Aq (Ev.usedF x).secret.length cq, .int .i64 (Ev.usedF x).params, .slice Ar (Ev.usedF x).arrays.length cr]) ∧ Below u.heap.size u w') := Lib.hid (fun u hb => by
    refine (usedF_any x _ u (RFlat.on HX1 hb).out HXR1.out (by rw [HXS.out.1]; have := HBF.out; omega) (by rw [HXS.out.2]; have := HBF.out; omega)).mono ?_
    rintro e w' ⟨v, rfl, hR, _, hb⟩
    obtain ⟨Ap, cp, Aq, cq, Ar, cr, rfl⟩ := hR.slices
    exact ⟨Ap, cp, Aq, cq, Ar, cr, rfl, hb⟩)
  have gU : (((Ev.usedF x).code.length : Int) == (x.code.length : Int)) = true := by rw [HU.out]; exact beq_self_eq_true _
  clear HX HX1 HR HXR1 HXS HF0 CC CF1 HBF
  refine wp_region_flock (fun k => match k with | 0 => some (Hv.is (.agg #[.slice Ap x.code.length cp, .slice Aq x.secret.length cq, .int .i64 x.params, .slice Ar x.arrays.length cr])) | 1 => some (Hv.flatV (Ev.foldF x)) | 9 => some (Hv.is (.agg #[.slice Ap x.code.length cp, .slice Aq x.secret.length cq, .int .i64 x.params, .slice Ar x.arrays.length cr])) | 10 => some (Hv.flatV (Ev.usedF x)) | _ => none) (by kernel_rfl) (by kernel_rfl) ?_
  refine flock_heavy _ rfl ?_ ?_
  · intro w9 hb9 hh9
    have hB9 : Below w5.heap.size w5 w9 := (by (repeat' first | with_reducible (first | exact Below.refl _ _ | assumption | refine Below.alloc ?_ ?_ _ | refine below_drewN ?_ _ | refine Below.drew ?_ | refine Below.setCell ?_ ?_ _ | refine Below.trans ?_ (Below.mono (by with_reducible assumption) ?_)) | go_size))
    obtain ⟨kc9, kf9, s9⟩ := bfacts hb9
    obtain ⟨kd9, kg9, _⟩ := bfacts hB9
    have x0 : w9.cell? ⟨bx, 0, none⟩ = some (.slice Ap x.code.length cp) := box_cell (box_on HBX hB9) 0 rfl
    (refine wpList_load_box rfl 26 _ rfl rfl (box_load Try.underlying26 (by kernel_rfl) rfl (by kernel_rfl) (box_on HBX hB9)) ?_)
    refine grewTo_at (by rfl) (by (repeat' first | with_reducible (first | exact Below.refl _ _ | assumption | refine Below.alloc ?_ ?_ _ | refine below_drewN ?_ _ | refine Below.drew ?_ | refine Below.setCell ?_ ?_ _ | refine Below.trans ?_ (Below.mono (by with_reducible assumption) ?_)) | go_size)) ?_
    exact rfl
  intro x0 ok0
  (try simp only [Act.put, List.setIfInBounds_toArray, List.set_cons_zero, List.set_cons_succ])
  (try dsimp only [Hv.own, Hv.is, Hv.lit, Hv.box, Hv.sl, Hv.flatV] at ok0)
  first | subst ok0 | (obtain ⟨A0, c0, ok0⟩ := ok0; subst ok0) | (obtain ⟨A0, ok0⟩ := ok0; subst ok0) | skip
  refine flock_heavy _ rfl ?_ ?_
  · intro w9 hb9 hh9
    have hB9 : Below w5.heap.size w5 w9 := (by (repeat' first | with_reducible (first | exact Below.refl _ _ | assumption | refine Below.alloc ?_ ?_ _ | refine below_drewN ?_ _ | refine Below.drew ?_ | refine Below.setCell ?_ ?_ _ | refine Below.trans ?_ (Below.mono (by with_reducible assumption) ?_)) | go_size))
    obtain ⟨kc9, kf9, s9⟩ := bfacts hb9
    obtain ⟨kd9, kg9, _⟩ := bfacts hB9
    have r0 := hh9 _ (.head _) (by kernel_rfl); dsimp only [Hv.own, Hv.is, Hv.lit, Hv.box, Hv.sl, Hv.flatV] at r0; (first | replace r0 := lit_heap r0 | replace r0 := box_heap r0 | skip); have x0 : w9.cell? ⟨bx, 0, none⟩ = some (.slice Ap x.code.length cp) := box_cell (box_on HBX hB9) 0 rfl
    go_wp2_with (go_at_call 29; refine (CF2.out _ hB9).mono ?_; rintro e w6 ⟨B1, d1, B2, d2, B3, d3, rfl, hb6⟩)
    refine grewTo_at (by rfl) (by (repeat' first | with_reducible (first | exact Below.refl _ _ | assumption | refine Below.alloc ?_ ?_ _ | refine below_drewN ?_ _ | refine Below.drew ?_ | refine Below.setCell ?_ ?_ _ | refine Below.trans ?_ (Below.mono (by with_reducible assumption) ?_)) | go_size)) ?_
    exact ⟨(B1, d1), ((B2, d2), (B3, d3)), rfl⟩
  intro x1 ok1
  (try simp only [Act.put, List.setIfInBounds_toArray, List.set_cons_zero, List.set_cons_succ])
  (try dsimp only [Hv.own, Hv.is, Hv.lit, Hv.box, Hv.sl, Hv.flatV] at ok1)
  first | subst ok1 | (obtain ⟨A1, c1, ok1⟩ := ok1; subst ok1) | (obtain ⟨A1, ok1⟩ := ok1; subst ok1) | skip
  apply flock_light rfl
  case h => first | exact light_no (by rfl) | ((first | apply light_plain rfl | apply light_yes (by rfl)); intro w9 hw9; obtain ⟨hb9, hh9⟩ := hw9; have hB9 : Below w5.heap.size w5 w9 := (by (repeat' first | with_reducible (first | exact Below.refl _ _ | assumption | refine Below.alloc ?_ ?_ _ | refine below_drewN ?_ _ | refine Below.drew ?_ | refine Below.setCell ?_ ?_ _ | refine Below.trans ?_ (Below.mono (by with_reducible assumption) ?_)) | go_size)); obtain ⟨kc9, kf9, s9⟩ := bfacts hb9; obtain ⟨kd9, kg9, _⟩ := bfacts hB9; have r1 := hh9 _ (.head _) (by kernel_rfl); dsimp only [Hv.own, Hv.is, Hv.lit, Hv.box, Hv.sl, Hv.flatV] at r1; (first | replace r1 := lit_heap r1 | replace r1 := box_heap r1 | skip); have r0 := hh9 _ (.tail _ (.head _)) (by kernel_rfl); dsimp only [Hv.own, Hv.is, Hv.lit, Hv.box, Hv.sl, Hv.flatV] at r0; (first | replace r0 := lit_heap r0 | replace r0 := box_heap r0 | skip); have x0 : w9.cell? ⟨bx, 0, none⟩ = some (.slice Ap x.code.length cp) := box_cell (box_on HBX hB9) 0 rfl; go_simp; try rfl)
  (try simp only [Act.put, List.setIfInBounds_toArray, List.set_cons_zero, List.set_cons_succ])
  apply flock_light rfl
  case h => first | exact light_no (by rfl) | ((first | apply light_plain rfl | apply light_yes (by rfl)); intro w9 hw9; obtain ⟨hb9, hh9⟩ := hw9; have hB9 : Below w5.heap.size w5 w9 := (by (repeat' first | with_reducible (first | exact Below.refl _ _ | assumption | refine Below.alloc ?_ ?_ _ | refine below_drewN ?_ _ | refine Below.drew ?_ | refine Below.setCell ?_ ?_ _ | refine Below.trans ?_ (Below.mono (by with_reducible assumption) ?_)) | go_size)); obtain ⟨kc9, kf9, s9⟩ := bfacts hb9; obtain ⟨kd9, kg9, _⟩ := bfacts hB9; have r1 := hh9 _ (.head _) (by kernel_rfl); dsimp only [Hv.own, Hv.is, Hv.lit, Hv.box, Hv.sl, Hv.flatV] at r1; (first | replace r1 := lit_heap r1 | replace r1 := box_heap r1 | skip); have r0 := hh9 _ (.tail _ (.head _)) (by kernel_rfl); dsimp only [Hv.own, Hv.is, Hv.lit, Hv.box, Hv.sl, Hv.flatV] at r0; (first | replace r0 := lit_heap r0 | replace r0 := box_heap r0 | skip); have x0 : w9.cell? ⟨bx, 0, none⟩ = some (.slice Ap x.code.length cp) := box_cell (box_on HBX hB9) 0 rfl; go_simp; try rfl)
  (try simp only [Act.put, List.setIfInBounds_toArray, List.set_cons_zero, List.set_cons_succ])
  apply flock_light rfl
  case h => first | exact light_no (by rfl) | ((first | apply light_plain rfl | apply light_yes (by rfl)); intro w9 hw9; obtain ⟨hb9, hh9⟩ := hw9; skip; go_simp; try rfl)
  (try simp only [Act.put, List.setIfInBounds_toArray, List.set_cons_zero, List.set_cons_succ])
  apply flock_light rfl
  case h => first | exact light_no (by rfl) | ((first | apply light_plain rfl | apply light_yes (by rfl)); intro w9 hw9; obtain ⟨hb9, hh9⟩ := hw9; have hB9 : Below w5.heap.size w5 w9 := (by (repeat' first | with_reducible (first | exact Below.refl _ _ | assumption | refine Below.alloc ?_ ?_ _ | refine below_drewN ?_ _ | refine Below.drew ?_ | refine Below.setCell ?_ ?_ _ | refine Below.trans ?_ (Below.mono (by with_reducible assumption) ?_)) | go_size)); obtain ⟨kc9, kf9, s9⟩ := bfacts hb9; obtain ⟨kd9, kg9, _⟩ := bfacts hB9; have x0 : w9.cell? ⟨bx, 0, none⟩ = some (.slice Ap x.code.length cp) := box_cell (box_on HBX hB9) 0 rfl; go_simp; try rfl)
  (try simp only [Act.put, List.setIfInBounds_toArray, List.set_cons_zero, List.set_cons_succ])
  apply flock_light rfl
  case h => first | exact light_no (by rfl) | ((first | apply light_plain rfl | apply light_yes (by rfl)); intro w9 hw9; obtain ⟨hb9, hh9⟩ := hw9; have hB9 : Below w5.heap.size w5 w9 := (by (repeat' first | with_reducible (first | exact Below.refl _ _ | assumption | refine Below.alloc ?_ ?_ _ | refine below_drewN ?_ _ | refine Below.drew ?_ | refine Below.setCell ?_ ?_ _ | refine Below.trans ?_ (Below.mono (by with_reducible assumption) ?_)) | go_size)); obtain ⟨kc9, kf9, s9⟩ := bfacts hb9; obtain ⟨kd9, kg9, _⟩ := bfacts hB9; have x0 : w9.cell? ⟨bx, 0, none⟩ = some (.slice Ap x.code.length cp) := box_cell (box_on HBX hB9) 0 rfl; go_simp; try rfl)
  (try simp only [Act.put, List.setIfInBounds_toArray, List.set_cons_zero, List.set_cons_succ])
  apply flock_light rfl
  case h => first | exact light_no (by rfl) | ((first | apply light_plain rfl | apply light_yes (by rfl)); intro w9 hw9; obtain ⟨hb9, hh9⟩ := hw9; have hB9 : Below w5.heap.size w5 w9 := (by (repeat' first | with_reducible (first | exact Below.refl _ _ | assumption | refine Below.alloc ?_ ?_ _ | refine below_drewN ?_ _ | refine Below.drew ?_ | refine Below.setCell ?_ ?_ _ | refine Below.trans ?_ (Below.mono (by with_reducible assumption) ?_)) | go_size)); obtain ⟨kc9, kf9, s9⟩ := bfacts hb9; obtain ⟨kd9, kg9, _⟩ := bfacts hB9; have r1 := hh9 _ (.head _) (by kernel_rfl); dsimp only [Hv.own, Hv.is, Hv.lit, Hv.box, Hv.sl, Hv.flatV] at r1; (first | replace r1 := lit_heap r1 | replace r1 := box_heap r1 | skip); have r0 := hh9 _ (.tail _ (.head _)) (by kernel_rfl); dsimp only [Hv.own, Hv.is, Hv.lit, Hv.box, Hv.sl, Hv.flatV] at r0; (first | replace r0 := lit_heap r0 | replace r0 := box_heap r0 | skip); have x0 : w9.cell? ⟨bx, 0, none⟩ = some (.slice Ap x.code.length cp) := box_cell (box_on HBX hB9) 0 rfl; go_simp; try rfl)
  (try simp only [Act.put, List.setIfInBounds_toArray, List.set_cons_zero, List.set_cons_succ])
  apply flock_light rfl
  case h => first | exact light_no (by rfl) | ((first | apply light_plain rfl | apply light_yes (by rfl)); intro w9 hw9; obtain ⟨hb9, hh9⟩ := hw9; have hB9 : Below w5.heap.size w5 w9 := (by (repeat' first | with_reducible (first | exact Below.refl _ _ | assumption | refine Below.alloc ?_ ?_ _ | refine below_drewN ?_ _ | refine Below.drew ?_ | refine Below.setCell ?_ ?_ _ | refine Below.trans ?_ (Below.mono (by with_reducible assumption) ?_)) | go_size)); obtain ⟨kc9, kf9, s9⟩ := bfacts hb9; obtain ⟨kd9, kg9, _⟩ := bfacts hB9; have r1 := hh9 _ (.head _) (by kernel_rfl); dsimp only [Hv.own, Hv.is, Hv.lit, Hv.box, Hv.sl, Hv.flatV] at r1; (first | replace r1 := lit_heap r1 | replace r1 := box_heap r1 | skip); have r0 := hh9 _ (.tail _ (.head _)) (by kernel_rfl); dsimp only [Hv.own, Hv.is, Hv.lit, Hv.box, Hv.sl, Hv.flatV] at r0; (first | replace r0 := lit_heap r0 | replace r0 := box_heap r0 | skip); have x0 : w9.cell? ⟨bx, 0, none⟩ = some (.slice Ap x.code.length cp) := box_cell (box_on HBX hB9) 0 rfl; go_simp; try rfl)
  (try simp only [Act.put, List.setIfInBounds_toArray, List.set_cons_zero, List.set_cons_succ])
  refine flock_heavy _ rfl ?_ ?_
  · intro w9 hb9 hh9
    have hB9 : Below w5.heap.size w5 w9 := (by (repeat' first | with_reducible (first | exact Below.refl _ _ | assumption | refine Below.alloc ?_ ?_ _ | refine below_drewN ?_ _ | refine Below.drew ?_ | refine Below.setCell ?_ ?_ _ | refine Below.trans ?_ (Below.mono (by with_reducible assumption) ?_)) | go_size))
    obtain ⟨kc9, kf9, s9⟩ := bfacts hb9
    obtain ⟨kd9, kg9, _⟩ := bfacts hB9
    have r1 := hh9 _ (.head _) (by kernel_rfl); dsimp only [Hv.own, Hv.is, Hv.lit, Hv.box, Hv.sl, Hv.flatV] at r1; (first | replace r1 := lit_heap r1 | replace r1 := box_heap r1 | skip); have r0 := hh9 _ (.tail _ (.head _)) (by kernel_rfl); dsimp only [Hv.own, Hv.is, Hv.lit, Hv.box, Hv.sl, Hv.flatV] at r0; (first | replace r0 := lit_heap r0 | replace r0 := box_heap r0 | skip); have x0 : w9.cell? ⟨bx, 0, none⟩ = some (.slice Ap x.code.length cp) := box_cell (box_on HBX hB9) 0 rfl
    (refine wpList_load_boxg (by rfl) 26 _ rfl rfl (box_load Try.underlying26 (by kernel_rfl) rfl (by kernel_rfl) (box_on HBX hB9)) ?_)
    refine grewTo_at (by rfl) (by (repeat' first | with_reducible (first | exact Below.refl _ _ | assumption | refine Below.alloc ?_ ?_ _ | refine below_drewN ?_ _ | refine Below.drew ?_ | refine Below.setCell ?_ ?_ _ | refine Below.trans ?_ (Below.mono (by with_reducible assumption) ?_)) | go_size)) ?_
    exact rfl
  intro x9 ok9
  (try simp only [Act.put, List.setIfInBounds_toArray, List.set_cons_zero, List.set_cons_succ])
  (try dsimp only [Hv.own, Hv.is, Hv.lit, Hv.box, Hv.sl, Hv.flatV] at ok9)
  first | subst ok9 | (obtain ⟨A9, c9, ok9⟩ := ok9; subst ok9) | (obtain ⟨A9, ok9⟩ := ok9; subst ok9) | skip
  refine flock_heavy _ rfl ?_ ?_
  · intro w9 hb9 hh9
    have hB9 : Below w5.heap.size w5 w9 := (by (repeat' first | with_reducible (first | exact Below.refl _ _ | assumption | refine Below.alloc ?_ ?_ _ | refine below_drewN ?_ _ | refine Below.drew ?_ | refine Below.setCell ?_ ?_ _ | refine Below.trans ?_ (Below.mono (by with_reducible assumption) ?_)) | go_size))
    obtain ⟨kc9, kf9, s9⟩ := bfacts hb9
    obtain ⟨kd9, kg9, _⟩ := bfacts hB9
    have r9 := hh9 _ (.head _) (by kernel_rfl); dsimp only [Hv.own, Hv.is, Hv.lit, Hv.box, Hv.sl, Hv.flatV] at r9; (first | replace r9 := lit_heap r9 | replace r9 := box_heap r9 | skip); have r1 := hh9 _ (.tail _ (.head _)) (by kernel_rfl); dsimp only [Hv.own, Hv.is, Hv.lit, Hv.box, Hv.sl, Hv.flatV] at r1; (first | replace r1 := lit_heap r1 | replace r1 := box_heap r1 | skip); have r0 := hh9 _ (.tail _ (.tail _ (.head _))) (by kernel_rfl); dsimp only [Hv.own, Hv.is, Hv.lit, Hv.box, Hv.sl, Hv.flatV] at r0; (first | replace r0 := lit_heap r0 | replace r0 := box_heap r0 | skip); have x0 : w9.cell? ⟨bx, 0, none⟩ = some (.slice Ap x.code.length cp) := box_cell (box_on HBX hB9) 0 rfl
    go_wp2_with (go_at_call 28; refine (CU2.out _ hB9).mono ?_; rintro e w6 ⟨B1, d1, B2, d2, B3, d3, rfl, hb6⟩)
    refine grewTo_at (by rfl) (by (repeat' first | with_reducible (first | exact Below.refl _ _ | assumption | refine Below.alloc ?_ ?_ _ | refine below_drewN ?_ _ | refine Below.drew ?_ | refine Below.setCell ?_ ?_ _ | refine Below.trans ?_ (Below.mono (by with_reducible assumption) ?_)) | go_size)) ?_
    exact ⟨(B1, d1), ((B2, d2), (B3, d3)), rfl⟩
  intro x10 ok10
  (try simp only [Act.put, List.setIfInBounds_toArray, List.set_cons_zero, List.set_cons_succ])
  (try dsimp only [Hv.own, Hv.is, Hv.lit, Hv.box, Hv.sl, Hv.flatV] at ok10)
  first | subst ok10 | (obtain ⟨A10, c10, ok10⟩ := ok10; subst ok10) | (obtain ⟨A10, ok10⟩ := ok10; subst ok10) | skip
  apply flock_light rfl
  case h => first | exact light_no (by rfl) | ((first | apply light_plain rfl | apply light_yes (by rfl)); intro w9 hw9; obtain ⟨hb9, hh9⟩ := hw9; have hB9 : Below w5.heap.size w5 w9 := (by (repeat' first | with_reducible (first | exact Below.refl _ _ | assumption | refine Below.alloc ?_ ?_ _ | refine below_drewN ?_ _ | refine Below.drew ?_ | refine Below.setCell ?_ ?_ _ | refine Below.trans ?_ (Below.mono (by with_reducible assumption) ?_)) | go_size)); obtain ⟨kc9, kf9, s9⟩ := bfacts hb9; obtain ⟨kd9, kg9, _⟩ := bfacts hB9; have r10 := hh9 _ (.head _) (by kernel_rfl); dsimp only [Hv.own, Hv.is, Hv.lit, Hv.box, Hv.sl, Hv.flatV] at r10; (first | replace r10 := lit_heap r10 | replace r10 := box_heap r10 | skip); have r9 := hh9 _ (.tail _ (.head _)) (by kernel_rfl); dsimp only [Hv.own, Hv.is, Hv.lit, Hv.box, Hv.sl, Hv.flatV] at r9; (first | replace r9 := lit_heap r9 | replace r9 := box_heap r9 | skip); have r1 := hh9 _ (.tail _ (.tail _ (.head _))) (by kernel_rfl); dsimp only [Hv.own, Hv.is, Hv.lit, Hv.box, Hv.sl, Hv.flatV] at r1; (first | replace r1 := lit_heap r1 | replace r1 := box_heap r1 | skip); have r0 := hh9 _ (.tail _ (.tail _ (.tail _ (.head _)))) (by kernel_rfl); dsimp only [Hv.own, Hv.is, Hv.lit, Hv.box, Hv.sl, Hv.flatV] at r0; (first | replace r0 := lit_heap r0 | replace r0 := box_heap r0 | skip); have x0 : w9.cell? ⟨bx, 0, none⟩ = some (.slice Ap x.code.length cp) := box_cell (box_on HBX hB9) 0 rfl; go_simp; try rfl)
  (try simp only [Act.put, List.setIfInBounds_toArray, List.set_cons_zero, List.set_cons_succ])
  apply flock_light rfl
  case h => first | exact light_no (by rfl) | ((first | apply light_plain rfl | apply light_yes (by rfl)); intro w9 hw9; obtain ⟨hb9, hh9⟩ := hw9; have hB9 : Below w5.heap.size w5 w9 := (by (repeat' first | with_reducible (first | exact Below.refl _ _ | assumption | refine Below.alloc ?_ ?_ _ | refine below_drewN ?_ _ | refine Below.drew ?_ | refine Below.setCell ?_ ?_ _ | refine Below.trans ?_ (Below.mono (by with_reducible assumption) ?_)) | go_size)); obtain ⟨kc9, kf9, s9⟩ := bfacts hb9; obtain ⟨kd9, kg9, _⟩ := bfacts hB9; have r10 := hh9 _ (.head _) (by kernel_rfl); dsimp only [Hv.own, Hv.is, Hv.lit, Hv.box, Hv.sl, Hv.flatV] at r10; (first | replace r10 := lit_heap r10 | replace r10 := box_heap r10 | skip); have r9 := hh9 _ (.tail _ (.head _)) (by kernel_rfl); dsimp only [Hv.own, Hv.is, Hv.lit, Hv.box, Hv.sl, Hv.flatV] at r9; (first | replace r9 := lit_heap r9 | replace r9 := box_heap r9 | skip); have r1 := hh9 _ (.tail _ (.tail _ (.head _))) (by kernel_rfl); dsimp only [Hv.own, Hv.is, Hv.lit, Hv.box, Hv.sl, Hv.flatV] at r1; (first | replace r1 := lit_heap r1 | replace r1 := box_heap r1 | skip); have r0 := hh9 _ (.tail _ (.tail _ (.tail _ (.head _)))) (by kernel_rfl); dsimp only [Hv.own, Hv.is, Hv.lit, Hv.box, Hv.sl, Hv.flatV] at r0; (first | replace r0 := lit_heap r0 | replace r0 := box_heap r0 | skip); have x0 : w9.cell? ⟨bx, 0, none⟩ = some (.slice Ap x.code.length cp) := box_cell (box_on HBX hB9) 0 rfl; go_simp; try rfl)
  (try simp only [Act.put, List.setIfInBounds_toArray, List.set_cons_zero, List.set_cons_succ])
  apply flock_light rfl
  case h => first | exact light_no (by rfl) | ((first | apply light_plain rfl | apply light_yes (by rfl)); intro w9 hw9; obtain ⟨hb9, hh9⟩ := hw9; have hB9 : Below w5.heap.size w5 w9 := (by (repeat' first | with_reducible (first | exact Below.refl _ _ | assumption | refine Below.alloc ?_ ?_ _ | refine below_drewN ?_ _ | refine Below.drew ?_ | refine Below.setCell ?_ ?_ _ | refine Below.trans ?_ (Below.mono (by with_reducible assumption) ?_)) | go_size)); obtain ⟨kc9, kf9, s9⟩ := bfacts hb9; obtain ⟨kd9, kg9, _⟩ := bfacts hB9; have r1 := hh9 _ (.tail _ (.tail _ (.head _))) (by kernel_rfl); dsimp only [Hv.own, Hv.is, Hv.lit, Hv.box, Hv.sl, Hv.flatV] at r1; (first | replace r1 := lit_heap r1 | replace r1 := box_heap r1 | skip); have r0 := hh9 _ (.tail _ (.tail _ (.tail _ (.head _)))) (by kernel_rfl); dsimp only [Hv.own, Hv.is, Hv.lit, Hv.box, Hv.sl, Hv.flatV] at r0; (first | replace r0 := lit_heap r0 | replace r0 := box_heap r0 | skip); have x0 : w9.cell? ⟨bx, 0, none⟩ = some (.slice Ap x.code.length cp) := box_cell (box_on HBX hB9) 0 rfl; go_simp; try rfl)
  (try simp only [Act.put, List.setIfInBounds_toArray, List.set_cons_zero, List.set_cons_succ])
  apply flock_light rfl
  case h => first | exact light_no (by rfl) | ((first | apply light_plain rfl | apply light_yes (by rfl)); intro w9 hw9; obtain ⟨hb9, hh9⟩ := hw9; have hB9 : Below w5.heap.size w5 w9 := (by (repeat' first | with_reducible (first | exact Below.refl _ _ | assumption | refine Below.alloc ?_ ?_ _ | refine below_drewN ?_ _ | refine Below.drew ?_ | refine Below.setCell ?_ ?_ _ | refine Below.trans ?_ (Below.mono (by with_reducible assumption) ?_)) | go_size)); obtain ⟨kc9, kf9, s9⟩ := bfacts hb9; obtain ⟨kd9, kg9, _⟩ := bfacts hB9; have r1 := hh9 _ (.tail _ (.tail _ (.head _))) (by kernel_rfl); dsimp only [Hv.own, Hv.is, Hv.lit, Hv.box, Hv.sl, Hv.flatV] at r1; (first | replace r1 := lit_heap r1 | replace r1 := box_heap r1 | skip); have r0 := hh9 _ (.tail _ (.tail _ (.tail _ (.head _)))) (by kernel_rfl); dsimp only [Hv.own, Hv.is, Hv.lit, Hv.box, Hv.sl, Hv.flatV] at r0; (first | replace r0 := lit_heap r0 | replace r0 := box_heap r0 | skip); have x0 : w9.cell? ⟨bx, 0, none⟩ = some (.slice Ap x.code.length cp) := box_cell (box_on HBX hB9) 0 rfl; go_simp; try rfl)
  (try simp only [Act.put, List.setIfInBounds_toArray, List.set_cons_zero, List.set_cons_succ])
  apply flock_light rfl
  case h => first | exact light_no (by rfl) | ((first | apply light_plain rfl | apply light_yes (by rfl)); intro w9 hw9; obtain ⟨hb9, hh9⟩ := hw9; have hB9 : Below w5.heap.size w5 w9 := (by (repeat' first | with_reducible (first | exact Below.refl _ _ | assumption | refine Below.alloc ?_ ?_ _ | refine below_drewN ?_ _ | refine Below.drew ?_ | refine Below.setCell ?_ ?_ _ | refine Below.trans ?_ (Below.mono (by with_reducible assumption) ?_)) | go_size)); obtain ⟨kc9, kf9, s9⟩ := bfacts hb9; obtain ⟨kd9, kg9, _⟩ := bfacts hB9; have r1 := hh9 _ (.tail _ (.tail _ (.head _))) (by kernel_rfl); dsimp only [Hv.own, Hv.is, Hv.lit, Hv.box, Hv.sl, Hv.flatV] at r1; (first | replace r1 := lit_heap r1 | replace r1 := box_heap r1 | skip); have r0 := hh9 _ (.tail _ (.tail _ (.tail _ (.head _)))) (by kernel_rfl); dsimp only [Hv.own, Hv.is, Hv.lit, Hv.box, Hv.sl, Hv.flatV] at r0; (first | replace r0 := lit_heap r0 | replace r0 := box_heap r0 | skip); have x0 : w9.cell? ⟨bx, 0, none⟩ = some (.slice Ap x.code.length cp) := box_cell (box_on HBX hB9) 0 rfl; go_simp; try rfl)
  (try simp only [Act.put, List.setIfInBounds_toArray, List.set_cons_zero, List.set_cons_succ])
  apply flock_light rfl
  case h => first | exact light_no (by rfl) | ((first | apply light_plain rfl | apply light_yes (by rfl)); intro w9 hw9; obtain ⟨hb9, hh9⟩ := hw9; have hB9 : Below w5.heap.size w5 w9 := (by (repeat' first | with_reducible (first | exact Below.refl _ _ | assumption | refine Below.alloc ?_ ?_ _ | refine below_drewN ?_ _ | refine Below.drew ?_ | refine Below.setCell ?_ ?_ _ | refine Below.trans ?_ (Below.mono (by with_reducible assumption) ?_)) | go_size)); obtain ⟨kc9, kf9, s9⟩ := bfacts hb9; obtain ⟨kd9, kg9, _⟩ := bfacts hB9; have r10 := hh9 _ (.head _) (by kernel_rfl); dsimp only [Hv.own, Hv.is, Hv.lit, Hv.box, Hv.sl, Hv.flatV] at r10; (first | replace r10 := lit_heap r10 | replace r10 := box_heap r10 | skip); have r9 := hh9 _ (.tail _ (.head _)) (by kernel_rfl); dsimp only [Hv.own, Hv.is, Hv.lit, Hv.box, Hv.sl, Hv.flatV] at r9; (first | replace r9 := lit_heap r9 | replace r9 := box_heap r9 | skip); have r1 := hh9 _ (.tail _ (.tail _ (.head _))) (by kernel_rfl); dsimp only [Hv.own, Hv.is, Hv.lit, Hv.box, Hv.sl, Hv.flatV] at r1; (first | replace r1 := lit_heap r1 | replace r1 := box_heap r1 | skip); have r0 := hh9 _ (.tail _ (.tail _ (.tail _ (.head _)))) (by kernel_rfl); dsimp only [Hv.own, Hv.is, Hv.lit, Hv.box, Hv.sl, Hv.flatV] at r0; (first | replace r0 := lit_heap r0 | replace r0 := box_heap r0 | skip); have x0 : w9.cell? ⟨bx, 0, none⟩ = some (.slice Ap x.code.length cp) := box_cell (box_on HBX hB9) 0 rfl; go_simp; try rfl)
  (try simp only [Act.put, List.setIfInBounds_toArray, List.set_cons_zero, List.set_cons_succ])
  apply flock_light rfl
  case h => first | exact light_no (by rfl) | ((first | apply light_plain rfl | apply light_yes (by rfl)); intro w9 hw9; obtain ⟨hb9, hh9⟩ := hw9; have hB9 : Below w5.heap.size w5 w9 := (by (repeat' first | with_reducible (first | exact Below.refl _ _ | assumption | refine Below.alloc ?_ ?_ _ | refine below_drewN ?_ _ | refine Below.drew ?_ | refine Below.setCell ?_ ?_ _ | refine Below.trans ?_ (Below.mono (by with_reducible assumption) ?_)) | go_size)); obtain ⟨kc9, kf9, s9⟩ := bfacts hb9; obtain ⟨kd9, kg9, _⟩ := bfacts hB9; have r10 := hh9 _ (.head _) (by kernel_rfl); dsimp only [Hv.own, Hv.is, Hv.lit, Hv.box, Hv.sl, Hv.flatV] at r10; (first | replace r10 := lit_heap r10 | replace r10 := box_heap r10 | skip); have r9 := hh9 _ (.tail _ (.head _)) (by kernel_rfl); dsimp only [Hv.own, Hv.is, Hv.lit, Hv.box, Hv.sl, Hv.flatV] at r9; (first | replace r9 := lit_heap r9 | replace r9 := box_heap r9 | skip); have r1 := hh9 _ (.tail _ (.tail _ (.head _))) (by kernel_rfl); dsimp only [Hv.own, Hv.is, Hv.lit, Hv.box, Hv.sl, Hv.flatV] at r1; (first | replace r1 := lit_heap r1 | replace r1 := box_heap r1 | skip); have r0 := hh9 _ (.tail _ (.tail _ (.tail _ (.head _)))) (by kernel_rfl); dsimp only [Hv.own, Hv.is, Hv.lit, Hv.box, Hv.sl, Hv.flatV] at r0; (first | replace r0 := lit_heap r0 | replace r0 := box_heap r0 | skip); have x0 : w9.cell? ⟨bx, 0, none⟩ = some (.slice Ap x.code.length cp) := box_cell (box_on HBX hB9) 0 rfl; go_simp; try rfl)
  (try simp only [Act.put, List.setIfInBounds_toArray, List.set_cons_zero, List.set_cons_succ])
  apply flock_light rfl
  case h => first | exact light_no (by rfl) | ((first | apply light_plain rfl | apply light_yes (by rfl)); intro w9 hw9; obtain ⟨hb9, hh9⟩ := hw9; have hB9 : Below w5.heap.size w5 w9 := (by (repeat' first | with_reducible (first | exact Below.refl _ _ | assumption | refine Below.alloc ?_ ?_ _ | refine below_drewN ?_ _ | refine Below.drew ?_ | refine Below.setCell ?_ ?_ _ | refine Below.trans ?_ (Below.mono (by with_reducible assumption) ?_)) | go_size)); obtain ⟨kc9, kf9, s9⟩ := bfacts hb9; obtain ⟨kd9, kg9, _⟩ := bfacts hB9; have r10 := hh9 _ (.head _) (by kernel_rfl); dsimp only [Hv.own, Hv.is, Hv.lit, Hv.box, Hv.sl, Hv.flatV] at r10; (first | replace r10 := lit_heap r10 | replace r10 := box_heap r10 | skip); have r9 := hh9 _ (.tail _ (.head _)) (by kernel_rfl); dsimp only [Hv.own, Hv.is, Hv.lit, Hv.box, Hv.sl, Hv.flatV] at r9; (first | replace r9 := lit_heap r9 | replace r9 := box_heap r9 | skip); have r1 := hh9 _ (.tail _ (.tail _ (.head _))) (by kernel_rfl); dsimp only [Hv.own, Hv.is, Hv.lit, Hv.box, Hv.sl, Hv.flatV] at r1; (first | replace r1 := lit_heap r1 | replace r1 := box_heap r1 | skip); have r0 := hh9 _ (.tail _ (.tail _ (.tail _ (.head _)))) (by kernel_rfl); dsimp only [Hv.own, Hv.is, Hv.lit, Hv.box, Hv.sl, Hv.flatV] at r0; (first | replace r0 := lit_heap r0 | replace r0 := box_heap r0 | skip); have x0 : w9.cell? ⟨bx, 0, none⟩ = some (.slice Ap x.code.length cp) := box_cell (box_on HBX hB9) 0 rfl; go_simp; try rfl)
  (try simp only [Act.put, List.setIfInBounds_toArray, List.set_cons_zero, List.set_cons_succ])
  refine flock_nil ?_
  intro w9 hb9 hh9
  have hB9 : Below w5.heap.size w5 w9 := (by (repeat' first | with_reducible (first | exact Below.refl _ _ | assumption | refine Below.alloc ?_ ?_ _ | refine below_drewN ?_ _ | refine Below.drew ?_ | refine Below.setCell ?_ ?_ _ | refine Below.trans ?_ (Below.mono (by with_reducible assumption) ?_)) | go_size))
  have r10 := hh9 _ (.head _); dsimp only [Hv.own, Hv.is, Hv.lit, Hv.box, Hv.sl, Hv.flatV] at r10; (first | replace r10 := lit_heap r10 | replace r10 := box_heap r10 | skip); have r9 := hh9 _ (.tail _ (.head _)); dsimp only [Hv.own, Hv.is, Hv.lit, Hv.box, Hv.sl, Hv.flatV] at r9; (first | replace r9 := lit_heap r9 | replace r9 := box_heap r9 | skip); have r1 := hh9 _ (.tail _ (.tail _ (.head _))); dsimp only [Hv.own, Hv.is, Hv.lit, Hv.box, Hv.sl, Hv.flatV] at r1; (first | replace r1 := lit_heap r1 | replace r1 := box_heap r1 | skip); have r0 := hh9 _ (.tail _ (.tail _ (.tail _ (.head _)))); dsimp only [Hv.own, Hv.is, Hv.lit, Hv.box, Hv.sl, Hv.flatV] at r0; (first | replace r0 := lit_heap r0 | replace r0 := box_heap r0 | skip); clear hh9
  (try dsimp only)
  have s5 := b5.size
  have b9 : Below w.heap.size w w9 := b5.trans (hB9.mono s5)
  clear hB9
  go_wp2_with fail
  go_ret
  exact ⟨rfl, b9⟩
end Go.Proofs.Ytljcgcllhcdleaa
