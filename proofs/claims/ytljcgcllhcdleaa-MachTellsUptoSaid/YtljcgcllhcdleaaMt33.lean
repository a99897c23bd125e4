import Derived.Test.YtljcgcllhcdleaaMt15
import Derived.Test.YtljcgcllhcdleaaMt22
import Derived.Deep.DeepCutAuto
/- Chapter 7, the reference: how a machine has ended. -/
namespace Go.Proofs.Ytljcgcllhcdleaa
open Go.RowKit
set_option linter.unusedSimpArgs false
set_option linter.unusedVariables false
set_option maxRecDepth 4000 in
set_option maxHeartbeats 1600000 in
theorem ended_any (i : Ev.Instr) (s : Ev.St) (bv mb : Nat) (va : Value) (vs : List Value) (hi : Nat) (w : World) (hM : MAt w bv mb va vs hi s) (hop : (i.op = 20 ∧ inR s.v.length i.a) ∨ i.op = 21) :
    Calls Try.prog 59 #[.pointer (some ⟨mb, 0, none⟩), .agg #[.int .i64 i.op, .int .i64 i.d, .int .i64 i.a, .int .i64 i.b, .int .i64 i.c, .int .i64 i.imm]] w fun e w' => e = .returned (.agg #[.int .i64 (Ev.endOf i s).word, .bool (Ev.endOf i s).trap, va]) ∧ Below w.heap.size w w' := by
  have HM := Lib.hid hM
  have m0 := hM.m0
  have m1 := hM.m1
  have hbm := hM.bm
  have hmh := hM.mh
  have hle := hM.le
  clear hM
  obtain ⟨Ax, cx, rfl, _, _⟩ := SL.form (SL.of_own HM.out.arrs.outer)
  have hbv : bv < w.heap.size := by omega
  have hmb : mb < w.heap.size := by omega
  rcases hop with ⟨h, ha⟩ | h
  · have ca := HM.out.cell ha
    have ha0 := ha.1
    have ha1 := ha.2
    have hw : (Ev.endOf i s).word = Ev.val s.v i.a := by unfold Ev.endOf; simp only; rw [if_neg (by omega)]
    have ht : (Ev.endOf i s).trap = false := by unfold Ev.endOf; simp [h]
    rw [hw, ht]
    clear ha hw ht
    generalize Ev.val s.v i.a = x at *
    have HOP := Lib.hid h
    clear h
    go_enter Try.func59, Try.ntmps59
    go_wp2_with fail
    have h21 : (i.op == 21) = false := by simp [HOP.out]
    refine wp_region_trail (fun w' => Below (((w.alloc (.cells #[.int .i64 i.op, .int .i64 i.d, .int .i64 i.a, .int .i64 i.b, .int .i64 i.c, .int .i64 i.imm] 39)).alloc (.cells #[.int .i64 0, .bool false, .slice none 0 0] 51)).heap.size) ((w.alloc (.cells #[.int .i64 i.op, .int .i64 i.d, .int .i64 i.a, .int .i64 i.b, .int .i64 i.c, .int .i64 i.imm] 39)).alloc (.cells #[.int .i64 0, .bool false, .slice none 0 0] 51)) w') [(0, true), (1, true), (2, true), (3, true), (4, true), (5, true), (6, true), (7, true), (8, false), (9, false)] (by kernel_rfl) (by kernel_rfl) (by kernel_rfl) (by decide) (by (repeat' (first | (with_reducible exact Below.refl _ _) | (with_reducible assumption) | (with_reducible refine Below.alloc ?_ ?_ _) | (with_reducible refine below_drewN ?_ _) | (with_reducible refine Below.drew ?_) | (with_reducible refine Below.setCell ?_ ?_ _) | (with_reducible refine Below.trans ?_ (Below.mono (by with_reducible assumption) ?_)) | go_size))) ?_
    apply trail_light
    case hi => (simp only [List.getElem?_toArray, List.getElem?_cons_zero, List.getElem?_cons_succ]; exact rfl)
    case hl => first | exact light_no (by rfl) | (apply light_plain rfl; intro w9 hb9; have hB9 : Below w.heap.size w w9 := (by (repeat' (first | (with_reducible exact Below.refl _ _) | (with_reducible assumption) | (with_reducible refine Below.alloc ?_ ?_ _) | (with_reducible refine below_drewN ?_ _) | (with_reducible refine Below.drew ?_) | (with_reducible refine Below.setCell ?_ ?_ _) | (with_reducible refine Below.trans ?_ (Below.mono (by with_reducible assumption) ?_)) | go_size))); obtain ⟨kc9, kf9, s9⟩ := bfacts hb9; obtain ⟨kd9, kg9, _⟩ := bfacts hB9; go_simp; try rfl) | (apply light_yes (by rfl); intro w9 hb9; have hB9 : Below w.heap.size w w9 := (by (repeat' (first | (with_reducible exact Below.refl _ _) | (with_reducible assumption) | (with_reducible refine Below.alloc ?_ ?_ _) | (with_reducible refine below_drewN ?_ _) | (with_reducible refine Below.drew ?_) | (with_reducible refine Below.setCell ?_ ?_ _) | (with_reducible refine Below.trans ?_ (Below.mono (by with_reducible assumption) ?_)) | go_size))); obtain ⟨kc9, kf9, s9⟩ := bfacts hb9; obtain ⟨kd9, kg9, _⟩ := bfacts hB9; go_simp; try rfl)
    case hQ => exact fun _ _ _ h => h
    (try simp only [Act.put, List.setIfInBounds_toArray, List.set_cons_zero, List.set_cons_succ])
    apply trail_light
    case hi => (simp only [List.getElem?_toArray, List.getElem?_cons_zero, List.getElem?_cons_succ]; exact rfl)
    case hl => first | exact light_no (by rfl) | (apply light_plain rfl; intro w9 hb9; have hB9 : Below w.heap.size w w9 := (by (repeat' (first | (with_reducible exact Below.refl _ _) | (with_reducible assumption) | (with_reducible refine Below.alloc ?_ ?_ _) | (with_reducible refine below_drewN ?_ _) | (with_reducible refine Below.drew ?_) | (with_reducible refine Below.setCell ?_ ?_ _) | (with_reducible refine Below.trans ?_ (Below.mono (by with_reducible assumption) ?_)) | go_size))); obtain ⟨kc9, kf9, s9⟩ := bfacts hb9; obtain ⟨kd9, kg9, _⟩ := bfacts hB9; go_simp; try rfl) | (apply light_yes (by rfl); intro w9 hb9; have hB9 : Below w.heap.size w w9 := (by (repeat' (first | (with_reducible exact Below.refl _ _) | (with_reducible assumption) | (with_reducible refine Below.alloc ?_ ?_ _) | (with_reducible refine below_drewN ?_ _) | (with_reducible refine Below.drew ?_) | (with_reducible refine Below.setCell ?_ ?_ _) | (with_reducible refine Below.trans ?_ (Below.mono (by with_reducible assumption) ?_)) | go_size))); obtain ⟨kc9, kf9, s9⟩ := bfacts hb9; obtain ⟨kd9, kg9, _⟩ := bfacts hB9; go_simp; try rfl)
    case hQ => exact fun _ _ _ h => h
    (try simp only [Act.put, List.setIfInBounds_toArray, List.set_cons_zero, List.set_cons_succ])
    apply trail_light
    case hi => (simp only [List.getElem?_toArray, List.getElem?_cons_zero, List.getElem?_cons_succ]; exact rfl)
    case hl => first | exact light_no (by rfl) | (apply light_plain rfl; intro w9 hb9; have hB9 : Below w.heap.size w w9 := (by (repeat' (first | (with_reducible exact Below.refl _ _) | (with_reducible assumption) | (with_reducible refine Below.alloc ?_ ?_ _) | (with_reducible refine below_drewN ?_ _) | (with_reducible refine Below.drew ?_) | (with_reducible refine Below.setCell ?_ ?_ _) | (with_reducible refine Below.trans ?_ (Below.mono (by with_reducible assumption) ?_)) | go_size))); obtain ⟨kc9, kf9, s9⟩ := bfacts hb9; obtain ⟨kd9, kg9, _⟩ := bfacts hB9; go_simp; try rfl) | (apply light_yes (by rfl); intro w9 hb9; have hB9 : Below w.heap.size w w9 := (by (repeat' (first | (with_reducible exact Below.refl _ _) | (with_reducible assumption) | (with_reducible refine Below.alloc ?_ ?_ _) | (with_reducible refine below_drewN ?_ _) | (with_reducible refine Below.drew ?_) | (with_reducible refine Below.setCell ?_ ?_ _) | (with_reducible refine Below.trans ?_ (Below.mono (by with_reducible assumption) ?_)) | go_size))); obtain ⟨kc9, kf9, s9⟩ := bfacts hb9; obtain ⟨kd9, kg9, _⟩ := bfacts hB9; go_simp; try rfl)
    case hQ => exact fun _ _ _ h => h
    (try simp only [Act.put, List.setIfInBounds_toArray, List.set_cons_zero, List.set_cons_succ])
    apply trail_light
    case hi => (simp only [List.getElem?_toArray, List.getElem?_cons_zero, List.getElem?_cons_succ]; exact rfl)
    case hl => first | exact light_no (by rfl) | (apply light_plain rfl; intro w9 hb9; have hB9 : Below w.heap.size w w9 := (by (repeat' (first | (with_reducible exact Below.refl _ _) | (with_reducible assumption) | (with_reducible refine Below.alloc ?_ ?_ _) | (with_reducible refine below_drewN ?_ _) | (with_reducible refine Below.drew ?_) | (with_reducible refine Below.setCell ?_ ?_ _) | (with_reducible refine Below.trans ?_ (Below.mono (by with_reducible assumption) ?_)) | go_size))); obtain ⟨kc9, kf9, s9⟩ := bfacts hb9; obtain ⟨kd9, kg9, _⟩ := bfacts hB9; go_simp; try rfl) | (apply light_yes (by rfl); intro w9 hb9; have hB9 : Below w.heap.size w w9 := (by (repeat' (first | (with_reducible exact Below.refl _ _) | (with_reducible assumption) | (with_reducible refine Below.alloc ?_ ?_ _) | (with_reducible refine below_drewN ?_ _) | (with_reducible refine Below.drew ?_) | (with_reducible refine Below.setCell ?_ ?_ _) | (with_reducible refine Below.trans ?_ (Below.mono (by with_reducible assumption) ?_)) | go_size))); obtain ⟨kc9, kf9, s9⟩ := bfacts hb9; obtain ⟨kd9, kg9, _⟩ := bfacts hB9; go_simp; try rfl)
    case hQ => exact fun _ _ _ h => h
    (try simp only [Act.put, List.setIfInBounds_toArray, List.set_cons_zero, List.set_cons_succ])
    apply trail_light
    case hi => (simp only [List.getElem?_toArray, List.getElem?_cons_zero, List.getElem?_cons_succ]; exact rfl)
    case hl => first | exact light_no (by rfl) | (apply light_plain rfl; intro w9 hb9; have hB9 : Below w.heap.size w w9 := (by (repeat' (first | (with_reducible exact Below.refl _ _) | (with_reducible assumption) | (with_reducible refine Below.alloc ?_ ?_ _) | (with_reducible refine below_drewN ?_ _) | (with_reducible refine Below.drew ?_) | (with_reducible refine Below.setCell ?_ ?_ _) | (with_reducible refine Below.trans ?_ (Below.mono (by with_reducible assumption) ?_)) | go_size))); obtain ⟨kc9, kf9, s9⟩ := bfacts hb9; obtain ⟨kd9, kg9, _⟩ := bfacts hB9; go_simp; try rfl) | (apply light_yes (by rfl); intro w9 hb9; have hB9 : Below w.heap.size w w9 := (by (repeat' (first | (with_reducible exact Below.refl _ _) | (with_reducible assumption) | (with_reducible refine Below.alloc ?_ ?_ _) | (with_reducible refine below_drewN ?_ _) | (with_reducible refine Below.drew ?_) | (with_reducible refine Below.setCell ?_ ?_ _) | (with_reducible refine Below.trans ?_ (Below.mono (by with_reducible assumption) ?_)) | go_size))); obtain ⟨kc9, kf9, s9⟩ := bfacts hb9; obtain ⟨kd9, kg9, _⟩ := bfacts hB9; go_simp; try rfl)
    case hQ => exact fun _ _ _ h => h
    (try simp only [Act.put, List.setIfInBounds_toArray, List.set_cons_zero, List.set_cons_succ])
    apply trail_light
    case hi => (simp only [List.getElem?_toArray, List.getElem?_cons_zero, List.getElem?_cons_succ]; exact rfl)
    case hl => first | exact light_no (by rfl) | (apply light_plain rfl; intro w9 hb9; have hB9 : Below w.heap.size w w9 := (by (repeat' (first | (with_reducible exact Below.refl _ _) | (with_reducible assumption) | (with_reducible refine Below.alloc ?_ ?_ _) | (with_reducible refine below_drewN ?_ _) | (with_reducible refine Below.drew ?_) | (with_reducible refine Below.setCell ?_ ?_ _) | (with_reducible refine Below.trans ?_ (Below.mono (by with_reducible assumption) ?_)) | go_size))); obtain ⟨kc9, kf9, s9⟩ := bfacts hb9; obtain ⟨kd9, kg9, _⟩ := bfacts hB9; go_simp; try rfl) | (apply light_yes (by rfl); intro w9 hb9; have hB9 : Below w.heap.size w w9 := (by (repeat' (first | (with_reducible exact Below.refl _ _) | (with_reducible assumption) | (with_reducible refine Below.alloc ?_ ?_ _) | (with_reducible refine below_drewN ?_ _) | (with_reducible refine Below.drew ?_) | (with_reducible refine Below.setCell ?_ ?_ _) | (with_reducible refine Below.trans ?_ (Below.mono (by with_reducible assumption) ?_)) | go_size))); obtain ⟨kc9, kf9, s9⟩ := bfacts hb9; obtain ⟨kd9, kg9, _⟩ := bfacts hB9; go_simp; try rfl)
    case hQ => exact fun _ _ _ h => h
    (try simp only [Act.put, List.setIfInBounds_toArray, List.set_cons_zero, List.set_cons_succ])
    apply trail_light
    case hi => (simp only [List.getElem?_toArray, List.getElem?_cons_zero, List.getElem?_cons_succ]; exact rfl)
    case hl => first | exact light_no (by rfl) | (apply light_plain rfl; intro w9 hb9; have hB9 : Below w.heap.size w w9 := (by (repeat' (first | (with_reducible exact Below.refl _ _) | (with_reducible assumption) | (with_reducible refine Below.alloc ?_ ?_ _) | (with_reducible refine below_drewN ?_ _) | (with_reducible refine Below.drew ?_) | (with_reducible refine Below.setCell ?_ ?_ _) | (with_reducible refine Below.trans ?_ (Below.mono (by with_reducible assumption) ?_)) | go_size))); obtain ⟨kc9, kf9, s9⟩ := bfacts hb9; obtain ⟨kd9, kg9, _⟩ := bfacts hB9; go_simp; try rfl) | (apply light_yes (by rfl); intro w9 hb9; have hB9 : Below w.heap.size w w9 := (by (repeat' (first | (with_reducible exact Below.refl _ _) | (with_reducible assumption) | (with_reducible refine Below.alloc ?_ ?_ _) | (with_reducible refine below_drewN ?_ _) | (with_reducible refine Below.drew ?_) | (with_reducible refine Below.setCell ?_ ?_ _) | (with_reducible refine Below.trans ?_ (Below.mono (by with_reducible assumption) ?_)) | go_size))); obtain ⟨kc9, kf9, s9⟩ := bfacts hb9; obtain ⟨kd9, kg9, _⟩ := bfacts hB9; go_simp; try rfl)
    case hQ => exact fun _ _ _ h => h
    (try simp only [Act.put, List.setIfInBounds_toArray, List.set_cons_zero, List.set_cons_succ])
    apply trail_light
    case hi => (simp only [List.getElem?_toArray, List.getElem?_cons_zero, List.getElem?_cons_succ]; exact rfl)
    case hl => first | exact light_no (by rfl) | (apply light_plain rfl; intro w9 hb9; have hB9 : Below w.heap.size w w9 := (by (repeat' (first | (with_reducible exact Below.refl _ _) | (with_reducible assumption) | (with_reducible refine Below.alloc ?_ ?_ _) | (with_reducible refine below_drewN ?_ _) | (with_reducible refine Below.drew ?_) | (with_reducible refine Below.setCell ?_ ?_ _) | (with_reducible refine Below.trans ?_ (Below.mono (by with_reducible assumption) ?_)) | go_size))); obtain ⟨kc9, kf9, s9⟩ := bfacts hb9; obtain ⟨kd9, kg9, _⟩ := bfacts hB9; go_simp; try rfl) | (apply light_yes (by rfl); intro w9 hb9; have hB9 : Below w.heap.size w w9 := (by (repeat' (first | (with_reducible exact Below.refl _ _) | (with_reducible assumption) | (with_reducible refine Below.alloc ?_ ?_ _) | (with_reducible refine below_drewN ?_ _) | (with_reducible refine Below.drew ?_) | (with_reducible refine Below.setCell ?_ ?_ _) | (with_reducible refine Below.trans ?_ (Below.mono (by with_reducible assumption) ?_)) | go_size))); obtain ⟨kc9, kf9, s9⟩ := bfacts hb9; obtain ⟨kd9, kg9, _⟩ := bfacts hB9; go_simp; try rfl)
    case hQ => exact fun _ _ _ h => h
    (try simp only [Act.put, List.setIfInBounds_toArray, List.set_cons_zero, List.set_cons_succ])
    apply trail_heavy
    case hi => (simp only [List.getElem?_toArray, List.getElem?_cons_zero, List.getElem?_cons_succ]; exact rfl)
    go_wp2_with (fail)
    refine ⟨by (repeat' (first | (with_reducible exact Below.refl _ _) | (with_reducible assumption) | (with_reducible refine Below.alloc ?_ ?_ _) | (with_reducible refine below_drewN ?_ _) | (with_reducible refine Below.drew ?_) | (with_reducible refine Below.setCell ?_ ?_ _) | (with_reducible refine Below.trans ?_ (Below.mono (by with_reducible assumption) ?_)) | go_size)), ?_⟩
    apply trail_heavy
    case hi => (simp only [List.getElem?_toArray, List.getElem?_cons_zero, List.getElem?_cons_succ]; exact rfl)
    go_wp2_with (fail)
    refine ⟨by (repeat' (first | (with_reducible exact Below.refl _ _) | (with_reducible assumption) | (with_reducible refine Below.alloc ?_ ?_ _) | (with_reducible refine below_drewN ?_ _) | (with_reducible refine Below.drew ?_) | (with_reducible refine Below.setCell ?_ ?_ _) | (with_reducible refine Below.trans ?_ (Below.mono (by with_reducible assumption) ?_)) | go_size)), ?_⟩
    refine trail_nil ?_
    (try dsimp only)
    go_wp2_with fail
    have BZ : Below w.heap.size w ((((w.alloc (.cells #[.int .i64 i.op, .int .i64 i.d, .int .i64 i.a, .int .i64 i.b, .int .i64 i.c, .int .i64 i.imm] 39)).alloc (.cells #[.int .i64 0, .bool false, .slice none 0 0] 51)).alloc (.cells #[.int .i64 0, .bool false, .slice Ax vs.length cx] 51)).drew) := by (repeat' (first | (with_reducible exact Below.refl _ _) | (with_reducible assumption) | (with_reducible refine Below.alloc ?_ ?_ _) | (with_reducible refine below_drewN ?_ _) | (with_reducible refine Below.drew ?_) | (with_reducible refine Below.setCell ?_ ?_ _) | (with_reducible refine Below.trans ?_ (Below.mono (by with_reducible assumption) ?_)) | go_size))
    have q0 : ((((w.alloc (.cells #[.int .i64 i.op, .int .i64 i.d, .int .i64 i.a, .int .i64 i.b, .int .i64 i.c, .int .i64 i.imm] 39)).alloc (.cells #[.int .i64 0, .bool false, .slice none 0 0] 51)).alloc (.cells #[.int .i64 0, .bool false, .slice Ax vs.length cx] 51)).drew).cell? ⟨mb, 0, none⟩ = some (.slice (some ⟨bv, 0, none⟩) s.v.length s.v.length) := (BZ.cell (p := ⟨mb, 0, none⟩) (by show mb < _; omega)).trans m0
    have q1 : ((((w.alloc (.cells #[.int .i64 i.op, .int .i64 i.d, .int .i64 i.a, .int .i64 i.b, .int .i64 i.c, .int .i64 i.imm] 39)).alloc (.cells #[.int .i64 0, .bool false, .slice none 0 0] 51)).alloc (.cells #[.int .i64 0, .bool false, .slice Ax vs.length cx] 51)).drew).cell? ⟨bv, i.a.toNat, none⟩ = some (.int .i64 x) := (BZ.cell (p := ⟨bv, i.a.toNat, none⟩) (by show bv < _; omega)).trans ca
    have q2 : ((((w.alloc (.cells #[.int .i64 i.op, .int .i64 i.d, .int .i64 i.a, .int .i64 i.b, .int .i64 i.c, .int .i64 i.imm] 39)).alloc (.cells #[.int .i64 0, .bool false, .slice none 0 0] 51)).alloc (.cells #[.int .i64 0, .bool false, .slice Ax vs.length cx] 51)).drew).cell? ⟨w.heap.size, 2, none⟩ = some (.int .i64 i.a) := by go_simp
    have r0 : ((((w.alloc (.cells #[.int .i64 i.op, .int .i64 i.d, .int .i64 i.a, .int .i64 i.b, .int .i64 i.c, .int .i64 i.imm] 39)).alloc (.cells #[.int .i64 0, .bool false, .slice none 0 0] 51)).alloc (.cells #[.int .i64 0, .bool false, .slice Ax vs.length cx] 51)).drew).cell? ⟨w.heap.size + 1, 0, none⟩ = some (.int .i64 0) := by go_simp
    have r1 : ((((w.alloc (.cells #[.int .i64 i.op, .int .i64 i.d, .int .i64 i.a, .int .i64 i.b, .int .i64 i.c, .int .i64 i.imm] 39)).alloc (.cells #[.int .i64 0, .bool false, .slice none 0 0] 51)).alloc (.cells #[.int .i64 0, .bool false, .slice Ax vs.length cx] 51)).drew).cell? ⟨w.heap.size + 1, 1, none⟩ = some (.bool false) := by go_simp
    have r2 : ((((w.alloc (.cells #[.int .i64 i.op, .int .i64 i.d, .int .i64 i.a, .int .i64 i.b, .int .i64 i.c, .int .i64 i.imm] 39)).alloc (.cells #[.int .i64 0, .bool false, .slice none 0 0] 51)).alloc (.cells #[.int .i64 0, .bool false, .slice Ax vs.length cx] 51)).drew).cell? ⟨w.heap.size + 1, 2, none⟩ = some (.slice none 0 0) := by go_simp
    have z0 : ((((w.alloc (.cells #[.int .i64 i.op, .int .i64 i.d, .int .i64 i.a, .int .i64 i.b, .int .i64 i.c, .int .i64 i.imm] 39)).alloc (.cells #[.int .i64 0, .bool false, .slice none 0 0] 51)).alloc (.cells #[.int .i64 0, .bool false, .slice Ax vs.length cx] 51)).drew).cell? ⟨w.heap.size + 1 + 1, 0, none⟩ = some (.int .i64 0) := by go_simp
    have z1 : ((((w.alloc (.cells #[.int .i64 i.op, .int .i64 i.d, .int .i64 i.a, .int .i64 i.b, .int .i64 i.c, .int .i64 i.imm] 39)).alloc (.cells #[.int .i64 0, .bool false, .slice none 0 0] 51)).alloc (.cells #[.int .i64 0, .bool false, .slice Ax vs.length cx] 51)).drew).cell? ⟨w.heap.size + 1 + 1, 1, none⟩ = some (.bool false) := by go_simp
    have z2 : ((((w.alloc (.cells #[.int .i64 i.op, .int .i64 i.d, .int .i64 i.a, .int .i64 i.b, .int .i64 i.c, .int .i64 i.imm] 39)).alloc (.cells #[.int .i64 0, .bool false, .slice none 0 0] 51)).alloc (.cells #[.int .i64 0, .bool false, .slice Ax vs.length cx] 51)).drew).cell? ⟨w.heap.size + 1 + 1, 2, none⟩ = some (.slice Ax vs.length cx) := by go_simp
    have rf : ∀ j, ((((w.alloc (.cells #[.int .i64 i.op, .int .i64 i.d, .int .i64 i.a, .int .i64 i.b, .int .i64 i.c, .int .i64 i.imm] 39)).alloc (.cells #[.int .i64 0, .bool false, .slice none 0 0] 51)).alloc (.cells #[.int .i64 0, .bool false, .slice Ax vs.length cx] 51)).drew).frozen? ⟨w.heap.size + 1, j, none⟩ = false := by intro j; go_simp
    have zf : ∀ j, ((((w.alloc (.cells #[.int .i64 i.op, .int .i64 i.d, .int .i64 i.a, .int .i64 i.b, .int .i64 i.c, .int .i64 i.imm] 39)).alloc (.cells #[.int .i64 0, .bool false, .slice none 0 0] 51)).alloc (.cells #[.int .i64 0, .bool false, .slice Ax vs.length cx] 51)).drew).frozen? ⟨w.heap.size + 1 + 1, j, none⟩ = false := by intro j; go_simp
    have sZ : w.heap.size + 1 + 1 < ((((w.alloc (.cells #[.int .i64 i.op, .int .i64 i.d, .int .i64 i.a, .int .i64 i.b, .int .i64 i.c, .int .i64 i.imm] 39)).alloc (.cells #[.int .i64 0, .bool false, .slice none 0 0] 51)).alloc (.cells #[.int .i64 0, .bool false, .slice Ax vs.length cx] 51)).drew).heap.size := by simp
    clear ca m0 m1 hbv hmb
    generalize (((w.alloc (.cells #[.int .i64 i.op, .int .i64 i.d, .int .i64 i.a, .int .i64 i.b, .int .i64 i.c, .int .i64 i.imm] 39)).alloc (.cells #[.int .i64 0, .bool false, .slice none 0 0] 51)).alloc (.cells #[.int .i64 0, .bool false, .slice Ax vs.length cx] 51)).drew = wZ at *
    refine wp_region_store (fun w' => w' = (wZ).drew) (fun w' => w' = wZ.drew.setCell ⟨w.heap.size + 1 + 1, 0, none⟩ (.int .i64 x)) 9 [] (by kernel_rfl) (by kernel_rfl) (by kernel_rfl) (by kernel_rfl) rfl ?_
    apply chainS_mid (by rfl)
    case h => (rintro w9 rfl; go_wp2_with fail; (try (fail; go_wp2_with fail)); refine settled_intro (S := fun w' => w' = (wZ).drew) ?_; rfl)
    case h1 => (intro hk; exact absurd hk (by decide))
    case hp => first | rfl | (simp only [*]; done) | (simp only [*]; rfl)
    apply chainS_mid (by rfl)
    case h => (rintro w9 rfl; go_wp2_with fail; (try (fail; go_wp2_with fail)); refine settled_intro (S := fun w' => w' = (wZ).drew) ?_; rfl)
    case h1 => (intro hk; exact absurd hk (by decide))
    case hp => first | rfl | (simp only [*]; done) | (simp only [*]; rfl)
    apply chainS_mid (by rfl)
    case h => (rintro w9 rfl; go_wp2_with fail; (try (fail; go_wp2_with fail)); refine settled_intro (S := fun w' => w' = (wZ).drew) ?_; rfl)
    case h1 => (intro hk; exact absurd hk (by decide))
    case hp => first | rfl | (simp only [*]; done) | (simp only [*]; rfl)
    apply chainS_mid (by rfl)
    case h => (rintro w9 rfl; go_wp2_with fail; (try (fail; go_wp2_with fail)); refine settled_intro (S := fun w' => w' = (wZ).drew) ?_; rfl)
    case h1 => (intro hk; exact absurd hk (by decide))
    case hp => first | rfl | (simp only [*]; done) | (simp only [*]; rfl)
    apply chainS_mid (by rfl)
    case h => (rintro w9 rfl; go_wp2_with fail; (try (fail; go_wp2_with fail)); refine settled_intro (S := fun w' => w' = (wZ).drew) ?_; rfl)
    case h1 => (intro hk; exact absurd hk (by decide))
    case hp => first | rfl | (simp only [*]; done) | (simp only [*]; rfl)
    apply chainS_mid (by rfl)
    case h => (rintro w9 rfl; go_wp2_with fail; (try (fail; go_wp2_with fail)); refine settled_intro (S := fun w' => w' = (wZ).drew) ?_; rfl)
    case h1 => (intro hk; exact absurd hk (by decide))
    case hp => first | rfl | (simp only [*]; done) | (simp only [*]; rfl)
    apply chainS_mid (by rfl)
    case h => (rintro w9 rfl; go_wp2_with fail; (try (fail; go_wp2_with fail)); refine settled_intro (S := fun w' => w' = (wZ).drew) ?_; rfl)
    case h1 => (intro hk; exact absurd hk (by decide))
    case hp => first | rfl | (simp only [*]; done) | (simp only [*]; rfl)
    apply chainS_mid (by rfl)
    case h => (rintro w9 rfl; go_wp2_with fail; (try (fail; go_wp2_with fail)); refine settled_intro (S := fun w' => w' = (wZ).drew) ?_; rfl)
    case h1 => (intro hk; exact absurd hk (by decide))
    case hp => first | rfl | (simp only [*]; done) | (simp only [*]; rfl)
    apply chainS_mid (by rfl)
    case h => (rintro w9 rfl; go_wp2_with fail; (try (fail; go_wp2_with fail)); refine settled_intro (S := fun w' => w' = (wZ).drew) ?_; rfl)
    case h1 => (intro hk; exact absurd hk (by decide))
    case hp => first | rfl | (simp only [*]; done) | (simp only [*]; rfl)
    apply chainS_store (by rfl)
    case h => (rintro w9 rfl; go_wp2_with fail; refine settled_intro (S := fun w' => w' = wZ.drew.setCell ⟨w.heap.size + 1 + 1, 0, none⟩ (.int .i64 x)) ?_; rfl)
    case hp => first | rfl | (simp only [*]; done) | (simp only [*]; rfl)
    refine chainS.nil ?_
    rintro _ rfl
    (try dsimp only)
    go_wp2_with fail
    refine bodyPost_ret (v := .agg #[.int .i64 x, .bool false, .slice Ax vs.length cx]) (by simp [results, Try.results59, go_sem, r0, r1, r2]) rfl ?_
    exact ⟨rfl, by (repeat' (first | (with_reducible exact Below.refl _ _) | (with_reducible assumption) | (with_reducible refine Below.alloc ?_ ?_ _) | (with_reducible refine below_drewN ?_ _) | (with_reducible refine Below.drew ?_) | (with_reducible refine Below.setCell ?_ ?_ _) | (with_reducible refine Below.trans ?_ (Below.mono (by with_reducible assumption) ?_)) | go_size))⟩
  · have hw : (Ev.endOf i s).word = 0 := by unfold Ev.endOf; simp only; rw [if_pos h]
    have ht : (Ev.endOf i s).trap = true := by unfold Ev.endOf; simp [h]
    rw [hw, ht]
    clear hw ht
    have HOP := Lib.hid h
    clear h
    go_enter Try.func59, Try.ntmps59
    go_wp2_with fail
    have h21 : (i.op == 21) = true := by simp [HOP.out]
    refine wp_region_trail (fun w' => Below (((w.alloc (.cells #[.int .i64 i.op, .int .i64 i.d, .int .i64 i.a, .int .i64 i.b, .int .i64 i.c, .int .i64 i.imm] 39)).alloc (.cells #[.int .i64 0, .bool false, .slice none 0 0] 51)).heap.size) ((w.alloc (.cells #[.int .i64 i.op, .int .i64 i.d, .int .i64 i.a, .int .i64 i.b, .int .i64 i.c, .int .i64 i.imm] 39)).alloc (.cells #[.int .i64 0, .bool false, .slice none 0 0] 51)) w') [(0, true), (1, true), (2, true), (3, true), (4, true), (5, true), (6, true), (7, true), (8, false), (9, false)] (by kernel_rfl) (by kernel_rfl) (by kernel_rfl) (by decide) (by (repeat' (first | (with_reducible exact Below.refl _ _) | (with_reducible assumption) | (with_reducible refine Below.alloc ?_ ?_ _) | (with_reducible refine below_drewN ?_ _) | (with_reducible refine Below.drew ?_) | (with_reducible refine Below.setCell ?_ ?_ _) | (with_reducible refine Below.trans ?_ (Below.mono (by with_reducible assumption) ?_)) | go_size))) ?_
    apply trail_light
    case hi => (simp only [List.getElem?_toArray, List.getElem?_cons_zero, List.getElem?_cons_succ]; exact rfl)
    case hl => first | exact light_no (by rfl) | (apply light_plain rfl; intro w9 hb9; have hB9 : Below w.heap.size w w9 := (by (repeat' (first | (with_reducible exact Below.refl _ _) | (with_reducible assumption) | (with_reducible refine Below.alloc ?_ ?_ _) | (with_reducible refine below_drewN ?_ _) | (with_reducible refine Below.drew ?_) | (with_reducible refine Below.setCell ?_ ?_ _) | (with_reducible refine Below.trans ?_ (Below.mono (by with_reducible assumption) ?_)) | go_size))); obtain ⟨kc9, kf9, s9⟩ := bfacts hb9; obtain ⟨kd9, kg9, _⟩ := bfacts hB9; go_simp; try rfl) | (apply light_yes (by rfl); intro w9 hb9; have hB9 : Below w.heap.size w w9 := (by (repeat' (first | (with_reducible exact Below.refl _ _) | (with_reducible assumption) | (with_reducible refine Below.alloc ?_ ?_ _) | (with_reducible refine below_drewN ?_ _) | (with_reducible refine Below.drew ?_) | (with_reducible refine Below.setCell ?_ ?_ _) | (with_reducible refine Below.trans ?_ (Below.mono (by with_reducible assumption) ?_)) | go_size))); obtain ⟨kc9, kf9, s9⟩ := bfacts hb9; obtain ⟨kd9, kg9, _⟩ := bfacts hB9; go_simp; try rfl)
    case hQ => exact fun _ _ _ h => h
    (try simp only [Act.put, List.setIfInBounds_toArray, List.set_cons_zero, List.set_cons_succ])
    apply trail_light
    case hi => (simp only [List.getElem?_toArray, List.getElem?_cons_zero, List.getElem?_cons_succ]; exact rfl)
    case hl => first | exact light_no (by rfl) | (apply light_plain rfl; intro w9 hb9; have hB9 : Below w.heap.size w w9 := (by (repeat' (first | (with_reducible exact Below.refl _ _) | (with_reducible assumption) | (with_reducible refine Below.alloc ?_ ?_ _) | (with_reducible refine below_drewN ?_ _) | (with_reducible refine Below.drew ?_) | (with_reducible refine Below.setCell ?_ ?_ _) | (with_reducible refine Below.trans ?_ (Below.mono (by with_reducible assumption) ?_)) | go_size))); obtain ⟨kc9, kf9, s9⟩ := bfacts hb9; obtain ⟨kd9, kg9, _⟩ := bfacts hB9; go_simp; try rfl) | (apply light_yes (by rfl); intro w9 hb9; have hB9 : Below w.heap.size w w9 := (by (repeat' (first | (with_reducible exact Below.refl _ _) | (with_reducible assumption) | (with_reducible refine Below.alloc ?_ ?_ _) | (with_reducible refine below_drewN ?_ _) | (with_reducible refine Below.drew ?_) | (with_reducible refine Below.setCell ?_ ?_ _) | (with_reducible refine Below.trans ?_ (Below.mono (by with_reducible assumption) ?_)) | go_size))); obtain ⟨kc9, kf9, s9⟩ := bfacts hb9; obtain ⟨kd9, kg9, _⟩ := bfacts hB9; go_simp; try rfl)
    case hQ => exact fun _ _ _ h => h
    (try simp only [Act.put, List.setIfInBounds_toArray, List.set_cons_zero, List.set_cons_succ])
    apply trail_light
    case hi => (simp only [List.getElem?_toArray, List.getElem?_cons_zero, List.getElem?_cons_succ]; exact rfl)
    case hl => first | exact light_no (by rfl) | (apply light_plain rfl; intro w9 hb9; have hB9 : Below w.heap.size w w9 := (by (repeat' (first | (with_reducible exact Below.refl _ _) | (with_reducible assumption) | (with_reducible refine Below.alloc ?_ ?_ _) | (with_reducible refine below_drewN ?_ _) | (with_reducible refine Below.drew ?_) | (with_reducible refine Below.setCell ?_ ?_ _) | (with_reducible refine Below.trans ?_ (Below.mono (by with_reducible assumption) ?_)) | go_size))); obtain ⟨kc9, kf9, s9⟩ := bfacts hb9; obtain ⟨kd9, kg9, _⟩ := bfacts hB9; go_simp; try rfl) | (apply light_yes (by rfl); intro w9 hb9; have hB9 : Below w.heap.size w w9 := (by (repeat' (first | (with_reducible exact Below.refl _ _) | (with_reducible assumption) | (with_reducible refine Below.alloc ?_ ?_ _) | (with_reducible refine below_drewN ?_ _) | (with_reducible refine Below.drew ?_) | (with_reducible refine Below.setCell ?_ ?_ _) | (with_reducible refine Below.trans ?_ (Below.mono (by with_reducible assumption) ?_)) | go_size))); obtain ⟨kc9, kf9, s9⟩ := bfacts hb9; obtain ⟨kd9, kg9, _⟩ := bfacts hB9; go_simp; try rfl)
    case hQ => exact fun _ _ _ h => h
    (try simp only [Act.put, List.setIfInBounds_toArray, List.set_cons_zero, List.set_cons_succ])
    apply trail_light
    case hi => (simp only [List.getElem?_toArray, List.getElem?_cons_zero, List.getElem?_cons_succ]; exact rfl)
    case hl => first | exact light_no (by rfl) | (apply light_plain rfl; intro w9 hb9; have hB9 : Below w.heap.size w w9 := (by (repeat' (first | (with_reducible exact Below.refl _ _) | (with_reducible assumption) | (with_reducible refine Below.alloc ?_ ?_ _) | (with_reducible refine below_drewN ?_ _) | (with_reducible refine Below.drew ?_) | (with_reducible refine Below.setCell ?_ ?_ _) | (with_reducible refine Below.trans ?_ (Below.mono (by with_reducible assumption) ?_)) | go_size))); obtain ⟨kc9, kf9, s9⟩ := bfacts hb9; obtain ⟨kd9, kg9, _⟩ := bfacts hB9; go_simp; try rfl) | (apply light_yes (by rfl); intro w9 hb9; have hB9 : Below w.heap.size w w9 := (by (repeat' (first | (with_reducible exact Below.refl _ _) | (with_reducible assumption) | (with_reducible refine Below.alloc ?_ ?_ _) | (with_reducible refine below_drewN ?_ _) | (with_reducible refine Below.drew ?_) | (with_reducible refine Below.setCell ?_ ?_ _) | (with_reducible refine Below.trans ?_ (Below.mono (by with_reducible assumption) ?_)) | go_size))); obtain ⟨kc9, kf9, s9⟩ := bfacts hb9; obtain ⟨kd9, kg9, _⟩ := bfacts hB9; go_simp; try rfl)
    case hQ => exact fun _ _ _ h => h
    (try simp only [Act.put, List.setIfInBounds_toArray, List.set_cons_zero, List.set_cons_succ])
    apply trail_light
    case hi => (simp only [List.getElem?_toArray, List.getElem?_cons_zero, List.getElem?_cons_succ]; exact rfl)
    case hl => first | exact light_no (by rfl) | (apply light_plain rfl; intro w9 hb9; have hB9 : Below w.heap.size w w9 := (by (repeat' (first | (with_reducible exact Below.refl _ _) | (with_reducible assumption) | (with_reducible refine Below.alloc ?_ ?_ _) | (with_reducible refine below_drewN ?_ _) | (with_reducible refine Below.drew ?_) | (with_reducible refine Below.setCell ?_ ?_ _) | (with_reducible refine Below.trans ?_ (Below.mono (by with_reducible assumption) ?_)) | go_size))); obtain ⟨kc9, kf9, s9⟩ := bfacts hb9; obtain ⟨kd9, kg9, _⟩ := bfacts hB9; go_simp; try rfl) | (apply light_yes (by rfl); intro w9 hb9; have hB9 : Below w.heap.size w w9 := (by (repeat' (first | (with_reducible exact Below.refl _ _) | (with_reducible assumption) | (with_reducible refine Below.alloc ?_ ?_ _) | (with_reducible refine below_drewN ?_ _) | (with_reducible refine Below.drew ?_) | (with_reducible refine Below.setCell ?_ ?_ _) | (with_reducible refine Below.trans ?_ (Below.mono (by with_reducible assumption) ?_)) | go_size))); obtain ⟨kc9, kf9, s9⟩ := bfacts hb9; obtain ⟨kd9, kg9, _⟩ := bfacts hB9; go_simp; try rfl)
    case hQ => exact fun _ _ _ h => h
    (try simp only [Act.put, List.setIfInBounds_toArray, List.set_cons_zero, List.set_cons_succ])
    apply trail_light
    case hi => (simp only [List.getElem?_toArray, List.getElem?_cons_zero, List.getElem?_cons_succ]; exact rfl)
    case hl => first | exact light_no (by rfl) | (apply light_plain rfl; intro w9 hb9; have hB9 : Below w.heap.size w w9 := (by (repeat' (first | (with_reducible exact Below.refl _ _) | (with_reducible assumption) | (with_reducible refine Below.alloc ?_ ?_ _) | (with_reducible refine below_drewN ?_ _) | (with_reducible refine Below.drew ?_) | (with_reducible refine Below.setCell ?_ ?_ _) | (with_reducible refine Below.trans ?_ (Below.mono (by with_reducible assumption) ?_)) | go_size))); obtain ⟨kc9, kf9, s9⟩ := bfacts hb9; obtain ⟨kd9, kg9, _⟩ := bfacts hB9; go_simp; try rfl) | (apply light_yes (by rfl); intro w9 hb9; have hB9 : Below w.heap.size w w9 := (by (repeat' (first | (with_reducible exact Below.refl _ _) | (with_reducible assumption) | (with_reducible refine Below.alloc ?_ ?_ _) | (with_reducible refine below_drewN ?_ _) | (with_reducible refine Below.drew ?_) | (with_reducible refine Below.setCell ?_ ?_ _) | (with_reducible refine Below.trans ?_ (Below.mono (by with_reducible assumption) ?_)) | go_size))); obtain ⟨kc9, kf9, s9⟩ := bfacts hb9; obtain ⟨kd9, kg9, _⟩ := bfacts hB9; go_simp; try rfl)
    case hQ => exact fun _ _ _ h => h
    (try simp only [Act.put, List.setIfInBounds_toArray, List.set_cons_zero, List.set_cons_succ])
    apply trail_light
    case hi => (simp only [List.getElem?_toArray, List.getElem?_cons_zero, List.getElem?_cons_succ]; exact rfl)
    case hl => first | exact light_no (by rfl) | (apply light_plain rfl; intro w9 hb9; have hB9 : Below w.heap.size w w9 := (by (repeat' (first | (with_reducible exact Below.refl _ _) | (with_reducible assumption) | (with_reducible refine Below.alloc ?_ ?_ _) | (with_reducible refine below_drewN ?_ _) | (with_reducible refine Below.drew ?_) | (with_reducible refine Below.setCell ?_ ?_ _) | (with_reducible refine Below.trans ?_ (Below.mono (by with_reducible assumption) ?_)) | go_size))); obtain ⟨kc9, kf9, s9⟩ := bfacts hb9; obtain ⟨kd9, kg9, _⟩ := bfacts hB9; go_simp; try rfl) | (apply light_yes (by rfl); intro w9 hb9; have hB9 : Below w.heap.size w w9 := (by (repeat' (first | (with_reducible exact Below.refl _ _) | (with_reducible assumption) | (with_reducible refine Below.alloc ?_ ?_ _) | (with_reducible refine below_drewN ?_ _) | (with_reducible refine Below.drew ?_) | (with_reducible refine Below.setCell ?_ ?_ _) | (with_reducible refine Below.trans ?_ (Below.mono (by with_reducible assumption) ?_)) | go_size))); obtain ⟨kc9, kf9, s9⟩ := bfacts hb9; obtain ⟨kd9, kg9, _⟩ := bfacts hB9; go_simp; try rfl)
    case hQ => exact fun _ _ _ h => h
    (try simp only [Act.put, List.setIfInBounds_toArray, List.set_cons_zero, List.set_cons_succ])
    apply trail_light
    case hi => (simp only [List.getElem?_toArray, List.getElem?_cons_zero, List.getElem?_cons_succ]; exact rfl)
    case hl => first | exact light_no (by rfl) | (apply light_plain rfl; intro w9 hb9; have hB9 : Below w.heap.size w w9 := (by (repeat' (first | (with_reducible exact Below.refl _ _) | (with_reducible assumption) | (with_reducible refine Below.alloc ?_ ?_ _) | (with_reducible refine below_drewN ?_ _) | (with_reducible refine Below.drew ?_) | (with_reducible refine Below.setCell ?_ ?_ _) | (with_reducible refine Below.trans ?_ (Below.mono (by with_reducible assumption) ?_)) | go_size))); obtain ⟨kc9, kf9, s9⟩ := bfacts hb9; obtain ⟨kd9, kg9, _⟩ := bfacts hB9; go_simp; try rfl) | (apply light_yes (by rfl); intro w9 hb9; have hB9 : Below w.heap.size w w9 := (by (repeat' (first | (with_reducible exact Below.refl _ _) | (with_reducible assumption) | (with_reducible refine Below.alloc ?_ ?_ _) | (with_reducible refine below_drewN ?_ _) | (with_reducible refine Below.drew ?_) | (with_reducible refine Below.setCell ?_ ?_ _) | (with_reducible refine Below.trans ?_ (Below.mono (by with_reducible assumption) ?_)) | go_size))); obtain ⟨kc9, kf9, s9⟩ := bfacts hb9; obtain ⟨kd9, kg9, _⟩ := bfacts hB9; go_simp; try rfl)
    case hQ => exact fun _ _ _ h => h
    (try simp only [Act.put, List.setIfInBounds_toArray, List.set_cons_zero, List.set_cons_succ])
    apply trail_heavy
    case hi => (simp only [List.getElem?_toArray, List.getElem?_cons_zero, List.getElem?_cons_succ]; exact rfl)
    go_wp2_with (fail)
    refine ⟨by (repeat' (first | (with_reducible exact Below.refl _ _) | (with_reducible assumption) | (with_reducible refine Below.alloc ?_ ?_ _) | (with_reducible refine below_drewN ?_ _) | (with_reducible refine Below.drew ?_) | (with_reducible refine Below.setCell ?_ ?_ _) | (with_reducible refine Below.trans ?_ (Below.mono (by with_reducible assumption) ?_)) | go_size)), ?_⟩
    apply trail_heavy
    case hi => (simp only [List.getElem?_toArray, List.getElem?_cons_zero, List.getElem?_cons_succ]; exact rfl)
    go_wp2_with (fail)
    refine ⟨by (repeat' (first | (with_reducible exact Below.refl _ _) | (with_reducible assumption) | (with_reducible refine Below.alloc ?_ ?_ _) | (with_reducible refine below_drewN ?_ _) | (with_reducible refine Below.drew ?_) | (with_reducible refine Below.setCell ?_ ?_ _) | (with_reducible refine Below.trans ?_ (Below.mono (by with_reducible assumption) ?_)) | go_size)), ?_⟩
    refine trail_nil ?_
    (try dsimp only)
    go_wp2_with fail
    refine bodyPost_ret (v := .agg #[.int .i64 0, .bool true, .slice Ax vs.length cx]) (by simp [results, Try.results59, go_sem]) rfl ?_
    exact ⟨rfl, by (repeat' (first | (with_reducible exact Below.refl _ _) | (with_reducible assumption) | (with_reducible refine Below.alloc ?_ ?_ _) | (with_reducible refine below_drewN ?_ _) | (with_reducible refine Below.drew ?_) | (with_reducible refine Below.setCell ?_ ?_ _) | (with_reducible refine Below.trans ?_ (Below.mono (by with_reducible assumption) ?_)) | go_size))⟩
end Go.Proofs.Ytljcgcllhcdleaa
