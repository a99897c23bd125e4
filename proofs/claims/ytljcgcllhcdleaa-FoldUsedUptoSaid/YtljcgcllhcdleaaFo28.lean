import Derived.Test.YtljcgcllhcdleaaFo25
import Derived.Test.YtljcgcllhcdleaaFo10
import Derived.Deep.DeepCutAuto
import Derived.Test.YtljcgcllhcdleaaFo14
import Derived.Test.YtljcgcllhcdleaaFo13
/- Chapter 7, the reference: how a machine has ended. -/
namespace Go.Proofs.Ytljcgcllhcdleaa
open Go.RowKit
set_option linter.unusedSimpArgs false
set_option linter.unusedVariables false
set_option maxRecDepth 4000 in
set_option maxHeartbeats 1600000 in
theorem ended_any (i : Ev.Instr) (s : Ev.St) (bv mb : Nat) (va : Value) (vs : List Value) (hi : Nat) (w : World) (hM : MAt w bv mb va vs hi s) (hop : (i.op = 20 ∧ inR s.v.length i.a) ∨ i.op = 21) :
    Calls Try.prog 59 #[.pointer (some ⟨mb, 0, none⟩), .agg #[.int .i64 i.op, .int .i64 i.d, .int .i64 i.a, .int .i64 i.b, .int .i64 i.c, .int .i64 i.imm]] w fun e w' => e = .returned (.agg #[.int .i64 (Ev.endOf i s).word, .bool (Ev.endOf i s).trap, va]) ∧ Below w.heap.size w w' := by
  have HM := Lib.hid hM
  have m0 := hM.m0
  have m1 := hM.m1
  have hbm := hM.bm
  have hmh := hM.mh
  have hle := hM.le
  clear hM
  obtain ⟨Ax, cx, rfl, _, _⟩ := SL.form (SL.of_own HM.out.arrs.outer)
  have hbv : bv < w.heap.size := by omega
  have hmb : mb < w.heap.size := by omega
  rcases hop with ⟨h, ha⟩ | h
  · have ca := HM.out.cell ha
    have ha0 := ha.1
    have ha1 := ha.2
    have hw : (Ev.endOf i s).word = Ev.val s.v i.a := by unfold Ev.endOf; simp only; rw [if_neg (by omega)]
    have ht : (Ev.endOf i s).trap = false := by unfold Ev.endOf; simp [h]
    rw [hw, ht]
    clear ha hw ht
    generalize Ev.val s.v i.a = x at *
    have HOP := Lib.hid h
    clear h
    go_enter Try.func59, Try.ntmps59
    go_wp2_with fail
    have h21 : (i.op == 21) = false := by simp [HOP.out]
    refine wp_region_trail (fun w' => Below (((w.alloc (.cells #[.int .i64 i.op, .int .i64 i.d, .int .i64 i.a, .int .i64 i.b, .int .i64 i.c, .int .i64 i.imm] 39)).alloc (.cells #[.int .i64 0, .bool false, .slice none 0 0] 51)).heap.size) ((w.alloc (.cells #[.int .i64 i.op, .int .i64 i.d, .int .i64 i.a, .int .i64 i.b, .int .i64 i.c, .int .i64 i.imm] 39)).alloc (.cells #[.int .i64 0, .bool false, .slice none 0 0] 51)) w') [(0, true), (1, true), (2, true), (3, true), (4, true), (5, true), (6, true), (7, true), (8, false), (9, false)] (by kernel_rfl) (by kernel_rfl) (by kernel_rfl) (by decide) (by (repeat' first | with_reducible (first | exact Below.refl _ _ | assumption | refine Below.alloc ?_ ?_ _ | refine below_drewN ?_ _ | refine Below.drew ?_ | refine Below.setCell ?_ ?_ _ | refine Below.trans ?_ (Below.mono (by with_reducible assumption) ?_)) | go_size)) ?_
    apply trail_light
    case hi => (simp only [List.getElem?_toArray, List.getElem?_cons_zero, List.getElem?_cons_succ]; exact rfl)
    case hl => first | exact light_no (by rfl) | ((first | apply light_plain rfl | apply light_yes (by rfl)); intro w9 hb9; have hB9 : Below w.heap.size w w9 := (by (repeat' first | with_reducible (first | exact Below.refl _ _ | assumption | refine Below.alloc ?_ ?_ _ | refine below_drewN ?_ _ | refine Below.drew ?_ | refine Below.setCell ?_ ?_ _ | refine Below.trans ?_ (Below.mono (by with_reducible assumption) ?_)) | go_size)); obtain ⟨kc9, kf9, s9⟩ := bfacts hb9; obtain ⟨kd9, kg9, _⟩ := bfacts hB9; go_simp; try rfl)
    case hQ => exact fun _ _ _ h => h
    (try simp only [Act.put, List.setIfInBounds_toArray, List.set_cons_zero, List.set_cons_succ])
    apply trail_light
    case hi => (simp only [List.getElem?_toArray, List.getElem?_cons_zero, List.getElem?_cons_succ]; exact rfl)
    case hl => first | exact light_no (by rfl) | ((first | apply light_plain rfl | apply light_yes (by rfl)); intro w9 hb9; have hB9 : Below w.heap.size w w9 := (by (repeat' first | with_reducible (first | exact Below.refl _ _ | assumption | refine Below.alloc ?_ ?_ _ | refine below_drewN ?_ _ | refine Below.drew ?_ | refine Below.setCell ?_ ?_ _ | refine Below.trans ?_ (Below.mono (by with_reducible assumption) ?_)) | go_size)); obtain ⟨kc9, kf9, s9⟩ := bfacts hb9; obtain ⟨kd9, kg9, _⟩ := bfacts hB9; go_simp; try rfl)
    case hQ => exact fun _ _ _ h => h
    (try simp only [Act.put, List.setIfInBounds_toArray, List.set_cons_zero, List.set_cons_succ])
    apply trail_light
    case hi => (simp only [List.getElem?_toArray, List.getElem?_cons_zero, List.getElem?_cons_succ]; exact rfl)
    case hl => first | exact light_no (by rfl) | ((first | apply light_plain rfl | apply light_yes (by rfl)); intro w9 hb9; have hB9 : Below w.heap.size w w9 := (by (repeat' first | with_reducible (first | exact Below.refl _ _ | assumption | refine Below.alloc ?_ ?_ _ | refine below_drewN ?_ _ | refine Below.drew ?_ | refine Below.setCell ?_ ?_ _ | refine Below.trans ?_ (Below.mono (by with_reducible assumption) ?_)) | go_size)); obtain ⟨kc9, kf9, s9⟩ := bfacts hb9; obtain ⟨kd9, kg9, _⟩ := bfacts hB9; go_simp; try rfl)
    case hQ => exact fun _ _ _ h => h
    (try simp only [Act.put, List.setIfInBounds_toArray, List.set_cons_zero, List.set_cons_succ])
    apply trail_light
    case hi => (simp only [List.getElem?_toArray, List.getElem?_cons_zero, List.getElem?_cons_succ]; exact rfl)
    case hl => first | exact light_no (by rfl) | ((first | apply light_plain rfl | apply light_yes (by rfl)); intro w9 hb9; have hB9 : Below w.heap.size w w9 := (by (repeat' first | with_reducible (first | exact Below.refl _ _ | assumption | refine Below.alloc ?_ ?_ _ | refine below_drewN ?_ _ | refine Below.drew ?_ | refine Below.setCell ?_ ?_ _ | refine Below.trans ?_ (Below.mono (by with_reducible assumption) ?_)) | go_size)); obtain ⟨kc9, kf9, s9⟩ := bfacts hb9; obtain ⟨kd9, kg9, _⟩ := bfacts hB9; go_simp; try rfl)
    case hQ => exact fun _ _ _ h => h
    (try simp only [Act.put, List.setIfInBounds_toArray, List.set_cons_zero, List.set_cons_succ])
    apply trail_light
    case hi => (simp only [List.getElem?_toArray, List.getElem?_cons_zero, List.getElem?_cons_succ]; exact rfl)
    case hl => first | exact light_no (by rfl) | ((first | apply light_plain rfl | apply light_yes (by rfl)); intro w9 hb9; have hB9 : Below w.heap.size w w9 := (by (repeat' first | with_reducible (first | exact Below.refl _ _ | assumption | refine Below.alloc ?_ ?_ _ | refine below_drewN ?_ _ | refine Below.drew ?_ | refine Below.setCell ?_ ?_ _ | refine Below.trans ?_ (Below.mono (by with_reducible assumption) ?_)) | go_size)); obtain ⟨kc9, kf9, s9⟩ := bfacts hb9; obtain ⟨kd9, kg9, _⟩ := bfacts hB9; go_simp; try rfl)
    case hQ => exact fun _ _ _ h => h
    (try simp only [Act.put, List.setIfInBounds_toArray, List.set_cons_zero, List.set_cons_succ])
    apply trail_light
    case hi => (simp only [List.getElem?_toArray, List.getElem?_cons_zero, List.getElem?_cons_succ]; exact rfl)
    case hl => first | exact light_no (by rfl) | ((first | apply light_plain rfl | apply light_yes (by rfl)); intro w9 hb9; have hB9 : Below w.heap.size w w9 := (by (repeat' first | with_reducible (first | exact Below.refl _ _ | assumption | refine Below.alloc ?_ ?_ _ | refine below_drewN ?_ _ | refine Below.drew ?_ | refine Below.setCell ?_ ?_ _ | refine Below.trans ?_ (Below.mono (by with_reducible assumption) ?_)) | go_size)); obtain ⟨kc9, kf9, s9⟩ := bfacts hb9; obtain ⟨kd9, kg9, _⟩ := bfacts hB9; go_simp; try rfl)
    case hQ => exact fun _ _ _ h => h
    (try simp only [Act.put, List.setIfInBounds_toArray, List.set_cons_zero, List.set_cons_succ])
    apply trail_light
    case hi => (simp only [List.getElem?_toArray, List.getElem?_cons_zero, List.getElem?_cons_succ]; exact rfl)
    case hl => first | exact light_no (by rfl) | ((first | apply light_plain rfl | apply light_yes (by rfl)); intro w9 hb9; have hB9 : Below w.heap.size w w9 := (by (repeat' first | with_reducible (first | exact Below.refl _ _ | assumption | refine Below.alloc ?_ ?_ _ | refine below_drewN ?_ _ | refine Below.drew ?_ | refine Below.setCell ?_ ?_ _ | refine Below.trans ?_ (Below.mono (by with_reducible assumption) ?_)) | go_size)); obtain ⟨kc9, kf9, s9⟩ := bfacts hb9; obtain ⟨kd9, kg9, _⟩ := bfacts hB9; go_simp; try rfl)
    case hQ => exact fun _ _ _ h => h
    (try simp only [Act.put, List.setIfInBounds_toArray, List.set_cons_zero, List.set_cons_succ])
    apply trail_light
    case hi => (simp only [List.getElem?_toArray, List.getElem?_cons_zero, List.getElem?_cons_succ]; exact rfl)
    case hl => first | exact light_no (by rfl) | ((first | apply light_plain rfl | apply light_yes (by rfl)); intro w9 hb9; have hB9 : Below w.heap.size w w9 := (by (repeat' first | with_reducible (first | exact Below.refl _ _ | assumption | refine Below.alloc ?_ ?_ _ | refine below_drewN ?_ _ | refine Below.drew ?_ | refine Below.setCell ?_ ?_ _ | refine Below.trans ?_ (Below.mono (by with_reducible assumption) ?_)) | go_size)); obtain ⟨kc9, kf9, s9⟩ := bfacts hb9; obtain ⟨kd9, kg9, _⟩ := bfacts hB9; go_simp; try rfl)
    case hQ => exact fun _ _ _ h => h
    (try simp only [Act.put, List.setIfInBounds_toArray, List.set_cons_zero, List.set_cons_succ])
    apply trail_heavy
    case hi => (simp only [List.getElem?_toArray, List.getElem?_cons_zero, List.getElem?_cons_succ]; exact rfl)
    go_wp2_with (fail)
    refine ⟨by (repeat' first | with_reducible (first | exact Below.refl _ _ | assumption | refine Below.alloc ?_ ?_ _ | refine below_drewN ?_ _ | refine Below.drew ?_ | refine Below.setCell ?_ ?_ _ | refine Below.trans ?_ (Below.mono (by with_reducible assumption) ?_)) | go_size), ?_⟩
    apply trail_heavy
    case hi => (simp only [List.getElem?_toArray, List.getElem?_cons_zero, List.getElem?_cons_succ]; exact rfl)
    go_wp2_with (fail)
    refine ⟨by (repeat' first | with_reducible (first | exact Below.refl _ _ | assumption | refine Below.alloc ?_ ?_ _ | refine below_drewN ?_ _ | refine Below.drew ?_ | refine Below.setCell ?_ ?_ _ | refine Below.trans ?_ (Below.mono (by with_reducible assumption) ?_)) | go_size), ?_⟩
    refine trail_nil ?_
    (try dsimp only)
    go_wp2_with fail
    have BZ : Below w.heap.size w ((((w.alloc (.cells #[.int .i64 i.op, .int .i64 i.d, .int .i64 i.a, .int .i64 i.b, .int .i64 i.c, .int .i64 i.imm] 39)).alloc (.cells #[.int .i64 0, .bool false, .slice none 0 0] 51)).alloc (.cells #[.int .i64 0, .bool false, .slice Ax vs.length cx] 51)).drew) := by (repeat' first | with_reducible (first | exact Below.refl _ _ | assumption | refine Below.alloc ?_ ?_ _ | refine below_drewN ?_ _ | refine Below.drew ?_ | refine Below.setCell ?_ ?_ _ | refine Below.trans ?_ (Below.mono (by with_reducible assumption) ?_)) | go_size)
    have q0 : ((((w.alloc (.cells #[.int .i64 i.op, .int .i64 i.d, .int .i64 i.a, .int .i64 i.b, .int .i64 i.c, .int .i64 i.imm] 39)).alloc (.cells #[.int .i64 0, .bool false, .slice none 0 0] 51)).alloc (.cells #[.int .i64 0, .bool false, .slice Ax vs.length cx] 51)).drew).cell? ⟨mb, 0, none⟩ = some (.slice (some ⟨bv, 0, none⟩) s.v.length s.v.length) := (BZ.cell (p := ⟨mb, 0, none⟩) (by show mb < _; omega)).trans m0
    have q1 : ((((w.alloc (.cells #[.int .i64 i.op, .int .i64 i.d, .int .i64 i.a, .int .i64 i.b, .int .i64 i.c, .int .i64 i.imm] 39)).alloc (.cells #[.int .i64 0, .bool false, .slice none 0 0] 51)).alloc (.cells #[.int .i64 0, .bool false, .slice Ax vs.length cx] 51)).drew).cell? ⟨bv, i.a.toNat, none⟩ = some (.int .i64 x) := (BZ.cell (p := ⟨bv, i.a.toNat, none⟩) (by show bv < _; omega)).trans ca
    have q2 : ((((w.alloc (.cells #[.int .i64 i.op, .int .i64 i.d, .int .i64 i.a, .int .i64 i.b, .int .i64 i.c, .int .i64 i.imm] 39)).alloc (.cells #[.int .i64 0, .bool false, .slice none 0 0] 51)).alloc (.cells #[.int .i64 0, .bool false, .slice Ax vs.length cx] 51)).drew).cell? ⟨w.heap.size, 2, none⟩ = some (.int .i64 i.a) := by go_simp
    have r0 : ((((w.alloc (.cells #[.int .i64 i.op, .int .i64 i.d, .int .i64 i.a, .int .i64 i.b, .int .i64 i.c, .int .i64 i.imm] 39)).alloc (.cells #[.int .i64 0, .bool false, .slice none 0 0] 51)).alloc (.cells #[.int .i64 0, .bool false, .slice Ax vs.length cx] 51)).drew).cell? ⟨w.heap.size + 1, 0, none⟩ = some (.int .i64 0) := by go_simp
    have r1 : ((((w.alloc (.cells #[.int .i64 i.op, .int .i64 i.d, .int .i64 i.a, .int .i64 i.b, .int .i64 i.c, .int .i64 i.imm] 39)).alloc (.cells #[.int .i64 0, .bool false, .slice none 0 0] 51)).alloc (.cells #[.int .i64 0, .bool false, .slice Ax vs.length cx] 51)).drew).cell? ⟨w.heap.size + 1, 1, none⟩ = some (.bool false) := by go_simp
    have r2 : ((((w.alloc (.cells #[.int .i64 i.op, .int .i64 i.d, .int .i64 i.a, .int .i64 i.b, .int .i64 i.c, .int .i64 i.imm] 39)).alloc (.cells #[.int .i64 0, .bool false, .slice none 0 0] 51)).alloc (.cells #[.int .i64 0, .bool false, .slice Ax vs.length cx] 51)).drew).cell? ⟨w.heap.size + 1, 2, none⟩ = some (.slice none 0 0) := by go_simp
    have z0 : ((((w.alloc (.cells #[.int .i64 i.op, .int .i64 i.d, .int .i64 i.a, .int .i64 i.b, .int .i64 i.c, .int .i64 i.imm] 39)).alloc (.cells #[.int .i64 0, .bool false, .slice none 0 0] 51)).alloc (.cells #[.int .i64 0, .bool false, .slice Ax vs.length cx] 51)).drew).cell? ⟨w.heap.size + 1 + 1, 0, none⟩ = some (.int .i64 0) := by go_simp
    have z1 : ((((w.alloc (.cells #[.int .i64 i.op, .int .i64 i.d, .int .i64 i.a, .int .i64 i.b, .int .i64 i.c, .int .i64 i.imm] 39)).alloc (.cells #[.int .i64 0, .bool false, .slice none 0 0] 51)).alloc (.cells #[.int .i64 0, .bool false, .slice Ax vs.length cx] 51)).drew).cell? ⟨w.heap.size + 1 + 1, 1, none⟩ = some (.bool false) := by go_simp
    have z2 : ((((w.alloc (.cells #[.int .i64 i.op, .int .i64 i.d, .int .i64 i.a, .int .i64 i.b, .int .i64 i.c, .int .i64 i.imm] 39)).alloc (.cells #[.int .i64 0, .bool false, .slice none 0 0] 51)).alloc (.cells #[.int .i64 0, .bool false, .slice Ax vs.length cx] 51)).drew).cell? ⟨w.heap.size + 1 + 1, 2, none⟩ = some (.slice Ax vs.length cx) := by go_simp
    have rf : ∀ j, ((((w.alloc (.cells #[.int .i64 i.op, .int .i64 i.d, .int .i64 i.a, .int .i64 i.b, .int .i64 i.c, .int .i64 i.imm] 39)).alloc (.cells #[.int .i64 0, .bool false, .slice none 0 0] 51)).alloc (.cells #[.int .i64 0, .bool false, .slice Ax vs.length cx] 51)).drew).frozen? ⟨w.heap.size + 1, j, none⟩ = false := by intro j; go_simp
    have zf : ∀ j, ((((w.alloc (.cells #[.int .i64 i.op, .int .i64 i.d, .int .i64 i.a, .int .i64 i.b, .int .i64 i.c, .int .i64 i.imm] 39)).alloc (.cells #[.int .i64 0, .bool false, .slice none 0 0] 51)).alloc (.cells #[.int .i64 0, .bool false, .slice Ax vs.length cx] 51)).drew).frozen? ⟨w.heap.size + 1 + 1, j, none⟩ = false := by intro j; go_simp
    have sZ : w.heap.size + 1 + 1 < ((((w.alloc (.cells #[.int .i64 i.op, .int .i64 i.d, .int .i64 i.a, .int .i64 i.b, .int .i64 i.c, .int .i64 i.imm] 39)).alloc (.cells #[.int .i64 0, .bool false, .slice none 0 0] 51)).alloc (.cells #[.int .i64 0, .bool false, .slice Ax vs.length cx] 51)).drew).heap.size := by simp
    clear ca m0 m1 hbv hmb
    generalize (((w.alloc (.cells #[.int .i64 i.op, .int .i64 i.d, .int .i64 i.a, .int .i64 i.b, .int .i64 i.c, .int .i64 i.imm] 39)).alloc (.cells #[.int .i64 0, .bool false, .slice none 0 0] 51)).alloc (.cells #[.int .i64 0, .bool false, .slice Ax vs.length cx] 51)).drew = wZ at *
    refine wp_region_store (fun w' => w' = (wZ).drew) (fun w' => w' = wZ.drew.setCell ⟨w.heap.size + 1 + 1, 0, none⟩ (.int .i64 x)) 9 [] (by kernel_rfl) (by kernel_rfl) (by kernel_rfl) (by kernel_rfl) rfl ?_
    apply chainS_mid (by rfl)
    case h => (rintro w9 rfl; go_wp2_with fail; (try (fail; go_wp2_with fail)); refine settled_intro (S := fun w' => w' = (wZ).drew) ?_; rfl)
    case h1 => (intro hk; exact absurd hk (by decide))
    case hp => first | rfl | (simp only [*]; done) | (simp only [*]; rfl)
    apply chainS_mid (by rfl)
    case h => (rintro w9 rfl; go_wp2_with fail; (try (fail; go_wp2_with fail)); refine settled_intro (S := fun w' => w' = (wZ).drew) ?_; rfl)
    case h1 => (intro hk; exact absurd hk (by decide))
    case hp => first | rfl | (simp only [*]; done) | (simp only [*]; rfl)
    apply chainS_mid (by rfl)
    case h => (rintro w9 rfl; go_wp2_with fail; (try (fail; go_wp2_with fail)); refine settled_intro (S := fun w' => w' = (wZ).drew) ?_; rfl)
    case h1 => (intro hk; exact absurd hk (by decide))
    case hp => first | rfl | (simp only [*]; done) | (simp only [*]; rfl)
    apply chainS_mid (by rfl)
    case h => (rintro w9 rfl; go_wp2_with fail; (try (fail; go_wp2_with fail)); refine settled_intro (S := fun w' => w' = (wZ).drew) ?_; rfl)
    case h1 => (intro hk; exact absurd hk (by decide))
    case hp => first | rfl | (simp only [*]; done) | (simp only [*]; rfl)
    apply chainS_mid (by rfl)
    case h => (rintro w9 rfl; go_wp2_with fail; (try (fail; go_wp2_with fail)); refine settled_intro (S := fun w' => w' = (wZ).drew) ?_; rfl)
    case h1 => (intro hk; exact absurd hk (by decide))
    case hp => first | rfl | (simp only [*]; done) | (simp only [*]; rfl)
    apply chainS_mid (by rfl)
    case h => (rintro w9 rfl; go_wp2_with fail; (try (fail; go_wp2_with fail)); refine settled_intro (S := fun w' => w' = (wZ).drew) ?_; rfl)
    case h1 => (intro hk; exact absurd hk (by decide))
    case hp => first | rfl | (simp only [*]; done) | (simp only [*]; rfl)
    apply chainS_mid (by rfl)
    case h => (rintro w9 rfl; go_wp2_with fail; (try (fail; go_wp2_with fail)); refine settled_intro (S := fun w' => w' = (wZ).drew) ?_; rfl)
    case h1 => (intro hk; exact absurd hk (by decide))
    case hp => first | rfl | (simp only [*]; done) | (simp only [*]; rfl)
    apply chainS_mid (by rfl)
    case h => (rintro w9 rfl; go_wp2_with fail; (try (fail; go_wp2_with fail)); refine settled_intro (S := fun w' => w' = (wZ).drew) ?_; rfl)
    case h1 => (intro hk; exact absurd hk (by decide))
    case hp => first | rfl | (simp only [*]; done) | (simp only [*]; rfl)
    apply chainS_mid (by rfl)
    case h => (rintro w9 rfl; go_wp2_with fail; (try (fail; go_wp2_with fail)); refine settled_intro (S := fun w' => w' = (wZ).drew) ?_; rfl)
    case h1 => (intro hk; exact absurd hk (by decide))
    case hp => first | rfl | (simp only [*]; done) | (simp only [*]; rfl)
    apply chainS_store (by rfl)
    case h => (rintro w9 rfl; go_wp2_with fail; refine settled_intro (S := fun w' => w' = wZ.drew.setCell ⟨w.heap.size + 1 + 1, 0, none⟩ (.int .i64 x)) ?_; rfl)
    case hp => first | rfl | (simp only [*]; done) | (simp only [*]; rfl)
    refine chainS.nil ?_
    rintro _ rfl
    (try dsimp only)
    go_wp2_with fail
    refine bodyPost_ret (v := .agg #[.int .i64 x, .bool false, .slice Ax vs.length cx]) (by simp [results, Try.results59, go_sem, r0, r1, r2]) rfl ?_
    exact ⟨rfl, by (repeat' first | with_reducible (first | exact Below.refl _ _ | assumption | refine Below.alloc ?_ ?_ _ | refine below_drewN ?_ _ | refine Below.drew ?_ | refine Below.setCell ?_ ?_ _ | refine Below.trans ?_ (Below.mono (by with_reducible assumption) ?_)) | go_size)⟩
  · have hw : (Ev.endOf i s).word = 0 := by unfold Ev.endOf; simp only; rw [if_pos h]
    have ht : (Ev.endOf i s).trap = true := by unfold Ev.endOf; simp [h]
    rw [hw, ht]
    clear hw ht
    have HOP := Lib.hid h
    clear h
    go_enter Try.func59, Try.ntmps59
    go_wp2_with fail
    have h21 : (i.op == 21) = true := by simp [HOP.out]
    refine wp_region_trail (fun w' => Below (((w.alloc (.cells #[.int .i64 i.op, .int .i64 i.d, .int .i64 i.a, .int .i64 i.b, .int .i64 i.c, .int .i64 i.imm] 39)).alloc (.cells #[.int .i64 0, .bool false, .slice none 0 0] 51)).heap.size) ((w.alloc (.cells #[.int .i64 i.op, .int .i64 i.d, .int .i64 i.a, .int .i64 i.b, .int .i64 i.c, .int .i64 i.imm] 39)).alloc (.cells #[.int .i64 0, .bool false, .slice none 0 0] 51)) w') [(0, true), (1, true), (2, true), (3, true), (4, true), (5, true), (6, true), (7, true), (8, false), (9, false)] (by kernel_rfl) (by kernel_rfl) (by kernel_rfl) (by decide) (by (repeat' first | with_reducible (first | exact Below.refl _ _ | assumption | refine Below.alloc ?_ ?_ _ | refine below_drewN ?_ _ | refine Below.drew ?_ | refine Below.setCell ?_ ?_ _ | refine Below.trans ?_ (Below.mono (by with_reducible assumption) ?_)) | go_size)) ?_
    apply trail_light
    case hi => (simp only [List.getElem?_toArray, List.getElem?_cons_zero, List.getElem?_cons_succ]; exact rfl)
    case hl => first | exact light_no (by rfl) | ((first | apply light_plain rfl | apply light_yes (by rfl)); intro w9 hb9; have hB9 : Below w.heap.size w w9 := (by (repeat' first | with_reducible (first | exact Below.refl _ _ | assumption | refine Below.alloc ?_ ?_ _ | refine below_drewN ?_ _ | refine Below.drew ?_ | refine Below.setCell ?_ ?_ _ | refine Below.trans ?_ (Below.mono (by with_reducible assumption) ?_)) | go_size)); obtain ⟨kc9, kf9, s9⟩ := bfacts hb9; obtain ⟨kd9, kg9, _⟩ := bfacts hB9; go_simp; try rfl)
    case hQ => exact fun _ _ _ h => h
    (try simp only [Act.put, List.setIfInBounds_toArray, List.set_cons_zero, List.set_cons_succ])
    apply trail_light
    case hi => (simp only [List.getElem?_toArray, List.getElem?_cons_zero, List.getElem?_cons_succ]; exact rfl)
    case hl => first | exact light_no (by rfl) | ((first | apply light_plain rfl | apply light_yes (by rfl)); intro w9 hb9; have hB9 : Below w.heap.size w w9 := (by (repeat' first | with_reducible (first | exact Below.refl _ _ | assumption | refine Below.alloc ?_ ?_ _ | refine below_drewN ?_ _ | refine Below.drew ?_ | refine Below.setCell ?_ ?_ _ | refine Below.trans ?_ (Below.mono (by with_reducible assumption) ?_)) | go_size)); obtain ⟨kc9, kf9, s9⟩ := bfacts hb9; obtain ⟨kd9, kg9, _⟩ := bfacts hB9; go_simp; try rfl)
    case hQ => exact fun _ _ _ h => h
    (try simp only [Act.put, List.setIfInBounds_toArray, List.set_cons_zero, List.set_cons_succ])
    apply trail_light
    case hi => (simp only [List.getElem?_toArray, List.getElem?_cons_zero, List.getElem?_cons_succ]; exact rfl)
    case hl => first | exact light_no (by rfl) | ((first | apply light_plain rfl | apply light_yes (by rfl)); intro w9 hb9; have hB9 : Below w.heap.size w w9 := (by (repeat' first | with_reducible (first | exact Below.refl _ _ | assumption | refine Below.alloc ?_ ?_ _ | refine below_drewN ?_ _ | refine Below.drew ?_ | refine Below.setCell ?_ ?_ _ | refine Below.trans ?_ (Below.mono (by with_reducible assumption) ?_)) | go_size)); obtain ⟨kc9, kf9, s9⟩ := bfacts hb9; obtain ⟨kd9, kg9, _⟩ := bfacts hB9; go_simp; try rfl)
    case hQ => exact fun _ _ _ h => h
    (try simp only [Act.put, List.setIfInBounds_toArray, List.set_cons_zero, List.set_cons_succ])
    apply trail_light
    case hi => (simp only [List.getElem?_toArray, List.getElem?_cons_zero, List.getElem?_cons_succ]; exact rfl)
    case hl => first | exact light_no (by rfl) | ((first | apply light_plain rfl | apply light_yes (by rfl)); intro w9 hb9; have hB9 : Below w.heap.size w w9 := (by (repeat' first | with_reducible (first | exact Below.refl _ _ | assumption | refine Below.alloc ?_ ?_ _ | refine below_drewN ?_ _ | refine Below.drew ?_ | refine Below.setCell ?_ ?_ _ | refine Below.trans ?_ (Below.mono (by with_reducible assumption) ?_)) | go_size)); obtain ⟨kc9, kf9, s9⟩ := bfacts hb9; obtain ⟨kd9, kg9, _⟩ := bfacts hB9; go_simp; try rfl)
    case hQ => exact fun _ _ _ h => h
    (try simp only [Act.put, List.setIfInBounds_toArray, List.set_cons_zero, List.set_cons_succ])
    apply trail_light
    case hi => (simp only [List.getElem?_toArray, List.getElem?_cons_zero, List.getElem?_cons_succ]; exact rfl)
    case hl => first | exact light_no (by rfl) | ((first | apply light_plain rfl | apply light_yes (by rfl)); intro w9 hb9; have hB9 : Below w.heap.size w w9 := (by (repeat' first | with_reducible (first | exact Below.refl _ _ | assumption | refine Below.alloc ?_ ?_ _ | refine below_drewN ?_ _ | refine Below.drew ?_ | refine Below.setCell ?_ ?_ _ | refine Below.trans ?_ (Below.mono (by with_reducible assumption) ?_)) | go_size)); obtain ⟨kc9, kf9, s9⟩ := bfacts hb9; obtain ⟨kd9, kg9, _⟩ := bfacts hB9; go_simp; try rfl)
    case hQ => exact fun _ _ _ h => h
    (try simp only [Act.put, List.setIfInBounds_toArray, List.set_cons_zero, List.set_cons_succ])
    apply trail_light
    case hi => (simp only [List.getElem?_toArray, List.getElem?_cons_zero, List.getElem?_cons_succ]; exact rfl)
    case hl => first | exact light_no (by rfl) | ((first | apply light_plain rfl | apply light_yes (by rfl)); intro w9 hb9; have hB9 : Below w.heap.size w w9 := (by (repeat' first | with_reducible (first | exact Below.refl _ _ | assumption | refine Below.alloc ?_ ?_ _ | refine below_drewN ?_ _ | refine Below.drew ?_ | refine Below.setCell ?_ ?_ _ | refine Below.trans ?_ (Below.mono (by with_reducible assumption) ?_)) | go_size)); obtain ⟨kc9, kf9, s9⟩ := bfacts hb9; obtain ⟨kd9, kg9, _⟩ := bfacts hB9; go_simp; try rfl)
    case hQ => exact fun _ _ _ h => h
    (try simp only [Act.put, List.setIfInBounds_toArray, List.set_cons_zero, List.set_cons_succ])
    apply trail_light
    case hi => (simp only [List.getElem?_toArray, List.getElem?_cons_zero, List.getElem?_cons_succ]; exact rfl)
    case hl => first | exact light_no (by rfl) | ((first | apply light_plain rfl | apply light_yes (by rfl)); intro w9 hb9; have hB9 : Below w.heap.size w w9 := (by (repeat' first | with_reducible (first | exact Below.refl _ _ | assumption | refine Below.alloc ?_ ?_ _ | refine below_drewN ?_ _ | refine Below.drew ?_ | refine Below.setCell ?_ ?_ _ | refine Below.trans ?_ (Below.mono (by with_reducible assumption) ?_)) | go_size)); obtain ⟨kc9, kf9, s9⟩ := bfacts hb9; obtain ⟨kd9, kg9, _⟩ := bfacts hB9; go_simp; try rfl)
    case hQ => exact fun _ _ _ h => h
    (try simp only [Act.put, List.setIfInBounds_toArray, List.set_cons_zero, List.set_cons_succ])
    apply trail_light
    case hi => (simp only [List.getElem?_toArray, List.getElem?_cons_zero, List.getElem?_cons_succ]; exact rfl)
    case hl => first | exact light_no (by rfl) | ((first | apply light_plain rfl | apply light_yes (by rfl)); intro w9 hb9; have hB9 : Below w.heap.size w w9 := (by (repeat' first | with_reducible (first | exact Below.refl _ _ | assumption | refine Below.alloc ?_ ?_ _ | refine below_drewN ?_ _ | refine Below.drew ?_ | refine Below.setCell ?_ ?_ _ | refine Below.trans ?_ (Below.mono (by with_reducible assumption) ?_)) | go_size)); obtain ⟨kc9, kf9, s9⟩ := bfacts hb9; obtain ⟨kd9, kg9, _⟩ := bfacts hB9; go_simp; try rfl)
    case hQ => exact fun _ _ _ h => h
    (try simp only [Act.put, List.setIfInBounds_toArray, List.set_cons_zero, List.set_cons_succ])
    apply trail_heavy
    case hi => (simp only [List.getElem?_toArray, List.getElem?_cons_zero, List.getElem?_cons_succ]; exact rfl)
    go_wp2_with (fail)
    refine ⟨by (repeat' first | with_reducible (first | exact Below.refl _ _ | assumption | refine Below.alloc ?_ ?_ _ | refine below_drewN ?_ _ | refine Below.drew ?_ | refine Below.setCell ?_ ?_ _ | refine Below.trans ?_ (Below.mono (by with_reducible assumption) ?_)) | go_size), ?_⟩
    apply trail_heavy
    case hi => (simp only [List.getElem?_toArray, List.getElem?_cons_zero, List.getElem?_cons_succ]; exact rfl)
    go_wp2_with (fail)
    refine ⟨by (repeat' first | with_reducible (first | exact Below.refl _ _ | assumption | refine Below.alloc ?_ ?_ _ | refine below_drewN ?_ _ | refine Below.drew ?_ | refine Below.setCell ?_ ?_ _ | refine Below.trans ?_ (Below.mono (by with_reducible assumption) ?_)) | go_size), ?_⟩
    refine trail_nil ?_
    (try dsimp only)
    go_wp2_with fail
    refine bodyPost_ret (v := .agg #[.int .i64 0, .bool true, .slice Ax vs.length cx]) (by simp [results, Try.results59, go_sem]) rfl ?_
    exact ⟨rfl, by (repeat' first | with_reducible (first | exact Below.refl _ _ | assumption | refine Below.alloc ?_ ?_ _ | refine below_drewN ?_ _ | refine Below.drew ?_ | refine Below.setCell ?_ ?_ _ | refine Below.trans ?_ (Below.mono (by with_reducible assumption) ?_)) | go_size)⟩
end Go.Proofs.Ytljcgcllhcdleaa
/- Chapter 2, the reference: what is wrong with a table. -/
namespace Ev
def opsMost : List Int := [0, 3, 3, 3, 3, 3, 3, 3, 3, 3, 3, 3, 3, 7, 0, 1, 1, 3]
theorem opsMost_at : ∀ j : Nat, j < 18 → opsMost[j]? = some (most (j : Int)) := by decide
end Ev
namespace Go.Proofs.Ytljcgcllhcdleaa
open Go.RowKit
set_option linter.unusedSimpArgs false
set_option linter.unusedVariables false
theorem or_most (x m : Int) (hx : -9223372036854775808 ≤ x ∧ x ≤ 9223372036854775807) (hm : 0 ≤ m ∧ m ≤ 7) : (bits .or .i64 x m != m) = !Ev.subBits x m := by
  obtain ⟨k, rfl⟩ : ∃ k : Nat, m = k := ⟨m.toNat, by omega⟩
  by_cases h0 : 0 ≤ x
  · obtain ⟨n, rfl⟩ : ∃ n : Nat, x = n := ⟨x.toNat, by omega⟩
    rw [(bits_nat .i64 63 (by decide) wraps63 n k (by omega) (by omega)).2]
    unfold Ev.subBits
    simp only [Int.toNat_natCast, decide_eq_true h0, Bool.true_and]
    by_cases h : n ||| k = k
    · rw [h]; simp
    · have : ((n ||| k : Nat) : Int) ≠ (k : Int) := fun e => h (by exact_mod_cast e)
      have e1 : (((n ||| k : Nat) : Int) != (k : Int)) = true := bne_iff_ne.2 this
      have e2 : (n ||| k == k) = false := beq_eq_false_iff_ne.2 h
      rw [e1, e2]
      rfl
  · have hs : Ev.subBits x k = false := by
      unfold Ev.subBits
      simp [h0]
    rw [hs]
    have hu : bits .or .i64 x k < 0 := by
      have e1 : (BitVec.ofInt 64 x).toNat = (x + 18446744073709551616).toNat := by
        simp only [BitVec.toNat_ofInt]
        congr 1
        omega
      have h1 : (BitVec.ofInt 64 x).toNat ≤ (BitVec.ofInt 64 x ||| BitVec.ofInt 64 (k : Int)).toNat := by
        rw [BitVec.toNat_or]
        exact Nat.left_le_or
      have h2 : (BitVec.ofInt 64 x ||| BitVec.ofInt 64 (k : Int)).toNat < 18446744073709551616 := BitVec.isLt _
      show IntKind.i64.wrap ((BitVec.ofInt 64 x ||| BitVec.ofInt 64 (k : Int)).toNat : Int) < 0
      generalize (BitVec.ofInt 64 x ||| BitVec.ofInt 64 (k : Int)).toNat = z at *
      rw [IntKind.wrap_i64]
      omega
    have : bits .or .i64 x k ≠ k := by omega
    simp [this]
theorem most_bounds (op : Int) : 0 ≤ Ev.most op ∧ Ev.most op ≤ 7 := by
  unfold Ev.most Ev.all
  repeat' split
  all_goals decide
set_option maxHeartbeats 800000 in
theorem ops_any (w : World) :
    Calls Try.prog 52 #[] w fun e w' => e = .returned (.tuple #[.slice (some ⟨w.heap.size, 0, none⟩) 18 18, .slice (some ⟨w.heap.size + 1, 0, none⟩) 18 18]) ∧ ∃ S, w' = (w.alloc S).alloc (.cells (Ev.opsMost.map (Value.int .i64)).toArray 3) := by
  go_enter Try.func52, Try.ntmps52
  go_wp2
  go_ret2
  exact ⟨rfl, _, rfl⟩
set_option maxRecDepth 4000 in
set_option maxHeartbeats 1600000 in
theorem refWrong_any (t : List Int) (w : World) (ht : t.length = 18) (hr : ∀ x ∈ t, -9223372036854775808 ≤ x ∧ x ≤ 9223372036854775807) :
    Calls Try.prog 18 #[tableV t] w fun e w' => e = .returned (.int .i64 (Ev.wrong t)) ∧ Below w.heap.size w w' := by
  have HT := Lib.hid (box_table (w := w) ht 29)
  have h00 : ∃ x0, Ev.seenOf t 0 = x0 := ⟨_, rfl⟩
  obtain ⟨x0, hx0⟩ := h00
  have c0 := (HT.out.cell 0 (by decide))
  rw [show t.getD 0 0 = x0 from hx0] at c0
  unfold Ev.wrong
  rw [hx0]
  have HL := Lib.hid ht
  have HR := Lib.hid hr
  clear ht hr
  unfold tableV at *
  generalize (t.map (Value.int .i64)).toArray = ta at *
  go_enter Try.func18, Try.ntmps18
  by_cases h0 : x0 = 0
  case neg =>
    go_wp2
    go_ret
    refine ⟨?_, by (repeat' first | with_reducible (first | exact Below.refl _ _ | assumption | refine Below.alloc ?_ ?_ _ | refine below_drewN ?_ _ | refine Below.drew ?_ | refine Below.setCell ?_ ?_ _ | refine Below.trans ?_ (Below.mono (by with_reducible assumption) ?_)) | go_size)⟩
    rfl
  subst h0
  rw [if_neg (by decide)]
  generalize hres : Ev.wrongFrom t 17 1 = res
  have HRES := Lib.hid hres
  clear hres
  go_wp2_with fail
  refine (ops_any _).mono ?_
  rintro e w1 ⟨rfl, S, rfl⟩
  go_wp2_with fail
  go_loopw [5] (fun z wr => ∃ j : Nat, 1 ≤ j ∧ j ≤ 18 ∧ z = .int .i64 j ∧ Hid (Ev.wrongFrom t (18 - j) j = res) ∧ ∃ n, wr = (((w.alloc (.cells ta 29)).alloc S).alloc (.cells (Ev.opsMost.map (Value.int .i64)).toArray 3)).drewN n) (fun z _ => 18 - (intOf z).toNat)
  case atStart => exact ⟨1, by omega, by omega, rfl, HRES.out, by (first | exact ⟨0, rfl⟩ | exact ⟨_, rfl⟩ | (simp only [World.drewN_drewN, World.drew_is_drewN]; exact ⟨_, rfl⟩))⟩
  case round =>
    obtain ⟨j, hj1, hj, rfl, HW, nw, rfl⟩ := hrel
    by_cases hlt : j < 18
    · have c1 : (((w.alloc (.cells ta 29)).alloc S).alloc (.cells (Ev.opsMost.map (Value.int .i64)).toArray 3)).cell? ⟨w.heap.size, j, none⟩ = some (.int .i64 (Ev.seenOf t j)) := by
        have := HT.out.cell j hlt
        have hB : Below (w.heap.size + 1) (w.alloc (.cells ta 29)) (((w.alloc (.cells ta 29)).alloc S).alloc (.cells (Ev.opsMost.map (Value.int .i64)).toArray 3)) := by (repeat' first | with_reducible (first | exact Below.refl _ _ | assumption | refine Below.alloc ?_ ?_ _ | refine below_drewN ?_ _ | refine Below.drew ?_ | refine Below.setCell ?_ ?_ _ | refine Below.trans ?_ (Below.mono (by with_reducible assumption) ?_)) | go_size)
        exact (hB.cell (p := ⟨w.heap.size, j, none⟩) (by go_size)).trans this
      have c2 : (((w.alloc (.cells ta 29)).alloc S).alloc (.cells (Ev.opsMost.map (Value.int .i64)).toArray 3)).cell? ⟨w.heap.size + 1 + 1, j, none⟩ = some (.int .i64 (Ev.most j)) := by
        have h1 := Ev.opsMost_at j hlt
        have h2 : (Ev.opsMost.map (Value.int .i64)).toArray[j]? = some (.int .i64 (Ev.most j)) := by
          rw [List.getElem?_toArray, List.getElem?_map, h1]
          rfl
        go_simp
      have hx := HR.out (Ev.seenOf t j) (by
        unfold Ev.seenOf
        simp only [Int.toNat_natCast]
        rw [List.getD_eq_getElem?_getD, List.getElem?_eq_getElem (by have := HL.out; omega)]
        exact List.getElem_mem _)
      have hq := or_most _ _ hx (most_bounds (j : Int))
      have hstep : Ev.wrongFrom t (18 - j) j = if Ev.subBits (Ev.seenOf t j) (Ev.most j) then Ev.wrongFrom t (18 - (j + 1)) (j + 1) else 3 := by
        rw [show 18 - j = (18 - (j + 1)) + 1 by omega]
        rfl
      have HST := Lib.hid hstep
      clear hstep hx c0
      generalize Ev.opsMost.map (Value.int .i64) = om at *
      generalize Ev.seenOf t j = x at *
      generalize Ev.most j = m at *
      cases hs : Ev.subBits x m with
      | true =>
        rw [hs] at hq
        have hn := Lib.hid (HST.out.symm.trans HW.out)
        rw [if_pos hs] at hn
        clear hs
        go_wp2_with fail
        go_quiet (fail)
        go_wp2_with fail
        go_roundw
        case rel => exact ⟨j + 1, by omega, by omega, by go_num, hn, by (first | exact ⟨0, rfl⟩ | exact ⟨_, rfl⟩ | (simp only [World.drewN_drewN, World.drew_is_drewN]; exact ⟨_, rfl⟩))⟩
        case measure => simp [intOf]; omega
      | false =>
        rw [hs] at hq
        have hn := Lib.hid (HST.out.symm.trans HW.out)
        rw [if_neg (by simp [hs])] at hn
        clear hs
        go_wp2_with fail
        go_quiet (fail)
        go_wp2
        go_ret
        refine ⟨?_, by (repeat' first | with_reducible (first | exact Below.refl _ _ | assumption | refine Below.alloc ?_ ?_ _ | refine below_drewN ?_ _ | refine Below.drew ?_ | refine Below.setCell ?_ ?_ _ | refine Below.trans ?_ (Below.mono (by with_reducible assumption) ?_)) | go_size)⟩
        rw [← hn.out]
        rfl
    · have hj18 : j = 18 := by omega
      subst hj18
      have hn := HW.out
      have : res = 0 := hn.symm
      subst this
      go_wp2
      go_ret
      exact ⟨rfl, by (repeat' first | with_reducible (first | exact Below.refl _ _ | assumption | refine Below.alloc ?_ ?_ _ | refine below_drewN ?_ _ | refine Below.drew ?_ | refine Below.setCell ?_ ?_ _ | refine Below.trans ?_ (Below.mono (by with_reducible assumption) ?_)) | go_size)⟩
end Go.Proofs.Ytljcgcllhcdleaa
