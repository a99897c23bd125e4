import Derived.Test.YtljcgcllhcdleaaLg17
import Derived.Test.YtljcgcllhcdleaaLg11
/- flow.Own makes rows of its own, the arrays' behind the secrets'. -/
namespace Go.Proofs.Ytljcgcllhcdleaa
open Go.RowKit
set_option linter.unusedSimpArgs false
set_option linter.unusedVariables false
theorem own_ltR {w : World} {base size n : Nat} {e : TypeId} {v : Value} {xs : List Value} (h : w.ownsRow base e size v n xs) {b : Nat} (hb : v.ownBlock = some b) : b < w.heap.size := (h.lt b hb).2
set_option maxRecDepth 4000 in
set_option maxHeartbeats 3200000 in
theorem own_rows (f : Ev.Flat) (v : Value) (w : World) (h : RFlat w w.heap.size v f) (h1 : f.code.length ≤ 1073741824) (h2 : f.secret.length ≤ 1073741824) (h3 : f.arrays.length ≤ 1073741824) :
    Calls Try.prog 33 #[v] w fun e w' => ∃ lo mid vc' vs' va', e = .returned (.agg #[vc', vs', .int .i64 f.params, va']) ∧ RCode w' lo vc' f.code ∧ w'.ownsRow lo 4 1 vs' f.secret.length (f.secret.map Value.bool) ∧ RVars w' w'.heap.size va' f.arrays ∧ w.heap.size ≤ lo ∧ lo ≤ w'.heap.size ∧ Below w.heap.size w w' ∧ w.heap.size ≤ mid ∧ mid ≤ w'.heap.size ∧ from_ mid va' ∧ (∀ b, vs'.ownBlock = some b → b < mid) := by
  obtain ⟨vc, vs, va, rfl, hc, hs, ha⟩ := h
  have HC := Lib.hid hc
  have HS := Lib.hid hs
  have HA := Lib.hid ha
  clear hc hs ha
  go_enter Try.func33, Try.ntmps33
  go_wp2_with fail
  refine wp_region_trail (fun w' => Below (w.heap.size + 1) ((w.alloc (.cells #[vc, vs, .int .i64 f.params, va] 26)).alloc (.cells #[.slice none 0 0, .slice none 0 0, .int .i64 0, .slice none 0 0] 26)) w') [(0, true), (1, true), (3, true), (4, true), (6, true), (7, true), (8, true), (9, true), (2, false), (5, false), (10, false), (11, true), (12, false)] (by kernel_rfl) (by kernel_rfl) (by kernel_rfl) (by decide) (by (repeat' first | with_reducible (first | exact Below.refl _ _ | assumption | refine Below.alloc ?_ ?_ _ | refine below_drewN ?_ _ | refine Below.drew ?_ | refine Below.setCell ?_ ?_ _ | refine Below.trans ?_ (Below.mono (by with_reducible assumption) ?_)) | go_size)) ?_
  apply trail_light
  case hi => (simp only [List.getElem?_toArray, List.getElem?_cons_zero, List.getElem?_cons_succ]; exact rfl)
  case hl => first | exact light_no (by rfl) | ((first | apply light_plain rfl | apply light_yes (by rfl)); intro w9 hb9; have hB9 : Below w.heap.size w w9 := (by (repeat' first | with_reducible (first | exact Below.refl _ _ | assumption | refine Below.alloc ?_ ?_ _ | refine below_drewN ?_ _ | refine Below.drew ?_ | refine Below.setCell ?_ ?_ _ | refine Below.trans ?_ (Below.mono (by with_reducible assumption) ?_)) | go_size)); obtain ⟨kc9, kf9, s9⟩ := bfacts hb9; obtain ⟨kd9, kg9, _⟩ := bfacts hB9; go_simp; try rfl)
  case hQ => exact fun _ _ _ h => h
  (try simp only [Act.put, List.setIfInBounds_toArray, List.set_cons_zero, List.set_cons_succ])
  apply trail_light
  case hi => (simp only [List.getElem?_toArray, List.getElem?_cons_zero, List.getElem?_cons_succ]; exact rfl)
  case hl => first | exact light_no (by rfl) | ((first | apply light_plain rfl | apply light_yes (by rfl)); intro w9 hb9; have hB9 : Below w.heap.size w w9 := (by (repeat' first | with_reducible (first | exact Below.refl _ _ | assumption | refine Below.alloc ?_ ?_ _ | refine below_drewN ?_ _ | refine Below.drew ?_ | refine Below.setCell ?_ ?_ _ | refine Below.trans ?_ (Below.mono (by with_reducible assumption) ?_)) | go_size)); obtain ⟨kc9, kf9, s9⟩ := bfacts hb9; obtain ⟨kd9, kg9, _⟩ := bfacts hB9; go_simp; try rfl)
  case hQ => exact fun _ _ _ h => h
  (try simp only [Act.put, List.setIfInBounds_toArray, List.set_cons_zero, List.set_cons_succ])
  apply trail_light
  case hi => (simp only [List.getElem?_toArray, List.getElem?_cons_zero, List.getElem?_cons_succ]; exact rfl)
  case hl => first | exact light_no (by rfl) | ((first | apply light_plain rfl | apply light_yes (by rfl)); intro w9 hb9; have hB9 : Below w.heap.size w w9 := (by (repeat' first | with_reducible (first | exact Below.refl _ _ | assumption | refine Below.alloc ?_ ?_ _ | refine below_drewN ?_ _ | refine Below.drew ?_ | refine Below.setCell ?_ ?_ _ | refine Below.trans ?_ (Below.mono (by with_reducible assumption) ?_)) | go_size)); obtain ⟨kc9, kf9, s9⟩ := bfacts hb9; obtain ⟨kd9, kg9, _⟩ := bfacts hB9; go_simp; try rfl)
  case hQ => exact fun _ _ _ h => h
  (try simp only [Act.put, List.setIfInBounds_toArray, List.set_cons_zero, List.set_cons_succ])
  apply trail_light
  case hi => (simp only [List.getElem?_toArray, List.getElem?_cons_zero, List.getElem?_cons_succ]; exact rfl)
  case hl => first | exact light_no (by rfl) | ((first | apply light_plain rfl | apply light_yes (by rfl)); intro w9 hb9; have hB9 : Below w.heap.size w w9 := (by (repeat' first | with_reducible (first | exact Below.refl _ _ | assumption | refine Below.alloc ?_ ?_ _ | refine below_drewN ?_ _ | refine Below.drew ?_ | refine Below.setCell ?_ ?_ _ | refine Below.trans ?_ (Below.mono (by with_reducible assumption) ?_)) | go_size)); obtain ⟨kc9, kf9, s9⟩ := bfacts hb9; obtain ⟨kd9, kg9, _⟩ := bfacts hB9; go_simp; try rfl)
  case hQ => exact fun _ _ _ h => h
  (try simp only [Act.put, List.setIfInBounds_toArray, List.set_cons_zero, List.set_cons_succ])
  apply trail_light
  case hi => (simp only [List.getElem?_toArray, List.getElem?_cons_zero, List.getElem?_cons_succ]; exact rfl)
  case hl => first | exact light_no (by rfl) | ((first | apply light_plain rfl | apply light_yes (by rfl)); intro w9 hb9; have hB9 : Below w.heap.size w w9 := (by (repeat' first | with_reducible (first | exact Below.refl _ _ | assumption | refine Below.alloc ?_ ?_ _ | refine below_drewN ?_ _ | refine Below.drew ?_ | refine Below.setCell ?_ ?_ _ | refine Below.trans ?_ (Below.mono (by with_reducible assumption) ?_)) | go_size)); obtain ⟨kc9, kf9, s9⟩ := bfacts hb9; obtain ⟨kd9, kg9, _⟩ := bfacts hB9; go_simp; try rfl)
  case hQ => exact fun _ _ _ h => h
  (try simp only [Act.put, List.setIfInBounds_toArray, List.set_cons_zero, List.set_cons_succ])
  apply trail_light
  case hi => (simp only [List.getElem?_toArray, List.getElem?_cons_zero, List.getElem?_cons_succ]; exact rfl)
  case hl => first | exact light_no (by rfl) | ((first | apply light_plain rfl | apply light_yes (by rfl)); intro w9 hb9; have hB9 : Below w.heap.size w w9 := (by (repeat' first | with_reducible (first | exact Below.refl _ _ | assumption | refine Below.alloc ?_ ?_ _ | refine below_drewN ?_ _ | refine Below.drew ?_ | refine Below.setCell ?_ ?_ _ | refine Below.trans ?_ (Below.mono (by with_reducible assumption) ?_)) | go_size)); obtain ⟨kc9, kf9, s9⟩ := bfacts hb9; obtain ⟨kd9, kg9, _⟩ := bfacts hB9; go_simp; try rfl)
  case hQ => exact fun _ _ _ h => h
  (try simp only [Act.put, List.setIfInBounds_toArray, List.set_cons_zero, List.set_cons_succ])
  apply trail_light
  case hi => (simp only [List.getElem?_toArray, List.getElem?_cons_zero, List.getElem?_cons_succ]; exact rfl)
  case hl => first | exact light_no (by rfl) | ((first | apply light_plain rfl | apply light_yes (by rfl)); intro w9 hb9; have hB9 : Below w.heap.size w w9 := (by (repeat' first | with_reducible (first | exact Below.refl _ _ | assumption | refine Below.alloc ?_ ?_ _ | refine below_drewN ?_ _ | refine Below.drew ?_ | refine Below.setCell ?_ ?_ _ | refine Below.trans ?_ (Below.mono (by with_reducible assumption) ?_)) | go_size)); obtain ⟨kc9, kf9, s9⟩ := bfacts hb9; obtain ⟨kd9, kg9, _⟩ := bfacts hB9; go_simp; try rfl)
  case hQ => exact fun _ _ _ h => h
  (try simp only [Act.put, List.setIfInBounds_toArray, List.set_cons_zero, List.set_cons_succ])
  apply trail_light
  case hi => (simp only [List.getElem?_toArray, List.getElem?_cons_zero, List.getElem?_cons_succ]; exact rfl)
  case hl => first | exact light_no (by rfl) | ((first | apply light_plain rfl | apply light_yes (by rfl)); intro w9 hb9; have hB9 : Below w.heap.size w w9 := (by (repeat' first | with_reducible (first | exact Below.refl _ _ | assumption | refine Below.alloc ?_ ?_ _ | refine below_drewN ?_ _ | refine Below.drew ?_ | refine Below.setCell ?_ ?_ _ | refine Below.trans ?_ (Below.mono (by with_reducible assumption) ?_)) | go_size)); obtain ⟨kc9, kf9, s9⟩ := bfacts hb9; obtain ⟨kd9, kg9, _⟩ := bfacts hB9; go_simp; try rfl)
  case hQ => exact fun _ _ _ h => h
  (try simp only [Act.put, List.setIfInBounds_toArray, List.set_cons_zero, List.set_cons_succ])
  apply trail_heavy
  case hi => (simp only [List.getElem?_toArray, List.getElem?_cons_zero, List.getElem?_cons_succ]; exact rfl)
  go_wp2_with (first | (go_at_call 65; refine (cloneCode_any f.code _ _ (SL.at_ HC.out (by (repeat' first | with_reducible (first | exact Below.refl _ _ | assumption | refine Below.alloc ?_ ?_ _ | refine below_drewN ?_ _ | refine Below.drew ?_ | refine Below.setCell ?_ ?_ _ | refine Below.trans ?_ (Below.mono (by with_reducible assumption) ?_)) | go_size)) (Nat.le_refl _)) h1).mono ?_; rintro e w1 ⟨v1, rfl, hR1, hF1, hb1⟩; obtain ⟨kc1, kf1, s1⟩ := bfacts hb1; (try simp only [World.size_alloc, World.size_setCell, World.size_drew, World.heap_drewN, Nat.add_one_le_iff] at s1); obtain ⟨A1, c1, rfl, _, _⟩ := SL.form hR1) | (go_at_call 66; refine (cloneBools_own f.secret _ _ (SL.at_ HS.out (by (repeat' first | with_reducible (first | exact Below.refl _ _ | assumption | refine Below.alloc ?_ ?_ _ | refine below_drewN ?_ _ | refine Below.drew ?_ | refine Below.setCell ?_ ?_ _ | refine Below.trans ?_ (Below.mono (by with_reducible assumption) ?_)) | go_size)) (Nat.le_refl _)) h2).mono ?_; rintro e w2 ⟨v2, rfl, hR2, hF2, hO2, hb2⟩; obtain ⟨kc2, kf2, s2⟩ := bfacts hb2; (try simp only [World.size_alloc, World.size_setCell, World.size_drew, World.heap_drewN, Nat.add_one_le_iff] at s2); obtain ⟨A2, c2, rfl, _, _⟩ := SL.form hR2) | (go_at_call 67; refine (cloneVars_any f.arrays _ _ (SL.at_ HA.out (by (repeat' first | with_reducible (first | exact Below.refl _ _ | assumption | refine Below.alloc ?_ ?_ _ | refine below_drewN ?_ _ | refine Below.drew ?_ | refine Below.setCell ?_ ?_ _ | refine Below.trans ?_ (Below.mono (by with_reducible assumption) ?_)) | go_size)) (Nat.le_refl _)) h3).mono ?_; rintro e w3 ⟨v3, rfl, hR3, hF3, hb3⟩; obtain ⟨kc3, kf3, s3⟩ := bfacts hb3; (try simp only [World.size_alloc, World.size_setCell, World.size_drew, World.heap_drewN, Nat.add_one_le_iff] at s3); obtain ⟨A3, c3, rfl, _, _⟩ := SL.form hR3; have l1 : w.heap.size + 1 < w1.heap.size := (by omega); have l2 : w.heap.size + 1 < w2.heap.size := (by omega); have l3 : w.heap.size + 1 < w3.heap.size := (by omega)) | fail)
  refine ⟨by (repeat' first | with_reducible (first | exact Below.refl _ _ | assumption | refine Below.alloc ?_ ?_ _ | refine below_drewN ?_ _ | refine Below.drew ?_ | refine Below.setCell ?_ ?_ _ | refine Below.trans ?_ (Below.mono (by with_reducible assumption) ?_)) | go_size), ?_⟩
  apply trail_heavy
  case hi => (simp only [List.getElem?_toArray, List.getElem?_cons_zero, List.getElem?_cons_succ]; exact rfl)
  go_wp2_with (first | (go_at_call 65; refine (cloneCode_any f.code _ _ (SL.at_ HC.out (by (repeat' first | with_reducible (first | exact Below.refl _ _ | assumption | refine Below.alloc ?_ ?_ _ | refine below_drewN ?_ _ | refine Below.drew ?_ | refine Below.setCell ?_ ?_ _ | refine Below.trans ?_ (Below.mono (by with_reducible assumption) ?_)) | go_size)) (Nat.le_refl _)) h1).mono ?_; rintro e w1 ⟨v1, rfl, hR1, hF1, hb1⟩; obtain ⟨kc1, kf1, s1⟩ := bfacts hb1; (try simp only [World.size_alloc, World.size_setCell, World.size_drew, World.heap_drewN, Nat.add_one_le_iff] at s1); obtain ⟨A1, c1, rfl, _, _⟩ := SL.form hR1) | (go_at_call 66; refine (cloneBools_own f.secret _ _ (SL.at_ HS.out (by (repeat' first | with_reducible (first | exact Below.refl _ _ | assumption | refine Below.alloc ?_ ?_ _ | refine below_drewN ?_ _ | refine Below.drew ?_ | refine Below.setCell ?_ ?_ _ | refine Below.trans ?_ (Below.mono (by with_reducible assumption) ?_)) | go_size)) (Nat.le_refl _)) h2).mono ?_; rintro e w2 ⟨v2, rfl, hR2, hF2, hO2, hb2⟩; obtain ⟨kc2, kf2, s2⟩ := bfacts hb2; (try simp only [World.size_alloc, World.size_setCell, World.size_drew, World.heap_drewN, Nat.add_one_le_iff] at s2); obtain ⟨A2, c2, rfl, _, _⟩ := SL.form hR2) | (go_at_call 67; refine (cloneVars_any f.arrays _ _ (SL.at_ HA.out (by (repeat' first | with_reducible (first | exact Below.refl _ _ | assumption | refine Below.alloc ?_ ?_ _ | refine below_drewN ?_ _ | refine Below.drew ?_ | refine Below.setCell ?_ ?_ _ | refine Below.trans ?_ (Below.mono (by with_reducible assumption) ?_)) | go_size)) (Nat.le_refl _)) h3).mono ?_; rintro e w3 ⟨v3, rfl, hR3, hF3, hb3⟩; obtain ⟨kc3, kf3, s3⟩ := bfacts hb3; (try simp only [World.size_alloc, World.size_setCell, World.size_drew, World.heap_drewN, Nat.add_one_le_iff] at s3); obtain ⟨A3, c3, rfl, _, _⟩ := SL.form hR3; have l1 : w.heap.size + 1 < w1.heap.size := (by omega); have l2 : w.heap.size + 1 < w2.heap.size := (by omega); have l3 : w.heap.size + 1 < w3.heap.size := (by omega)) | fail)
  refine ⟨by (repeat' first | with_reducible (first | exact Below.refl _ _ | assumption | refine Below.alloc ?_ ?_ _ | refine below_drewN ?_ _ | refine Below.drew ?_ | refine Below.setCell ?_ ?_ _ | refine Below.trans ?_ (Below.mono (by with_reducible assumption) ?_)) | go_size), ?_⟩
  apply trail_heavy
  case hi => (simp only [List.getElem?_toArray, List.getElem?_cons_zero, List.getElem?_cons_succ]; exact rfl)
  go_wp2_with (first | (go_at_call 65; refine (cloneCode_any f.code _ _ (SL.at_ HC.out (by (repeat' first | with_reducible (first | exact Below.refl _ _ | assumption | refine Below.alloc ?_ ?_ _ | refine below_drewN ?_ _ | refine Below.drew ?_ | refine Below.setCell ?_ ?_ _ | refine Below.trans ?_ (Below.mono (by with_reducible assumption) ?_)) | go_size)) (Nat.le_refl _)) h1).mono ?_; rintro e w1 ⟨v1, rfl, hR1, hF1, hb1⟩; obtain ⟨kc1, kf1, s1⟩ := bfacts hb1; (try simp only [World.size_alloc, World.size_setCell, World.size_drew, World.heap_drewN, Nat.add_one_le_iff] at s1); obtain ⟨A1, c1, rfl, _, _⟩ := SL.form hR1) | (go_at_call 66; refine (cloneBools_own f.secret _ _ (SL.at_ HS.out (by (repeat' first | with_reducible (first | exact Below.refl _ _ | assumption | refine Below.alloc ?_ ?_ _ | refine below_drewN ?_ _ | refine Below.drew ?_ | refine Below.setCell ?_ ?_ _ | refine Below.trans ?_ (Below.mono (by with_reducible assumption) ?_)) | go_size)) (Nat.le_refl _)) h2).mono ?_; rintro e w2 ⟨v2, rfl, hR2, hF2, hO2, hb2⟩; obtain ⟨kc2, kf2, s2⟩ := bfacts hb2; (try simp only [World.size_alloc, World.size_setCell, World.size_drew, World.heap_drewN, Nat.add_one_le_iff] at s2); obtain ⟨A2, c2, rfl, _, _⟩ := SL.form hR2) | (go_at_call 67; refine (cloneVars_any f.arrays _ _ (SL.at_ HA.out (by (repeat' first | with_reducible (first | exact Below.refl _ _ | assumption | refine Below.alloc ?_ ?_ _ | refine below_drewN ?_ _ | refine Below.drew ?_ | refine Below.setCell ?_ ?_ _ | refine Below.trans ?_ (Below.mono (by with_reducible assumption) ?_)) | go_size)) (Nat.le_refl _)) h3).mono ?_; rintro e w3 ⟨v3, rfl, hR3, hF3, hb3⟩; obtain ⟨kc3, kf3, s3⟩ := bfacts hb3; (try simp only [World.size_alloc, World.size_setCell, World.size_drew, World.heap_drewN, Nat.add_one_le_iff] at s3); obtain ⟨A3, c3, rfl, _, _⟩ := SL.form hR3; have l1 : w.heap.size + 1 < w1.heap.size := (by omega); have l2 : w.heap.size + 1 < w2.heap.size := (by omega); have l3 : w.heap.size + 1 < w3.heap.size := (by omega)) | fail)
  refine ⟨by (repeat' first | with_reducible (first | exact Below.refl _ _ | assumption | refine Below.alloc ?_ ?_ _ | refine below_drewN ?_ _ | refine Below.drew ?_ | refine Below.setCell ?_ ?_ _ | refine Below.trans ?_ (Below.mono (by with_reducible assumption) ?_)) | go_size), ?_⟩
  apply trail_light
  case hi => (simp only [List.getElem?_toArray, List.getElem?_cons_zero, List.getElem?_cons_succ]; exact rfl)
  case hl => first | exact light_no (by rfl) | ((first | apply light_plain rfl | apply light_yes (by rfl)); intro w9 hb9; have hB9 : Below w.heap.size w w9 := (by (repeat' first | with_reducible (first | exact Below.refl _ _ | assumption | refine Below.alloc ?_ ?_ _ | refine below_drewN ?_ _ | refine Below.drew ?_ | refine Below.setCell ?_ ?_ _ | refine Below.trans ?_ (Below.mono (by with_reducible assumption) ?_)) | go_size)); obtain ⟨kc9, kf9, s9⟩ := bfacts hb9; obtain ⟨kd9, kg9, _⟩ := bfacts hB9; go_simp; try rfl)
  case hQ => exact fun _ _ _ h => h
  (try simp only [Act.put, List.setIfInBounds_toArray, List.set_cons_zero, List.set_cons_succ])
  apply trail_heavy
  case hi => (simp only [List.getElem?_toArray, List.getElem?_cons_zero, List.getElem?_cons_succ]; exact rfl)
  go_wp2_with (first | (go_at_call 65; refine (cloneCode_any f.code _ _ (SL.at_ HC.out (by (repeat' first | with_reducible (first | exact Below.refl _ _ | assumption | refine Below.alloc ?_ ?_ _ | refine below_drewN ?_ _ | refine Below.drew ?_ | refine Below.setCell ?_ ?_ _ | refine Below.trans ?_ (Below.mono (by with_reducible assumption) ?_)) | go_size)) (Nat.le_refl _)) h1).mono ?_; rintro e w1 ⟨v1, rfl, hR1, hF1, hb1⟩; obtain ⟨kc1, kf1, s1⟩ := bfacts hb1; (try simp only [World.size_alloc, World.size_setCell, World.size_drew, World.heap_drewN, Nat.add_one_le_iff] at s1); obtain ⟨A1, c1, rfl, _, _⟩ := SL.form hR1) | (go_at_call 66; refine (cloneBools_own f.secret _ _ (SL.at_ HS.out (by (repeat' first | with_reducible (first | exact Below.refl _ _ | assumption | refine Below.alloc ?_ ?_ _ | refine below_drewN ?_ _ | refine Below.drew ?_ | refine Below.setCell ?_ ?_ _ | refine Below.trans ?_ (Below.mono (by with_reducible assumption) ?_)) | go_size)) (Nat.le_refl _)) h2).mono ?_; rintro e w2 ⟨v2, rfl, hR2, hF2, hO2, hb2⟩; obtain ⟨kc2, kf2, s2⟩ := bfacts hb2; (try simp only [World.size_alloc, World.size_setCell, World.size_drew, World.heap_drewN, Nat.add_one_le_iff] at s2); obtain ⟨A2, c2, rfl, _, _⟩ := SL.form hR2) | (go_at_call 67; refine (cloneVars_any f.arrays _ _ (SL.at_ HA.out (by (repeat' first | with_reducible (first | exact Below.refl _ _ | assumption | refine Below.alloc ?_ ?_ _ | refine below_drewN ?_ _ | refine Below.drew ?_ | refine Below.setCell ?_ ?_ _ | refine Below.trans ?_ (Below.mono (by with_reducible assumption) ?_)) | go_size)) (Nat.le_refl _)) h3).mono ?_; rintro e w3 ⟨v3, rfl, hR3, hF3, hb3⟩; obtain ⟨kc3, kf3, s3⟩ := bfacts hb3; (try simp only [World.size_alloc, World.size_setCell, World.size_drew, World.heap_drewN, Nat.add_one_le_iff] at s3); obtain ⟨A3, c3, rfl, _, _⟩ := SL.form hR3; have l1 : w.heap.size + 1 < w1.heap.size := (by omega); have l2 : w.heap.size + 1 < w2.heap.size := (by omega); have l3 : w.heap.size + 1 < w3.heap.size := (by omega)) | fail)
  refine ⟨by (repeat' first | with_reducible (first | exact Below.refl _ _ | assumption | refine Below.alloc ?_ ?_ _ | refine below_drewN ?_ _ | refine Below.drew ?_ | refine Below.setCell ?_ ?_ _ | refine Below.trans ?_ (Below.mono (by with_reducible assumption) ?_)) | go_size), ?_⟩
  refine trail_nil ?_
  (try dsimp only)
  have hk1 : ∀ o, w1.cell? ⟨w.heap.size + 1, o, none⟩ = ((w.alloc (.cells #[vc, vs, .int .i64 f.params, va] 26)).alloc (.cells #[.slice none 0 0, .slice none 0 0, .int .i64 0, .slice none 0 0] 26)).cell? ⟨w.heap.size + 1, o, none⟩ := fun o => (kc1 _ _ (by simp)).trans rfl
  have hk : ∀ o, w3.cell? ⟨w.heap.size + 1, o, none⟩ = w1.cell? ⟨w.heap.size + 1, o, none⟩ := fun o => (kc3 _ _ (by omega)).trans (kc2 _ _ (by omega))
  have e0 : w3.cell? ⟨w.heap.size + 1, 0, none⟩ = some (.slice none 0 0) := by rw [hk, hk1]; go_simp
  have e1 : w3.cell? ⟨w.heap.size + 1, 1, none⟩ = some (.slice none 0 0) := by rw [hk, hk1]; go_simp
  have e2 : w3.cell? ⟨w.heap.size + 1, 2, none⟩ = some (.int .i64 0) := by rw [hk, hk1]; go_simp
  have e3 : w3.cell? ⟨w.heap.size + 1, 3, none⟩ = some (.slice none 0 0) := by rw [hk, hk1]; go_simp
  clear hk hk1 kc1 kc2 kc3 kf1 kf2 kf3
  go_wp2
  refine bodyPost_ret (v := .agg #[.slice A1 f.code.length c1, .slice A2 f.secret.length c2, .int .i64 f.params, .slice A3 f.arrays.length c3]) (by simp [results, Try.results33, go_sem, e0, e1, e2, e3]) rfl ?_
  have hF3m := hF3
  have hO2l : ∀ b, (Value.slice A2 f.secret.length c2).ownBlock = some b → b < w2.heap.size := fun b hb => own_ltR hO2 hb
  replace hF1 : from_ (w.heap.size + 2) (Value.slice A1 f.code.length c1) := hF1.less (by simp)
  replace hF2 : from_ (w.heap.size + 2) (Value.slice A2 f.secret.length c2) := hF2.less (by omega)
  replace hF3 : from_ (w.heap.size + 2) (Value.slice A3 f.arrays.length c3) := hF3.less (by omega)
  have r1 : RCode w3 w1.heap.size (Value.slice A1 f.code.length c1) f.code := SL.below hR1 (by (repeat' first | with_reducible (first | exact Below.refl _ _ | assumption | refine Below.alloc ?_ ?_ _ | refine below_drewN ?_ _ | refine Below.drew ?_ | refine Below.setCell ?_ ?_ _ | refine Below.trans ?_ (Below.mono (by with_reducible assumption) ?_)) | go_size))
  have r2 : w3.ownsRow w1.heap.size 4 1 (Value.slice A2 f.secret.length c2) f.secret.length (f.secret.map Value.bool) := owns_below hO2 (by (repeat' first | with_reducible (first | exact Below.refl _ _ | assumption | refine Below.alloc ?_ ?_ _ | refine below_drewN ?_ _ | refine Below.drew ?_ | refine Below.setCell ?_ ?_ _ | refine Below.trans ?_ (Below.mono (by with_reducible assumption) ?_)) | go_size))
  have hne : ∀ q, (Value.slice A2 f.secret.length c2).ownBlock = some q → q ≠ w.heap.size + 1 := fun q hq e => by have := (r2.lt q hq).1; omega
  have hn := fun (e : (Value.slice A2 f.secret.length c2).ownBlock = some (w.heap.size + 1)) => hne _ e rfl
  have hsz : ((((w3.setCell ⟨w.heap.size + 1, 0, none⟩ (Value.slice A1 f.code.length c1)).setCell ⟨w.heap.size + 1, 1, none⟩ (Value.slice A2 f.secret.length c2)).setCell ⟨w.heap.size + 1, 2, none⟩ (Value.int .i64 f.params)).setCell ⟨w.heap.size + 1, 3, none⟩ (Value.slice A3 f.arrays.length c3)).heap.size = w3.heap.size := by simp
  refine ⟨w1.heap.size, w2.heap.size, _, _, _, rfl, ?_, ?_, ?_, by omega, ?_, by (repeat' first | with_reducible (first | exact Below.refl _ _ | assumption | refine Below.alloc ?_ ?_ _ | refine below_drewN ?_ _ | refine Below.drew ?_ | refine Below.setCell ?_ ?_ _ | refine Below.trans ?_ (Below.mono (by with_reducible assumption) ?_)) | go_size), by omega, by rw [hsz]; omega, hF3m, hO2l⟩
  · exact (((SL.aside r1 hF1 _ _ _ (by omega)).aside hF1 _ _ _ (by omega)).aside hF1 _ _ _ (by omega)).aside hF1 _ _ _ (by omega)
  · exact ownsRow_setCell_other (ownsRow_setCell_other (ownsRow_setCell_other (ownsRow_setCell_other r2 hn _) hn _) hn _) hn _
  · rw [hsz]; exact (((SL.aside hR3 hF3 _ _ _ (by omega)).aside hF3 _ _ _ (by omega)).aside hF3 _ _ _ (by omega)).aside hF3 _ _ _ (by omega)
  · rw [hsz]; omega
end Go.Proofs.Ytljcgcllhcdleaa
/- Chapter 8, in plain words: what legal.Legal makes of right flat instructions, block by block. -/
namespace Ev
def lgFrom (t : List Int) : List Instr → Mk → List Nat → Int × List Nat × Mk
  | [], m, at_ => (0, at_, m)
  | i :: r, m, at_ =>
    if 17 < i.op ∨ mkShows m t i = false then lgFrom t r (m.put i) (at_ ++ [m.code.length])
    else match mkOther m i with
      | none => (if 12000 < m.code.length then 4 else 11, at_, m)
      | some m' => if 12000 < m'.code.length then (4, at_, m) else lgFrom t r m' (at_ ++ [m.code.length])
def reloc (at_ : List Nat) (i : Instr) : Instr := if i.op = 18 ∨ i.op = 19 then { i with imm := (at_.getD i.imm.toNat 0 : Nat) } else i
def noFlat : Flat := ⟨[], [], 0, []⟩
def legalOf (f : Flat) (t : List Int) (x : Int × List Nat × Mk) : Int × Flat :=
  if x.1 ≠ 0 then (x.1, noFlat)
  else if 12000 < x.2.2.code.length then (4, noFlat)
  else if x.2.2.code.any (fun i => decide (i.op ≤ 17) && mkShows x.2.2 t i) then (11, noFlat)
  else (0, ⟨x.2.2.code.map (reloc x.2.1), x.2.2.secret, f.params, f.arrays⟩)
def legal (f : Flat) (t : List Int) : Int × Flat := legalOf f t (lgFrom t f.code ⟨[], f.secret⟩ [])
/-- what stands for an instruction -/
def Blk (n0 : Nat) (S : List Bool) (i : Instr) (l : List Instr) : Prop :=
  l = [i] ∨ ((6 ≤ i.op ∧ i.op ≤ 13) ∧ sec S i.d = true ∧ ∃ seg out, l = seg ++ [⟨15, i.d, out, 0, 0, 0⟩] ∧ InP S out ∧ (∀ q ∈ seg, GoodI S q ∧ (n0 : Int) ≤ q.d) ∧ ∀ e : Env, (∀ p ∈ reads i, Wd (e p)) → exec seg e out = opVal i e)
theorem Blk.app {n0 : Nat} {S : List Bool} {i : Instr} {l : List Instr} (h : Blk n0 S i l) (s : List Bool) (hd : InP S i.d) : Blk n0 (S ++ s) i l := by
  rcases h with h | ⟨h1, h2, seg, out, h3, h4, h5, h6⟩
  · exact .inl h
  · exact .inr ⟨h1, by rw [sec_app hd]; exact h2, seg, out, h3, h4.app s, fun q hq => ⟨(h5 q hq).1.app s, (h5 q hq).2⟩, h6⟩
theorem nat_of_wd {x : Int} (h : Wd x) : ∃ n : Nat, x = (n : Int) ∧ n < 4294967296 := by have := h.1; have := h.2; exact ⟨x.toNat, by omega, by omega⟩
theorem shows_sec {f : Flat} {t : List Int} {k : Nat} {i : Instr} (ht : wrong t = 0) (hs : Sound f k i) (h : shows f t i = true) (h13 : i.op ≤ 13) : sec f.secret i.d = true := by
  unfold shows at h
  simp only [Bool.and_eq_true, decide_eq_true_eq, Bool.or_eq_true] at h
  obtain ⟨⟨h1, h17⟩, h2⟩ := h
  have hb := table_bits ht h1 h17
  have hm : most i.op = if i.op = 13 then 7 else 3 := by
    unfold most all
    by_cases c : i.op = 13
    · rw [if_neg (by omega), if_neg (by omega), if_pos c, if_pos c]
    · rw [if_neg (by omega), if_pos (by omega), if_neg c]
  have hsm := sub_small (n := seenOf t i.op) (m := most i.op) (by rw [hm]; split <;> simp) hb
  have hl := hs.labels
  unfold secrets at hl
  rw [if_neg (by omega), if_neg (by omega), if_neg (by omega), if_neg (by omega)] at hl
  have hany : (reads i).any (sec f.secret) = true := by
    rw [List.any_eq_true]
    by_cases c13 : i.op = 13
    · have hr : reads i = [i.a, i.b, i.c] := by unfold reads; rw [if_neg (by omega), if_pos c13]
      rw [hr]
      rcases h2 with (⟨_, h⟩ | ⟨_, h⟩) | ⟨_, h⟩
      · exact ⟨i.a, by simp, h⟩
      · rw [if_neg (by omega)] at h; exact ⟨i.b, by simp, h⟩
      · exact ⟨i.c, by simp, h⟩
    · have hr : reads i = [i.a, i.b] := by unfold reads; rw [if_pos (by omega)]
      rw [hr]
      rcases h2 with (⟨_, h⟩ | ⟨_, h⟩) | ⟨hc, h⟩
      · exact ⟨i.a, by simp, h⟩
      · rw [if_neg (by omega)] at h; exact ⟨i.b, by simp, h⟩
      · rw [hm, if_neg c13] at hsm
        have := hsm.2 2 (by decide) hc
        exact absurd this (by decide)
  rw [hany] at hl
  simpa using hl
theorem shows_pre' {f : Flat} {m : Mk} {t : List Int} {i : Instr} (hs : ∀ p ∈ reads i, InP f.secret p) (ht : wrong t = 0) {s : List Bool} (hm : m.secret = f.secret ++ s) : mkShows m t i = shows f t i := by
  by_cases h17 : 1 ≤ i.op ∧ i.op ≤ 17
  · have hb := table_bits ht h17.1 h17.2
    have ha : ∀ p ∈ reads i, sec m.secret p = sec f.secret p := fun p hp => by rw [hm]; exact sec_app (hs p hp)
    have hms : most i.op = 0 ∨ most i.op = 1 ∨ most i.op = 3 ∨ most i.op = 7 := by unfold most all; split <;> (try split) <;> (try split) <;> (try split) <;> (try split) <;> (try split) <;> simp
    have hsm := (sub_small hms hb).2
    unfold mkShows shows Mk.flat
    dsimp only
    rw [decide_eq_true h17, Bool.true_and, Bool.true_and]
    have nb : ∀ k, k < 3 → hasBit (most i.op) k = false → hasBit (seenOf t i.op) k = false := fun k hk h => by
      cases hh : hasBit (seenOf t i.op) k with
      | false => rfl
      | true => rw [hsm k hk hh] at h; cases h
    by_cases c12 : i.op ≤ 12
    · have hr : reads i = [i.a, i.b] := by unfold reads; rw [if_pos (by omega)]
      rw [hr] at ha
      have hmo : most i.op = 3 := by unfold most all; rw [if_neg (by omega), if_pos (by omega)]
      rw [nb 2 (by decide) (by rw [hmo]; decide), if_neg (by omega)]
      rw [ha i.a (by simp), ha i.b (by simp)]
      simp
    by_cases c13 : i.op = 13
    · have hr : reads i = [i.a, i.b, i.c] := by unfold reads; rw [if_neg (by omega), if_pos c13]
      rw [hr] at ha
      rw [if_neg (by omega), ha i.a (by simp), ha i.b (by simp), ha i.c (by simp)]
    by_cases c14 : i.op = 14
    · have hmo : most i.op = 0 := by unfold most all; rw [if_neg (by omega), if_neg (by omega), if_neg (by omega), if_neg (by omega), if_neg (by omega), if_neg (by omega)]
      rw [nb 0 (by decide) (by rw [hmo]; decide), nb 1 (by decide) (by rw [hmo]; decide), nb 2 (by decide) (by rw [hmo]; decide)]
      simp
    by_cases c17 : i.op = 17
    · have hr : reads i = [i.a, i.d] := by unfold reads; rw [if_neg (by omega), if_neg c13, if_pos c17]
      rw [hr] at ha
      have hmo : most i.op = 3 := by unfold most all; rw [if_neg (by omega), if_neg (by omega), if_neg (by omega), if_neg (by omega), if_neg (by omega), if_pos c17]
      rw [nb 2 (by decide) (by rw [hmo]; decide), if_pos c17, ha i.a (by simp), ha i.d (by simp)]
      simp
    · have hr : reads i = [i.a] := by unfold reads; rw [if_neg (by omega), if_neg c13, if_neg c17, if_pos (by omega)]
      rw [hr] at ha
      have hmo : most i.op = 1 := by
        unfold most all
        by_cases c16 : i.op = 16
        · rw [if_pos c16]
        · rw [if_neg c16, if_neg (by omega), if_neg (by omega), if_pos (by omega)]
      rw [nb 1 (by decide) (by rw [hmo]; decide), nb 2 (by decide) (by rw [hmo]; decide), ha i.a (by simp)]
      simp
  · unfold mkShows shows
    rw [decide_eq_false h17]
    simp
theorem shows_pre {f : Flat} {m : Mk} {t : List Int} {k : Nat} {i : Instr} (hs : Sound f k i) (ht : wrong t = 0) {s : List Bool} (hm : m.secret = f.secret ++ s) : mkShows m t i = shows f t i := shows_pre' hs.reads ht hm
/-- the list behind an instruction's block, too -/
def pos (at_ : List Nat) (m : Mk) (j : Nat) : Nat := (at_ ++ [m.code.length]).getD j 0
structure LgInv (f : Flat) (k : Nat) (at_ : List Nat) (m : Mk) : Prop where
  len : at_.length = k
  zero : pos at_ m 0 = 0
  sec : ∃ s, m.secret = f.secret ++ s
  blk : ∀ j i, j < k → f.code[j]? = some i → ∃ l, Blk f.secret.length m.secret i l ∧ l ≠ [] ∧ (∀ q x, l[q]? = some x → m.code[pos at_ m j + q]? = some x) ∧ pos at_ m (j + 1) = pos at_ m j + l.length
  cov : ∀ (p : Nat) x, m.code[p]? = some x → ∃ j i l q, j < k ∧ f.code[j]? = some i ∧ p = pos at_ m j + q ∧ l[q]? = some x ∧ Blk f.secret.length m.secret i l
theorem pos_old {at_ : List Nat} {m m' : Mk} {j : Nat} (h : j ≤ at_.length) : pos (at_ ++ [m.code.length]) m' j = pos at_ m j := by
  unfold pos
  simp only [List.getD_eq_getElem?_getD]
  rw [List.getElem?_append_left (by rw [List.length_append, List.length_singleton]; omega)]
theorem pos_last (at_ : List Nat) (m : Mk) : pos at_ m at_.length = m.code.length := by unfold pos; simp
theorem LgInv.push {f : Flat} {k : Nat} {at_ : List Nat} {m m' : Mk} {i : Instr} {l : List Instr} {s : List Bool} (h : LgInv f k at_ m) (hsd : ∀ (j : Nat) (x : Instr), f.code[j]? = some x → x.op ≤ 13 → InP f.secret x.d) (hi : f.code[k]? = some i) (hl : l ≠ []) (hc : m'.code = m.code ++ l) (hs : m'.secret = m.secret ++ s) (hb : Blk f.secret.length m'.secret i l) : LgInv f (k + 1) (at_ ++ [m.code.length]) m' := by
  have hlk := h.len
  have blk' : ∀ j x y, f.code[j]? = some x → Blk f.secret.length m.secret x y → Blk f.secret.length m'.secret x y := fun j x y hx hy => by
    rcases hy with hy | ⟨h1, h2, h3⟩
    · exact .inl hy
    · obtain ⟨s0, hs0⟩ := h.sec
      rw [hs]
      exact Blk.app (.inr ⟨h1, h2, h3⟩) s (by rw [hs0]; exact (hsd j x hx h1.2).app s0)
  have e2 : pos (at_ ++ [m.code.length]) m' (k + 1) = m'.code.length := by
    have := pos_last (at_ ++ [m.code.length]) m'
    rw [List.length_append, List.length_singleton, hlk] at this
    exact this
  have e1 : pos (at_ ++ [m.code.length]) m' k = m.code.length := by rw [pos_old (by omega), ← hlk, pos_last]
  refine ⟨by simp [hlk], by rw [pos_old (by omega)]; exact h.zero, ?_, fun j x hj hx => ?_, fun p x hp => ?_⟩
  · obtain ⟨s0, hs0⟩ := h.sec
    exact ⟨s0 ++ s, by rw [hs, hs0, List.append_assoc]⟩
  · rcases Nat.lt_or_ge j k with hjk | hjk
    · obtain ⟨y, h1, h2, h3, h4⟩ := h.blk j x hjk hx
      refine ⟨y, blk' j x y hx h1, h2, fun q z hz => ?_, ?_⟩
      · rw [pos_old (by omega), hc]
        have := h3 q z hz
        rw [List.getElem?_append_left (List.getElem?_eq_some_iff.1 this).1]
        exact this
      · rw [pos_old (by omega), pos_old (by omega)]; exact h4
    · obtain rfl : j = k := by omega
      rw [hi] at hx
      injection hx with hx
      subst hx
      refine ⟨l, hb, hl, fun q z hz => ?_, ?_⟩
      · rw [e1, hc, List.getElem?_append_right (by omega)]
        rw [show m.code.length + q - m.code.length = q by omega]
        exact hz
      · rw [e2, e1, hc, List.length_append]
  · rw [hc] at hp
    rcases Nat.lt_or_ge p m.code.length with hpl | hpl
    · rw [List.getElem?_append_left hpl] at hp
      obtain ⟨j, y, b, q, h1, h2, h3, h4, h5⟩ := h.cov p x hp
      exact ⟨j, y, b, q, by omega, h2, by rw [pos_old (by omega)]; exact h3, h4, blk' j y b h2 h5⟩
    · rw [List.getElem?_append_right hpl] at hp
      exact ⟨k, i, l, p - m.code.length, by omega, hi, by rw [e1]; omega, hp, hb⟩
/-- one instruction's block -/
theorem other_blk {f : Flat} {t : List Int} {k : Nat} {i : Instr} {m m' : Mk} (hs : Sound f k i) (ht : wrong t = 0) {s : List Bool} (hm : m.secret = f.secret ++ s) (hsh : mkShows m t i = true) (ho : mkOther m i = some m') :
    ∃ l s', l ≠ [] ∧ m'.code = m.code ++ l ∧ m'.secret = m.secret ++ s' ∧ Blk f.secret.length m'.secret i l := by
  unfold mkOther at ho
  cases hr : mkOut m i with
  | none => rw [hr] at ho; cases ho
  | some r =>
    rw [hr] at ho
    simp only [Option.map_some] at ho
    injection ho with ho
    subst ho
    have hop := out_some hr
    rw [shows_pre hs ht hm] at hsh
    have hsec := shows_sec ht hs hsh (by omega)
    have inp : ∀ p ∈ reads i, InP m.secret p := fun p hp => by rw [hm]; exact InP.app s (hs.reads p hp)
    have hd : InP m.secret i.d := by rw [hm]; exact InP.app s (hs.makes (by omega))
    have ra : i.a ∈ reads i := by unfold reads; split <;> (try split) <;> first | simp | omega
    have rb : i.b ∈ reads i := by unfold reads; split <;> (try split) <;> first | simp | omega
    have rc : i.op = 13 → i.c ∈ reads i := fun h => by unfold reads; rw [if_neg (by omega), if_pos h]; simp
    -- some words, to have the segment
    obtain ⟨e0, hE0, hH0⟩ := out_holds m (fun _ => 0) hr (x := 0) (y := 0) (z := 0) ⟨inp _ ra, rfl, by decide⟩ ⟨inp _ rb, rfl, by decide⟩ (fun h => ⟨inp _ (rc h), rfl, by decide⟩)
    obtain ⟨seg, hc, _, hg⟩ := hE0.seg
    obtain ⟨s', hs'⟩ := hE0.sec
    have hn : f.secret.length ≤ m.secret.length := by rw [hm, List.length_append]; omega
    refine ⟨seg ++ [⟨15, i.d, r.1, 0, 0, 0⟩], s', by simp, by show r.2.code ++ _ = _; rw [hc, List.append_assoc], hs', .inr ⟨hop, ?_, seg, r.1, rfl, hH0.1, fun q hq => ⟨(hg q hq).1, by have := (hg q hq).2; omega⟩, fun e hw => ?_⟩⟩
    · show sec r.2.secret i.d = true
      rw [hs', sec_app hd, hm, sec_app (hs.makes (by omega))]; exact hsec
    · obtain ⟨x, hx1, hx2⟩ := nat_of_wd (hw _ ra)
      obtain ⟨y, hy1, hy2⟩ := nat_of_wd (hw _ rb)
      obtain ⟨z, hz⟩ : ∃ z : Nat, i.op = 13 → e i.c = (z : Int) ∧ z < 4294967296 := by
        by_cases h : i.op = 13
        · obtain ⟨z, h1, h2⟩ := nat_of_wd (hw _ (rc h)); exact ⟨z, fun _ => ⟨h1, h2⟩⟩
        · exact ⟨0, fun h' => absurd h' h⟩
      obtain ⟨e1, hE1, hH1⟩ := out_holds m e hr (x := x) (y := y) (z := z) ⟨inp _ ra, hx1, hx2⟩ ⟨inp _ rb, hy1, hy2⟩ (fun h => ⟨inp _ (rc h), (hz h).1, (hz h).2⟩)
      obtain ⟨seg1, hc1, he1, _⟩ := hE1.seg
      have : seg1 = seg := List.append_cancel_left (hc1.symm.trans hc)
      subst this
      rw [he1, hH1.2.1]
      unfold opVal
      by_cases h : i.op = 13
      · rw [if_pos h, if_neg (show ¬ i.op ≤ 12 by omega)]
        unfold sel
        rw [hx1, hy1, (hz h).1, low_of hx2, low_of hy2, low_of (hz h).2]
        split <;> rfl
      · rw [if_neg h, if_pos (show i.op ≤ 12 by omega)]
        unfold two
        rw [hx1, hy1, low_of hx2, low_of hy2]
theorem lg_inv {f : Flat} {t : List Int} (ht : wrong t = 0) (hs : ∀ (k : Nat) i, f.code[k]? = some i → Sound f k i) : ∀ (r : List Instr) (k : Nat) (m : Mk) (at_ : List Nat), f.code.drop k = r → k + r.length = f.code.length → LgInv f k at_ m → ∀ at' m', lgFrom t r m at_ = (0, at', m') → LgInv f f.code.length at' m'
  | [], k, m, at_, hr, hk, hi, at', m', h => by
    unfold lgFrom at h
    injection h with _ h
    injection h with h1 h2
    subst h1 h2
    obtain rfl : k = f.code.length := by simpa using hk
    exact hi
  | i :: r, k, m, at_, hr, hk, hi, at', m', h => by
    have hkl : k < f.code.length := by rw [List.length_cons] at hk; omega
    have hik : f.code[k]? = some i := by
      have : (f.code.drop k)[0]? = some i := by rw [hr]; rfl
      rw [List.getElem?_drop] at this
      simpa using this
    have hr' : f.code.drop (k + 1) = r := by
      rw [show k + 1 = 1 + k by omega, Nat.add_comm, ← List.drop_drop, hr]; rfl
    have hk' : k + 1 + r.length = f.code.length := by rw [List.length_cons] at hk; omega
    have hsd : ∀ (j : Nat) (x : Instr), f.code[j]? = some x → x.op ≤ 13 → InP f.secret x.d := fun j x hx hop => (hs j x hx).makes (by omega)
    obtain ⟨s, hsm⟩ := hi.sec
    unfold lgFrom at h
    by_cases hc : 17 < i.op ∨ mkShows m t i = false
    · rw [if_pos hc] at h
      exact lg_inv ht hs r (k + 1) _ _ hr' hk' (hi.push (l := [i]) (s := []) hsd hik (by simp) rfl (by simp [Mk.put]) (.inl rfl)) at' m' h
    · rw [if_neg hc] at h
      have hsh : mkShows m t i = true := by
        cases hh : mkShows m t i with
        | true => rfl
        | false => exact absurd (.inr hh) hc
      cases ho : mkOther m i with
      | none =>
        rw [ho] at h
        injection h with h _
        split at h <;> cases h
      | some m2 =>
        rw [ho] at h
        dsimp only at h
        by_cases hl : 12000 < m2.code.length
        · rw [if_pos hl] at h
          injection h with h _
          cases h
        · rw [if_neg hl] at h
          obtain ⟨l, s', h1, h2, h3, h4⟩ := other_blk (hs k i hik) ht hsm hsh ho
          exact lg_inv ht hs r (k + 1) _ _ hr' hk' (hi.push hsd hik h1 h2 h3 h4) at' m' h
theorem lg_start (f : Flat) : LgInv f 0 [] ⟨[], f.secret⟩ :=
  ⟨rfl, rfl, ⟨[], by simp⟩, fun j i h => by omega, fun p x h => by simp at h⟩
/-! ### What is made is right -/
theorem LgInv.mono {f : Flat} {at_ : List Nat} {m : Mk} (h : LgInv f f.code.length at_ m) : ∀ (n j : Nat), j + n ≤ f.code.length → pos at_ m j + n ≤ pos at_ m (j + n)
  | 0, j, _ => Nat.le_refl _
  | n + 1, j, hj => by
    have := h.mono n j (by omega)
    obtain ⟨l, _, h2, _, h4⟩ := h.blk (j + n) f.code[j + n] (by omega) (List.getElem?_eq_getElem (by omega))
    have : 0 < l.length := List.length_pos_iff.2 h2
    rw [show j + (n + 1) = j + n + 1 by omega, h4]
    omega
theorem LgInv.end_ {f : Flat} {at_ : List Nat} {m : Mk} (h : LgInv f f.code.length at_ m) : pos at_ m f.code.length = m.code.length := by rw [← h.len]; exact pos_last _ _
theorem LgInv.at_ {f : Flat} {l : List Nat} {m : Mk} (h : LgInv f f.code.length l m) {j : Nat} (hj : j < f.code.length) : l.getD j 0 = pos l m j := by
  unfold pos
  rw [List.getD_eq_getElem?_getD, List.getD_eq_getElem?_getD, List.getElem?_append_left (by rw [h.len]; exact hj)]
/-- a straight instruction of a segment is right -/
theorem good_sound {S : List Bool} {i : Instr} (h : GoodI S i) {x : Flat} (hx : x.secret = S) (p : Nat) : Sound x p i := by
  rcases h.op with ⟨h1, h2⟩ | ⟨h1, h2, h3, h4, _⟩
  · have hr : reads i = [] := by unfold reads; rw [if_neg (by omega), if_neg (by omega), if_neg (by omega), if_neg (by omega)]
    refine ⟨by omega, by rw [hr]; simp, fun _ => by rw [hx]; exact h.d, fun _ => h2, fun h => by omega, fun h => by omega, ?_⟩
    unfold secrets
    rw [if_neg (by omega), if_neg (by omega), if_neg (by omega), if_neg (by omega), hr]; rfl
  · have hr : reads i = [i.a, i.b] := by unfold reads; rw [if_pos (by omega)]
    refine ⟨by omega, ?_, fun _ => by rw [hx]; exact h.d, fun h => by omega, fun h => by omega, fun h => by omega, ?_⟩
    · rw [hr, hx]; intro p hp; simp at hp; rcases hp with rfl | rfl
      · exact h2
      · exact h3
    · unfold secrets
      rw [if_neg (by omega), if_neg (by omega), if_neg (by omega), if_neg (by omega), hr, hx]
      simp only [List.any_cons, List.any_nil, h4]
      cases Ev.sec S i.a <;> cases Ev.sec S i.b <;> rfl
theorem checkAt_sound {f : Flat} {k : Nat} {i : Instr} (h : Sound f k i) : checkAt f k i = 0 := by
  unfold checkAt
  rw [if_neg (by have := h.op; omega)]
  have hn : numbers f k i = true := by
    unfold numbers
    rw [Bool.and_eq_true, Bool.and_eq_true, List.all_eq_true]
    refine ⟨⟨fun p hp => by have := h.reads p hp; simp [isPlace, this], ?_⟩, ?_⟩
    · cases hm : Ev.makes i with
      | false => rfl
      | true =>
        unfold Ev.makes at hm
        simp at hm
        have := h.makes hm.2
        simp [isPlace, this]
    · split
      · have := h.imm ‹_›; simp [isWord, this]
      split
      · have := h.arr ‹_›; simp [this]
      split
      · have := h.jump ‹_›; simp [this]
      · rfl
  rw [hn, if_neg (by simp), h.labels]
  simp
end Ev
