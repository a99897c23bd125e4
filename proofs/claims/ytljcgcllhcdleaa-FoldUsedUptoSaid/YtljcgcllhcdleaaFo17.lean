import Derived.Test.YtljcgcllhcdleaaFo16
import Derived.Test.YtljcgcllhcdleaaFo13
/- flow.Own's instructions are a row of its own; the secrets, and the arrays, lie behind it. -/
namespace Go.Proofs.Ytljcgcllhcdleaa
open Go.RowKit
set_option linter.unusedSimpArgs false
set_option linter.unusedVariables false
set_option maxHeartbeats 800000 in
theorem cloneCode_own (l : List Ev.Instr) (v : Value) (w : World) (h : RCode w w.heap.size v l) (hl : l.length ≤ 1073741824) :
    Calls Try.prog 65 #[v] w fun e w' => ∃ v', e = .returned v' ∧ w'.ownsRow w.heap.size 39 6 v' l.length (l.flatMap cellsI) ∧ Below w.heap.size w w' := by
  obtain ⟨i0, hi0, hz0, hz1, hz2⟩ := info_parts cloneCode_info
  have HI := Lib.hid (⟨hi0, hz0, hz1, hz2⟩ : _ ∧ _ ∧ _ ∧ _)
  clear hi0 hz0 hz1 hz2
  have HR := Lib.hid h
  obtain ⟨A, c, rfl, hc1, hc2⟩ := SL.form h
  have hnil : A = none → l = [] := fun ha => by
    subst ha
    cases l with
    | nil => rfl
    | cons x r =>
      obtain ⟨_, A', c', he, _, _, _, h4⟩ := h
      obtain ⟨b, o, e, _⟩ := h4 (by simp)
      subst e
      cases he
  clear h
  have heq := fun W a n c n' c' => Lib.run_eql_slice_nil (P := Try.prog) W 22 39 a n c n' c' Try.underlying22
  cases A with
  | none =>
    have hl0 := hnil rfl
    subst hl0
    clear hnil
    go_enter Try.func65, Try.ntmps65
    go_wp2
    go_ret
    exact ⟨_, rfl, World.ownsRow_nil _ _ _ _, by (repeat' first | with_reducible (first | exact Below.refl _ _ | assumption | refine Below.alloc ?_ ?_ _ | refine below_drewN ?_ _ | refine Below.drew ?_ | refine Below.setCell ?_ ?_ _ | refine Below.trans ?_ (Below.mono (by with_reducible assumption) ?_)) | go_size)⟩
  | some a =>
    clear hnil
    go_enter Try.func65, Try.ntmps65
    go_wp2_with (at_builtin; refine wpList_append_SL (B := w.heap.size) rfl (.tmp 5) (.tmp 6) _ rfl w.heap.size 39 i0 _ 48 Try.underlying22 HI.out.1 HI.out.2.1 HI.out.2.2.1 HI.out.2.2.2 rfl (by omega) rfl (World.ownsRow_made w #[] 0 (Nat.le_refl _) (by simp [maxLen]) (by simp)) rfl (SL.below HR.out (by (repeat' first | with_reducible (first | exact Below.refl _ _ | assumption | refine Below.alloc ?_ ?_ _ | refine below_drewN ?_ _ | refine Below.drew ?_ | refine Below.setCell ?_ ?_ _ | refine Below.trans ?_ (Below.mono (by with_reducible assumption) ?_)) | go_size))) (one_code l) (by simp only [maxLen]; omega) (by omega) (by go_size) ?_; intro v1 w1 hown1 hg1 hat1)
    have hb1 : Below w.heap.size w w1 := (by (repeat' first | with_reducible (first | exact Below.refl _ _ | assumption | refine Below.alloc ?_ ?_ _ | refine below_drewN ?_ _ | refine Below.drew ?_ | refine Below.setCell ?_ ?_ _ | refine Below.trans ?_ (Below.mono (by with_reducible assumption) ?_)) | go_size) : Below w.heap.size w _).grown hg1 (by go_size) (by intro k hk; have hk' : w.heap.size = k := (Option.some.inj hk); omega)
    go_ret
    exact ⟨_, rfl, (by simpa using hown1), hb1⟩

set_option maxRecDepth 4000 in
set_option maxHeartbeats 3200000 in
theorem own_code (f : Ev.Flat) (v : Value) (w : World) (h : RFlat w w.heap.size v f) (h1 : f.code.length ≤ 1073741824) (h2 : f.secret.length ≤ 1073741824) (h3 : f.arrays.length ≤ 1073741824) :
    Calls Try.prog 33 #[v] w fun e w' => ∃ lo vc' vs' va', e = .returned (.agg #[vc', vs', .int .i64 f.params, va']) ∧ w'.ownsRow w.heap.size 39 6 vc' f.code.length (f.code.flatMap cellsI) ∧ (∀ b, vc'.ownBlock = some b → b < lo) ∧ RBools w' w'.heap.size vs' f.secret ∧ from_ lo vs' ∧ RVars w' w'.heap.size va' f.arrays ∧ from_ lo va' ∧ w.heap.size ≤ lo ∧ lo ≤ w'.heap.size ∧ Below w.heap.size w w' := by
  obtain ⟨vc, vs, va, rfl, hc, hs, ha⟩ := h
  have HC := Lib.hid hc
  have HS := Lib.hid hs
  have HA := Lib.hid ha
  clear hc hs ha
  go_enter Try.func33, Try.ntmps33
  go_wp2_with fail
  refine wp_region_trail (fun w' => Below (w.heap.size + 1) ((w.alloc (.cells #[vc, vs, .int .i64 f.params, va] 26)).alloc (.cells #[.slice none 0 0, .slice none 0 0, .int .i64 0, .slice none 0 0] 26)) w') [(0, true), (1, true), (3, true), (4, true), (6, true), (7, true), (8, true), (9, true), (2, false), (5, false), (10, false), (11, true), (12, false)] (by kernel_rfl) (by kernel_rfl) (by kernel_rfl) (by decide) (by (repeat' first | with_reducible (first | exact Below.refl _ _ | assumption | refine Below.alloc ?_ ?_ _ | refine below_drewN ?_ _ | refine Below.drew ?_ | refine Below.setCell ?_ ?_ _ | refine Below.trans ?_ (Below.mono (by with_reducible assumption) ?_)) | go_size)) ?_
  apply trail_light
  case hi => (simp only [List.getElem?_toArray, List.getElem?_cons_zero, List.getElem?_cons_succ]; exact rfl)
  case hl => first | exact light_no (by rfl) | ((first | apply light_plain rfl | apply light_yes (by rfl)); intro w9 hb9; have hB9 : Below w.heap.size w w9 := (by (repeat' first | with_reducible (first | exact Below.refl _ _ | assumption | refine Below.alloc ?_ ?_ _ | refine below_drewN ?_ _ | refine Below.drew ?_ | refine Below.setCell ?_ ?_ _ | refine Below.trans ?_ (Below.mono (by with_reducible assumption) ?_)) | go_size)); obtain ⟨kc9, kf9, s9⟩ := bfacts hb9; obtain ⟨kd9, kg9, _⟩ := bfacts hB9; go_simp; try rfl)
  case hQ => exact fun _ _ _ h => h
  (try simp only [Act.put, List.setIfInBounds_toArray, List.set_cons_zero, List.set_cons_succ])
  apply trail_light
  case hi => (simp only [List.getElem?_toArray, List.getElem?_cons_zero, List.getElem?_cons_succ]; exact rfl)
  case hl => first | exact light_no (by rfl) | ((first | apply light_plain rfl | apply light_yes (by rfl)); intro w9 hb9; have hB9 : Below w.heap.size w w9 := (by (repeat' first | with_reducible (first | exact Below.refl _ _ | assumption | refine Below.alloc ?_ ?_ _ | refine below_drewN ?_ _ | refine Below.drew ?_ | refine Below.setCell ?_ ?_ _ | refine Below.trans ?_ (Below.mono (by with_reducible assumption) ?_)) | go_size)); obtain ⟨kc9, kf9, s9⟩ := bfacts hb9; obtain ⟨kd9, kg9, _⟩ := bfacts hB9; go_simp; try rfl)
  case hQ => exact fun _ _ _ h => h
  (try simp only [Act.put, List.setIfInBounds_toArray, List.set_cons_zero, List.set_cons_succ])
  apply trail_light
  case hi => (simp only [List.getElem?_toArray, List.getElem?_cons_zero, List.getElem?_cons_succ]; exact rfl)
  case hl => first | exact light_no (by rfl) | ((first | apply light_plain rfl | apply light_yes (by rfl)); intro w9 hb9; have hB9 : Below w.heap.size w w9 := (by (repeat' first | with_reducible (first | exact Below.refl _ _ | assumption | refine Below.alloc ?_ ?_ _ | refine below_drewN ?_ _ | refine Below.drew ?_ | refine Below.setCell ?_ ?_ _ | refine Below.trans ?_ (Below.mono (by with_reducible assumption) ?_)) | go_size)); obtain ⟨kc9, kf9, s9⟩ := bfacts hb9; obtain ⟨kd9, kg9, _⟩ := bfacts hB9; go_simp; try rfl)
  case hQ => exact fun _ _ _ h => h
  (try simp only [Act.put, List.setIfInBounds_toArray, List.set_cons_zero, List.set_cons_succ])
  apply trail_light
  case hi => (simp only [List.getElem?_toArray, List.getElem?_cons_zero, List.getElem?_cons_succ]; exact rfl)
  case hl => first | exact light_no (by rfl) | ((first | apply light_plain rfl | apply light_yes (by rfl)); intro w9 hb9; have hB9 : Below w.heap.size w w9 := (by (repeat' first | with_reducible (first | exact Below.refl _ _ | assumption | refine Below.alloc ?_ ?_ _ | refine below_drewN ?_ _ | refine Below.drew ?_ | refine Below.setCell ?_ ?_ _ | refine Below.trans ?_ (Below.mono (by with_reducible assumption) ?_)) | go_size)); obtain ⟨kc9, kf9, s9⟩ := bfacts hb9; obtain ⟨kd9, kg9, _⟩ := bfacts hB9; go_simp; try rfl)
  case hQ => exact fun _ _ _ h => h
  (try simp only [Act.put, List.setIfInBounds_toArray, List.set_cons_zero, List.set_cons_succ])
  apply trail_light
  case hi => (simp only [List.getElem?_toArray, List.getElem?_cons_zero, List.getElem?_cons_succ]; exact rfl)
  case hl => first | exact light_no (by rfl) | ((first | apply light_plain rfl | apply light_yes (by rfl)); intro w9 hb9; have hB9 : Below w.heap.size w w9 := (by (repeat' first | with_reducible (first | exact Below.refl _ _ | assumption | refine Below.alloc ?_ ?_ _ | refine below_drewN ?_ _ | refine Below.drew ?_ | refine Below.setCell ?_ ?_ _ | refine Below.trans ?_ (Below.mono (by with_reducible assumption) ?_)) | go_size)); obtain ⟨kc9, kf9, s9⟩ := bfacts hb9; obtain ⟨kd9, kg9, _⟩ := bfacts hB9; go_simp; try rfl)
  case hQ => exact fun _ _ _ h => h
  (try simp only [Act.put, List.setIfInBounds_toArray, List.set_cons_zero, List.set_cons_succ])
  apply trail_light
  case hi => (simp only [List.getElem?_toArray, List.getElem?_cons_zero, List.getElem?_cons_succ]; exact rfl)
  case hl => first | exact light_no (by rfl) | ((first | apply light_plain rfl | apply light_yes (by rfl)); intro w9 hb9; have hB9 : Below w.heap.size w w9 := (by (repeat' first | with_reducible (first | exact Below.refl _ _ | assumption | refine Below.alloc ?_ ?_ _ | refine below_drewN ?_ _ | refine Below.drew ?_ | refine Below.setCell ?_ ?_ _ | refine Below.trans ?_ (Below.mono (by with_reducible assumption) ?_)) | go_size)); obtain ⟨kc9, kf9, s9⟩ := bfacts hb9; obtain ⟨kd9, kg9, _⟩ := bfacts hB9; go_simp; try rfl)
  case hQ => exact fun _ _ _ h => h
  (try simp only [Act.put, List.setIfInBounds_toArray, List.set_cons_zero, List.set_cons_succ])
  apply trail_light
  case hi => (simp only [List.getElem?_toArray, List.getElem?_cons_zero, List.getElem?_cons_succ]; exact rfl)
  case hl => first | exact light_no (by rfl) | ((first | apply light_plain rfl | apply light_yes (by rfl)); intro w9 hb9; have hB9 : Below w.heap.size w w9 := (by (repeat' first | with_reducible (first | exact Below.refl _ _ | assumption | refine Below.alloc ?_ ?_ _ | refine below_drewN ?_ _ | refine Below.drew ?_ | refine Below.setCell ?_ ?_ _ | refine Below.trans ?_ (Below.mono (by with_reducible assumption) ?_)) | go_size)); obtain ⟨kc9, kf9, s9⟩ := bfacts hb9; obtain ⟨kd9, kg9, _⟩ := bfacts hB9; go_simp; try rfl)
  case hQ => exact fun _ _ _ h => h
  (try simp only [Act.put, List.setIfInBounds_toArray, List.set_cons_zero, List.set_cons_succ])
  apply trail_light
  case hi => (simp only [List.getElem?_toArray, List.getElem?_cons_zero, List.getElem?_cons_succ]; exact rfl)
  case hl => first | exact light_no (by rfl) | ((first | apply light_plain rfl | apply light_yes (by rfl)); intro w9 hb9; have hB9 : Below w.heap.size w w9 := (by (repeat' first | with_reducible (first | exact Below.refl _ _ | assumption | refine Below.alloc ?_ ?_ _ | refine below_drewN ?_ _ | refine Below.drew ?_ | refine Below.setCell ?_ ?_ _ | refine Below.trans ?_ (Below.mono (by with_reducible assumption) ?_)) | go_size)); obtain ⟨kc9, kf9, s9⟩ := bfacts hb9; obtain ⟨kd9, kg9, _⟩ := bfacts hB9; go_simp; try rfl)
  case hQ => exact fun _ _ _ h => h
  (try simp only [Act.put, List.setIfInBounds_toArray, List.set_cons_zero, List.set_cons_succ])
  apply trail_heavy
  case hi => (simp only [List.getElem?_toArray, List.getElem?_cons_zero, List.getElem?_cons_succ]; exact rfl)
  go_wp2_with (first | (go_at_call 65; refine (cloneCode_own f.code _ _ (SL.at_ HC.out (by (repeat' first | with_reducible (first | exact Below.refl _ _ | assumption | refine Below.alloc ?_ ?_ _ | refine below_drewN ?_ _ | refine Below.drew ?_ | refine Below.setCell ?_ ?_ _ | refine Below.trans ?_ (Below.mono (by with_reducible assumption) ?_)) | go_size)) (Nat.le_refl _)) h1).mono ?_; rintro e w1 ⟨v1, rfl, hO1, hb1⟩; obtain ⟨kc1, kf1, s1⟩ := bfacts hb1; (try simp only [World.size_alloc, World.size_setCell, World.size_drew, World.heap_drewN, Nat.add_one_le_iff] at s1); obtain ⟨A1, c1, rfl, _, _⟩ := SL.form (SL.of_own hO1)) | (go_at_call 66; refine (cloneBools_own f.secret _ _ (SL.at_ HS.out (by (repeat' first | with_reducible (first | exact Below.refl _ _ | assumption | refine Below.alloc ?_ ?_ _ | refine below_drewN ?_ _ | refine Below.drew ?_ | refine Below.setCell ?_ ?_ _ | refine Below.trans ?_ (Below.mono (by with_reducible assumption) ?_)) | go_size)) (Nat.le_refl _)) h2).mono ?_; rintro e w2 ⟨v2, rfl, hR2, hF2, hO2, hb2⟩; obtain ⟨kc2, kf2, s2⟩ := bfacts hb2; (try simp only [World.size_alloc, World.size_setCell, World.size_drew, World.heap_drewN, Nat.add_one_le_iff] at s2); obtain ⟨A2, c2, rfl, _, _⟩ := SL.form hR2) | (go_at_call 67; refine (cloneVars_any f.arrays _ _ (SL.at_ HA.out (by (repeat' first | with_reducible (first | exact Below.refl _ _ | assumption | refine Below.alloc ?_ ?_ _ | refine below_drewN ?_ _ | refine Below.drew ?_ | refine Below.setCell ?_ ?_ _ | refine Below.trans ?_ (Below.mono (by with_reducible assumption) ?_)) | go_size)) (Nat.le_refl _)) h3).mono ?_; rintro e w3 ⟨v3, rfl, hR3, hF3, hb3⟩; obtain ⟨kc3, kf3, s3⟩ := bfacts hb3; (try simp only [World.size_alloc, World.size_setCell, World.size_drew, World.heap_drewN, Nat.add_one_le_iff] at s3); obtain ⟨A3, c3, rfl, _, _⟩ := SL.form hR3; have l1 : w.heap.size + 1 < w1.heap.size := (by omega); have l2 : w.heap.size + 1 < w2.heap.size := (by omega); have l3 : w.heap.size + 1 < w3.heap.size := (by omega)) | fail)
  refine ⟨by (repeat' first | with_reducible (first | exact Below.refl _ _ | assumption | refine Below.alloc ?_ ?_ _ | refine below_drewN ?_ _ | refine Below.drew ?_ | refine Below.setCell ?_ ?_ _ | refine Below.trans ?_ (Below.mono (by with_reducible assumption) ?_)) | go_size), ?_⟩
  apply trail_heavy
  case hi => (simp only [List.getElem?_toArray, List.getElem?_cons_zero, List.getElem?_cons_succ]; exact rfl)
  go_wp2_with (first | (go_at_call 65; refine (cloneCode_own f.code _ _ (SL.at_ HC.out (by (repeat' first | with_reducible (first | exact Below.refl _ _ | assumption | refine Below.alloc ?_ ?_ _ | refine below_drewN ?_ _ | refine Below.drew ?_ | refine Below.setCell ?_ ?_ _ | refine Below.trans ?_ (Below.mono (by with_reducible assumption) ?_)) | go_size)) (Nat.le_refl _)) h1).mono ?_; rintro e w1 ⟨v1, rfl, hO1, hb1⟩; obtain ⟨kc1, kf1, s1⟩ := bfacts hb1; (try simp only [World.size_alloc, World.size_setCell, World.size_drew, World.heap_drewN, Nat.add_one_le_iff] at s1); obtain ⟨A1, c1, rfl, _, _⟩ := SL.form (SL.of_own hO1)) | (go_at_call 66; refine (cloneBools_own f.secret _ _ (SL.at_ HS.out (by (repeat' first | with_reducible (first | exact Below.refl _ _ | assumption | refine Below.alloc ?_ ?_ _ | refine below_drewN ?_ _ | refine Below.drew ?_ | refine Below.setCell ?_ ?_ _ | refine Below.trans ?_ (Below.mono (by with_reducible assumption) ?_)) | go_size)) (Nat.le_refl _)) h2).mono ?_; rintro e w2 ⟨v2, rfl, hR2, hF2, hO2, hb2⟩; obtain ⟨kc2, kf2, s2⟩ := bfacts hb2; (try simp only [World.size_alloc, World.size_setCell, World.size_drew, World.heap_drewN, Nat.add_one_le_iff] at s2); obtain ⟨A2, c2, rfl, _, _⟩ := SL.form hR2) | (go_at_call 67; refine (cloneVars_any f.arrays _ _ (SL.at_ HA.out (by (repeat' first | with_reducible (first | exact Below.refl _ _ | assumption | refine Below.alloc ?_ ?_ _ | refine below_drewN ?_ _ | refine Below.drew ?_ | refine Below.setCell ?_ ?_ _ | refine Below.trans ?_ (Below.mono (by with_reducible assumption) ?_)) | go_size)) (Nat.le_refl _)) h3).mono ?_; rintro e w3 ⟨v3, rfl, hR3, hF3, hb3⟩; obtain ⟨kc3, kf3, s3⟩ := bfacts hb3; (try simp only [World.size_alloc, World.size_setCell, World.size_drew, World.heap_drewN, Nat.add_one_le_iff] at s3); obtain ⟨A3, c3, rfl, _, _⟩ := SL.form hR3; have l1 : w.heap.size + 1 < w1.heap.size := (by omega); have l2 : w.heap.size + 1 < w2.heap.size := (by omega); have l3 : w.heap.size + 1 < w3.heap.size := (by omega)) | fail)
  refine ⟨by (repeat' first | with_reducible (first | exact Below.refl _ _ | assumption | refine Below.alloc ?_ ?_ _ | refine below_drewN ?_ _ | refine Below.drew ?_ | refine Below.setCell ?_ ?_ _ | refine Below.trans ?_ (Below.mono (by with_reducible assumption) ?_)) | go_size), ?_⟩
  apply trail_heavy
  case hi => (simp only [List.getElem?_toArray, List.getElem?_cons_zero, List.getElem?_cons_succ]; exact rfl)
  go_wp2_with (first | (go_at_call 65; refine (cloneCode_own f.code _ _ (SL.at_ HC.out (by (repeat' first | with_reducible (first | exact Below.refl _ _ | assumption | refine Below.alloc ?_ ?_ _ | refine below_drewN ?_ _ | refine Below.drew ?_ | refine Below.setCell ?_ ?_ _ | refine Below.trans ?_ (Below.mono (by with_reducible assumption) ?_)) | go_size)) (Nat.le_refl _)) h1).mono ?_; rintro e w1 ⟨v1, rfl, hO1, hb1⟩; obtain ⟨kc1, kf1, s1⟩ := bfacts hb1; (try simp only [World.size_alloc, World.size_setCell, World.size_drew, World.heap_drewN, Nat.add_one_le_iff] at s1); obtain ⟨A1, c1, rfl, _, _⟩ := SL.form (SL.of_own hO1)) | (go_at_call 66; refine (cloneBools_own f.secret _ _ (SL.at_ HS.out (by (repeat' first | with_reducible (first | exact Below.refl _ _ | assumption | refine Below.alloc ?_ ?_ _ | refine below_drewN ?_ _ | refine Below.drew ?_ | refine Below.setCell ?_ ?_ _ | refine Below.trans ?_ (Below.mono (by with_reducible assumption) ?_)) | go_size)) (Nat.le_refl _)) h2).mono ?_; rintro e w2 ⟨v2, rfl, hR2, hF2, hO2, hb2⟩; obtain ⟨kc2, kf2, s2⟩ := bfacts hb2; (try simp only [World.size_alloc, World.size_setCell, World.size_drew, World.heap_drewN, Nat.add_one_le_iff] at s2); obtain ⟨A2, c2, rfl, _, _⟩ := SL.form hR2) | (go_at_call 67; refine (cloneVars_any f.arrays _ _ (SL.at_ HA.out (by (repeat' first | with_reducible (first | exact Below.refl _ _ | assumption | refine Below.alloc ?_ ?_ _ | refine below_drewN ?_ _ | refine Below.drew ?_ | refine Below.setCell ?_ ?_ _ | refine Below.trans ?_ (Below.mono (by with_reducible assumption) ?_)) | go_size)) (Nat.le_refl _)) h3).mono ?_; rintro e w3 ⟨v3, rfl, hR3, hF3, hb3⟩; obtain ⟨kc3, kf3, s3⟩ := bfacts hb3; (try simp only [World.size_alloc, World.size_setCell, World.size_drew, World.heap_drewN, Nat.add_one_le_iff] at s3); obtain ⟨A3, c3, rfl, _, _⟩ := SL.form hR3; have l1 : w.heap.size + 1 < w1.heap.size := (by omega); have l2 : w.heap.size + 1 < w2.heap.size := (by omega); have l3 : w.heap.size + 1 < w3.heap.size := (by omega)) | fail)
  refine ⟨by (repeat' first | with_reducible (first | exact Below.refl _ _ | assumption | refine Below.alloc ?_ ?_ _ | refine below_drewN ?_ _ | refine Below.drew ?_ | refine Below.setCell ?_ ?_ _ | refine Below.trans ?_ (Below.mono (by with_reducible assumption) ?_)) | go_size), ?_⟩
  apply trail_light
  case hi => (simp only [List.getElem?_toArray, List.getElem?_cons_zero, List.getElem?_cons_succ]; exact rfl)
  case hl => first | exact light_no (by rfl) | ((first | apply light_plain rfl | apply light_yes (by rfl)); intro w9 hb9; have hB9 : Below w.heap.size w w9 := (by (repeat' first | with_reducible (first | exact Below.refl _ _ | assumption | refine Below.alloc ?_ ?_ _ | refine below_drewN ?_ _ | refine Below.drew ?_ | refine Below.setCell ?_ ?_ _ | refine Below.trans ?_ (Below.mono (by with_reducible assumption) ?_)) | go_size)); obtain ⟨kc9, kf9, s9⟩ := bfacts hb9; obtain ⟨kd9, kg9, _⟩ := bfacts hB9; go_simp; try rfl)
  case hQ => exact fun _ _ _ h => h
  (try simp only [Act.put, List.setIfInBounds_toArray, List.set_cons_zero, List.set_cons_succ])
  apply trail_heavy
  case hi => (simp only [List.getElem?_toArray, List.getElem?_cons_zero, List.getElem?_cons_succ]; exact rfl)
  go_wp2_with (first | (go_at_call 65; refine (cloneCode_own f.code _ _ (SL.at_ HC.out (by (repeat' first | with_reducible (first | exact Below.refl _ _ | assumption | refine Below.alloc ?_ ?_ _ | refine below_drewN ?_ _ | refine Below.drew ?_ | refine Below.setCell ?_ ?_ _ | refine Below.trans ?_ (Below.mono (by with_reducible assumption) ?_)) | go_size)) (Nat.le_refl _)) h1).mono ?_; rintro e w1 ⟨v1, rfl, hO1, hb1⟩; obtain ⟨kc1, kf1, s1⟩ := bfacts hb1; (try simp only [World.size_alloc, World.size_setCell, World.size_drew, World.heap_drewN, Nat.add_one_le_iff] at s1); obtain ⟨A1, c1, rfl, _, _⟩ := SL.form (SL.of_own hO1)) | (go_at_call 66; refine (cloneBools_own f.secret _ _ (SL.at_ HS.out (by (repeat' first | with_reducible (first | exact Below.refl _ _ | assumption | refine Below.alloc ?_ ?_ _ | refine below_drewN ?_ _ | refine Below.drew ?_ | refine Below.setCell ?_ ?_ _ | refine Below.trans ?_ (Below.mono (by with_reducible assumption) ?_)) | go_size)) (Nat.le_refl _)) h2).mono ?_; rintro e w2 ⟨v2, rfl, hR2, hF2, hO2, hb2⟩; obtain ⟨kc2, kf2, s2⟩ := bfacts hb2; (try simp only [World.size_alloc, World.size_setCell, World.size_drew, World.heap_drewN, Nat.add_one_le_iff] at s2); obtain ⟨A2, c2, rfl, _, _⟩ := SL.form hR2) | (go_at_call 67; refine (cloneVars_any f.arrays _ _ (SL.at_ HA.out (by (repeat' first | with_reducible (first | exact Below.refl _ _ | assumption | refine Below.alloc ?_ ?_ _ | refine below_drewN ?_ _ | refine Below.drew ?_ | refine Below.setCell ?_ ?_ _ | refine Below.trans ?_ (Below.mono (by with_reducible assumption) ?_)) | go_size)) (Nat.le_refl _)) h3).mono ?_; rintro e w3 ⟨v3, rfl, hR3, hF3, hb3⟩; obtain ⟨kc3, kf3, s3⟩ := bfacts hb3; (try simp only [World.size_alloc, World.size_setCell, World.size_drew, World.heap_drewN, Nat.add_one_le_iff] at s3); obtain ⟨A3, c3, rfl, _, _⟩ := SL.form hR3; have l1 : w.heap.size + 1 < w1.heap.size := (by omega); have l2 : w.heap.size + 1 < w2.heap.size := (by omega); have l3 : w.heap.size + 1 < w3.heap.size := (by omega)) | fail)
  refine ⟨by (repeat' first | with_reducible (first | exact Below.refl _ _ | assumption | refine Below.alloc ?_ ?_ _ | refine below_drewN ?_ _ | refine Below.drew ?_ | refine Below.setCell ?_ ?_ _ | refine Below.trans ?_ (Below.mono (by with_reducible assumption) ?_)) | go_size), ?_⟩
  refine trail_nil ?_
  (try dsimp only)
  have hk1 : ∀ o, w1.cell? ⟨w.heap.size + 1, o, none⟩ = ((w.alloc (.cells #[vc, vs, .int .i64 f.params, va] 26)).alloc (.cells #[.slice none 0 0, .slice none 0 0, .int .i64 0, .slice none 0 0] 26)).cell? ⟨w.heap.size + 1, o, none⟩ := fun o => (kc1 _ _ (by simp)).trans rfl
  have hk : ∀ o, w3.cell? ⟨w.heap.size + 1, o, none⟩ = w1.cell? ⟨w.heap.size + 1, o, none⟩ := fun o => (kc3 _ _ (by omega)).trans (kc2 _ _ (by omega))
  have e0 : w3.cell? ⟨w.heap.size + 1, 0, none⟩ = some (.slice none 0 0) := by rw [hk, hk1]; go_simp
  have e1 : w3.cell? ⟨w.heap.size + 1, 1, none⟩ = some (.slice none 0 0) := by rw [hk, hk1]; go_simp
  have e2 : w3.cell? ⟨w.heap.size + 1, 2, none⟩ = some (.int .i64 0) := by rw [hk, hk1]; go_simp
  have e3 : w3.cell? ⟨w.heap.size + 1, 3, none⟩ = some (.slice none 0 0) := by rw [hk, hk1]; go_simp
  clear hk hk1 kc1 kc2 kc3 kf1 kf2 kf3
  go_wp2
  refine bodyPost_ret (v := .agg #[.slice A1 f.code.length c1, .slice A2 f.secret.length c2, .int .i64 f.params, .slice A3 f.arrays.length c3]) (by simp [results, Try.results33, go_sem, e0, e1, e2, e3]) rfl ?_
  have hO1l : ∀ b, (Value.slice A1 f.code.length c1).ownBlock = some b → b < w1.heap.size := fun b hb => own_ltR hO1 hb
  have hO1g : ∀ b, (Value.slice A1 f.code.length c1).ownBlock = some b → b ≠ w.heap.size + 1 := fun b hb e => by have := (hO1.lt b hb).1; simp at this; omega
  have hn := fun (e : (Value.slice A1 f.code.length c1).ownBlock = some (w.heap.size + 1)) => hO1g _ e rfl
  have hsz : ((((w3.setCell ⟨w.heap.size + 1, 0, none⟩ (Value.slice A1 f.code.length c1)).setCell ⟨w.heap.size + 1, 1, none⟩ (Value.slice A2 f.secret.length c2)).setCell ⟨w.heap.size + 1, 2, none⟩ (Value.int .i64 f.params)).setCell ⟨w.heap.size + 1, 3, none⟩ (Value.slice A3 f.arrays.length c3)).heap.size = w3.heap.size := by simp
  have q2 : from_ w1.heap.size (Value.slice A2 f.secret.length c2) := hF2
  have q3 : from_ w1.heap.size (Value.slice A3 f.arrays.length c3) := hF3.less (by omega)
  have r1 : w3.ownsRow w.heap.size 39 6 (Value.slice A1 f.code.length c1) f.code.length (f.code.flatMap cellsI) := by
    have h := owns_below (w' := w3) hO1 (by (repeat' first | with_reducible (first | exact Below.refl _ _ | assumption | refine Below.alloc ?_ ?_ _ | refine below_drewN ?_ _ | refine Below.drew ?_ | refine Below.setCell ?_ ?_ _ | refine Below.trans ?_ (Below.mono (by with_reducible assumption) ?_)) | go_size))
    exact ⟨h.1, h.2.imp id fun ⟨g, cap, cur, k1, k2, k3⟩ => ⟨g, cap, cur, k1, Nat.le_trans (by simp <;> omega) k2, k3⟩⟩
  have r2 : RBools w3 w3.heap.size (Value.slice A2 f.secret.length c2) f.secret := SL.at_ hR2 (by (repeat' first | with_reducible (first | exact Below.refl _ _ | assumption | refine Below.alloc ?_ ?_ _ | refine below_drewN ?_ _ | refine Below.drew ?_ | refine Below.setCell ?_ ?_ _ | refine Below.trans ?_ (Below.mono (by with_reducible assumption) ?_)) | go_size)) (Nat.le_refl _)
  refine ⟨w1.heap.size, _, _, _, rfl, ?_, hO1l, ?_, q2, ?_, q3, by omega, ?_, by (repeat' first | with_reducible (first | exact Below.refl _ _ | assumption | refine Below.alloc ?_ ?_ _ | refine below_drewN ?_ _ | refine Below.drew ?_ | refine Below.setCell ?_ ?_ _ | refine Below.trans ?_ (Below.mono (by with_reducible assumption) ?_)) | go_size)⟩
  · exact ownsRow_setCell_other (ownsRow_setCell_other (ownsRow_setCell_other (ownsRow_setCell_other r1 hn _) hn _) hn _) hn _
  · rw [hsz]; exact (((SL.aside r2 q2 _ _ _ (by omega)).aside q2 _ _ _ (by omega)).aside q2 _ _ _ (by omega)).aside q2 _ _ _ (by omega)
  · rw [hsz]; exact (((SL.aside hR3 q3 _ _ _ (by omega)).aside q3 _ _ _ (by omega)).aside q3 _ _ _ (by omega)).aside q3 _ _ _ (by omega)
  · rw [hsz]; omega
end Go.Proofs.Ytljcgcllhcdleaa
/- What holds of an interval of blocks alone. -/
namespace Go.Proofs.Ytljcgcllhcdleaa
open Go.RowKit
set_option linter.unusedSimpArgs false
set_option linter.unusedVariables false
/-- what holds wherever the blocks of an interval are as they are here -/
def Dep (lo hi : Nat) (w : World) (R : World → Prop) : Prop := hi ≤ w.heap.size ∧ ∀ w' : World, hi ≤ w'.heap.size → (∀ b, lo ≤ b → b < hi → w'.heap[b]? = w.heap[b]?) → R w'
theorem Dep.here {lo hi : Nat} {w : World} {R : World → Prop} (h : Dep lo hi w R) : R w := h.2 w h.1 fun _ _ _ => rfl
theorem Dep.stays {lo hi : Nat} {w w' : World} {R : World → Prop} (h : Dep lo hi w R) (hb : Below w.heap.size w w') : Dep lo hi w' R :=
  ⟨Nat.le_trans h.1 hb.size, fun u h1 h2 => h.2 u h1 fun b h3 h4 => (h2 b h3 h4).trans (hb.block b (Nat.lt_of_lt_of_le h4 h.1))⟩
theorem Dep.aside {lo hi : Nat} {w : World} {R : World → Prop} (h : Dep lo hi w R) (q o : Nat) (c : Value) (hq : q < lo ∨ hi ≤ q) : Dep lo hi (w.setCell ⟨q, o, none⟩ c) R :=
  ⟨by simpa using h.1, fun u h1 h2 => h.2 u h1 fun b h3 h4 => (h2 b h3 h4).trans (Below.heap_setCell w ⟨q, o, none⟩ c b (by show b ≠ q; omega))⟩
theorem Dep.drew {lo hi : Nat} {w : World} {R : World → Prop} (h : Dep lo hi w R) : Dep lo hi w.drew R := h
theorem Dep.less {lo lo' hi : Nat} {w : World} {R : World → Prop} (h : Dep lo hi w R) (hl : lo' ≤ lo) : Dep lo' hi w R :=
  ⟨h.1, fun u h1 h2 => h.2 u h1 fun b h3 h4 => h2 b (Nat.le_trans hl h3) h4⟩
theorem Dep.imp {lo hi : Nat} {w : World} {R S : World → Prop} (h : Dep lo hi w R) (hi' : ∀ u, R u → S u) : Dep lo hi w S := ⟨h.1, fun u h1 h2 => hi' u (h.2 u h1 h2)⟩
theorem Dep.and {lo hi : Nat} {w : World} {R S : World → Prop} (h : Dep lo hi w R) (h' : Dep lo hi w S) : Dep lo hi w (fun u => R u ∧ S u) := ⟨h.1, fun u h1 h2 => ⟨h.2 u h1 h2, h'.2 u h1 h2⟩⟩
theorem Dep.const {lo : Nat} {w : World} {R : World → Prop} (h : ∀ u, R u) : Dep lo w.heap.size w R := ⟨Nat.le_refl _, fun u _ _ => h u⟩
theorem from_own_D {w : World} {lo size n : Nat} {e : TypeId} {v : Value} {xs : List Value} (h : w.ownsRow lo e size v n xs) : from_ lo v := by
  rcases h.2 with ⟨rfl, _⟩ | ⟨g, cap, cur, rfl, h1, _⟩
  · exact from_nil _ _ _
  · exact from_some _ _ h1
theorem cell_agree {w w' : World} {b o : Nat} (h : w'.heap[b]? = w.heap[b]?) : w'.cell? ⟨b, o, none⟩ = w.cell? ⟨b, o, none⟩ := by
  unfold World.cell?
  dsimp only
  rw [h]
/-- a slice reads the same where its block is the same -/
theorem SL.dep {w : World} {lo size n : Nat} {v : Value} {xs : List Value} (h : SL w w.heap.size size v n xs) (hf : from_ lo v) : Dep lo w.heap.size w (fun u => SL u u.heap.size size v n xs) := by
  refine ⟨Nat.le_refl _, fun u h1 h2 => ?_⟩
  obtain ⟨h1', A, c, rfl, h3, h4, h5, h6⟩ := h
  refine ⟨h1', A, c, rfl, h3, h4, h5, fun hn => ?_⟩
  obtain ⟨b, o, rfl, hlt, hc⟩ := h6 hn
  have hb := hf _ _ _ rfl
  exact ⟨b, o, rfl, Nat.lt_of_lt_of_le hlt h1, fun j x hx => (cell_agree (h2 b hb hlt)).trans (hc j x hx)⟩
theorem Arrs.dep {w : World} {lo : Nat} {v : Value} {l : List (List Int)} {vs : List Value} (h : Arrs w lo v l vs) : Dep lo w.heap.size w (fun u => RLists u u.heap.size v l) := by
  have h1 := SL.dep (SL.of_own h.outer) (from_own_D h.outer)
  refine ⟨Nat.le_refl _, fun u h2 h3 => ⟨vs, h.len, by rw [← h.len]; exact h1.2 u h2 h3, fun k x a hx ha => ?_⟩⟩
  have h4 := h.row k x a hx ha
  exact (SL.dep (SL.of_own h4) (from_own_D h4)).2 u h2 h3
theorem Leaks.dep {w : World} {lo : Nat} {v : Value} {l : List Ev.Leak} {us : List Value} (h : Leaks w lo v l us) : Dep lo w.heap.size w (fun u => RLeaks u v l) := by
  have h1 := SL.dep (SL.of_own h.row) (from_own_D h.row)
  exact ⟨Nat.le_refl _, fun u h2 h3 => ⟨us, h.len, h1.2 u h2 h3, fun k x y hx hy => (SL.dep (h.val k x y hx hy) (h.low k x hx)).2 u h2 h3⟩⟩
end Go.Proofs.Ytljcgcllhcdleaa
