import Derived.Test.YtljcgcllhcdleaaOwn
import Derived.Test.YtljcgcllhcdleaaRunState
import Derived.Test.YtljcgcllhcdleaaBox
import Derived.Test.YtljcgcllhcdleaaRunA
import Derived.Test.YtljcgcllhcdleaaCheck
import Derived.Test.YtljcgcllhcdleaaSeenPub
import Derived.Deep.DeepCutAuto
/- flow.Own makes rows of its own: the secrets may be set. -/
namespace Go.Proofs.Ytljcgcllhcdleaa
open Go.RowKit
set_option linter.unusedSimpArgs false
set_option linter.unusedVariables false
set_option maxHeartbeats 800000 in
theorem cloneBools_own (l : List Bool) (v : Value) (w : World) (h : RBools w w.heap.size v l) (hl : l.length ≤ 1073741824) :
    Calls Try.prog 66 #[v] w fun e w' => ∃ v', e = .returned v' ∧ RBools w' w'.heap.size v' l ∧ from_ w.heap.size v' ∧ w'.ownsRow w.heap.size 4 1 v' l.length (l.map Value.bool) ∧ Below w.heap.size w w' := by
  obtain ⟨i0, hi0, hz0, hz1, hz2⟩ := info_parts cloneBools_info
  have HI := Lib.hid (⟨hi0, hz0, hz1, hz2⟩ : _ ∧ _ ∧ _ ∧ _)
  clear hi0 hz0 hz1 hz2
  have HR := Lib.hid h
  obtain ⟨A, c, rfl, hc1, hc2⟩ := SL.form h
  have hnil : A = none → l = [] := fun ha => by
    subst ha
    cases l with
    | nil => rfl
    | cons x r =>
      obtain ⟨_, A', c', he, _, _, _, h4⟩ := h
      obtain ⟨b, o, e, _⟩ := h4 (by simp)
      subst e
      cases he
  clear h
  have heq := fun W a n c n' c' => Lib.run_eql_slice_nil (P := Try.prog) W 23 4 a n c n' c' Try.underlying23
  cases A with
  | none =>
    have hl0 := hnil rfl
    subst hl0
    clear hnil
    go_enter Try.func66, Try.ntmps66
    go_wp2
    go_ret
    exact ⟨_, rfl, SL.nil_ _ _ _, from_nil _ _ _, World.ownsRow_nil _ _ _ _, by (repeat' (first | (with_reducible exact Below.refl _ _) | (with_reducible assumption) | (with_reducible refine Below.alloc ?_ ?_ _) | (with_reducible refine below_drewN ?_ _) | (with_reducible refine Below.drew ?_) | (with_reducible refine Below.setCell ?_ ?_ _) | (with_reducible refine Below.trans ?_ (Below.mono (by with_reducible assumption) ?_)) | go_size))⟩
  | some a =>
    clear hnil
    go_enter Try.func66, Try.ntmps66
    go_wp2_with (at_builtin; refine wpList_append_SL (B := w.heap.size) rfl (.tmp 5) (.tmp 6) _ rfl w.heap.size 4 i0 _ 1 Try.underlying23 HI.out.1 HI.out.2.1 HI.out.2.2.1 HI.out.2.2.2 rfl (by omega) rfl (World.ownsRow_made w #[] 0 (Nat.le_refl _) (by simp [maxLen]) (by simp)) rfl (SL.below HR.out (by (repeat' (first | (with_reducible exact Below.refl _ _) | (with_reducible assumption) | (with_reducible refine Below.alloc ?_ ?_ _) | (with_reducible refine below_drewN ?_ _) | (with_reducible refine Below.drew ?_) | (with_reducible refine Below.setCell ?_ ?_ _) | (with_reducible refine Below.trans ?_ (Below.mono (by with_reducible assumption) ?_)) | go_size)))) (one_bools l) (by simp only [maxLen]; omega) (by omega) (by go_size) ?_; intro v1 w1 hown1 hg1 hat1)
    have hb1 : Below w.heap.size w w1 := (by (repeat' (first | (with_reducible exact Below.refl _ _) | (with_reducible assumption) | (with_reducible refine Below.alloc ?_ ?_ _) | (with_reducible refine below_drewN ?_ _) | (with_reducible refine Below.drew ?_) | (with_reducible refine Below.setCell ?_ ?_ _) | (with_reducible refine Below.trans ?_ (Below.mono (by with_reducible assumption) ?_)) | go_size)) : Below w.heap.size w _).grown hg1 (by go_size) (by intro k hk; have hk' : w.heap.size = k := (Option.some.inj hk); omega)
    go_ret
    exact ⟨_, rfl, by (show SL _ _ _ _ _ _; simpa using SL.of_own hown1), from_own hown1, (by simpa using hown1), hb1⟩
set_option maxRecDepth 4000 in
set_option maxHeartbeats 3200000 in
theorem own_new (f : Ev.Flat) (v : Value) (w : World) (h : RFlat w w.heap.size v f) (h1 : f.code.length ≤ 1073741824) (h2 : f.secret.length ≤ 1073741824) (h3 : f.arrays.length ≤ 1073741824) :
    Calls Try.prog 33 #[v] w fun e w' => ∃ lo vc' vs' va', e = .returned (.agg #[vc', vs', .int .i64 f.params, va']) ∧ RCode w' lo vc' f.code ∧ w'.ownsRow lo 4 1 vs' f.secret.length (f.secret.map Value.bool) ∧ RVars w' w'.heap.size va' f.arrays ∧ w.heap.size ≤ lo ∧ lo ≤ w'.heap.size ∧ Below w.heap.size w w' := by
  obtain ⟨vc, vs, va, rfl, hc, hs, ha⟩ := h
  have HC := Lib.hid hc
  have HS := Lib.hid hs
  have HA := Lib.hid ha
  clear hc hs ha
  go_enter Try.func33, Try.ntmps33
  go_wp2_with fail
  refine wp_region_trail (fun w' => Below (w.heap.size + 1) ((w.alloc (.cells #[vc, vs, .int .i64 f.params, va] 26)).alloc (.cells #[.slice none 0 0, .slice none 0 0, .int .i64 0, .slice none 0 0] 26)) w') [(0, true), (1, true), (3, true), (4, true), (6, true), (7, true), (8, true), (9, true), (2, false), (5, false), (10, false), (11, true), (12, false)] (by kernel_rfl) (by kernel_rfl) (by kernel_rfl) (by decide) (by (repeat' (first | (with_reducible exact Below.refl _ _) | (with_reducible assumption) | (with_reducible refine Below.alloc ?_ ?_ _) | (with_reducible refine below_drewN ?_ _) | (with_reducible refine Below.drew ?_) | (with_reducible refine Below.setCell ?_ ?_ _) | (with_reducible refine Below.trans ?_ (Below.mono (by with_reducible assumption) ?_)) | go_size))) ?_
  apply trail_light
  case hi => (simp only [List.getElem?_toArray, List.getElem?_cons_zero, List.getElem?_cons_succ]; exact rfl)
  case hl => first | exact light_no (by rfl) | (apply light_plain rfl; intro w9 hb9; have hB9 : Below w.heap.size w w9 := (by (repeat' (first | (with_reducible exact Below.refl _ _) | (with_reducible assumption) | (with_reducible refine Below.alloc ?_ ?_ _) | (with_reducible refine below_drewN ?_ _) | (with_reducible refine Below.drew ?_) | (with_reducible refine Below.setCell ?_ ?_ _) | (with_reducible refine Below.trans ?_ (Below.mono (by with_reducible assumption) ?_)) | go_size))); obtain ⟨kc9, kf9, s9⟩ := bfacts hb9; obtain ⟨kd9, kg9, _⟩ := bfacts hB9; go_simp; try rfl) | (apply light_yes (by rfl); intro w9 hb9; have hB9 : Below w.heap.size w w9 := (by (repeat' (first | (with_reducible exact Below.refl _ _) | (with_reducible assumption) | (with_reducible refine Below.alloc ?_ ?_ _) | (with_reducible refine below_drewN ?_ _) | (with_reducible refine Below.drew ?_) | (with_reducible refine Below.setCell ?_ ?_ _) | (with_reducible refine Below.trans ?_ (Below.mono (by with_reducible assumption) ?_)) | go_size))); obtain ⟨kc9, kf9, s9⟩ := bfacts hb9; obtain ⟨kd9, kg9, _⟩ := bfacts hB9; go_simp; try rfl)
  case hQ => exact fun _ _ _ h => h
  (try simp only [Act.put, List.setIfInBounds_toArray, List.set_cons_zero, List.set_cons_succ])
  apply trail_light
  case hi => (simp only [List.getElem?_toArray, List.getElem?_cons_zero, List.getElem?_cons_succ]; exact rfl)
  case hl => first | exact light_no (by rfl) | (apply light_plain rfl; intro w9 hb9; have hB9 : Below w.heap.size w w9 := (by (repeat' (first | (with_reducible exact Below.refl _ _) | (with_reducible assumption) | (with_reducible refine Below.alloc ?_ ?_ _) | (with_reducible refine below_drewN ?_ _) | (with_reducible refine Below.drew ?_) | (with_reducible refine Below.setCell ?_ ?_ _) | (with_reducible refine Below.trans ?_ (Below.mono (by with_reducible assumption) ?_)) | go_size))); obtain ⟨kc9, kf9, s9⟩ := bfacts hb9; obtain ⟨kd9, kg9, _⟩ := bfacts hB9; go_simp; try rfl) | (apply light_yes (by rfl); intro w9 hb9; have hB9 : Below w.heap.size w w9 := (by (repeat' (first | (with_reducible exact Below.refl _ _) | (with_reducible assumption) | (with_reducible refine Below.alloc ?_ ?_ _) | (with_reducible refine below_drewN ?_ _) | (with_reducible refine Below.drew ?_) | (with_reducible refine Below.setCell ?_ ?_ _) | (with_reducible refine Below.trans ?_ (Below.mono (by with_reducible assumption) ?_)) | go_size))); obtain ⟨kc9, kf9, s9⟩ := bfacts hb9; obtain ⟨kd9, kg9, _⟩ := bfacts hB9; go_simp; try rfl)
  case hQ => exact fun _ _ _ h => h
  (try simp only [Act.put, List.setIfInBounds_toArray, List.set_cons_zero, List.set_cons_succ])
  apply trail_light
  case hi => (simp only [List.getElem?_toArray, List.getElem?_cons_zero, List.getElem?_cons_succ]; exact rfl)
  case hl => first | exact light_no (by rfl) | (apply light_plain rfl; intro w9 hb9; have hB9 : Below w.heap.size w w9 := (by (repeat' (first | (with_reducible exact Below.refl _ _) | (with_reducible assumption) | (with_reducible refine Below.alloc ?_ ?_ _) | (with_reducible refine below_drewN ?_ _) | (with_reducible refine Below.drew ?_) | (with_reducible refine Below.setCell ?_ ?_ _) | (with_reducible refine Below.trans ?_ (Below.mono (by with_reducible assumption) ?_)) | go_size))); obtain ⟨kc9, kf9, s9⟩ := bfacts hb9; obtain ⟨kd9, kg9, _⟩ := bfacts hB9; go_simp; try rfl) | (apply light_yes (by rfl); intro w9 hb9; have hB9 : Below w.heap.size w w9 := (by (repeat' (first | (with_reducible exact Below.refl _ _) | (with_reducible assumption) | (with_reducible refine Below.alloc ?_ ?_ _) | (with_reducible refine below_drewN ?_ _) | (with_reducible refine Below.drew ?_) | (with_reducible refine Below.setCell ?_ ?_ _) | (with_reducible refine Below.trans ?_ (Below.mono (by with_reducible assumption) ?_)) | go_size))); obtain ⟨kc9, kf9, s9⟩ := bfacts hb9; obtain ⟨kd9, kg9, _⟩ := bfacts hB9; go_simp; try rfl)
  case hQ => exact fun _ _ _ h => h
  (try simp only [Act.put, List.setIfInBounds_toArray, List.set_cons_zero, List.set_cons_succ])
  apply trail_light
  case hi => (simp only [List.getElem?_toArray, List.getElem?_cons_zero, List.getElem?_cons_succ]; exact rfl)
  case hl => first | exact light_no (by rfl) | (apply light_plain rfl; intro w9 hb9; have hB9 : Below w.heap.size w w9 := (by (repeat' (first | (with_reducible exact Below.refl _ _) | (with_reducible assumption) | (with_reducible refine Below.alloc ?_ ?_ _) | (with_reducible refine below_drewN ?_ _) | (with_reducible refine Below.drew ?_) | (with_reducible refine Below.setCell ?_ ?_ _) | (with_reducible refine Below.trans ?_ (Below.mono (by with_reducible assumption) ?_)) | go_size))); obtain ⟨kc9, kf9, s9⟩ := bfacts hb9; obtain ⟨kd9, kg9, _⟩ := bfacts hB9; go_simp; try rfl) | (apply light_yes (by rfl); intro w9 hb9; have hB9 : Below w.heap.size w w9 := (by (repeat' (first | (with_reducible exact Below.refl _ _) | (with_reducible assumption) | (with_reducible refine Below.alloc ?_ ?_ _) | (with_reducible refine below_drewN ?_ _) | (with_reducible refine Below.drew ?_) | (with_reducible refine Below.setCell ?_ ?_ _) | (with_reducible refine Below.trans ?_ (Below.mono (by with_reducible assumption) ?_)) | go_size))); obtain ⟨kc9, kf9, s9⟩ := bfacts hb9; obtain ⟨kd9, kg9, _⟩ := bfacts hB9; go_simp; try rfl)
  case hQ => exact fun _ _ _ h => h
  (try simp only [Act.put, List.setIfInBounds_toArray, List.set_cons_zero, List.set_cons_succ])
  apply trail_light
  case hi => (simp only [List.getElem?_toArray, List.getElem?_cons_zero, List.getElem?_cons_succ]; exact rfl)
  case hl => first | exact light_no (by rfl) | (apply light_plain rfl; intro w9 hb9; have hB9 : Below w.heap.size w w9 := (by (repeat' (first | (with_reducible exact Below.refl _ _) | (with_reducible assumption) | (with_reducible refine Below.alloc ?_ ?_ _) | (with_reducible refine below_drewN ?_ _) | (with_reducible refine Below.drew ?_) | (with_reducible refine Below.setCell ?_ ?_ _) | (with_reducible refine Below.trans ?_ (Below.mono (by with_reducible assumption) ?_)) | go_size))); obtain ⟨kc9, kf9, s9⟩ := bfacts hb9; obtain ⟨kd9, kg9, _⟩ := bfacts hB9; go_simp; try rfl) | (apply light_yes (by rfl); intro w9 hb9; have hB9 : Below w.heap.size w w9 := (by (repeat' (first | (with_reducible exact Below.refl _ _) | (with_reducible assumption) | (with_reducible refine Below.alloc ?_ ?_ _) | (with_reducible refine below_drewN ?_ _) | (with_reducible refine Below.drew ?_) | (with_reducible refine Below.setCell ?_ ?_ _) | (with_reducible refine Below.trans ?_ (Below.mono (by with_reducible assumption) ?_)) | go_size))); obtain ⟨kc9, kf9, s9⟩ := bfacts hb9; obtain ⟨kd9, kg9, _⟩ := bfacts hB9; go_simp; try rfl)
  case hQ => exact fun _ _ _ h => h
  (try simp only [Act.put, List.setIfInBounds_toArray, List.set_cons_zero, List.set_cons_succ])
  apply trail_light
  case hi => (simp only [List.getElem?_toArray, List.getElem?_cons_zero, List.getElem?_cons_succ]; exact rfl)
  case hl => first | exact light_no (by rfl) | (apply light_plain rfl; intro w9 hb9; have hB9 : Below w.heap.size w w9 := (by (repeat' (first | (with_reducible exact Below.refl _ _) | (with_reducible assumption) | (with_reducible refine Below.alloc ?_ ?_ _) | (with_reducible refine below_drewN ?_ _) | (with_reducible refine Below.drew ?_) | (with_reducible refine Below.setCell ?_ ?_ _) | (with_reducible refine Below.trans ?_ (Below.mono (by with_reducible assumption) ?_)) | go_size))); obtain ⟨kc9, kf9, s9⟩ := bfacts hb9; obtain ⟨kd9, kg9, _⟩ := bfacts hB9; go_simp; try rfl) | (apply light_yes (by rfl); intro w9 hb9; have hB9 : Below w.heap.size w w9 := (by (repeat' (first | (with_reducible exact Below.refl _ _) | (with_reducible assumption) | (with_reducible refine Below.alloc ?_ ?_ _) | (with_reducible refine below_drewN ?_ _) | (with_reducible refine Below.drew ?_) | (with_reducible refine Below.setCell ?_ ?_ _) | (with_reducible refine Below.trans ?_ (Below.mono (by with_reducible assumption) ?_)) | go_size))); obtain ⟨kc9, kf9, s9⟩ := bfacts hb9; obtain ⟨kd9, kg9, _⟩ := bfacts hB9; go_simp; try rfl)
  case hQ => exact fun _ _ _ h => h
  (try simp only [Act.put, List.setIfInBounds_toArray, List.set_cons_zero, List.set_cons_succ])
  apply trail_light
  case hi => (simp only [List.getElem?_toArray, List.getElem?_cons_zero, List.getElem?_cons_succ]; exact rfl)
  case hl => first | exact light_no (by rfl) | (apply light_plain rfl; intro w9 hb9; have hB9 : Below w.heap.size w w9 := (by (repeat' (first | (with_reducible exact Below.refl _ _) | (with_reducible assumption) | (with_reducible refine Below.alloc ?_ ?_ _) | (with_reducible refine below_drewN ?_ _) | (with_reducible refine Below.drew ?_) | (with_reducible refine Below.setCell ?_ ?_ _) | (with_reducible refine Below.trans ?_ (Below.mono (by with_reducible assumption) ?_)) | go_size))); obtain ⟨kc9, kf9, s9⟩ := bfacts hb9; obtain ⟨kd9, kg9, _⟩ := bfacts hB9; go_simp; try rfl) | (apply light_yes (by rfl); intro w9 hb9; have hB9 : Below w.heap.size w w9 := (by (repeat' (first | (with_reducible exact Below.refl _ _) | (with_reducible assumption) | (with_reducible refine Below.alloc ?_ ?_ _) | (with_reducible refine below_drewN ?_ _) | (with_reducible refine Below.drew ?_) | (with_reducible refine Below.setCell ?_ ?_ _) | (with_reducible refine Below.trans ?_ (Below.mono (by with_reducible assumption) ?_)) | go_size))); obtain ⟨kc9, kf9, s9⟩ := bfacts hb9; obtain ⟨kd9, kg9, _⟩ := bfacts hB9; go_simp; try rfl)
  case hQ => exact fun _ _ _ h => h
  (try simp only [Act.put, List.setIfInBounds_toArray, List.set_cons_zero, List.set_cons_succ])
  apply trail_light
  case hi => (simp only [List.getElem?_toArray, List.getElem?_cons_zero, List.getElem?_cons_succ]; exact rfl)
  case hl => first | exact light_no (by rfl) | (apply light_plain rfl; intro w9 hb9; have hB9 : Below w.heap.size w w9 := (by (repeat' (first | (with_reducible exact Below.refl _ _) | (with_reducible assumption) | (with_reducible refine Below.alloc ?_ ?_ _) | (with_reducible refine below_drewN ?_ _) | (with_reducible refine Below.drew ?_) | (with_reducible refine Below.setCell ?_ ?_ _) | (with_reducible refine Below.trans ?_ (Below.mono (by with_reducible assumption) ?_)) | go_size))); obtain ⟨kc9, kf9, s9⟩ := bfacts hb9; obtain ⟨kd9, kg9, _⟩ := bfacts hB9; go_simp; try rfl) | (apply light_yes (by rfl); intro w9 hb9; have hB9 : Below w.heap.size w w9 := (by (repeat' (first | (with_reducible exact Below.refl _ _) | (with_reducible assumption) | (with_reducible refine Below.alloc ?_ ?_ _) | (with_reducible refine below_drewN ?_ _) | (with_reducible refine Below.drew ?_) | (with_reducible refine Below.setCell ?_ ?_ _) | (with_reducible refine Below.trans ?_ (Below.mono (by with_reducible assumption) ?_)) | go_size))); obtain ⟨kc9, kf9, s9⟩ := bfacts hb9; obtain ⟨kd9, kg9, _⟩ := bfacts hB9; go_simp; try rfl)
  case hQ => exact fun _ _ _ h => h
  (try simp only [Act.put, List.setIfInBounds_toArray, List.set_cons_zero, List.set_cons_succ])
  apply trail_heavy
  case hi => (simp only [List.getElem?_toArray, List.getElem?_cons_zero, List.getElem?_cons_succ]; exact rfl)
  go_wp2_with (first | (go_at_call 65; refine (cloneCode_any f.code _ _ (SL.at_ HC.out (by (repeat' (first | (with_reducible exact Below.refl _ _) | (with_reducible assumption) | (with_reducible refine Below.alloc ?_ ?_ _) | (with_reducible refine below_drewN ?_ _) | (with_reducible refine Below.drew ?_) | (with_reducible refine Below.setCell ?_ ?_ _) | (with_reducible refine Below.trans ?_ (Below.mono (by with_reducible assumption) ?_)) | go_size))) (Nat.le_refl _)) h1).mono ?_; rintro e w1 ⟨v1, rfl, hR1, hF1, hb1⟩; obtain ⟨kc1, kf1, s1⟩ := bfacts hb1; (try simp only [World.size_alloc, World.size_setCell, World.size_drew, World.heap_drewN, Nat.add_one_le_iff] at s1); obtain ⟨A1, c1, rfl, _, _⟩ := SL.form hR1) | (go_at_call 66; refine (cloneBools_own f.secret _ _ (SL.at_ HS.out (by (repeat' (first | (with_reducible exact Below.refl _ _) | (with_reducible assumption) | (with_reducible refine Below.alloc ?_ ?_ _) | (with_reducible refine below_drewN ?_ _) | (with_reducible refine Below.drew ?_) | (with_reducible refine Below.setCell ?_ ?_ _) | (with_reducible refine Below.trans ?_ (Below.mono (by with_reducible assumption) ?_)) | go_size))) (Nat.le_refl _)) h2).mono ?_; rintro e w2 ⟨v2, rfl, hR2, hF2, hO2, hb2⟩; obtain ⟨kc2, kf2, s2⟩ := bfacts hb2; (try simp only [World.size_alloc, World.size_setCell, World.size_drew, World.heap_drewN, Nat.add_one_le_iff] at s2); obtain ⟨A2, c2, rfl, _, _⟩ := SL.form hR2) | (go_at_call 67; refine (cloneVars_any f.arrays _ _ (SL.at_ HA.out (by (repeat' (first | (with_reducible exact Below.refl _ _) | (with_reducible assumption) | (with_reducible refine Below.alloc ?_ ?_ _) | (with_reducible refine below_drewN ?_ _) | (with_reducible refine Below.drew ?_) | (with_reducible refine Below.setCell ?_ ?_ _) | (with_reducible refine Below.trans ?_ (Below.mono (by with_reducible assumption) ?_)) | go_size))) (Nat.le_refl _)) h3).mono ?_; rintro e w3 ⟨v3, rfl, hR3, hF3, hb3⟩; obtain ⟨kc3, kf3, s3⟩ := bfacts hb3; (try simp only [World.size_alloc, World.size_setCell, World.size_drew, World.heap_drewN, Nat.add_one_le_iff] at s3); obtain ⟨A3, c3, rfl, _, _⟩ := SL.form hR3; have l1 : w.heap.size + 1 < w1.heap.size := (by omega); have l2 : w.heap.size + 1 < w2.heap.size := (by omega); have l3 : w.heap.size + 1 < w3.heap.size := (by omega)) | fail)
  refine ⟨by (repeat' (first | (with_reducible exact Below.refl _ _) | (with_reducible assumption) | (with_reducible refine Below.alloc ?_ ?_ _) | (with_reducible refine below_drewN ?_ _) | (with_reducible refine Below.drew ?_) | (with_reducible refine Below.setCell ?_ ?_ _) | (with_reducible refine Below.trans ?_ (Below.mono (by with_reducible assumption) ?_)) | go_size)), ?_⟩
  apply trail_heavy
  case hi => (simp only [List.getElem?_toArray, List.getElem?_cons_zero, List.getElem?_cons_succ]; exact rfl)
  go_wp2_with (first | (go_at_call 65; refine (cloneCode_any f.code _ _ (SL.at_ HC.out (by (repeat' (first | (with_reducible exact Below.refl _ _) | (with_reducible assumption) | (with_reducible refine Below.alloc ?_ ?_ _) | (with_reducible refine below_drewN ?_ _) | (with_reducible refine Below.drew ?_) | (with_reducible refine Below.setCell ?_ ?_ _) | (with_reducible refine Below.trans ?_ (Below.mono (by with_reducible assumption) ?_)) | go_size))) (Nat.le_refl _)) h1).mono ?_; rintro e w1 ⟨v1, rfl, hR1, hF1, hb1⟩; obtain ⟨kc1, kf1, s1⟩ := bfacts hb1; (try simp only [World.size_alloc, World.size_setCell, World.size_drew, World.heap_drewN, Nat.add_one_le_iff] at s1); obtain ⟨A1, c1, rfl, _, _⟩ := SL.form hR1) | (go_at_call 66; refine (cloneBools_own f.secret _ _ (SL.at_ HS.out (by (repeat' (first | (with_reducible exact Below.refl _ _) | (with_reducible assumption) | (with_reducible refine Below.alloc ?_ ?_ _) | (with_reducible refine below_drewN ?_ _) | (with_reducible refine Below.drew ?_) | (with_reducible refine Below.setCell ?_ ?_ _) | (with_reducible refine Below.trans ?_ (Below.mono (by with_reducible assumption) ?_)) | go_size))) (Nat.le_refl _)) h2).mono ?_; rintro e w2 ⟨v2, rfl, hR2, hF2, hO2, hb2⟩; obtain ⟨kc2, kf2, s2⟩ := bfacts hb2; (try simp only [World.size_alloc, World.size_setCell, World.size_drew, World.heap_drewN, Nat.add_one_le_iff] at s2); obtain ⟨A2, c2, rfl, _, _⟩ := SL.form hR2) | (go_at_call 67; refine (cloneVars_any f.arrays _ _ (SL.at_ HA.out (by (repeat' (first | (with_reducible exact Below.refl _ _) | (with_reducible assumption) | (with_reducible refine Below.alloc ?_ ?_ _) | (with_reducible refine below_drewN ?_ _) | (with_reducible refine Below.drew ?_) | (with_reducible refine Below.setCell ?_ ?_ _) | (with_reducible refine Below.trans ?_ (Below.mono (by with_reducible assumption) ?_)) | go_size))) (Nat.le_refl _)) h3).mono ?_; rintro e w3 ⟨v3, rfl, hR3, hF3, hb3⟩; obtain ⟨kc3, kf3, s3⟩ := bfacts hb3; (try simp only [World.size_alloc, World.size_setCell, World.size_drew, World.heap_drewN, Nat.add_one_le_iff] at s3); obtain ⟨A3, c3, rfl, _, _⟩ := SL.form hR3; have l1 : w.heap.size + 1 < w1.heap.size := (by omega); have l2 : w.heap.size + 1 < w2.heap.size := (by omega); have l3 : w.heap.size + 1 < w3.heap.size := (by omega)) | fail)
  refine ⟨by (repeat' (first | (with_reducible exact Below.refl _ _) | (with_reducible assumption) | (with_reducible refine Below.alloc ?_ ?_ _) | (with_reducible refine below_drewN ?_ _) | (with_reducible refine Below.drew ?_) | (with_reducible refine Below.setCell ?_ ?_ _) | (with_reducible refine Below.trans ?_ (Below.mono (by with_reducible assumption) ?_)) | go_size)), ?_⟩
  apply trail_heavy
  case hi => (simp only [List.getElem?_toArray, List.getElem?_cons_zero, List.getElem?_cons_succ]; exact rfl)
  go_wp2_with (first | (go_at_call 65; refine (cloneCode_any f.code _ _ (SL.at_ HC.out (by (repeat' (first | (with_reducible exact Below.refl _ _) | (with_reducible assumption) | (with_reducible refine Below.alloc ?_ ?_ _) | (with_reducible refine below_drewN ?_ _) | (with_reducible refine Below.drew ?_) | (with_reducible refine Below.setCell ?_ ?_ _) | (with_reducible refine Below.trans ?_ (Below.mono (by with_reducible assumption) ?_)) | go_size))) (Nat.le_refl _)) h1).mono ?_; rintro e w1 ⟨v1, rfl, hR1, hF1, hb1⟩; obtain ⟨kc1, kf1, s1⟩ := bfacts hb1; (try simp only [World.size_alloc, World.size_setCell, World.size_drew, World.heap_drewN, Nat.add_one_le_iff] at s1); obtain ⟨A1, c1, rfl, _, _⟩ := SL.form hR1) | (go_at_call 66; refine (cloneBools_own f.secret _ _ (SL.at_ HS.out (by (repeat' (first | (with_reducible exact Below.refl _ _) | (with_reducible assumption) | (with_reducible refine Below.alloc ?_ ?_ _) | (with_reducible refine below_drewN ?_ _) | (with_reducible refine Below.drew ?_) | (with_reducible refine Below.setCell ?_ ?_ _) | (with_reducible refine Below.trans ?_ (Below.mono (by with_reducible assumption) ?_)) | go_size))) (Nat.le_refl _)) h2).mono ?_; rintro e w2 ⟨v2, rfl, hR2, hF2, hO2, hb2⟩; obtain ⟨kc2, kf2, s2⟩ := bfacts hb2; (try simp only [World.size_alloc, World.size_setCell, World.size_drew, World.heap_drewN, Nat.add_one_le_iff] at s2); obtain ⟨A2, c2, rfl, _, _⟩ := SL.form hR2) | (go_at_call 67; refine (cloneVars_any f.arrays _ _ (SL.at_ HA.out (by (repeat' (first | (with_reducible exact Below.refl _ _) | (with_reducible assumption) | (with_reducible refine Below.alloc ?_ ?_ _) | (with_reducible refine below_drewN ?_ _) | (with_reducible refine Below.drew ?_) | (with_reducible refine Below.setCell ?_ ?_ _) | (with_reducible refine Below.trans ?_ (Below.mono (by with_reducible assumption) ?_)) | go_size))) (Nat.le_refl _)) h3).mono ?_; rintro e w3 ⟨v3, rfl, hR3, hF3, hb3⟩; obtain ⟨kc3, kf3, s3⟩ := bfacts hb3; (try simp only [World.size_alloc, World.size_setCell, World.size_drew, World.heap_drewN, Nat.add_one_le_iff] at s3); obtain ⟨A3, c3, rfl, _, _⟩ := SL.form hR3; have l1 : w.heap.size + 1 < w1.heap.size := (by omega); have l2 : w.heap.size + 1 < w2.heap.size := (by omega); have l3 : w.heap.size + 1 < w3.heap.size := (by omega)) | fail)
  refine ⟨by (repeat' (first | (with_reducible exact Below.refl _ _) | (with_reducible assumption) | (with_reducible refine Below.alloc ?_ ?_ _) | (with_reducible refine below_drewN ?_ _) | (with_reducible refine Below.drew ?_) | (with_reducible refine Below.setCell ?_ ?_ _) | (with_reducible refine Below.trans ?_ (Below.mono (by with_reducible assumption) ?_)) | go_size)), ?_⟩
  apply trail_light
  case hi => (simp only [List.getElem?_toArray, List.getElem?_cons_zero, List.getElem?_cons_succ]; exact rfl)
  case hl => first | exact light_no (by rfl) | (apply light_plain rfl; intro w9 hb9; have hB9 : Below w.heap.size w w9 := (by (repeat' (first | (with_reducible exact Below.refl _ _) | (with_reducible assumption) | (with_reducible refine Below.alloc ?_ ?_ _) | (with_reducible refine below_drewN ?_ _) | (with_reducible refine Below.drew ?_) | (with_reducible refine Below.setCell ?_ ?_ _) | (with_reducible refine Below.trans ?_ (Below.mono (by with_reducible assumption) ?_)) | go_size))); obtain ⟨kc9, kf9, s9⟩ := bfacts hb9; obtain ⟨kd9, kg9, _⟩ := bfacts hB9; go_simp; try rfl) | (apply light_yes (by rfl); intro w9 hb9; have hB9 : Below w.heap.size w w9 := (by (repeat' (first | (with_reducible exact Below.refl _ _) | (with_reducible assumption) | (with_reducible refine Below.alloc ?_ ?_ _) | (with_reducible refine below_drewN ?_ _) | (with_reducible refine Below.drew ?_) | (with_reducible refine Below.setCell ?_ ?_ _) | (with_reducible refine Below.trans ?_ (Below.mono (by with_reducible assumption) ?_)) | go_size))); obtain ⟨kc9, kf9, s9⟩ := bfacts hb9; obtain ⟨kd9, kg9, _⟩ := bfacts hB9; go_simp; try rfl)
  case hQ => exact fun _ _ _ h => h
  (try simp only [Act.put, List.setIfInBounds_toArray, List.set_cons_zero, List.set_cons_succ])
  apply trail_heavy
  case hi => (simp only [List.getElem?_toArray, List.getElem?_cons_zero, List.getElem?_cons_succ]; exact rfl)
  go_wp2_with (first | (go_at_call 65; refine (cloneCode_any f.code _ _ (SL.at_ HC.out (by (repeat' (first | (with_reducible exact Below.refl _ _) | (with_reducible assumption) | (with_reducible refine Below.alloc ?_ ?_ _) | (with_reducible refine below_drewN ?_ _) | (with_reducible refine Below.drew ?_) | (with_reducible refine Below.setCell ?_ ?_ _) | (with_reducible refine Below.trans ?_ (Below.mono (by with_reducible assumption) ?_)) | go_size))) (Nat.le_refl _)) h1).mono ?_; rintro e w1 ⟨v1, rfl, hR1, hF1, hb1⟩; obtain ⟨kc1, kf1, s1⟩ := bfacts hb1; (try simp only [World.size_alloc, World.size_setCell, World.size_drew, World.heap_drewN, Nat.add_one_le_iff] at s1); obtain ⟨A1, c1, rfl, _, _⟩ := SL.form hR1) | (go_at_call 66; refine (cloneBools_own f.secret _ _ (SL.at_ HS.out (by (repeat' (first | (with_reducible exact Below.refl _ _) | (with_reducible assumption) | (with_reducible refine Below.alloc ?_ ?_ _) | (with_reducible refine below_drewN ?_ _) | (with_reducible refine Below.drew ?_) | (with_reducible refine Below.setCell ?_ ?_ _) | (with_reducible refine Below.trans ?_ (Below.mono (by with_reducible assumption) ?_)) | go_size))) (Nat.le_refl _)) h2).mono ?_; rintro e w2 ⟨v2, rfl, hR2, hF2, hO2, hb2⟩; obtain ⟨kc2, kf2, s2⟩ := bfacts hb2; (try simp only [World.size_alloc, World.size_setCell, World.size_drew, World.heap_drewN, Nat.add_one_le_iff] at s2); obtain ⟨A2, c2, rfl, _, _⟩ := SL.form hR2) | (go_at_call 67; refine (cloneVars_any f.arrays _ _ (SL.at_ HA.out (by (repeat' (first | (with_reducible exact Below.refl _ _) | (with_reducible assumption) | (with_reducible refine Below.alloc ?_ ?_ _) | (with_reducible refine below_drewN ?_ _) | (with_reducible refine Below.drew ?_) | (with_reducible refine Below.setCell ?_ ?_ _) | (with_reducible refine Below.trans ?_ (Below.mono (by with_reducible assumption) ?_)) | go_size))) (Nat.le_refl _)) h3).mono ?_; rintro e w3 ⟨v3, rfl, hR3, hF3, hb3⟩; obtain ⟨kc3, kf3, s3⟩ := bfacts hb3; (try simp only [World.size_alloc, World.size_setCell, World.size_drew, World.heap_drewN, Nat.add_one_le_iff] at s3); obtain ⟨A3, c3, rfl, _, _⟩ := SL.form hR3; have l1 : w.heap.size + 1 < w1.heap.size := (by omega); have l2 : w.heap.size + 1 < w2.heap.size := (by omega); have l3 : w.heap.size + 1 < w3.heap.size := (by omega)) | fail)
  refine ⟨by (repeat' (first | (with_reducible exact Below.refl _ _) | (with_reducible assumption) | (with_reducible refine Below.alloc ?_ ?_ _) | (with_reducible refine below_drewN ?_ _) | (with_reducible refine Below.drew ?_) | (with_reducible refine Below.setCell ?_ ?_ _) | (with_reducible refine Below.trans ?_ (Below.mono (by with_reducible assumption) ?_)) | go_size)), ?_⟩
  refine trail_nil ?_
  (try dsimp only)
  have hk1 : ∀ o, w1.cell? ⟨w.heap.size + 1, o, none⟩ = ((w.alloc (.cells #[vc, vs, .int .i64 f.params, va] 26)).alloc (.cells #[.slice none 0 0, .slice none 0 0, .int .i64 0, .slice none 0 0] 26)).cell? ⟨w.heap.size + 1, o, none⟩ := fun o => (kc1 _ _ (by simp)).trans rfl
  have hk : ∀ o, w3.cell? ⟨w.heap.size + 1, o, none⟩ = w1.cell? ⟨w.heap.size + 1, o, none⟩ := fun o => (kc3 _ _ (by omega)).trans (kc2 _ _ (by omega))
  have e0 : w3.cell? ⟨w.heap.size + 1, 0, none⟩ = some (.slice none 0 0) := by rw [hk, hk1]; go_simp
  have e1 : w3.cell? ⟨w.heap.size + 1, 1, none⟩ = some (.slice none 0 0) := by rw [hk, hk1]; go_simp
  have e2 : w3.cell? ⟨w.heap.size + 1, 2, none⟩ = some (.int .i64 0) := by rw [hk, hk1]; go_simp
  have e3 : w3.cell? ⟨w.heap.size + 1, 3, none⟩ = some (.slice none 0 0) := by rw [hk, hk1]; go_simp
  clear hk hk1 kc1 kc2 kc3 kf1 kf2 kf3
  go_wp2
  refine bodyPost_ret (v := .agg #[.slice A1 f.code.length c1, .slice A2 f.secret.length c2, .int .i64 f.params, .slice A3 f.arrays.length c3]) (by simp [results, Try.results33, go_sem, e0, e1, e2, e3]) rfl ?_
  replace hF1 : from_ (w.heap.size + 2) (Value.slice A1 f.code.length c1) := hF1.less (by simp)
  replace hF2 : from_ (w.heap.size + 2) (Value.slice A2 f.secret.length c2) := hF2.less (by omega)
  replace hF3 : from_ (w.heap.size + 2) (Value.slice A3 f.arrays.length c3) := hF3.less (by omega)
  have r1 : RCode w3 w1.heap.size (Value.slice A1 f.code.length c1) f.code := SL.below hR1 (by (repeat' (first | (with_reducible exact Below.refl _ _) | (with_reducible assumption) | (with_reducible refine Below.alloc ?_ ?_ _) | (with_reducible refine below_drewN ?_ _) | (with_reducible refine Below.drew ?_) | (with_reducible refine Below.setCell ?_ ?_ _) | (with_reducible refine Below.trans ?_ (Below.mono (by with_reducible assumption) ?_)) | go_size)))
  have r2 : w3.ownsRow w1.heap.size 4 1 (Value.slice A2 f.secret.length c2) f.secret.length (f.secret.map Value.bool) := owns_below hO2 (by (repeat' (first | (with_reducible exact Below.refl _ _) | (with_reducible assumption) | (with_reducible refine Below.alloc ?_ ?_ _) | (with_reducible refine below_drewN ?_ _) | (with_reducible refine Below.drew ?_) | (with_reducible refine Below.setCell ?_ ?_ _) | (with_reducible refine Below.trans ?_ (Below.mono (by with_reducible assumption) ?_)) | go_size)))
  have hne : ∀ q, (Value.slice A2 f.secret.length c2).ownBlock = some q → q ≠ w.heap.size + 1 := fun q hq e => by have := (r2.lt q hq).1; omega
  have hn := fun (e : (Value.slice A2 f.secret.length c2).ownBlock = some (w.heap.size + 1)) => hne _ e rfl
  have hsz : ((((w3.setCell ⟨w.heap.size + 1, 0, none⟩ (Value.slice A1 f.code.length c1)).setCell ⟨w.heap.size + 1, 1, none⟩ (Value.slice A2 f.secret.length c2)).setCell ⟨w.heap.size + 1, 2, none⟩ (Value.int .i64 f.params)).setCell ⟨w.heap.size + 1, 3, none⟩ (Value.slice A3 f.arrays.length c3)).heap.size = w3.heap.size := by simp
  refine ⟨w1.heap.size, _, _, _, rfl, ?_, ?_, ?_, by omega, ?_, by (repeat' (first | (with_reducible exact Below.refl _ _) | (with_reducible assumption) | (with_reducible refine Below.alloc ?_ ?_ _) | (with_reducible refine below_drewN ?_ _) | (with_reducible refine Below.drew ?_) | (with_reducible refine Below.setCell ?_ ?_ _) | (with_reducible refine Below.trans ?_ (Below.mono (by with_reducible assumption) ?_)) | go_size))⟩
  · exact (((SL.aside r1 hF1 _ _ _ (by omega)).aside hF1 _ _ _ (by omega)).aside hF1 _ _ _ (by omega)).aside hF1 _ _ _ (by omega)
  · exact ownsRow_setCell_other (ownsRow_setCell_other (ownsRow_setCell_other (ownsRow_setCell_other r2 hn _) hn _) hn _) hn _
  · rw [hsz]; exact (((SL.aside hR3 hF3 _ _ _ (by omega)).aside hF3 _ _ _ (by omega)).aside hF3 _ _ _ (by omega)).aside hF3 _ _ _ (by omega)
  · rw [hsz]; omega
end Go.Proofs.Ytljcgcllhcdleaa
/- evlaw7.alive: a closed fact. -/
namespace Ev
def f0 : Flat := ⟨[⟨8, 1, 0, 0, 0, 0⟩, ⟨20, 0, 1, 0, 0, 0⟩], [true, true], 1, []⟩
def f1 : Flat := ⟨[⟨8, 1, 0, 0, 0, 0⟩, ⟨20, 0, 1, 0, 0, 0⟩], [true, false], 1, []⟩
def g0 : Given := ⟨[6], []⟩
def tz : List Int := [0, 0, 0, 0, 0, 0, 0, 0, 0, 0, 0, 0, 0, 0, 0, 0, 0, 0]
def t8 : List Int := [0, 0, 0, 0, 0, 0, 0, 0, 2, 0, 0, 0, 0, 0, 0, 0, 0, 0]
theorem f0_check : check f0 = (0, -1) := by decide
theorem f1_check : check f1 = (10, 0) := by decide
theorem f0_word : (run f0 tz g0).1.word = 36 := by decide
theorem f0_len : (run f0 tz g0).2.length = 2 := by decide
theorem tz_wrong : wrong tz = 0 := by decide
theorem t8_seen : seen t8 ⟨8, 1, 0, 0, 0, 0⟩ [6, 0] false = [6] := by decide
end Ev
namespace Go.Proofs.Ytljcgcllhcdleaa
open Go.RowKit
set_option linter.unusedSimpArgs false
set_option linter.unusedVariables false
theorem alive_given : Given Ev.f0 Ev.g0 :=
  ⟨rfl, rfl, (by intro x hx; simp [Ev.g0] at hx; subst hx; exact ⟨by decide, by decide⟩), (by intro a ha; simp [Ev.g0] at ha), (by intro a ha; simp [Ev.g0] at ha), by decide, by decide⟩
theorem alive_run (vf vw : Value) (u : World) (hf : RFlat u u.heap.size vf Ev.f0) (hw : RInts u u.heap.size vw [6]) :
    Calls Try.prog 41 #[vf, .agg #[.int .i64 0, .int .i64 0, .int .i64 0, .int .i64 0, .int .i64 0, .int .i64 0, .int .i64 0, .int .i64 0, .int .i64 0, .int .i64 0, .int .i64 0, .int .i64 0, .int .i64 0, .int .i64 0, .int .i64 0, .int .i64 0, .int .i64 0, .int .i64 0], .agg #[vw, .slice none 0 0]] u fun e w' => ∃ tr A n c A2 c2, e = .returned (.tuple #[.agg #[.int .i64 36, .bool tr, .slice A n c], .slice A2 2 c2]) ∧ Below u.heap.size u w' := by
  have hg : RGiven u u.heap.size (.agg #[vw, .slice none 0 0]) Ev.g0 := ⟨_, _, rfl, hw, [], rfl, SL.nil_ _ _ _, fun k u a hu => by simp at hu⟩
  refine (run_any Ev.f0 Ev.tz Ev.g0 _ _ u hf hg rfl Ev.tz_wrong (Ev.right_of_check (by rw [Ev.f0_check])) alive_given).mono ?_
  rintro e w' ⟨ve, vl, rfl, hE, hK, hb⟩
  obtain ⟨va, rfl, vs, h1, h2, _⟩ := hE
  obtain ⟨A, c, rfl, _, _⟩ := SL.form h2
  obtain ⟨us, _, h3, _⟩ := hK
  obtain ⟨A2, c2, rfl, _, _⟩ := SL.form h3
  rw [Ev.f0_word, Ev.f0_len]
  exact ⟨_, A, _, c, A2, c2, rfl, hb⟩
theorem alive_check (f : Ev.Flat) (a b : Int) (vf : Value) (u : World) (hf : RFlat u u.heap.size vf f) (hc : Ev.check f = (a, b)) :
    Calls Try.prog 38 #[vf] u fun e w' => e = .returned (.tuple #[.int .i64 a, .int .i64 b]) ∧ Below u.heap.size u w' := by
  obtain ⟨vc, vs, va, rfl, h2, h3, h4⟩ := hf
  have h := check_any f vc vs va u h2 h3 h4
  rw [hc] at h
  exact h
theorem alive_seen (vv : Value) (u : World) (hv : RInts u u.heap.size vv [6, 0]) :
    Calls Try.prog 39 #[.agg #[.int .i64 0, .int .i64 0, .int .i64 0, .int .i64 0, .int .i64 0, .int .i64 0, .int .i64 0, .int .i64 0, .int .i64 2, .int .i64 0, .int .i64 0, .int .i64 0, .int .i64 0, .int .i64 0, .int .i64 0, .int .i64 0, .int .i64 0, .int .i64 0], .agg #[.int .i64 8, .int .i64 1, .int .i64 0, .int .i64 0, .int .i64 0, .int .i64 0], vv, .bool false] u fun e w' => ∃ b o c, e = .returned (.slice (some ⟨b, o, none⟩) 1 c) ∧ w'.cell? ⟨b, o, none⟩ = some (.int .i64 6) ∧ b < w'.heap.size ∧ Below u.heap.size u w' := by
  have h := seenPub_any Ev.t8 ⟨8, 1, 0, 0, 0, 0⟩ [6, 0] false vv u rfl hv (by decide) (by
    refine ⟨by decide, fun k hk hb => ⟨fun h => absurd h.1 (by decide), fun _ _ => ?_⟩, fun h => absurd h (by decide)⟩
    rcases (show k = 0 ∨ k = 1 ∨ k = 2 by omega) with rfl | rfl | rfl <;> exact ⟨by decide, by decide⟩)
  rw [Ev.t8_seen] at h
  refine h.mono ?_
  rintro e w' ⟨v', rfl, hr, _, _, hb⟩
  obtain ⟨b, o, c, rfl, hlt, _, _, _, hc⟩ := RInts.at_ hr (k := 0) (x := 6) rfl
  exact ⟨b, o, c, rfl, by simpa using hc, hlt, hb⟩
theorem alive_vals (u : World) : RInts (u.alloc (.cells #[.int .i64 6, .int .i64 0] 3)).drew (u.alloc (.cells #[.int .i64 6, .int .i64 0] 3)).drew.heap.size (.slice (some ⟨u.heap.size, 0, none⟩) 2 2) [6, 0] :=
  SL.at_ (RInts.lit (l := [6, 0]) rfl rfl rfl (by unfold maxLen; decide)) (Below.drew (Below.refl _ _)) (Nat.le_refl _)
theorem RFlat.at3 {w w' : World} {B : Nat} {v : Value} {f : Ev.Flat} (h : RFlat w B v f) (hb : Below w.heap.size w w') (hB : B ≤ w.heap.size) : RFlat w' w'.heap.size v f := by
  obtain ⟨vc, vs, va, h1, h2, h3, h4⟩ := h
  exact ⟨vc, vs, va, h1, SL.at_ h2 hb hB, SL.at_ h3 hb hB, SL.at_ h4 hb hB⟩
theorem alive_reads (u : World) : Calls Try.prog 35 #[.agg #[.int .i64 8, .int .i64 1, .int .i64 0, .int .i64 0, .int .i64 0, .int .i64 0]] u fun e w' => ∃ A c, e = .returned (.slice A 2 c) ∧ Below u.heap.size u w' :=
  (reads_any ⟨8, 1, 0, 0, 0, 0⟩ u).mono fun e w' ⟨v, he, hr, hb⟩ => by
    obtain ⟨A, c, rfl, _, _⟩ := SL.form hr
    exact ⟨A, c, he, hb⟩
theorem alive_makes (u : World) : Calls Try.prog 37 #[.agg #[.int .i64 8, .int .i64 1, .int .i64 0, .int .i64 0, .int .i64 0, .int .i64 0]] u fun e w' => e = .returned (.bool true) ∧ Below u.heap.size u w' :=
  makes_any ⟨8, 1, 0, 0, 0, 0⟩ u
/-- what flow.Own gives for f0 -/
structure OwnAt (B : Nat) (w : World) (A1 : Option Addr) (c1 g c2 : Nat) (A3 : Option Addr) (c3 : Nat) : Prop where
  lo : ∃ lo, RCode w lo (.slice A1 2 c1) Ev.f0.code ∧ lo ≤ g
  le : B ≤ g
  lt : g < w.heap.size
  x0 : w.cell? ⟨g, 0, none⟩ = some (.bool true)
  x1 : w.cell? ⟨g, 1, none⟩ = some (.bool true)
  loose : w.frozen? ⟨g, 1, none⟩ = false
  c2 : 2 ≤ c2 ∧ c2 ≤ maxLen
  va : RVars w w.heap.size (.slice A3 0 c3) []
theorem alive_own (vf : Value) (u : World) (hf : RFlat u u.heap.size vf Ev.f0) :
    Calls Try.prog 33 #[vf] u fun e w' => ∃ A1 c1 g c2 A3 c3, e = .returned (.agg #[.slice A1 2 c1, .slice (some ⟨g, 0, none⟩) 2 c2, .int .i64 1, .slice A3 0 c3]) ∧ OwnAt u.heap.size w' A1 c1 g c2 A3 c3 ∧ Below u.heap.size u w' :=
  (own_new Ev.f0 vf u hf (by decide) (by decide) (by decide)).mono fun e w' ⟨lo, vc, vs, va, he, hc, hs, ha, h1, h2, hb⟩ => by
    obtain ⟨A1, c1, rfl, _, _⟩ := SL.form hc
    obtain ⟨A3, c3, rfl, _, _⟩ := SL.form ha
    have hs' := SL.of_own hs
    obtain ⟨g, c2, rfl, hg, hlt⟩ := World.ownsRow.form hs (by decide)
    obtain ⟨_, A', c', hv, k1, k2, _, k3⟩ := hs'
    injection hv with hA _ hcr
    subst hA hcr
    obtain ⟨b, o, e1, _, k4⟩ := k3 (by decide)
    injection e1 with e1
    injection e1 with e1 e2
    subst e1 e2
    refine ⟨A1, c1, g, c2, A3, c3, he, ⟨⟨lo, hc, hg⟩, by omega, hlt, ?_, ?_, hs.frozenAt 1, ⟨k1, k2⟩, ha⟩, hb⟩
    · simpa using k4 0 (.bool true) rfl
    · simpa using k4 1 (.bool true) rfl
/-- the secret set -/
theorem OwnAt.set {B : Nat} {w : World} {A1 : Option Addr} {c1 g c2 : Nat} {A3 : Option Addr} {c3 : Nat} (h : OwnAt B w A1 c1 g c2 A3 c3) :
    RFlat (w.setCell ⟨g, 1, none⟩ (.bool false)) (w.setCell ⟨g, 1, none⟩ (.bool false)).heap.size (.agg #[.slice A1 2 c1, .slice (some ⟨g, 0, none⟩) 2 c2, .int .i64 1, .slice A3 0 c3]) Ev.f1 := by
  have hlt := h.lt
  obtain ⟨lo, hc, hl⟩ := h.lo
  refine ⟨_, _, _, rfl, ?_, ?_, ?_⟩
  · exact (SL.below hc (by (repeat' (first | (with_reducible exact Below.refl _ _) | (with_reducible assumption) | (with_reducible refine Below.alloc ?_ ?_ _) | (with_reducible refine below_drewN ?_ _) | (with_reducible refine Below.drew ?_) | (with_reducible refine Below.setCell ?_ ?_ _) | (with_reducible refine Below.trans ?_ (Below.mono (by with_reducible assumption) ?_)) | go_size)))).more (by rw [World.size_setCell]; omega)
  · refine ⟨rfl, _, _, rfl, h.c2.1, h.c2.2, (by intro h; cases h), fun _ => ⟨g, 0, rfl, by rw [World.size_setCell]; omega, fun j u hu => ?_⟩⟩
    match j, hu with
    | 0, hu =>
      cases hu
      have := h.x0
      exact (World.cell?_setCell_other _ _ _ _ (by intro h; simp at h)).trans this
    | 1, hu =>
      cases hu
      have := h.x1
      exact World.cell?_setCell_same w _ _ this
    | j + 2, hu => simp [Ev.f1] at hu
  · obtain ⟨h1, A', c', hv, k1, k2, k3, k4⟩ := h.va
    exact ⟨h1, A', c', hv, k1, k2, k3, fun h => absurd h (by decide)⟩
theorem OwnAt.stays {B : Nat} {w w' : World} {A1 : Option Addr} {c1 g c2 : Nat} {A3 : Option Addr} {c3 : Nat} (h : OwnAt B w A1 c1 g c2 A3 c3) (hb : Below w.heap.size w w') : OwnAt B w' A1 c1 g c2 A3 c3 := by
  obtain ⟨lo, hc, hl⟩ := h.lo
  have hs := hb.size
  have hlt := h.lt
  exact ⟨⟨lo, SL.below hc (hb.mono (by omega)), hl⟩, h.le, by omega, (hb.cell (p := ⟨g, 0, none⟩) hlt).trans h.x0, (hb.cell (p := ⟨g, 1, none⟩) hlt).trans h.x1, (hb.frozen (p := ⟨g, 1, none⟩) hlt).trans h.loose, h.c2, SL.at_ h.va hb (Nat.le_refl _)⟩
set_option maxRecDepth 8000 in
set_option maxHeartbeats 6400000 in
theorem alive_any (w : World) : Calls Try.prog 43 #[] w fun e w' => e = .returned (.bool true) ∧ Below w.heap.size w w' := by
  go_enter Try.func43, Try.ntmps43
  go_upto_region 2 with fail
  have hbx := boxes3 w #[.int .i64 8, .int .i64 1, .int .i64 0, .int .i64 0, .int .i64 0, .int .i64 0, .int .i64 20, .int .i64 0, .int .i64 1, .int .i64 0, .int .i64 0, .int .i64 0] #[.bool true, .bool true] #[.slice (some ⟨w.heap.size, 0, none⟩) 2 2, .slice (some ⟨w.heap.size + 1, 0, none⟩) 2 2, .int .i64 1, .slice none 0 0] 39 4 26
  have sA : w.heap.size + 1 + 1 + 1 ≤ ((((w.alloc (.cells #[.int .i64 8, .int .i64 1, .int .i64 0, .int .i64 0, .int .i64 0, .int .i64 0, .int .i64 20, .int .i64 0, .int .i64 1, .int .i64 0, .int .i64 0, .int .i64 0] 39)).alloc (.cells #[.bool true, .bool true] 4)).alloc (.cells #[.slice (some ⟨w.heap.size, 0, none⟩) 2 2, .slice (some ⟨w.heap.size + 1, 0, none⟩) 2 2, .int .i64 1, .slice none 0 0] 26))).heap.size := by simp
  have bA : Below w.heap.size w ((((w.alloc (.cells #[.int .i64 8, .int .i64 1, .int .i64 0, .int .i64 0, .int .i64 0, .int .i64 0, .int .i64 20, .int .i64 0, .int .i64 1, .int .i64 0, .int .i64 0, .int .i64 0] 39)).alloc (.cells #[.bool true, .bool true] 4)).alloc (.cells #[.slice (some ⟨w.heap.size, 0, none⟩) 2 2, .slice (some ⟨w.heap.size + 1, 0, none⟩) 2 2, .int .i64 1, .slice none 0 0] 26))) := by (repeat' (first | (with_reducible exact Below.refl _ _) | (with_reducible assumption) | (with_reducible refine Below.alloc ?_ ?_ _) | (with_reducible refine below_drewN ?_ _) | (with_reducible refine Below.drew ?_) | (with_reducible refine Below.setCell ?_ ?_ _) | (with_reducible refine Below.trans ?_ (Below.mono (by with_reducible assumption) ?_)) | go_size))
  have HF0 : RFlat ((((w.alloc (.cells #[.int .i64 8, .int .i64 1, .int .i64 0, .int .i64 0, .int .i64 0, .int .i64 0, .int .i64 20, .int .i64 0, .int .i64 1, .int .i64 0, .int .i64 0, .int .i64 0] 39)).alloc (.cells #[.bool true, .bool true] 4)).alloc (.cells #[.slice (some ⟨w.heap.size, 0, none⟩) 2 2, .slice (some ⟨w.heap.size + 1, 0, none⟩) 2 2, .int .i64 1, .slice none 0 0] 26))) ((((w.alloc (.cells #[.int .i64 8, .int .i64 1, .int .i64 0, .int .i64 0, .int .i64 0, .int .i64 0, .int .i64 20, .int .i64 0, .int .i64 1, .int .i64 0, .int .i64 0, .int .i64 0] 39)).alloc (.cells #[.bool true, .bool true] 4)).alloc (.cells #[.slice (some ⟨w.heap.size, 0, none⟩) 2 2, .slice (some ⟨w.heap.size + 1, 0, none⟩) 2 2, .int .i64 1, .slice none 0 0] 26))).heap.size (.agg #[.slice (some ⟨w.heap.size, 0, none⟩) 2 2, .slice (some ⟨w.heap.size + 1, 0, none⟩) 2 2, .int .i64 1, .slice none 0 0]) Ev.f0 :=
    ⟨_, _, _, rfl, ⟨rfl, _, _, rfl, Nat.le_refl _, by simp [maxLen], (by intro h; cases h), fun _ => ⟨w.heap.size, 0, rfl, by omega, fun j u hu => by rw [Nat.zero_add]; exact hbx.1 j u (by rw [← Array.getElem?_toList]; exact hu)⟩⟩,
      ⟨rfl, _, _, rfl, Nat.le_refl _, by simp [maxLen], (by intro h; cases h), fun _ => ⟨w.heap.size + 1, 0, rfl, by omega, fun j u hu => by rw [Nat.zero_add]; exact hbx.2.1 j u (by rw [← Array.getElem?_toList]; exact hu)⟩⟩, SL.nil_ _ _ _⟩
  obtain ⟨wA, hwA⟩ : ∃ wA, ((((w.alloc (.cells #[.int .i64 8, .int .i64 1, .int .i64 0, .int .i64 0, .int .i64 0, .int .i64 0, .int .i64 20, .int .i64 0, .int .i64 1, .int .i64 0, .int .i64 0, .int .i64 0] 39)).alloc (.cells #[.bool true, .bool true] 4)).alloc (.cells #[.slice (some ⟨w.heap.size, 0, none⟩) 2 2, .slice (some ⟨w.heap.size + 1, 0, none⟩) 2 2, .int .i64 1, .slice none 0 0] 26))) = wA := ⟨_, rfl⟩
  rw [hwA] at sA bA hbx HF0
  obtain ⟨hbx0, hbx1, hbx2⟩ := hbx
  have k0c : wA.cell? ⟨w.heap.size, 0, none⟩ = some (.int .i64 8) := hbx0 0 _ rfl
  have k1c : wA.cell? ⟨w.heap.size, 1, none⟩ = some (.int .i64 1) := hbx0 1 _ rfl
  have k2c : wA.cell? ⟨w.heap.size, 2, none⟩ = some (.int .i64 0) := hbx0 2 _ rfl
  have k3c : wA.cell? ⟨w.heap.size, 3, none⟩ = some (.int .i64 0) := hbx0 3 _ rfl
  have k4c : wA.cell? ⟨w.heap.size, 4, none⟩ = some (.int .i64 0) := hbx0 4 _ rfl
  have k5c : wA.cell? ⟨w.heap.size, 5, none⟩ = some (.int .i64 0) := hbx0 5 _ rfl
  have q1c : wA.cell? ⟨w.heap.size + 1, 1, none⟩ = some (.bool true) := hbx1 1 _ rfl
  have f0c : wA.cell? ⟨w.heap.size + 1 + 1, 0, none⟩ = some (.slice (some ⟨w.heap.size, 0, none⟩) 2 2) := hbx2 0 _ rfl
  have f1c : wA.cell? ⟨w.heap.size + 1 + 1, 1, none⟩ = some (.slice (some ⟨w.heap.size + 1, 0, none⟩) 2 2) := hbx2 1 _ rfl
  have f2c : wA.cell? ⟨w.heap.size + 1 + 1, 2, none⟩ = some (.int .i64 1) := hbx2 2 _ rfl
  have f3c : wA.cell? ⟨w.heap.size + 1 + 1, 3, none⟩ = some (.slice none 0 0) := hbx2 3 _ rfl
  (try rw [hwA])
  clear hwA hbx0 hbx1 hbx2
  have HF := Lib.hid HF0
  clear HF0
  go_upto_region 3 with (go_at_call 41; refine (alive_run _ _ _ (HF.out.at3 (by (repeat' (first | (with_reducible exact Below.refl _ _) | (with_reducible assumption) | (with_reducible refine Below.alloc ?_ ?_ _) | (with_reducible refine below_drewN ?_ _) | (with_reducible refine Below.drew ?_) | (with_reducible refine Below.setCell ?_ ?_ _) | (with_reducible refine Below.trans ?_ (Below.mono (by with_reducible assumption) ?_)) | go_size))) (Nat.le_refl _)) (RInts.lit rfl rfl rfl (by unfold maxLen; decide))).mono ?_; rintro e w1 ⟨tr, A0, n0, c0, A2, c2, rfl, hb1⟩)
  have s1 : wA.heap.size < w1.heap.size := by have := hb1.size; simp at this; omega
  have e0 : (w1.alloc (.cells #[.int .i64 36, .bool tr, .slice A0 n0 c0] 51)).cell? ⟨w1.heap.size, 0, none⟩ = some (.int .i64 36) := by go_simp
  have bB : Below wA.heap.size wA (w1.alloc (.cells #[.int .i64 36, .bool tr, .slice A0 n0 c0] 51)) := by (repeat' (first | (with_reducible exact Below.refl _ _) | (with_reducible assumption) | (with_reducible refine Below.alloc ?_ ?_ _) | (with_reducible refine below_drewN ?_ _) | (with_reducible refine Below.drew ?_) | (with_reducible refine Below.setCell ?_ ?_ _) | (with_reducible refine Below.trans ?_ (Below.mono (by with_reducible assumption) ?_)) | go_size))
  have zE : w1.heap.size < (w1.alloc (.cells #[.int .i64 36, .bool tr, .slice A0 n0 c0] 51)).heap.size := by simp
  obtain ⟨wB, hwB⟩ : ∃ wB, (w1.alloc (.cells #[.int .i64 36, .bool tr, .slice A0 n0 c0] 51)) = wB := ⟨_, rfl⟩
  rw [hwB] at e0 bB zE ⊢
  clear hwB hb1
  have sB := bB.size
  replace k0c : wB.cell? ⟨w.heap.size, 0, none⟩ = some (.int .i64 8) := (bB.cell (p := ⟨w.heap.size, 0, none⟩) (show w.heap.size < wA.heap.size by omega)).trans k0c
  replace k1c : wB.cell? ⟨w.heap.size, 1, none⟩ = some (.int .i64 1) := (bB.cell (p := ⟨w.heap.size, 1, none⟩) (show w.heap.size < wA.heap.size by omega)).trans k1c
  replace k2c : wB.cell? ⟨w.heap.size, 2, none⟩ = some (.int .i64 0) := (bB.cell (p := ⟨w.heap.size, 2, none⟩) (show w.heap.size < wA.heap.size by omega)).trans k2c
  replace k3c : wB.cell? ⟨w.heap.size, 3, none⟩ = some (.int .i64 0) := (bB.cell (p := ⟨w.heap.size, 3, none⟩) (show w.heap.size < wA.heap.size by omega)).trans k3c
  replace k4c : wB.cell? ⟨w.heap.size, 4, none⟩ = some (.int .i64 0) := (bB.cell (p := ⟨w.heap.size, 4, none⟩) (show w.heap.size < wA.heap.size by omega)).trans k4c
  replace k5c : wB.cell? ⟨w.heap.size, 5, none⟩ = some (.int .i64 0) := (bB.cell (p := ⟨w.heap.size, 5, none⟩) (show w.heap.size < wA.heap.size by omega)).trans k5c
  replace q1c : wB.cell? ⟨w.heap.size + 1, 1, none⟩ = some (.bool true) := (bB.cell (p := ⟨w.heap.size + 1, 1, none⟩) (show w.heap.size + 1 < wA.heap.size by omega)).trans q1c
  replace f0c : wB.cell? ⟨w.heap.size + 1 + 1, 0, none⟩ = some (.slice (some ⟨w.heap.size, 0, none⟩) 2 2) := (bB.cell (p := ⟨w.heap.size + 1 + 1, 0, none⟩) (show w.heap.size + 1 + 1 < wA.heap.size by omega)).trans f0c
  replace f1c : wB.cell? ⟨w.heap.size + 1 + 1, 1, none⟩ = some (.slice (some ⟨w.heap.size + 1, 0, none⟩) 2 2) := (bB.cell (p := ⟨w.heap.size + 1 + 1, 1, none⟩) (show w.heap.size + 1 + 1 < wA.heap.size by omega)).trans f1c
  replace f2c : wB.cell? ⟨w.heap.size + 1 + 1, 2, none⟩ = some (.int .i64 1) := (bB.cell (p := ⟨w.heap.size + 1 + 1, 2, none⟩) (show w.heap.size + 1 + 1 < wA.heap.size by omega)).trans f2c
  replace f3c : wB.cell? ⟨w.heap.size + 1 + 1, 3, none⟩ = some (.slice none 0 0) := (bB.cell (p := ⟨w.heap.size + 1 + 1, 3, none⟩) (show w.heap.size + 1 + 1 < wA.heap.size by omega)).trans f3c
  replace HF : Hid (RFlat wB wB.heap.size (.agg #[.slice (some ⟨w.heap.size, 0, none⟩) 2 2, .slice (some ⟨w.heap.size + 1, 0, none⟩) 2 2, .int .i64 1, .slice none 0 0]) Ev.f0) := HF.out.at3 bB (Nat.le_refl _)
  have HB : Hid (Below w.heap.size w wB) := bA.trans (bB.mono (by omega))
  clear bA bB
  go_upto_region 4 with (go_at_call 38; refine (alive_check Ev.f0 0 (-1) _ _ HF.out Ev.f0_check).mono ?_; rintro e w2 ⟨rfl, hb2⟩)
  have s2 := hb2.size
  replace k0c : w2.cell? ⟨w.heap.size, 0, none⟩ = some (.int .i64 8) := (hb2.cell (p := ⟨w.heap.size, 0, none⟩) (show w.heap.size < wB.heap.size by omega)).trans k0c
  replace k1c : w2.cell? ⟨w.heap.size, 1, none⟩ = some (.int .i64 1) := (hb2.cell (p := ⟨w.heap.size, 1, none⟩) (show w.heap.size < wB.heap.size by omega)).trans k1c
  replace k2c : w2.cell? ⟨w.heap.size, 2, none⟩ = some (.int .i64 0) := (hb2.cell (p := ⟨w.heap.size, 2, none⟩) (show w.heap.size < wB.heap.size by omega)).trans k2c
  replace k3c : w2.cell? ⟨w.heap.size, 3, none⟩ = some (.int .i64 0) := (hb2.cell (p := ⟨w.heap.size, 3, none⟩) (show w.heap.size < wB.heap.size by omega)).trans k3c
  replace k4c : w2.cell? ⟨w.heap.size, 4, none⟩ = some (.int .i64 0) := (hb2.cell (p := ⟨w.heap.size, 4, none⟩) (show w.heap.size < wB.heap.size by omega)).trans k4c
  replace k5c : w2.cell? ⟨w.heap.size, 5, none⟩ = some (.int .i64 0) := (hb2.cell (p := ⟨w.heap.size, 5, none⟩) (show w.heap.size < wB.heap.size by omega)).trans k5c
  replace q1c : w2.cell? ⟨w.heap.size + 1, 1, none⟩ = some (.bool true) := (hb2.cell (p := ⟨w.heap.size + 1, 1, none⟩) (show w.heap.size + 1 < wB.heap.size by omega)).trans q1c
  replace f0c : w2.cell? ⟨w.heap.size + 1 + 1, 0, none⟩ = some (.slice (some ⟨w.heap.size, 0, none⟩) 2 2) := (hb2.cell (p := ⟨w.heap.size + 1 + 1, 0, none⟩) (show w.heap.size + 1 + 1 < wB.heap.size by omega)).trans f0c
  replace f1c : w2.cell? ⟨w.heap.size + 1 + 1, 1, none⟩ = some (.slice (some ⟨w.heap.size + 1, 0, none⟩) 2 2) := (hb2.cell (p := ⟨w.heap.size + 1 + 1, 1, none⟩) (show w.heap.size + 1 + 1 < wB.heap.size by omega)).trans f1c
  replace f2c : w2.cell? ⟨w.heap.size + 1 + 1, 2, none⟩ = some (.int .i64 1) := (hb2.cell (p := ⟨w.heap.size + 1 + 1, 2, none⟩) (show w.heap.size + 1 + 1 < wB.heap.size by omega)).trans f2c
  replace f3c : w2.cell? ⟨w.heap.size + 1 + 1, 3, none⟩ = some (.slice none 0 0) := (hb2.cell (p := ⟨w.heap.size + 1 + 1, 3, none⟩) (show w.heap.size + 1 + 1 < wB.heap.size by omega)).trans f3c
  replace e0 := (hb2.cell (p := ⟨w1.heap.size, 0, none⟩) zE).trans e0
  replace zE : w1.heap.size < w2.heap.size := by omega
  replace HF : Hid (RFlat w2 w2.heap.size (.agg #[.slice (some ⟨w.heap.size, 0, none⟩) 2 2, .slice (some ⟨w.heap.size + 1, 0, none⟩) 2 2, .int .i64 1, .slice none 0 0]) Ev.f0) := HF.out.at3 hb2 (Nat.le_refl _)
  replace HB : Hid (Below w.heap.size w w2) := HB.out.trans (hb2.mono (by omega))
  clear hb2
  go_upto_region 5 with (go_at_call 33; refine (alive_own _ _ HF.out).mono ?_; rintro e w3 ⟨A1, d1, g, d2, A3, d3, rfl, hO, hb3⟩)
  have g0 : (w3.alloc (.cells #[.slice A1 2 d1, .slice (some ⟨g, 0, none⟩) 2 d2, .int .i64 1, .slice A3 0 d3] 26)).cell? ⟨w3.heap.size, 0, none⟩ = some (.slice A1 2 d1) := by go_simp
  have g1 : (w3.alloc (.cells #[.slice A1 2 d1, .slice (some ⟨g, 0, none⟩) 2 d2, .int .i64 1, .slice A3 0 d3] 26)).cell? ⟨w3.heap.size, 1, none⟩ = some (.slice (some ⟨g, 0, none⟩) 2 d2) := by go_simp
  have g2 : (w3.alloc (.cells #[.slice A1 2 d1, .slice (some ⟨g, 0, none⟩) 2 d2, .int .i64 1, .slice A3 0 d3] 26)).cell? ⟨w3.heap.size, 2, none⟩ = some (.int .i64 1) := by go_simp
  have g3 : (w3.alloc (.cells #[.slice A1 2 d1, .slice (some ⟨g, 0, none⟩) 2 d2, .int .i64 1, .slice A3 0 d3] 26)).cell? ⟨w3.heap.size, 3, none⟩ = some (.slice A3 0 d3) := by go_simp
  have s3 := hb3.size
  have bC : Below w2.heap.size w2 (w3.alloc (.cells #[.slice A1 2 d1, .slice (some ⟨g, 0, none⟩) 2 d2, .int .i64 1, .slice A3 0 d3] 26)) := by (repeat' (first | (with_reducible exact Below.refl _ _) | (with_reducible assumption) | (with_reducible refine Below.alloc ?_ ?_ _) | (with_reducible refine below_drewN ?_ _) | (with_reducible refine Below.drew ?_) | (with_reducible refine Below.setCell ?_ ?_ _) | (with_reducible refine Below.trans ?_ (Below.mono (by with_reducible assumption) ?_)) | go_size))
  have bO : Below w3.heap.size w3 (w3.alloc (.cells #[.slice A1 2 d1, .slice (some ⟨g, 0, none⟩) 2 d2, .int .i64 1, .slice A3 0 d3] 26)) := by (repeat' (first | (with_reducible exact Below.refl _ _) | (with_reducible assumption) | (with_reducible refine Below.alloc ?_ ?_ _) | (with_reducible refine below_drewN ?_ _) | (with_reducible refine Below.drew ?_) | (with_reducible refine Below.setCell ?_ ?_ _) | (with_reducible refine Below.trans ?_ (Below.mono (by with_reducible assumption) ?_)) | go_size))
  have zO : w3.heap.size < (w3.alloc (.cells #[.slice A1 2 d1, .slice (some ⟨g, 0, none⟩) 2 d2, .int .i64 1, .slice A3 0 d3] 26)).heap.size := by simp
  have zg : g < w3.heap.size := hO.lt
  have zh : w2.heap.size ≤ g := hO.le
  obtain ⟨wC, hwC⟩ : ∃ wC, (w3.alloc (.cells #[.slice A1 2 d1, .slice (some ⟨g, 0, none⟩) 2 d2, .int .i64 1, .slice A3 0 d3] 26)) = wC := ⟨_, rfl⟩
  rw [hwC] at g0 g1 g2 g3 bC bO zO ⊢
  replace hO := hO.stays bO
  clear hwC hb3 bO
  have x1 := hO.x1
  have x2 := hO.loose
  have HO := Lib.hid hO
  have sC := bC.size
  clear hO
  go_upto_region 8 with fail
  have hset := HO.out.set
  have bD : Below w2.heap.size w2 (wC.setCell ⟨g, 1, none⟩ (.bool false)) := bC.setCell zh _
  have sD : (wC.setCell ⟨g, 1, none⟩ (.bool false)).heap.size = wC.heap.size := by simp
  have kd : ∀ j, (wC.setCell ⟨g, 1, none⟩ (.bool false)).cell? ⟨w3.heap.size, j, none⟩ = wC.cell? ⟨w3.heap.size, j, none⟩ := fun j => World.cell?_setCell_other _ _ _ _ (by intro h; simp only [Addr.mk.injEq] at h; omega)
  replace g0 := (kd 0).trans g0
  replace g1 := (kd 1).trans g1
  replace g2 := (kd 2).trans g2
  replace g3 := (kd 3).trans g3
  obtain ⟨wD, hwD⟩ : ∃ wD, (wC.setCell ⟨g, 1, none⟩ (.bool false)) = wD := ⟨_, rfl⟩
  rw [hwD] at g0 g1 g2 g3 hset bD sD ⊢
  replace sD : wD.heap.size ≤ wC.heap.size ∧ wC.heap.size ≤ wD.heap.size := by omega
  clear hwD kd x1 x2 HO bC
  replace k0c : wD.cell? ⟨w.heap.size, 0, none⟩ = some (.int .i64 8) := (bD.cell (p := ⟨w.heap.size, 0, none⟩) (show w.heap.size < w2.heap.size by omega)).trans k0c
  replace k1c : wD.cell? ⟨w.heap.size, 1, none⟩ = some (.int .i64 1) := (bD.cell (p := ⟨w.heap.size, 1, none⟩) (show w.heap.size < w2.heap.size by omega)).trans k1c
  replace k2c : wD.cell? ⟨w.heap.size, 2, none⟩ = some (.int .i64 0) := (bD.cell (p := ⟨w.heap.size, 2, none⟩) (show w.heap.size < w2.heap.size by omega)).trans k2c
  replace k3c : wD.cell? ⟨w.heap.size, 3, none⟩ = some (.int .i64 0) := (bD.cell (p := ⟨w.heap.size, 3, none⟩) (show w.heap.size < w2.heap.size by omega)).trans k3c
  replace k4c : wD.cell? ⟨w.heap.size, 4, none⟩ = some (.int .i64 0) := (bD.cell (p := ⟨w.heap.size, 4, none⟩) (show w.heap.size < w2.heap.size by omega)).trans k4c
  replace k5c : wD.cell? ⟨w.heap.size, 5, none⟩ = some (.int .i64 0) := (bD.cell (p := ⟨w.heap.size, 5, none⟩) (show w.heap.size < w2.heap.size by omega)).trans k5c
  replace q1c : wD.cell? ⟨w.heap.size + 1, 1, none⟩ = some (.bool true) := (bD.cell (p := ⟨w.heap.size + 1, 1, none⟩) (show w.heap.size + 1 < w2.heap.size by omega)).trans q1c
  replace f0c : wD.cell? ⟨w.heap.size + 1 + 1, 0, none⟩ = some (.slice (some ⟨w.heap.size, 0, none⟩) 2 2) := (bD.cell (p := ⟨w.heap.size + 1 + 1, 0, none⟩) (show w.heap.size + 1 + 1 < w2.heap.size by omega)).trans f0c
  replace f1c : wD.cell? ⟨w.heap.size + 1 + 1, 1, none⟩ = some (.slice (some ⟨w.heap.size + 1, 0, none⟩) 2 2) := (bD.cell (p := ⟨w.heap.size + 1 + 1, 1, none⟩) (show w.heap.size + 1 + 1 < w2.heap.size by omega)).trans f1c
  replace f2c : wD.cell? ⟨w.heap.size + 1 + 1, 2, none⟩ = some (.int .i64 1) := (bD.cell (p := ⟨w.heap.size + 1 + 1, 2, none⟩) (show w.heap.size + 1 + 1 < w2.heap.size by omega)).trans f2c
  replace f3c : wD.cell? ⟨w.heap.size + 1 + 1, 3, none⟩ = some (.slice none 0 0) := (bD.cell (p := ⟨w.heap.size + 1 + 1, 3, none⟩) (show w.heap.size + 1 + 1 < w2.heap.size by omega)).trans f3c
  replace e0 := (bD.cell (p := ⟨w1.heap.size, 0, none⟩) zE).trans e0
  replace zE : w1.heap.size < wD.heap.size := by omega
  replace HB : Hid (Below w.heap.size w wD) := HB.out.trans (bD.mono (by omega))
  have HF1 := Lib.hid hset
  clear bD hset HF
  go_upto_region 9 with (go_at_call 38; refine (alive_check Ev.f1 10 0 _ _ HF1.out Ev.f1_check).mono ?_; rintro e w5 ⟨rfl, hb5⟩)
  clear HF1 g0 g1 g2 g3
  have s5 := hb5.size
  replace k0c : w5.cell? ⟨w.heap.size, 0, none⟩ = some (.int .i64 8) := (hb5.cell (p := ⟨w.heap.size, 0, none⟩) (show w.heap.size < wD.heap.size by omega)).trans k0c
  replace k1c : w5.cell? ⟨w.heap.size, 1, none⟩ = some (.int .i64 1) := (hb5.cell (p := ⟨w.heap.size, 1, none⟩) (show w.heap.size < wD.heap.size by omega)).trans k1c
  replace k2c : w5.cell? ⟨w.heap.size, 2, none⟩ = some (.int .i64 0) := (hb5.cell (p := ⟨w.heap.size, 2, none⟩) (show w.heap.size < wD.heap.size by omega)).trans k2c
  replace k3c : w5.cell? ⟨w.heap.size, 3, none⟩ = some (.int .i64 0) := (hb5.cell (p := ⟨w.heap.size, 3, none⟩) (show w.heap.size < wD.heap.size by omega)).trans k3c
  replace k4c : w5.cell? ⟨w.heap.size, 4, none⟩ = some (.int .i64 0) := (hb5.cell (p := ⟨w.heap.size, 4, none⟩) (show w.heap.size < wD.heap.size by omega)).trans k4c
  replace k5c : w5.cell? ⟨w.heap.size, 5, none⟩ = some (.int .i64 0) := (hb5.cell (p := ⟨w.heap.size, 5, none⟩) (show w.heap.size < wD.heap.size by omega)).trans k5c
  replace q1c : w5.cell? ⟨w.heap.size + 1, 1, none⟩ = some (.bool true) := (hb5.cell (p := ⟨w.heap.size + 1, 1, none⟩) (show w.heap.size + 1 < wD.heap.size by omega)).trans q1c
  replace f0c : w5.cell? ⟨w.heap.size + 1 + 1, 0, none⟩ = some (.slice (some ⟨w.heap.size, 0, none⟩) 2 2) := (hb5.cell (p := ⟨w.heap.size + 1 + 1, 0, none⟩) (show w.heap.size + 1 + 1 < wD.heap.size by omega)).trans f0c
  replace f1c : w5.cell? ⟨w.heap.size + 1 + 1, 1, none⟩ = some (.slice (some ⟨w.heap.size + 1, 0, none⟩) 2 2) := (hb5.cell (p := ⟨w.heap.size + 1 + 1, 1, none⟩) (show w.heap.size + 1 + 1 < wD.heap.size by omega)).trans f1c
  replace f2c : w5.cell? ⟨w.heap.size + 1 + 1, 2, none⟩ = some (.int .i64 1) := (hb5.cell (p := ⟨w.heap.size + 1 + 1, 2, none⟩) (show w.heap.size + 1 + 1 < wD.heap.size by omega)).trans f2c
  replace f3c : w5.cell? ⟨w.heap.size + 1 + 1, 3, none⟩ = some (.slice none 0 0) := (hb5.cell (p := ⟨w.heap.size + 1 + 1, 3, none⟩) (show w.heap.size + 1 + 1 < wD.heap.size by omega)).trans f3c
  replace e0 := (hb5.cell (p := ⟨w1.heap.size, 0, none⟩) zE).trans e0
  replace zE : w1.heap.size < w5.heap.size := by omega
  replace HB : Hid (Below w.heap.size w w5) := HB.out.trans (hb5.mono (by omega))
  clear hb5
  go_upto_region 11 with fail
  have bE : Below w5.heap.size w5 (w5.alloc (.cells #[.int .i64 0, .int .i64 0, .int .i64 0, .int .i64 0, .int .i64 0, .int .i64 0, .int .i64 0, .int .i64 0, .int .i64 2, .int .i64 0, .int .i64 0, .int .i64 0, .int .i64 0, .int .i64 0, .int .i64 0, .int .i64 0, .int .i64 0, .int .i64 0] 29)) := by (repeat' (first | (with_reducible exact Below.refl _ _) | (with_reducible assumption) | (with_reducible refine Below.alloc ?_ ?_ _) | (with_reducible refine below_drewN ?_ _) | (with_reducible refine Below.drew ?_) | (with_reducible refine Below.setCell ?_ ?_ _) | (with_reducible refine Below.trans ?_ (Below.mono (by with_reducible assumption) ?_)) | go_size))
  have zT : w5.heap.size < (w5.alloc (.cells #[.int .i64 0, .int .i64 0, .int .i64 0, .int .i64 0, .int .i64 0, .int .i64 0, .int .i64 0, .int .i64 0, .int .i64 2, .int .i64 0, .int .i64 0, .int .i64 0, .int .i64 0, .int .i64 0, .int .i64 0, .int .i64 0, .int .i64 0, .int .i64 0] 29)).heap.size := by simp
  have hT : ∀ (k : Nat) v, (#[.int .i64 0, .int .i64 0, .int .i64 0, .int .i64 0, .int .i64 0, .int .i64 0, .int .i64 0, .int .i64 0, .int .i64 2, .int .i64 0, .int .i64 0, .int .i64 0, .int .i64 0, .int .i64 0, .int .i64 0, .int .i64 0, .int .i64 0, .int .i64 0])[k]? = some v → (w5.alloc (.cells #[.int .i64 0, .int .i64 0, .int .i64 0, .int .i64 0, .int .i64 0, .int .i64 0, .int .i64 0, .int .i64 0, .int .i64 2, .int .i64 0, .int .i64 0, .int .i64 0, .int .i64 0, .int .i64 0, .int .i64 0, .int .i64 0, .int .i64 0, .int .i64 0] 29)).cell? ⟨w5.heap.size, k, none⟩ = some v := fun k v hk => by rw [World.cell?_alloc_at _ _ _ _ rfl]; exact hk
  obtain ⟨wE, hwE⟩ : ∃ wE, (w5.alloc (.cells #[.int .i64 0, .int .i64 0, .int .i64 0, .int .i64 0, .int .i64 0, .int .i64 0, .int .i64 0, .int .i64 0, .int .i64 2, .int .i64 0, .int .i64 0, .int .i64 0, .int .i64 0, .int .i64 0, .int .i64 0, .int .i64 0, .int .i64 0, .int .i64 0] 29)) = wE := ⟨_, rfl⟩
  rw [hwE] at bE zT hT ⊢
  clear hwE
  have sE := bE.size
  replace k0c : wE.cell? ⟨w.heap.size, 0, none⟩ = some (.int .i64 8) := (bE.cell (p := ⟨w.heap.size, 0, none⟩) (show w.heap.size < w5.heap.size by omega)).trans k0c
  replace k1c : wE.cell? ⟨w.heap.size, 1, none⟩ = some (.int .i64 1) := (bE.cell (p := ⟨w.heap.size, 1, none⟩) (show w.heap.size < w5.heap.size by omega)).trans k1c
  replace k2c : wE.cell? ⟨w.heap.size, 2, none⟩ = some (.int .i64 0) := (bE.cell (p := ⟨w.heap.size, 2, none⟩) (show w.heap.size < w5.heap.size by omega)).trans k2c
  replace k3c : wE.cell? ⟨w.heap.size, 3, none⟩ = some (.int .i64 0) := (bE.cell (p := ⟨w.heap.size, 3, none⟩) (show w.heap.size < w5.heap.size by omega)).trans k3c
  replace k4c : wE.cell? ⟨w.heap.size, 4, none⟩ = some (.int .i64 0) := (bE.cell (p := ⟨w.heap.size, 4, none⟩) (show w.heap.size < w5.heap.size by omega)).trans k4c
  replace k5c : wE.cell? ⟨w.heap.size, 5, none⟩ = some (.int .i64 0) := (bE.cell (p := ⟨w.heap.size, 5, none⟩) (show w.heap.size < w5.heap.size by omega)).trans k5c
  replace q1c : wE.cell? ⟨w.heap.size + 1, 1, none⟩ = some (.bool true) := (bE.cell (p := ⟨w.heap.size + 1, 1, none⟩) (show w.heap.size + 1 < w5.heap.size by omega)).trans q1c
  replace f0c : wE.cell? ⟨w.heap.size + 1 + 1, 0, none⟩ = some (.slice (some ⟨w.heap.size, 0, none⟩) 2 2) := (bE.cell (p := ⟨w.heap.size + 1 + 1, 0, none⟩) (show w.heap.size + 1 + 1 < w5.heap.size by omega)).trans f0c
  replace f1c : wE.cell? ⟨w.heap.size + 1 + 1, 1, none⟩ = some (.slice (some ⟨w.heap.size + 1, 0, none⟩) 2 2) := (bE.cell (p := ⟨w.heap.size + 1 + 1, 1, none⟩) (show w.heap.size + 1 + 1 < w5.heap.size by omega)).trans f1c
  replace f2c : wE.cell? ⟨w.heap.size + 1 + 1, 2, none⟩ = some (.int .i64 1) := (bE.cell (p := ⟨w.heap.size + 1 + 1, 2, none⟩) (show w.heap.size + 1 + 1 < w5.heap.size by omega)).trans f2c
  replace f3c : wE.cell? ⟨w.heap.size + 1 + 1, 3, none⟩ = some (.slice none 0 0) := (bE.cell (p := ⟨w.heap.size + 1 + 1, 3, none⟩) (show w.heap.size + 1 + 1 < w5.heap.size by omega)).trans f3c
  replace e0 := (bE.cell (p := ⟨w1.heap.size, 0, none⟩) zE).trans e0
  replace zE : w1.heap.size < wE.heap.size := by omega
  replace HB : Hid (Below w.heap.size w wE) := HB.out.trans (bE.mono (by omega))
  have ldt : ∀ u, Below wE.heap.size wE u → (Go.Instr.loadAt 29 (.pointer (some ⟨w5.heap.size, 0, none⟩))).run Try.prog u = .ok (.agg #[.int .i64 0, .int .i64 0, .int .i64 0, .int .i64 0, .int .i64 0, .int .i64 0, .int .i64 0, .int .i64 0, .int .i64 2, .int .i64 0, .int .i64 0, .int .i64 0, .int .i64 0, .int .i64 0, .int .i64 0, .int .i64 0, .int .i64 0, .int .i64 0]) u := fun u hu => load_box Try.underlying29 (by kernel_rfl) rfl (by kernel_rfl) hT zT hu
  have hI : ∀ (k : Nat) v, (#[.int .i64 8, .int .i64 1, .int .i64 0, .int .i64 0, .int .i64 0, .int .i64 0])[k]? = some v → wE.cell? ⟨w.heap.size, k, none⟩ = some v := fun k v hk => by
    match k, hk with
    | 0, hk => cases hk; exact k0c
    | 1, hk => cases hk; exact k1c
    | 2, hk => cases hk; exact k2c
    | 3, hk => cases hk; exact k3c
    | 4, hk => cases hk; exact k4c
    | 5, hk => cases hk; exact k5c
    | k + 6, hk => simp at hk
  have y0 : w.heap.size < wE.heap.size := by omega
  have y1 : w.heap.size + 1 < wE.heap.size := by omega
  have y2 : w.heap.size + 1 + 1 < wE.heap.size := by omega
  have ldi : ∀ u, Below wE.heap.size wE u → (Go.Instr.loadAt 39 (.pointer (some ⟨w.heap.size, 0, none⟩))).run Try.prog u = .ok (.agg #[.int .i64 8, .int .i64 1, .int .i64 0, .int .i64 0, .int .i64 0, .int .i64 0]) u := fun u hu => load_box Try.underlying39 (by kernel_rfl) rfl (by kernel_rfl) hI y0 hu
  have CSN := Lib.hid (alive_seen _ _ (alive_vals wE))
  clear hT bE
  go_cut [10] (fun x wx => ∃ b o c, x = .slice (some ⟨b, o, none⟩) 1 c ∧ wx.cell? ⟨b, o, none⟩ = some (.int .i64 6) ∧ b < wx.heap.size ∧ Below wE.heap.size wE wx)
  case first => as_aux_lemma =>
    refine wp_region_trail (fun w' => Below ((wE).heap.size) (wE) w') [(0, true), (1, true), (2, true), (3, true), (4, true), (5, false), (6, false), (7, true)] (by kernel_rfl) (by kernel_rfl) (by kernel_rfl) (by decide) (by (repeat' (first | (with_reducible exact Below.refl _ _) | (with_reducible assumption) | (with_reducible refine Below.alloc ?_ ?_ _) | (with_reducible refine below_drewN ?_ _) | (with_reducible refine Below.drew ?_) | (with_reducible refine Below.setCell ?_ ?_ _) | (with_reducible refine Below.trans ?_ (Below.mono (by with_reducible assumption) ?_)) | go_size))) ?_
    apply trail_light
    case hi => (simp only [List.getElem?_toArray, List.getElem?_cons_zero, List.getElem?_cons_succ]; exact rfl)
    case hl => first | exact light_no (by rfl) | (apply light_plain rfl; intro w9 hb9; have hB9 : Below wE.heap.size wE w9 := (by (repeat' (first | (with_reducible exact Below.refl _ _) | (with_reducible assumption) | (with_reducible refine Below.alloc ?_ ?_ _) | (with_reducible refine below_drewN ?_ _) | (with_reducible refine Below.drew ?_) | (with_reducible refine Below.setCell ?_ ?_ _) | (with_reducible refine Below.trans ?_ (Below.mono (by with_reducible assumption) ?_)) | go_size))); exact exec_load rfl rfl (by first | exact ldf w9 hB9 | exact ldt w9 hB9 | exact ldg w9 hB9 | exact ldi w9 hB9 | exact ldh w9 hB9)) | (apply light_yes (by rfl); intro w9 hb9; have hB9 : Below wE.heap.size wE w9 := (by (repeat' (first | (with_reducible exact Below.refl _ _) | (with_reducible assumption) | (with_reducible refine Below.alloc ?_ ?_ _) | (with_reducible refine below_drewN ?_ _) | (with_reducible refine Below.drew ?_) | (with_reducible refine Below.setCell ?_ ?_ _) | (with_reducible refine Below.trans ?_ (Below.mono (by with_reducible assumption) ?_)) | go_size))); exact exec_load rfl rfl (by first | exact ldf w9 hB9 | exact ldt w9 hB9 | exact ldg w9 hB9 | exact ldi w9 hB9 | exact ldh w9 hB9)) | (apply light_plain rfl; intro w9 hb9; have hB9 : Below wE.heap.size wE w9 := (by (repeat' (first | (with_reducible exact Below.refl _ _) | (with_reducible assumption) | (with_reducible refine Below.alloc ?_ ?_ _) | (with_reducible refine below_drewN ?_ _) | (with_reducible refine Below.drew ?_) | (with_reducible refine Below.setCell ?_ ?_ _) | (with_reducible refine Below.trans ?_ (Below.mono (by with_reducible assumption) ?_)) | go_size))); obtain ⟨kc9, kf9, s9⟩ := bfacts hb9; obtain ⟨kd9, kg9, _⟩ := bfacts hB9; go_simp; try rfl) | (apply light_yes (by rfl); intro w9 hb9; have hB9 : Below wE.heap.size wE w9 := (by (repeat' (first | (with_reducible exact Below.refl _ _) | (with_reducible assumption) | (with_reducible refine Below.alloc ?_ ?_ _) | (with_reducible refine below_drewN ?_ _) | (with_reducible refine Below.drew ?_) | (with_reducible refine Below.setCell ?_ ?_ _) | (with_reducible refine Below.trans ?_ (Below.mono (by with_reducible assumption) ?_)) | go_size))); obtain ⟨kc9, kf9, s9⟩ := bfacts hb9; obtain ⟨kd9, kg9, _⟩ := bfacts hB9; go_simp; try rfl)
    case hQ => exact fun _ _ _ h => h
    (try simp only [Act.put, List.setIfInBounds_toArray, List.set_cons_zero, List.set_cons_succ])
    apply trail_light
    case hi => (simp only [List.getElem?_toArray, List.getElem?_cons_zero, List.getElem?_cons_succ]; exact rfl)
    case hl => first | exact light_no (by rfl) | (apply light_plain rfl; intro w9 _; go_simp; try rfl) | (apply light_yes (by rfl); intro w9 _; go_simp; try rfl)
    case hQ => exact fun _ _ _ h => h
    (try simp only [Act.put, List.setIfInBounds_toArray, List.set_cons_zero, List.set_cons_succ])
    apply trail_light
    case hi => (simp only [List.getElem?_toArray, List.getElem?_cons_zero, List.getElem?_cons_succ]; exact rfl)
    case hl => first | exact light_no (by rfl) | (apply light_plain rfl; intro w9 hb9; have hB9 : Below wE.heap.size wE w9 := (by (repeat' (first | (with_reducible exact Below.refl _ _) | (with_reducible assumption) | (with_reducible refine Below.alloc ?_ ?_ _) | (with_reducible refine below_drewN ?_ _) | (with_reducible refine Below.drew ?_) | (with_reducible refine Below.setCell ?_ ?_ _) | (with_reducible refine Below.trans ?_ (Below.mono (by with_reducible assumption) ?_)) | go_size))); exact exec_load rfl rfl (by first | exact ldf w9 hB9 | exact ldt w9 hB9 | exact ldg w9 hB9 | exact ldi w9 hB9 | exact ldh w9 hB9)) | (apply light_yes (by rfl); intro w9 hb9; have hB9 : Below wE.heap.size wE w9 := (by (repeat' (first | (with_reducible exact Below.refl _ _) | (with_reducible assumption) | (with_reducible refine Below.alloc ?_ ?_ _) | (with_reducible refine below_drewN ?_ _) | (with_reducible refine Below.drew ?_) | (with_reducible refine Below.setCell ?_ ?_ _) | (with_reducible refine Below.trans ?_ (Below.mono (by with_reducible assumption) ?_)) | go_size))); exact exec_load rfl rfl (by first | exact ldf w9 hB9 | exact ldt w9 hB9 | exact ldg w9 hB9 | exact ldi w9 hB9 | exact ldh w9 hB9)) | (apply light_plain rfl; intro w9 hb9; have hB9 : Below wE.heap.size wE w9 := (by (repeat' (first | (with_reducible exact Below.refl _ _) | (with_reducible assumption) | (with_reducible refine Below.alloc ?_ ?_ _) | (with_reducible refine below_drewN ?_ _) | (with_reducible refine Below.drew ?_) | (with_reducible refine Below.setCell ?_ ?_ _) | (with_reducible refine Below.trans ?_ (Below.mono (by with_reducible assumption) ?_)) | go_size))); obtain ⟨kc9, kf9, s9⟩ := bfacts hb9; obtain ⟨kd9, kg9, _⟩ := bfacts hB9; go_simp; try rfl) | (apply light_yes (by rfl); intro w9 hb9; have hB9 : Below wE.heap.size wE w9 := (by (repeat' (first | (with_reducible exact Below.refl _ _) | (with_reducible assumption) | (with_reducible refine Below.alloc ?_ ?_ _) | (with_reducible refine below_drewN ?_ _) | (with_reducible refine Below.drew ?_) | (with_reducible refine Below.setCell ?_ ?_ _) | (with_reducible refine Below.trans ?_ (Below.mono (by with_reducible assumption) ?_)) | go_size))); obtain ⟨kc9, kf9, s9⟩ := bfacts hb9; obtain ⟨kd9, kg9, _⟩ := bfacts hB9; go_simp; try rfl)
    case hQ => exact fun _ _ _ h => h
    (try simp only [Act.put, List.setIfInBounds_toArray, List.set_cons_zero, List.set_cons_succ])
    apply trail_light
    case hi => (simp only [List.getElem?_toArray, List.getElem?_cons_zero, List.getElem?_cons_succ]; exact rfl)
    case hl => first | exact light_no (by rfl) | (apply light_plain rfl; intro w9 hb9; have hB9 : Below wE.heap.size wE w9 := (by (repeat' (first | (with_reducible exact Below.refl _ _) | (with_reducible assumption) | (with_reducible refine Below.alloc ?_ ?_ _) | (with_reducible refine below_drewN ?_ _) | (with_reducible refine Below.drew ?_) | (with_reducible refine Below.setCell ?_ ?_ _) | (with_reducible refine Below.trans ?_ (Below.mono (by with_reducible assumption) ?_)) | go_size))); obtain ⟨kc9, kf9, s9⟩ := bfacts hb9; obtain ⟨kd9, kg9, _⟩ := bfacts hB9; go_simp; try rfl) | (apply light_yes (by rfl); intro w9 hb9; have hB9 : Below wE.heap.size wE w9 := (by (repeat' (first | (with_reducible exact Below.refl _ _) | (with_reducible assumption) | (with_reducible refine Below.alloc ?_ ?_ _) | (with_reducible refine below_drewN ?_ _) | (with_reducible refine Below.drew ?_) | (with_reducible refine Below.setCell ?_ ?_ _) | (with_reducible refine Below.trans ?_ (Below.mono (by with_reducible assumption) ?_)) | go_size))); obtain ⟨kc9, kf9, s9⟩ := bfacts hb9; obtain ⟨kd9, kg9, _⟩ := bfacts hB9; go_simp; try rfl)
    case hQ => exact fun _ _ _ h => h
    (try simp only [Act.put, List.setIfInBounds_toArray, List.set_cons_zero, List.set_cons_succ])
    apply trail_light
    case hi => (simp only [List.getElem?_toArray, List.getElem?_cons_zero, List.getElem?_cons_succ]; exact rfl)
    case hl => first | exact light_no (by rfl) | (apply light_plain rfl; intro w9 hb9; have hB9 : Below wE.heap.size wE w9 := (by (repeat' (first | (with_reducible exact Below.refl _ _) | (with_reducible assumption) | (with_reducible refine Below.alloc ?_ ?_ _) | (with_reducible refine below_drewN ?_ _) | (with_reducible refine Below.drew ?_) | (with_reducible refine Below.setCell ?_ ?_ _) | (with_reducible refine Below.trans ?_ (Below.mono (by with_reducible assumption) ?_)) | go_size))); exact exec_load rfl rfl (by first | exact ldf w9 hB9 | exact ldt w9 hB9 | exact ldg w9 hB9 | exact ldi w9 hB9 | exact ldh w9 hB9)) | (apply light_yes (by rfl); intro w9 hb9; have hB9 : Below wE.heap.size wE w9 := (by (repeat' (first | (with_reducible exact Below.refl _ _) | (with_reducible assumption) | (with_reducible refine Below.alloc ?_ ?_ _) | (with_reducible refine below_drewN ?_ _) | (with_reducible refine Below.drew ?_) | (with_reducible refine Below.setCell ?_ ?_ _) | (with_reducible refine Below.trans ?_ (Below.mono (by with_reducible assumption) ?_)) | go_size))); exact exec_load rfl rfl (by first | exact ldf w9 hB9 | exact ldt w9 hB9 | exact ldg w9 hB9 | exact ldi w9 hB9 | exact ldh w9 hB9)) | (apply light_plain rfl; intro w9 hb9; have hB9 : Below wE.heap.size wE w9 := (by (repeat' (first | (with_reducible exact Below.refl _ _) | (with_reducible assumption) | (with_reducible refine Below.alloc ?_ ?_ _) | (with_reducible refine below_drewN ?_ _) | (with_reducible refine Below.drew ?_) | (with_reducible refine Below.setCell ?_ ?_ _) | (with_reducible refine Below.trans ?_ (Below.mono (by with_reducible assumption) ?_)) | go_size))); obtain ⟨kc9, kf9, s9⟩ := bfacts hb9; obtain ⟨kd9, kg9, _⟩ := bfacts hB9; go_simp; try rfl) | (apply light_yes (by rfl); intro w9 hb9; have hB9 : Below wE.heap.size wE w9 := (by (repeat' (first | (with_reducible exact Below.refl _ _) | (with_reducible assumption) | (with_reducible refine Below.alloc ?_ ?_ _) | (with_reducible refine below_drewN ?_ _) | (with_reducible refine Below.drew ?_) | (with_reducible refine Below.setCell ?_ ?_ _) | (with_reducible refine Below.trans ?_ (Below.mono (by with_reducible assumption) ?_)) | go_size))); obtain ⟨kc9, kf9, s9⟩ := bfacts hb9; obtain ⟨kd9, kg9, _⟩ := bfacts hB9; go_simp; try rfl)
    case hQ => exact fun _ _ _ h => h
    (try simp only [Act.put, List.setIfInBounds_toArray, List.set_cons_zero, List.set_cons_succ])
    apply trail_heavy
    case hi => (simp only [List.getElem?_toArray, List.getElem?_cons_zero, List.getElem?_cons_succ]; exact rfl)
    go_wp2_with (first | (go_at_call 39; refine CSN.out.mono ?_; rintro e w6 ⟨b, o, c, rfl, hc6, hl6, hb6⟩; obtain ⟨kc6, kf6, s6⟩ := bfacts hb6; (try simp only [World.size_alloc, World.size_setCell, World.size_drew, World.heap_drewN, Nat.add_one_le_iff] at s6)))
    refine ⟨by (repeat' (first | (with_reducible exact Below.refl _ _) | (with_reducible assumption) | (with_reducible refine Below.alloc ?_ ?_ _) | (with_reducible refine below_drewN ?_ _) | (with_reducible refine Below.drew ?_) | (with_reducible refine Below.setCell ?_ ?_ _) | (with_reducible refine Below.trans ?_ (Below.mono (by with_reducible assumption) ?_)) | go_size)), ?_⟩
    apply trail_heavy
    case hi => (simp only [List.getElem?_toArray, List.getElem?_cons_zero, List.getElem?_cons_succ]; exact rfl)
    go_wp2_with (first | (go_at_call 39; refine CSN.out.mono ?_; rintro e w6 ⟨b, o, c, rfl, hc6, hl6, hb6⟩; obtain ⟨kc6, kf6, s6⟩ := bfacts hb6; (try simp only [World.size_alloc, World.size_setCell, World.size_drew, World.heap_drewN, Nat.add_one_le_iff] at s6)))
    refine ⟨by (repeat' (first | (with_reducible exact Below.refl _ _) | (with_reducible assumption) | (with_reducible refine Below.alloc ?_ ?_ _) | (with_reducible refine below_drewN ?_ _) | (with_reducible refine Below.drew ?_) | (with_reducible refine Below.setCell ?_ ?_ _) | (with_reducible refine Below.trans ?_ (Below.mono (by with_reducible assumption) ?_)) | go_size)), ?_⟩
    apply trail_light
    case hi => (simp only [List.getElem?_toArray, List.getElem?_cons_zero, List.getElem?_cons_succ]; exact rfl)
    case hl => first | exact light_no (by rfl) | (apply light_plain rfl; intro w9 _; go_simp; try rfl) | (apply light_yes (by rfl); intro w9 _; go_simp; try rfl)
    case hQ => exact fun _ _ _ h => h
    (try simp only [Act.put, List.setIfInBounds_toArray, List.set_cons_zero, List.set_cons_succ])
    refine trail_nil ?_
    (try dsimp only)
    go_wp2_with fail
    go_meet
    exact ⟨b, o, c, rfl, hc6, hl6, by (repeat' (first | (with_reducible exact Below.refl _ _) | (with_reducible assumption) | (with_reducible refine Below.alloc ?_ ?_ _) | (with_reducible refine below_drewN ?_ _) | (with_reducible refine Below.drew ?_) | (with_reducible refine Below.setCell ?_ ?_ _) | (with_reducible refine Below.trans ?_ (Below.mono (by with_reducible assumption) ?_)) | go_size))⟩
  case rest => as_aux_lemma =>
  obtain ⟨b, o, c, rfl, hc6, hl6, hBc⟩ := hcut
  have s6 := hBc.size
  replace k0c : wc.cell? ⟨w.heap.size, 0, none⟩ = some (.int .i64 8) := (hBc.cell (p := ⟨w.heap.size, 0, none⟩) (show w.heap.size < wE.heap.size by omega)).trans k0c
  replace k1c : wc.cell? ⟨w.heap.size, 1, none⟩ = some (.int .i64 1) := (hBc.cell (p := ⟨w.heap.size, 1, none⟩) (show w.heap.size < wE.heap.size by omega)).trans k1c
  replace k2c : wc.cell? ⟨w.heap.size, 2, none⟩ = some (.int .i64 0) := (hBc.cell (p := ⟨w.heap.size, 2, none⟩) (show w.heap.size < wE.heap.size by omega)).trans k2c
  replace k3c : wc.cell? ⟨w.heap.size, 3, none⟩ = some (.int .i64 0) := (hBc.cell (p := ⟨w.heap.size, 3, none⟩) (show w.heap.size < wE.heap.size by omega)).trans k3c
  replace k4c : wc.cell? ⟨w.heap.size, 4, none⟩ = some (.int .i64 0) := (hBc.cell (p := ⟨w.heap.size, 4, none⟩) (show w.heap.size < wE.heap.size by omega)).trans k4c
  replace k5c : wc.cell? ⟨w.heap.size, 5, none⟩ = some (.int .i64 0) := (hBc.cell (p := ⟨w.heap.size, 5, none⟩) (show w.heap.size < wE.heap.size by omega)).trans k5c
  replace q1c : wc.cell? ⟨w.heap.size + 1, 1, none⟩ = some (.bool true) := (hBc.cell (p := ⟨w.heap.size + 1, 1, none⟩) (show w.heap.size + 1 < wE.heap.size by omega)).trans q1c
  replace f0c : wc.cell? ⟨w.heap.size + 1 + 1, 0, none⟩ = some (.slice (some ⟨w.heap.size, 0, none⟩) 2 2) := (hBc.cell (p := ⟨w.heap.size + 1 + 1, 0, none⟩) (show w.heap.size + 1 + 1 < wE.heap.size by omega)).trans f0c
  replace f1c : wc.cell? ⟨w.heap.size + 1 + 1, 1, none⟩ = some (.slice (some ⟨w.heap.size + 1, 0, none⟩) 2 2) := (hBc.cell (p := ⟨w.heap.size + 1 + 1, 1, none⟩) (show w.heap.size + 1 + 1 < wE.heap.size by omega)).trans f1c
  replace f2c : wc.cell? ⟨w.heap.size + 1 + 1, 2, none⟩ = some (.int .i64 1) := (hBc.cell (p := ⟨w.heap.size + 1 + 1, 2, none⟩) (show w.heap.size + 1 + 1 < wE.heap.size by omega)).trans f2c
  replace f3c : wc.cell? ⟨w.heap.size + 1 + 1, 3, none⟩ = some (.slice none 0 0) := (hBc.cell (p := ⟨w.heap.size + 1 + 1, 3, none⟩) (show w.heap.size + 1 + 1 < wE.heap.size by omega)).trans f3c
  replace e0 := (hBc.cell (p := ⟨w1.heap.size, 0, none⟩) zE).trans e0
  replace zE : w1.heap.size < wc.heap.size := by omega
  replace HB : Hid (Below w.heap.size w wc) := HB.out.trans (hBc.mono (by omega))
  clear ldt ldi hI y0 y1 y2 hBc
  clear CSN
  go_wp2_with (first | (go_at_call 35; refine (alive_reads _).mono ?_; rintro e w7 ⟨A7, c7, rfl, hb7⟩; have s7 := hb7.size; replace k0c : w7.cell? ⟨w.heap.size, 0, none⟩ = some (.int .i64 8) := (hb7.cell (p := ⟨w.heap.size, 0, none⟩) (show w.heap.size < wc.heap.size by omega)).trans k0c; replace k1c : w7.cell? ⟨w.heap.size, 1, none⟩ = some (.int .i64 1) := (hb7.cell (p := ⟨w.heap.size, 1, none⟩) (show w.heap.size < wc.heap.size by omega)).trans k1c; replace k2c : w7.cell? ⟨w.heap.size, 2, none⟩ = some (.int .i64 0) := (hb7.cell (p := ⟨w.heap.size, 2, none⟩) (show w.heap.size < wc.heap.size by omega)).trans k2c; replace k3c : w7.cell? ⟨w.heap.size, 3, none⟩ = some (.int .i64 0) := (hb7.cell (p := ⟨w.heap.size, 3, none⟩) (show w.heap.size < wc.heap.size by omega)).trans k3c; replace k4c : w7.cell? ⟨w.heap.size, 4, none⟩ = some (.int .i64 0) := (hb7.cell (p := ⟨w.heap.size, 4, none⟩) (show w.heap.size < wc.heap.size by omega)).trans k4c; replace k5c : w7.cell? ⟨w.heap.size, 5, none⟩ = some (.int .i64 0) := (hb7.cell (p := ⟨w.heap.size, 5, none⟩) (show w.heap.size < wc.heap.size by omega)).trans k5c; replace q1c : w7.cell? ⟨w.heap.size + 1, 1, none⟩ = some (.bool true) := (hb7.cell (p := ⟨w.heap.size + 1, 1, none⟩) (show w.heap.size + 1 < wc.heap.size by omega)).trans q1c; replace f0c : w7.cell? ⟨w.heap.size + 1 + 1, 0, none⟩ = some (.slice (some ⟨w.heap.size, 0, none⟩) 2 2) := (hb7.cell (p := ⟨w.heap.size + 1 + 1, 0, none⟩) (show w.heap.size + 1 + 1 < wc.heap.size by omega)).trans f0c; replace f1c : w7.cell? ⟨w.heap.size + 1 + 1, 1, none⟩ = some (.slice (some ⟨w.heap.size + 1, 0, none⟩) 2 2) := (hb7.cell (p := ⟨w.heap.size + 1 + 1, 1, none⟩) (show w.heap.size + 1 + 1 < wc.heap.size by omega)).trans f1c; replace f2c : w7.cell? ⟨w.heap.size + 1 + 1, 2, none⟩ = some (.int .i64 1) := (hb7.cell (p := ⟨w.heap.size + 1 + 1, 2, none⟩) (show w.heap.size + 1 + 1 < wc.heap.size by omega)).trans f2c; replace f3c : w7.cell? ⟨w.heap.size + 1 + 1, 3, none⟩ = some (.slice none 0 0) := (hb7.cell (p := ⟨w.heap.size + 1 + 1, 3, none⟩) (show w.heap.size + 1 + 1 < wc.heap.size by omega)).trans f3c; replace hc6 := (hb7.cell (p := ⟨b, o, none⟩) hl6).trans hc6; replace hl6 : b < w7.heap.size := (by omega)) | (go_at_call 37; refine (alive_makes _).mono ?_; rintro e w8 ⟨rfl, hb8⟩; have s8 := hb8.size; replace k0c : w8.cell? ⟨w.heap.size, 0, none⟩ = some (.int .i64 8) := (hb8.cell (p := ⟨w.heap.size, 0, none⟩) (show w.heap.size < w7.heap.size by omega)).trans k0c; replace k1c : w8.cell? ⟨w.heap.size, 1, none⟩ = some (.int .i64 1) := (hb8.cell (p := ⟨w.heap.size, 1, none⟩) (show w.heap.size < w7.heap.size by omega)).trans k1c; replace k2c : w8.cell? ⟨w.heap.size, 2, none⟩ = some (.int .i64 0) := (hb8.cell (p := ⟨w.heap.size, 2, none⟩) (show w.heap.size < w7.heap.size by omega)).trans k2c; replace k3c : w8.cell? ⟨w.heap.size, 3, none⟩ = some (.int .i64 0) := (hb8.cell (p := ⟨w.heap.size, 3, none⟩) (show w.heap.size < w7.heap.size by omega)).trans k3c; replace k4c : w8.cell? ⟨w.heap.size, 4, none⟩ = some (.int .i64 0) := (hb8.cell (p := ⟨w.heap.size, 4, none⟩) (show w.heap.size < w7.heap.size by omega)).trans k4c; replace k5c : w8.cell? ⟨w.heap.size, 5, none⟩ = some (.int .i64 0) := (hb8.cell (p := ⟨w.heap.size, 5, none⟩) (show w.heap.size < w7.heap.size by omega)).trans k5c; replace q1c : w8.cell? ⟨w.heap.size + 1, 1, none⟩ = some (.bool true) := (hb8.cell (p := ⟨w.heap.size + 1, 1, none⟩) (show w.heap.size + 1 < w7.heap.size by omega)).trans q1c; replace f0c : w8.cell? ⟨w.heap.size + 1 + 1, 0, none⟩ = some (.slice (some ⟨w.heap.size, 0, none⟩) 2 2) := (hb8.cell (p := ⟨w.heap.size + 1 + 1, 0, none⟩) (show w.heap.size + 1 + 1 < w7.heap.size by omega)).trans f0c; replace f1c : w8.cell? ⟨w.heap.size + 1 + 1, 1, none⟩ = some (.slice (some ⟨w.heap.size + 1, 0, none⟩) 2 2) := (hb8.cell (p := ⟨w.heap.size + 1 + 1, 1, none⟩) (show w.heap.size + 1 + 1 < w7.heap.size by omega)).trans f1c; replace f2c : w8.cell? ⟨w.heap.size + 1 + 1, 2, none⟩ = some (.int .i64 1) := (hb8.cell (p := ⟨w.heap.size + 1 + 1, 2, none⟩) (show w.heap.size + 1 + 1 < w7.heap.size by omega)).trans f2c; replace f3c : w8.cell? ⟨w.heap.size + 1 + 1, 3, none⟩ = some (.slice none 0 0) := (hb8.cell (p := ⟨w.heap.size + 1 + 1, 3, none⟩) (show w.heap.size + 1 + 1 < w7.heap.size by omega)).trans f3c; replace hc6 := (hb8.cell (p := ⟨b, o, none⟩) hl6).trans hc6; replace hl6 : b < w8.heap.size := (by omega)))
  go_ret
  have h1 := HB.out
  exact ⟨by simp, by (repeat' (first | (with_reducible exact Below.refl _ _) | (with_reducible assumption) | (with_reducible refine Below.alloc ?_ ?_ _) | (with_reducible refine below_drewN ?_ _) | (with_reducible refine Below.drew ?_) | (with_reducible refine Below.setCell ?_ ?_ _) | (with_reducible refine Below.trans ?_ (Below.mono (by with_reducible assumption) ?_)) | go_size))⟩
end Go.Proofs.Ytljcgcllhcdleaa
