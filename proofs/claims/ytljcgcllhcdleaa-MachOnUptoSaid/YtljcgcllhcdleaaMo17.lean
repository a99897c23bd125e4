import Derived.Test.YtljcgcllhcdleaaMo7
import Derived.Test.YtljcgcllhcdleaaMo1
import Derived.Test.YtljcgcllhcdleaaMo2
import Derived.Deep.QuietTactic
import Derived.Test.YtljcgcllhcdleaaProg
import Derived.Test.YtljcgcllhcdleaaMo12
import Derived.Deep.RegionHeld3
import Derived.RegionCalls
/- The reference's comparisons. -/
namespace Go.Proofs.Ytljcgcllhcdleaa
open Go.RowKit
set_option linter.unusedSimpArgs false
set_option linter.unusedVariables false
theorem take_snoc_same {α : Type} {l m : List α} {j : Nat} {x y : α} (h : l.take j = m.take j) (hx : l[j]? = some x) (hy : m[j]? = some y) (e : x = y) : l.take (j + 1) = m.take (j + 1) := by
  rw [List.take_add_one, List.take_add_one, h, hx, hy, e]
set_option maxRecDepth 4000 in
set_option maxHeartbeats 1600000 in
theorem sameInts_any (l m : List Int) (u v : Value) (w : World) {B : Nat} (hl : RInts w B u l) (hm : RInts w B v m) :
    Calls Try.prog 34 #[u, v] w fun e w' => e = .returned (.bool (decide (l = m))) ∧ ∃ n, w' = w.drewN n := by
  have HL := Lib.hid hl
  have HM := Lib.hid hm
  obtain ⟨A, c, rfl, hc1, hc2⟩ := SL.form hl
  obtain ⟨A', c', rfl, hd1, hd2⟩ := SL.form hm
  unfold maxLen at hc2 hd2
  clear hl hm
  go_enter Try.func34, Try.ntmps34
  by_cases hlen : l.length = m.length
  case neg =>
    go_wp2
    go_ret
    refine ⟨?_, by (first | exact ⟨0, rfl⟩ | exact ⟨_, rfl⟩ | (simp only [World.drewN_drewN, World.drew_is_drewN]; exact ⟨_, rfl⟩))⟩
    have : l ≠ m := fun e => hlen (by rw [e])
    simp [this]
  case pos =>
  go_wp2_with fail
  have hlen1 : m.length ≤ l.length := by omega
  have hlen2 : l.length ≤ m.length := by omega
  clear hlen
  go_loopw [13] (fun z wr => ∃ j : Nat, j ≤ l.length ∧ z = .int .i64 j ∧ Hid (l.take j = m.take j) ∧ ∃ n, wr = w.drewN n) (fun z _ => l.length - (intOf z).toNat)
  case atStart => exact ⟨0, by omega, rfl, by simp [Hid], by (first | exact ⟨0, rfl⟩ | exact ⟨_, rfl⟩ | (simp only [World.drewN_drewN, World.drew_is_drewN]; exact ⟨_, rfl⟩))⟩
  case round =>
    obtain ⟨j, hj, rfl, HT, nw, rfl⟩ := hrel
    by_cases hlt : j < l.length
    · obtain ⟨x, hx⟩ : ∃ x, l[j]? = some x := ⟨l[j], List.getElem?_eq_getElem hlt⟩
      obtain ⟨y, hy⟩ : ∃ y, m[j]? = some y := ⟨m[j]'(by omega), List.getElem?_eq_getElem _⟩
      obtain ⟨b1, o1, r1, hv, hb1, _, _, _, p1⟩ := RInts.at_ HL.out hx
      injection hv with hA _ hcr
      subst hA hcr
      obtain ⟨b2, o2, r2, hv, hb2, _, _, _, p2⟩ := RInts.at_ HM.out hy
      injection hv with hA _ hcr
      subst hA hcr
      have HX := Lib.hid hx
      have HY := Lib.hid hy
      clear hx hy
      by_cases hxy : x = y
      · have hs := Lib.hid (take_snoc_same HT.out HX.out HY.out hxy)
        subst hxy
        go_wp2_with fail
        go_quiet (fail)
        go_wp2_with fail
        go_roundw
        case rel => exact ⟨j + 1, by omega, by go_num, hs, by (first | exact ⟨0, rfl⟩ | exact ⟨_, rfl⟩ | (simp only [World.drewN_drewN, World.drew_is_drewN]; exact ⟨_, rfl⟩))⟩
        case measure => simp [intOf]; omega
      · have g1 : (x != y) = true := by simpa using hxy
        go_wp2_with fail
        go_quiet (fail)
        go_wp2
        go_ret
        refine ⟨?_, by (first | exact ⟨0, rfl⟩ | exact ⟨_, rfl⟩ | (simp only [World.drewN_drewN, World.drew_is_drewN]; exact ⟨_, rfl⟩))⟩
        have : l ≠ m := fun e => hxy (by have h1 := HX.out; have h2 := HY.out; rw [e] at h1; rw [h1] at h2; exact Option.some.inj h2)
        simp [this]
    · go_wp2
      go_ret
      refine ⟨?_, by (first | exact ⟨0, rfl⟩ | exact ⟨_, rfl⟩ | (simp only [World.drewN_drewN, World.drew_is_drewN]; exact ⟨_, rfl⟩))⟩
      have h := HT.out
      rw [List.take_of_length_le (by omega), List.take_of_length_le (by omega)] at h
      simp [h]
theorem sameInts_is (l m : List Int) (u v : Value) (w : World) {B : Nat} (hl : RInts w B u l) (hm : RInts w B v m) (b : Bool) (h : decide (l = m) = b) :
    Calls Try.prog 34 #[u, v] w fun e w' => e = .returned (.bool b) ∧ ∃ n, w' = w.drewN n := by
  subst h
  exact sameInts_any l m u v w hl hm
set_option maxRecDepth 4000 in
set_option maxHeartbeats 1600000 in
theorem sameArrays_any (l m : List (List Int)) (u v : Value) (w : World) {B : Nat} (hl : RLists w B u l) (hm : RLists w B v m) :
    Calls Try.prog 60 #[u, v] w fun e w' => e = .returned (.bool (decide (l = m))) ∧ ∃ n, w' = w.drewN n := by
  obtain ⟨us, hul, hus, hue⟩ := hl
  obtain ⟨vs, hvl, hvs, hve⟩ := hm
  have HUS := Lib.hid hus
  have HVS := Lib.hid hvs
  have HUL := Lib.hid hul
  have HVL := Lib.hid hvl
  have HU := Lib.hid hue
  have HV := Lib.hid hve
  obtain ⟨A, c, rfl, hc1, hc2⟩ := SL.form hus
  obtain ⟨A', c', rfl, hd1, hd2⟩ := SL.form hvs
  unfold maxLen at hc2 hd2
  clear hus hvs hue hve hul hvl
  go_enter Try.func60, Try.ntmps60
  by_cases hlen : l.length = m.length
  case neg =>
    go_wp2
    go_ret
    refine ⟨?_, by (first | exact ⟨0, rfl⟩ | exact ⟨_, rfl⟩ | (simp only [World.drewN_drewN, World.drew_is_drewN]; exact ⟨_, rfl⟩))⟩
    have : l ≠ m := fun e => hlen (by rw [e])
    simp [this]
  case pos =>
  go_wp2_with fail
  have hlen1 : m.length ≤ l.length := by omega
  have hlen2 : l.length ≤ m.length := by omega
  clear hlen
  go_loopw [13] (fun z wr => ∃ j : Nat, j ≤ l.length ∧ z = .int .i64 j ∧ Hid (l.take j = m.take j) ∧ ∃ n, wr = w.drewN n) (fun z _ => l.length - (intOf z).toNat)
  case atStart => exact ⟨0, by omega, rfl, by simp [Hid], by (first | exact ⟨0, rfl⟩ | exact ⟨_, rfl⟩ | (simp only [World.drewN_drewN, World.drew_is_drewN]; exact ⟨_, rfl⟩))⟩
  case round =>
    obtain ⟨j, hj, rfl, HT, nw, rfl⟩ := hrel
    by_cases hlt : j < l.length
    · obtain ⟨x, hx⟩ : ∃ x, l[j]? = some x := ⟨l[j], List.getElem?_eq_getElem hlt⟩
      obtain ⟨y, hy⟩ : ∃ y, m[j]? = some y := ⟨m[j]'(by omega), List.getElem?_eq_getElem _⟩
      obtain ⟨a, ha⟩ : ∃ a, us[j]? = some a := ⟨us[j]'(by rw [HUL.out]; exact hlt), List.getElem?_eq_getElem _⟩
      obtain ⟨b, hb⟩ : ∃ b, vs[j]? = some b := ⟨vs[j]'(by rw [HVL.out]; omega), List.getElem?_eq_getElem _⟩
      obtain ⟨b1, o1, r1, hv, hb1, _, _, p1⟩ := SL.row HUS.out (by omega)
      injection hv with hA _ hcr
      subst hA hcr
      obtain ⟨b2, o2, r2, hv, hb2, _, _, p2⟩ := SL.row HVS.out (by omega)
      injection hv with hA _ hcr
      subst hA hcr
      have q1 := p1 j a ha
      have q2 := p2 j b hb
      have RA := Lib.hid (HU.out j a x ha hx)
      have RB := Lib.hid (HV.out j b y hb hy)
      obtain ⟨A1, c1, rfl, _, _⟩ := SL.form RA.out
      obtain ⟨A2, c2, rfl, _, _⟩ := SL.form RB.out
      have HX := Lib.hid hx
      have HY := Lib.hid hy
      clear hx hy ha hb p1 p2
      by_cases hxy : x = y
      · have hs := Lib.hid (take_snoc_same HT.out HX.out HY.out hxy)
        have g1 : decide (x = y) = true := by simpa using hxy
        clear hxy
        go_wp2_with fail
        go_quiet ((go_at_call 34; first | exact Calls.quiet_of (sameInts_is x y _ _ (w.drewN _) (SL.dr _ RA.out) (SL.dr _ RB.out) _ g1) | exact quiet_at (sameInts_is x y _ _ (w.drewN _) (SL.dr _ RA.out) (SL.dr _ RB.out) _ g1)))
        go_wp2_with fail
        go_roundw
        case rel => exact ⟨j + 1, by omega, by go_num, hs, by (first | exact ⟨0, rfl⟩ | exact ⟨_, rfl⟩ | (simp only [World.drewN_drewN, World.drew_is_drewN]; exact ⟨_, rfl⟩))⟩
        case measure => simp [intOf]; omega
      · have g1 : decide (x = y) = false := by simpa using hxy
        have HXY := Lib.hid hxy
        clear hxy
        go_wp2_with fail
        go_quiet ((go_at_call 34; first | exact Calls.quiet_of (sameInts_is x y _ _ (w.drewN _) (SL.dr _ RA.out) (SL.dr _ RB.out) _ g1) | exact quiet_at (sameInts_is x y _ _ (w.drewN _) (SL.dr _ RA.out) (SL.dr _ RB.out) _ g1)))
        go_wp2
        go_ret
        refine ⟨?_, by (first | exact ⟨0, rfl⟩ | exact ⟨_, rfl⟩ | (simp only [World.drewN_drewN, World.drew_is_drewN]; exact ⟨_, rfl⟩))⟩
        have : l ≠ m := fun e => HXY.out (by have h1 := HX.out; have h2 := HY.out; rw [e] at h1; rw [h1] at h2; exact Option.some.inj h2)
        simp [this]
    · go_wp2
      go_ret
      refine ⟨?_, by (first | exact ⟨0, rfl⟩ | exact ⟨_, rfl⟩ | (simp only [World.drewN_drewN, World.drew_is_drewN]; exact ⟨_, rfl⟩))⟩
      have h := HT.out
      rw [List.take_of_length_le (by omega), List.take_of_length_le (by omega)] at h
      simp [h]
end Go.Proofs.Ytljcgcllhcdleaa
/- '!=' on the program's structs. -/
namespace Go.Proofs.Ytljcgcllhcdleaa
open Go.RowKit
set_option linter.unusedSimpArgs false
set_option linter.unusedVariables false
instance : DecidableEq Ev.Instr := fun x y =>
  if h : x.op = y.op ∧ x.d = y.d ∧ x.a = y.a ∧ x.b = y.b ∧ x.c = y.c ∧ x.imm = y.imm then .isTrue (by cases x; cases y; simp_all) else .isFalse (fun e => h (by subst e; simp))
instance : DecidableEq Ev.Vr := fun x y =>
  if h : x.name = y.name ∧ x.secret = y.secret ∧ x.size = y.size then .isTrue (by cases x; cases y; simp_all) else .isFalse (fun e => h (by subst e; simp))
instance : DecidableEq Ev.Leak := fun x y =>
  if h : x.pc = y.pc ∧ x.op = y.op ∧ x.vals = y.vals then .isTrue (by cases x; cases y; simp_all) else .isFalse (fun e => h (by subst e; simp))
instance : DecidableEq Ev.Ended := fun x y =>
  if h : x.word = y.word ∧ x.trap = y.trap ∧ x.arrays = y.arrays then .isTrue (by cases x; cases y; simp_all) else .isFalse (fun e => h (by subst e; simp))
instance : DecidableEq Ev.Flat := fun x y =>
  if h : x.code = y.code ∧ x.secret = y.secret ∧ x.params = y.params ∧ x.arrays = y.arrays then .isTrue (by cases x; cases y; simp_all) else .isFalse (fun e => h (by subst e; simp))
instance : DecidableEq Ev.Ran := fun x y =>
  if h : x.ended = y.ended ∧ x.err = y.err ∧ x.steps = y.steps ∧ x.mode = y.mode ∧ x.leaks = y.leaks then .isTrue (by cases x; cases y; simp_all) else .isFalse (fun e => h (by subst e; simp))
def aggI (i : Ev.Instr) : Value := .agg #[.int .i64 i.op, .int .i64 i.d, .int .i64 i.a, .int .i64 i.b, .int .i64 i.c, .int .i64 i.imm]
def aggV (x : Ev.Vr) : Value := .agg #[.string ⟨x.name.toArray⟩, .bool x.secret, .int .i64 x.size]
theorem neq_var (x y : Ev.Vr) (w : World) (b : Bool) (hb : decide (x = y) = !b) : (binOp .neq 88 (aggV x) (aggV y)).run Try.prog w = .ok (.bool b) w := by
  by_cases h : x = y
  · have : b = false := by cases b <;> simp_all
    subst this
    subst h
    clear hb
    unfold aggV
    go_simp
  · have : b = true := by cases b <;> simp_all
    subst this
    clear hb
    obtain ⟨n1, s1, z1⟩ := x
    obtain ⟨n2, s2, z2⟩ := y
    unfold aggV
    dsimp only
    by_cases h1 : n1 = n2
    · subst h1
      by_cases h2 : s1 = s2
      · subst h2
        have h3 : z1 ≠ z2 := fun e => h (by rw [e])
        clear h
        go_simp
      · clear h
        go_simp
    · clear h
      go_simp
theorem neq_instr (x y : Ev.Instr) (w : World) (b : Bool) (hb : decide (x = y) = !b) : (binOp .neq 39 (aggI x) (aggI y)).run Try.prog w = .ok (.bool b) w := by
  by_cases h : x = y
  · have : b = false := by cases b <;> simp_all
    subst this
    subst h
    clear hb
    unfold aggI
    go_simp
  · have : b = true := by cases b <;> simp_all
    subst this
    clear hb
    obtain ⟨a1, a2, a3, a4, a5, a6⟩ := x
    obtain ⟨b1, b2, b3, b4, b5, b6⟩ := y
    unfold aggI
    dsimp only
    by_cases h1 : a1 = b1
    · subst h1
      by_cases h2 : a2 = b2
      · subst h2
        by_cases h3 : a3 = b3
        · subst h3
          by_cases h4 : a4 = b4
          · subst h4
            by_cases h5 : a5 = b5
            · subst h5
              have h6 : a6 ≠ b6 := fun e => h (by rw [e])
              clear h
              go_simp
            · clear h
              go_simp
          · clear h
            go_simp
        · clear h
          go_simp
      · clear h
        go_simp
    · clear h
      go_simp
end Go.Proofs.Ytljcgcllhcdleaa
/- flow.Own -/
namespace Go.Proofs.Ytljcgcllhcdleaa
open Go.RowKit
set_option linter.unusedSimpArgs false
set_option linter.unusedVariables false
def RFlat (w : World) (B : Nat) (v : Value) (f : Ev.Flat) : Prop :=
  ∃ vc vs va, v = .agg #[vc, vs, .int .i64 f.params, va] ∧ RCode w B vc f.code ∧ RBools w B vs f.secret ∧ RVars w B va f.arrays

set_option maxRecDepth 4000 in
set_option maxHeartbeats 3200000 in
theorem own_any (f : Ev.Flat) (v : Value) (w : World) (h : RFlat w w.heap.size v f) (h1 : f.code.length ≤ 1073741824) (h2 : f.secret.length ≤ 1073741824) (h3 : f.arrays.length ≤ 1073741824) :
    Calls Try.prog 33 #[v] w fun e w' => ∃ v', e = .returned v' ∧ RFlat w' w'.heap.size v' f ∧ Below w.heap.size w w' := by
  obtain ⟨vc, vs, va, rfl, hc, hs, ha⟩ := h
  have HC := Lib.hid hc
  have HS := Lib.hid hs
  have HA := Lib.hid ha
  clear hc hs ha
  go_enter Try.func33, Try.ntmps33
  go_wp2_with fail
  refine wp_region_trail (fun w' => Below (w.heap.size + 1) ((w.alloc (.cells #[vc, vs, .int .i64 f.params, va] 26)).alloc (.cells #[.slice none 0 0, .slice none 0 0, .int .i64 0, .slice none 0 0] 26)) w') [(0, true), (1, true), (3, true), (4, true), (6, true), (7, true), (8, true), (9, true), (2, false), (5, false), (10, false), (11, true), (12, false)] (by kernel_rfl) (by kernel_rfl) (by kernel_rfl) (by decide) (by (repeat' first | with_reducible (first | exact Below.refl _ _ | assumption | refine Below.alloc ?_ ?_ _ | refine below_drewN ?_ _ | refine Below.drew ?_ | refine Below.setCell ?_ ?_ _ | refine Below.trans ?_ (Below.mono (by with_reducible assumption) ?_)) | go_size)) ?_
  apply trail_light
  case hi => (simp only [List.getElem?_toArray, List.getElem?_cons_zero, List.getElem?_cons_succ]; exact rfl)
  case hl => first | exact light_no (by rfl) | ((first | apply light_plain rfl | apply light_yes (by rfl)); intro w9 hb9; have hB9 : Below w.heap.size w w9 := (by (repeat' first | with_reducible (first | exact Below.refl _ _ | assumption | refine Below.alloc ?_ ?_ _ | refine below_drewN ?_ _ | refine Below.drew ?_ | refine Below.setCell ?_ ?_ _ | refine Below.trans ?_ (Below.mono (by with_reducible assumption) ?_)) | go_size)); obtain ⟨kc9, kf9, s9⟩ := bfacts hb9; obtain ⟨kd9, kg9, _⟩ := bfacts hB9; go_simp; try rfl)
  case hQ => exact fun _ _ _ h => h
  (try simp only [Act.put, List.setIfInBounds_toArray, List.set_cons_zero, List.set_cons_succ])
  apply trail_light
  case hi => (simp only [List.getElem?_toArray, List.getElem?_cons_zero, List.getElem?_cons_succ]; exact rfl)
  case hl => first | exact light_no (by rfl) | ((first | apply light_plain rfl | apply light_yes (by rfl)); intro w9 hb9; have hB9 : Below w.heap.size w w9 := (by (repeat' first | with_reducible (first | exact Below.refl _ _ | assumption | refine Below.alloc ?_ ?_ _ | refine below_drewN ?_ _ | refine Below.drew ?_ | refine Below.setCell ?_ ?_ _ | refine Below.trans ?_ (Below.mono (by with_reducible assumption) ?_)) | go_size)); obtain ⟨kc9, kf9, s9⟩ := bfacts hb9; obtain ⟨kd9, kg9, _⟩ := bfacts hB9; go_simp; try rfl)
  case hQ => exact fun _ _ _ h => h
  (try simp only [Act.put, List.setIfInBounds_toArray, List.set_cons_zero, List.set_cons_succ])
  apply trail_light
  case hi => (simp only [List.getElem?_toArray, List.getElem?_cons_zero, List.getElem?_cons_succ]; exact rfl)
  case hl => first | exact light_no (by rfl) | ((first | apply light_plain rfl | apply light_yes (by rfl)); intro w9 hb9; have hB9 : Below w.heap.size w w9 := (by (repeat' first | with_reducible (first | exact Below.refl _ _ | assumption | refine Below.alloc ?_ ?_ _ | refine below_drewN ?_ _ | refine Below.drew ?_ | refine Below.setCell ?_ ?_ _ | refine Below.trans ?_ (Below.mono (by with_reducible assumption) ?_)) | go_size)); obtain ⟨kc9, kf9, s9⟩ := bfacts hb9; obtain ⟨kd9, kg9, _⟩ := bfacts hB9; go_simp; try rfl)
  case hQ => exact fun _ _ _ h => h
  (try simp only [Act.put, List.setIfInBounds_toArray, List.set_cons_zero, List.set_cons_succ])
  apply trail_light
  case hi => (simp only [List.getElem?_toArray, List.getElem?_cons_zero, List.getElem?_cons_succ]; exact rfl)
  case hl => first | exact light_no (by rfl) | ((first | apply light_plain rfl | apply light_yes (by rfl)); intro w9 hb9; have hB9 : Below w.heap.size w w9 := (by (repeat' first | with_reducible (first | exact Below.refl _ _ | assumption | refine Below.alloc ?_ ?_ _ | refine below_drewN ?_ _ | refine Below.drew ?_ | refine Below.setCell ?_ ?_ _ | refine Below.trans ?_ (Below.mono (by with_reducible assumption) ?_)) | go_size)); obtain ⟨kc9, kf9, s9⟩ := bfacts hb9; obtain ⟨kd9, kg9, _⟩ := bfacts hB9; go_simp; try rfl)
  case hQ => exact fun _ _ _ h => h
  (try simp only [Act.put, List.setIfInBounds_toArray, List.set_cons_zero, List.set_cons_succ])
  apply trail_light
  case hi => (simp only [List.getElem?_toArray, List.getElem?_cons_zero, List.getElem?_cons_succ]; exact rfl)
  case hl => first | exact light_no (by rfl) | ((first | apply light_plain rfl | apply light_yes (by rfl)); intro w9 hb9; have hB9 : Below w.heap.size w w9 := (by (repeat' first | with_reducible (first | exact Below.refl _ _ | assumption | refine Below.alloc ?_ ?_ _ | refine below_drewN ?_ _ | refine Below.drew ?_ | refine Below.setCell ?_ ?_ _ | refine Below.trans ?_ (Below.mono (by with_reducible assumption) ?_)) | go_size)); obtain ⟨kc9, kf9, s9⟩ := bfacts hb9; obtain ⟨kd9, kg9, _⟩ := bfacts hB9; go_simp; try rfl)
  case hQ => exact fun _ _ _ h => h
  (try simp only [Act.put, List.setIfInBounds_toArray, List.set_cons_zero, List.set_cons_succ])
  apply trail_light
  case hi => (simp only [List.getElem?_toArray, List.getElem?_cons_zero, List.getElem?_cons_succ]; exact rfl)
  case hl => first | exact light_no (by rfl) | ((first | apply light_plain rfl | apply light_yes (by rfl)); intro w9 hb9; have hB9 : Below w.heap.size w w9 := (by (repeat' first | with_reducible (first | exact Below.refl _ _ | assumption | refine Below.alloc ?_ ?_ _ | refine below_drewN ?_ _ | refine Below.drew ?_ | refine Below.setCell ?_ ?_ _ | refine Below.trans ?_ (Below.mono (by with_reducible assumption) ?_)) | go_size)); obtain ⟨kc9, kf9, s9⟩ := bfacts hb9; obtain ⟨kd9, kg9, _⟩ := bfacts hB9; go_simp; try rfl)
  case hQ => exact fun _ _ _ h => h
  (try simp only [Act.put, List.setIfInBounds_toArray, List.set_cons_zero, List.set_cons_succ])
  apply trail_light
  case hi => (simp only [List.getElem?_toArray, List.getElem?_cons_zero, List.getElem?_cons_succ]; exact rfl)
  case hl => first | exact light_no (by rfl) | ((first | apply light_plain rfl | apply light_yes (by rfl)); intro w9 hb9; have hB9 : Below w.heap.size w w9 := (by (repeat' first | with_reducible (first | exact Below.refl _ _ | assumption | refine Below.alloc ?_ ?_ _ | refine below_drewN ?_ _ | refine Below.drew ?_ | refine Below.setCell ?_ ?_ _ | refine Below.trans ?_ (Below.mono (by with_reducible assumption) ?_)) | go_size)); obtain ⟨kc9, kf9, s9⟩ := bfacts hb9; obtain ⟨kd9, kg9, _⟩ := bfacts hB9; go_simp; try rfl)
  case hQ => exact fun _ _ _ h => h
  (try simp only [Act.put, List.setIfInBounds_toArray, List.set_cons_zero, List.set_cons_succ])
  apply trail_light
  case hi => (simp only [List.getElem?_toArray, List.getElem?_cons_zero, List.getElem?_cons_succ]; exact rfl)
  case hl => first | exact light_no (by rfl) | ((first | apply light_plain rfl | apply light_yes (by rfl)); intro w9 hb9; have hB9 : Below w.heap.size w w9 := (by (repeat' first | with_reducible (first | exact Below.refl _ _ | assumption | refine Below.alloc ?_ ?_ _ | refine below_drewN ?_ _ | refine Below.drew ?_ | refine Below.setCell ?_ ?_ _ | refine Below.trans ?_ (Below.mono (by with_reducible assumption) ?_)) | go_size)); obtain ⟨kc9, kf9, s9⟩ := bfacts hb9; obtain ⟨kd9, kg9, _⟩ := bfacts hB9; go_simp; try rfl)
  case hQ => exact fun _ _ _ h => h
  (try simp only [Act.put, List.setIfInBounds_toArray, List.set_cons_zero, List.set_cons_succ])
  apply trail_heavy
  case hi => (simp only [List.getElem?_toArray, List.getElem?_cons_zero, List.getElem?_cons_succ]; exact rfl)
  go_wp2_with (first | (go_at_call 65; refine (cloneCode_any f.code _ _ (SL.at_ HC.out (by (repeat' first | with_reducible (first | exact Below.refl _ _ | assumption | refine Below.alloc ?_ ?_ _ | refine below_drewN ?_ _ | refine Below.drew ?_ | refine Below.setCell ?_ ?_ _ | refine Below.trans ?_ (Below.mono (by with_reducible assumption) ?_)) | go_size)) (Nat.le_refl _)) h1).mono ?_; rintro e w1 ⟨v1, rfl, hR1, hF1, hb1⟩; obtain ⟨kc1, kf1, s1⟩ := bfacts hb1; (try simp only [World.size_alloc, World.size_setCell, World.size_drew, World.heap_drewN, Nat.add_one_le_iff] at s1); obtain ⟨A1, c1, rfl, _, _⟩ := SL.form hR1) | (go_at_call 66; refine (cloneBools_any f.secret _ _ (SL.at_ HS.out (by (repeat' first | with_reducible (first | exact Below.refl _ _ | assumption | refine Below.alloc ?_ ?_ _ | refine below_drewN ?_ _ | refine Below.drew ?_ | refine Below.setCell ?_ ?_ _ | refine Below.trans ?_ (Below.mono (by with_reducible assumption) ?_)) | go_size)) (Nat.le_refl _)) h2).mono ?_; rintro e w2 ⟨v2, rfl, hR2, hF2, hb2⟩; obtain ⟨kc2, kf2, s2⟩ := bfacts hb2; (try simp only [World.size_alloc, World.size_setCell, World.size_drew, World.heap_drewN, Nat.add_one_le_iff] at s2); obtain ⟨A2, c2, rfl, _, _⟩ := SL.form hR2) | (go_at_call 67; refine (cloneVars_any f.arrays _ _ (SL.at_ HA.out (by (repeat' first | with_reducible (first | exact Below.refl _ _ | assumption | refine Below.alloc ?_ ?_ _ | refine below_drewN ?_ _ | refine Below.drew ?_ | refine Below.setCell ?_ ?_ _ | refine Below.trans ?_ (Below.mono (by with_reducible assumption) ?_)) | go_size)) (Nat.le_refl _)) h3).mono ?_; rintro e w3 ⟨v3, rfl, hR3, hF3, hb3⟩; obtain ⟨kc3, kf3, s3⟩ := bfacts hb3; (try simp only [World.size_alloc, World.size_setCell, World.size_drew, World.heap_drewN, Nat.add_one_le_iff] at s3); obtain ⟨A3, c3, rfl, _, _⟩ := SL.form hR3; have l1 : w.heap.size + 1 < w1.heap.size := (by omega); have l2 : w.heap.size + 1 < w2.heap.size := (by omega); have l3 : w.heap.size + 1 < w3.heap.size := (by omega)) | fail)
  refine ⟨by (repeat' first | with_reducible (first | exact Below.refl _ _ | assumption | refine Below.alloc ?_ ?_ _ | refine below_drewN ?_ _ | refine Below.drew ?_ | refine Below.setCell ?_ ?_ _ | refine Below.trans ?_ (Below.mono (by with_reducible assumption) ?_)) | go_size), ?_⟩
  apply trail_heavy
  case hi => (simp only [List.getElem?_toArray, List.getElem?_cons_zero, List.getElem?_cons_succ]; exact rfl)
  go_wp2_with (first | (go_at_call 65; refine (cloneCode_any f.code _ _ (SL.at_ HC.out (by (repeat' first | with_reducible (first | exact Below.refl _ _ | assumption | refine Below.alloc ?_ ?_ _ | refine below_drewN ?_ _ | refine Below.drew ?_ | refine Below.setCell ?_ ?_ _ | refine Below.trans ?_ (Below.mono (by with_reducible assumption) ?_)) | go_size)) (Nat.le_refl _)) h1).mono ?_; rintro e w1 ⟨v1, rfl, hR1, hF1, hb1⟩; obtain ⟨kc1, kf1, s1⟩ := bfacts hb1; (try simp only [World.size_alloc, World.size_setCell, World.size_drew, World.heap_drewN, Nat.add_one_le_iff] at s1); obtain ⟨A1, c1, rfl, _, _⟩ := SL.form hR1) | (go_at_call 66; refine (cloneBools_any f.secret _ _ (SL.at_ HS.out (by (repeat' first | with_reducible (first | exact Below.refl _ _ | assumption | refine Below.alloc ?_ ?_ _ | refine below_drewN ?_ _ | refine Below.drew ?_ | refine Below.setCell ?_ ?_ _ | refine Below.trans ?_ (Below.mono (by with_reducible assumption) ?_)) | go_size)) (Nat.le_refl _)) h2).mono ?_; rintro e w2 ⟨v2, rfl, hR2, hF2, hb2⟩; obtain ⟨kc2, kf2, s2⟩ := bfacts hb2; (try simp only [World.size_alloc, World.size_setCell, World.size_drew, World.heap_drewN, Nat.add_one_le_iff] at s2); obtain ⟨A2, c2, rfl, _, _⟩ := SL.form hR2) | (go_at_call 67; refine (cloneVars_any f.arrays _ _ (SL.at_ HA.out (by (repeat' first | with_reducible (first | exact Below.refl _ _ | assumption | refine Below.alloc ?_ ?_ _ | refine below_drewN ?_ _ | refine Below.drew ?_ | refine Below.setCell ?_ ?_ _ | refine Below.trans ?_ (Below.mono (by with_reducible assumption) ?_)) | go_size)) (Nat.le_refl _)) h3).mono ?_; rintro e w3 ⟨v3, rfl, hR3, hF3, hb3⟩; obtain ⟨kc3, kf3, s3⟩ := bfacts hb3; (try simp only [World.size_alloc, World.size_setCell, World.size_drew, World.heap_drewN, Nat.add_one_le_iff] at s3); obtain ⟨A3, c3, rfl, _, _⟩ := SL.form hR3; have l1 : w.heap.size + 1 < w1.heap.size := (by omega); have l2 : w.heap.size + 1 < w2.heap.size := (by omega); have l3 : w.heap.size + 1 < w3.heap.size := (by omega)) | fail)
  refine ⟨by (repeat' first | with_reducible (first | exact Below.refl _ _ | assumption | refine Below.alloc ?_ ?_ _ | refine below_drewN ?_ _ | refine Below.drew ?_ | refine Below.setCell ?_ ?_ _ | refine Below.trans ?_ (Below.mono (by with_reducible assumption) ?_)) | go_size), ?_⟩
  apply trail_heavy
  case hi => (simp only [List.getElem?_toArray, List.getElem?_cons_zero, List.getElem?_cons_succ]; exact rfl)
  go_wp2_with (first | (go_at_call 65; refine (cloneCode_any f.code _ _ (SL.at_ HC.out (by (repeat' first | with_reducible (first | exact Below.refl _ _ | assumption | refine Below.alloc ?_ ?_ _ | refine below_drewN ?_ _ | refine Below.drew ?_ | refine Below.setCell ?_ ?_ _ | refine Below.trans ?_ (Below.mono (by with_reducible assumption) ?_)) | go_size)) (Nat.le_refl _)) h1).mono ?_; rintro e w1 ⟨v1, rfl, hR1, hF1, hb1⟩; obtain ⟨kc1, kf1, s1⟩ := bfacts hb1; (try simp only [World.size_alloc, World.size_setCell, World.size_drew, World.heap_drewN, Nat.add_one_le_iff] at s1); obtain ⟨A1, c1, rfl, _, _⟩ := SL.form hR1) | (go_at_call 66; refine (cloneBools_any f.secret _ _ (SL.at_ HS.out (by (repeat' first | with_reducible (first | exact Below.refl _ _ | assumption | refine Below.alloc ?_ ?_ _ | refine below_drewN ?_ _ | refine Below.drew ?_ | refine Below.setCell ?_ ?_ _ | refine Below.trans ?_ (Below.mono (by with_reducible assumption) ?_)) | go_size)) (Nat.le_refl _)) h2).mono ?_; rintro e w2 ⟨v2, rfl, hR2, hF2, hb2⟩; obtain ⟨kc2, kf2, s2⟩ := bfacts hb2; (try simp only [World.size_alloc, World.size_setCell, World.size_drew, World.heap_drewN, Nat.add_one_le_iff] at s2); obtain ⟨A2, c2, rfl, _, _⟩ := SL.form hR2) | (go_at_call 67; refine (cloneVars_any f.arrays _ _ (SL.at_ HA.out (by (repeat' first | with_reducible (first | exact Below.refl _ _ | assumption | refine Below.alloc ?_ ?_ _ | refine below_drewN ?_ _ | refine Below.drew ?_ | refine Below.setCell ?_ ?_ _ | refine Below.trans ?_ (Below.mono (by with_reducible assumption) ?_)) | go_size)) (Nat.le_refl _)) h3).mono ?_; rintro e w3 ⟨v3, rfl, hR3, hF3, hb3⟩; obtain ⟨kc3, kf3, s3⟩ := bfacts hb3; (try simp only [World.size_alloc, World.size_setCell, World.size_drew, World.heap_drewN, Nat.add_one_le_iff] at s3); obtain ⟨A3, c3, rfl, _, _⟩ := SL.form hR3; have l1 : w.heap.size + 1 < w1.heap.size := (by omega); have l2 : w.heap.size + 1 < w2.heap.size := (by omega); have l3 : w.heap.size + 1 < w3.heap.size := (by omega)) | fail)
  refine ⟨by (repeat' first | with_reducible (first | exact Below.refl _ _ | assumption | refine Below.alloc ?_ ?_ _ | refine below_drewN ?_ _ | refine Below.drew ?_ | refine Below.setCell ?_ ?_ _ | refine Below.trans ?_ (Below.mono (by with_reducible assumption) ?_)) | go_size), ?_⟩
  apply trail_light
  case hi => (simp only [List.getElem?_toArray, List.getElem?_cons_zero, List.getElem?_cons_succ]; exact rfl)
  case hl => first | exact light_no (by rfl) | ((first | apply light_plain rfl | apply light_yes (by rfl)); intro w9 hb9; have hB9 : Below w.heap.size w w9 := (by (repeat' first | with_reducible (first | exact Below.refl _ _ | assumption | refine Below.alloc ?_ ?_ _ | refine below_drewN ?_ _ | refine Below.drew ?_ | refine Below.setCell ?_ ?_ _ | refine Below.trans ?_ (Below.mono (by with_reducible assumption) ?_)) | go_size)); obtain ⟨kc9, kf9, s9⟩ := bfacts hb9; obtain ⟨kd9, kg9, _⟩ := bfacts hB9; go_simp; try rfl)
  case hQ => exact fun _ _ _ h => h
  (try simp only [Act.put, List.setIfInBounds_toArray, List.set_cons_zero, List.set_cons_succ])
  apply trail_heavy
  case hi => (simp only [List.getElem?_toArray, List.getElem?_cons_zero, List.getElem?_cons_succ]; exact rfl)
  go_wp2_with (first | (go_at_call 65; refine (cloneCode_any f.code _ _ (SL.at_ HC.out (by (repeat' first | with_reducible (first | exact Below.refl _ _ | assumption | refine Below.alloc ?_ ?_ _ | refine below_drewN ?_ _ | refine Below.drew ?_ | refine Below.setCell ?_ ?_ _ | refine Below.trans ?_ (Below.mono (by with_reducible assumption) ?_)) | go_size)) (Nat.le_refl _)) h1).mono ?_; rintro e w1 ⟨v1, rfl, hR1, hF1, hb1⟩; obtain ⟨kc1, kf1, s1⟩ := bfacts hb1; (try simp only [World.size_alloc, World.size_setCell, World.size_drew, World.heap_drewN, Nat.add_one_le_iff] at s1); obtain ⟨A1, c1, rfl, _, _⟩ := SL.form hR1) | (go_at_call 66; refine (cloneBools_any f.secret _ _ (SL.at_ HS.out (by (repeat' first | with_reducible (first | exact Below.refl _ _ | assumption | refine Below.alloc ?_ ?_ _ | refine below_drewN ?_ _ | refine Below.drew ?_ | refine Below.setCell ?_ ?_ _ | refine Below.trans ?_ (Below.mono (by with_reducible assumption) ?_)) | go_size)) (Nat.le_refl _)) h2).mono ?_; rintro e w2 ⟨v2, rfl, hR2, hF2, hb2⟩; obtain ⟨kc2, kf2, s2⟩ := bfacts hb2; (try simp only [World.size_alloc, World.size_setCell, World.size_drew, World.heap_drewN, Nat.add_one_le_iff] at s2); obtain ⟨A2, c2, rfl, _, _⟩ := SL.form hR2) | (go_at_call 67; refine (cloneVars_any f.arrays _ _ (SL.at_ HA.out (by (repeat' first | with_reducible (first | exact Below.refl _ _ | assumption | refine Below.alloc ?_ ?_ _ | refine below_drewN ?_ _ | refine Below.drew ?_ | refine Below.setCell ?_ ?_ _ | refine Below.trans ?_ (Below.mono (by with_reducible assumption) ?_)) | go_size)) (Nat.le_refl _)) h3).mono ?_; rintro e w3 ⟨v3, rfl, hR3, hF3, hb3⟩; obtain ⟨kc3, kf3, s3⟩ := bfacts hb3; (try simp only [World.size_alloc, World.size_setCell, World.size_drew, World.heap_drewN, Nat.add_one_le_iff] at s3); obtain ⟨A3, c3, rfl, _, _⟩ := SL.form hR3; have l1 : w.heap.size + 1 < w1.heap.size := (by omega); have l2 : w.heap.size + 1 < w2.heap.size := (by omega); have l3 : w.heap.size + 1 < w3.heap.size := (by omega)) | fail)
  refine ⟨by (repeat' first | with_reducible (first | exact Below.refl _ _ | assumption | refine Below.alloc ?_ ?_ _ | refine below_drewN ?_ _ | refine Below.drew ?_ | refine Below.setCell ?_ ?_ _ | refine Below.trans ?_ (Below.mono (by with_reducible assumption) ?_)) | go_size), ?_⟩
  refine trail_nil ?_
  (try dsimp only)
  have hk1 : ∀ o, w1.cell? ⟨w.heap.size + 1, o, none⟩ = ((w.alloc (.cells #[vc, vs, .int .i64 f.params, va] 26)).alloc (.cells #[.slice none 0 0, .slice none 0 0, .int .i64 0, .slice none 0 0] 26)).cell? ⟨w.heap.size + 1, o, none⟩ := fun o => (kc1 _ _ (by simp)).trans rfl
  have hk : ∀ o, w3.cell? ⟨w.heap.size + 1, o, none⟩ = w1.cell? ⟨w.heap.size + 1, o, none⟩ := fun o => (kc3 _ _ (by omega)).trans (kc2 _ _ (by omega))
  have e0 : w3.cell? ⟨w.heap.size + 1, 0, none⟩ = some (.slice none 0 0) := by rw [hk, hk1]; go_simp
  have e1 : w3.cell? ⟨w.heap.size + 1, 1, none⟩ = some (.slice none 0 0) := by rw [hk, hk1]; go_simp
  have e2 : w3.cell? ⟨w.heap.size + 1, 2, none⟩ = some (.int .i64 0) := by rw [hk, hk1]; go_simp
  have e3 : w3.cell? ⟨w.heap.size + 1, 3, none⟩ = some (.slice none 0 0) := by rw [hk, hk1]; go_simp
  clear hk hk1 kc1 kc2 kc3 kf1 kf2 kf3
  go_wp2
  refine bodyPost_ret (v := .agg #[.slice A1 f.code.length c1, .slice A2 f.secret.length c2, .int .i64 f.params, .slice A3 f.arrays.length c3]) (by simp [results, Try.results33, go_sem, e0, e1, e2, e3]) rfl ?_
  replace hF1 : from_ (w.heap.size + 2) (Value.slice A1 f.code.length c1) := hF1.less (by simp)
  replace hF2 : from_ (w.heap.size + 2) (Value.slice A2 f.secret.length c2) := hF2.less (by omega)
  replace hF3 : from_ (w.heap.size + 2) (Value.slice A3 f.arrays.length c3) := hF3.less (by omega)
  have r1 : RCode w3 w3.heap.size (Value.slice A1 f.code.length c1) f.code := SL.at_ hR1 (by (repeat' first | with_reducible (first | exact Below.refl _ _ | assumption | refine Below.alloc ?_ ?_ _ | refine below_drewN ?_ _ | refine Below.drew ?_ | refine Below.setCell ?_ ?_ _ | refine Below.trans ?_ (Below.mono (by with_reducible assumption) ?_)) | go_size)) (Nat.le_refl _)
  have r2 : RBools w3 w3.heap.size (Value.slice A2 f.secret.length c2) f.secret := SL.at_ hR2 (by (repeat' first | with_reducible (first | exact Below.refl _ _ | assumption | refine Below.alloc ?_ ?_ _ | refine below_drewN ?_ _ | refine Below.drew ?_ | refine Below.setCell ?_ ?_ _ | refine Below.trans ?_ (Below.mono (by with_reducible assumption) ?_)) | go_size)) (Nat.le_refl _)
  have hsz : ((((w3.setCell ⟨w.heap.size + 1, 0, none⟩ (Value.slice A1 f.code.length c1)).setCell ⟨w.heap.size + 1, 1, none⟩ (Value.slice A2 f.secret.length c2)).setCell ⟨w.heap.size + 1, 2, none⟩ (Value.int .i64 f.params)).setCell ⟨w.heap.size + 1, 3, none⟩ (Value.slice A3 f.arrays.length c3)).heap.size = w3.heap.size := by simp
  refine ⟨_, rfl, ⟨_, _, _, rfl, ?_, ?_, ?_⟩, by (repeat' first | with_reducible (first | exact Below.refl _ _ | assumption | refine Below.alloc ?_ ?_ _ | refine below_drewN ?_ _ | refine Below.drew ?_ | refine Below.setCell ?_ ?_ _ | refine Below.trans ?_ (Below.mono (by with_reducible assumption) ?_)) | go_size)⟩
  · rw [hsz]; exact (((SL.aside r1 hF1 _ _ _ (by omega)).aside hF1 _ _ _ (by omega)).aside hF1 _ _ _ (by omega)).aside hF1 _ _ _ (by omega)
  · rw [hsz]; exact (((SL.aside r2 hF2 _ _ _ (by omega)).aside hF2 _ _ _ (by omega)).aside hF2 _ _ _ (by omega)).aside hF2 _ _ _ (by omega)
  · rw [hsz]; exact (((SL.aside hR3 hF3 _ _ _ (by omega)).aside hF3 _ _ _ (by omega)).aside hF3 _ _ _ (by omega)).aside hF3 _ _ _ (by omega)
end Go.Proofs.Ytljcgcllhcdleaa
