import Derived.Test.YtljcgcllhcdleaaPSame
import Derived.Test.YtljcgcllhcdleaaFo31
import Derived.Test.YtljcgcllhcdleaaFo14
import Derived.Test.YtljcgcllhcdleaaFo13
/- The reference's comparisons of flat instructions, ends and leaks. -/
namespace Go.Proofs.Ytljcgcllhcdleaa
open Go.RowKit
set_option linter.unusedSimpArgs false
set_option linter.unusedVariables false
theorem RVars.el {w : World} {B : Nat} {v : Value} {l : List Ev.Vr} (h : RVars w B v l) {k : Nat} {x : Ev.Vr} (hk : l[k]? = some x) :
    ∃ b o c, v = .slice (some ⟨b, o, none⟩) l.length c ∧ b < B ∧ k < l.length ∧ l.length ≤ c ∧ c ≤ maxLen ∧ w.cell? ⟨b, o + k * 3, none⟩ = some (.string ⟨x.name.toArray⟩) ∧ w.cell? ⟨b, o + k * 3 + 1, none⟩ = some (.bool x.secret) ∧ w.cell? ⟨b, o + k * 3 + 2, none⟩ = some (.int .i64 x.size) := by
  have hlt : k < l.length := (List.getElem?_eq_some_iff.1 hk).1
  obtain ⟨b, o, c, e, hb, h1, h2, hc⟩ := SL.row h (by omega)
  have hj := fun j u (hu : (cellsV x)[j]? = some u) => hc (k * 3 + j) u (flatMap_at cellsV (fun _ => rfl) l k _ j u hk hu)
  simp only [← Nat.add_assoc] at hj
  exact ⟨b, o, c, e, hb, hlt, h1, h2, hj 0 _ rfl, hj 1 _ rfl, hj 2 _ rfl⟩
theorem get_neq {α : Type} {l m : List α} {k : Nat} {x y : α} (hx : l[k]? = some x) (hy : m[k]? = some y) (h : x ≠ y) : l ≠ m := fun e => h (by
  rw [e, hy] at hx
  exact (Option.some.inj hx).symm)
set_option maxRecDepth 4000 in
set_option maxHeartbeats 1600000 in
theorem sameVars_any (l m : List Ev.Vr) (u v : Value) (w : World) {B : Nat} (hl : RVars w B u l) (hm : RVars w B v m) :
    Calls Try.prog 20 #[u, v] w fun e w' => e = .returned (.bool (decide (l = m))) ∧ ∃ n, w' = w.drewN n := by
  have HL := Lib.hid hl
  have HM := Lib.hid hm
  obtain ⟨A, c, rfl, hc1, hc2⟩ := SL.form hl
  obtain ⟨A', c', rfl, hd1, hd2⟩ := SL.form hm
  unfold maxLen at hc2 hd2
  clear hl hm
  go_enter Try.func20, Try.ntmps20
  by_cases hlen : l.length = m.length
  case neg =>
    go_wp2
    go_ret
    refine ⟨?_, by (first | exact ⟨0, rfl⟩ | exact ⟨_, rfl⟩ | (simp only [World.drewN_drewN, World.drew_is_drewN]; exact ⟨_, rfl⟩))⟩
    have : l ≠ m := fun e => hlen (by rw [e])
    simp [this]
  case pos =>
  go_wp2_with fail
  have hlen1 : m.length ≤ l.length := by omega
  have hlen2 : l.length ≤ m.length := by omega
  clear hlen
  go_loopw [13] (fun z wr => ∃ j : Nat, j ≤ l.length ∧ z = .int .i64 j ∧ Hid (l.take j = m.take j) ∧ ∃ n, wr = w.drewN n) (fun z _ => l.length - (intOf z).toNat)
  case atStart => exact ⟨0, by omega, rfl, by simp [Hid], by (first | exact ⟨0, rfl⟩ | exact ⟨_, rfl⟩ | (simp only [World.drewN_drewN, World.drew_is_drewN]; exact ⟨_, rfl⟩))⟩
  case round =>
    obtain ⟨j, hj, rfl, HT, nw, rfl⟩ := hrel
    by_cases hlt : j < l.length
    · obtain ⟨x, hx⟩ : ∃ x, l[j]? = some x := ⟨l[j], List.getElem?_eq_getElem hlt⟩
      obtain ⟨y, hy⟩ : ∃ y, m[j]? = some y := ⟨m[j]'(by omega), List.getElem?_eq_getElem _⟩
      obtain ⟨b1, o1, r1, hv, hb1, _, _, _, p1, p2, p3⟩ := RVars.el HL.out hx
      injection hv with hA _ hcr
      subst hA hcr
      obtain ⟨b2, o2, r2, hv, hb2, _, _, _, q1, q2, q3⟩ := RVars.el HM.out hy
      injection hv with hA _ hcr
      subst hA hcr
      have HX := Lib.hid hx
      have HY := Lib.hid hy
      clear hx hy
      by_cases hxy : x = y
      · have hs := Lib.hid (take_snoc_same HT.out HX.out HY.out hxy)
        have hn := fun w => neq_var x y w false (by simpa using hxy)
        unfold aggV at hn
        clear hxy
        go_wp2_with fail
        go_quiet (fail)
        go_wp2_with fail
        go_roundw
        case rel => exact ⟨j + 1, by omega, by go_num, hs, by (first | exact ⟨0, rfl⟩ | exact ⟨_, rfl⟩ | (simp only [World.drewN_drewN, World.drew_is_drewN]; exact ⟨_, rfl⟩))⟩
        case measure => simp [intOf]; omega
      · have hn := fun w => neq_var x y w true (by simpa using hxy)
        unfold aggV at hn
        have HXY := Lib.hid hxy
        clear hxy
        go_wp2_with fail
        go_quiet (fail)
        go_wp2
        go_ret
        refine ⟨?_, by (first | exact ⟨0, rfl⟩ | exact ⟨_, rfl⟩ | (simp only [World.drewN_drewN, World.drew_is_drewN]; exact ⟨_, rfl⟩))⟩
        simp [get_neq HX.out HY.out HXY.out]
    · go_wp2
      go_ret
      refine ⟨?_, by (first | exact ⟨0, rfl⟩ | exact ⟨_, rfl⟩ | (simp only [World.drewN_drewN, World.drew_is_drewN]; exact ⟨_, rfl⟩))⟩
      have h := HT.out
      rw [List.take_of_length_le (by omega), List.take_of_length_le (by omega)] at h
      simp [h]
theorem sameVars_is (l m : List Ev.Vr) (u v : Value) (w : World) {B : Nat} (hl : RVars w B u l) (hm : RVars w B v m) (b : Bool) (h : decide (l = m) = b) :
    Calls Try.prog 20 #[u, v] w fun e w' => e = .returned (.bool b) ∧ ∃ n, w' = w.drewN n := by
  subst h
  exact sameVars_any l m u v w hl hm
set_option maxRecDepth 4000 in
set_option maxHeartbeats 1600000 in
theorem sameEnded_any (x y : Ev.Ended) (u v : Value) (w : World) (hx : REnded w u x) (hy : REnded w v y) :
    Calls Try.prog 24 #[u, v] w fun e w' => e = .returned (.bool (decide (x = y))) ∧ Below w.heap.size w w' := by
  obtain ⟨va, rfl, ha⟩ := hx
  obtain ⟨vb, rfl, hb⟩ := hy
  obtain ⟨x1, x2, x3⟩ := x
  obtain ⟨y1, y2, y3⟩ := y
  dsimp only at ha hb ⊢
  have HA := Lib.hid ha
  have HB := Lib.hid hb
  obtain ⟨us, hul, hus, _⟩ := ha
  obtain ⟨vs, hvl, hvs, _⟩ := hb
  obtain ⟨A, c, rfl, _, _⟩ := SL.form hus
  obtain ⟨A', c', rfl, _, _⟩ := SL.form hvs
  clear hus hvs
  go_enter Try.func24, Try.ntmps24
  by_cases h1 : x1 = y1
  · subst h1
    by_cases h2 : x2 = y2
    · subst h2
      go_wp2_with (go_at_call 60; refine (quiet_below (sameArrays_any x3 y3 _ _ _ (HA.out.at_ (B := w.heap.size) (w' := (w.alloc _).alloc _) (by (repeat' first | with_reducible (first | exact Below.refl _ _ | assumption | refine Below.alloc ?_ ?_ _ | refine below_drewN ?_ _ | refine Below.drew ?_ | refine Below.setCell ?_ ?_ _ | refine Below.trans ?_ (Below.mono (by with_reducible assumption) ?_)) | go_size)) (Nat.le_refl _)) (HB.out.at_ (B := w.heap.size) (w' := (w.alloc _).alloc _) (by (repeat' first | with_reducible (first | exact Below.refl _ _ | assumption | refine Below.alloc ?_ ?_ _ | refine below_drewN ?_ _ | refine Below.drew ?_ | refine Below.setCell ?_ ?_ _ | refine Below.trans ?_ (Below.mono (by with_reducible assumption) ?_)) | go_size)) (Nat.le_refl _)))).mono ?_; rintro e w1 ⟨rfl, hb1⟩)
      go_wp2
      go_ret
      refine ⟨?_, by (repeat' first | with_reducible (first | exact Below.refl _ _ | assumption | refine Below.alloc ?_ ?_ _ | refine below_drewN ?_ _ | refine Below.drew ?_ | refine Below.setCell ?_ ?_ _ | refine Below.trans ?_ (Below.mono (by with_reducible assumption) ?_)) | go_size)⟩
      simp
    · go_wp2
      go_ret
      refine ⟨?_, by (repeat' first | with_reducible (first | exact Below.refl _ _ | assumption | refine Below.alloc ?_ ?_ _ | refine below_drewN ?_ _ | refine Below.drew ?_ | refine Below.setCell ?_ ?_ _ | refine Below.trans ?_ (Below.mono (by with_reducible assumption) ?_)) | go_size)⟩
      simp [h2]
  · go_wp2
    go_ret
    refine ⟨?_, by (repeat' first | with_reducible (first | exact Below.refl _ _ | assumption | refine Below.alloc ?_ ?_ _ | refine below_drewN ?_ _ | refine Below.drew ?_ | refine Below.setCell ?_ ?_ _ | refine Below.trans ?_ (Below.mono (by with_reducible assumption) ?_)) | go_size)⟩
    simp [h1]
theorem RLeaks.row {w : World} {v : Value} {l : List Ev.Leak} (h : RLeaks w v l) {k : Nat} {x : Ev.Leak} (hk : l[k]? = some x) :
    ∃ b o c A ca, v = .slice (some ⟨b, o, none⟩) l.length c ∧ b < w.heap.size ∧ w.cell? ⟨b, o + k * 3, none⟩ = some (.int .i64 x.pc) ∧ w.cell? ⟨b, o + k * 3 + 1, none⟩ = some (.int .i64 x.op) ∧ w.cell? ⟨b, o + k * 3 + 2, none⟩ = some (.slice A x.vals.length ca) ∧ RInts w w.heap.size (.slice A x.vals.length ca) x.vals := by
  obtain ⟨us, h1, h2, h3⟩ := h
  have hlt : k < l.length := (List.getElem?_eq_some_iff.1 hk).1
  obtain ⟨u, hu⟩ : ∃ u, us[k]? = some u := ⟨us[k]'(by omega), List.getElem?_eq_getElem _⟩
  obtain ⟨b, o, c, e, hb, _, _, hc⟩ := SL.row h2 (by omega)
  have hr := h3 k u x hu hk
  obtain ⟨A, ca, rfl, _, _⟩ := SL.form hr
  have hj := fun j z (hz : (leakCells x (.slice A x.vals.length ca))[j]? = some z) => hc (k * 3 + j) z (leaksCells_at l us k x _ hk hu j z hz)
  simp only [← Nat.add_assoc] at hj
  exact ⟨b, o, c, A, ca, e, hb, hj 0 _ rfl, hj 1 _ rfl, hj 2 _ rfl, hr⟩
set_option maxRecDepth 4000 in
set_option maxHeartbeats 3200000 in
theorem sameLeaks_any (l m : List Ev.Leak) (u v : Value) (w : World) (hl : RLeaks w u l) (hm : RLeaks w v m) :
    Calls Try.prog 42 #[u, v] w fun e w' => e = .returned (.bool (decide (l = m))) ∧ ∃ n, w' = w.drewN n := by
  have HL := Lib.hid hl
  have HM := Lib.hid hm
  obtain ⟨us, hul, hus, _⟩ := hl
  obtain ⟨vs, hvl, hvs, _⟩ := hm
  obtain ⟨A, c, rfl, hc1, hc2⟩ := SL.form hus
  obtain ⟨A', c', rfl, hd1, hd2⟩ := SL.form hvs
  unfold maxLen at hc2 hd2
  clear hus hvs hul hvl
  go_enter Try.func42, Try.ntmps42
  by_cases hlen : l.length = m.length
  case neg =>
    go_wp2
    go_ret
    refine ⟨?_, by (first | exact ⟨0, rfl⟩ | exact ⟨_, rfl⟩ | (simp only [World.drewN_drewN, World.drew_is_drewN]; exact ⟨_, rfl⟩))⟩
    have : l ≠ m := fun e => hlen (by rw [e])
    simp [this]
  case pos =>
  go_wp2_with fail
  have hlen1 : m.length ≤ l.length := by omega
  have hlen2 : l.length ≤ m.length := by omega
  clear hlen
  go_loopw [13] (fun z wr => ∃ j : Nat, j ≤ l.length ∧ z = .int .i64 j ∧ Hid (l.take j = m.take j) ∧ ∃ n, wr = w.drewN n) (fun z _ => l.length - (intOf z).toNat)
  case atStart => exact ⟨0, by omega, rfl, by simp [Hid], by (first | exact ⟨0, rfl⟩ | exact ⟨_, rfl⟩ | (simp only [World.drewN_drewN, World.drew_is_drewN]; exact ⟨_, rfl⟩))⟩
  case round =>
    obtain ⟨j, hj, rfl, HT, nw, rfl⟩ := hrel
    by_cases hlt : j < l.length
    · obtain ⟨x, hx⟩ : ∃ x, l[j]? = some x := ⟨l[j], List.getElem?_eq_getElem hlt⟩
      obtain ⟨y, hy⟩ : ∃ y, m[j]? = some y := ⟨m[j]'(by omega), List.getElem?_eq_getElem _⟩
      obtain ⟨b1, o1, r1, A1, c1, hv, hb1, p1, p2, p3, RA⟩ := RLeaks.row HL.out hx
      injection hv with hA _ hcr
      subst hA hcr
      obtain ⟨b2, o2, r2, A2, c2, hv, hb2, q1, q2, q3, RB⟩ := RLeaks.row HM.out hy
      injection hv with hA _ hcr
      subst hA hcr
      have HX := Lib.hid hx
      have HY := Lib.hid hy
      have RA := Lib.hid RA
      have RB := Lib.hid RB
      clear hx hy
      by_cases h1 : x.pc = y.pc
      · by_cases h2 : x.op = y.op
        · by_cases h3 : x.vals = y.vals
          · have hxy : x = y := by cases x; cases y; simp_all
            have hs := Lib.hid (take_snoc_same HT.out HX.out HY.out hxy)
            have g1 : decide (x.vals = y.vals) = true := by simpa using h3
            have e1 : (x.pc != y.pc) = false := by simpa using h1
            have e2 : (x.op != y.op) = false := by simpa using h2
            clear h1 h2 h3 hxy
            go_wp2_with fail
            go_quiet ((go_at_call 34; first | exact Calls.quiet_of (sameInts_is x.vals y.vals _ _ (w.drewN _) (SL.dr _ RA.out) (SL.dr _ RB.out) _ g1) | exact quiet_at (sameInts_is x.vals y.vals _ _ (w.drewN _) (SL.dr _ RA.out) (SL.dr _ RB.out) _ g1)))
            go_wp2_with fail
            go_roundw
            case rel => exact ⟨j + 1, by omega, by go_num, hs, by (first | exact ⟨0, rfl⟩ | exact ⟨_, rfl⟩ | (simp only [World.drewN_drewN, World.drew_is_drewN]; exact ⟨_, rfl⟩))⟩
            case measure => simp [intOf]; omega
          · have g1 : decide (x.vals = y.vals) = false := by simpa using h3
            have e1 : (x.pc != y.pc) = false := by simpa using h1
            have e2 : (x.op != y.op) = false := by simpa using h2
            have HXY := Lib.hid (show x ≠ y from fun e => h3 (by rw [e]))
            clear h1 h2 h3
            go_wp2_with fail
            go_quiet ((go_at_call 34; first | exact Calls.quiet_of (sameInts_is x.vals y.vals _ _ (w.drewN _) (SL.dr _ RA.out) (SL.dr _ RB.out) _ g1) | exact quiet_at (sameInts_is x.vals y.vals _ _ (w.drewN _) (SL.dr _ RA.out) (SL.dr _ RB.out) _ g1)))
            go_wp2
            go_ret
            refine ⟨?_, by (first | exact ⟨0, rfl⟩ | exact ⟨_, rfl⟩ | (simp only [World.drewN_drewN, World.drew_is_drewN]; exact ⟨_, rfl⟩))⟩
            simp [get_neq HX.out HY.out HXY.out]
        · have e1 : (x.pc != y.pc) = false := by simpa using h1
          have e2 : (x.op != y.op) = true := by simpa using h2
          have HXY := Lib.hid (show x ≠ y from fun e => h2 (by rw [e]))
          clear h1 h2
          go_wp2_with fail
          go_quiet (fail)
          go_wp2
          go_ret
          refine ⟨?_, by (first | exact ⟨0, rfl⟩ | exact ⟨_, rfl⟩ | (simp only [World.drewN_drewN, World.drew_is_drewN]; exact ⟨_, rfl⟩))⟩
          simp [get_neq HX.out HY.out HXY.out]
      · have e1 : (x.pc != y.pc) = true := by simpa using h1
        have HXY := Lib.hid (show x ≠ y from fun e => h1 (by rw [e]))
        clear h1
        go_wp2_with fail
        go_quiet (fail)
        go_wp2
        go_ret
        refine ⟨?_, by (first | exact ⟨0, rfl⟩ | exact ⟨_, rfl⟩ | (simp only [World.drewN_drewN, World.drew_is_drewN]; exact ⟨_, rfl⟩))⟩
        simp [get_neq HX.out HY.out HXY.out]
    · go_wp2
      go_ret
      refine ⟨?_, by (first | exact ⟨0, rfl⟩ | exact ⟨_, rfl⟩ | (simp only [World.drewN_drewN, World.drew_is_drewN]; exact ⟨_, rfl⟩))⟩
      have h := HT.out
      rw [List.take_of_length_le (by omega), List.take_of_length_le (by omega)] at h
      simp [h]
end Go.Proofs.Ytljcgcllhcdleaa
