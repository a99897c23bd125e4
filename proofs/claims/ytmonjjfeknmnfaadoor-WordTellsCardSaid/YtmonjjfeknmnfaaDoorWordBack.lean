import Derived.Test.YtmonjjfeknmnfaaDoorNumber
import Derived.Test.YtmonjjfeknmnfaaDoorBackPlain
import Derived.Test.YtmonjjfeknmnfaaDoorRefTwo
import Derived.Outline
/- Chapter 1's laws, walked. -/
namespace Go.Proofs.YtmonjjfeknmnfaaDoor
open Go.RowKit
set_option linter.unusedSimpArgs false
set_option linter.unusedVariables false
set_option maxHeartbeats 800000 in
theorem back1_any (op a b : Int) (w : World) (h : 1 ≤ op ∧ op ≤ 12) :
    Calls Tryd.prog 13 #[.int .i64 op, .int .i64 a, .int .i64 b] w fun e w' => e = .returned (.int .i64 (Ev.two op a b)) ∧ Below w.heap.size w w' := by
  have e0 : Ev.twoErr op = 0 := by unfold Ev.twoErr; rw [if_pos h]
  have h1 := fun w => two_any op a b w
  rw [e0] at h1
  have hw : Ev.isWord (Ev.two op a b) = true := by have := Ev.two_word op a b; simp [Ev.isWord]; omega
  have H1 := Lib.hid h1
  have h2 := fun w => isWord_any (Ev.two op a b) w
  rw [hw] at h2
  have H2 := Lib.hid h2
  clear h1 h2 hw e0
  generalize Ev.two op a b = n at *
  go_enter Tryd.func13, Tryd.ntmps13
  go_wp2_with fail
  refine (H1.out _).mono ?_
  rintro e w1 ⟨rfl, hb1⟩
  obtain ⟨kc1, kf1, s1⟩ := bfacts hb1
  (try simp only [World.size_alloc, World.size_setCell, World.size_drew, World.heap_drewN, Nat.add_one_le_iff] at s1)
  (try have z1 : w.heap.size < w1.heap.size := by omega)
  have B1 : Hid (Below w.heap.size w w1) := by (show Below _ _ _); (repeat' (first | (with_reducible exact Below.refl _ _) | (with_reducible assumption) | (with_reducible refine Below.alloc ?_ ?_ _) | (with_reducible refine below_drewN ?_ _) | (with_reducible refine Below.drew ?_) | (with_reducible refine Below.setCell ?_ ?_ _) | (with_reducible refine Below.trans ?_ (Below.mono (by with_reducible assumption) ?_)) | go_size))
  obtain ⟨kd1, kg1, _⟩ := bfacts B1.out
  go_wp2_with fail
  refine (H2.out _).mono ?_
  rintro e w2 ⟨rfl, hb2⟩
  obtain ⟨kc2, kf2, s2⟩ := bfacts hb2
  (try simp only [World.size_alloc, World.size_setCell, World.size_drew, World.heap_drewN, Nat.add_one_le_iff] at s2)
  (try have z2 : w.heap.size < w2.heap.size := by omega)
  have B2 : Hid (Below w.heap.size w w2) := by (show Below _ _ _); (repeat' (first | (with_reducible exact Below.refl _ _) | (with_reducible assumption) | (with_reducible refine Below.alloc ?_ ?_ _) | (with_reducible refine below_drewN ?_ _) | (with_reducible refine Below.drew ?_) | (with_reducible refine Below.setCell ?_ ?_ _) | (with_reducible refine Below.trans ?_ (Below.mono (by with_reducible assumption) ?_)) | go_size))
  obtain ⟨kd2, kg2, _⟩ := bfacts B2.out
  go_wp2_with fail
  go_ret
  exact ⟨rfl, by (repeat' (first | (with_reducible exact Below.refl _ _) | (with_reducible assumption) | (with_reducible refine Below.alloc ?_ ?_ _) | (with_reducible refine below_drewN ?_ _) | (with_reducible refine Below.drew ?_) | (with_reducible refine Below.setCell ?_ ?_ _) | (with_reducible refine Below.trans ?_ (Below.mono (by with_reducible assumption) ?_)) | go_size))⟩

set_option maxHeartbeats 1600000 in
theorem alive1_any (w : World) (hv : Vars w) :
    Calls Tryd.prog 12 #[] w fun e w' => e = .returned (.bool true) ∧ Below w.heap.size w w' := by
  have HV := Lib.hid hv
  clear hv
  have h1 := Lib.hid (fun w => two_any 2 0 1 w)
  have h2 := Lib.hid (fun w => two_any 9 7 0 w)
  have h3 := Lib.hid (fun w hv => number_any ⟨#[49, 50]⟩ w (by decide) hv)
  have h4 := Lib.hid (fun w => sel_any 0 1 2 w)
  have h5 := Lib.hid (fun w => isWord_any 5 w)
  have h6 := Lib.hid (fun w => isWord_any (-1) w)
  rw [show Ev.two 2 0 1 = 4294967295 from by decide, show Ev.twoErr 2 = 0 from by decide] at h1
  rw [show Ev.two 9 7 0 = 4294967295 from by decide, show Ev.twoErr 9 = 0 from by decide] at h2
  rw [show atoiV ⟨#[49, 50]⟩ = 12 from by decide, show numB ⟨#[49, 50]⟩ = true from by decide +kernel] at h3
  rw [show Ev.sel 0 1 2 = 2 from by decide] at h4
  rw [show Ev.isWord 5 = true from by decide] at h5
  rw [show Ev.isWord (-1) = false from by decide] at h6
  go_enter Tryd.func12, Tryd.ntmps12
  go_wp2_with fail
  refine (h1.out _).mono ?_
  rintro e w1 ⟨rfl, hb1⟩
  obtain ⟨kc1, kf1, s1⟩ := bfacts hb1
  (try simp only [World.size_alloc, World.size_setCell, World.size_drew, World.heap_drewN, Nat.add_one_le_iff] at s1)
  (try have z1 : w.heap.size < w1.heap.size := by omega)
  have B1 : Hid (Below w.heap.size w w1) := by (show Below _ _ _); (repeat' (first | (with_reducible exact Below.refl _ _) | (with_reducible assumption) | (with_reducible refine Below.alloc ?_ ?_ _) | (with_reducible refine below_drewN ?_ _) | (with_reducible refine Below.drew ?_) | (with_reducible refine Below.setCell ?_ ?_ _) | (with_reducible refine Below.trans ?_ (Below.mono (by with_reducible assumption) ?_)) | go_size))
  obtain ⟨kd1, kg1, _⟩ := bfacts B1.out
  go_wp2_with fail
  refine (h2.out _).mono ?_
  rintro e w2 ⟨rfl, hb2⟩
  obtain ⟨kc2, kf2, s2⟩ := bfacts hb2
  (try simp only [World.size_alloc, World.size_setCell, World.size_drew, World.heap_drewN, Nat.add_one_le_iff] at s2)
  (try have z2 : w.heap.size < w2.heap.size := by omega)
  have B2 : Hid (Below w.heap.size w w2) := by (show Below _ _ _); (repeat' (first | (with_reducible exact Below.refl _ _) | (with_reducible assumption) | (with_reducible refine Below.alloc ?_ ?_ _) | (with_reducible refine below_drewN ?_ _) | (with_reducible refine Below.drew ?_) | (with_reducible refine Below.setCell ?_ ?_ _) | (with_reducible refine Below.trans ?_ (Below.mono (by with_reducible assumption) ?_)) | go_size))
  obtain ⟨kd2, kg2, _⟩ := bfacts B2.out
  go_wp2_with fail
  refine (h3.out _ (HV.out.stays B2.out)).mono ?_
  rintro e w3 ⟨rfl, hb3⟩
  obtain ⟨kc3, kf3, s3⟩ := bfacts hb3
  (try simp only [World.size_alloc, World.size_setCell, World.size_drew, World.heap_drewN, Nat.add_one_le_iff] at s3)
  (try have z3 : w.heap.size < w3.heap.size := by omega)
  have B3 : Hid (Below w.heap.size w w3) := by (show Below _ _ _); (repeat' (first | (with_reducible exact Below.refl _ _) | (with_reducible assumption) | (with_reducible refine Below.alloc ?_ ?_ _) | (with_reducible refine below_drewN ?_ _) | (with_reducible refine Below.drew ?_) | (with_reducible refine Below.setCell ?_ ?_ _) | (with_reducible refine Below.trans ?_ (Below.mono (by with_reducible assumption) ?_)) | go_size))
  obtain ⟨kd3, kg3, _⟩ := bfacts B3.out
  go_wp2_with fail
  refine (h4.out _).mono ?_
  rintro e w4 ⟨rfl, hb4⟩
  obtain ⟨kc4, kf4, s4⟩ := bfacts hb4
  (try simp only [World.size_alloc, World.size_setCell, World.size_drew, World.heap_drewN, Nat.add_one_le_iff] at s4)
  (try have z4 : w.heap.size < w4.heap.size := by omega)
  have B4 : Hid (Below w.heap.size w w4) := by (show Below _ _ _); (repeat' (first | (with_reducible exact Below.refl _ _) | (with_reducible assumption) | (with_reducible refine Below.alloc ?_ ?_ _) | (with_reducible refine below_drewN ?_ _) | (with_reducible refine Below.drew ?_) | (with_reducible refine Below.setCell ?_ ?_ _) | (with_reducible refine Below.trans ?_ (Below.mono (by with_reducible assumption) ?_)) | go_size))
  obtain ⟨kd4, kg4, _⟩ := bfacts B4.out
  go_wp2_with fail
  refine (h5.out _).mono ?_
  rintro e w5 ⟨rfl, hb5⟩
  obtain ⟨kc5, kf5, s5⟩ := bfacts hb5
  (try simp only [World.size_alloc, World.size_setCell, World.size_drew, World.heap_drewN, Nat.add_one_le_iff] at s5)
  (try have z5 : w.heap.size < w5.heap.size := by omega)
  have B5 : Hid (Below w.heap.size w w5) := by (show Below _ _ _); (repeat' (first | (with_reducible exact Below.refl _ _) | (with_reducible assumption) | (with_reducible refine Below.alloc ?_ ?_ _) | (with_reducible refine below_drewN ?_ _) | (with_reducible refine Below.drew ?_) | (with_reducible refine Below.setCell ?_ ?_ _) | (with_reducible refine Below.trans ?_ (Below.mono (by with_reducible assumption) ?_)) | go_size))
  obtain ⟨kd5, kg5, _⟩ := bfacts B5.out
  go_wp2_with fail
  refine (h6.out _).mono ?_
  rintro e w6 ⟨rfl, hb6⟩
  obtain ⟨kc6, kf6, s6⟩ := bfacts hb6
  (try simp only [World.size_alloc, World.size_setCell, World.size_drew, World.heap_drewN, Nat.add_one_le_iff] at s6)
  (try have z6 : w.heap.size < w6.heap.size := by omega)
  have B6 : Hid (Below w.heap.size w w6) := by (show Below _ _ _); (repeat' (first | (with_reducible exact Below.refl _ _) | (with_reducible assumption) | (with_reducible refine Below.alloc ?_ ?_ _) | (with_reducible refine below_drewN ?_ _) | (with_reducible refine Below.drew ?_) | (with_reducible refine Below.setCell ?_ ?_ _) | (with_reducible refine Below.trans ?_ (Below.mono (by with_reducible assumption) ?_)) | go_size))
  obtain ⟨kd6, kg6, _⟩ := bfacts B6.out
  go_wp2_with fail
  go_ret
  exact ⟨rfl, by (repeat' (first | (with_reducible exact Below.refl _ _) | (with_reducible assumption) | (with_reducible refine Below.alloc ?_ ?_ _) | (with_reducible refine below_drewN ?_ _) | (with_reducible refine Below.drew ?_) | (with_reducible refine Below.setCell ?_ ?_ _) | (with_reducible refine Below.trans ?_ (Below.mono (by with_reducible assumption) ?_)) | go_size))⟩

set_option maxHeartbeats 1600000 in
theorem wordTells_walk (op a b c : Int) (s : ByteArray) (w : World) (hs : s.size ≤ 281474976710656) (hv : Vars w) :
    Calls Tryd.prog 3 #[.int .i64 op, .int .i64 a, .int .i64 b, .int .i64 c, .string s] w fun e w' => e = .returned (.bool true) ∧ Below w.heap.size w w' := by
  have HV := Lib.hid hv
  clear hv
  have h1 := Lib.hid (fun w => two_any op a b w)
  have h2 := Lib.hid (fun w => refTwo_any op a b w)
  have h3 := Lib.hid (fun w hv => number_any s w hs hv)
  have h4 := Lib.hid (fun w hv => refNumber_any s w hs hv)
  have h5 := Lib.hid (fun w => sel_any a b c w)
  have h6 := Lib.hid (fun w => refSel_any a b c w)
  have h7 := Lib.hid (fun w => isWord_any a w)
  have hw : Ev.isWord a = (decide (0 ≤ a) && decide (a ≤ 4294967295)) := rfl
  have hx : Ev.isWord a = true ↔ (0 ≤ a ∧ a < 4294967296) := by rw [hw]; simp; omega
  have HX := Lib.hid hx
  clear hw hx
  generalize Ev.two op a b = n at *
  generalize Ev.twoErr op = ne at *
  generalize Ev.sel a b c = ns at *
  generalize Ev.isWord a = iw at *
  generalize atoiV s = av at *
  cases hnb : numB s
  all_goals
    rw [hnb] at h3 h4
    clear hnb
    rcases (show (0 ≤ a ∧ a < 4294967296 ∧ iw = true) ∨ (0 ≤ a ∧ decide (a < 4294967296) = false ∧ iw = false) ∨ (¬ 0 ≤ a ∧ iw = false) from by
      have := HX.out
      cases iw <;> simp at this ⊢ <;> omega) with ⟨g1, g2, rfl⟩ | ⟨g1, g2, rfl⟩ | ⟨g1, rfl⟩
    all_goals
      clear HX
      go_enter Tryd.func3, Tryd.ntmps3
      go_wp2_with fail
      refine (h1.out _).mono ?_
      rintro e w1 ⟨rfl, hb1⟩
      obtain ⟨kc1, kf1, s1⟩ := bfacts hb1
      (try simp only [World.size_alloc, World.size_setCell, World.size_drew, World.heap_drewN, Nat.add_one_le_iff] at s1)
      (try have z1 : w.heap.size < w1.heap.size := by omega)
      have B1 : Hid (Below w.heap.size w w1) := by (show Below _ _ _); (repeat' (first | (with_reducible exact Below.refl _ _) | (with_reducible assumption) | (with_reducible refine Below.alloc ?_ ?_ _) | (with_reducible refine below_drewN ?_ _) | (with_reducible refine Below.drew ?_) | (with_reducible refine Below.setCell ?_ ?_ _) | (with_reducible refine Below.trans ?_ (Below.mono (by with_reducible assumption) ?_)) | go_size))
      obtain ⟨kd1, kg1, _⟩ := bfacts B1.out
      go_wp2_with fail
      refine (h2.out _).mono ?_
      rintro e w2 ⟨rfl, hb2⟩
      obtain ⟨kc2, kf2, s2⟩ := bfacts hb2
      (try simp only [World.size_alloc, World.size_setCell, World.size_drew, World.heap_drewN, Nat.add_one_le_iff] at s2)
      (try have z2 : w.heap.size < w2.heap.size := by omega)
      have B2 : Hid (Below w.heap.size w w2) := by (show Below _ _ _); (repeat' (first | (with_reducible exact Below.refl _ _) | (with_reducible assumption) | (with_reducible refine Below.alloc ?_ ?_ _) | (with_reducible refine below_drewN ?_ _) | (with_reducible refine Below.drew ?_) | (with_reducible refine Below.setCell ?_ ?_ _) | (with_reducible refine Below.trans ?_ (Below.mono (by with_reducible assumption) ?_)) | go_size))
      obtain ⟨kd2, kg2, _⟩ := bfacts B2.out
      go_wp2_with fail
      refine (h3.out _ (HV.out.stays B2.out)).mono ?_
      rintro e w3 ⟨rfl, hb3⟩
      obtain ⟨kc3, kf3, s3⟩ := bfacts hb3
      (try simp only [World.size_alloc, World.size_setCell, World.size_drew, World.heap_drewN, Nat.add_one_le_iff] at s3)
      (try have z3 : w.heap.size < w3.heap.size := by omega)
      have B3 : Hid (Below w.heap.size w w3) := by (show Below _ _ _); (repeat' (first | (with_reducible exact Below.refl _ _) | (with_reducible assumption) | (with_reducible refine Below.alloc ?_ ?_ _) | (with_reducible refine below_drewN ?_ _) | (with_reducible refine Below.drew ?_) | (with_reducible refine Below.setCell ?_ ?_ _) | (with_reducible refine Below.trans ?_ (Below.mono (by with_reducible assumption) ?_)) | go_size))
      obtain ⟨kd3, kg3, _⟩ := bfacts B3.out
      go_wp2_with fail
      refine (h4.out _ (HV.out.stays B3.out)).mono ?_
      rintro e w4 ⟨rfl, hb4⟩
      obtain ⟨kc4, kf4, s4⟩ := bfacts hb4
      (try simp only [World.size_alloc, World.size_setCell, World.size_drew, World.heap_drewN, Nat.add_one_le_iff] at s4)
      (try have z4 : w.heap.size < w4.heap.size := by omega)
      have B4 : Hid (Below w.heap.size w w4) := by (show Below _ _ _); (repeat' (first | (with_reducible exact Below.refl _ _) | (with_reducible assumption) | (with_reducible refine Below.alloc ?_ ?_ _) | (with_reducible refine below_drewN ?_ _) | (with_reducible refine Below.drew ?_) | (with_reducible refine Below.setCell ?_ ?_ _) | (with_reducible refine Below.trans ?_ (Below.mono (by with_reducible assumption) ?_)) | go_size))
      obtain ⟨kd4, kg4, _⟩ := bfacts B4.out
      go_wp2_with fail
      refine (h5.out _).mono ?_
      rintro e w5 ⟨rfl, hb5⟩
      obtain ⟨kc5, kf5, s5⟩ := bfacts hb5
      (try simp only [World.size_alloc, World.size_setCell, World.size_drew, World.heap_drewN, Nat.add_one_le_iff] at s5)
      (try have z5 : w.heap.size < w5.heap.size := by omega)
      have B5 : Hid (Below w.heap.size w w5) := by (show Below _ _ _); (repeat' (first | (with_reducible exact Below.refl _ _) | (with_reducible assumption) | (with_reducible refine Below.alloc ?_ ?_ _) | (with_reducible refine below_drewN ?_ _) | (with_reducible refine Below.drew ?_) | (with_reducible refine Below.setCell ?_ ?_ _) | (with_reducible refine Below.trans ?_ (Below.mono (by with_reducible assumption) ?_)) | go_size))
      obtain ⟨kd5, kg5, _⟩ := bfacts B5.out
      go_wp2_with fail
      refine (h6.out _).mono ?_
      rintro e w6 ⟨rfl, hb6⟩
      obtain ⟨kc6, kf6, s6⟩ := bfacts hb6
      (try simp only [World.size_alloc, World.size_setCell, World.size_drew, World.heap_drewN, Nat.add_one_le_iff] at s6)
      (try have z6 : w.heap.size < w6.heap.size := by omega)
      have B6 : Hid (Below w.heap.size w w6) := by (show Below _ _ _); (repeat' (first | (with_reducible exact Below.refl _ _) | (with_reducible assumption) | (with_reducible refine Below.alloc ?_ ?_ _) | (with_reducible refine below_drewN ?_ _) | (with_reducible refine Below.drew ?_) | (with_reducible refine Below.setCell ?_ ?_ _) | (with_reducible refine Below.trans ?_ (Below.mono (by with_reducible assumption) ?_)) | go_size))
      obtain ⟨kd6, kg6, _⟩ := bfacts B6.out
      go_wp2_with fail
      refine (h7.out _).mono ?_
      rintro e w7 ⟨rfl, hb7⟩
      obtain ⟨kc7, kf7, s7⟩ := bfacts hb7
      (try simp only [World.size_alloc, World.size_setCell, World.size_drew, World.heap_drewN, Nat.add_one_le_iff] at s7)
      (try have z7 : w.heap.size < w7.heap.size := by omega)
      have B7 : Hid (Below w.heap.size w w7) := by (show Below _ _ _); (repeat' (first | (with_reducible exact Below.refl _ _) | (with_reducible assumption) | (with_reducible refine Below.alloc ?_ ?_ _) | (with_reducible refine below_drewN ?_ _) | (with_reducible refine Below.drew ?_) | (with_reducible refine Below.setCell ?_ ?_ _) | (with_reducible refine Below.trans ?_ (Below.mono (by with_reducible assumption) ?_)) | go_size))
      obtain ⟨kd7, kg7, _⟩ := bfacts B7.out
      go_wp2_with fail
      go_ret
      exact ⟨rfl, by (repeat' (first | (with_reducible exact Below.refl _ _) | (with_reducible assumption) | (with_reducible refine Below.alloc ?_ ?_ _) | (with_reducible refine below_drewN ?_ _) | (with_reducible refine Below.drew ?_) | (with_reducible refine Below.setCell ?_ ?_ _) | (with_reducible refine Below.trans ?_ (Below.mono (by with_reducible assumption) ?_)) | go_size))⟩

set_option maxRecDepth 8000 in
set_option maxHeartbeats 3200000 in
theorem wordBack_walk (a b : Int) (w : World) (hv : Vars w) :
    Calls Tryd.prog 4 #[.int .i64 a, .int .i64 b] w fun e w' => e = .returned (.bool true) ∧ Below w.heap.size w w' := by
  have HV := Lib.hid hv
  clear hv
  have ca := Lib.hid (fun w => isWord_any a w)
  have cb := Lib.hid (fun w => isWord_any b w)
  have c2 := Lib.hid (fun op a b w h => back1_any op a b w h)
  have T := Lib.hid (fun op a b => Ev.two_word op a b)
  cases ha : Ev.isWord a
  · rw [ha] at ca
    clear ha
    go_enter Tryd.func4, Tryd.ntmps4
    go_wp2_with fail
    refine (alive1_any _ HV.out).mono ?_
    rintro e w1 ⟨rfl, hb1⟩
    obtain ⟨kc1, kf1, s1⟩ := bfacts hb1
    (try simp only [World.size_alloc, World.size_setCell, World.size_drew, World.heap_drewN, Nat.add_one_le_iff] at s1)
    (try have z1 : w.heap.size < w1.heap.size := by omega)
    have B1 : Hid (Below w.heap.size w w1) := by (show Below _ _ _); (repeat' (first | (with_reducible exact Below.refl _ _) | (with_reducible assumption) | (with_reducible refine Below.alloc ?_ ?_ _) | (with_reducible refine below_drewN ?_ _) | (with_reducible refine Below.drew ?_) | (with_reducible refine Below.setCell ?_ ?_ _) | (with_reducible refine Below.trans ?_ (Below.mono (by with_reducible assumption) ?_)) | go_size))
    obtain ⟨kd1, kg1, _⟩ := bfacts B1.out
    go_wp2_with fail
    refine (ca.out _).mono ?_
    rintro e w2 ⟨rfl, hb2⟩
    obtain ⟨kc2, kf2, s2⟩ := bfacts hb2
    (try simp only [World.size_alloc, World.size_setCell, World.size_drew, World.heap_drewN, Nat.add_one_le_iff] at s2)
    (try have z2 : w.heap.size < w2.heap.size := by omega)
    have B2 : Hid (Below w.heap.size w w2) := by (show Below _ _ _); (repeat' (first | (with_reducible exact Below.refl _ _) | (with_reducible assumption) | (with_reducible refine Below.alloc ?_ ?_ _) | (with_reducible refine below_drewN ?_ _) | (with_reducible refine Below.drew ?_) | (with_reducible refine Below.setCell ?_ ?_ _) | (with_reducible refine Below.trans ?_ (Below.mono (by with_reducible assumption) ?_)) | go_size))
    obtain ⟨kd2, kg2, _⟩ := bfacts B2.out
    go_wp2_with fail
    go_ret
    exact ⟨rfl, by (repeat' (first | (with_reducible exact Below.refl _ _) | (with_reducible assumption) | (with_reducible refine Below.alloc ?_ ?_ _) | (with_reducible refine below_drewN ?_ _) | (with_reducible refine Below.drew ?_) | (with_reducible refine Below.setCell ?_ ?_ _) | (with_reducible refine Below.trans ?_ (Below.mono (by with_reducible assumption) ?_)) | go_size))⟩
  cases hb : Ev.isWord b
  · rw [ha] at ca
    rw [hb] at cb
    clear ha hb
    go_enter Tryd.func4, Tryd.ntmps4
    go_wp2_with fail
    refine (alive1_any _ HV.out).mono ?_
    rintro e w1 ⟨rfl, hb1⟩
    obtain ⟨kc1, kf1, s1⟩ := bfacts hb1
    (try simp only [World.size_alloc, World.size_setCell, World.size_drew, World.heap_drewN, Nat.add_one_le_iff] at s1)
    (try have z1 : w.heap.size < w1.heap.size := by omega)
    have B1 : Hid (Below w.heap.size w w1) := by (show Below _ _ _); (repeat' (first | (with_reducible exact Below.refl _ _) | (with_reducible assumption) | (with_reducible refine Below.alloc ?_ ?_ _) | (with_reducible refine below_drewN ?_ _) | (with_reducible refine Below.drew ?_) | (with_reducible refine Below.setCell ?_ ?_ _) | (with_reducible refine Below.trans ?_ (Below.mono (by with_reducible assumption) ?_)) | go_size))
    obtain ⟨kd1, kg1, _⟩ := bfacts B1.out
    go_wp2_with fail
    refine (ca.out _).mono ?_
    rintro e w2 ⟨rfl, hb2⟩
    obtain ⟨kc2, kf2, s2⟩ := bfacts hb2
    (try simp only [World.size_alloc, World.size_setCell, World.size_drew, World.heap_drewN, Nat.add_one_le_iff] at s2)
    (try have z2 : w.heap.size < w2.heap.size := by omega)
    have B2 : Hid (Below w.heap.size w w2) := by (show Below _ _ _); (repeat' (first | (with_reducible exact Below.refl _ _) | (with_reducible assumption) | (with_reducible refine Below.alloc ?_ ?_ _) | (with_reducible refine below_drewN ?_ _) | (with_reducible refine Below.drew ?_) | (with_reducible refine Below.setCell ?_ ?_ _) | (with_reducible refine Below.trans ?_ (Below.mono (by with_reducible assumption) ?_)) | go_size))
    obtain ⟨kd2, kg2, _⟩ := bfacts B2.out
    go_wp2_with fail
    refine (cb.out _).mono ?_
    rintro e w3 ⟨rfl, hb3⟩
    obtain ⟨kc3, kf3, s3⟩ := bfacts hb3
    (try simp only [World.size_alloc, World.size_setCell, World.size_drew, World.heap_drewN, Nat.add_one_le_iff] at s3)
    (try have z3 : w.heap.size < w3.heap.size := by omega)
    have B3 : Hid (Below w.heap.size w w3) := by (show Below _ _ _); (repeat' (first | (with_reducible exact Below.refl _ _) | (with_reducible assumption) | (with_reducible refine Below.alloc ?_ ?_ _) | (with_reducible refine below_drewN ?_ _) | (with_reducible refine Below.drew ?_) | (with_reducible refine Below.setCell ?_ ?_ _) | (with_reducible refine Below.trans ?_ (Below.mono (by with_reducible assumption) ?_)) | go_size))
    obtain ⟨kd3, kg3, _⟩ := bfacts B3.out
    go_wp2_with fail
    go_ret
    exact ⟨rfl, by (repeat' (first | (with_reducible exact Below.refl _ _) | (with_reducible assumption) | (with_reducible refine Below.alloc ?_ ?_ _) | (with_reducible refine below_drewN ?_ _) | (with_reducible refine Below.drew ?_) | (with_reducible refine Below.setCell ?_ ?_ _) | (with_reducible refine Below.trans ?_ (Below.mono (by with_reducible assumption) ?_)) | go_size))⟩
  have wa : 0 ≤ a ∧ a ≤ 4294967295 := by simpa [Ev.isWord] using ha
  have wb : 0 ≤ b ∧ b ≤ 4294967295 := by simpa [Ev.isWord] using hb
  obtain ⟨e1, e2, e3, e4, e5, e6⟩ := Ev.back wa wb
  rw [ha] at ca
  rw [hb] at cb
  clear ha hb
  have k1 := Lib.hid (fun w => c2.out 1 a b w (by decide))
  have k5 := Lib.hid (fun w => c2.out 5 a b w (by decide))
  have k9 := Lib.hid (fun w => c2.out 9 a b w (by decide))
  have k10 := Lib.hid (fun w => c2.out 10 a b w (by decide))
  have k11 := Lib.hid (fun w => c2.out 11 a b w (by decide))
  have k11' := Lib.hid (fun w => c2.out 11 b a w (by decide))
  have k12 := Lib.hid (fun w => c2.out 12 a b w (by decide))
  have k3 := Lib.hid (fun w => c2.out 3 a b w (by decide))
  have k4 := Lib.hid (fun w => c2.out 4 a b w (by decide))
  have k2 := Lib.hid (fun w => c2.out 2 (Ev.two 1 a b) b w (by decide))
  have k5' := Lib.hid (fun w => c2.out 5 (Ev.two 5 a b) b w (by decide))
  have k8 := Lib.hid (fun w => c2.out 8 (Ev.two 9 a b) b w (by decide))
  have k1' := Lib.hid (fun w => c2.out 1 (Ev.two 8 (Ev.two 9 a b) b) (Ev.two 10 a b) w (by decide))
  have k1'' := Lib.hid (fun w => c2.out 1 (Ev.two 3 a b) (Ev.two 4 a b) w (by decide))
  have k11'' := Lib.hid (fun w => c2.out 11 (Ev.two 10 a b) b w (by decide))
  have t11 := T.out 11 a b
  have t11' := T.out 11 b a
  have t12 := T.out 12 a b
  rw [e1] at k2
  rw [e2] at k5'
  rw [e3] at k1'
  rw [e5] at k1''
  have E6 := Lib.hid e6
  clear e1 e2 e3 e5 e6 c2 T
  generalize Ev.two 11 (Ev.two 10 a b) b = n13 at *
  generalize Ev.two 8 (Ev.two 9 a b) b = n8 at *
  generalize Ev.two 1 a b = n1 at *
  generalize Ev.two 5 a b = n5 at *
  generalize Ev.two 9 a b = n9 at *
  generalize Ev.two 10 a b = n10 at *
  generalize Ev.two 11 a b = n11 at *
  generalize Ev.two 11 b a = n11' at *
  generalize Ev.two 12 a b = n12 at *
  generalize Ev.two 3 a b = n3 at *
  generalize Ev.two 4 a b = n4 at *
  have g4 : (n11 + n11' + n12 != 1) = false := by rw [e4]; rfl
  clear e4
  by_cases h0 : b = 0
  · have g0 : (b == 0) = true := by simpa using h0
    have H0 := Lib.hid h0
    clear h0 E6
    go_enter Tryd.func4, Tryd.ntmps4
    go_wp2_with fail
    refine (alive1_any _ HV.out).mono ?_
    rintro e w1 ⟨rfl, hb1⟩
    obtain ⟨kc1, kf1, s1⟩ := bfacts hb1
    (try simp only [World.size_alloc, World.size_setCell, World.size_drew, World.heap_drewN, Nat.add_one_le_iff] at s1)
    (try have z1 : w.heap.size < w1.heap.size := by omega)
    have B1 : Hid (Below w.heap.size w w1) := by (show Below _ _ _); (repeat' (first | (with_reducible exact Below.refl _ _) | (with_reducible assumption) | (with_reducible refine Below.alloc ?_ ?_ _) | (with_reducible refine below_drewN ?_ _) | (with_reducible refine Below.drew ?_) | (with_reducible refine Below.setCell ?_ ?_ _) | (with_reducible refine Below.trans ?_ (Below.mono (by with_reducible assumption) ?_)) | go_size))
    obtain ⟨kd1, kg1, _⟩ := bfacts B1.out
    go_wp2_with fail
    refine (ca.out _).mono ?_
    rintro e w2 ⟨rfl, hb2⟩
    obtain ⟨kc2, kf2, s2⟩ := bfacts hb2
    (try simp only [World.size_alloc, World.size_setCell, World.size_drew, World.heap_drewN, Nat.add_one_le_iff] at s2)
    (try have z2 : w.heap.size < w2.heap.size := by omega)
    have B2 : Hid (Below w.heap.size w w2) := by (show Below _ _ _); (repeat' (first | (with_reducible exact Below.refl _ _) | (with_reducible assumption) | (with_reducible refine Below.alloc ?_ ?_ _) | (with_reducible refine below_drewN ?_ _) | (with_reducible refine Below.drew ?_) | (with_reducible refine Below.setCell ?_ ?_ _) | (with_reducible refine Below.trans ?_ (Below.mono (by with_reducible assumption) ?_)) | go_size))
    obtain ⟨kd2, kg2, _⟩ := bfacts B2.out
    go_wp2_with fail
    refine (cb.out _).mono ?_
    rintro e w3 ⟨rfl, hb3⟩
    obtain ⟨kc3, kf3, s3⟩ := bfacts hb3
    (try simp only [World.size_alloc, World.size_setCell, World.size_drew, World.heap_drewN, Nat.add_one_le_iff] at s3)
    (try have z3 : w.heap.size < w3.heap.size := by omega)
    have B3 : Hid (Below w.heap.size w w3) := by (show Below _ _ _); (repeat' (first | (with_reducible exact Below.refl _ _) | (with_reducible assumption) | (with_reducible refine Below.alloc ?_ ?_ _) | (with_reducible refine below_drewN ?_ _) | (with_reducible refine Below.drew ?_) | (with_reducible refine Below.setCell ?_ ?_ _) | (with_reducible refine Below.trans ?_ (Below.mono (by with_reducible assumption) ?_)) | go_size))
    obtain ⟨kd3, kg3, _⟩ := bfacts B3.out
    go_wp2_with fail
    refine (k9.out _).mono ?_
    rintro e w4 ⟨rfl, hb4⟩
    obtain ⟨kc4, kf4, s4⟩ := bfacts hb4
    (try simp only [World.size_alloc, World.size_setCell, World.size_drew, World.heap_drewN, Nat.add_one_le_iff] at s4)
    (try have z4 : w.heap.size < w4.heap.size := by omega)
    have B4 : Hid (Below w.heap.size w w4) := by (show Below _ _ _); (repeat' (first | (with_reducible exact Below.refl _ _) | (with_reducible assumption) | (with_reducible refine Below.alloc ?_ ?_ _) | (with_reducible refine below_drewN ?_ _) | (with_reducible refine Below.drew ?_) | (with_reducible refine Below.setCell ?_ ?_ _) | (with_reducible refine Below.trans ?_ (Below.mono (by with_reducible assumption) ?_)) | go_size))
    obtain ⟨kd4, kg4, _⟩ := bfacts B4.out
    go_wp2_with fail
    refine (k10.out _).mono ?_
    rintro e w5 ⟨rfl, hb5⟩
    obtain ⟨kc5, kf5, s5⟩ := bfacts hb5
    (try simp only [World.size_alloc, World.size_setCell, World.size_drew, World.heap_drewN, Nat.add_one_le_iff] at s5)
    (try have z5 : w.heap.size < w5.heap.size := by omega)
    have B5 : Hid (Below w.heap.size w w5) := by (show Below _ _ _); (repeat' (first | (with_reducible exact Below.refl _ _) | (with_reducible assumption) | (with_reducible refine Below.alloc ?_ ?_ _) | (with_reducible refine below_drewN ?_ _) | (with_reducible refine Below.drew ?_) | (with_reducible refine Below.setCell ?_ ?_ _) | (with_reducible refine Below.trans ?_ (Below.mono (by with_reducible assumption) ?_)) | go_size))
    obtain ⟨kd5, kg5, _⟩ := bfacts B5.out
    go_wp2_with fail
    refine (k1.out _).mono ?_
    rintro e w6 ⟨rfl, hb6⟩
    obtain ⟨kc6, kf6, s6⟩ := bfacts hb6
    (try simp only [World.size_alloc, World.size_setCell, World.size_drew, World.heap_drewN, Nat.add_one_le_iff] at s6)
    (try have z6 : w.heap.size < w6.heap.size := by omega)
    have B6 : Hid (Below w.heap.size w w6) := by (show Below _ _ _); (repeat' (first | (with_reducible exact Below.refl _ _) | (with_reducible assumption) | (with_reducible refine Below.alloc ?_ ?_ _) | (with_reducible refine below_drewN ?_ _) | (with_reducible refine Below.drew ?_) | (with_reducible refine Below.setCell ?_ ?_ _) | (with_reducible refine Below.trans ?_ (Below.mono (by with_reducible assumption) ?_)) | go_size))
    obtain ⟨kd6, kg6, _⟩ := bfacts B6.out
    go_wp2_with fail
    refine (k2.out _).mono ?_
    rintro e w7 ⟨rfl, hb7⟩
    obtain ⟨kc7, kf7, s7⟩ := bfacts hb7
    (try simp only [World.size_alloc, World.size_setCell, World.size_drew, World.heap_drewN, Nat.add_one_le_iff] at s7)
    (try have z7 : w.heap.size < w7.heap.size := by omega)
    have B7 : Hid (Below w.heap.size w w7) := by (show Below _ _ _); (repeat' (first | (with_reducible exact Below.refl _ _) | (with_reducible assumption) | (with_reducible refine Below.alloc ?_ ?_ _) | (with_reducible refine below_drewN ?_ _) | (with_reducible refine Below.drew ?_) | (with_reducible refine Below.setCell ?_ ?_ _) | (with_reducible refine Below.trans ?_ (Below.mono (by with_reducible assumption) ?_)) | go_size))
    obtain ⟨kd7, kg7, _⟩ := bfacts B7.out
    go_wp2_with fail
    refine (k5.out _).mono ?_
    rintro e w8 ⟨rfl, hb8⟩
    obtain ⟨kc8, kf8, s8⟩ := bfacts hb8
    (try simp only [World.size_alloc, World.size_setCell, World.size_drew, World.heap_drewN, Nat.add_one_le_iff] at s8)
    (try have z8 : w.heap.size < w8.heap.size := by omega)
    have B8 : Hid (Below w.heap.size w w8) := by (show Below _ _ _); (repeat' (first | (with_reducible exact Below.refl _ _) | (with_reducible assumption) | (with_reducible refine Below.alloc ?_ ?_ _) | (with_reducible refine below_drewN ?_ _) | (with_reducible refine Below.drew ?_) | (with_reducible refine Below.setCell ?_ ?_ _) | (with_reducible refine Below.trans ?_ (Below.mono (by with_reducible assumption) ?_)) | go_size))
    obtain ⟨kd8, kg8, _⟩ := bfacts B8.out
    go_wp2_with fail
    refine (k5'.out _).mono ?_
    rintro e w9 ⟨rfl, hb9⟩
    obtain ⟨kc9, kf9, s9⟩ := bfacts hb9
    (try simp only [World.size_alloc, World.size_setCell, World.size_drew, World.heap_drewN, Nat.add_one_le_iff] at s9)
    (try have z9 : w.heap.size < w9.heap.size := by omega)
    have B9 : Hid (Below w.heap.size w w9) := by (show Below _ _ _); (repeat' (first | (with_reducible exact Below.refl _ _) | (with_reducible assumption) | (with_reducible refine Below.alloc ?_ ?_ _) | (with_reducible refine below_drewN ?_ _) | (with_reducible refine Below.drew ?_) | (with_reducible refine Below.setCell ?_ ?_ _) | (with_reducible refine Below.trans ?_ (Below.mono (by with_reducible assumption) ?_)) | go_size))
    obtain ⟨kd9, kg9, _⟩ := bfacts B9.out
    go_wp2_with fail
    refine (k8.out _).mono ?_
    rintro e w10 ⟨rfl, hb10⟩
    obtain ⟨kc10, kf10, s10⟩ := bfacts hb10
    (try simp only [World.size_alloc, World.size_setCell, World.size_drew, World.heap_drewN, Nat.add_one_le_iff] at s10)
    (try have z10 : w.heap.size < w10.heap.size := by omega)
    have B10 : Hid (Below w.heap.size w w10) := by (show Below _ _ _); (repeat' (first | (with_reducible exact Below.refl _ _) | (with_reducible assumption) | (with_reducible refine Below.alloc ?_ ?_ _) | (with_reducible refine below_drewN ?_ _) | (with_reducible refine Below.drew ?_) | (with_reducible refine Below.setCell ?_ ?_ _) | (with_reducible refine Below.trans ?_ (Below.mono (by with_reducible assumption) ?_)) | go_size))
    obtain ⟨kd10, kg10, _⟩ := bfacts B10.out
    go_wp2_with fail
    refine (k1'.out _).mono ?_
    rintro e w11 ⟨rfl, hb11⟩
    obtain ⟨kc11, kf11, s11⟩ := bfacts hb11
    (try simp only [World.size_alloc, World.size_setCell, World.size_drew, World.heap_drewN, Nat.add_one_le_iff] at s11)
    (try have z11 : w.heap.size < w11.heap.size := by omega)
    have B11 : Hid (Below w.heap.size w w11) := by (show Below _ _ _); (repeat' (first | (with_reducible exact Below.refl _ _) | (with_reducible assumption) | (with_reducible refine Below.alloc ?_ ?_ _) | (with_reducible refine below_drewN ?_ _) | (with_reducible refine Below.drew ?_) | (with_reducible refine Below.setCell ?_ ?_ _) | (with_reducible refine Below.trans ?_ (Below.mono (by with_reducible assumption) ?_)) | go_size))
    obtain ⟨kd11, kg11, _⟩ := bfacts B11.out
    go_wp2_with fail
    refine (k11.out _).mono ?_
    rintro e w12 ⟨rfl, hb12⟩
    obtain ⟨kc12, kf12, s12⟩ := bfacts hb12
    (try simp only [World.size_alloc, World.size_setCell, World.size_drew, World.heap_drewN, Nat.add_one_le_iff] at s12)
    (try have z12 : w.heap.size < w12.heap.size := by omega)
    have B12 : Hid (Below w.heap.size w w12) := by (show Below _ _ _); (repeat' (first | (with_reducible exact Below.refl _ _) | (with_reducible assumption) | (with_reducible refine Below.alloc ?_ ?_ _) | (with_reducible refine below_drewN ?_ _) | (with_reducible refine Below.drew ?_) | (with_reducible refine Below.setCell ?_ ?_ _) | (with_reducible refine Below.trans ?_ (Below.mono (by with_reducible assumption) ?_)) | go_size))
    obtain ⟨kd12, kg12, _⟩ := bfacts B12.out
    go_wp2_with fail
    refine (k11'.out _).mono ?_
    rintro e w13 ⟨rfl, hb13⟩
    obtain ⟨kc13, kf13, s13⟩ := bfacts hb13
    (try simp only [World.size_alloc, World.size_setCell, World.size_drew, World.heap_drewN, Nat.add_one_le_iff] at s13)
    (try have z13 : w.heap.size < w13.heap.size := by omega)
    have B13 : Hid (Below w.heap.size w w13) := by (show Below _ _ _); (repeat' (first | (with_reducible exact Below.refl _ _) | (with_reducible assumption) | (with_reducible refine Below.alloc ?_ ?_ _) | (with_reducible refine below_drewN ?_ _) | (with_reducible refine Below.drew ?_) | (with_reducible refine Below.setCell ?_ ?_ _) | (with_reducible refine Below.trans ?_ (Below.mono (by with_reducible assumption) ?_)) | go_size))
    obtain ⟨kd13, kg13, _⟩ := bfacts B13.out
    go_wp2_with fail
    refine (k12.out _).mono ?_
    rintro e w14 ⟨rfl, hb14⟩
    obtain ⟨kc14, kf14, s14⟩ := bfacts hb14
    (try simp only [World.size_alloc, World.size_setCell, World.size_drew, World.heap_drewN, Nat.add_one_le_iff] at s14)
    (try have z14 : w.heap.size < w14.heap.size := by omega)
    have B14 : Hid (Below w.heap.size w w14) := by (show Below _ _ _); (repeat' (first | (with_reducible exact Below.refl _ _) | (with_reducible assumption) | (with_reducible refine Below.alloc ?_ ?_ _) | (with_reducible refine below_drewN ?_ _) | (with_reducible refine Below.drew ?_) | (with_reducible refine Below.setCell ?_ ?_ _) | (with_reducible refine Below.trans ?_ (Below.mono (by with_reducible assumption) ?_)) | go_size))
    obtain ⟨kd14, kg14, _⟩ := bfacts B14.out
    go_wp2_with fail
    refine (k3.out _).mono ?_
    rintro e w15 ⟨rfl, hb15⟩
    obtain ⟨kc15, kf15, s15⟩ := bfacts hb15
    (try simp only [World.size_alloc, World.size_setCell, World.size_drew, World.heap_drewN, Nat.add_one_le_iff] at s15)
    (try have z15 : w.heap.size < w15.heap.size := by omega)
    have B15 : Hid (Below w.heap.size w w15) := by (show Below _ _ _); (repeat' (first | (with_reducible exact Below.refl _ _) | (with_reducible assumption) | (with_reducible refine Below.alloc ?_ ?_ _) | (with_reducible refine below_drewN ?_ _) | (with_reducible refine Below.drew ?_) | (with_reducible refine Below.setCell ?_ ?_ _) | (with_reducible refine Below.trans ?_ (Below.mono (by with_reducible assumption) ?_)) | go_size))
    obtain ⟨kd15, kg15, _⟩ := bfacts B15.out
    go_wp2_with fail
    refine (k4.out _).mono ?_
    rintro e w16 ⟨rfl, hb16⟩
    obtain ⟨kc16, kf16, s16⟩ := bfacts hb16
    (try simp only [World.size_alloc, World.size_setCell, World.size_drew, World.heap_drewN, Nat.add_one_le_iff] at s16)
    (try have z16 : w.heap.size < w16.heap.size := by omega)
    have B16 : Hid (Below w.heap.size w w16) := by (show Below _ _ _); (repeat' (first | (with_reducible exact Below.refl _ _) | (with_reducible assumption) | (with_reducible refine Below.alloc ?_ ?_ _) | (with_reducible refine below_drewN ?_ _) | (with_reducible refine Below.drew ?_) | (with_reducible refine Below.setCell ?_ ?_ _) | (with_reducible refine Below.trans ?_ (Below.mono (by with_reducible assumption) ?_)) | go_size))
    obtain ⟨kd16, kg16, _⟩ := bfacts B16.out
    go_wp2_with fail
    refine (k1''.out _).mono ?_
    rintro e w17 ⟨rfl, hb17⟩
    obtain ⟨kc17, kf17, s17⟩ := bfacts hb17
    (try simp only [World.size_alloc, World.size_setCell, World.size_drew, World.heap_drewN, Nat.add_one_le_iff] at s17)
    (try have z17 : w.heap.size < w17.heap.size := by omega)
    have B17 : Hid (Below w.heap.size w w17) := by (show Below _ _ _); (repeat' (first | (with_reducible exact Below.refl _ _) | (with_reducible assumption) | (with_reducible refine Below.alloc ?_ ?_ _) | (with_reducible refine below_drewN ?_ _) | (with_reducible refine Below.drew ?_) | (with_reducible refine Below.setCell ?_ ?_ _) | (with_reducible refine Below.trans ?_ (Below.mono (by with_reducible assumption) ?_)) | go_size))
    obtain ⟨kd17, kg17, _⟩ := bfacts B17.out
    go_wp2_with fail
    refine (k1.out _).mono ?_
    rintro e w18 ⟨rfl, hb18⟩
    obtain ⟨kc18, kf18, s18⟩ := bfacts hb18
    (try simp only [World.size_alloc, World.size_setCell, World.size_drew, World.heap_drewN, Nat.add_one_le_iff] at s18)
    (try have z18 : w.heap.size < w18.heap.size := by omega)
    have B18 : Hid (Below w.heap.size w w18) := by (show Below _ _ _); (repeat' (first | (with_reducible exact Below.refl _ _) | (with_reducible assumption) | (with_reducible refine Below.alloc ?_ ?_ _) | (with_reducible refine below_drewN ?_ _) | (with_reducible refine Below.drew ?_) | (with_reducible refine Below.setCell ?_ ?_ _) | (with_reducible refine Below.trans ?_ (Below.mono (by with_reducible assumption) ?_)) | go_size))
    obtain ⟨kd18, kg18, _⟩ := bfacts B18.out
    go_wp2_with fail
    go_ret
    exact ⟨rfl, by (repeat' (first | (with_reducible exact Below.refl _ _) | (with_reducible assumption) | (with_reducible refine Below.alloc ?_ ?_ _) | (with_reducible refine below_drewN ?_ _) | (with_reducible refine Below.drew ?_) | (with_reducible refine Below.setCell ?_ ?_ _) | (with_reducible refine Below.trans ?_ (Below.mono (by with_reducible assumption) ?_)) | go_size))⟩
  · have g0 : (b == 0) = false := by simpa using h0
    have h6 := E6.out h0
    rw [h6] at k11''
    have H0 := Lib.hid h0
    clear h0 E6 h6
    go_enter Tryd.func4, Tryd.ntmps4
    go_wp2_with fail
    refine (alive1_any _ HV.out).mono ?_
    rintro e w1 ⟨rfl, hb1⟩
    obtain ⟨kc1, kf1, s1⟩ := bfacts hb1
    (try simp only [World.size_alloc, World.size_setCell, World.size_drew, World.heap_drewN, Nat.add_one_le_iff] at s1)
    (try have z1 : w.heap.size < w1.heap.size := by omega)
    have B1 : Hid (Below w.heap.size w w1) := by (show Below _ _ _); (repeat' (first | (with_reducible exact Below.refl _ _) | (with_reducible assumption) | (with_reducible refine Below.alloc ?_ ?_ _) | (with_reducible refine below_drewN ?_ _) | (with_reducible refine Below.drew ?_) | (with_reducible refine Below.setCell ?_ ?_ _) | (with_reducible refine Below.trans ?_ (Below.mono (by with_reducible assumption) ?_)) | go_size))
    obtain ⟨kd1, kg1, _⟩ := bfacts B1.out
    go_wp2_with fail
    refine (ca.out _).mono ?_
    rintro e w2 ⟨rfl, hb2⟩
    obtain ⟨kc2, kf2, s2⟩ := bfacts hb2
    (try simp only [World.size_alloc, World.size_setCell, World.size_drew, World.heap_drewN, Nat.add_one_le_iff] at s2)
    (try have z2 : w.heap.size < w2.heap.size := by omega)
    have B2 : Hid (Below w.heap.size w w2) := by (show Below _ _ _); (repeat' (first | (with_reducible exact Below.refl _ _) | (with_reducible assumption) | (with_reducible refine Below.alloc ?_ ?_ _) | (with_reducible refine below_drewN ?_ _) | (with_reducible refine Below.drew ?_) | (with_reducible refine Below.setCell ?_ ?_ _) | (with_reducible refine Below.trans ?_ (Below.mono (by with_reducible assumption) ?_)) | go_size))
    obtain ⟨kd2, kg2, _⟩ := bfacts B2.out
    go_wp2_with fail
    refine (cb.out _).mono ?_
    rintro e w3 ⟨rfl, hb3⟩
    obtain ⟨kc3, kf3, s3⟩ := bfacts hb3
    (try simp only [World.size_alloc, World.size_setCell, World.size_drew, World.heap_drewN, Nat.add_one_le_iff] at s3)
    (try have z3 : w.heap.size < w3.heap.size := by omega)
    have B3 : Hid (Below w.heap.size w w3) := by (show Below _ _ _); (repeat' (first | (with_reducible exact Below.refl _ _) | (with_reducible assumption) | (with_reducible refine Below.alloc ?_ ?_ _) | (with_reducible refine below_drewN ?_ _) | (with_reducible refine Below.drew ?_) | (with_reducible refine Below.setCell ?_ ?_ _) | (with_reducible refine Below.trans ?_ (Below.mono (by with_reducible assumption) ?_)) | go_size))
    obtain ⟨kd3, kg3, _⟩ := bfacts B3.out
    go_wp2_with fail
    refine (k9.out _).mono ?_
    rintro e w4 ⟨rfl, hb4⟩
    obtain ⟨kc4, kf4, s4⟩ := bfacts hb4
    (try simp only [World.size_alloc, World.size_setCell, World.size_drew, World.heap_drewN, Nat.add_one_le_iff] at s4)
    (try have z4 : w.heap.size < w4.heap.size := by omega)
    have B4 : Hid (Below w.heap.size w w4) := by (show Below _ _ _); (repeat' (first | (with_reducible exact Below.refl _ _) | (with_reducible assumption) | (with_reducible refine Below.alloc ?_ ?_ _) | (with_reducible refine below_drewN ?_ _) | (with_reducible refine Below.drew ?_) | (with_reducible refine Below.setCell ?_ ?_ _) | (with_reducible refine Below.trans ?_ (Below.mono (by with_reducible assumption) ?_)) | go_size))
    obtain ⟨kd4, kg4, _⟩ := bfacts B4.out
    go_wp2_with fail
    refine (k10.out _).mono ?_
    rintro e w5 ⟨rfl, hb5⟩
    obtain ⟨kc5, kf5, s5⟩ := bfacts hb5
    (try simp only [World.size_alloc, World.size_setCell, World.size_drew, World.heap_drewN, Nat.add_one_le_iff] at s5)
    (try have z5 : w.heap.size < w5.heap.size := by omega)
    have B5 : Hid (Below w.heap.size w w5) := by (show Below _ _ _); (repeat' (first | (with_reducible exact Below.refl _ _) | (with_reducible assumption) | (with_reducible refine Below.alloc ?_ ?_ _) | (with_reducible refine below_drewN ?_ _) | (with_reducible refine Below.drew ?_) | (with_reducible refine Below.setCell ?_ ?_ _) | (with_reducible refine Below.trans ?_ (Below.mono (by with_reducible assumption) ?_)) | go_size))
    obtain ⟨kd5, kg5, _⟩ := bfacts B5.out
    go_wp2_with fail
    refine (k1.out _).mono ?_
    rintro e w6 ⟨rfl, hb6⟩
    obtain ⟨kc6, kf6, s6⟩ := bfacts hb6
    (try simp only [World.size_alloc, World.size_setCell, World.size_drew, World.heap_drewN, Nat.add_one_le_iff] at s6)
    (try have z6 : w.heap.size < w6.heap.size := by omega)
    have B6 : Hid (Below w.heap.size w w6) := by (show Below _ _ _); (repeat' (first | (with_reducible exact Below.refl _ _) | (with_reducible assumption) | (with_reducible refine Below.alloc ?_ ?_ _) | (with_reducible refine below_drewN ?_ _) | (with_reducible refine Below.drew ?_) | (with_reducible refine Below.setCell ?_ ?_ _) | (with_reducible refine Below.trans ?_ (Below.mono (by with_reducible assumption) ?_)) | go_size))
    obtain ⟨kd6, kg6, _⟩ := bfacts B6.out
    go_wp2_with fail
    refine (k2.out _).mono ?_
    rintro e w7 ⟨rfl, hb7⟩
    obtain ⟨kc7, kf7, s7⟩ := bfacts hb7
    (try simp only [World.size_alloc, World.size_setCell, World.size_drew, World.heap_drewN, Nat.add_one_le_iff] at s7)
    (try have z7 : w.heap.size < w7.heap.size := by omega)
    have B7 : Hid (Below w.heap.size w w7) := by (show Below _ _ _); (repeat' (first | (with_reducible exact Below.refl _ _) | (with_reducible assumption) | (with_reducible refine Below.alloc ?_ ?_ _) | (with_reducible refine below_drewN ?_ _) | (with_reducible refine Below.drew ?_) | (with_reducible refine Below.setCell ?_ ?_ _) | (with_reducible refine Below.trans ?_ (Below.mono (by with_reducible assumption) ?_)) | go_size))
    obtain ⟨kd7, kg7, _⟩ := bfacts B7.out
    go_wp2_with fail
    refine (k5.out _).mono ?_
    rintro e w8 ⟨rfl, hb8⟩
    obtain ⟨kc8, kf8, s8⟩ := bfacts hb8
    (try simp only [World.size_alloc, World.size_setCell, World.size_drew, World.heap_drewN, Nat.add_one_le_iff] at s8)
    (try have z8 : w.heap.size < w8.heap.size := by omega)
    have B8 : Hid (Below w.heap.size w w8) := by (show Below _ _ _); (repeat' (first | (with_reducible exact Below.refl _ _) | (with_reducible assumption) | (with_reducible refine Below.alloc ?_ ?_ _) | (with_reducible refine below_drewN ?_ _) | (with_reducible refine Below.drew ?_) | (with_reducible refine Below.setCell ?_ ?_ _) | (with_reducible refine Below.trans ?_ (Below.mono (by with_reducible assumption) ?_)) | go_size))
    obtain ⟨kd8, kg8, _⟩ := bfacts B8.out
    go_wp2_with fail
    refine (k5'.out _).mono ?_
    rintro e w9 ⟨rfl, hb9⟩
    obtain ⟨kc9, kf9, s9⟩ := bfacts hb9
    (try simp only [World.size_alloc, World.size_setCell, World.size_drew, World.heap_drewN, Nat.add_one_le_iff] at s9)
    (try have z9 : w.heap.size < w9.heap.size := by omega)
    have B9 : Hid (Below w.heap.size w w9) := by (show Below _ _ _); (repeat' (first | (with_reducible exact Below.refl _ _) | (with_reducible assumption) | (with_reducible refine Below.alloc ?_ ?_ _) | (with_reducible refine below_drewN ?_ _) | (with_reducible refine Below.drew ?_) | (with_reducible refine Below.setCell ?_ ?_ _) | (with_reducible refine Below.trans ?_ (Below.mono (by with_reducible assumption) ?_)) | go_size))
    obtain ⟨kd9, kg9, _⟩ := bfacts B9.out
    go_wp2_with fail
    refine (k8.out _).mono ?_
    rintro e w10 ⟨rfl, hb10⟩
    obtain ⟨kc10, kf10, s10⟩ := bfacts hb10
    (try simp only [World.size_alloc, World.size_setCell, World.size_drew, World.heap_drewN, Nat.add_one_le_iff] at s10)
    (try have z10 : w.heap.size < w10.heap.size := by omega)
    have B10 : Hid (Below w.heap.size w w10) := by (show Below _ _ _); (repeat' (first | (with_reducible exact Below.refl _ _) | (with_reducible assumption) | (with_reducible refine Below.alloc ?_ ?_ _) | (with_reducible refine below_drewN ?_ _) | (with_reducible refine Below.drew ?_) | (with_reducible refine Below.setCell ?_ ?_ _) | (with_reducible refine Below.trans ?_ (Below.mono (by with_reducible assumption) ?_)) | go_size))
    obtain ⟨kd10, kg10, _⟩ := bfacts B10.out
    go_wp2_with fail
    refine (k1'.out _).mono ?_
    rintro e w11 ⟨rfl, hb11⟩
    obtain ⟨kc11, kf11, s11⟩ := bfacts hb11
    (try simp only [World.size_alloc, World.size_setCell, World.size_drew, World.heap_drewN, Nat.add_one_le_iff] at s11)
    (try have z11 : w.heap.size < w11.heap.size := by omega)
    have B11 : Hid (Below w.heap.size w w11) := by (show Below _ _ _); (repeat' (first | (with_reducible exact Below.refl _ _) | (with_reducible assumption) | (with_reducible refine Below.alloc ?_ ?_ _) | (with_reducible refine below_drewN ?_ _) | (with_reducible refine Below.drew ?_) | (with_reducible refine Below.setCell ?_ ?_ _) | (with_reducible refine Below.trans ?_ (Below.mono (by with_reducible assumption) ?_)) | go_size))
    obtain ⟨kd11, kg11, _⟩ := bfacts B11.out
    go_wp2_with fail
    refine (k11.out _).mono ?_
    rintro e w12 ⟨rfl, hb12⟩
    obtain ⟨kc12, kf12, s12⟩ := bfacts hb12
    (try simp only [World.size_alloc, World.size_setCell, World.size_drew, World.heap_drewN, Nat.add_one_le_iff] at s12)
    (try have z12 : w.heap.size < w12.heap.size := by omega)
    have B12 : Hid (Below w.heap.size w w12) := by (show Below _ _ _); (repeat' (first | (with_reducible exact Below.refl _ _) | (with_reducible assumption) | (with_reducible refine Below.alloc ?_ ?_ _) | (with_reducible refine below_drewN ?_ _) | (with_reducible refine Below.drew ?_) | (with_reducible refine Below.setCell ?_ ?_ _) | (with_reducible refine Below.trans ?_ (Below.mono (by with_reducible assumption) ?_)) | go_size))
    obtain ⟨kd12, kg12, _⟩ := bfacts B12.out
    go_wp2_with fail
    refine (k11'.out _).mono ?_
    rintro e w13 ⟨rfl, hb13⟩
    obtain ⟨kc13, kf13, s13⟩ := bfacts hb13
    (try simp only [World.size_alloc, World.size_setCell, World.size_drew, World.heap_drewN, Nat.add_one_le_iff] at s13)
    (try have z13 : w.heap.size < w13.heap.size := by omega)
    have B13 : Hid (Below w.heap.size w w13) := by (show Below _ _ _); (repeat' (first | (with_reducible exact Below.refl _ _) | (with_reducible assumption) | (with_reducible refine Below.alloc ?_ ?_ _) | (with_reducible refine below_drewN ?_ _) | (with_reducible refine Below.drew ?_) | (with_reducible refine Below.setCell ?_ ?_ _) | (with_reducible refine Below.trans ?_ (Below.mono (by with_reducible assumption) ?_)) | go_size))
    obtain ⟨kd13, kg13, _⟩ := bfacts B13.out
    go_wp2_with fail
    refine (k12.out _).mono ?_
    rintro e w14 ⟨rfl, hb14⟩
    obtain ⟨kc14, kf14, s14⟩ := bfacts hb14
    (try simp only [World.size_alloc, World.size_setCell, World.size_drew, World.heap_drewN, Nat.add_one_le_iff] at s14)
    (try have z14 : w.heap.size < w14.heap.size := by omega)
    have B14 : Hid (Below w.heap.size w w14) := by (show Below _ _ _); (repeat' (first | (with_reducible exact Below.refl _ _) | (with_reducible assumption) | (with_reducible refine Below.alloc ?_ ?_ _) | (with_reducible refine below_drewN ?_ _) | (with_reducible refine Below.drew ?_) | (with_reducible refine Below.setCell ?_ ?_ _) | (with_reducible refine Below.trans ?_ (Below.mono (by with_reducible assumption) ?_)) | go_size))
    obtain ⟨kd14, kg14, _⟩ := bfacts B14.out
    go_wp2_with fail
    refine (k3.out _).mono ?_
    rintro e w15 ⟨rfl, hb15⟩
    obtain ⟨kc15, kf15, s15⟩ := bfacts hb15
    (try simp only [World.size_alloc, World.size_setCell, World.size_drew, World.heap_drewN, Nat.add_one_le_iff] at s15)
    (try have z15 : w.heap.size < w15.heap.size := by omega)
    have B15 : Hid (Below w.heap.size w w15) := by (show Below _ _ _); (repeat' (first | (with_reducible exact Below.refl _ _) | (with_reducible assumption) | (with_reducible refine Below.alloc ?_ ?_ _) | (with_reducible refine below_drewN ?_ _) | (with_reducible refine Below.drew ?_) | (with_reducible refine Below.setCell ?_ ?_ _) | (with_reducible refine Below.trans ?_ (Below.mono (by with_reducible assumption) ?_)) | go_size))
    obtain ⟨kd15, kg15, _⟩ := bfacts B15.out
    go_wp2_with fail
    refine (k4.out _).mono ?_
    rintro e w16 ⟨rfl, hb16⟩
    obtain ⟨kc16, kf16, s16⟩ := bfacts hb16
    (try simp only [World.size_alloc, World.size_setCell, World.size_drew, World.heap_drewN, Nat.add_one_le_iff] at s16)
    (try have z16 : w.heap.size < w16.heap.size := by omega)
    have B16 : Hid (Below w.heap.size w w16) := by (show Below _ _ _); (repeat' (first | (with_reducible exact Below.refl _ _) | (with_reducible assumption) | (with_reducible refine Below.alloc ?_ ?_ _) | (with_reducible refine below_drewN ?_ _) | (with_reducible refine Below.drew ?_) | (with_reducible refine Below.setCell ?_ ?_ _) | (with_reducible refine Below.trans ?_ (Below.mono (by with_reducible assumption) ?_)) | go_size))
    obtain ⟨kd16, kg16, _⟩ := bfacts B16.out
    go_wp2_with fail
    refine (k1''.out _).mono ?_
    rintro e w17 ⟨rfl, hb17⟩
    obtain ⟨kc17, kf17, s17⟩ := bfacts hb17
    (try simp only [World.size_alloc, World.size_setCell, World.size_drew, World.heap_drewN, Nat.add_one_le_iff] at s17)
    (try have z17 : w.heap.size < w17.heap.size := by omega)
    have B17 : Hid (Below w.heap.size w w17) := by (show Below _ _ _); (repeat' (first | (with_reducible exact Below.refl _ _) | (with_reducible assumption) | (with_reducible refine Below.alloc ?_ ?_ _) | (with_reducible refine below_drewN ?_ _) | (with_reducible refine Below.drew ?_) | (with_reducible refine Below.setCell ?_ ?_ _) | (with_reducible refine Below.trans ?_ (Below.mono (by with_reducible assumption) ?_)) | go_size))
    obtain ⟨kd17, kg17, _⟩ := bfacts B17.out
    go_wp2_with fail
    refine (k1.out _).mono ?_
    rintro e w18 ⟨rfl, hb18⟩
    obtain ⟨kc18, kf18, s18⟩ := bfacts hb18
    (try simp only [World.size_alloc, World.size_setCell, World.size_drew, World.heap_drewN, Nat.add_one_le_iff] at s18)
    (try have z18 : w.heap.size < w18.heap.size := by omega)
    have B18 : Hid (Below w.heap.size w w18) := by (show Below _ _ _); (repeat' (first | (with_reducible exact Below.refl _ _) | (with_reducible assumption) | (with_reducible refine Below.alloc ?_ ?_ _) | (with_reducible refine below_drewN ?_ _) | (with_reducible refine Below.drew ?_) | (with_reducible refine Below.setCell ?_ ?_ _) | (with_reducible refine Below.trans ?_ (Below.mono (by with_reducible assumption) ?_)) | go_size))
    obtain ⟨kd18, kg18, _⟩ := bfacts B18.out
    go_wp2_with fail
    refine (k11''.out _).mono ?_
    rintro e w19 ⟨rfl, hb19⟩
    obtain ⟨kc19, kf19, s19⟩ := bfacts hb19
    (try simp only [World.size_alloc, World.size_setCell, World.size_drew, World.heap_drewN, Nat.add_one_le_iff] at s19)
    (try have z19 : w.heap.size < w19.heap.size := by omega)
    have B19 : Hid (Below w.heap.size w w19) := by (show Below _ _ _); (repeat' (first | (with_reducible exact Below.refl _ _) | (with_reducible assumption) | (with_reducible refine Below.alloc ?_ ?_ _) | (with_reducible refine below_drewN ?_ _) | (with_reducible refine Below.drew ?_) | (with_reducible refine Below.setCell ?_ ?_ _) | (with_reducible refine Below.trans ?_ (Below.mono (by with_reducible assumption) ?_)) | go_size))
    obtain ⟨kd19, kg19, _⟩ := bfacts B19.out
    go_wp2_with fail
    go_ret
    exact ⟨rfl, by (repeat' (first | (with_reducible exact Below.refl _ _) | (with_reducible assumption) | (with_reducible refine Below.alloc ?_ ?_ _) | (with_reducible refine below_drewN ?_ _) | (with_reducible refine Below.drew ?_) | (with_reducible refine Below.setCell ?_ ?_ _) | (with_reducible refine Below.trans ?_ (Below.mono (by with_reducible assumption) ?_)) | go_size))⟩
end Go.Proofs.YtmonjjfeknmnfaaDoor
