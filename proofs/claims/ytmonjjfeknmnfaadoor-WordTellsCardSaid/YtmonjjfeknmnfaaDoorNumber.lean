import Derived.Test.YtmonjjfeknmnfaaDoorWordFns
import Derived.Test.YtmonjjfeknmnfaaDoorChain
import Derived.Test.YtmonjjfeknmnfaaDoorShelf
import Derived.Lib.SmallJoins
import Derived.Outline
/- Chapter 1: which texts are words. -/
namespace Go.Proofs.YtmonjjfeknmnfaaDoor
open Go.RowKit
set_option linter.unusedSimpArgs false
set_option linter.unusedVariables false
/-- what strconv's variables hold -/
structure Vars (w : World) : Prop where
  tab : Lib.TabIs Tryd.prog w "internal/strconv.uint64pow10" .u64 Lib.pow10Tab
  syn : ∃ tp p, w.var? Tryd.prog "strconv.ErrSyntax" = some #[.iface tp p]
  rng : ∃ tp p, w.var? Tryd.prog "strconv.ErrRange" = some #[.iface tp p]
theorem gTab : Tryd.prog.globalNamed "internal/strconv.uint64pow10" = some 2 := by kernel_rfl
theorem gSyn : Tryd.prog.globalNamed "strconv.ErrSyntax" = some 0 := by kernel_rfl
theorem gRng : Tryd.prog.globalNamed "strconv.ErrRange" = some 1 := by kernel_rfl
theorem Vars.stays {w w' : World} (h : Vars w) (hb : Below w.heap.size w w') : Vars w' := by
  obtain ⟨h1, ⟨tp, p, h2⟩, tp', p', h3⟩ := h
  exact ⟨Joins.var_stays gTab h1 hb (Nat.le_refl _), ⟨tp, p, Joins.var_stays gSyn h2 hb (Nat.le_refl _)⟩, ⟨tp', p', Joins.var_stays gRng h3 hb (Nat.le_refl _)⟩⟩

/-- Atoi: the number, and is it one -/
def atoiV (s : ByteArray) : Int := match Lib.atoiAll s.data.toList with | .ok v => v | .range => Lib.atoiSat s.data.toList | _ => 0
def atoiB (s : ByteArray) : Bool := match Lib.atoiAll s.data.toList with | .ok _ => true | _ => false
theorem atoiV_in (s : ByteArray) : -9223372036854775808 ≤ atoiV s ∧ atoiV s ≤ 9223372036854775807 := by
  unfold atoiV
  split
  · rename_i v h; exact Lib.atoiAll_bounds h
  · exact Lib.atoiSat_bounds _
  · omega
theorem atoi_yes (s : ByteArray) (w : World) (hs : s.size ≤ 281474976710656) (h : atoiB s = true) :
    Calls Tryd.prog 14 #[.string s] w fun e w' => e = .returned (.tuple #[.int .i64 (atoiV s), .nilIface]) ∧ Below w.heap.size w w' := by
  unfold atoiB at h
  unfold atoiV
  rcases h1 : Lib.atoiAll s.data.toList with v | _ | _
  · refine (Any.strconv_Atoi_ok Tryd.laysC172 s (by omega) v h1 w).mono fun e w' ⟨he, hw⟩ => ⟨he, ?_⟩
    rcases hw with rfl | ⟨t, rfl⟩
    · exact Below.refl _ _
    · exact Joins.below_bytesWorld _ _ _ _ (Nat.le_refl _)
  · rw [h1] at h; cases h
  · rw [h1] at h; cases h
theorem atoi_no (s : ByteArray) (w : World) (hs : s.size ≤ 281474976710656) (hv : Vars w) (h : atoiB s = false) :
    Calls Tryd.prog 14 #[.string s] w fun e w' => ∃ N, e = .returned (.tuple #[.int .i64 (atoiV s), .iface 45 (.pointer (some ⟨N, 0, none⟩))]) ∧ Below w.heap.size w w' := by
  obtain ⟨h1, ⟨tp, p, h2⟩, tp', p', h3⟩ := hv
  unfold atoiB at h
  unfold atoiV
  rcases h4 : Lib.atoiAll s.data.toList with v | _ | _
  · rw [h4] at h; cases h
  · exact (Any.strconv_Atoi_syntax_var Tryd.laysC172 s hs h4 tp p w h2).mono fun e w' ⟨N, he, _, _, hb⟩ => ⟨N, he, hb⟩
  · exact (Any.strconv_Atoi_range_var Tryd.laysC172 s hs h4 tp' p' w h3).mono fun e w' ⟨N, he, _, _, hb⟩ => ⟨N, he, hb⟩
theorem below_grown (B : Nat) (w : World) (hB : B ≤ w.heap.size) (k : Nat) (os : Array Obj) : Below B w (Sort.grow (w.drewN k) os) :=
  ⟨rfl, rfl, rfl, by show w.heap.size ≤ (w.heap ++ os).size; rw [Array.size_append]; omega, fun j hj => by
    show (w.heap ++ os)[j]? = _
    rw [Array.getElem?_append_left (by omega)]⟩
theorem itoa_any (n : Int) (w : World) (h : -9223372036854775808 ≤ n ∧ n ≤ 9223372036854775807) (hv : Vars w) :
    Calls Tryd.prog 15 #[.int .i64 n] w fun e w' => e = .returned (.string ⟨(Lib.itoa n).toArray⟩) ∧ Below w.heap.size w w' :=
  (Any.strconv_Itoa Tryd.laysM171 n h.1 h.2 w hv.tab).mono fun e w' ⟨he, k, os, hw⟩ => ⟨he, by subst hw; exact below_grown _ _ (Nat.le_refl _) _ _⟩

/-- is it a text's word? -/
def numB (s : ByteArray) : Bool := atoiB s && (Lib.itoa (atoiV s) == s.toList) && Ev.isWord (atoiV s)
set_option maxHeartbeats 1600000 in
theorem number_any (s : ByteArray) (w : World) (hs : s.size ≤ 281474976710656) (hv : Vars w) :
    Calls Tryd.prog 7 #[.string s] w fun e w' => e = .returned (.tuple #[.int .i64 (atoiV s), .bool (numB s)]) ∧ Below w.heap.size w w' := by
  have HV := Lib.hid hv
  have HN := Lib.hid (show numB s = (atoiB s && (Lib.itoa (atoiV s) == s.toList) && Ev.isWord (atoiV s)) from rfl)
  have HI := Lib.hid (atoiV_in s)
  clear hv
  cases hb : atoiB s
  · have h1 := fun w hv => atoi_no s w hs hv hb
    generalize atoiV s = n at *
    generalize numB s = nb at *
    have HB := Lib.hid hb
    clear hb
    go_enter Tryd.func7, Tryd.ntmps7
    go_wp2_with fail
    refine (h1 _ HV.out).mono ?_
    rintro e w1 ⟨N, rfl, hb1⟩
    obtain ⟨kc1, kf1, s1⟩ := bfacts hb1
    (try simp only [World.size_alloc, World.size_setCell, World.size_drew, World.heap_drewN, Nat.add_one_le_iff] at s1)
    (try have z1 : w.heap.size < w1.heap.size := by omega)
    have B1 : Hid (Below w.heap.size w w1) := by (show Below _ _ _); (repeat' (first | (with_reducible exact Below.refl _ _) | (with_reducible assumption) | (with_reducible refine Below.alloc ?_ ?_ _) | (with_reducible refine below_drewN ?_ _) | (with_reducible refine Below.drew ?_) | (with_reducible refine Below.setCell ?_ ?_ _) | (with_reducible refine Below.trans ?_ (Below.mono (by with_reducible assumption) ?_)) | go_size))
    obtain ⟨kd1, kg1, _⟩ := bfacts B1.out
    go_wp2_with fail
    go_ret2
    exact ⟨by rw [HN.out, HB.out]; rfl, by (repeat' (first | (with_reducible exact Below.refl _ _) | (with_reducible assumption) | (with_reducible refine Below.alloc ?_ ?_ _) | (with_reducible refine below_drewN ?_ _) | (with_reducible refine Below.drew ?_) | (with_reducible refine Below.setCell ?_ ?_ _) | (with_reducible refine Below.trans ?_ (Below.mono (by with_reducible assumption) ?_)) | go_size))⟩
  · have h1 := fun w => atoi_yes s w hs hb
    generalize atoiV s = n at *
    generalize numB s = nb at *
    have HB := Lib.hid hb
    clear hb
    go_enter Tryd.func7, Tryd.ntmps7
    go_wp2_with fail
    refine (h1 _).mono ?_
    rintro e w1 ⟨rfl, hb1⟩
    obtain ⟨kc1, kf1, s1⟩ := bfacts hb1
    (try simp only [World.size_alloc, World.size_setCell, World.size_drew, World.heap_drewN, Nat.add_one_le_iff] at s1)
    (try have z1 : w.heap.size < w1.heap.size := by omega)
    have B1 : Hid (Below w.heap.size w w1) := by (show Below _ _ _); (repeat' (first | (with_reducible exact Below.refl _ _) | (with_reducible assumption) | (with_reducible refine Below.alloc ?_ ?_ _) | (with_reducible refine below_drewN ?_ _) | (with_reducible refine Below.drew ?_) | (with_reducible refine Below.setCell ?_ ?_ _) | (with_reducible refine Below.trans ?_ (Below.mono (by with_reducible assumption) ?_)) | go_size))
    obtain ⟨kd1, kg1, _⟩ := bfacts B1.out
    go_wp2_with fail
    refine (itoa_any n _ HI.out (HV.out.stays B1.out)).mono ?_
    rintro e w2 ⟨rfl, hb2⟩
    obtain ⟨kc2, kf2, s2⟩ := bfacts hb2
    (try simp only [World.size_alloc, World.size_setCell, World.size_drew, World.heap_drewN, Nat.add_one_le_iff] at s2)
    (try have z2 : w.heap.size < w2.heap.size := by omega)
    have B2 : Hid (Below w.heap.size w w2) := by (show Below _ _ _); (repeat' (first | (with_reducible exact Below.refl _ _) | (with_reducible assumption) | (with_reducible refine Below.alloc ?_ ?_ _) | (with_reducible refine below_drewN ?_ _) | (with_reducible refine Below.drew ?_) | (with_reducible refine Below.setCell ?_ ?_ _) | (with_reducible refine Below.trans ?_ (Below.mono (by with_reducible assumption) ?_)) | go_size))
    obtain ⟨kd2, kg2, _⟩ := bfacts B2.out
    go_wp2_with fail
    · have he : (Lib.itoa n == s.toList) = true := by rw [beq_iff_eq]; assumption
      refine (isWord_any n _).mono ?_
      rintro e w3 ⟨rfl, hb3⟩
      obtain ⟨kc3, kf3, s3⟩ := bfacts hb3
      (try simp only [World.size_alloc, World.size_setCell, World.size_drew, World.heap_drewN, Nat.add_one_le_iff] at s3)
      (try have z3 : w.heap.size < w3.heap.size := by omega)
      have B3 : Hid (Below w.heap.size w w3) := by (show Below _ _ _); (repeat' (first | (with_reducible exact Below.refl _ _) | (with_reducible assumption) | (with_reducible refine Below.alloc ?_ ?_ _) | (with_reducible refine below_drewN ?_ _) | (with_reducible refine Below.drew ?_) | (with_reducible refine Below.setCell ?_ ?_ _) | (with_reducible refine Below.trans ?_ (Below.mono (by with_reducible assumption) ?_)) | go_size))
      obtain ⟨kd3, kg3, _⟩ := bfacts B3.out
      go_wp2_with fail
      go_ret2
      exact ⟨by rw [HN.out, HB.out, he]; rfl, by (repeat' (first | (with_reducible exact Below.refl _ _) | (with_reducible assumption) | (with_reducible refine Below.alloc ?_ ?_ _) | (with_reducible refine below_drewN ?_ _) | (with_reducible refine Below.drew ?_) | (with_reducible refine Below.setCell ?_ ?_ _) | (with_reducible refine Below.trans ?_ (Below.mono (by with_reducible assumption) ?_)) | go_size))⟩
    · have he : (Lib.itoa n == s.toList) = false := by rw [beq_eq_false_iff_ne]; assumption
      go_ret2
      exact ⟨by rw [HN.out, HB.out, he]; rfl, by (repeat' (first | (with_reducible exact Below.refl _ _) | (with_reducible assumption) | (with_reducible refine Below.alloc ?_ ?_ _) | (with_reducible refine below_drewN ?_ _) | (with_reducible refine Below.drew ?_) | (with_reducible refine Below.setCell ?_ ?_ _) | (with_reducible refine Below.trans ?_ (Below.mono (by with_reducible assumption) ?_)) | go_size))⟩

set_option maxHeartbeats 1600000 in
theorem refNumber_any (s : ByteArray) (w : World) (hs : s.size ≤ 281474976710656) (hv : Vars w) :
    Calls Tryd.prog 8 #[.string s] w fun e w' => e = .returned (.tuple #[.int .i64 (atoiV s), .bool (numB s)]) ∧ Below w.heap.size w w' := by
  have HV := Lib.hid hv
  have HN := Lib.hid (show numB s = (atoiB s && (Lib.itoa (atoiV s) == s.toList) && Ev.isWord (atoiV s)) from rfl)
  have HI := Lib.hid (atoiV_in s)
  clear hv
  cases hb : atoiB s
  · have h1 := fun w hv => atoi_no s w hs hv hb
    generalize atoiV s = n at *
    generalize numB s = nb at *
    have HB := Lib.hid hb
    clear hb
    go_enter Tryd.func8, Tryd.ntmps8
    go_wp2_with fail
    refine (h1 _ HV.out).mono ?_
    rintro e w1 ⟨N, rfl, hb1⟩
    obtain ⟨kc1, kf1, s1⟩ := bfacts hb1
    (try simp only [World.size_alloc, World.size_setCell, World.size_drew, World.heap_drewN, Nat.add_one_le_iff] at s1)
    (try have z1 : w.heap.size < w1.heap.size := by omega)
    have B1 : Hid (Below w.heap.size w w1) := by (show Below _ _ _); (repeat' (first | (with_reducible exact Below.refl _ _) | (with_reducible assumption) | (with_reducible refine Below.alloc ?_ ?_ _) | (with_reducible refine below_drewN ?_ _) | (with_reducible refine Below.drew ?_) | (with_reducible refine Below.setCell ?_ ?_ _) | (with_reducible refine Below.trans ?_ (Below.mono (by with_reducible assumption) ?_)) | go_size))
    obtain ⟨kd1, kg1, _⟩ := bfacts B1.out
    go_wp2_with fail
    go_ret2
    exact ⟨by rw [HN.out, HB.out]; rfl, by (repeat' (first | (with_reducible exact Below.refl _ _) | (with_reducible assumption) | (with_reducible refine Below.alloc ?_ ?_ _) | (with_reducible refine below_drewN ?_ _) | (with_reducible refine Below.drew ?_) | (with_reducible refine Below.setCell ?_ ?_ _) | (with_reducible refine Below.trans ?_ (Below.mono (by with_reducible assumption) ?_)) | go_size))⟩
  · have h1 := fun w => atoi_yes s w hs hb
    generalize atoiV s = n at *
    generalize numB s = nb at *
    have HB := Lib.hid hb
    clear hb
    by_cases h0 : 0 ≤ n
    · by_cases h2 : n ≤ 4294967295
      · have hw : Ev.isWord n = true := by simp [Ev.isWord, h0, h2]
        have HW := Lib.hid hw
        clear hw
        go_enter Tryd.func8, Tryd.ntmps8
        go_wp2_with fail
        refine (h1 _).mono ?_
        rintro e w1 ⟨rfl, hb1⟩
        obtain ⟨kc1, kf1, s1⟩ := bfacts hb1
        (try simp only [World.size_alloc, World.size_setCell, World.size_drew, World.heap_drewN, Nat.add_one_le_iff] at s1)
        (try have z1 : w.heap.size < w1.heap.size := by omega)
        have B1 : Hid (Below w.heap.size w w1) := by (show Below _ _ _); (repeat' (first | (with_reducible exact Below.refl _ _) | (with_reducible assumption) | (with_reducible refine Below.alloc ?_ ?_ _) | (with_reducible refine below_drewN ?_ _) | (with_reducible refine Below.drew ?_) | (with_reducible refine Below.setCell ?_ ?_ _) | (with_reducible refine Below.trans ?_ (Below.mono (by with_reducible assumption) ?_)) | go_size))
        obtain ⟨kd1, kg1, _⟩ := bfacts B1.out
        go_wp2_with fail
        refine (itoa_any n _ HI.out (HV.out.stays B1.out)).mono ?_
        rintro e w2 ⟨rfl, hb2⟩
        obtain ⟨kc2, kf2, s2⟩ := bfacts hb2
        (try simp only [World.size_alloc, World.size_setCell, World.size_drew, World.heap_drewN, Nat.add_one_le_iff] at s2)
        (try have z2 : w.heap.size < w2.heap.size := by omega)
        have B2 : Hid (Below w.heap.size w w2) := by (show Below _ _ _); (repeat' (first | (with_reducible exact Below.refl _ _) | (with_reducible assumption) | (with_reducible refine Below.alloc ?_ ?_ _) | (with_reducible refine below_drewN ?_ _) | (with_reducible refine Below.drew ?_) | (with_reducible refine Below.setCell ?_ ?_ _) | (with_reducible refine Below.trans ?_ (Below.mono (by with_reducible assumption) ?_)) | go_size))
        obtain ⟨kd2, kg2, _⟩ := bfacts B2.out
        go_wp2_with fail
        go_ret2
        refine ⟨?_, by (repeat' (first | (with_reducible exact Below.refl _ _) | (with_reducible assumption) | (with_reducible refine Below.alloc ?_ ?_ _) | (with_reducible refine below_drewN ?_ _) | (with_reducible refine Below.drew ?_) | (with_reducible refine Below.setCell ?_ ?_ _) | (with_reducible refine Below.trans ?_ (Below.mono (by with_reducible assumption) ?_)) | go_size))⟩
        rw [HN.out, HB.out, HW.out]
        simp
      · have hw : Ev.isWord n = false := by simp [Ev.isWord]; omega
        have HW := Lib.hid hw
        clear hw
        go_enter Tryd.func8, Tryd.ntmps8
        go_wp2_with fail
        refine (h1 _).mono ?_
        rintro e w1 ⟨rfl, hb1⟩
        obtain ⟨kc1, kf1, s1⟩ := bfacts hb1
        (try simp only [World.size_alloc, World.size_setCell, World.size_drew, World.heap_drewN, Nat.add_one_le_iff] at s1)
        (try have z1 : w.heap.size < w1.heap.size := by omega)
        have B1 : Hid (Below w.heap.size w w1) := by (show Below _ _ _); (repeat' (first | (with_reducible exact Below.refl _ _) | (with_reducible assumption) | (with_reducible refine Below.alloc ?_ ?_ _) | (with_reducible refine below_drewN ?_ _) | (with_reducible refine Below.drew ?_) | (with_reducible refine Below.setCell ?_ ?_ _) | (with_reducible refine Below.trans ?_ (Below.mono (by with_reducible assumption) ?_)) | go_size))
        obtain ⟨kd1, kg1, _⟩ := bfacts B1.out
        go_wp2_with fail
        go_ret2
        exact ⟨by rw [HN.out, HB.out, HW.out]; simp, by (repeat' (first | (with_reducible exact Below.refl _ _) | (with_reducible assumption) | (with_reducible refine Below.alloc ?_ ?_ _) | (with_reducible refine below_drewN ?_ _) | (with_reducible refine Below.drew ?_) | (with_reducible refine Below.setCell ?_ ?_ _) | (with_reducible refine Below.trans ?_ (Below.mono (by with_reducible assumption) ?_)) | go_size))⟩
    · have hw : Ev.isWord n = false := by simp [Ev.isWord]; omega
      have HW := Lib.hid hw
      clear hw
      go_enter Tryd.func8, Tryd.ntmps8
      go_wp2_with fail
      refine (h1 _).mono ?_
      rintro e w1 ⟨rfl, hb1⟩
      obtain ⟨kc1, kf1, s1⟩ := bfacts hb1
      (try simp only [World.size_alloc, World.size_setCell, World.size_drew, World.heap_drewN, Nat.add_one_le_iff] at s1)
      (try have z1 : w.heap.size < w1.heap.size := by omega)
      have B1 : Hid (Below w.heap.size w w1) := by (show Below _ _ _); (repeat' (first | (with_reducible exact Below.refl _ _) | (with_reducible assumption) | (with_reducible refine Below.alloc ?_ ?_ _) | (with_reducible refine below_drewN ?_ _) | (with_reducible refine Below.drew ?_) | (with_reducible refine Below.setCell ?_ ?_ _) | (with_reducible refine Below.trans ?_ (Below.mono (by with_reducible assumption) ?_)) | go_size))
      obtain ⟨kd1, kg1, _⟩ := bfacts B1.out
      go_wp2_with fail
      go_ret2
      exact ⟨by rw [HN.out, HB.out, HW.out]; simp, by (repeat' (first | (with_reducible exact Below.refl _ _) | (with_reducible assumption) | (with_reducible refine Below.alloc ?_ ?_ _) | (with_reducible refine below_drewN ?_ _) | (with_reducible refine Below.drew ?_) | (with_reducible refine Below.setCell ?_ ?_ _) | (with_reducible refine Below.trans ?_ (Below.mono (by with_reducible assumption) ?_)) | go_size))⟩
end Go.Proofs.YtmonjjfeknmnfaaDoor
