import Derived.Test.YtpbflgemhcaooaaDoorPt12
import Derived.Test.YtpbflgemhcaooaaDoorPt9
import Derived.Test.YtpbflgemhcaooaaDoorPt2
import Derived.Test.YtpbflgemhcaooaaDoorProg
import Derived.Deep.MidRow
import Derived.Deep.Upon
/- The document's reader: names, numbers, labels. -/
namespace Ev
open Go
theorem name_word {w : List UInt8} (h : langWords.contains w = true) : nameOk w = false := by
  unfold nameOk
  rw [h]
  rfl
end Ev
namespace Go.Proofs.YtpbflgemhcaooaaDoor
open Go.RowKit
set_option linter.unusedSimpArgs false
set_option linter.unusedVariables false
def strW (l : List UInt8) : Value := .string ⟨l.toArray⟩
def wordCells : Array Value := (Ev.langWords.map strW).toArray
theorem words_at {k : Nat} (h : k < 11) : wordCells[k]? = some (strW (Ev.langWords.getD k [])) := by
  unfold wordCells
  rw [List.getElem?_toArray, List.getElem?_map, List.getD_eq_getElem?_getD]
  have : k < Ev.langWords.length := h
  rw [List.getElem?_eq_getElem this]
  rfl
/-- how many of the first bytes are small letters -/
def smallTo (w : List UInt8) (k : Nat) : Bool := (w.take k).all (fun c => decide (97 ≤ c.toNat ∧ c.toNat ≤ 122))
theorem small_step {w : List UInt8} {k : Nat} {c : UInt8} (hc : w[k]? = some c) : smallTo w (k + 1) = (smallTo w k && decide (97 ≤ c.toNat ∧ c.toNat ≤ 122)) := by
  unfold smallTo
  rw [List.take_add_one, hc, List.all_append]
  simp
theorem small_not {w : List UInt8} {k : Nat} {c : UInt8} (hc : w[k]? = some c) (h : ¬ (97 ≤ c.toNat ∧ c.toNat ≤ 122)) : Ev.nameOk w = false := by
  unfold Ev.nameOk
  have : w.all (fun c => decide (97 ≤ c.toNat ∧ c.toNat ≤ 122)) = false := by
    rw [List.all_eq_false]
    exact ⟨c, List.mem_of_getElem? hc, by simpa using h⟩
  rw [this]
  simp
/-- the first words of the language that it is none of -/
def noneTo (w : List UInt8) (k : Nat) : Prop := ∀ j, j < k → Ev.langWords.getD j [] ≠ w
theorem none_all {w : List UInt8} (h : noneTo w 11) : Ev.langWords.contains w = false := by
  rw [← Bool.not_eq_true, List.contains_iff_mem]
  intro hm
  obtain ⟨j, hj, e⟩ := List.getElem_of_mem hm
  refine h j hj ?_
  rw [List.getD_eq_getElem?_getD, List.getElem?_eq_getElem hj]
  exact e
theorem some_word {w : List UInt8} {k : Nat} (hk : k < 11) (h : Ev.langWords.getD k [] = w) : Ev.langWords.contains w = true := by
  rw [List.contains_iff_mem, ← h, List.getD_eq_getElem?_getD]
  have : k < Ev.langWords.length := hk
  rw [List.getElem?_eq_getElem this]
  exact List.getElem_mem this
theorem cmp_lt {c : UInt8} : decide ((c.toNat : Int) < 97) = decide (c.toNat < 97) := by
  rw [decide_eq_decide]; omega
set_option maxRecDepth 4000 in
set_option maxHeartbeats 3200000 in
theorem refName_any (v : List UInt8) (w : World) (hl : v.length ≤ 1200) :
    Calls Tryd.prog 85 #[.string ⟨(v).toArray⟩] w fun e w' => e = .returned (.bool (Ev.nameOk v)) ∧ Below w.heap.size w w' := by
  go_enter Tryd.func85, Tryd.ntmps85
  go_upto_region 2 with fail
  have HC : Hid ((w.alloc (.cells wordCells 9)).heap[w.heap.size]? = some (.cells wordCells 9 (0, 0))) := Lib.hid (heap_alloc_new _ _)
  have bA : Below w.heap.size w (w.alloc (.cells wordCells 9)) := by (repeat' first | with_reducible (first | exact Below.refl _ _ | assumption | refine Below.alloc ?_ ?_ _ | refine below_drewN ?_ _ | refine Below.drew ?_ | refine Below.setCell ?_ ?_ _ | refine Below.trans ?_ (Below.mono (by with_reducible assumption) ?_)) | go_size)
  have e0 : wordCells = #[.string ⟨#[102, 110]⟩, .string ⟨#[112, 117, 98]⟩, .string ⟨#[115, 101, 99]⟩, .string ⟨#[108, 101, 116]⟩, .string ⟨#[115, 101, 116]⟩, .string ⟨#[112, 117, 116]⟩, .string ⟨#[105, 102]⟩, .string ⟨#[102, 111, 114]⟩, .string ⟨#[114, 101, 116]⟩, .string ⟨#[115, 101, 108]⟩, .string ⟨#[97, 116]⟩] := rfl
  rw [← e0]
  clear e0
  generalize w.alloc (.cells wordCells 9) = wA at *
  go_loopw [8] (fun jj wz => ∃ j : Nat, j ≤ 11 ∧ jj = .int .i64 (j : Int) ∧ Hid (noneTo v j) ∧ wA = wz) (fun jj _ => 11 - (intOf jj).toNat)
  case atStart => exact ⟨0, by omega, rfl, Lib.hid (fun j hj => by omega), rfl⟩
  case round =>
  obtain ⟨j, hj, rfl, HN, rfl⟩ := hrel
  have zc := (Array.getElem?_eq_some_iff.1 HC.out).1
  by_cases hjl : j < 11
  case pos => as_aux_lemma =>
    obtain ⟨x, hx⟩ : ∃ x, Ev.langWords.getD j [] = x := ⟨_, rfl⟩
    have n1 : wA.cell? ⟨w.heap.size, j, none⟩ = some (.string ⟨(x).toArray⟩) := by
      have h := (cell_of_block HC.out j).trans (words_at hjl)
      rw [hx] at h
      exact h
    by_cases hxv : x = v
    · subst hxv
      have HB := Lib.hid (Ev.name_word (some_word hjl hx))
      clear hx
      go_wp2_with fail
      go_ret
      exact ⟨by rw [HB.out]; rfl, bA⟩
    · have gx : (x == v) = false := beq_eq_false_iff_ne.2 hxv
      have HX := Lib.hid hx
      have HXV := Lib.hid hxv
      clear hx hxv
      go_wp2_with fail
      go_roundw
      case rel => exact ⟨j + 1, by omega, by go_num, Lib.hid (fun i hi e => by
        by_cases h : i = j
        · subst h; exact HXV.out (HX.out.symm.trans e)
        · exact HN.out i (by omega) e), by first | rfl | trivial⟩
      case measure => simp [intOf]; omega
  case neg => as_aux_lemma =>
  obtain rfl : j = 11 := by omega
  have HCO := Lib.hid (none_all HN.out)
  clear HC zc HN
  go_upto_region 8 with fail
  go_loopw [18] (fun kk wz => ∃ k : Nat, k ≤ v.length ∧ kk = .int .i64 (k : Int) ∧ Hid (smallTo v k = true) ∧ wA = wz) (fun kk _ => v.length - (intOf kk).toNat)
  case atStart => exact ⟨0, by omega, rfl, Lib.hid rfl, rfl⟩
  case round =>
  obtain ⟨k, hk, rfl, HS, rfl⟩ := hrel
  by_cases hkl : k < v.length
  case pos => as_aux_lemma =>
    obtain ⟨c, hc⟩ : ∃ c, v[k]? = some c := ⟨v[k], List.getElem?_eq_getElem hkl⟩
    have ix : ∀ u, (Go.Instr.index 9 (.string ⟨(v).toArray⟩) (.int .i64 (k : Int))).run Tryd.prog u = .ok (.int .u8 (c.toNat : Int)) u := fun u => sx_ix (T := 9) Tryd.underlying9 hc u
    by_cases h1 : c.toNat < 97
    · have g1 : decide ((c.toNat : Int) < 97) = true := decide_eq_true (by omega)
      have HB := Lib.hid (small_not hc (by omega))
      clear hc h1
      go_wp2_with fail
      go_ret
      exact ⟨by rw [HB.out]; rfl, bA⟩
    · have g1 : decide ((c.toNat : Int) < 97) = false := decide_eq_false (by omega)
      by_cases h2 : 122 < c.toNat
      · have g2 : decide (122 < (c.toNat : Int)) = true := decide_eq_true (by omega)
        have HB := Lib.hid (small_not hc (by omega))
        clear hc h1 h2
        go_wp2_with fail
        go_ret
        exact ⟨by rw [HB.out]; rfl, bA⟩
      · have g2 : decide (122 < (c.toNat : Int)) = false := decide_eq_false (by omega)
        have HSS := Lib.hid (show smallTo v (k + 1) = true by rw [small_step hc, HS.out]; simp; omega)
        clear hc h1 h2
        go_wp2_with fail
        go_roundw
        case rel => exact ⟨k + 1, by omega, by go_num, HSS, by first | rfl | trivial⟩
        case measure => simp [intOf]; omega
  case neg => as_aux_lemma =>
  obtain rfl : k = v.length := by omega
  have HV := Lib.hid (show Ev.nameOk v = (decide (0 < v.length) && decide (v.length < 7)) by
    unfold Ev.nameOk
    have h := HS.out
    unfold smallTo at h
    rw [List.take_length] at h
    rw [HCO.out, h]
    rfl)
  clear HS HCO
  have gm : ((9223372036854775807 : Int) < (v.length : Int)) = False := eq_false (by omega)
  by_cases h0 : 0 < v.length
  · have g0 : decide ((0 : Int) < (v.length : Int)) = true := decide_eq_true (by omega)
    have gz : (0 : Int) < (v.length : Int) := by omega
    by_cases h7 : v.length < 7
    · have g7 : decide ((v.length : Int) < 7) = true := decide_eq_true (by omega)
      have HB := Lib.hid (show Ev.nameOk v = true by rw [HV.out]; simp; omega)
      clear h0 h7 hkl
      go_wp2_with fail
      go_ret
      exact ⟨by rw [HB.out]; rfl, bA⟩
    · have g7 : decide ((v.length : Int) < 7) = false := decide_eq_false (by omega)
      have HB := Lib.hid (show Ev.nameOk v = false by rw [HV.out]; simp; omega)
      clear h0 h7 hkl
      go_wp2_with fail
      go_ret
      exact ⟨by rw [HB.out]; rfl, bA⟩
  · obtain rfl : v = [] := List.eq_nil_of_length_eq_zero (by omega)
    clear h0 hkl hk gm HV
    go_wp2_with fail
    go_ret
    exact ⟨rfl, bA⟩
end Go.Proofs.YtpbflgemhcaooaaDoor
/- evref1.Number: which texts are words. -/
namespace Go.Proofs.YtpbflgemhcaooaaDoor
open Go.RowKit
set_option linter.unusedSimpArgs false
set_option linter.unusedVariables false
/-- is it a text's word? -/
def numB (s : ByteArray) : Bool := atoiB s && (Lib.itoa (atoiV s) == s.toList) && Ev.isWord (atoiV s)
set_option maxHeartbeats 1600000 in
theorem refNumber_any (s : ByteArray) (w : World) (hs : s.size ≤ 281474976710656) (hv : Vars w) :
    Calls Tryd.prog 86 #[.string s] w fun e w' => e = .returned (.tuple #[.int .i64 (atoiV s), .bool (numB s)]) ∧ Below w.heap.size w w' := by
  have HV := Lib.hid hv
  have HN := Lib.hid (show numB s = (atoiB s && (Lib.itoa (atoiV s) == s.toList) && Ev.isWord (atoiV s)) from rfl)
  have HI := Lib.hid (atoiV_in s)
  clear hv
  cases hb : atoiB s
  · have h1 := fun w hv => atoi_no s w hs hv hb
    generalize atoiV s = n at *
    generalize numB s = nb at *
    have HB := Lib.hid hb
    clear hb
    go_enter Tryd.func86, Tryd.ntmps86
    go_wp2_with fail
    refine (h1 _ HV.out).mono ?_
    rintro e w1 ⟨N, rfl, hb1⟩
    obtain ⟨kc1, kf1, s1⟩ := bfacts hb1
    (try simp only [World.size_alloc, World.size_setCell, World.size_drew, World.heap_drewN, Nat.add_one_le_iff] at s1)
    (try have z1 : w.heap.size < w1.heap.size := by omega)
    have B1 : Hid (Below w.heap.size w w1) := by (show Below _ _ _); (repeat' first | with_reducible (first | exact Below.refl _ _ | assumption | refine Below.alloc ?_ ?_ _ | refine below_drewN ?_ _ | refine Below.drew ?_ | refine Below.setCell ?_ ?_ _ | refine Below.trans ?_ (Below.mono (by with_reducible assumption) ?_)) | go_size)
    obtain ⟨kd1, kg1, _⟩ := bfacts B1.out
    go_wp2_with fail
    go_ret2
    exact ⟨by rw [HN.out, HB.out]; rfl, by (repeat' first | with_reducible (first | exact Below.refl _ _ | assumption | refine Below.alloc ?_ ?_ _ | refine below_drewN ?_ _ | refine Below.drew ?_ | refine Below.setCell ?_ ?_ _ | refine Below.trans ?_ (Below.mono (by with_reducible assumption) ?_)) | go_size)⟩
  · have h1 := fun w => atoi_yes s w hs hb
    generalize atoiV s = n at *
    generalize numB s = nb at *
    have HB := Lib.hid hb
    clear hb
    by_cases h0 : 0 ≤ n
    · by_cases h2 : n ≤ 4294967295
      · have hw : Ev.isWord n = true := by simp [Ev.isWord, h0, h2]
        have HW := Lib.hid hw
        clear hw
        go_enter Tryd.func86, Tryd.ntmps86
        go_wp2_with fail
        refine (h1 _).mono ?_
        rintro e w1 ⟨rfl, hb1⟩
        obtain ⟨kc1, kf1, s1⟩ := bfacts hb1
        (try simp only [World.size_alloc, World.size_setCell, World.size_drew, World.heap_drewN, Nat.add_one_le_iff] at s1)
        (try have z1 : w.heap.size < w1.heap.size := by omega)
        have B1 : Hid (Below w.heap.size w w1) := by (show Below _ _ _); (repeat' first | with_reducible (first | exact Below.refl _ _ | assumption | refine Below.alloc ?_ ?_ _ | refine below_drewN ?_ _ | refine Below.drew ?_ | refine Below.setCell ?_ ?_ _ | refine Below.trans ?_ (Below.mono (by with_reducible assumption) ?_)) | go_size)
        obtain ⟨kd1, kg1, _⟩ := bfacts B1.out
        go_wp2_with fail
        refine (itoa_any n _ HI.out (HV.out.stays B1.out)).mono ?_
        rintro e w2 ⟨rfl, hb2⟩
        obtain ⟨kc2, kf2, s2⟩ := bfacts hb2
        (try simp only [World.size_alloc, World.size_setCell, World.size_drew, World.heap_drewN, Nat.add_one_le_iff] at s2)
        (try have z2 : w.heap.size < w2.heap.size := by omega)
        have B2 : Hid (Below w.heap.size w w2) := by (show Below _ _ _); (repeat' first | with_reducible (first | exact Below.refl _ _ | assumption | refine Below.alloc ?_ ?_ _ | refine below_drewN ?_ _ | refine Below.drew ?_ | refine Below.setCell ?_ ?_ _ | refine Below.trans ?_ (Below.mono (by with_reducible assumption) ?_)) | go_size)
        obtain ⟨kd2, kg2, _⟩ := bfacts B2.out
        go_wp2_with fail
        go_ret2
        refine ⟨?_, by (repeat' first | with_reducible (first | exact Below.refl _ _ | assumption | refine Below.alloc ?_ ?_ _ | refine below_drewN ?_ _ | refine Below.drew ?_ | refine Below.setCell ?_ ?_ _ | refine Below.trans ?_ (Below.mono (by with_reducible assumption) ?_)) | go_size)⟩
        rw [HN.out, HB.out, HW.out]
        simp
      · have hw : Ev.isWord n = false := by simp [Ev.isWord]; omega
        have HW := Lib.hid hw
        clear hw
        go_enter Tryd.func86, Tryd.ntmps86
        go_wp2_with fail
        refine (h1 _).mono ?_
        rintro e w1 ⟨rfl, hb1⟩
        obtain ⟨kc1, kf1, s1⟩ := bfacts hb1
        (try simp only [World.size_alloc, World.size_setCell, World.size_drew, World.heap_drewN, Nat.add_one_le_iff] at s1)
        (try have z1 : w.heap.size < w1.heap.size := by omega)
        have B1 : Hid (Below w.heap.size w w1) := by (show Below _ _ _); (repeat' first | with_reducible (first | exact Below.refl _ _ | assumption | refine Below.alloc ?_ ?_ _ | refine below_drewN ?_ _ | refine Below.drew ?_ | refine Below.setCell ?_ ?_ _ | refine Below.trans ?_ (Below.mono (by with_reducible assumption) ?_)) | go_size)
        obtain ⟨kd1, kg1, _⟩ := bfacts B1.out
        go_wp2_with fail
        go_ret2
        exact ⟨by rw [HN.out, HB.out, HW.out]; simp, by (repeat' first | with_reducible (first | exact Below.refl _ _ | assumption | refine Below.alloc ?_ ?_ _ | refine below_drewN ?_ _ | refine Below.drew ?_ | refine Below.setCell ?_ ?_ _ | refine Below.trans ?_ (Below.mono (by with_reducible assumption) ?_)) | go_size)⟩
    · have hw : Ev.isWord n = false := by simp [Ev.isWord]; omega
      have HW := Lib.hid hw
      clear hw
      go_enter Tryd.func86, Tryd.ntmps86
      go_wp2_with fail
      refine (h1 _).mono ?_
      rintro e w1 ⟨rfl, hb1⟩
      obtain ⟨kc1, kf1, s1⟩ := bfacts hb1
      (try simp only [World.size_alloc, World.size_setCell, World.size_drew, World.heap_drewN, Nat.add_one_le_iff] at s1)
      (try have z1 : w.heap.size < w1.heap.size := by omega)
      have B1 : Hid (Below w.heap.size w w1) := by (show Below _ _ _); (repeat' first | with_reducible (first | exact Below.refl _ _ | assumption | refine Below.alloc ?_ ?_ _ | refine below_drewN ?_ _ | refine Below.drew ?_ | refine Below.setCell ?_ ?_ _ | refine Below.trans ?_ (Below.mono (by with_reducible assumption) ?_)) | go_size)
      obtain ⟨kd1, kg1, _⟩ := bfacts B1.out
      go_wp2_with fail
      go_ret2
      exact ⟨by rw [HN.out, HB.out, HW.out]; simp, by (repeat' first | with_reducible (first | exact Below.refl _ _ | assumption | refine Below.alloc ?_ ?_ _ | refine below_drewN ?_ _ | refine Below.drew ?_ | refine Below.setCell ?_ ?_ _ | refine Below.trans ?_ (Below.mono (by with_reducible assumption) ?_)) | go_size)⟩
theorem numB_ok (v : List UInt8) : numB ⟨v.toArray⟩ = Ev.numOk v ∧ atoiV ⟨v.toArray⟩ = Ev.atoiN v := by
  have e0 : (⟨v.toArray⟩ : ByteArray).data.toList = v := List.toList_toArray
  have e3 : (⟨v.toArray⟩ : ByteArray).toList = v := by rw [ByteArray.toList_eq]
  have e1 : atoiV ⟨v.toArray⟩ = Ev.atoiN v := by unfold atoiV Ev.atoiN; rw [e0]; cases Lib.atoiAll v <;> rfl
  have e2 : atoiB ⟨v.toArray⟩ = Ev.atoiY v := by unfold atoiB Ev.atoiY; rw [e0]; cases Lib.atoiAll v <;> rfl
  refine ⟨?_, e1⟩
  unfold numB Ev.numOk
  rw [e1, e2, e3]
  unfold Ev.isWord
  rw [Bool.eq_iff_iff]
  simp only [Bool.and_eq_true, decide_eq_true_eq]
  exact ⟨fun h => ⟨⟨⟨h.1.1, h.2.1⟩, by have := h.2.2; omega⟩, h.1.2⟩, fun h => ⟨⟨h.1.1.1, h.2⟩, h.1.1.2, by have := h.1.2; omega⟩⟩
theorem refNum_any (v : List UInt8) (w : World) (hl : v.length ≤ 1200) (hv : Vars w) :
    Calls Tryd.prog 86 #[.string ⟨(v).toArray⟩] w fun e w' => e = .returned (.tuple #[.int .i64 (Ev.atoiN v), .bool (Ev.numOk v)]) ∧ Below w.heap.size w w' := by
  have h := refNumber_any ⟨v.toArray⟩ w (by show v.toArray.size ≤ _; simp; omega) hv
  rw [(numB_ok v).1, (numB_ok v).2] at h
  exact h
end Go.Proofs.YtpbflgemhcaooaaDoor
/- The document's reader: a name, a number, a label that goes. -/
namespace Go.Proofs.YtpbflgemhcaooaaDoor
open Go.RowKit
set_option linter.unusedSimpArgs false
set_option linter.unusedVariables false
theorem take_in (p : Ev.PS) (hl : p.s.length ≤ 1200) : (Ev.takeW p).1.length ≤ 1200 ∧ (Ev.takeW p).2.s.length ≤ 1200 := by
  have h1 := peek_in p
  have h2 := Ev.skip_le p.s
  have h3 := (Ev.take_steps p).1.len
  exact ⟨by show (Ev.peekW p.s).length ≤ _; omega, by omega⟩
set_option maxHeartbeats 1600000 in
theorem name_any (p : Ev.PS) (b : Nat) (w : World) (h : PAt w b p) (hl : p.s.length ≤ 1200) :
    Calls Tryd.prog 50 #[.pointer (some ⟨b, 0, none⟩)] w fun e w' => e = .returned (.string ⟨((Ev.nameW p).1).toArray⟩) ∧ PAt w' b (Ev.nameW p).2 ∧ PFr b w w' := by
  have CT := Lib.hid (take_any p b w h hl)
  have HE := Lib.hid (show Ev.nameW p = ((Ev.takeW p).1, if Ev.nameOk (Ev.takeW p).1 = true then (Ev.takeW p).2 else (Ev.takeW p).2.bad 7) from rfl)
  have hx := (take_in p hl).1
  generalize (Ev.takeW p).1 = x at *
  generalize (Ev.takeW p).2 = q at *
  have CN := Lib.hid (fun u => refName_any x u hx)
  clear h hx
  go_enter Tryd.func50, Tryd.ntmps50
  go_upto_region 2 with (go_at_call 84; refine CT.out.mono ?_; rintro e w1 ⟨rfl, h1, hF1⟩)
  have H1 := Lib.hid h1
  clear h1 CT
  cases hn : Ev.nameOk x with
  | true =>
    rw [hn] at CN
    have HX := Lib.hid (HE.out.trans (by rw [if_pos hn]))
    clear hn HE
    go_wp2_with (go_at_call 85; refine (CN.out _).mono ?_; rintro e w2 ⟨rfl, hb2⟩)
    go_ret
    exact ⟨by rw [HX.out]; rfl, by rw [HX.out]; exact H1.out.stays hb2, hF1.on hb2⟩
  | false =>
    rw [hn] at CN
    have HX := Lib.hid (HE.out.trans (by rw [if_neg (by rw [hn]; decide)]))
    clear hn HE
    go_upto_region 3 with (go_at_call 85; refine (CN.out _).mono ?_; rintro e w2 ⟨rfl, hb2⟩)
    have H2 := Lib.hid (H1.out.stays hb2)
    have F2 := hF1.on hb2
    clear hb2 hF1 H1
    go_wp2_with (go_at_call 55; refine (bad_any q b 7 _ H2.out).mono ?_; rintro e w3 ⟨rfl, h3, hF3⟩)
    go_ret
    exact ⟨by rw [HX.out]; rfl, by rw [HX.out]; exact h3, F2.trans hF3⟩
set_option maxHeartbeats 1600000 in
theorem num_any (lo hi : Int) (p : Ev.PS) (b : Nat) (w : World) (h : PAt w b p) (hl : p.s.length ≤ 1200) (hv : VarsP b w) :
    Calls Tryd.prog 52 #[.pointer (some ⟨b, 0, none⟩), .int .i64 lo, .int .i64 hi] w fun e w' => e = .returned (.int .i64 (Ev.numW lo hi p).1) ∧ PAt w' b (Ev.numW lo hi p).2 ∧ PFr b w w' := by
  have CT := Lib.hid (take_any p b w h hl)
  have HE := Lib.hid (show Ev.numW lo hi p = (Ev.atoiN (Ev.takeW p).1, if Ev.numOk (Ev.takeW p).1 = false then (Ev.takeW p).2.bad 2 else if Ev.atoiN (Ev.takeW p).1 < lo ∨ hi < Ev.atoiN (Ev.takeW p).1 then (Ev.takeW p).2.bad 3 else (Ev.takeW p).2) from rfl)
  have hx := (take_in p hl).1
  generalize (Ev.takeW p).1 = x at *
  generalize (Ev.takeW p).2 = q at *
  have CN := Lib.hid (fun u hv => refNum_any x u hx hv)
  have HV := Lib.hid hv
  generalize Ev.atoiN x = n at *
  clear h hx hv
  go_enter Tryd.func52, Tryd.ntmps52
  cases hn : Ev.numOk x with
  | false =>
    rw [hn] at CN
    have HX := Lib.hid (HE.out.trans (by rw [if_pos hn]))
    clear hn HE
    go_upto_region 3 with (first | (go_at_call 84; refine CT.out.mono ?_; rintro e w1 ⟨rfl, h1, hF1⟩; have H1 := Lib.hid h1; clear h1) | (go_at_call 86; refine (CN.out _ (HV.out.to hF1).here).mono ?_; rintro e w2 ⟨rfl, hb2⟩))
    have H2 := Lib.hid (H1.out.stays hb2)
    have F2 := hF1.on hb2
    clear hb2 hF1 H1
    go_wp2_with (go_at_call 55; refine (bad_any q b 2 _ H2.out).mono ?_; rintro e w3 ⟨rfl, h3, hF3⟩)
    go_ret
    exact ⟨by rw [HX.out]; rfl, by rw [HX.out]; exact h3, F2.trans hF3⟩
  | true =>
    rw [hn] at CN
    have HX := Lib.hid (HE.out.trans (by rw [if_neg (by rw [hn]; decide)]))
    clear hn HE
    go_upto_region 4 with (first | (go_at_call 84; refine CT.out.mono ?_; rintro e w1 ⟨rfl, h1, hF1⟩; have H1 := Lib.hid h1; clear h1) | (go_at_call 86; refine (CN.out _ (HV.out.to hF1).here).mono ?_; rintro e w2 ⟨rfl, hb2⟩))
    have H2 := Lib.hid (H1.out.stays hb2)
    have F2 := hF1.on hb2
    clear hb2 hF1 H1
    by_cases h1 : n < lo
    · have g1 : decide (n < lo) = true := decide_eq_true h1
      have HY := Lib.hid (HX.out.trans (by rw [if_pos (.inl h1)]))
      clear h1 HX
      go_wp2_with (go_at_call 55; refine (bad_any q b 3 _ H2.out).mono ?_; rintro e w3 ⟨rfl, h3, hF3⟩)
      go_ret
      exact ⟨by rw [HY.out]; rfl, by rw [HY.out]; exact h3, F2.trans hF3⟩
    · have g1 : decide (n < lo) = false := decide_eq_false h1
      by_cases h2 : hi < n
      · have g2 : decide (hi < n) = true := decide_eq_true h2
        have HY := Lib.hid (HX.out.trans (by rw [if_pos (.inr h2)]))
        clear h1 h2 HX
        go_wp2_with (go_at_call 55; refine (bad_any q b 3 _ H2.out).mono ?_; rintro e w3 ⟨rfl, h3, hF3⟩)
        go_ret
        exact ⟨by rw [HY.out]; rfl, by rw [HY.out]; exact h3, F2.trans hF3⟩
      · have g2 : decide (hi < n) = false := decide_eq_false h2
        have HY := Lib.hid (HX.out.trans (by rw [if_neg (fun h => h.elim h1 h2)]))
        clear h1 h2 HX
        go_wp2_with fail
        go_ret
        exact ⟨by rw [HY.out]; rfl, by rw [HY.out]; exact H2.out, F2⟩
set_option maxHeartbeats 1600000 in
theorem lab_any (p : Ev.PS) (b : Nat) (w : World) (h : PAt w b p) (hl : p.s.length ≤ 1200) :
    Calls Tryd.prog 49 #[.pointer (some ⟨b, 0, none⟩)] w fun e w' => e = .returned (.bool (Ev.labW p).1) ∧ PAt w' b (Ev.labW p).2 ∧ PFr b w w' := by
  have CT := Lib.hid (take_any p b w h hl)
  have HE := Lib.hid (show Ev.labW p = if (Ev.takeW p).1 = [115, 101, 99] then (true, (Ev.takeW p).2) else (false, if (Ev.takeW p).1 = [112, 117, 98] then (Ev.takeW p).2 else (Ev.takeW p).2.bad 2) from rfl)
  generalize (Ev.takeW p).1 = x at *
  generalize (Ev.takeW p).2 = q at *
  clear h
  go_enter Tryd.func49, Tryd.ntmps49
  go_upto_region 2 with (go_at_call 84; refine CT.out.mono ?_; rintro e w1 ⟨rfl, h1, hF1⟩)
  have H1 := Lib.hid h1
  clear h1 CT
  by_cases hs : x = [115, 101, 99]
  · have HX := Lib.hid (HE.out.trans (if_pos hs))
    subst hs
    clear HE
    go_wp2_with fail
    go_ret
    exact ⟨by rw [HX.out]; rfl, by rw [HX.out]; exact H1.out, hF1⟩
  · have HX := Lib.hid (HE.out.trans (if_neg hs))
    have g1 : (x == [115, 101, 99]) = false := beq_eq_false_iff_ne.2 hs
    clear hs HE
    by_cases hp : x = [112, 117, 98]
    · have HY := Lib.hid (HX.out.trans (by rw [if_pos hp]))
      subst hp
      clear HX
      go_wp2_with fail
      go_ret
      exact ⟨by rw [HY.out]; rfl, by rw [HY.out]; exact H1.out, hF1⟩
    · have HY := Lib.hid (HX.out.trans (by rw [if_neg hp]))
      have g2 : (x == [112, 117, 98]) = false := beq_eq_false_iff_ne.2 hp
      have g3 : (x != [112, 117, 98]) = true := bne_iff_ne.2 hp
      clear hp HX
      go_wp2_with (go_at_call 55; refine (bad_any q b 2 _ H1.out).mono ?_; rintro e w3 ⟨rfl, h3, hF3⟩)
      go_ret
      exact ⟨by rw [HY.out]; rfl, by rw [HY.out]; exact h3, hF1.trans hF3⟩
end Go.Proofs.YtpbflgemhcaooaaDoor
/- Expressions in memory: trees of slices, no deeper than so much; a list that grows. -/
namespace Go.Proofs.YtpbflgemhcaooaaDoor
open Go.RowKit
set_option linter.unusedSimpArgs false
set_option linter.unusedVariables false
/-- what is in a slice lies in blocks of K -/
def inK (K : Nat → Prop) (v : Value) : Prop := ∀ a n c, v = .slice (some a) n c → K a.block
def ex4 (e : Ev.Ex) (va : Value) : List Value := [.int .i64 e.kind, .int .i64 e.n, .string ⟨e.name.toArray⟩, va]
def exCells : List Ev.Ex → List Value → List Value
  | e :: l, va :: vs => ex4 e va ++ exCells l vs
  | _, _ => []
def exV (e : Ev.Ex) (va : Value) : Value := .agg #[.int .i64 e.kind, .int .i64 e.n, .string ⟨e.name.toArray⟩, va]
/-- expressions in memory, no deeper than d, all in blocks of K -/
def RExL : Nat → World → (Nat → Prop) → Value → List Ev.Ex → Prop
  | 0, _, _, v, l => l = [] ∧ v = .slice none 0 0
  | d + 1, w, K, v, l => ∃ vs : List Value, vs.length = l.length ∧ SL w w.heap.size 4 v l.length (exCells l vs) ∧ inK K v ∧ ∀ (j : Nat) e va, l[j]? = some e → vs[j]? = some va → RExL d w K va e.args
def RExV (d : Nat) (w : World) (K : Nat → Prop) (v : Value) (e : Ev.Ex) : Prop := ∃ va, v = exV e va ∧ RExL d w K va e.args
theorem exCells_snoc : ∀ (l : List Ev.Ex) (vs : List Value) (e : Ev.Ex) (va : Value), vs.length = l.length → exCells (l ++ [e]) (vs ++ [va]) = exCells l vs ++ ex4 e va
  | [], [], e, va, _ => by simp [exCells]
  | [], _ :: _, e, va, h => by simp at h
  | _ :: _, [], e, va, h => by simp at h
  | x :: l, y :: vs, e, va, h => by
    have := exCells_snoc l vs e va (by simpa using h)
    simp only [List.cons_append, exCells, this, List.append_assoc]
theorem exCells_len : ∀ (l : List Ev.Ex) (vs : List Value), vs.length = l.length → (exCells l vs).length = l.length * 4
  | [], [], _ => rfl
  | [], _ :: _, h => by simp at h
  | _ :: _, [], h => by simp at h
  | x :: l, y :: vs, h => by
    have := exCells_len l vs (by simpa using h)
    simp [exCells, ex4, this]
    omega
theorem SL.keep {w w' : World} {size n : Nat} {v : Value} {xs : List Value} {K : Nat → Prop} (h : SL w w.heap.size size v n xs) (hK : inK K v) (hs : w.heap.size ≤ w'.heap.size) (hk : ∀ k, K k → k < w.heap.size → w'.heap[k]? = w.heap[k]?) : SL w' w'.heap.size size v n xs := by
  obtain ⟨h1, A, c, rfl, h3, h4, h5, h6⟩ := h
  refine ⟨h1, A, c, rfl, h3, h4, h5, fun hn => ?_⟩
  obtain ⟨b, o, rfl, hlt, hc⟩ := h6 hn
  have he := hk b (hK _ _ _ rfl) hlt
  refine ⟨b, o, rfl, Nat.lt_of_lt_of_le hlt hs, fun j u hu => ?_⟩
  have h := hc j u hu
  unfold World.cell? at h ⊢
  dsimp only at h ⊢
  rw [he]
  exact h
/-- it stays, where its blocks do -/
theorem RExL.keep {w w' : World} {K : Nat → Prop} (hs : w.heap.size ≤ w'.heap.size) (hk : ∀ k, K k → k < w.heap.size → w'.heap[k]? = w.heap[k]?) : ∀ (d : Nat) (v : Value) (l : List Ev.Ex), RExL d w K v l → RExL d w' K v l
  | 0, v, l, h => h
  | d + 1, v, l, ⟨vs, h1, h2, h3, h4⟩ => ⟨vs, h1, h2.keep h3 hs hk, h3, fun j e va he hva => RExL.keep hs hk d va e.args (h4 j e va he hva)⟩
theorem RExL.more {w : World} {K K' : Nat → Prop} (hk : ∀ k, K k → k < w.heap.size → K' k) : ∀ (d : Nat) (v : Value) (l : List Ev.Ex), RExL d w (fun k => K k ∧ k < w.heap.size) v l → RExL d w K' v l
  | 0, v, l, h => h
  | d + 1, v, l, ⟨vs, h1, h2, h3, h4⟩ => ⟨vs, h1, h2, fun a n c e => hk _ (h3 a n c e).1 (h3 a n c e).2, fun j e va he hva => RExL.more hk d va e.args (h4 j e va he hva)⟩
theorem RExL.wide {w : World} {K K' : Nat → Prop} (hk : ∀ k, K k → K' k) : ∀ (d : Nat) (v : Value) (l : List Ev.Ex), RExL d w K v l → RExL d w K' v l
  | 0, v, l, h => h
  | d + 1, v, l, ⟨vs, h1, h2, h3, h4⟩ => ⟨vs, h1, h2, fun a n c e => hk _ (h3 a n c e), fun j e va he hva => RExL.wide hk d va e.args (h4 j e va he hva)⟩
theorem RExL.nil_ (d : Nat) (w : World) (K : Nat → Prop) : RExL d w K (.slice none 0 0) [] := by
  cases d with
  | zero => exact ⟨rfl, rfl⟩
  | succ d => exact ⟨[], rfl, SL.nil_ _ _ _, fun a n c e => (by cases e), fun j e va he => (by simp at he)⟩
/-- a row of one's own with expressions: own from lo on; their own rows in K, not in the row -/
def ExRow (w : World) (lo : Nat) (K : Nat → Prop) (d : Nat) (v : Value) (l : List Ev.Ex) : Prop :=
  ∃ vs : List Value, vs.length = l.length ∧ w.ownsRow lo 140 4 v l.length (exCells l vs) ∧ ∀ (j : Nat) e va, l[j]? = some e → vs[j]? = some va → RExL d w (fun k => K k ∧ k < w.heap.size ∧ v.ownBlock ≠ some k) va e.args
theorem ExRow.nil_ (w : World) (lo : Nat) (K : Nat → Prop) (d : Nat) : ExRow w lo K d (.slice none 0 0) [] := ⟨[], rfl, ⟨rfl, .inl ⟨rfl, rfl⟩⟩, fun j e va he => by simp at he⟩
theorem ExRow.whole {w : World} {lo : Nat} {K K' : Nat → Prop} {d : Nat} {v : Value} {l : List Ev.Ex} (h : ExRow w lo K d v l) (hk : ∀ k, K k → k < w.heap.size → K' k) (hl : ∀ k, lo ≤ k → k < w.heap.size → v.ownBlock = some k → K' k) : RExL (d + 1) w K' v l := by
  obtain ⟨vs, h1, h2, h3⟩ := h
  refine ⟨vs, h1, SL.of_own h2, fun a n c e => ?_, fun j e va he hva => RExL.wide (fun k hk' => hk k hk'.1 hk'.2.1) d va e.args (h3 j e va he hva)⟩
  subst e
  have := h2.lt a.block rfl
  exact hl a.block this.1 this.2 rfl
/-- the world after a call of the reader, a box for what came of it, a row that grew, and a store of it -/
theorem ex_push {wr w1 w3 : World} {b lo t8 j d : Nat} {T : TypeId} {cs : Array Value} {q q1 : Ev.PS} {va va3 x : Value} {l : List Ev.Ex} {e : Ev.Ex} {K : Nat → Prop}
    (hK : ∀ k, wr.heap.size ≤ k → K k) (hK8 : ¬ K t8) (hKb : ¬ K b) (hlo : lo ≤ wr.heap.size) (h8 : wr.heap[t8]? = some (.cells cs T (0, 0))) (hb8 : b ≠ t8) (ho8 : va.ownBlock ≠ some t8) (hob : va.ownBlock ≠ some b) (hl8 : lo ≤ t8)
    {vs : List Value} (hv1 : vs.length = l.length) (hv2 : wr.ownsRow lo 140 4 va l.length (exCells l vs)) (hv3 : ∀ (j : Nat) e va', l[j]? = some e → vs[j]? = some va' → RExL d wr (fun k => K k ∧ k < wr.heap.size ∧ va.ownBlock ≠ some k) va' e.args) (hA : PAt w1 b q1) (hF : PFr b wr w1) (hx : RExL d w1 (fun k => wr.heap.size ≤ k ∧ k < w1.heap.size) x e.args)
    (hg : ((w1.alloc (.cells (ex4 e x).toArray 140))).grownBy w3 va.ownBlock)
    (hown : w3.ownsRow lo 140 4 va3 (l.length + 1) (exCells l vs ++ ex4 e x))
    (hat : va3.ownBlock = va.ownBlock ∨ va3.ownBlock = some (w1.heap.size + 1)) :
    PAt (w3.setCell ⟨t8, j, none⟩ va3) b q1 ∧ PFr b wr (w1.alloc (.cells (ex4 e x).toArray 140)) ∧ (w3.setCell ⟨t8, j, none⟩ va3).heap[t8]? = some (.cells (cs.setIfInBounds j va3) T (0, 0)) ∧ ExRow (w3.setCell ⟨t8, j, none⟩ va3) lo K d va3 (l ++ [e]) ∧
      (∀ k, k < wr.heap.size → k ≠ b → k ≠ t8 → va.ownBlock ≠ some k → (w3.setCell ⟨t8, j, none⟩ va3).heap[k]? = wr.heap[k]?) ∧ w1.heap.size + 1 ≤ w3.heap.size ∧ va3.ownBlock ≠ some t8 ∧ va3.ownBlock ≠ some b := by
  have hF2 : PFr b wr (w1.alloc (.cells (ex4 e x).toArray 140)) := hF.on ((Below.refl _ _).alloc (Nat.le_refl _) _)
  have hbl := hA.lt
  have h8l : t8 < wr.heap.size := (Array.getElem?_eq_some_iff.1 h8).1
  have s1 := hF.size
  have s2 : (w1.alloc (.cells (ex4 e x).toArray 140)).heap.size = w1.heap.size + 1 := by simp
  have s3 : w1.heap.size + 1 ≤ w3.heap.size := by rw [← s2]; exact hg.size
  have ol : ∀ k, va.ownBlock = some k → lo ≤ k ∧ k < wr.heap.size := hv2.lt
  have o8 : va3.ownBlock ≠ some t8 := fun h => by
    rcases hat with h1 | h1
    · exact ho8 (h1 ▸ h)
    · rw [h1] at h; injection h with h; omega
  have st : ∀ k, k < wr.heap.size → k ≠ b → k ≠ t8 → va.ownBlock ≠ some k → (w3.setCell ⟨t8, j, none⟩ va3).heap[k]? = wr.heap[k]? := fun k h1 h2 h3 h4 => by
    rw [Below.heap_setCell w3 ⟨t8, j, none⟩ va3 k h3, hg.block k (by rw [s2]; omega) (fun h => h4 h.symm), hF2.block k h1 h2]
  have sn : ∀ k, wr.heap.size ≤ k → k < w1.heap.size → (w3.setCell ⟨t8, j, none⟩ va3).heap[k]? = w1.heap[k]? := fun k h1 h2 => by
    rw [Below.heap_setCell w3 ⟨t8, j, none⟩ va3 k (by show k ≠ t8; omega), hg.block k (by rw [s2]; omega) (fun h => by have := (ol k h.symm).2; omega)]
    exact ((Below.refl w1.heap.size w1).alloc (Nat.le_refl _) (.cells (ex4 e x).toArray 140)).block k h2
  have b8 : w3.heap[t8]? = some (.cells cs T (0, 0)) := by
    rw [hg.block t8 (by rw [s2]; omega) (fun h => ho8 h.symm), hF2.block t8 h8l (fun h => hb8 h.symm)]
    exact h8
  have bb : w3.heap[b]? = some (.cells (psCells q1) 83 (0, 0)) := by
    rw [hg.block b (by rw [s2]; omega) (fun h => hob h.symm)]
    exact (((Below.refl w1.heap.size w1).alloc (Nat.le_refl _) (.cells (ex4 e x).toArray 140)).block b hbl).trans hA
  have on : ∀ k, va.ownBlock ≠ some k → k < w1.heap.size → va3.ownBlock ≠ some k := fun k h1 h2 h => by
    rcases hat with h3 | h3
    · exact h1 (h3 ▸ h)
    · rw [h3] at h; injection h with h; omega
  refine ⟨(Below.heap_setCell w3 ⟨t8, j, none⟩ va3 b hb8).trans bb, hF2, heap_setCell_same w3 t8 j _ _ va3 b8, ?_, st, s3, o8, ?_⟩
  · refine ⟨vs ++ [x], by simp [hv1], ?_, fun i y u hy hu => ?_⟩
    · rw [exCells_snoc l vs e x hv1, List.length_append]
      exact ownsRow_setCell_other hown o8 _
    · have hsz : (w3.setCell ⟨t8, j, none⟩ va3).heap.size = w3.heap.size := by simp
      by_cases hi : i < l.length
      · rw [List.getElem?_append_left hi] at hy
        rw [List.getElem?_append_left (by omega)] at hu
        refine RExL.wide (fun k hk => ⟨hk.1, ?_, on k hk.2.2 (by omega)⟩) d u y.args (RExL.keep (by rw [hsz]; omega) (fun k hk hkl => st k hkl (fun h => hKb (h ▸ hk.1)) (fun h => hK8 (h ▸ hk.1)) hk.2.2) d u y.args (hv3 i y u hy hu))
        rw [hsz]; omega
      · rw [List.getElem?_append_right (by omega)] at hy
        rw [List.getElem?_append_right (by omega)] at hu
        have hi0 : i = l.length := by
          by_cases h : i = l.length
          · exact h
          · rw [List.getElem?_eq_none (by simp; omega)] at hy; cases hy
        subst hi0
        rw [hv1] at hu
        simp at hy hu
        subst hy hu
        refine RExL.wide (fun k hk => ⟨hK k hk.1, by rw [hsz]; omega, on k (fun h => by have := (ol k h).2; omega) hk.2⟩) d _ _ (RExL.keep (by rw [hsz]; omega) (fun k hk hkl => sn k hk.1 hkl) d _ _ hx)
  · intro h
    exact on b hob hbl h
theorem cell_four_mk (w : World) (e : Ev.Ex) (x : Value) (t : TypeId) : ∀ j u, (ex4 e x)[j]? = some u → (w.alloc (.cells (ex4 e x).toArray t)).cell? ((⟨w.heap.size, 0, none⟩ : Addr).add j) = some u := by
  intro j u hj
  match j, hj with
  | 0, hj => simp [ex4] at hj; subst hj; simp [Addr.add, ex4]
  | 1, hj => simp [ex4] at hj; subst hj; simp [Addr.add, ex4]
  | 2, hj => simp [ex4] at hj; subst hj; simp [Addr.add, ex4]
  | 3, hj => simp [ex4] at hj; subst hj; simp [Addr.add, ex4]
  | j + 4, hj => simp [ex4] at hj
theorem RExL.slice {d : Nat} {w : World} {K : Nat → Prop} {v : Value} {l : List Ev.Ex} (h : RExL d w K v l) : ∃ A c, v = .slice A l.length c := by
  cases d with
  | zero => obtain ⟨rfl, rfl⟩ := h; exact ⟨_, _, rfl⟩
  | succ d => obtain ⟨_, _, h2, _⟩ := h; obtain ⟨A, c, e, _⟩ := SL.form h2; exact ⟨A, c, e⟩
theorem one_four_mk {d : Nat} {w : World} {K : Nat → Prop} {e : Ev.Ex} {x : Value} (h : RExL d w K x e.args) : ∀ u ∈ ex4 e x, u.oneCell' = true := fun y hy => by
  obtain ⟨A, c, rfl⟩ := h.slice
  simp [ex4] at hy
  rcases hy with rfl | rfl | rfl | rfl <;> rfl
theorem Tryd.exprInfo : (Tryd.prog.info? 140).map (fun i => (i.zero, i.size, i.bytes)) = some (some (.agg #[.int .i64 0, .int .i64 0, .string ⟨#[]⟩, .slice none 0 0]), 4, 56) := by kernel_rfl
end Go.Proofs.YtpbflgemhcaooaaDoor
/- The document's reader: an expression; what its head is. -/
namespace Ev
open Go
structure HeadX where
  kind : Int
  n : Int
  name : List UInt8
  count : Nat
  q : PS
def headW (v : List UInt8) (p : PS) : HeadX :=
  if v = [115, 101, 108] then ⟨4, 0, [], 3, p⟩ else if v = [97, 116] then ⟨5, 0, (nameW p).1, 1, (nameW p).2⟩ else ⟨3, signOf v, [], 2, if signOf v = 0 then p.bad 1 else p⟩
def callW (f : PS → Ex × PS) (h : HeadX) : Ex × PS := (.mk h.kind h.n h.name (timesW f h.count h.q).1, isW [41] (timesW f h.count h.q).2)
theorem expr_paren {d : Nat} {p : PS} (h : (takeW p).1 = [40]) : exprW (d + 1) p = callW (exprW d) (headW (takeW (takeW p).2).1 (takeW (takeW p).2).2) := by
  rw [exprW]
  dsimp only
  rw [if_neg (by rw [h]; exact fun e => e rfl)]
  unfold headW callW
  generalize (takeW (takeW p).2).1 = v at *
  generalize (takeW (takeW p).2).2 = q at *
  by_cases h1 : v = [115, 101, 108]
  · rw [if_pos h1, if_pos h1]
  · rw [if_neg h1, if_neg h1]
    by_cases h2 : v = [97, 116]
    · rw [if_pos h2, if_pos h2]
    · rw [if_neg h2, if_neg h2]
theorem expr_num {d : Nat} {p : PS} (h : (takeW p).1 ≠ [40]) (hn : numOk (takeW p).1 = true) : exprW (d + 1) p = (.mk 1 (atoiN (takeW p).1) [] [], (takeW p).2) := by
  rw [exprW]
  dsimp only
  rw [if_pos h, if_pos hn]
theorem expr_name {d : Nat} {p : PS} (h : (takeW p).1 ≠ [40]) (hn : numOk (takeW p).1 = false) : exprW (d + 1) p = (.mk 2 0 (takeW p).1 [], if nameOk (takeW p).1 = true then (takeW p).2 else (takeW p).2.bad 7) := by
  rw [exprW]
  dsimp only
  rw [if_pos h, if_neg (by rw [hn]; decide)]
end Ev
namespace Go.Proofs.YtpbflgemhcaooaaDoor
open Go.RowKit
set_option linter.unusedSimpArgs false
set_option linter.unusedVariables false
def signCells : Array Value := (([] :: Ev.opSigns).map strW).toArray
theorem signs_at {k : Nat} (h : k < 13) {x : List UInt8} (hx : ([] :: Ev.opSigns).getD k [] = x) : signCells[k]? = some (.string ⟨(x).toArray⟩) := by
  unfold signCells
  rw [List.getElem?_toArray, List.getElem?_map]
  have : k < ([] :: Ev.opSigns).length := h
  rw [List.getD_eq_getElem?_getD, List.getElem?_eq_getElem this] at hx
  rw [List.getElem?_eq_getElem this]
  simp at hx
  rw [hx]
  rfl
set_option maxHeartbeats 800000 in
theorem signs_any (w : World) :
    Calls Tryd.prog 124 #[] w fun e w' => e = .returned (.slice (some ⟨w.heap.size, 0, none⟩) 13 13) ∧ w' = w.alloc (.cells signCells 9) := by
  go_enter Tryd.func124, Tryd.ntmps124
  go_wp2
  go_ret
  exact ⟨rfl, rfl⟩
/-- what holds behind the head of an expression -/
structure HeadAt (w wx : World) (b t8 : Nat) (h : Ev.HeadX) : Prop where
  at_ : PAt wx b h.q
  fr : PFr b w wx
  r4 : wx.heap[w.heap.size]? = some (.cells #[.int .i64 0, .int .i64 0, .string ⟨#[]⟩, .slice none 0 0] 140 (0, 0))
  r8 : wx.heap[t8]? = some (.cells #[.int .i64 h.kind, .int .i64 h.n, .string ⟨h.name.toArray⟩, .slice none 0 0] 140 (0, 0))
theorem signTo_le (v : List UInt8) : ∀ k, Ev.signTo v k ≤ k
  | 0 => Nat.le_refl _
  | k + 1 => by
    unfold Ev.signTo
    split
    · exact Nat.le_refl _
    · exact Nat.le_succ_of_le (signTo_le v k)
end Go.Proofs.YtpbflgemhcaooaaDoor
/- Boxes of arguments: their cells, and whole loads out of them (as in FlowTells; the two are never imported together). -/
namespace Go.Proofs.YtpbflgemhcaooaaDoor
open Go.RowKit
set_option linter.unusedSimpArgs false
set_option linter.unusedVariables false
theorem boxes3 (w : World) (c0 c1 c2 : Array Value) (t0 t1 t2 : TypeId) :
    (∀ (j : Nat) u, c0[j]? = some u → (((w.alloc (.cells c0 t0)).alloc (.cells c1 t1)).alloc (.cells c2 t2)).cell? ⟨w.heap.size, j, none⟩ = some u) ∧
    (∀ (j : Nat) u, c1[j]? = some u → (((w.alloc (.cells c0 t0)).alloc (.cells c1 t1)).alloc (.cells c2 t2)).cell? ⟨w.heap.size + 1, j, none⟩ = some u) ∧
    (∀ (j : Nat) u, c2[j]? = some u → (((w.alloc (.cells c0 t0)).alloc (.cells c1 t1)).alloc (.cells c2 t2)).cell? ⟨w.heap.size + 1 + 1, j, none⟩ = some u) := by
  have new : ∀ (v : World) (c : Array Value) (t : TypeId) (n j : Nat) u, n = v.heap.size → c[j]? = some u → (v.alloc (.cells c t)).cell? ⟨n, j, none⟩ = some u := fun v c t n j u hn hu => by
    subst hn
    rw [World.cell?_alloc_at _ _ _ _ rfl]
    exact hu
  have old : ∀ (v : World) (c : Array Value) (t : TypeId) (n j : Nat) u, n < v.heap.size → v.cell? ⟨n, j, none⟩ = some u → (v.alloc (.cells c t)).cell? ⟨n, j, none⟩ = some u := fun v c t n j u hn hu =>
    (((Below.refl v.heap.size v).alloc (Nat.le_refl _) (.cells c t)).cell (p := ⟨n, j, none⟩) hn).trans hu
  refine ⟨fun j u h => ?_, fun j u h => ?_, fun j u h => ?_⟩
  · exact old _ _ _ _ _ _ (by simp <;> omega) (old _ _ _ _ _ _ (by simp) (new _ _ _ _ _ _ rfl h))
  · exact old _ _ _ _ _ _ (by simp) (new _ _ _ _ _ _ (by simp) h)
  · exact new _ _ _ _ _ _ (by simp) h
theorem load_box {w u : World} {b : Nat} {T : TypeId} {cs : Array Value} {d : TypeDesc} (hu : Tryd.prog.underlying T = some d) (hd : d.isRow = true) (hs : cs.toList.toArray = cs) (hi : (Tryd.prog.info? T).map (·.size) = some cs.toList.length)
    (hc : ∀ (j : Nat) v, cs[j]? = some v → w.cell? ⟨b, j, none⟩ = some v) (hb : b < w.heap.size) (hbl : Below w.heap.size w u) : (Go.Instr.loadAt T (.pointer (some ⟨b, 0, none⟩))).run Tryd.prog u = .ok (.agg cs) u := by
  have h := run_loadAt_mid (P := Tryd.prog) u b 0 T cs.toList d (fun j v hj => by
    rw [Nat.zero_add]
    exact (hbl.cell (p := ⟨b, j, none⟩) hb).trans (hc j v (by simpa using hj))) hu hd hi
  rw [hs] at h
  exact h
theorem exec_load {ev : Operand → Value} {o : Oper} {w : World} {T : TypeId} {x : Operand} {p v : Value} (ho : o.op = .load T x) (hx : ev x = p) (h : (Go.Instr.loadAt T p).run Tryd.prog w = .ok v w) :
    (execOp ev o).run Tryd.prog w = .ok (.value v) w := by
  unfold execOp
  simp only [ho, hx, Sem.run_bind, h, Result.andThen_ok, Sem.run_pure]
theorem wpList_load_box {ops : Array Oper} {rest : List Oper} {op : Oper} {a : Act} {w : World} {Q : Exit → Act → World → Prop} (hgd : op.guard = none) (T : TypeId) (x : Operand) (ho : op.op = .load T x) {p v : Value} (hx : a.eval x = p)
    (hl : (Go.Instr.loadAt T p).run Tryd.prog w = .ok v w) (h : wpList Tryd.prog ops Q rest (a.put op.dst v) w) : wpList Tryd.prog ops Q (op :: rest) a w :=
  wpList_plain hgd fun K hK => by
    unfold Oper.wp
    rw [exec_load ho hx hl]
    exact hK _ _ h
theorem wpList_load_boxg {ops : Array Oper} {rest : List Oper} {op : Oper} {a : Act} {w : World} {Q : Exit → Act → World → Prop} (hw : Region.wanted op (yielded ops a.tmps) = true) (T : TypeId) (x : Operand) (ho : op.op = .load T x) {p v : Value} (hx : a.eval x = p)
    (hl : (Go.Instr.loadAt T p).run Tryd.prog w = .ok v w) (h : wpList Tryd.prog ops Q rest (a.put op.dst v) w) : wpList Tryd.prog ops Q (op :: rest) a w :=
  wpList_step fun K hK => by
    rw [if_pos hw]
    unfold Oper.wp
    rw [exec_load ho hx hl]
    exact hK _ _ h
end Go.Proofs.YtpbflgemhcaooaaDoor
/- A whole value stored into a box. -/
namespace Go.Proofs.YtpbflgemhcaooaaDoor
open Go.RowKit
set_option linter.unusedSimpArgs false
set_option linter.unusedVariables false
theorem below_setCells {B b : Nat} (hB : B ≤ b) : ∀ (vs : List Value) (o : Nat) (w W : World), Below B W w → Below B W (w.setCells b o vs)
  | [], o, w, W, h => h
  | v :: r, o, w, W, h => below_setCells hB r (o + 1) _ W (h.setCell hB _)
theorem box_there {w : World} {b : Nat} {T : TypeId} {cs : Array Value} (h : w.heap[b]? = some (.cells cs T (0, 0))) : w.there b 0 cs.size := fun j hj => by
  rw [Nat.zero_add]
  refine ⟨?_, ?_⟩
  · rw [cell_of_block h j]
    simp [hj]
  · unfold World.frozen?
    rw [h]
    simp
theorem wpList_put_box {ops : Array Oper} {rest : List Oper} {op : Oper} {a : Act} {w : World} {Q : Exit → Act → World → Prop} (hgd : op.guard = none) (ty : TypeId) (x y : Operand) (ho : op.op = .store ty x y)
    {b : Nat} {cells old : Array Value} {T : TypeId} (hx : a.eval x = .pointer (some ⟨b, 0, none⟩)) (hy : a.eval y = .agg cells) (hb : w.heap[b]? = some (.cells old T (0, 0))) (hz : old.size = cells.size)
    (hi : (Tryd.prog.info? ty).map (·.size) = some cells.size) (h1 : cells.all (·.oneCell') = true)
    (h : ∀ w', w'.rangeAt b 0 cells.toList → Below b w w' → w'.heap.size = w.heap.size → wpList Tryd.prog ops Q rest (a.put op.dst undef) w') : wpList Tryd.prog ops Q (op :: rest) a w := by
  have ht : w.there b 0 cells.size := hz ▸ box_there hb
  refine wpList_store_mid hgd ty x y ho b 0 cells hx hy ht hi h1 (h _ (World.rangeAt_setCells_same w b 0 cells.toList (by simpa using ht)) (below_setCells (Nat.le_refl _) _ _ _ _ (Below.refl _ _)) ?_)
  have hs : ∀ (vs : List Value) (o : Nat) (u : World), (u.setCells b o vs).heap.size = u.heap.size := by
    intro vs
    induction vs with
    | nil => intro o u; rfl
    | cons v r ih =>
      intro o u
      show ((u.setCell ⟨b, o, none⟩ v).setCells b (o + 1) r).heap.size = _
      rw [ih]
      simp
  exact hs _ _ _
theorem load_range {w : World} {b : Nat} {T : TypeId} {cs : Array Value} {d : TypeDesc} (hu : Tryd.prog.underlying T = some d) (hd : d.isRow = true) (hs : cs.toList.toArray = cs) (hi : (Tryd.prog.info? T).map (·.size) = some cs.toList.length)
    (hc : w.rangeAt b 0 cs.toList) : (loadVar T ⟨b, 0, none⟩).run Tryd.prog w = .ok (.agg cs) w := by
  have h := run_loadVar_mid (P := Tryd.prog) w b 0 T cs.toList d hc hu hd hi
  rw [hs] at h
  exact h
end Go.Proofs.YtpbflgemhcaooaaDoor
