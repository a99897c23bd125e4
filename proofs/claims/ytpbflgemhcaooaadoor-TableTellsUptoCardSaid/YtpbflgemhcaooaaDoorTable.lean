import Derived.Test.YtpbflgemhcaooaaDoorAtoi
import Derived.Test.YtpbflgemhcaooaaDoorTabPlain
import Derived.Test.YtpbflgemhcaooaaDoorWrong
/- Chapter 2: the program's functions on tables. -/
namespace Go.Proofs.YtpbflgemhcaooaaDoor
open Go.RowKit
set_option linter.unusedSimpArgs false
set_option linter.unusedVariables false
def strV (l : List UInt8) : Value := .string ⟨l.toArray⟩
def namesCells : Array Value := (Ev.opNames.map strV).toArray
theorem names_any (w : World) :
    Calls Tryd.prog 30 #[] w fun e w' => e = .returned (.slice (some ⟨w.heap.size, 0, none⟩) 17 17) ∧ w' = w.alloc (.cells namesCells 9) := by
  go_enter Tryd.func30, Tryd.ntmps30
  go_wp2
  go_ret
  exact ⟨rfl, rfl⟩
set_option maxHeartbeats 800000 in
theorem all_any (op : Int) (w : World) :
    Calls Tryd.prog 35 #[.int .i64 op] w fun e w' => e = .returned (.int .i64 (Ev.all op)) ∧ w' = w := by
  unfold Ev.all
  go_enter Tryd.func35, Tryd.ntmps35
  rcases (show (1 ≤ op ∧ op ≤ 12) ∨ op = 16 ∨ op = 13 ∨ op = 15 ∨ op = 17 ∨ (¬ (1 ≤ op ∧ op ≤ 12) ∧ op ≠ 16 ∧ op ≠ 13 ∧ op ≠ 15 ∧ op ≠ 17) by omega) with h | h | h | h | h | h
  · rw [if_pos h]
    have g1 : decide (1 ≤ op) = true := decide_eq_true h.1
    have g2 : decide (op ≤ 12) = true := decide_eq_true h.2
    clear h
    go_wp2
    go_ret
    exact ⟨rfl, rfl⟩
  · subst h
    go_wp2
    go_ret
    exact ⟨rfl, rfl⟩
  · subst h
    go_wp2
    go_ret
    exact ⟨rfl, rfl⟩
  · subst h
    go_wp2
    go_ret
    exact ⟨rfl, rfl⟩
  · subst h
    go_wp2
    go_ret
    exact ⟨rfl, rfl⟩
  · obtain ⟨h1, h2, h3, h4, h5⟩ := h
    rw [if_neg h1, if_neg h3, if_neg h4, if_neg h2, if_neg h5]
    have g2 : (op == 16) = false := beq_eq_false_iff_ne.2 h2
    have g3 : (op == 13) = false := beq_eq_false_iff_ne.2 h3
    have g4 : (op == 15) = false := beq_eq_false_iff_ne.2 h4
    have g5 : (op == 17) = false := beq_eq_false_iff_ne.2 h5
    by_cases h6 : 1 ≤ op
    · have g6 : decide (1 ≤ op) = true := decide_eq_true h6
      have g7 : decide (op ≤ 12) = false := decide_eq_false (by omega)
      clear h1 h2 h3 h4 h5 h6
      go_wp2
      go_ret
      exact ⟨rfl, rfl⟩
    · have g6 : decide (1 ≤ op) = false := decide_eq_false h6
      clear h1 h2 h3 h4 h5 h6
      go_wp2
      go_ret
      exact ⟨rfl, rfl⟩
theorem bv_andNot (X M : BitVec 64) : X &&& ~~~M = 0#64 ↔ X ||| M = M := by
  constructor
  · intro h
    apply BitVec.eq_of_getLsbD_eq
    intro i hi
    have h1 := congrArg (fun z => z.getLsbD i) h
    simp [hi] at h1
    rw [BitVec.getLsbD_or]
    cases hx : X.getLsbD i <;> cases hm : M.getLsbD i <;> simp_all
  · intro h
    apply BitVec.eq_of_getLsbD_eq
    intro i hi
    have h1 := congrArg (fun z => z.getLsbD i) h
    rw [BitVec.getLsbD_or] at h1
    simp [hi]
    cases hx : X.getLsbD i <;> cases hm : M.getLsbD i <;> simp_all
theorem wrap_zero (n : Nat) (h : n < 18446744073709551616) (m : Int) (hm : 0 ≤ m ∧ m ≤ 7) : IntKind.i64.wrap (n : Int) = m ↔ (n : Int) = m := by
  rw [IntKind.wrap_i64]
  omega
theorem andNot_most (x m : Int) (hx : -9223372036854775808 ≤ x ∧ x ≤ 9223372036854775807) (hm : 0 ≤ m ∧ m ≤ 7) : (bits .andNot .i64 x m != 0) = !Ev.subBits x m := by
  rw [← or_most x m hx hm]
  have e1 : bits .andNot .i64 x m = 0 ↔ BitVec.ofInt 64 x &&& ~~~(BitVec.ofInt 64 m) = 0#64 := by
    show IntKind.i64.wrap ((BitVec.ofInt 64 x &&& ~~~(BitVec.ofInt 64 m)).toNat : Int) = 0 ↔ _
    rw [wrap_zero _ (BitVec.isLt _) 0 (by decide)]
    constructor
    · intro h
      apply BitVec.eq_of_toNat_eq
      simpa using h
    · intro h
      rw [h]
      rfl
  have e2 : bits .or .i64 x m = m ↔ BitVec.ofInt 64 x ||| BitVec.ofInt 64 m = BitVec.ofInt 64 m := by
    show IntKind.i64.wrap ((BitVec.ofInt 64 x ||| BitVec.ofInt 64 m).toNat : Int) = m ↔ _
    rw [wrap_zero _ (BitVec.isLt _) m hm]
    have hm2 : ((BitVec.ofInt 64 m).toNat : Int) = m := by
      rw [BitVec.toNat_ofInt]
      omega
    constructor
    · intro h
      apply BitVec.eq_of_toNat_eq
      omega
    · intro h
      rw [h]
      exact hm2
  have e3 := bv_andNot (BitVec.ofInt 64 x) (BitVec.ofInt 64 m)
  by_cases h : bits .andNot .i64 x m = 0
  · have h2 := e2.2 (e3.1 (e1.1 h))
    rw [h, h2]
    simp
  · have h2 : bits .or .i64 x m ≠ m := fun h3 => h (e1.2 (e3.2 (e2.1 h3)))
    rw [bne_iff_ne.2 h, bne_iff_ne.2 h2]
set_option maxRecDepth 4000 in
set_option maxHeartbeats 1600000 in
theorem wrongP_any (t : List Int) (w : World) (ht : t.length = 18) (hr : ∀ x ∈ t, -9223372036854775808 ≤ x ∧ x ≤ 9223372036854775807) :
    Calls Tryd.prog 36 #[tableV t] w fun e w' => e = .returned (.int .i64 (Ev.wrong t)) ∧ Below w.heap.size w w' := by
  have HT := Lib.hid (box_table (w := w) ht 58)
  have h00 : ∃ x0, Ev.seenOf t 0 = x0 := ⟨_, rfl⟩
  obtain ⟨x0, hx0⟩ := h00
  have c0 := (HT.out.cell 0 (by decide))
  rw [show t.getD 0 0 = x0 from hx0] at c0
  unfold Ev.wrong
  rw [hx0]
  have HL := Lib.hid ht
  have HR := Lib.hid hr
  clear ht hr
  unfold tableV at *
  generalize (t.map (Value.int .i64)).toArray = ta at *
  go_enter Tryd.func36, Tryd.ntmps36
  by_cases h0 : x0 = 0
  case neg =>
    go_wp2
    go_ret
    refine ⟨?_, by (repeat' first | with_reducible (first | exact Below.refl _ _ | assumption | refine Below.alloc ?_ ?_ _ | refine below_drewN ?_ _ | refine Below.drew ?_ | refine Below.setCell ?_ ?_ _ | refine Below.trans ?_ (Below.mono (by with_reducible assumption) ?_)) | go_size)⟩
    rfl
  subst h0
  rw [if_neg (by decide)]
  generalize hres : Ev.wrongFrom t 17 1 = res
  have HRES := Lib.hid hres
  clear hres
  go_wp2_with fail
  go_loopw [3] (fun z wr => ∃ j : Nat, 1 ≤ j ∧ j ≤ 18 ∧ z = .int .i64 j ∧ Hid (Ev.wrongFrom t (18 - j) j = res) ∧ w.alloc (.cells ta 58) = wr) (fun z _ => 18 - (intOf z).toNat)
  case atStart => exact ⟨1, by omega, by omega, rfl, HRES.out, rfl⟩
  case round =>
    obtain ⟨j, hj1, hj, rfl, HW, rfl⟩ := hrel
    by_cases hlt : j < 18
    case neg =>
      obtain rfl : j = 18 := by omega
      obtain rfl : (0 : Int) = res := HW.out
      go_wp2_with fail
      go_ret
      exact ⟨rfl, by (repeat' first | with_reducible (first | exact Below.refl _ _ | assumption | refine Below.alloc ?_ ?_ _ | refine below_drewN ?_ _ | refine Below.drew ?_ | refine Below.setCell ?_ ?_ _ | refine Below.trans ?_ (Below.mono (by with_reducible assumption) ?_)) | go_size)⟩
    case pos =>
    have c1 : (w.alloc (.cells ta 58)).cell? ⟨w.heap.size, j, none⟩ = some (.int .i64 (Ev.seenOf t j)) := HT.out.cell j hlt
    have hx := HR.out (Ev.seenOf t j) (by
      unfold Ev.seenOf
      simp only [Int.toNat_natCast]
      rw [List.getD_eq_getElem?_getD, List.getElem?_eq_getElem (by have := HL.out; omega)]
      exact List.getElem_mem _)
    have hq := andNot_most _ _ hx (most_bounds (j : Int))
    have hstep : Ev.wrongFrom t (18 - j) j = if Ev.subBits (Ev.seenOf t j) (Ev.most j) then Ev.wrongFrom t (18 - (j + 1)) (j + 1) else 3 := by
      rw [show 18 - j = (18 - (j + 1)) + 1 by omega]
      rfl
    have HST := Lib.hid hstep
    clear hstep hx c0
    by_cases h16 : j = 16
    · subst h16
      have e16 : Ev.most ((16 : Nat) : Int) = 1 := rfl
      rw [e16] at hq HST
      generalize Ev.seenOf t ((16 : Nat) : Int) = x at *
      cases hs : Ev.subBits x 1 with
      | true =>
        rw [hs] at hq
        simp only [Bool.not_true] at hq
        have HN := Lib.hid (show Ev.wrongFrom t (18 - (16 + 1)) (16 + 1) = res by rw [← HW.out, HST.out, if_pos hs])
        clear hs
        go_wp2_with (go_at_call 35; refine (all_any _ _).mono ?_; rintro e w' ⟨rfl, rfl⟩)
        go_roundw
        case rel => exact ⟨17, by omega, by omega, by go_num, HN.out, by first | rfl | trivial⟩
        case measure => simp [intOf]
      | false =>
        rw [hs] at hq
        simp only [Bool.not_false] at hq
        obtain rfl : (3 : Int) = res := by rw [← HW.out, HST.out, if_neg (by rw [hs]; simp)]
        clear hs
        go_wp2_with (go_at_call 35; refine (all_any _ _).mono ?_; rintro e w' ⟨rfl, rfl⟩)
        go_ret
        exact ⟨rfl, by (repeat' first | with_reducible (first | exact Below.refl _ _ | assumption | refine Below.alloc ?_ ?_ _ | refine below_drewN ?_ _ | refine Below.drew ?_ | refine Below.setCell ?_ ?_ _ | refine Below.trans ?_ (Below.mono (by with_reducible assumption) ?_)) | go_size)⟩
    · have hm : Ev.most (j : Int) = Ev.all (j : Int) := by unfold Ev.most; rw [if_neg (by omega)]
      have g16 : ((j : Int) == 16) = false := beq_eq_false_iff_ne.2 (by omega)
      rw [hm] at hq HST
      have CA := Lib.hid (all_any (j : Int))
      generalize Ev.seenOf t (j : Int) = x at *
      generalize Ev.all (j : Int) = m at *
      clear h16 hm
      cases hs : Ev.subBits x m with
      | true =>
        rw [hs] at hq
        simp only [Bool.not_true] at hq
        have HN := Lib.hid (show Ev.wrongFrom t (18 - (j + 1)) (j + 1) = res by rw [← HW.out, HST.out, if_pos hs])
        clear hs
        go_wp2_with (go_at_call 35; refine (CA.out _).mono ?_; rintro e w' ⟨rfl, rfl⟩)
        go_roundw
        case rel => exact ⟨j + 1, by omega, by omega, by go_num, HN.out, by first | rfl | trivial⟩
        case measure => simp [intOf]; omega
      | false =>
        rw [hs] at hq
        simp only [Bool.not_false] at hq
        obtain rfl : (3 : Int) = res := by rw [← HW.out, HST.out, if_neg (by rw [hs]; simp)]
        clear hs
        go_wp2_with (go_at_call 35; refine (CA.out _).mono ?_; rintro e w' ⟨rfl, rfl⟩)
        go_ret
        exact ⟨rfl, by (repeat' first | with_reducible (first | exact Below.refl _ _ | assumption | refine Below.alloc ?_ ?_ _ | refine below_drewN ?_ _ | refine Below.drew ?_ | refine Below.setCell ?_ ?_ _ | refine Below.trans ?_ (Below.mono (by with_reducible assumption) ?_)) | go_size)⟩
end Go.Proofs.YtpbflgemhcaooaaDoor
