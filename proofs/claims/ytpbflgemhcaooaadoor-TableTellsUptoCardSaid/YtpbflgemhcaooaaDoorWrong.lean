import Derived.Test.YtpbflgemhcaooaaDoorQuiet
import Derived.Test.YtpbflgemhcaooaaDoorRefTwo
import Derived.Test.YtpbflgemhcaooaaDoorTabAt
/- Chapter 2, the reference: what is wrong with a table. -/
namespace Ev
def opsMost : List Int := [0, 3, 3, 3, 3, 3, 3, 3, 3, 3, 3, 3, 3, 7, 0, 1, 1, 3]
theorem opsMost_at : ∀ j : Nat, j < 18 → opsMost[j]? = some (most (j : Int)) := by decide
end Ev
namespace Go.Proofs.YtpbflgemhcaooaaDoor
open Go.RowKit
set_option linter.unusedSimpArgs false
set_option linter.unusedVariables false
theorem or_most (x m : Int) (hx : -9223372036854775808 ≤ x ∧ x ≤ 9223372036854775807) (hm : 0 ≤ m ∧ m ≤ 7) : (bits .or .i64 x m != m) = !Ev.subBits x m := by
  obtain ⟨k, rfl⟩ : ∃ k : Nat, m = k := ⟨m.toNat, by omega⟩
  by_cases h0 : 0 ≤ x
  · obtain ⟨n, rfl⟩ : ∃ n : Nat, x = n := ⟨x.toNat, by omega⟩
    rw [(bits_nat .i64 63 (by decide) wraps63 n k (by omega) (by omega)).2]
    unfold Ev.subBits
    simp only [Int.toNat_natCast, decide_eq_true h0, Bool.true_and]
    by_cases h : n ||| k = k
    · rw [h]; simp
    · have : ((n ||| k : Nat) : Int) ≠ (k : Int) := fun e => h (by exact_mod_cast e)
      have e1 : (((n ||| k : Nat) : Int) != (k : Int)) = true := bne_iff_ne.2 this
      have e2 : (n ||| k == k) = false := beq_eq_false_iff_ne.2 h
      rw [e1, e2]
      rfl
  · have hs : Ev.subBits x k = false := by
      unfold Ev.subBits
      simp [h0]
    rw [hs]
    have hu : bits .or .i64 x k < 0 := by
      have e1 : (BitVec.ofInt 64 x).toNat = (x + 18446744073709551616).toNat := by
        simp only [BitVec.toNat_ofInt]
        congr 1
        omega
      have h1 : (BitVec.ofInt 64 x).toNat ≤ (BitVec.ofInt 64 x ||| BitVec.ofInt 64 (k : Int)).toNat := by
        rw [BitVec.toNat_or]
        exact Nat.left_le_or
      have h2 : (BitVec.ofInt 64 x ||| BitVec.ofInt 64 (k : Int)).toNat < 18446744073709551616 := BitVec.isLt _
      show IntKind.i64.wrap ((BitVec.ofInt 64 x ||| BitVec.ofInt 64 (k : Int)).toNat : Int) < 0
      generalize (BitVec.ofInt 64 x ||| BitVec.ofInt 64 (k : Int)).toNat = z at *
      rw [IntKind.wrap_i64]
      omega
    have : bits .or .i64 x k ≠ k := by omega
    simp [this]
theorem most_bounds (op : Int) : 0 ≤ Ev.most op ∧ Ev.most op ≤ 7 := by
  unfold Ev.most Ev.all
  repeat' split
  all_goals decide
set_option maxHeartbeats 800000 in
theorem ops_any (w : World) :
    Calls Tryd.prog 29 #[] w fun e w' => e = .returned (.tuple #[.slice (some ⟨w.heap.size, 0, none⟩) 18 18, .slice (some ⟨w.heap.size + 1, 0, none⟩) 18 18]) ∧ ∃ S, w' = (w.alloc S).alloc (.cells (Ev.opsMost.map (Value.int .i64)).toArray 3) := by
  go_enter Tryd.func29, Tryd.ntmps29
  go_wp2
  go_ret2
  exact ⟨rfl, _, rfl⟩
set_option maxRecDepth 4000 in
set_option maxHeartbeats 1600000 in
theorem refWrong_any (t : List Int) (w : World) (ht : t.length = 18) (hr : ∀ x ∈ t, -9223372036854775808 ≤ x ∧ x ≤ 9223372036854775807) :
    Calls Tryd.prog 37 #[tableV t] w fun e w' => e = .returned (.int .i64 (Ev.wrong t)) ∧ Below w.heap.size w w' := by
  have HT := Lib.hid (box_table (w := w) ht 58)
  have h00 : ∃ x0, Ev.seenOf t 0 = x0 := ⟨_, rfl⟩
  obtain ⟨x0, hx0⟩ := h00
  have c0 := (HT.out.cell 0 (by decide))
  rw [show t.getD 0 0 = x0 from hx0] at c0
  unfold Ev.wrong
  rw [hx0]
  have HL := Lib.hid ht
  have HR := Lib.hid hr
  clear ht hr
  unfold tableV at *
  generalize (t.map (Value.int .i64)).toArray = ta at *
  go_enter Tryd.func37, Tryd.ntmps37
  by_cases h0 : x0 = 0
  case neg =>
    go_wp2
    go_ret
    refine ⟨?_, by (repeat' first | with_reducible (first | exact Below.refl _ _ | assumption | refine Below.alloc ?_ ?_ _ | refine below_drewN ?_ _ | refine Below.drew ?_ | refine Below.setCell ?_ ?_ _ | refine Below.trans ?_ (Below.mono (by with_reducible assumption) ?_)) | go_size)⟩
    rfl
  subst h0
  rw [if_neg (by decide)]
  generalize hres : Ev.wrongFrom t 17 1 = res
  have HRES := Lib.hid hres
  clear hres
  go_wp2_with fail
  refine (ops_any _).mono ?_
  rintro e w1 ⟨rfl, S, rfl⟩
  go_wp2_with fail
  go_loopw [5] (fun z wr => ∃ j : Nat, 1 ≤ j ∧ j ≤ 18 ∧ z = .int .i64 j ∧ Hid (Ev.wrongFrom t (18 - j) j = res) ∧ ∃ n, wr = (((w.alloc (.cells ta 58)).alloc S).alloc (.cells (Ev.opsMost.map (Value.int .i64)).toArray 3)).drewN n) (fun z _ => 18 - (intOf z).toNat)
  case atStart => exact ⟨1, by omega, by omega, rfl, HRES.out, by (first | exact ⟨0, rfl⟩ | exact ⟨_, rfl⟩ | (simp only [World.drewN_drewN, World.drew_is_drewN]; exact ⟨_, rfl⟩))⟩
  case round =>
    obtain ⟨j, hj1, hj, rfl, HW, nw, rfl⟩ := hrel
    by_cases hlt : j < 18
    · have c1 : (((w.alloc (.cells ta 58)).alloc S).alloc (.cells (Ev.opsMost.map (Value.int .i64)).toArray 3)).cell? ⟨w.heap.size, j, none⟩ = some (.int .i64 (Ev.seenOf t j)) := by
        have := HT.out.cell j hlt
        have hB : Below (w.heap.size + 1) (w.alloc (.cells ta 58)) (((w.alloc (.cells ta 58)).alloc S).alloc (.cells (Ev.opsMost.map (Value.int .i64)).toArray 3)) := by (repeat' first | with_reducible (first | exact Below.refl _ _ | assumption | refine Below.alloc ?_ ?_ _ | refine below_drewN ?_ _ | refine Below.drew ?_ | refine Below.setCell ?_ ?_ _ | refine Below.trans ?_ (Below.mono (by with_reducible assumption) ?_)) | go_size)
        exact (hB.cell (p := ⟨w.heap.size, j, none⟩) (by go_size)).trans this
      have c2 : (((w.alloc (.cells ta 58)).alloc S).alloc (.cells (Ev.opsMost.map (Value.int .i64)).toArray 3)).cell? ⟨w.heap.size + 1 + 1, j, none⟩ = some (.int .i64 (Ev.most j)) := by
        have h1 := Ev.opsMost_at j hlt
        have h2 : (Ev.opsMost.map (Value.int .i64)).toArray[j]? = some (.int .i64 (Ev.most j)) := by
          rw [List.getElem?_toArray, List.getElem?_map, h1]
          rfl
        go_simp
      have hx := HR.out (Ev.seenOf t j) (by
        unfold Ev.seenOf
        simp only [Int.toNat_natCast]
        rw [List.getD_eq_getElem?_getD, List.getElem?_eq_getElem (by have := HL.out; omega)]
        exact List.getElem_mem _)
      have hq := or_most _ _ hx (most_bounds (j : Int))
      have hstep : Ev.wrongFrom t (18 - j) j = if Ev.subBits (Ev.seenOf t j) (Ev.most j) then Ev.wrongFrom t (18 - (j + 1)) (j + 1) else 3 := by
        rw [show 18 - j = (18 - (j + 1)) + 1 by omega]
        rfl
      have HST := Lib.hid hstep
      clear hstep hx c0
      generalize Ev.opsMost.map (Value.int .i64) = om at *
      generalize Ev.seenOf t j = x at *
      generalize Ev.most j = m at *
      cases hs : Ev.subBits x m with
      | true =>
        rw [hs] at hq
        have hn := Lib.hid (HST.out.symm.trans HW.out)
        rw [if_pos hs] at hn
        clear hs
        go_wp2_with fail
        go_quiet (fail)
        go_wp2_with fail
        go_roundw
        case rel => exact ⟨j + 1, by omega, by omega, by go_num, hn, by (first | exact ⟨0, rfl⟩ | exact ⟨_, rfl⟩ | (simp only [World.drewN_drewN, World.drew_is_drewN]; exact ⟨_, rfl⟩))⟩
        case measure => simp [intOf]; omega
      | false =>
        rw [hs] at hq
        have hn := Lib.hid (HST.out.symm.trans HW.out)
        rw [if_neg (by simp [hs])] at hn
        clear hs
        go_wp2_with fail
        go_quiet (fail)
        go_wp2
        go_ret
        refine ⟨?_, by (repeat' first | with_reducible (first | exact Below.refl _ _ | assumption | refine Below.alloc ?_ ?_ _ | refine below_drewN ?_ _ | refine Below.drew ?_ | refine Below.setCell ?_ ?_ _ | refine Below.trans ?_ (Below.mono (by with_reducible assumption) ?_)) | go_size)⟩
        rw [← hn.out]
        rfl
    · have hj18 : j = 18 := by omega
      subst hj18
      have hn := HW.out
      have : res = 0 := hn.symm
      subst this
      go_wp2
      go_ret
      exact ⟨rfl, by (repeat' first | with_reducible (first | exact Below.refl _ _ | assumption | refine Below.alloc ?_ ?_ _ | refine below_drewN ?_ _ | refine Below.drew ?_ | refine Below.setCell ?_ ?_ _ | refine Below.trans ?_ (Below.mono (by with_reducible assumption) ?_)) | go_size)⟩
end Go.Proofs.YtpbflgemhcaooaaDoor
