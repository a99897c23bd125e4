import Derived.Test.YtljcgcllhcdleaaMm14
import Derived.Test.YtljcgcllhcdleaaMm12
import Derived.Test.YtljcgcllhcdleaaMm8
import Derived.Test.YtljcgcllhcdleaaMm27
import Derived.Test.YtljcgcllhcdleaaMm28
import Derived.Deep.DeepCutAuto
import Derived.Test.YtljcgcllhcdleaaMm19
/- Chapter 2, the reference: what is wrong with a table. -/
namespace Ev
def opsMost : List Int := [0, 3, 3, 3, 3, 3, 3, 3, 3, 3, 3, 3, 3, 7, 0, 1, 1, 3]
theorem opsMost_at : ∀ j : Nat, j < 18 → opsMost[j]? = some (most (j : Int)) := by decide
end Ev
namespace Go.Proofs.Ytljcgcllhcdleaa
open Go.RowKit
set_option linter.unusedSimpArgs false
set_option linter.unusedVariables false
theorem or_most (x m : Int) (hx : -9223372036854775808 ≤ x ∧ x ≤ 9223372036854775807) (hm : 0 ≤ m ∧ m ≤ 7) : (bits .or .i64 x m != m) = !Ev.subBits x m := by
  obtain ⟨k, rfl⟩ : ∃ k : Nat, m = k := ⟨m.toNat, by omega⟩
  by_cases h0 : 0 ≤ x
  · obtain ⟨n, rfl⟩ : ∃ n : Nat, x = n := ⟨x.toNat, by omega⟩
    rw [(bits_nat .i64 63 (by decide) wraps63 n k (by omega) (by omega)).2]
    unfold Ev.subBits
    simp only [Int.toNat_natCast, decide_eq_true h0, Bool.true_and]
    by_cases h : n ||| k = k
    · rw [h]; simp
    · have : ((n ||| k : Nat) : Int) ≠ (k : Int) := fun e => h (by exact_mod_cast e)
      have e1 : (((n ||| k : Nat) : Int) != (k : Int)) = true := bne_iff_ne.2 this
      have e2 : (n ||| k == k) = false := beq_eq_false_iff_ne.2 h
      rw [e1, e2]
      rfl
  · have hs : Ev.subBits x k = false := by
      unfold Ev.subBits
      simp [h0]
    rw [hs]
    have hu : bits .or .i64 x k < 0 := by
      have e1 : (BitVec.ofInt 64 x).toNat = (x + 18446744073709551616).toNat := by
        simp only [BitVec.toNat_ofInt]
        congr 1
        omega
      have h1 : (BitVec.ofInt 64 x).toNat ≤ (BitVec.ofInt 64 x ||| BitVec.ofInt 64 (k : Int)).toNat := by
        rw [BitVec.toNat_or]
        exact Nat.left_le_or
      have h2 : (BitVec.ofInt 64 x ||| BitVec.ofInt 64 (k : Int)).toNat < 18446744073709551616 := BitVec.isLt _
      show IntKind.i64.wrap ((BitVec.ofInt 64 x ||| BitVec.ofInt 64 (k : Int)).toNat : Int) < 0
      generalize (BitVec.ofInt 64 x ||| BitVec.ofInt 64 (k : Int)).toNat = z at *
      rw [IntKind.wrap_i64]
      omega
    have : bits .or .i64 x k ≠ k := by omega
    simp [this]
theorem most_bounds (op : Int) : 0 ≤ Ev.most op ∧ Ev.most op ≤ 7 := by
  unfold Ev.most Ev.all
  repeat' split
  all_goals decide
set_option maxHeartbeats 800000 in
theorem ops_any (w : World) :
    Calls Try.prog 52 #[] w fun e w' => e = .returned (.tuple #[.slice (some ⟨w.heap.size, 0, none⟩) 18 18, .slice (some ⟨w.heap.size + 1, 0, none⟩) 18 18]) ∧ ∃ S, w' = (w.alloc S).alloc (.cells (Ev.opsMost.map (Value.int .i64)).toArray 3) := by
  go_enter Try.func52, Try.ntmps52
  go_wp2
  go_ret2
  exact ⟨rfl, _, rfl⟩
set_option maxRecDepth 4000 in
set_option maxHeartbeats 1600000 in
theorem refWrong_any (t : List Int) (w : World) (ht : t.length = 18) (hr : ∀ x ∈ t, -9223372036854775808 ≤ x ∧ x ≤ 9223372036854775807) :
    Calls Try.prog 18 #[tableV t] w fun e w' => e = .returned (.int .i64 (Ev.wrong t)) ∧ Below w.heap.size w w' := by
  have HT := Lib.hid (box_table (w := w) ht 29)
  have h00 : ∃ x0, Ev.seenOf t 0 = x0 := ⟨_, rfl⟩
  obtain ⟨x0, hx0⟩ := h00
  have c0 := (HT.out.cell 0 (by decide))
  rw [show t.getD 0 0 = x0 from hx0] at c0
  unfold Ev.wrong
  rw [hx0]
  have HL := Lib.hid ht
  have HR := Lib.hid hr
  clear ht hr
  unfold tableV at *
  generalize (t.map (Value.int .i64)).toArray = ta at *
  go_enter Try.func18, Try.ntmps18
  by_cases h0 : x0 = 0
  case neg =>
    go_wp2
    go_ret
    refine ⟨?_, by (repeat' (first | (with_reducible exact Below.refl _ _) | (with_reducible assumption) | (with_reducible refine Below.alloc ?_ ?_ _) | (with_reducible refine below_drewN ?_ _) | (with_reducible refine Below.drew ?_) | (with_reducible refine Below.setCell ?_ ?_ _) | (with_reducible refine Below.trans ?_ (Below.mono (by with_reducible assumption) ?_)) | go_size))⟩
    rfl
  subst h0
  rw [if_neg (by decide)]
  generalize hres : Ev.wrongFrom t 17 1 = res
  have HRES := Lib.hid hres
  clear hres
  go_wp2_with fail
  refine (ops_any _).mono ?_
  rintro e w1 ⟨rfl, S, rfl⟩
  go_wp2_with fail
  go_loopw [5] (fun z wr => ∃ j : Nat, 1 ≤ j ∧ j ≤ 18 ∧ z = .int .i64 j ∧ Hid (Ev.wrongFrom t (18 - j) j = res) ∧ ∃ n, wr = (((w.alloc (.cells ta 29)).alloc S).alloc (.cells (Ev.opsMost.map (Value.int .i64)).toArray 3)).drewN n) (fun z _ => 18 - (intOf z).toNat)
  case atStart => exact ⟨1, by omega, by omega, rfl, HRES.out, by (first | exact ⟨0, rfl⟩ | exact ⟨_, rfl⟩ | (simp only [World.drewN_drewN, World.drew_is_drewN]; exact ⟨_, rfl⟩))⟩
  case round =>
    obtain ⟨j, hj1, hj, rfl, HW, nw, rfl⟩ := hrel
    by_cases hlt : j < 18
    · have c1 : (((w.alloc (.cells ta 29)).alloc S).alloc (.cells (Ev.opsMost.map (Value.int .i64)).toArray 3)).cell? ⟨w.heap.size, j, none⟩ = some (.int .i64 (Ev.seenOf t j)) := by
        have := HT.out.cell j hlt
        have hB : Below (w.heap.size + 1) (w.alloc (.cells ta 29)) (((w.alloc (.cells ta 29)).alloc S).alloc (.cells (Ev.opsMost.map (Value.int .i64)).toArray 3)) := by (repeat' (first | (with_reducible exact Below.refl _ _) | (with_reducible assumption) | (with_reducible refine Below.alloc ?_ ?_ _) | (with_reducible refine below_drewN ?_ _) | (with_reducible refine Below.drew ?_) | (with_reducible refine Below.setCell ?_ ?_ _) | (with_reducible refine Below.trans ?_ (Below.mono (by with_reducible assumption) ?_)) | go_size))
        exact (hB.cell (p := ⟨w.heap.size, j, none⟩) (by go_size)).trans this
      have c2 : (((w.alloc (.cells ta 29)).alloc S).alloc (.cells (Ev.opsMost.map (Value.int .i64)).toArray 3)).cell? ⟨w.heap.size + 1 + 1, j, none⟩ = some (.int .i64 (Ev.most j)) := by
        have h1 := Ev.opsMost_at j hlt
        have h2 : (Ev.opsMost.map (Value.int .i64)).toArray[j]? = some (.int .i64 (Ev.most j)) := by
          rw [List.getElem?_toArray, List.getElem?_map, h1]
          rfl
        go_simp
      have hx := HR.out (Ev.seenOf t j) (by
        unfold Ev.seenOf
        simp only [Int.toNat_natCast]
        rw [List.getD_eq_getElem?_getD, List.getElem?_eq_getElem (by have := HL.out; omega)]
        exact List.getElem_mem _)
      have hq := or_most _ _ hx (most_bounds (j : Int))
      have hstep : Ev.wrongFrom t (18 - j) j = if Ev.subBits (Ev.seenOf t j) (Ev.most j) then Ev.wrongFrom t (18 - (j + 1)) (j + 1) else 3 := by
        rw [show 18 - j = (18 - (j + 1)) + 1 by omega]
        rfl
      have HST := Lib.hid hstep
      clear hstep hx c0
      generalize Ev.opsMost.map (Value.int .i64) = om at *
      generalize Ev.seenOf t j = x at *
      generalize Ev.most j = m at *
      cases hs : Ev.subBits x m with
      | true =>
        rw [hs] at hq
        have hn := Lib.hid (HST.out.symm.trans HW.out)
        rw [if_pos hs] at hn
        clear hs
        go_wp2_with fail
        go_quiet (fail)
        go_wp2_with fail
        go_roundw
        case rel => exact ⟨j + 1, by omega, by omega, by go_num, hn, by (first | exact ⟨0, rfl⟩ | exact ⟨_, rfl⟩ | (simp only [World.drewN_drewN, World.drew_is_drewN]; exact ⟨_, rfl⟩))⟩
        case measure => simp [intOf]; omega
      | false =>
        rw [hs] at hq
        have hn := Lib.hid (HST.out.symm.trans HW.out)
        rw [if_neg (by simp [hs])] at hn
        clear hs
        go_wp2_with fail
        go_quiet (fail)
        go_wp2
        go_ret
        refine ⟨?_, by (repeat' (first | (with_reducible exact Below.refl _ _) | (with_reducible assumption) | (with_reducible refine Below.alloc ?_ ?_ _) | (with_reducible refine below_drewN ?_ _) | (with_reducible refine Below.drew ?_) | (with_reducible refine Below.setCell ?_ ?_ _) | (with_reducible refine Below.trans ?_ (Below.mono (by with_reducible assumption) ?_)) | go_size))⟩
        rw [← hn.out]
        rfl
    · have hj18 : j = 18 := by omega
      subst hj18
      have hn := HW.out
      have : res = 0 := hn.symm
      subst this
      go_wp2
      go_ret
      exact ⟨rfl, by (repeat' (first | (with_reducible exact Below.refl _ _) | (with_reducible assumption) | (with_reducible refine Below.alloc ?_ ?_ _) | (with_reducible refine below_drewN ?_ _) | (with_reducible refine Below.drew ?_) | (with_reducible refine Below.setCell ?_ ?_ _) | (with_reducible refine Below.trans ?_ (Below.mono (by with_reducible assumption) ?_)) | go_size))⟩
end Go.Proofs.Ytljcgcllhcdleaa
/- evlaw11.alive: a closed fact. -/
namespace Ev
def mb0 : List Int := [20, 0, 1, 0, 0, 0, 0, 0]
def mg0 : Given := { words := [4], arrays := [] }
def mt0 : List Int := [0, 0, 0, 0, 0, 0, 0, 0, 0, 0, 0, 0, 0, 0, 0, 0, 0, 0]
theorem m0_load : loadErr mb0 0 = 0 ∧ (load mb0 0).length = 1 := by decide +kernel
theorem m0_run : (runImage mb0 1 0 mt0 mg0 1 3).ended.word = 4 ∧ (runImage mb0 1 0 mt0 mg0 1 3).err = 0 ∧ (runImage mb0 1 0 mt0 mg0 1 3).steps = 1 ∧ (runImage mb0 1 0 mt0 mg0 1 3).mode = 1 ∧ (runImage mb0 1 0 mt0 mg0 1 3).leaks.length = 1 := by decide +kernel
theorem m0_byt : Byt mb0 := by
  intro x hx
  have : ∀ x ∈ mb0, 0 ≤ x ∧ x ≤ 255 := by decide
  exact this x hx
end Ev
namespace Go.Proofs.Ytljcgcllhcdleaa
open Go.RowKit
set_option linter.unusedSimpArgs false
set_option linter.unusedVariables false
theorem mgiven0 : MGiven Ev.mg0 := ⟨by intro x hx; simp [Ev.mg0] at hx; subst hx; exact ⟨by decide, by decide⟩, by intro a ha; simp [Ev.mg0] at ha, by intro a ha; simp [Ev.mg0] at ha, by decide⟩
theorem m0_load_any (vb : Value) (u : World) (hb : RBytes u u.heap.size vb Ev.mb0) :
    Calls Try.prog 45 #[.agg #[vb, .int .i64 1, .slice none 0 0]] u fun e w' => ∃ A c, e = .returned (.tuple #[.slice A 1 c, .int .i64 0]) ∧ Below u.heap.size u w' := by
  refine (load_any Ev.mb0 1 0 [] vb (.slice none 0 0) u hb (SL.nil_ _ _ _) Ev.m0_byt rfl (by decide)).mono ?_
  rintro e w' ⟨v, rfl, hr, hb⟩
  obtain ⟨A, c, rfl, _, _⟩ := SL.form hr
  rw [Ev.m0_load.1, Ev.m0_load.2]
  exact ⟨A, c, rfl, hb⟩
theorem m0_run_any (vb vw : Value) (u : World) (hb : RBytes u u.heap.size vb Ev.mb0) (hw : RInts u u.heap.size vw [4]) :
    Calls Try.prog 49 #[.agg #[vb, .int .i64 1, .slice none 0 0], .agg #[.int .i64 0, .int .i64 0, .int .i64 0, .int .i64 0, .int .i64 0, .int .i64 0, .int .i64 0, .int .i64 0, .int .i64 0, .int .i64 0, .int .i64 0, .int .i64 0, .int .i64 0, .int .i64 0, .int .i64 0, .int .i64 0, .int .i64 0, .int .i64 0], .agg #[vw, .slice none 0 0], .int .i64 1, .int .i64 3] u fun e w' => ∃ tr A n c A2 c2, e = .returned (.agg #[.int .i64 4, .bool tr, .slice A n c, .int .i64 0, .int .i64 1, .int .i64 1, .slice A2 1 c2]) ∧ Below u.heap.size u w' := by
  refine (machRun_any Ev.mb0 1 [] Ev.mt0 Ev.mg0 1 3 vb (.slice none 0 0) (.agg #[vw, .slice none 0 0]) u hb (SL.nil_ _ _ _) ⟨_, _, rfl, hw, RLists.nil_ _ _⟩ rfl (by decide) Ev.m0_byt (by decide) mgiven0 (by decide) (by decide)).mono ?_
  rintro e w' ⟨v, rfl, ⟨va, vl, rfl, ha, hl⟩, hb⟩
  obtain ⟨_, _, ha, _⟩ := ha
  obtain ⟨A, c, rfl, _, _⟩ := SL.form ha
  obtain ⟨_, _, hl, _⟩ := hl
  obtain ⟨A2, c2, rfl, _, _⟩ := SL.form hl
  obtain ⟨h1, h2, h3, h4, h5⟩ := Ev.m0_run
  simp only [List.length_nil]
  rw [h1, h2, h3, h4, h5]
  exact ⟨_, A, _, c, A2, c2, rfl, hb⟩
set_option maxRecDepth 20000 in
set_option maxHeartbeats 3200000 in
theorem alive_mach (w : World) : Calls Try.prog 51 #[] w fun e w' => e = .returned (.bool true) ∧ Below w.heap.size w w' := by
  have HB := Lib.hid (RBytes.lit (W := w) (t := 5) (cs := #[.int .u8 20, .int .u8 0, .int .u8 1, .int .u8 0, .int .u8 0, .int .u8 0, .int .u8 0, .int .u8 0]) (l := Ev.mb0) rfl rfl rfl (by unfold maxLen; decide))
  go_enter Try.func51, Try.ntmps51
  go_upto_region 2 with fail
  go_upto_region 3 with (go_at_call 45; refine (m0_load_any _ _ (SL.at_ HB.out (by (repeat' (first | (with_reducible exact Below.refl _ _) | (with_reducible assumption) | (with_reducible refine Below.alloc ?_ ?_ _) | (with_reducible refine below_drewN ?_ _) | (with_reducible refine Below.drew ?_) | (with_reducible refine Below.setCell ?_ ?_ _) | (with_reducible refine Below.trans ?_ (Below.mono (by with_reducible assumption) ?_)) | go_size))) (Nat.le_refl _))).mono ?_; rintro e w1 ⟨A1, c1, rfl, hb1⟩)
  have f0 : w1.cell? ⟨w.heap.size + 1, 0, none⟩ = some (.slice (some ⟨w.heap.size, 0, none⟩) 8 8) := (hb1.cell (p := ⟨w.heap.size + 1, 0, none⟩) (by go_size)).trans (by go_simp)
  have f1 : w1.cell? ⟨w.heap.size + 1, 1, none⟩ = some (.int .i64 1) := (hb1.cell (p := ⟨w.heap.size + 1, 1, none⟩) (by go_size)).trans (by go_simp)
  have f2 : w1.cell? ⟨w.heap.size + 1, 2, none⟩ = some (.slice none 0 0) := (hb1.cell (p := ⟨w.heap.size + 1, 2, none⟩) (by go_size)).trans (by go_simp)
  have s1 := hb1.size
  simp only [World.size_alloc] at s1
  have HB1 : Hid (RBytes (w1.alloc (.cells #[.int .i64 4] 3)) (w1.alloc (.cells #[.int .i64 4] 3)).heap.size (.slice (some ⟨w.heap.size, 0, none⟩) 8 8) Ev.mb0) := by
    refine Lib.hid (SL.at_ HB.out (Below.alloc (Below.trans ?_ (hb1.mono ?_)) ?_ _) (Nat.le_refl _))
    · exact Below.alloc (Below.refl _ _) (by simp) _
    · simp
    · simp; omega
  have HW1 := Lib.hid (RInts.lit (W := w1) (t := 3) (cs := #[.int .i64 4]) (l := [4]) rfl rfl rfl (by unfold maxLen; decide))
  go_upto_region 4 with (go_at_call 49; refine (m0_run_any _ _ _ HB1.out HW1.out).mono ?_; rintro e w2 ⟨tr, A2, n2, c2, A3, c3, rfl, hb2⟩)
  go_wp2_with fail
  go_ret
  exact ⟨rfl, by have s2 := hb2.size; simp only [World.size_alloc] at s2; (repeat' (first | (with_reducible exact Below.refl _ _) | (with_reducible assumption) | (with_reducible refine Below.alloc ?_ ?_ _) | (with_reducible refine below_drewN ?_ _) | (with_reducible refine Below.drew ?_) | (with_reducible refine Below.setCell ?_ ?_ _) | (with_reducible refine Below.trans ?_ (Below.mono (by with_reducible assumption) ?_)) | go_size))⟩
end Go.Proofs.Ytljcgcllhcdleaa
/- Chapter 11, plain: more steps are no less. -/
namespace Ev
theorem mcRun_more (l : List Instr) (t : List Int) (most more : Int) (hm : most ≤ more) : ∀ (n n' : Nat) (m : Mc) (lk : List Leak), most + 1 ≤ (m.st : Int) + n → more + 1 ≤ (m.st : Int) + n' → 1 ≤ n' →
    (mcRun l t most n m lk).err ≠ 12 → mcRun l t more n' m lk = mcRun l t most n m lk
  | 0, n', m, lk, _, _, _, h => absurd rfl h
  | n + 1, 0, m, lk, _, _, h1, _ => by omega
  | n + 1, n' + 1, m, lk, h1, h2, h3, h => by
    rw [mcRun] at h
    rw [mcRun, mcRun]
    by_cases c1 : most ≤ (m.st : Int)
    · rw [if_pos c1] at h; exact absurd rfl h
    rw [if_neg c1] at h
    rw [if_neg (show ¬ more ≤ (m.st : Int) by omega), if_neg c1]
    by_cases c2 : l.length ≤ m.pc
    · rw [if_pos c2, if_pos c2]
    rw [if_neg c2] at h
    rw [if_neg c2, if_neg c2]
    by_cases c3 : (mcStep (l.getD m.pc default) { m with st := m.st + 1 }).2 = true
    · rw [if_pos c3, if_pos c3]
    rw [if_neg c3] at h
    rw [if_neg c3, if_neg c3]
    have hs := mcStep_st (l.getD m.pc default) { m with st := m.st + 1 }
    have hs' : (mcStep (l.getD m.pc default) { m with st := m.st + 1 }).1.st = m.st + 1 := hs
    exact mcRun_more l t most more hm n n' _ _ (by rw [hs']; omega) (by rw [hs']; omega) (by omega) h
theorem mcRun_err (l : List Instr) (t : List Int) (most : Int) : ∀ (n : Nat) (m : Mc) (lk : List Leak), ((mcRun l t most n m lk).err = 12 ∨ (mcRun l t most n m lk).err = 8) ∧ (mcRun l t most n m lk) = ranErr (mcRun l t most n m lk).err ∨
    ((mcRun l t most n m lk).err = 0 ∧ (lk.length = m.st → (mcRun l t most n m lk).leaks.length = (mcRun l t most n m lk).steps) ∧ (m.st : Int) + 1 ≤ (mcRun l t most n m lk).steps ∧ (mcRun l t most n m lk).steps ≤ most)
  | 0, m, lk => .inl ⟨.inl rfl, rfl⟩
  | n + 1, m, lk => by
    rw [mcRun]
    by_cases c1 : most ≤ (m.st : Int)
    · rw [if_pos c1]; exact .inl ⟨.inl rfl, rfl⟩
    rw [if_neg c1]
    by_cases c2 : l.length ≤ m.pc
    · rw [if_pos c2]; exact .inl ⟨.inr rfl, rfl⟩
    rw [if_neg c2]
    have hs : (mcStep (l.getD m.pc default) { m with st := m.st + 1 }).1.st = m.st + 1 := mcStep_st _ _
    by_cases c3 : (mcStep (l.getD m.pc default) { m with st := m.st + 1 }).2 = true
    · rw [if_pos c3]
      refine .inr ⟨rfl, fun h => ?_, ?_, ?_⟩
      · show (((lk ++ [_]).length : Nat) : Int) = ((mcStep _ _).1.st : Int)
        rw [hs]
        simp
        omega
      · show _ ≤ ((mcStep _ _).1.st : Int)
        rw [hs]; omega
      · show ((mcStep _ _).1.st : Int) ≤ _
        rw [hs]; omega
    rw [if_neg c3]
    rcases mcRun_err l t most n (mcStep (l.getD m.pc default) { m with st := m.st + 1 }).1 (lk ++ [leak t (l.getD m.pc default) m.pc m.s (m.s.mode == 0)]) with h | ⟨h1, h2, h3, h4⟩
    · exact .inl h
    · refine .inr ⟨h1, fun h => h2 ?_, ?_, h4⟩
      · rw [hs]; simp; omega
      · rw [hs] at h3; omega
theorem loadErr_cases (b : List Int) (na : Nat) : loadErr b na = 0 ∨ loadErr b na = 1 ∨ loadErr b na = 2 ∨ loadErr b na = 3 := by
  have hp : ∀ c, parseErr c = 0 ∨ parseErr c = 1 ∨ parseErr c = 2 ∨ parseErr c = 3 := fun c => by
    unfold parseErr
    split
    · split
      · exact .inr (.inl rfl)
      split
      · exact .inr (.inr (.inr rfl))
      · exact .inl rfl
    · exact .inr (.inr (.inl rfl))
  have h1 : ∀ c, loadOne na c = 0 ∨ loadOne na c = 1 ∨ loadOne na c = 2 ∨ loadOne na c = 3 := fun c => by
    unfold loadOne
    split
    · exact hp c
    split
    · exact .inr (.inr (.inr rfl))
    · exact .inl rfl
  have hf : ∀ n k, loadErrFrom b na n k = 0 ∨ loadErrFrom b na n k = 1 ∨ loadErrFrom b na n k = 2 ∨ loadErrFrom b na n k = 3 := by
    intro n
    induction n with
    | zero => intro k; exact .inl rfl
    | succ n ih =>
      intro k
      rw [loadErrFrom]
      split
      · exact h1 _
      · exact ih _
  unfold loadErr
  split
  · exact .inr (.inr (.inl rfl))
  · exact hf _ _
/-- MORE IS NO LESS -/
theorem image_more {b : List Int} {p : Int} {na : Nat} {t : List Int} {g : Given} {mode most more : Int} (hm : most ≤ more) (h : (runImage b p na t g mode most).err ≠ 12) : runImage b p na t g mode more = runImage b p na t g mode most := by
  unfold runImage at h ⊢
  by_cases c1 : loadErr b na ≠ 0
  · rw [if_pos c1, if_pos c1]
  rw [if_neg c1] at h
  rw [if_neg c1, if_neg c1]
  by_cases c2 : mode < 0 ∨ 1 < mode ∨ (g.words.length : Int) ≠ p ∨ 120 ≤ p ∨ g.arrays.length ≠ na
  · rw [if_pos c2, if_pos c2]
  rw [if_neg c2] at h
  rw [if_neg c2, if_neg c2]
  exact mcRun_more _ t most more hm _ _ _ [] (by simp [mc0]; omega) (by simp [mc0]; omega) (by omega) h
theorem image_err (b : List Int) (p : Int) (na : Nat) (t : List Int) (g : Given) (mode most : Int) : ((runImage b p na t g mode most).err ≠ 0 ∧ runImage b p na t g mode most = ranErr (runImage b p na t g mode most).err) ∨
    ((runImage b p na t g mode most).err = 0 ∧ ((runImage b p na t g mode most).leaks.length : Int) = (runImage b p na t g mode most).steps ∧ 1 ≤ (runImage b p na t g mode most).steps ∧ (runImage b p na t g mode most).steps ≤ most) := by
  unfold runImage
  by_cases c1 : loadErr b na ≠ 0
  · rw [if_pos c1]; exact .inl ⟨c1, rfl⟩
  rw [if_neg c1]
  by_cases c2 : mode < 0 ∨ 1 < mode ∨ (g.words.length : Int) ≠ p ∨ 120 ≤ p ∨ g.arrays.length ≠ na
  · rw [if_pos c2]; exact .inl ⟨by decide, rfl⟩
  rw [if_neg c2]
  rcases mcRun_err (load b na) t most (most.toNat + 1) (mc0 g mode) [] with ⟨h1, h2⟩ | ⟨h1, h2, h3, h4⟩
  · refine .inl ⟨?_, h2⟩
    rcases h1 with h1 | h1 <;> rw [h1] <;> decide
  · refine .inr ⟨h1, h2 rfl, ?_, h4⟩
    have : ((mc0 g mode).st : Int) = 0 := rfl
    omega
end Ev
