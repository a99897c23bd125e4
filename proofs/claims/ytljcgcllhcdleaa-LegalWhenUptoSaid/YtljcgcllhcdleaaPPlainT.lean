import Derived.Test.YtljcgcllhcdleaaLg19
import Derived.Test.YtljcgcllhcdleaaLg4
/- The reference's question whether a table shows nothing of what all else can be made of. -/
namespace Ev
theorem seen_small {t : List Int} (ht : wrong t = 0) {op : Int} (h : 1 ≤ op ∧ op ≤ 17) : 0 ≤ seenOf t op ∧ seenOf t op ≤ 7 := by
  have hm : most op = 0 ∨ most op = 1 ∨ most op = 3 ∨ most op = 7 := by
    unfold most all
    repeat' split
    all_goals simp
  exact (sub_small hm (table_bits ht h.1 h.2)).1
def plainOps : List Nat := [1, 2, 3, 4, 5, 15]
end Ev
namespace Go.Proofs.Ytljcgcllhcdleaa
open Go.RowKit
set_option linter.unusedSimpArgs false
set_option linter.unusedVariables false
set_option maxRecDepth 4000 in
set_option maxHeartbeats 3200000 in
theorem plain_any (t : List Int) (w : World) (hl : t.length = 18) (ht : Ev.wrong t = 0) :
    Calls Try.prog 25 #[tableV t] w fun e w' => e = .returned (.bool (Ev.plainT t)) ∧ Below w.heap.size w w' := by
  have HT := Lib.hid (box_table (w := w) hl 29)
  have sm := fun op h => Ev.seen_small (t := t) ht (op := op) h
  obtain ⟨x1, e1⟩ : ∃ x, Ev.seenOf t 1 = x := ⟨_, rfl⟩
  obtain ⟨x2, e2⟩ : ∃ x, Ev.seenOf t 2 = x := ⟨_, rfl⟩
  obtain ⟨x3, e3⟩ : ∃ x, Ev.seenOf t 3 = x := ⟨_, rfl⟩
  obtain ⟨x4, e4⟩ : ∃ x, Ev.seenOf t 4 = x := ⟨_, rfl⟩
  obtain ⟨x5, e5⟩ : ∃ x, Ev.seenOf t 5 = x := ⟨_, rfl⟩
  obtain ⟨x15, e15⟩ : ∃ x, Ev.seenOf t 15 = x := ⟨_, rfl⟩
  obtain ⟨x6, e6⟩ : ∃ x, Ev.seenOf t 6 = x := ⟨_, rfl⟩
  obtain ⟨x7, e7⟩ : ∃ x, Ev.seenOf t 7 = x := ⟨_, rfl⟩
  obtain ⟨x17, e17⟩ : ∃ x, Ev.seenOf t 17 = x := ⟨_, rfl⟩
  have b6 := sm 6 (by decide)
  have b7 := sm 7 (by decide)
  have b17 := sm 17 (by decide)
  rw [e6] at b6
  rw [e7] at b7
  rw [e17] at b17
  obtain ⟨b6, B6⟩ := b6
  obtain ⟨b7, B7⟩ := b7
  obtain ⟨b17, B17⟩ := b17
  have HP : Hid (Ev.plainT t = (decide (x1 = 0 ∧ x2 = 0 ∧ x3 = 0 ∧ x4 = 0 ∧ x5 = 0 ∧ x15 = 0) && decide (x6 % 2 = 0 ∧ x7 % 2 = 0 ∧ x17 / 2 = 0))) := Lib.hid (by unfold Ev.plainT; rw [e1, e2, e3, e4, e5, e15, e6, e7, e17])
  have c1 := HT.out.cell 1 (by decide)
  have c2 := HT.out.cell 2 (by decide)
  have c3 := HT.out.cell 3 (by decide)
  have c4 := HT.out.cell 4 (by decide)
  have c5 := HT.out.cell 5 (by decide)
  have c15 := HT.out.cell 15 (by decide)
  have c6 := HT.out.cell 6 (by decide)
  have c7 := HT.out.cell 7 (by decide)
  have c17 := HT.out.cell 17 (by decide)
  rw [show t.getD 1 0 = x1 from e1] at c1
  rw [show t.getD 2 0 = x2 from e2] at c2
  rw [show t.getD 3 0 = x3 from e3] at c3
  rw [show t.getD 4 0 = x4 from e4] at c4
  rw [show t.getD 5 0 = x5 from e5] at c5
  rw [show t.getD 15 0 = x15 from e15] at c15
  rw [show t.getD 6 0 = x6 from e6] at c6
  rw [show t.getD 7 0 = x7 from e7] at c7
  rw [show t.getD 17 0 = x17 from e17] at c17
  have bA : Below w.heap.size w (w.alloc (.cells (t.map (Value.int .i64)).toArray 29)) := (Below.refl _ _).alloc (Nat.le_refl _) _
  clear sm e1 e2 e3 e4 e5 e15 e6 e7 e17 hl ht HT
  unfold tableV
  generalize (t.map (Value.int .i64)).toArray = ta at *
  go_enter Try.func25, Try.ntmps25
  go_upto_region 1 with fail
  have zA : w.heap.size < (w.alloc (.cells ta 29)).heap.size := by simp
  generalize w.alloc (.cells ta 29) = wA at *
  have sA := bA.size
  go_wp2_with fail
  go_loop [7] (fun z => ∃ k : Nat, k ≤ 6 ∧ z = .int .i64 (k : Int) ∧ Hid ((1 ≤ k → x1 = 0) ∧ (2 ≤ k → x2 = 0) ∧ (3 ≤ k → x3 = 0) ∧ (4 ≤ k → x4 = 0) ∧ (5 ≤ k → x5 = 0) ∧ (6 ≤ k → x15 = 0))) (fun z => 6 - (intOf z).toNat)
  case atStart => exact ⟨0, by omega, rfl, Lib.hid ⟨by omega, by omega, by omega, by omega, by omega, by omega⟩⟩
  case round =>
    obtain ⟨k, hk, rfl, HK⟩ := hrel
    rcases (show k = 0 ∨ k = 1 ∨ k = 2 ∨ k = 3 ∨ k = 4 ∨ k = 5 ∨ k = 6 by omega) with rfl | rfl | rfl | rfl | rfl | rfl | rfl
    · by_cases h0 : x1 = 0
      · have g0 : (x1 != 0) = false := by rw [h0]; rfl
        have HN : Hid ((1 ≤ 1 → x1 = 0) ∧ (2 ≤ 1 → x2 = 0) ∧ (3 ≤ 1 → x3 = 0) ∧ (4 ≤ 1 → x4 = 0) ∧ (5 ≤ 1 → x5 = 0) ∧ (6 ≤ 1 → x15 = 0)) := Lib.hid (by
          obtain ⟨h1, h2, h3, h4, h5, h6⟩ := HK.out
          refine ⟨fun h => ?_, fun h => ?_, fun h => ?_, fun h => ?_, fun h => ?_, fun h => ?_⟩ <;> first | exact h0 | exact h1 (by omega) | exact h2 (by omega) | exact h3 (by omega) | exact h4 (by omega) | exact h5 (by omega) | exact h6 (by omega) | omega)
        clear h0
        go_wp2_with fail
        go_round
        case rel => exact ⟨1, by omega, rfl, HN⟩
        case measure => simp [intOf]
      · have g0 : (x1 != 0) = true := bne_iff_ne.2 h0
        have HD := Lib.hid h0
        clear h0
        go_wp2_with fail
        go_ret
        exact ⟨by rw [HP.out, decide_eq_false (fun h => HD.out h.1)]; rfl, by (repeat' first | with_reducible (first | exact Below.refl _ _ | assumption | refine Below.alloc ?_ ?_ _ | refine below_drewN ?_ _ | refine Below.drew ?_ | refine Below.setCell ?_ ?_ _ | refine Below.trans ?_ (Below.mono (by with_reducible assumption) ?_)) | go_size)⟩
    · by_cases h0 : x2 = 0
      · have g0 : (x2 != 0) = false := by rw [h0]; rfl
        have HN : Hid ((1 ≤ 2 → x1 = 0) ∧ (2 ≤ 2 → x2 = 0) ∧ (3 ≤ 2 → x3 = 0) ∧ (4 ≤ 2 → x4 = 0) ∧ (5 ≤ 2 → x5 = 0) ∧ (6 ≤ 2 → x15 = 0)) := Lib.hid (by
          obtain ⟨h1, h2, h3, h4, h5, h6⟩ := HK.out
          refine ⟨fun h => ?_, fun h => ?_, fun h => ?_, fun h => ?_, fun h => ?_, fun h => ?_⟩ <;> first | exact h0 | exact h1 (by omega) | exact h2 (by omega) | exact h3 (by omega) | exact h4 (by omega) | exact h5 (by omega) | exact h6 (by omega) | omega)
        clear h0
        go_wp2_with fail
        go_round
        case rel => exact ⟨2, by omega, rfl, HN⟩
        case measure => simp [intOf]
      · have g0 : (x2 != 0) = true := bne_iff_ne.2 h0
        have HD := Lib.hid h0
        clear h0
        go_wp2_with fail
        go_ret
        exact ⟨by rw [HP.out, decide_eq_false (fun h => HD.out h.2.1)]; rfl, by (repeat' first | with_reducible (first | exact Below.refl _ _ | assumption | refine Below.alloc ?_ ?_ _ | refine below_drewN ?_ _ | refine Below.drew ?_ | refine Below.setCell ?_ ?_ _ | refine Below.trans ?_ (Below.mono (by with_reducible assumption) ?_)) | go_size)⟩
    · by_cases h0 : x3 = 0
      · have g0 : (x3 != 0) = false := by rw [h0]; rfl
        have HN : Hid ((1 ≤ 3 → x1 = 0) ∧ (2 ≤ 3 → x2 = 0) ∧ (3 ≤ 3 → x3 = 0) ∧ (4 ≤ 3 → x4 = 0) ∧ (5 ≤ 3 → x5 = 0) ∧ (6 ≤ 3 → x15 = 0)) := Lib.hid (by
          obtain ⟨h1, h2, h3, h4, h5, h6⟩ := HK.out
          refine ⟨fun h => ?_, fun h => ?_, fun h => ?_, fun h => ?_, fun h => ?_, fun h => ?_⟩ <;> first | exact h0 | exact h1 (by omega) | exact h2 (by omega) | exact h3 (by omega) | exact h4 (by omega) | exact h5 (by omega) | exact h6 (by omega) | omega)
        clear h0
        go_wp2_with fail
        go_round
        case rel => exact ⟨3, by omega, rfl, HN⟩
        case measure => simp [intOf]
      · have g0 : (x3 != 0) = true := bne_iff_ne.2 h0
        have HD := Lib.hid h0
        clear h0
        go_wp2_with fail
        go_ret
        exact ⟨by rw [HP.out, decide_eq_false (fun h => HD.out h.2.2.1)]; rfl, by (repeat' first | with_reducible (first | exact Below.refl _ _ | assumption | refine Below.alloc ?_ ?_ _ | refine below_drewN ?_ _ | refine Below.drew ?_ | refine Below.setCell ?_ ?_ _ | refine Below.trans ?_ (Below.mono (by with_reducible assumption) ?_)) | go_size)⟩
    · by_cases h0 : x4 = 0
      · have g0 : (x4 != 0) = false := by rw [h0]; rfl
        have HN : Hid ((1 ≤ 4 → x1 = 0) ∧ (2 ≤ 4 → x2 = 0) ∧ (3 ≤ 4 → x3 = 0) ∧ (4 ≤ 4 → x4 = 0) ∧ (5 ≤ 4 → x5 = 0) ∧ (6 ≤ 4 → x15 = 0)) := Lib.hid (by
          obtain ⟨h1, h2, h3, h4, h5, h6⟩ := HK.out
          refine ⟨fun h => ?_, fun h => ?_, fun h => ?_, fun h => ?_, fun h => ?_, fun h => ?_⟩ <;> first | exact h0 | exact h1 (by omega) | exact h2 (by omega) | exact h3 (by omega) | exact h4 (by omega) | exact h5 (by omega) | exact h6 (by omega) | omega)
        clear h0
        go_wp2_with fail
        go_round
        case rel => exact ⟨4, by omega, rfl, HN⟩
        case measure => simp [intOf]
      · have g0 : (x4 != 0) = true := bne_iff_ne.2 h0
        have HD := Lib.hid h0
        clear h0
        go_wp2_with fail
        go_ret
        exact ⟨by rw [HP.out, decide_eq_false (fun h => HD.out h.2.2.2.1)]; rfl, by (repeat' first | with_reducible (first | exact Below.refl _ _ | assumption | refine Below.alloc ?_ ?_ _ | refine below_drewN ?_ _ | refine Below.drew ?_ | refine Below.setCell ?_ ?_ _ | refine Below.trans ?_ (Below.mono (by with_reducible assumption) ?_)) | go_size)⟩
    · by_cases h0 : x5 = 0
      · have g0 : (x5 != 0) = false := by rw [h0]; rfl
        have HN : Hid ((1 ≤ 5 → x1 = 0) ∧ (2 ≤ 5 → x2 = 0) ∧ (3 ≤ 5 → x3 = 0) ∧ (4 ≤ 5 → x4 = 0) ∧ (5 ≤ 5 → x5 = 0) ∧ (6 ≤ 5 → x15 = 0)) := Lib.hid (by
          obtain ⟨h1, h2, h3, h4, h5, h6⟩ := HK.out
          refine ⟨fun h => ?_, fun h => ?_, fun h => ?_, fun h => ?_, fun h => ?_, fun h => ?_⟩ <;> first | exact h0 | exact h1 (by omega) | exact h2 (by omega) | exact h3 (by omega) | exact h4 (by omega) | exact h5 (by omega) | exact h6 (by omega) | omega)
        clear h0
        go_wp2_with fail
        go_round
        case rel => exact ⟨5, by omega, rfl, HN⟩
        case measure => simp [intOf]
      · have g0 : (x5 != 0) = true := bne_iff_ne.2 h0
        have HD := Lib.hid h0
        clear h0
        go_wp2_with fail
        go_ret
        exact ⟨by rw [HP.out, decide_eq_false (fun h => HD.out h.2.2.2.2.1)]; rfl, by (repeat' first | with_reducible (first | exact Below.refl _ _ | assumption | refine Below.alloc ?_ ?_ _ | refine below_drewN ?_ _ | refine Below.drew ?_ | refine Below.setCell ?_ ?_ _ | refine Below.trans ?_ (Below.mono (by with_reducible assumption) ?_)) | go_size)⟩
    · by_cases h0 : x15 = 0
      · have g0 : (x15 != 0) = false := by rw [h0]; rfl
        have HN : Hid ((1 ≤ 6 → x1 = 0) ∧ (2 ≤ 6 → x2 = 0) ∧ (3 ≤ 6 → x3 = 0) ∧ (4 ≤ 6 → x4 = 0) ∧ (5 ≤ 6 → x5 = 0) ∧ (6 ≤ 6 → x15 = 0)) := Lib.hid (by
          obtain ⟨h1, h2, h3, h4, h5, h6⟩ := HK.out
          refine ⟨fun h => ?_, fun h => ?_, fun h => ?_, fun h => ?_, fun h => ?_, fun h => ?_⟩ <;> first | exact h0 | exact h1 (by omega) | exact h2 (by omega) | exact h3 (by omega) | exact h4 (by omega) | exact h5 (by omega) | exact h6 (by omega) | omega)
        clear h0
        go_wp2_with fail
        go_round
        case rel => exact ⟨6, by omega, rfl, HN⟩
        case measure => simp [intOf]
      · have g0 : (x15 != 0) = true := bne_iff_ne.2 h0
        have HD := Lib.hid h0
        clear h0
        go_wp2_with fail
        go_ret
        exact ⟨by rw [HP.out, decide_eq_false (fun h => HD.out h.2.2.2.2.2)]; rfl, by (repeat' first | with_reducible (first | exact Below.refl _ _ | assumption | refine Below.alloc ?_ ?_ _ | refine below_drewN ?_ _ | refine Below.drew ?_ | refine Below.setCell ?_ ?_ _ | refine Below.trans ?_ (Below.mono (by with_reducible assumption) ?_)) | go_size)⟩
    · obtain ⟨h1, h2, h3, h4, h5, h6⟩ := HK.out
      have HQ : Hid (Ev.plainT t = decide (x6 % 2 = 0 ∧ x7 % 2 = 0 ∧ x17 / 2 = 0)) := Lib.hid (by rw [HP.out, decide_eq_true ⟨h1 (by omega), h2 (by omega), h3 (by omega), h4 (by omega), h5 (by omega), h6 (by omega)⟩]; simp)
      clear h1 h2 h3 h4 h5 h6 c1 c2 c3 c4 c5 c15 HK
      by_cases d6 : x6 % 2 = 0
      case neg =>
        have g6 : (x6 % 2 == 0) = false := beq_eq_false_iff_ne.2 d6
        have HD := Lib.hid d6
        clear d6
        go_wp2_with fail
        go_ret
        exact ⟨by rw [HQ.out, decide_eq_false (fun h => HD.out h.1)]; rfl, by (repeat' first | with_reducible (first | exact Below.refl _ _ | assumption | refine Below.alloc ?_ ?_ _ | refine below_drewN ?_ _ | refine Below.drew ?_ | refine Below.setCell ?_ ?_ _ | refine Below.trans ?_ (Below.mono (by with_reducible assumption) ?_)) | go_size)⟩
      have g6 : (x6 % 2 == 0) = true := beq_iff_eq.2 d6
      have HD6 := Lib.hid d6
      clear d6
      by_cases d7 : x7 % 2 = 0
      case neg =>
        have g7 : (x7 % 2 == 0) = false := beq_eq_false_iff_ne.2 d7
        have HD := Lib.hid d7
        clear d7
        go_wp2_with fail
        go_ret
        exact ⟨by rw [HQ.out, decide_eq_false (fun h => HD.out h.2.1)]; rfl, by (repeat' first | with_reducible (first | exact Below.refl _ _ | assumption | refine Below.alloc ?_ ?_ _ | refine below_drewN ?_ _ | refine Below.drew ?_ | refine Below.setCell ?_ ?_ _ | refine Below.trans ?_ (Below.mono (by with_reducible assumption) ?_)) | go_size)⟩
      have g7 : (x7 % 2 == 0) = true := beq_iff_eq.2 d7
      have HD7 := Lib.hid d7
      clear d7
      by_cases d17 : x17 / 2 = 0
      case neg =>
        have g17 : (x17 / 2 == 0) = false := beq_eq_false_iff_ne.2 d17
        have HD := Lib.hid d17
        clear d17
        go_wp2_with fail
        go_ret
        exact ⟨by rw [HQ.out, decide_eq_false (fun h => HD.out h.2.2)]; rfl, by (repeat' first | with_reducible (first | exact Below.refl _ _ | assumption | refine Below.alloc ?_ ?_ _ | refine below_drewN ?_ _ | refine Below.drew ?_ | refine Below.setCell ?_ ?_ _ | refine Below.trans ?_ (Below.mono (by with_reducible assumption) ?_)) | go_size)⟩
      have g17 : (x17 / 2 == 0) = true := beq_iff_eq.2 d17
      have HD17 := Lib.hid d17
      clear d17
      go_wp2_with fail
      go_ret
      exact ⟨by rw [HQ.out, decide_eq_true ⟨HD6.out, HD7.out, HD17.out⟩]; rfl, by (repeat' first | with_reducible (first | exact Below.refl _ _ | assumption | refine Below.alloc ?_ ?_ _ | refine below_drewN ?_ _ | refine Below.drew ?_ | refine Below.setCell ?_ ?_ _ | refine Below.trans ?_ (Below.mono (by with_reducible assumption) ?_)) | go_size)⟩
end Go.Proofs.Ytljcgcllhcdleaa
