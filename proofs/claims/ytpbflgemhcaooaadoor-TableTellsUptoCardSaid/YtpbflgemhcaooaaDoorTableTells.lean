import Derived.Test.YtpbflgemhcaooaaDoorTabRefParse
import Derived.Test.YtpbflgemhcaooaaDoorTableTurns
import Derived.Deep.DeepCutAuto
/- evlaw2.TableTells: the walk. -/
namespace Go.Proofs.YtpbflgemhcaooaaDoor
open Go.RowKit
set_option linter.unusedSimpArgs false
set_option linter.unusedVariables false
set_option maxRecDepth 8000 in
set_option maxHeartbeats 12800000 in
theorem tableTells_walk (t : List Int) (s : List UInt8) (op : Int) (w : World) (hv : Vars w) (hm : MaxL w) (hl : t.length = 18) (ht : ∀ x ∈ t, -9223372036854775808 ≤ x ∧ x ≤ 9223372036854775807) (hs : s.length < 4294967281) :
    Calls Tryd.prog 9 #[tableV t, .string ⟨(s).toArray⟩, .int .i64 op] w fun e w' => e = .returned (.bool true) ∧ Below w.heap.size w w' := by
  have HV := Lib.hid hv
  have HM := Lib.hid hm
  have CW := Lib.hid (fun u => wrongP_any t u hl ht)
  have CRW := Lib.hid (fun u => refWrong_any t u hl ht)
  have CT := Lib.hid (fun u hv => text_any t u hv hl ht)
  have CRT := Lib.hid (fun u hv => refText_any t u hv hl ht)
  have CP := Lib.hid (fun u hv hm => parse_any s u hv hm hs)
  have CRP := Lib.hid (fun u hv => refParse_any s u hv hs)
  have CA := Lib.hid (fun u => all_any op u)
  obtain ⟨xe, xt, hx⟩ : ∃ xe xt, Ev.tparse s = (xe, xt) := ⟨_, _, rfl⟩
  rw [hx] at CP CRP
  have hXL : xt.length = 18 := by
    by_cases h0 : xe = 0
    · rw [h0] at hx; exact (Ev.parse_text hx).1
    · have := Ev.parse_err (s := s) (by rw [hx]; exact h0)
      rw [hx] at this
      rw [show xt = Ev.zeros18 from this]
      rfl
  dsimp only at CP CRP
  generalize Ev.wrong t = wt at *
  generalize Ev.textOf t = tx at *
  obtain ⟨al, hal⟩ : ∃ al, Ev.all op = al := ⟨_, rfl⟩
  have HAL := Lib.hid hal
  rw [hal] at CA
  clear hal
  obtain ⟨x0, x1, x2, x3, x4, x5, x6, x7, x8, x9, x10, x11, x12, x13, x14, x15, x16, x17, rfl⟩ := list18t hl
  obtain ⟨y0, y1, y2, y3, y4, y5, y6, y7, y8, y9, y10, y11, y12, y13, y14, y15, y16, y17, rfl⟩ := list18t hXL
  have HTL := Lib.hid (show tableV [x0, x1, x2, x3, x4, x5, x6, x7, x8, x9, x10, x11, x12, x13, x14, x15, x16, x17] = .agg #[.int .i64 x0, .int .i64 x1, .int .i64 x2, .int .i64 x3, .int .i64 x4, .int .i64 x5, .int .i64 x6, .int .i64 x7, .int .i64 x8, .int .i64 x9, .int .i64 x10, .int .i64 x11, .int .i64 x12, .int .i64 x13, .int .i64 x14, .int .i64 x15, .int .i64 x16, .int .i64 x17] from rfl)
  have HTY := Lib.hid (show tableV [y0, y1, y2, y3, y4, y5, y6, y7, y8, y9, y10, y11, y12, y13, y14, y15, y16, y17] = .agg #[.int .i64 y0, .int .i64 y1, .int .i64 y2, .int .i64 y3, .int .i64 y4, .int .i64 y5, .int .i64 y6, .int .i64 y7, .int .i64 y8, .int .i64 y9, .int .i64 y10, .int .i64 y11, .int .i64 y12, .int .i64 y13, .int .i64 y14, .int .i64 y15, .int .i64 y16, .int .i64 y17] from rfl)
  have HEQ := Lib.hid (fun u => arr_same [y0, y1, y2, y3, y4, y5, y6, y7, y8, y9, y10, y11, y12, y13, y14, y15, y16, y17] rfl u)
  rw [HTL.out] at CW CRW CT CRT ⊢
  rw [HTY.out] at CP CRP
  clear hx ht hv hm hl HTL HTY hXL
  go_enter Tryd.func9, Tryd.ntmps9
  go_upto_region 1 with fail
  have HB := Lib.hid (heap_alloc_new w (.cells #[.int .i64 x0, .int .i64 x1, .int .i64 x2, .int .i64 x3, .int .i64 x4, .int .i64 x5, .int .i64 x6, .int .i64 x7, .int .i64 x8, .int .i64 x9, .int .i64 x10, .int .i64 x11, .int .i64 x12, .int .i64 x13, .int .i64 x14, .int .i64 x15, .int .i64 x16, .int .i64 x17] 58))
  have bA : Below w.heap.size w (w.alloc (.cells #[.int .i64 x0, .int .i64 x1, .int .i64 x2, .int .i64 x3, .int .i64 x4, .int .i64 x5, .int .i64 x6, .int .i64 x7, .int .i64 x8, .int .i64 x9, .int .i64 x10, .int .i64 x11, .int .i64 x12, .int .i64 x13, .int .i64 x14, .int .i64 x15, .int .i64 x16, .int .i64 x17] 58)) := by (repeat' first | with_reducible (first | exact Below.refl _ _ | assumption | refine Below.alloc ?_ ?_ _ | refine below_drewN ?_ _ | refine Below.drew ?_ | refine Below.setCell ?_ ?_ _ | refine Below.trans ?_ (Below.mono (by with_reducible assumption) ?_)) | go_size)
  generalize w.alloc (.cells #[.int .i64 x0, .int .i64 x1, .int .i64 x2, .int .i64 x3, .int .i64 x4, .int .i64 x5, .int .i64 x6, .int .i64 x7, .int .i64 x8, .int .i64 x9, .int .i64 x10, .int .i64 x11, .int .i64 x12, .int .i64 x13, .int .i64 x14, .int .i64 x15, .int .i64 x16, .int .i64 x17] 58) = wA at *
  have sA := bA.size
  have zA : w.heap.size < wA.heap.size := (Array.getElem?_eq_some_iff.1 HB.out).1
  go_upto_region 2 with (go_at_call 29; refine (ops2_any _).mono ?_; rintro e w1 ⟨rfl, hw1⟩; have HW1 := Lib.hid hw1; clear hw1)
  have hw1 := HW1.out
  clear HW1
  have HN0 : Hid (w1.heap[wA.heap.size]? = some (.cells opsCells 9 (0, 0))) := Lib.hid (by
    subst hw1
    have h := (Below.alloc (Below.refl _ (wA.alloc (.cells opsCells 9))) (Nat.le_refl _) (.cells (Ev.opsMost.map (Value.int .i64)).toArray 3)).block wA.heap.size (by simp)
    exact h.trans (heap_alloc_new _ _))
  have HM0 : Hid (w1.heap[wA.heap.size + 1]? = some (.cells (Ev.opsMost.map (Value.int .i64)).toArray 3 (0, 0))) := Lib.hid (by
    subst hw1
    have h := heap_alloc_new (wA.alloc (.cells opsCells 9)) (.cells (Ev.opsMost.map (Value.int .i64)).toArray 3)
    rw [World.size_alloc] at h
    exact h)
  have hb1 : Below wA.heap.size wA w1 := by subst hw1; (repeat' first | with_reducible (first | exact Below.refl _ _ | assumption | refine Below.alloc ?_ ?_ _ | refine below_drewN ?_ _ | refine Below.drew ?_ | refine Below.setCell ?_ ?_ _ | refine Below.trans ?_ (Below.mono (by with_reducible assumption) ?_)) | go_size)
  clear hw1
  replace HB := Lib.hid ((hb1.block (w.heap.size) (Array.getElem?_eq_some_iff.1 HB.out).1).trans HB.out)
  have b1 : Below w.heap.size w w1 := bA.trans (hb1.mono sA)
  have s1 := b1.size
  clear hb1 bA
  go_upto_region 3 with (go_at_call 30; refine (names_any _).mono ?_; rintro e w2 ⟨rfl, hw2⟩; have HW2 := Lib.hid hw2; clear hw2)
  have hw2 := HW2.out
  clear HW2
  have HQ0 : Hid (w2.heap[w1.heap.size]? = some (.cells namesCells 9 (0, 0))) := Lib.hid (by subst hw2; exact heap_alloc_new _ _)
  have hb2 : Below w1.heap.size w1 w2 := by subst hw2; (repeat' first | with_reducible (first | exact Below.refl _ _ | assumption | refine Below.alloc ?_ ?_ _ | refine below_drewN ?_ _ | refine Below.drew ?_ | refine Below.setCell ?_ ?_ _ | refine Below.trans ?_ (Below.mono (by with_reducible assumption) ?_)) | go_size)
  clear hw2
  replace HB := Lib.hid ((hb2.block (w.heap.size) (Array.getElem?_eq_some_iff.1 HB.out).1).trans HB.out)
  replace HN0 := Lib.hid ((hb2.block (wA.heap.size) (Array.getElem?_eq_some_iff.1 HN0.out).1).trans HN0.out)
  replace HM0 := Lib.hid ((hb2.block (wA.heap.size + 1) (Array.getElem?_eq_some_iff.1 HM0.out).1).trans HM0.out)
  have b2 : Below w.heap.size w w2 := b1.trans (hb2.mono s1)
  have s2 := b2.size
  clear hb2 b1
  go_wp2_with fail
  go_loopw [34] (fun jj wz => ∃ j : Nat, j ≤ 17 ∧ jj = .int .i64 (j : Int) ∧ w2 = wz) (fun jj _ => 17 - (intOf jj).toNat)
  case atStart => exact ⟨0, by omega, rfl, rfl⟩
  case round =>
  obtain ⟨j, hj, rfl, rfl⟩ := hrel
  have zn := (Array.getElem?_eq_some_iff.1 HN0.out).1
  have zq := (Array.getElem?_eq_some_iff.1 HQ0.out).1
  have zm := (Array.getElem?_eq_some_iff.1 HM0.out).1
  by_cases hjl : j < 17
  case pos => as_aux_lemma =>
    obtain ⟨x, hx⟩ : ∃ x, Ev.opNames.getD j [] = x := ⟨_, rfl⟩
    have n1 : w2.cell? ⟨w1.heap.size, j, none⟩ = some (.string ⟨(x).toArray⟩) := by
      have h := (cell_of_block HQ0.out j).trans (names_at hjl)
      rw [hx] at h
      exact h
    have n2 : w2.cell? ⟨wA.heap.size, j + 1, none⟩ = some (.string ⟨(x).toArray⟩) := (cell_of_block HN0.out (j + 1)).trans (ops_get (by omega) (by show Ev.opNames.getD j [] = x; exact hx))
    clear hx
    go_wp2_with fail
    go_roundw
    case rel => exact ⟨j + 1, by omega, by go_num, by first | rfl | trivial⟩
    case measure => simp [intOf]; omega
  case neg => as_aux_lemma =>
  obtain rfl : j = 17 := by omega
  clear HQ0 HN0 zn zq
  go_upto_region 12 with fail
  go_cut [52] (fun x wx => x = .bool (decide (1 ≤ op) && decide (op ≤ 17)) ∧ w2 = wx)
  case first => as_aux_lemma =>
    by_cases h1 : 1 ≤ op
    · have g1 : decide (1 ≤ op) = true := decide_eq_true h1
      have H1 := Lib.hid g1
      clear h1
      go_wp2_with fail
      go_meet
      exact ⟨by rw [H1.out]; simp, rfl⟩
    · have g1 : decide (1 ≤ op) = false := decide_eq_false h1
      have H1 := Lib.hid g1
      clear h1
      go_wp2_with fail
      go_meet
      exact ⟨by rw [H1.out]; rfl, rfl⟩
  case rest => as_aux_lemma =>
  obtain ⟨rfl, rfl⟩ := hcut
  obtain ⟨G, hG⟩ : ∃ G, (decide (1 ≤ op) && decide (op ≤ 17)) = G := ⟨_, rfl⟩
  rw [hG]
  have HGG := Lib.hid hG
  clear hG
  obtain ⟨z, hz⟩ : ∃ z, (if G = true then Ev.most op else 0) = z := ⟨_, rfl⟩
  have HZ := Lib.hid hz
  clear hz
  go_upto_if 52 with fail
  go_cut [12] (fun x wx => x = .int .i64 z ∧ w2 = wx)
  case first => as_aux_lemma =>
    cases G with
    | false =>
      have HZ0 := Lib.hid (show z = 0 from HZ.out.symm)
      clear HGG HZ
      go_wp2_with fail
      go_meet
      exact ⟨by rw [HZ0.out], rfl⟩
    | true =>
      obtain ⟨h1, h2⟩ : 1 ≤ op ∧ op ≤ 17 := by
        have h := HGG.out
        rw [Bool.and_eq_true, decide_eq_true_eq, decide_eq_true_eq] at h
        exact h
      have HZ1 := Lib.hid (show z = Ev.most op from HZ.out.symm)
      have m1 : w2.cell? ⟨wA.heap.size + 1, op.toNat, none⟩ = some (.int .i64 z) := by
        rw [cell_of_block HM0.out, List.getElem?_toArray, List.getElem?_map, Ev.opsMost_at op.toNat (by omega), show ((op.toNat : Nat) : Int) = op by omega, HZ1.out]
        rfl
      have h3 : op < 18 := by omega
      have h0 : 0 ≤ op := by omega
      clear HZ
      go_wp2_with fail
      go_meet
      exact ⟨rfl, rfl⟩
  case rest => as_aux_lemma =>
  obtain ⟨rfl, rfl⟩ := hcut
  clear HM0 zm
  go_upto_region 14 with fail
  go_cut [58] (fun x wx => x = .bool (op == 16) ∧ w2 = wx)
  case first => as_aux_lemma =>
    go_wp2_with fail
    go_meet
    exact ⟨rfl, rfl⟩
  case rest => as_aux_lemma =>
  obtain ⟨rfl, rfl⟩ := hcut
  obtain ⟨E, hE⟩ : ∃ E, (op == 16) = E := ⟨_, rfl⟩
  rw [hE]
  have HEE := Lib.hid hE
  clear hE
  have HAZ := Lib.hid (show al = if E = true then 3 else z by
    rw [← HAL.out, ← HZ.out]
    have h := HGG.out
    subst h
    have h := HEE.out
    subst h
    simp only [Bool.and_eq_true, decide_eq_true_eq, beq_iff_eq]
    by_cases h16 : op = 16
    · subst h16
      simp [Ev.all]
    · rw [if_neg h16]
      unfold Ev.most
      rw [if_neg h16]
      unfold Ev.all
      repeat' (first | rfl | omega | split))
  go_upto_if 58 with fail
  go_cut [12] (fun x wx => x = .int .i64 al ∧ w2 = wx)
  case first => as_aux_lemma =>
    cases E with
    | true =>
      have H3 := Lib.hid (show al = 3 from HAZ.out)
      clear HAZ HEE CA HAL
      go_wp2_with fail
      go_meet
      exact ⟨by rw [H3.out], rfl⟩
    | false =>
      have H3 := Lib.hid (show al = z from HAZ.out)
      clear HAZ HEE CA HAL
      go_wp2_with fail
      go_meet
      exact ⟨by rw [H3.out], rfl⟩
  case rest => as_aux_lemma =>
  obtain ⟨rfl, rfl⟩ := hcut
  have LDX : Hid (∀ u, Below w2.heap.size w2 u → (Go.Instr.loadAt 58 (.pointer (some ⟨w.heap.size, 0, none⟩))).run Tryd.prog u = .ok (.agg #[.int .i64 x0, .int .i64 x1, .int .i64 x2, .int .i64 x3, .int .i64 x4, .int .i64 x5, .int .i64 x6, .int .i64 x7, .int .i64 x8, .int .i64 x9, .int .i64 x10, .int .i64 x11, .int .i64 x12, .int .i64 x13, .int .i64 x14, .int .i64 x15, .int .i64 x16, .int .i64 x17]) u) := Lib.hid (fun u hu => load_box Tryd.underlying58 (by kernel_rfl) rfl (by kernel_rfl) (fun j v hj => (cell_of_block HB.out j).trans hj) (Array.getElem?_eq_some_iff.1 HB.out).1 hu)
  have HV2 := Lib.hid (HV.out.stays b2)
  have HM2 := Lib.hid (HM.out.stays b2)
  go_upto_region 17 with (first | (refine wpList_load_box rfl 58 _ rfl rfl (LDX.out _ (Below.refl _ _)) ?_) | (go_at_call 31; refine (CT.out _ HV2.out).mono ?_; rintro e w3 ⟨rfl, hb3⟩))
  have b3 : Below w.heap.size w w3 := b2.trans (hb3.mono s2)
  replace HB := Lib.hid ((hb3.block (w.heap.size) (Array.getElem?_eq_some_iff.1 HB.out).1).trans HB.out)
  have s3 := b3.size
  have HV3 := Lib.hid (HV.out.stays b3)
  clear hb3 CT b2 HV2 LDX s2
  have LDX : Hid (∀ u, Below w3.heap.size w3 u → (Go.Instr.loadAt 58 (.pointer (some ⟨w.heap.size, 0, none⟩))).run Tryd.prog u = .ok (.agg #[.int .i64 x0, .int .i64 x1, .int .i64 x2, .int .i64 x3, .int .i64 x4, .int .i64 x5, .int .i64 x6, .int .i64 x7, .int .i64 x8, .int .i64 x9, .int .i64 x10, .int .i64 x11, .int .i64 x12, .int .i64 x13, .int .i64 x14, .int .i64 x15, .int .i64 x16, .int .i64 x17]) u) := Lib.hid (fun u hu => load_box Tryd.underlying58 (by kernel_rfl) rfl (by kernel_rfl) (fun j v hj => (cell_of_block HB.out j).trans hj) (Array.getElem?_eq_some_iff.1 HB.out).1 hu)
  as_aux_lemma =>
  go_upto_region 18 with (first | (refine wpList_load_box rfl 58 _ rfl rfl (LDX.out _ (Below.refl _ _)) ?_) | (go_at_call 32; refine (CRT.out _ HV3.out).mono ?_; rintro e w4 ⟨rfl, hb4⟩))
  have b4 : Below w.heap.size w w4 := b3.trans (hb4.mono s3)
  replace HB := Lib.hid ((hb4.block (w.heap.size) (Array.getElem?_eq_some_iff.1 HB.out).1).trans HB.out)
  have s4 := b4.size
  have HV4 := Lib.hid (HV.out.stays b4)
  have HM4 := Lib.hid (HM.out.stays b4)
  clear hb4 CRT b3 HV3 LDX s3
  as_aux_lemma =>
  go_upto_region 19 with (go_at_call 33; refine (CP.out _ HV4.out HM4.out).mono ?_; rintro e w5 ⟨rfl, hb5⟩)
  have HP := Lib.hid (heap_alloc_new w5 (.cells #[.int .i64 y0, .int .i64 y1, .int .i64 y2, .int .i64 y3, .int .i64 y4, .int .i64 y5, .int .i64 y6, .int .i64 y7, .int .i64 y8, .int .i64 y9, .int .i64 y10, .int .i64 y11, .int .i64 y12, .int .i64 y13, .int .i64 y14, .int .i64 y15, .int .i64 y16, .int .i64 y17] 58))
  have bC : Below w4.heap.size w4 (w5.alloc (.cells #[.int .i64 y0, .int .i64 y1, .int .i64 y2, .int .i64 y3, .int .i64 y4, .int .i64 y5, .int .i64 y6, .int .i64 y7, .int .i64 y8, .int .i64 y9, .int .i64 y10, .int .i64 y11, .int .i64 y12, .int .i64 y13, .int .i64 y14, .int .i64 y15, .int .i64 y16, .int .i64 y17] 58)) := by have := hb5.size; (repeat' first | with_reducible (first | exact Below.refl _ _ | assumption | refine Below.alloc ?_ ?_ _ | refine below_drewN ?_ _ | refine Below.drew ?_ | refine Below.setCell ?_ ?_ _ | refine Below.trans ?_ (Below.mono (by with_reducible assumption) ?_)) | go_size)
  have b5 : Below w.heap.size w (w5.alloc (.cells #[.int .i64 y0, .int .i64 y1, .int .i64 y2, .int .i64 y3, .int .i64 y4, .int .i64 y5, .int .i64 y6, .int .i64 y7, .int .i64 y8, .int .i64 y9, .int .i64 y10, .int .i64 y11, .int .i64 y12, .int .i64 y13, .int .i64 y14, .int .i64 y15, .int .i64 y16, .int .i64 y17] 58)) := b4.trans (bC.mono s4)
  replace HB := Lib.hid ((bC.block (w.heap.size) (Array.getElem?_eq_some_iff.1 HB.out).1).trans HB.out)
  clear hb5 b4 s4 HV4 HM4 CP bC
  generalize w5.alloc (.cells #[.int .i64 y0, .int .i64 y1, .int .i64 y2, .int .i64 y3, .int .i64 y4, .int .i64 y5, .int .i64 y6, .int .i64 y7, .int .i64 y8, .int .i64 y9, .int .i64 y10, .int .i64 y11, .int .i64 y12, .int .i64 y13, .int .i64 y14, .int .i64 y15, .int .i64 y16, .int .i64 y17] 58) = w6 at *
  generalize w5.heap.size = p6 at *
  have s6 := b5.size
  have HV6 := Lib.hid (HV.out.stays b5)
  as_aux_lemma =>
  go_upto_region 20 with (go_at_call 34; refine (CRP.out _ HV6.out).mono ?_; rintro e w7 ⟨rfl, hb7⟩)
  have HR := Lib.hid (heap_alloc_new w7 (.cells #[.int .i64 y0, .int .i64 y1, .int .i64 y2, .int .i64 y3, .int .i64 y4, .int .i64 y5, .int .i64 y6, .int .i64 y7, .int .i64 y8, .int .i64 y9, .int .i64 y10, .int .i64 y11, .int .i64 y12, .int .i64 y13, .int .i64 y14, .int .i64 y15, .int .i64 y16, .int .i64 y17] 58))
  have bD : Below w6.heap.size w6 (w7.alloc (.cells #[.int .i64 y0, .int .i64 y1, .int .i64 y2, .int .i64 y3, .int .i64 y4, .int .i64 y5, .int .i64 y6, .int .i64 y7, .int .i64 y8, .int .i64 y9, .int .i64 y10, .int .i64 y11, .int .i64 y12, .int .i64 y13, .int .i64 y14, .int .i64 y15, .int .i64 y16, .int .i64 y17] 58)) := by have := hb7.size; (repeat' first | with_reducible (first | exact Below.refl _ _ | assumption | refine Below.alloc ?_ ?_ _ | refine below_drewN ?_ _ | refine Below.drew ?_ | refine Below.setCell ?_ ?_ _ | refine Below.trans ?_ (Below.mono (by with_reducible assumption) ?_)) | go_size)
  have b8 : Below w.heap.size w (w7.alloc (.cells #[.int .i64 y0, .int .i64 y1, .int .i64 y2, .int .i64 y3, .int .i64 y4, .int .i64 y5, .int .i64 y6, .int .i64 y7, .int .i64 y8, .int .i64 y9, .int .i64 y10, .int .i64 y11, .int .i64 y12, .int .i64 y13, .int .i64 y14, .int .i64 y15, .int .i64 y16, .int .i64 y17] 58)) := b5.trans (bD.mono s6)
  replace HB := Lib.hid ((bD.block (w.heap.size) (Array.getElem?_eq_some_iff.1 HB.out).1).trans HB.out)
  replace HP := Lib.hid ((bD.block (p6) (Array.getElem?_eq_some_iff.1 HP.out).1).trans HP.out)
  clear hb7 b5 s6 HV6 CRP bD
  generalize w7.alloc (.cells #[.int .i64 y0, .int .i64 y1, .int .i64 y2, .int .i64 y3, .int .i64 y4, .int .i64 y5, .int .i64 y6, .int .i64 y7, .int .i64 y8, .int .i64 y9, .int .i64 y10, .int .i64 y11, .int .i64 y12, .int .i64 y13, .int .i64 y14, .int .i64 y15, .int .i64 y16, .int .i64 y17] 58) = w8 at *
  generalize w7.heap.size = p8 at *
  have s8 := b8.size
  have LDX : Hid (∀ u, Below w8.heap.size w8 u → (Go.Instr.loadAt 58 (.pointer (some ⟨w.heap.size, 0, none⟩))).run Tryd.prog u = .ok (.agg #[.int .i64 x0, .int .i64 x1, .int .i64 x2, .int .i64 x3, .int .i64 x4, .int .i64 x5, .int .i64 x6, .int .i64 x7, .int .i64 x8, .int .i64 x9, .int .i64 x10, .int .i64 x11, .int .i64 x12, .int .i64 x13, .int .i64 x14, .int .i64 x15, .int .i64 x16, .int .i64 x17]) u) := Lib.hid (fun u hu => load_box Tryd.underlying58 (by kernel_rfl) rfl (by kernel_rfl) (fun j v hj => (cell_of_block HB.out j).trans hj) (Array.getElem?_eq_some_iff.1 HB.out).1 hu)
  have LDP : Hid (∀ u, Below w8.heap.size w8 u → (Go.Instr.loadAt 58 (.pointer (some ⟨p6, 0, none⟩))).run Tryd.prog u = .ok (.agg #[.int .i64 y0, .int .i64 y1, .int .i64 y2, .int .i64 y3, .int .i64 y4, .int .i64 y5, .int .i64 y6, .int .i64 y7, .int .i64 y8, .int .i64 y9, .int .i64 y10, .int .i64 y11, .int .i64 y12, .int .i64 y13, .int .i64 y14, .int .i64 y15, .int .i64 y16, .int .i64 y17]) u) := Lib.hid (fun u hu => load_box Tryd.underlying58 (by kernel_rfl) rfl (by kernel_rfl) (fun j v hj => (cell_of_block HP.out j).trans hj) (Array.getElem?_eq_some_iff.1 HP.out).1 hu)
  have LDR : Hid (∀ u, Below w8.heap.size w8 u → (Go.Instr.loadAt 58 (.pointer (some ⟨p8, 0, none⟩))).run Tryd.prog u = .ok (.agg #[.int .i64 y0, .int .i64 y1, .int .i64 y2, .int .i64 y3, .int .i64 y4, .int .i64 y5, .int .i64 y6, .int .i64 y7, .int .i64 y8, .int .i64 y9, .int .i64 y10, .int .i64 y11, .int .i64 y12, .int .i64 y13, .int .i64 y14, .int .i64 y15, .int .i64 y16, .int .i64 y17]) u) := Lib.hid (fun u hu => load_box Tryd.underlying58 (by kernel_rfl) rfl (by kernel_rfl) (fun j v hj => (cell_of_block HR.out j).trans hj) (Array.getElem?_eq_some_iff.1 HR.out).1 hu)
  have HEQ1 : ∀ u, (Op.equalIn 9999 56 (.agg #[.int .i64 y0, .int .i64 y1, .int .i64 y2, .int .i64 y3, .int .i64 y4, .int .i64 y5, .int .i64 y6, .int .i64 y7, .int .i64 y8, .int .i64 y9, .int .i64 y10, .int .i64 y11, .int .i64 y12, .int .i64 y13, .int .i64 y14, .int .i64 y15, .int .i64 y16, .int .i64 y17]) (.agg #[.int .i64 y0, .int .i64 y1, .int .i64 y2, .int .i64 y3, .int .i64 y4, .int .i64 y5, .int .i64 y6, .int .i64 y7, .int .i64 y8, .int .i64 y9, .int .i64 y10, .int .i64 y11, .int .i64 y12, .int .i64 y13, .int .i64 y14, .int .i64 y15, .int .i64 y16, .int .i64 y17])).run Tryd.prog u = .ok true u := HEQ.out
  clear HB HP HR
  as_aux_lemma =>
  refine wp_region_chain (fun w' => Below (w8).heap.size (w8) w') (by kernel_rfl) (by kernel_rfl) (by (repeat' first | with_reducible (first | exact Below.refl _ _ | assumption | refine Below.alloc ?_ ?_ _ | refine below_drewN ?_ _ | refine Below.drew ?_ | refine Below.setCell ?_ ?_ _ | refine Below.trans ?_ (Below.mono (by with_reducible assumption) ?_)) | go_size)) ?_
  repeat (
    apply chain_cons
    case h =>
      refine fun w9 hb9 => ?_
      have hB9 : Below w8.heap.size w8 w9 := by (repeat' first | with_reducible (first | exact Below.refl _ _ | assumption | refine Below.alloc ?_ ?_ _ | refine below_drewN ?_ _ | refine Below.drew ?_ | refine Below.setCell ?_ ?_ _ | refine Below.trans ?_ (Below.mono (by with_reducible assumption) ?_)) | go_size)
      obtain ⟨kc9, kf9, s9⟩ := bfacts hb9
      obtain ⟨kd9, kg9, _⟩ := bfacts hB9
      go_wp2_with (first | (refine (wpList_load_boxg (by rfl) 58 (.tmp 17) rfl rfl (LDP.out _ hB9) ?_)) | (refine (wpList_load_boxg (by rfl) 58 (.tmp 19) rfl rfl (LDR.out _ hB9) ?_)) | (refine (wpList_load_boxg (by rfl) 58 (.tmp 3) rfl rfl (LDX.out _ hB9) ?_)))
      (try ((first | (go_at_call 35; refine (CA.out _).mono ?_; rintro e wi ⟨rfl, rfl⟩) | (go_at_call 36; refine (CW.out _).mono ?_; rintro e wi ⟨rfl, hbi⟩) | (go_at_call 37; refine (CRW.out _).mono ?_; rintro e wi ⟨rfl, hbi⟩)); go_wp2_with fail))
      refine settled_intro (S := fun w' => Below (w8).heap.size (w8) w') ?_
      (repeat' first | with_reducible (first | exact Below.refl _ _ | assumption | refine Below.alloc ?_ ?_ _ | refine below_drewN ?_ _ | refine Below.drew ?_ | refine Below.setCell ?_ ?_ _ | refine Below.trans ?_ (Below.mono (by with_reducible assumption) ?_)) | go_size)
    case hp => first | rfl | (simp only [*]; done) | (simp only [*]; rfl))
  refine chain.nil ?_
  refine fun w9 hb9 => ?_
  have B9 : Below w8.heap.size w8 w9 := by (repeat' first | with_reducible (first | exact Below.refl _ _ | assumption | refine Below.alloc ?_ ?_ _ | refine below_drewN ?_ _ | refine Below.drew ?_ | refine Below.setCell ?_ ?_ _ | refine Below.trans ?_ (Below.mono (by with_reducible assumption) ?_)) | go_size)
  obtain ⟨kc9, kf9, s9⟩ := bfacts hb9
  obtain ⟨kd9, kg9, _⟩ := bfacts B9
  (try simp only [World.size_alloc, World.size_setCell, World.size_drew, World.heap_drewN, Nat.add_one_le_iff] at s9)
  clear hb9
  have hb9 := B9
  clear B9
  have B9 : Hid (Below w8.heap.size w8 w9) := hb9
  (try have z9 : w8.heap.size < w9.heap.size := by omega)
  (try dsimp only)
  go_wp2_with fail
  go_ret
  exact ⟨rfl, b8.trans (hb9.mono s8)⟩
end Go.Proofs.YtpbflgemhcaooaaDoor
