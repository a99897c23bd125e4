import Derived.Test.YtljcgcllhcdleaaMt25
/- Chapter 11, the reference: Load. -/
namespace Ev
def refBad (na : Nat) (i : Instr) : Bool := decide (120 ≤ i.d) || (i.op == 23 && decide (120 ≤ i.a)) || ((i.op == 16 || i.op == 17) && decide ((na : Int) ≤ i.b))
theorem not_lt120 (p : Int) : (!decide (p < 120)) = decide (120 ≤ p) := by
  by_cases h : p < 120
  · rw [decide_eq_true h, decide_eq_false (by omega)]; rfl
  · rw [decide_eq_false h, decide_eq_true (by omega)]; rfl
theorem refBad_eq (na : Nat) (i : Instr) : (refBad na i || (reads i).any fun p => decide (120 ≤ p)) = loadBad na i := by
  have e : (!(reads i).all fun p => decide (p < 120)) = (reads i).any fun p => decide (120 ≤ p) := by
    rw [List.not_all_eq_any_not]
    congr 1
    funext p
    exact not_lt120 p
  unfold refBad loadBad placesOk
  rw [Bool.not_and, Bool.not_and, e, Bool.not_or, Bool.not_not, not_lt120, not_lt120]
  cases decide (120 ≤ i.d) <;> cases (i.op == 23 && decide (120 ≤ i.a)) <;> cases ((i.op == 16 || i.op == 17) && decide ((na : Int) ≤ i.b)) <;> cases (reads i).any fun p => decide (120 ≤ p) <;> rfl
theorem any_take_snoc {l : List Int} {q : Nat} {x : Int} (f : Int → Bool) (h : l[q]? = some x) : (l.take (q + 1)).any f = ((l.take q).any f || f x) := by
  rw [List.take_add_one, h]; simp
end Ev
namespace Go.Proofs.Ytljcgcllhcdleaa
open Go.RowKit
set_option linter.unusedSimpArgs false
set_option linter.unusedVariables false
set_option maxRecDepth 8000 in
set_option maxHeartbeats 3200000 in
theorem refLoad_any (b : List Int) (params : Int) (na : Nat) (ay : List Ev.Vr) (vb va : Value) (w : World) (hb : RBytes w w.heap.size vb b) (ha : RVars w w.heap.size va ay) (hy : Ev.Byt b) (hna : ay.length = na) (hl : b.length ≤ 1099511627776) :
    Calls Try.prog 46 #[.agg #[vb, .int .i64 params, va]] w fun e w' => ∃ v, e = .returned (.tuple #[v, .int .i64 (Ev.loadErr b na)]) ∧ RCode w' w'.heap.size v (Ev.load b na) ∧ Below w.heap.size w w' := by
  obtain ⟨Aa, ca, rfl, ha1, ha2⟩ := SL.form ha
  obtain ⟨Ab, cb, rfl, hb1, hb2⟩ := SL.form hb
  unfold maxLen at ha2 hb2
  have HBY := Lib.hid hb
  have HY := Lib.hid hy
  subst hna
  obtain ⟨i0, hi0, hz0, hz1, hz2⟩ := info_parts int_info
  have II := Lib.hid (⟨hi0, hz0, hz1, hz2⟩ : _ ∧ _ ∧ _ ∧ _)
  obtain ⟨i1, hi1, hy0, hy1, hy2⟩ := info_parts cloneCode_info
  have IC := Lib.hid (⟨hi1, hy0, hy1, hy2⟩ : _ ∧ _ ∧ _ ∧ _)
  clear hi0 hz0 hz1 hz2 hi1 hy0 hy1 hy2
  clear ha hb hy
  by_cases h0 : b.length = 0 ∨ b.length % 8 ≠ 0
  · have H := Lib.hid (load_form b ay.length h0)
    by_cases h1 : b.length = 0
    · rw [h1]
      clear h0 h1
      go_enter Try.func46, Try.ntmps46
      go_wp2
      go_ret2
      exact ⟨_, by rw [H.out.1]; rfl, by rw [H.out.2]; exact SL.nil_ _ _ _, by (repeat' (first | (with_reducible exact Below.refl _ _) | (with_reducible assumption) | (with_reducible refine Below.alloc ?_ ?_ _) | (with_reducible refine below_drewN ?_ _) | (with_reducible refine Below.drew ?_) | (with_reducible refine Below.setCell ?_ ?_ _) | (with_reducible refine Below.trans ?_ (Below.mono (by with_reducible assumption) ?_)) | go_size))⟩
    · have h2 : 0 < (b.length : Int) % 8 := by omega
      have h3 : ((b.length : Int) == 0) = false := by rw [beq_eq_false_iff_ne]; omega
      clear h0 h1
      go_enter Try.func46, Try.ntmps46
      go_wp2
      go_ret2
      exact ⟨_, by rw [H.out.1]; rfl, by rw [H.out.2]; exact SL.nil_ _ _ _, by (repeat' (first | (with_reducible exact Below.refl _ _) | (with_reducible assumption) | (with_reducible refine Below.alloc ?_ ?_ _) | (with_reducible refine below_drewN ?_ _) | (with_reducible refine Below.drew ?_) | (with_reducible refine Below.setCell ?_ ?_ _) | (with_reducible refine Below.trans ?_ (Below.mono (by with_reducible assumption) ?_)) | go_size))⟩
  · have H0 := Lib.hid h0
    have h1 : (b.length : Int) % 8 ≤ 0 := by omega
    have h2 : ((b.length : Int) == 0) = false := by rw [beq_eq_false_iff_ne]; omega
    have hpos : 0 < b.length := by omega
    clear h0
    obtain ⟨bk, ob, cb', hv, hbk, _, _, _⟩ := SL.row HBY.out (by simpa using hpos)
    injection hv with hA _ hcr
    subst hA hcr
    go_enter Try.func46, Try.ntmps46
    go_wp2_with fail
    go_loopw [4, 26] (fun o kk wr => ∃ j : Nat, 8 * j ≤ b.length ∧ kk = .int .i64 (j : Int) ∧ Hid (Ev.loadErrFrom b ay.length (b.length / 8) 0 = Ev.loadErrFrom b ay.length (b.length / 8 - j) j) ∧ Hid (wr.ownsRow (w.heap.size + 1) 39 6 o j ((Ev.instrs b j).flatMap cellsI)) ∧ Below (w.heap.size + 1) (w.alloc (.cells #[.slice (some ⟨bk, ob, none⟩) b.length cb, .int .i64 params, .slice Aa ay.length ca] 76)) wr) (fun _ kk _ => b.length - (intOf kk).toNat)
    case atStart => exact ⟨0, by omega, rfl, rfl, World.ownsRow_nil _ _ _ _, Below.refl _ _⟩
    case round =>
      obtain ⟨j, hj, rfl, HZ, HO, hB⟩ := hrel
      have f0 : wr.cell? ⟨w.heap.size, 0, none⟩ = some (.slice (some ⟨bk, ob, none⟩) b.length cb) := (hB.cell (p := ⟨w.heap.size, 0, none⟩) (by go_size)).trans (by go_simp)
      have f2 : wr.cell? ⟨w.heap.size, 2, none⟩ = some (.slice Aa ay.length ca) := (hB.cell (p := ⟨w.heap.size, 2, none⟩) (by go_size)).trans (by go_simp)
      have hsz := hB.size
      simp only [World.size_alloc] at hsz
      have HB := Lib.hid hB
      clear hB
      by_cases hlt : 8 * j + 8 ≤ b.length
      · have hc1 : 8 * j + 8 ≤ cb := by omega
        have hlt2 : (j : Int) < (b.length : Int) / 8 := by omega
        have hBw : Below w.heap.size w wr := by have e0 := HB.out; (repeat' (first | (with_reducible exact Below.refl _ _) | (with_reducible assumption) | (with_reducible refine Below.alloc ?_ ?_ _) | (with_reducible refine below_drewN ?_ _) | (with_reducible refine Below.drew ?_) | (with_reducible refine Below.setCell ?_ ?_ _) | (with_reducible refine Below.trans ?_ (Below.mono (by with_reducible assumption) ?_)) | go_size))
        have HP := Lib.hid (refParse_any (Ev.chunk b j) _ wr (RBytes.chunk (SL.at_ HBY.out hBw (Nat.le_refl _)) hlt) (fun x hx => HY.out x (Ev.chunk_mem hx)))
        have HST := Lib.hid (fun e => @load_err b ay.length j e H0.out HZ.out (by omega))
        have HON := Lib.hid (@load_on b ay.length j HZ.out (by omega))
        have HSN := Lib.hid (Ev.instrs_snoc b j)
        have H1 := Lib.hid (@Ev.one_err ay.length (Ev.chunk b j))
        have H2 := Lib.hid (@Ev.one_bad ay.length (Ev.chunk b j))
        have H3 := Lib.hid (@Ev.one_ok ay.length (Ev.chunk b j))
        generalize Ev.parseOf (Ev.chunk b j) = i at *
        generalize Ev.parseErr (Ev.chunk b j) = pe at *
        generalize Ev.loadOne ay.length (Ev.chunk b j) = lo at *
        by_cases hpe : pe = 0
        · subst hpe
          have HBE := Lib.hid (Ev.refBad_eq ay.length i)
          have hrl := Ev.readsM_le i
          go_wp2_with fail
          refine (HP.out).mono ?_
          rintro e w1 ⟨rfl, hb1⟩
          obtain ⟨kc1, kf1, s1⟩ := bfacts hb1
          (try simp only [World.size_alloc, World.size_setCell, World.size_drew, World.heap_drewN, Nat.add_one_le_iff] at s1)
          (try have z1 : wr.heap.size < w1.heap.size := by omega)
          have B1 : Hid (Below wr.heap.size wr w1) := by (show Below _ _ _); (repeat' (first | (with_reducible exact Below.refl _ _) | (with_reducible assumption) | (with_reducible refine Below.alloc ?_ ?_ _) | (with_reducible refine below_drewN ?_ _) | (with_reducible refine Below.drew ?_) | (with_reducible refine Below.setCell ?_ ?_ _) | (with_reducible refine Below.trans ?_ (Below.mono (by with_reducible assumption) ?_)) | go_size))
          obtain ⟨kd1, kg1, _⟩ := bfacts B1.out
          have BI : Below wr.heap.size wr (w1.alloc (.cells #[.int .i64 i.op, .int .i64 i.d, .int .i64 i.a, .int .i64 i.b, .int .i64 i.c, .int .i64 i.imm] 39)) := by have e1 := B1.out; (repeat' (first | (with_reducible exact Below.refl _ _) | (with_reducible assumption) | (with_reducible refine Below.alloc ?_ ?_ _) | (with_reducible refine below_drewN ?_ _) | (with_reducible refine Below.drew ?_) | (with_reducible refine Below.setCell ?_ ?_ _) | (with_reducible refine Below.trans ?_ (Below.mono (by with_reducible assumption) ?_)) | go_size))
          have sI : wr.heap.size < (w1.alloc (.cells #[.int .i64 i.op, .int .i64 i.d, .int .i64 i.a, .int .i64 i.b, .int .i64 i.c, .int .i64 i.imm] 39)).heap.size := by simp; omega
          have n0 : (w1.alloc (.cells #[.int .i64 i.op, .int .i64 i.d, .int .i64 i.a, .int .i64 i.b, .int .i64 i.c, .int .i64 i.imm] 39)).cell? ⟨w1.heap.size, 0, none⟩ = some (.int .i64 i.op) := by go_simp
          have n1 : (w1.alloc (.cells #[.int .i64 i.op, .int .i64 i.d, .int .i64 i.a, .int .i64 i.b, .int .i64 i.c, .int .i64 i.imm] 39)).cell? ⟨w1.heap.size, 1, none⟩ = some (.int .i64 i.d) := by go_simp
          have n2 : (w1.alloc (.cells #[.int .i64 i.op, .int .i64 i.d, .int .i64 i.a, .int .i64 i.b, .int .i64 i.c, .int .i64 i.imm] 39)).cell? ⟨w1.heap.size, 2, none⟩ = some (.int .i64 i.a) := by go_simp
          have n3 : (w1.alloc (.cells #[.int .i64 i.op, .int .i64 i.d, .int .i64 i.a, .int .i64 i.b, .int .i64 i.c, .int .i64 i.imm] 39)).cell? ⟨w1.heap.size, 3, none⟩ = some (.int .i64 i.b) := by go_simp
          have n4 : (w1.alloc (.cells #[.int .i64 i.op, .int .i64 i.d, .int .i64 i.a, .int .i64 i.b, .int .i64 i.c, .int .i64 i.imm] 39)).cell? ⟨w1.heap.size, 4, none⟩ = some (.int .i64 i.c) := by go_simp
          have n5 : (w1.alloc (.cells #[.int .i64 i.op, .int .i64 i.d, .int .i64 i.a, .int .i64 i.b, .int .i64 i.c, .int .i64 i.imm] 39)).cell? ⟨w1.heap.size, 5, none⟩ = some (.int .i64 i.imm) := by go_simp
          have sJ : w1.heap.size < (w1.alloc (.cells #[.int .i64 i.op, .int .i64 i.d, .int .i64 i.a, .int .i64 i.b, .int .i64 i.c, .int .i64 i.imm] 39)).heap.size := by simp
          obtain ⟨wI, hwI⟩ : ∃ wI, w1.alloc (.cells #[.int .i64 i.op, .int .i64 i.d, .int .i64 i.a, .int .i64 i.b, .int .i64 i.c, .int .i64 i.imm] 39) = wI := ⟨_, rfl⟩
          have HWI := Lib.hid hwI
          rw [hwI] at BI sI n0 n1 n2 n3 n4 n5 sJ
          have HBI := Lib.hid BI
          have HBIw := Lib.hid BI
          have HBwI := Lib.hid (hBw.trans (BI.mono hBw.size))
          have g0 := (BI.cell (p := ⟨w.heap.size, 0, none⟩) (by go_size)).trans f0
          have g2 := (BI.cell (p := ⟨w.heap.size, 2, none⟩) (by go_size)).trans f2
          clear hwI BI
          go_upto_region 10 with fail
          rw [HWI.out]
          clear kc1 kf1 kd1 kg1 f0
          generalize w1.heap.size = bI at *
          go_cut [8] (fun o wx => o = .bool (Ev.refBad ay.length i) ∧ wI = wx)
          case first =>
            have fin : ∀ x : Bool, Ev.refBad ay.length i = x → Value.bool x = .bool (Ev.refBad ay.length i) := fun x h => by rw [h]
            have FIN := Lib.hid fin
            clear fin
            by_cases hd : 120 ≤ i.d
            · have HE := Lib.hid (show Ev.refBad ay.length i = true by unfold Ev.refBad; simp [hd])
              go_wp2_with fail
              go_meet
              first | exact ⟨FIN.out _ HE.out, rfl⟩ | exact ⟨congrArg Value.bool (by rw [HE.out]; simp; omega), rfl⟩
            by_cases h23 : i.op = 23
            · have g16 : (i.op == 16) = false := by rw [h23]; rfl
              have g17 : (i.op == 17) = false := by rw [h23]; rfl
              have g23 : (i.op == 23) = true := by rw [h23]; rfl
              have hd2 : i.d < 120 := by omega
              by_cases ha3 : 120 ≤ i.a
              · have HE := Lib.hid (show Ev.refBad ay.length i = true by unfold Ev.refBad; simp [g23, ha3])
                clear h23 hd
                go_wp2_with fail
                go_meet
                first | exact ⟨FIN.out _ HE.out, rfl⟩ | exact ⟨congrArg Value.bool (by rw [HE.out]; simp; omega), rfl⟩
              · have HE := Lib.hid (show Ev.refBad ay.length i = false by unfold Ev.refBad; simp [g23, g16, g17, hd, ha3])
                have ha4 : i.a < 120 := by omega
                clear h23 hd ha3
                go_wp2_with fail
                go_meet
                first | exact ⟨FIN.out _ HE.out, rfl⟩ | exact ⟨congrArg Value.bool (by rw [HE.out]; simp; omega), rfl⟩
            · have g23 : (i.op == 23) = false := by simpa using h23
              have hd2 : i.d < 120 := by omega
              by_cases h16 : i.op = 16
              · have g16 : (i.op == 16) = true := by rw [h16]; rfl
                by_cases hb : (ay.length : Int) ≤ i.b
                · have HE := Lib.hid (show Ev.refBad ay.length i = true by unfold Ev.refBad; simp [g16, hb])
                  clear h23 hd h16
                  go_wp2_with fail
                  go_meet
                  first | exact ⟨FIN.out _ HE.out, rfl⟩ | exact ⟨congrArg Value.bool (by rw [HE.out]; simp; omega), rfl⟩
                · have HE := Lib.hid (show Ev.refBad ay.length i = false by unfold Ev.refBad; simp [g23, hb, hd])
                  have hb' : i.b < (ay.length : Int) := by omega
                  clear h23 hd h16 hb
                  go_wp2_with fail
                  go_meet
                  first | exact ⟨FIN.out _ HE.out, rfl⟩ | exact ⟨congrArg Value.bool (by rw [HE.out]; simp; omega), rfl⟩
              · have g16 : (i.op == 16) = false := by simpa using h16
                by_cases h17 : i.op = 17
                · have g17 : (i.op == 17) = true := by rw [h17]; rfl
                  by_cases hb : (ay.length : Int) ≤ i.b
                  · have HE := Lib.hid (show Ev.refBad ay.length i = true by unfold Ev.refBad; simp [g17, hb])
                    clear h23 hd h16 h17
                    go_wp2_with fail
                    go_meet
                    first | exact ⟨FIN.out _ HE.out, rfl⟩ | exact ⟨congrArg Value.bool (by rw [HE.out]; simp; omega), rfl⟩
                  · have HE := Lib.hid (show Ev.refBad ay.length i = false by unfold Ev.refBad; simp [g23, hb, hd])
                    have hb' : i.b < (ay.length : Int) := by omega
                    clear h23 hd h16 h17 hb
                    go_wp2_with fail
                    go_meet
                    first | exact ⟨FIN.out _ HE.out, rfl⟩ | exact ⟨congrArg Value.bool (by rw [HE.out]; simp; omega), rfl⟩
                · have g17 : (i.op == 17) = false := by simpa using h17
                  have HE := Lib.hid (show Ev.refBad ay.length i = false by unfold Ev.refBad; simp [g23, g16, g17, hd])
                  clear h23 hd h16 h17
                  go_wp2_with fail
                  go_meet
                  first | exact ⟨FIN.out _ HE.out, rfl⟩ | exact ⟨congrArg Value.bool (by rw [HE.out]; simp; omega), rfl⟩
          case rest =>
            obtain ⟨rfl, rfl⟩ := hcut
            generalize Ev.refBad ay.length i = rb at *
            go_wp2_with (go_at_call 36; refine (refReads_any i _).mono ?_; rintro e w4 ⟨v4, rfl, hO4, hb4⟩; have HO4 := Lib.hid hO4; have HB4 := Lib.hid hb4; obtain ⟨A4, c4, hv4, hc41, hc42⟩ := SL.form (SL.of_own hO4); subst hv4; unfold maxLen at hc42; have sc := hb4.size; clear hO4 hb4)
            have q0 := (HB4.out.cell (p := ⟨bI, 0, none⟩) sJ).trans n0
            have q1 := (HB4.out.cell (p := ⟨bI, 1, none⟩) sJ).trans n1
            have q2 := (HB4.out.cell (p := ⟨bI, 2, none⟩) sJ).trans n2
            have q3 := (HB4.out.cell (p := ⟨bI, 3, none⟩) sJ).trans n3
            have q4 := (HB4.out.cell (p := ⟨bI, 4, none⟩) sJ).trans n4
            have q5 := (HB4.out.cell (p := ⟨bI, 5, none⟩) sJ).trans n5
            have HLR : Hid (RInts w4 w4.heap.size (.slice A4 (Ev.reads i).length c4) (Ev.reads i)) := SL.of_own HO4.out
            have HBw4 := Lib.hid (HBIw.out.trans (HB4.out.mono (by omega)))
            clear n0 n1 n2 n3 n4 n5 HO4
            generalize Ev.reads i = L at *
            go_loop [8, 78] (fun b u => ∃ q : Nat, q ≤ L.length ∧ u = .int .i64 q ∧ b = .bool (rb || (L.take q).any fun p => decide (120 ≤ p))) (fun _ u => L.length - (intOf u).toNat)
            case atStart => exact ⟨0, by omega, rfl, by simp⟩
            case round =>
              obtain ⟨q, hq, rfl, rfl⟩ := hrel
              by_cases hql : q < L.length
              · obtain ⟨bL, oL, cL, hvL, hbL, _, _, hcL⟩ := SL.row HLR.out (by omega : 0 < L.length)
                injection hvL with hA _ hcr
                subst hA hcr
                obtain ⟨x, hx⟩ : ∃ x, L[q]? = some x := ⟨L[q], List.getElem?_eq_getElem hql⟩
                have cx := hcL q (.int .i64 x) (by simp [hx])
                have HX := Lib.hid (Ev.any_take_snoc (fun p => decide (120 ≤ p)) hx)
                clear hx hcL
                generalize (L.take q).any (fun p => decide (120 ≤ p)) = y at *
                have HY2 : Hid (∀ z : Bool, ((rb || y) || decide (120 ≤ x)) = z → Value.bool z = .bool (rb || (L.take (q + 1)).any fun p => decide (120 ≤ p))) := fun z hz => by rw [HX.out, ← hz, Bool.or_assoc]
                cases hz : (rb || y)
                · rw [hz] at HY2
                  go_wp2_with fail
                  go_round
                  case rel => exact ⟨q + 1, by omega, by go_num, HY2.out _ rfl⟩
                  case measure => simp [intOf]; omega
                · rw [hz] at HY2
                  go_wp2_with fail
                  go_round
                  case rel => exact ⟨q + 1, by omega, by go_num, HY2.out _ (by simp)⟩
                  case measure => simp [intOf]; omega
              · have hqe : q = L.length := by omega
                subst hqe
                rw [List.take_length, HBE.out]
                cases hbad : Ev.loadBad ay.length i
                · have HR := Lib.hid (HON.out (H3.out (by trivial) hbad))
                  have HO2 := Lib.hid (owns_below HO.out HBw4.out)
                  have sw2 := HBw4.out.size
                  have hBW := Lib.hid (HB.out.trans (HBw4.out.mono hsz))
                  have HSN2 := Lib.hid (show (Ev.instrs b (j + 1)).flatMap cellsI = (Ev.instrs b j).flatMap cellsI ++ cellsI i by rw [HSN.out, List.flatMap_append]; simp)
                  have HLT := Lib.hid (fun q hq => (HO.out.lt q hq).1)
                  clear HST HON H1 H2 H3 HSN HZ HP HO B1 HBIw HBwI HLR HBE hbad
                  go_wp2_with (at_builtin; refine wpList_append_own_at _ rfl (.tmp 89) (.tmp 91) _ rfl (w.heap.size + 1) 39 i1 (.agg #[.int .i64 0, .int .i64 0, .int .i64 0, .int .i64 0, .int .i64 0, .int .i64 0]) 6 48 Try.underlying22 IC.out.1 IC.out.2.1 IC.out.2.2.1 IC.out.2.2.2 rfl (by decide) _ _ _ rfl (HO2.out.alloc _) ⟨w4.heap.size, 0, none⟩ 1 1 (cellsI i) rfl rfl (cell_six_new _ _ _) (one_six i) (by unfold maxLen; omega) (by omega) (by simp; omega) ?_; intro v3 w3 hown3 hg3 hn3 hat3)
                  go_roundw
                  case rel => exact ⟨j + 1, by omega, by go_num, HR.out, by rw [HSN2.out]; exact hown3, (hBW.out.alloc (by omega) _).grown hg3 (by simp; omega) HLT.out⟩
                  case measure => simp [intOf]; omega
                · have HR := Lib.hid (HST.out 3 (H2.out (by trivial) hbad) (by decide))
                  clear hbad
                  go_wp2_with fail
                  go_ret2
                  exact ⟨_, by rw [HR.out.1]; rfl, by rw [HR.out.2]; exact SL.nil_ _ _ _, by have e1 := HBw4.out; have e3 := hBw; (repeat' (first | (with_reducible exact Below.refl _ _) | (with_reducible assumption) | (with_reducible refine Below.alloc ?_ ?_ _) | (with_reducible refine below_drewN ?_ _) | (with_reducible refine Below.drew ?_) | (with_reducible refine Below.setCell ?_ ?_ _) | (with_reducible refine Below.trans ?_ (Below.mono (by with_reducible assumption) ?_)) | go_size))⟩
        · have hpe' : (pe != 0) = true := by simpa using hpe
          have HR := Lib.hid (HST.out pe (H1.out hpe) hpe)
          clear hpe
          go_wp2_with fail
          refine (HP.out).mono ?_
          rintro e w1 ⟨rfl, hb1⟩
          obtain ⟨kc1, kf1, s1⟩ := bfacts hb1
          (try simp only [World.size_alloc, World.size_setCell, World.size_drew, World.heap_drewN, Nat.add_one_le_iff] at s1)
          (try have z1 : wr.heap.size < w1.heap.size := by omega)
          have B1 : Hid (Below wr.heap.size wr w1) := by (show Below _ _ _); (repeat' (first | (with_reducible exact Below.refl _ _) | (with_reducible assumption) | (with_reducible refine Below.alloc ?_ ?_ _) | (with_reducible refine below_drewN ?_ _) | (with_reducible refine Below.drew ?_) | (with_reducible refine Below.setCell ?_ ?_ _) | (with_reducible refine Below.trans ?_ (Below.mono (by with_reducible assumption) ?_)) | go_size))
          obtain ⟨kd1, kg1, _⟩ := bfacts B1.out
          go_wp2_with fail
          go_ret2
          exact ⟨_, by rw [HR.out.1]; rfl, by rw [HR.out.2]; exact SL.nil_ _ _ _, by (repeat' (first | (with_reducible exact Below.refl _ _) | (with_reducible assumption) | (with_reducible refine Below.alloc ?_ ?_ _) | (with_reducible refine below_drewN ?_ _) | (with_reducible refine Below.drew ?_) | (with_reducible refine Below.setCell ?_ ?_ _) | (with_reducible refine Below.trans ?_ (Below.mono (by with_reducible assumption) ?_)) | go_size))⟩
      · have hje : j = b.length / 8 := by have := H0.out; omega
        have H := Lib.hid (load_end H0.out HZ.out hje)
        have hBw : Below w.heap.size w wr := by have e0 := HB.out; (repeat' (first | (with_reducible exact Below.refl _ _) | (with_reducible assumption) | (with_reducible refine Below.alloc ?_ ?_ _) | (with_reducible refine below_drewN ?_ _) | (with_reducible refine Below.drew ?_) | (with_reducible refine Below.setCell ?_ ?_ _) | (with_reducible refine Below.trans ?_ (Below.mono (by with_reducible assumption) ?_)) | go_size))
        have h8 : (b.length : Int) / 8 ≤ (j : Int) := by omega
        have HJ := Lib.hid hje
        clear hje
        go_wp2_with fail
        go_ret2
        exact ⟨_, by rw [H.out.1]; rfl, by
          rw [H.out.2]
          have := SL.of_own HO.out
          show SL _ _ _ _ _ _
          rw [Ev.instrs_len, ← HJ.out]
          exact this, hBw⟩
end Go.Proofs.Ytljcgcllhcdleaa
