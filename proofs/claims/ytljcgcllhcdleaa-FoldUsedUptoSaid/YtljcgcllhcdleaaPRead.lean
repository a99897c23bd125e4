import Derived.Test.YtljcgcllhcdleaaFo14
import Derived.Test.YtljcgcllhcdleaaFo23
import Derived.Test.YtljcgcllhcdleaaFo1
/- evlaw9.read: is a place read behind an instruction? -/
namespace Ev
theorem read_step {l : List Instr} {p : Int} {k : Nat} {on : Int → Bool} {i : Instr} (hi : l[k]? = some i) : readFrom l p (l.length - k) k on =
    if on (k : Int) = false then readFrom l p (l.length - (k + 1)) (k + 1) on
    else if p ∈ reads i then true
    else if (makes i = true ∧ i.d = p) ∨ i.op = 20 ∨ i.op = 21 then readFrom l p (l.length - (k + 1)) (k + 1) on
    else readFrom l p (l.length - (k + 1)) (k + 1) (if i.op = 18 then (if i.op = 18 ∨ i.op = 19 then onPut on i.imm else on) else onPut (if i.op = 18 ∨ i.op = 19 then onPut on i.imm else on) ((k + 1 : Nat) : Int)) := by
  have hlt : k < l.length := (List.getElem?_eq_some_iff.1 hi).1
  have hg : l.getD k default = i := by rw [List.getD_eq_getElem?_getD, hi]; rfl
  obtain ⟨n, hn⟩ : ∃ n, l.length - k = n + 1 := ⟨l.length - k - 1, by omega⟩
  have hn' : l.length - (k + 1) = n := by omega
  rw [hn, hn']
  conv => lhs; unfold readFrom
  rw [hg]
theorem read_off {l : List Instr} {p : Int} {k : Nat} {on : Int → Bool} {i : Instr} (hi : l[k]? = some i) (h0 : on (k : Int) = false) : readFrom l p (l.length - k) k on = readFrom l p (l.length - (k + 1)) (k + 1) on := by
  rw [read_step hi, if_pos h0]
theorem read_hit {l : List Instr} {p : Int} {k : Nat} {on : Int → Bool} {i : Instr} (hi : l[k]? = some i) (h0 : on (k : Int) = true) (h1 : p ∈ reads i) : readFrom l p (l.length - k) k on = true := by
  rw [read_step hi, if_neg (by rw [h0]; simp), if_pos h1]
theorem read_stop {l : List Instr} {p : Int} {k : Nat} {on : Int → Bool} {i : Instr} (hi : l[k]? = some i) (h0 : on (k : Int) = true) (h1 : ¬ p ∈ reads i) (h2 : (makes i = true ∧ i.d = p) ∨ i.op = 20 ∨ i.op = 21) : readFrom l p (l.length - k) k on = readFrom l p (l.length - (k + 1)) (k + 1) on := by
  rw [read_step hi, if_neg (by rw [h0]; simp), if_neg h1, if_pos h2]
theorem read_jump {l : List Instr} {p : Int} {k : Nat} {on : Int → Bool} {i : Instr} (hi : l[k]? = some i) (h0 : on (k : Int) = true) (h1 : ¬ p ∈ reads i) (h3 : makes i = false) (h2 : i.op = 18) : readFrom l p (l.length - k) k on = readFrom l p (l.length - (k + 1)) (k + 1) (onPut on i.imm) := by
  rw [read_step hi, if_neg (by rw [h0]; simp), if_neg h1, if_neg (by rw [h3]; simp; omega), if_pos h2, if_pos (Or.inl h2)]
theorem read_zero {l : List Instr} {p : Int} {k : Nat} {on : Int → Bool} {i : Instr} (hi : l[k]? = some i) (h0 : on (k : Int) = true) (h1 : ¬ p ∈ reads i) (h3 : makes i = false) (h2 : i.op = 19) : readFrom l p (l.length - k) k on = readFrom l p (l.length - (k + 1)) (k + 1) (onPut (onPut on i.imm) ((k + 1 : Nat) : Int)) := by
  rw [read_step hi, if_neg (by rw [h0]; simp), if_neg h1, if_neg (by rw [h3]; simp; omega), if_neg (by omega), if_pos (Or.inr h2)]
theorem read_go {l : List Instr} {p : Int} {k : Nat} {on : Int → Bool} {i : Instr} (hi : l[k]? = some i) (h0 : on (k : Int) = true) (h1 : ¬ p ∈ reads i) (h3 : ¬ (makes i = true ∧ i.d = p)) (h2 : i.op ≠ 18 ∧ i.op ≠ 19 ∧ i.op ≠ 20 ∧ i.op ≠ 21) : readFrom l p (l.length - k) k on = readFrom l p (l.length - (k + 1)) (k + 1) (onPut on ((k + 1 : Nat) : Int)) := by
  rw [read_step hi, if_neg (by rw [h0]; simp), if_neg h1, if_neg (by intro h; rcases h with h | h | h; exact h3 h; omega; omega), if_neg (by omega), if_neg (by omega)]
theorem makes_ops {i : Instr} (h : makes i = true) : 1 ≤ i.op ∧ i.op ≤ 16 := by
  unfold makes at h
  simp at h
  omega
end Ev
namespace Go.Proofs.Ytljcgcllhcdleaa
open Go.RowKit
set_option linter.unusedSimpArgs false
set_option linter.unusedVariables false
theorem setF_on (s : Int → Bool) (p : Int) : mapPut (setF s) p (some (.bool true)) = setF (Ev.onPut s p) := by
  funext q
  unfold mapPut setF Ev.onPut
  by_cases h : q = p
  · simp [h]
  · simp [h]
set_option maxRecDepth 8000 in
set_option maxHeartbeats 6400000 in
theorem read_any (l : List Ev.Instr) (at_ : Nat) (p : Int) (vc : Value) (w : World) (hc : RCode w w.heap.size vc l) (hl : l.length ≤ 1048576) (hat : at_ ≤ l.length) (hj : ∀ i ∈ l, i.op = 18 ∨ i.op = 19 → InW64 i.imm) :
    Calls Try.prog 31 #[vc, .int .i64 (at_ : Int), .int .i64 p] w fun e w' => e = .returned (.bool (Ev.readIn l at_ p)) ∧ Below w.heap.size w w' := by
  obtain ⟨Ac, cc, rfl, hc1, hc2⟩ := SL.form hc
  unfold maxLen at hc2
  have HC := Lib.hid hc
  have HJ := Lib.hid hj
  have hmm := @run_makeMap Try.prog
  obtain ⟨R, hR⟩ : ∃ R, Ev.readIn l at_ p = R := ⟨_, rfl⟩
  have HR0 : Hid (Ev.readFrom l p (l.length - at_) at_ (Ev.onPut (fun _ => false) (at_ : Int)) = R) := Lib.hid hR
  rw [hR]
  clear hc hj hR
  have bm : Below w.heap.size w (w.alloc (.map #[] 0)) := by (repeat' first | with_reducible (first | exact Below.refl _ _ | assumption | refine Below.alloc ?_ ?_ _ | refine below_drewN ?_ _ | refine Below.drew ?_ | refine Below.setCell ?_ ?_ _ | refine Below.trans ?_ (Below.mono (by with_reducible assumption) ?_)) | go_size)
  obtain ⟨w1, hu, hm1, ht1⟩ := (MapIn.made w).update Try.underlying107 (p := (at_ : Int)) ⟨by omega, by omega⟩ (.bool true)
  have HU := Lib.hid hu
  have HM1 : Hid (MapIn w1 w.heap.size (setF (Ev.onPut (fun _ => false) (at_ : Int)))) := Lib.hid (by
    rw [setF_none, setF_on] at hm1
    exact hm1)
  have b1 : Below w.heap.size w w1 := bm.trans (ht1.below (Nat.le_refl _) bm.size)
  clear hu hm1 ht1 bm
  go_enter Try.func31, Try.ntmps31
  go_upto_region 2 with (refine wpList_insert_run rfl _ _ _ _ rfl _ _ _ rfl rfl rfl _ HU.out ?_)
  go_wp2_with fail
  go_loopw [8] (fun kk wr => ∃ (k : Nat) (on : Int → Bool), at_ ≤ k ∧ k ≤ l.length ∧ kk = .int .i64 (k : Int) ∧ Hid (MapIn wr w.heap.size (setF on)) ∧ Hid (Ev.readFrom l p (l.length - k) k on = R) ∧ Below w.heap.size w wr) (fun kk _ => l.length - (intOf kk).toNat)
  case atStart => exact ⟨at_, _, Nat.le_refl _, hat, rfl, HM1, HR0, b1⟩
  case round =>
    clear HU HM1 HR0 b1
    obtain ⟨k, on, hak, hk, rfl, HM, HRd, hB⟩ := hrel
    have sB := hB.size
    have h64 : InW64 (k : Int) := ⟨by omega, by omega⟩
    have HL : Hid ((Go.Instr.lookup 107 (.map (some w.heap.size)) (.int .i64 (k : Int)) false).run Try.prog wr = .ok (.bool (on (k : Int))) wr) := Lib.hid (set_lookup HM.out h64)
    clear h64
    by_cases hlt : k < l.length
    case neg =>
      obtain rfl : k = l.length := by omega
      have hR : R = false := by
        have h := HRd.out
        rw [Nat.sub_self] at h
        exact h.symm
      subst hR
      go_wp2_with fail
      go_ret
      exact ⟨rfl, hB⟩
    case pos =>
    obtain ⟨i, hi⟩ : ∃ i, l[k]? = some i := ⟨l[k], List.getElem?_eq_getElem hlt⟩
    obtain ⟨b1, o1, r1, hv, hb1, _, _, _, p0, p1, p2, p3, p4, p5⟩ := RCode.at_ (SL.at_ HC.out hB (Nat.le_refl _)) hi
    injection hv with hA _ hcr
    subst hA hcr
    have HI := Lib.hid hi
    clear hi
    obtain ⟨bo, hbo⟩ : ∃ bo, on (k : Int) = bo := ⟨_, rfl⟩
    rw [hbo] at HL
    have HBO := Lib.hid hbo
    clear hbo
    cases bo with
    | false =>
      have HE := Lib.hid ((Ev.read_off HI.out HBO.out).symm.trans HRd.out)
      go_wp2_with (at_lookup; refine wpList_lookup_run rfl _ _ _ _ rfl _ _ _ rfl rfl _ HL.out ?_)
      go_roundw
      case rel => exact ⟨k + 1, on, by omega, by omega, by go_num, HM, HE, hB⟩
      case measure => simp [intOf]; omega
    | true =>
    go_upto_region 7 with (at_lookup; refine wpList_lookup_run rfl _ _ _ _ rfl _ _ _ rfl rfl _ HL.out ?_)
    have HBI := box_new wr (.cells #[.int .i64 i.op, .int .i64 i.d, .int .i64 i.a, .int .i64 i.b, .int .i64 i.c, .int .i64 i.imm] 39)
    have bA : Below wr.heap.size wr (wr.alloc (.cells #[.int .i64 i.op, .int .i64 i.d, .int .i64 i.a, .int .i64 i.b, .int .i64 i.c, .int .i64 i.imm] 39)) := (Below.refl _ _).alloc (Nat.le_refl _) _
    have sI : w.heap.size < wr.heap.size := HM.out.lt
    replace HM := Lib.hid (HM.out.on bA)
    replace hB : Below w.heap.size w (wr.alloc (.cells #[.int .i64 i.op, .int .i64 i.d, .int .i64 i.a, .int .i64 i.b, .int .i64 i.c, .int .i64 i.imm] 39)) := hB.trans (bA.mono sB)
    clear p0 p1 p2 p3 p4 p5 bA HL sB
    generalize wr.alloc (.cells #[.int .i64 i.op, .int .i64 i.d, .int .i64 i.a, .int .i64 i.b, .int .i64 i.c, .int .i64 i.imm] 39) = wA at *
    generalize wr.heap.size = bi at *
    have sB := hB.size
    go_upto_region 8 with (first | (refine wpList_load_box rfl 39 _ rfl rfl (box_load Try.underlying39 (by kernel_rfl) rfl (by kernel_rfl) HBI) ?_) | (go_at_call 36; refine (refReads_any i _).mono ?_; rintro e w2 ⟨v, rfl, ho, hb2⟩; have HO := Lib.hid (show RInts w2 w2.heap.size v (Ev.reads i) from SL.of_own ho); obtain ⟨Ar, cr, rfl, hrr1, hrr2⟩ := SL.form HO.out))
    unfold maxLen at hrr2
    replace HBI := box_on HBI hb2
    replace HM := Lib.hid (HM.out.on hb2)
    replace hB : Below w.heap.size w w2 := hB.trans (hb2.mono sB)
    clear ho hb2 sB
    have sB := hB.size
    have i0 : w2.cell? ⟨bi, 0, none⟩ = some (.int .i64 i.op) := box_cell HBI 0 rfl
    have hbi := box_lt HBI
    go_loopw [33] (fun jj wz => ∃ j : Nat, j ≤ (Ev.reads i).length ∧ jj = .int .i64 (j : Int) ∧ Hid (∀ (m : Nat) (q : Int), m < j → (Ev.reads i)[m]? = some q → q ≠ p) ∧ w2 = wz) (fun jj _ => (Ev.reads i).length - (intOf jj).toNat)
    case atStart => exact ⟨0, by omega, rfl, Lib.hid (fun m q h => by omega), rfl⟩
    case round =>
      obtain ⟨j, hj, rfl, HN, rfl⟩ := hrel
      by_cases hjl : j < (Ev.reads i).length
      · obtain ⟨q, hq⟩ : ∃ q, (Ev.reads i)[j]? = some q := ⟨(Ev.reads i)[j], List.getElem?_eq_getElem hjl⟩
        obtain ⟨b2, o2, r2, hv, hb2, _, _, _, z0⟩ := RInts.at_ HO.out hq
        injection hv with hA _ hcr
        subst hA hcr
        have HQ := Lib.hid hq
        clear hq
        by_cases hqp : q = p
        · have gq : (q == p) = true := beq_iff_eq.2 hqp
          have hR : R = true := by
            rw [← HRd.out]
            exact Ev.read_hit HI.out HBO.out (by rw [← hqp]; exact List.mem_of_getElem? HQ.out)
          subst hR
          clear hqp HRd
          go_wp2_with fail
          go_ret
          exact ⟨rfl, hB⟩
        · have gq : (q == p) = false := beq_eq_false_iff_ne.2 hqp
          have HQP := Lib.hid hqp
          clear hqp
          go_wp2_with fail
          go_roundw
          case rel =>
            refine ⟨j + 1, by omega, by go_num, Lib.hid (fun m q' hm hq' => ?_), by first | rfl | trivial⟩
            by_cases e : m = j
            · subst e
              rw [HQ.out] at hq'
              injection hq' with hq'
              rw [← hq']
              exact HQP.out
            · exact HN.out m q' (by omega) hq'
          case measure => simp [intOf]; omega
      · have HNR : Hid (¬ p ∈ Ev.reads i) := Lib.hid (fun h => by
          obtain ⟨m, hm, e⟩ := List.getElem_of_mem h
          exact HN.out m p (by omega) (by rw [List.getElem?_eq_getElem hm, e]) rfl)
        have HK1 : Hid (InW64 ((k : Int) + 1)) := Lib.hid ⟨by omega, by omega⟩
        clear HN HO
        obtain ⟨mk, hmk⟩ : ∃ mk, Ev.makes i = mk := ⟨_, rfl⟩
        have CM : Hid (∀ u : World, Calls Try.prog 30 #[.agg #[.int .i64 i.op, .int .i64 i.d, .int .i64 i.a, .int .i64 i.b, .int .i64 i.c, .int .i64 i.imm]] u fun e w' => e = .returned (.bool mk) ∧ Below u.heap.size u w') := Lib.hid (fun u => by
          have h := refMakes_any i u
          rw [hmk] at h
          exact h)
        have HMK := Lib.hid hmk
        clear hmk
        cases mk with
        | true =>
          have hop := Ev.makes_ops HMK.out
          have g18 : (i.op == 18) = false := beq_eq_false_iff_ne.2 (by omega)
          have n18 : (i.op != 18) = true := bne_iff_ne.2 (by omega)
          have g19 : (i.op == 19) = false := beq_eq_false_iff_ne.2 (by omega)
          have g20 : (i.op == 20) = false := beq_eq_false_iff_ne.2 (by omega)
          have g21 : (i.op == 21) = false := beq_eq_false_iff_ne.2 (by omega)
          by_cases hd : i.d = p
          · have gd : (i.d == p) = true := beq_iff_eq.2 hd
            have HE := Lib.hid ((Ev.read_stop HI.out HBO.out HNR.out (Or.inl ⟨HMK.out, hd⟩)).symm.trans HRd.out)
            clear hd hop
            go_wp2_with (first | (refine wpList_load_box rfl 39 _ rfl rfl (box_load Try.underlying39 (by kernel_rfl) rfl (by kernel_rfl) HBI) ?_) | (go_at_call 30; refine (CM.out _).mono ?_; rintro e w7 ⟨rfl, hb7⟩; have HB7 := box_on HBI hb7; have i0 : w7.cell? ⟨bi, 0, none⟩ = some (.int .i64 i.op) := box_cell HB7 0 rfl; have i1 : w7.cell? ⟨bi, 1, none⟩ = some (.int .i64 i.d) := box_cell HB7 1 rfl; have i5 : w7.cell? ⟨bi, 5, none⟩ = some (.int .i64 i.imm) := box_cell HB7 5 rfl; have HM7 := Lib.hid (HM.out.on hb7); have b7 : Below w.heap.size w w7 := hB.trans (hb7.mono sB)))
            go_roundw
            case rel => exact ⟨k + 1, on, by omega, by omega, by go_num, HM7, HE, b7⟩
            case measure => simp [intOf]; omega
          · have gd : (i.d == p) = false := beq_eq_false_iff_ne.2 hd
            have HE := Lib.hid ((Ev.read_go HI.out HBO.out HNR.out (fun h => hd h.2) ⟨by omega, by omega, by omega, by omega⟩).symm.trans HRd.out)
            clear hd hop
            go_wp2_with (first | (refine wpList_load_box rfl 39 _ rfl rfl (box_load Try.underlying39 (by kernel_rfl) rfl (by kernel_rfl) HBI) ?_) | (go_at_call 30; refine (CM.out _).mono ?_; rintro e w7 ⟨rfl, hb7⟩; have HB7 := box_on HBI hb7; have i0 : w7.cell? ⟨bi, 0, none⟩ = some (.int .i64 i.op) := box_cell HB7 0 rfl; have i1 : w7.cell? ⟨bi, 1, none⟩ = some (.int .i64 i.d) := box_cell HB7 1 rfl; have i5 : w7.cell? ⟨bi, 5, none⟩ = some (.int .i64 i.imm) := box_cell HB7 5 rfl; have HM7 := Lib.hid (HM.out.on hb7); have b7 : Below w.heap.size w w7 := hB.trans (hb7.mono sB)) | (at_mapUpdate; refine wpList_update_at (v := .bool true) rfl _ _ _ 107 _ rfl Try.underlying107 rfl rfl rfl HM7.out HK1.out ?_; intro w8 hm8 ht8; rw [setF_on] at hm8; have HM8 := Lib.hid hm8; have b8 : Below w.heap.size w w8 := b7.trans (ht8.below (Nat.le_refl _) b7.size); have i0 : w8.cell? ⟨bi, 0, none⟩ = some (.int .i64 i.op) := (ht8.cell (by omega)).trans i0))
            go_roundw
            case rel => exact ⟨k + 1, _, by omega, by omega, by go_num, HM8, HE, b8⟩
            case measure => simp [intOf]; omega
        | false =>
          rcases (show i.op = 20 ∨ i.op = 21 ∨ i.op = 18 ∨ i.op = 19 ∨ (i.op ≠ 18 ∧ i.op ≠ 19 ∧ i.op ≠ 20 ∧ i.op ≠ 21) by omega) with h | h | h | h | h
          · have g20 : (i.op == 20) = true := beq_iff_eq.2 h
            have HE := Lib.hid ((Ev.read_stop HI.out HBO.out HNR.out (Or.inr (Or.inl h))).symm.trans HRd.out)
            clear h
            go_wp2_with (first | (refine wpList_load_box rfl 39 _ rfl rfl (box_load Try.underlying39 (by kernel_rfl) rfl (by kernel_rfl) HBI) ?_) | (go_at_call 30; refine (CM.out _).mono ?_; rintro e w7 ⟨rfl, hb7⟩; have HB7 := box_on HBI hb7; have i0 : w7.cell? ⟨bi, 0, none⟩ = some (.int .i64 i.op) := box_cell HB7 0 rfl; have i1 : w7.cell? ⟨bi, 1, none⟩ = some (.int .i64 i.d) := box_cell HB7 1 rfl; have i5 : w7.cell? ⟨bi, 5, none⟩ = some (.int .i64 i.imm) := box_cell HB7 5 rfl; have HM7 := Lib.hid (HM.out.on hb7); have b7 : Below w.heap.size w w7 := hB.trans (hb7.mono sB)))
            go_roundw
            case rel => exact ⟨k + 1, on, by omega, by omega, by go_num, HM7, HE, b7⟩
            case measure => simp [intOf]; omega
          · have g20 : (i.op == 20) = false := beq_eq_false_iff_ne.2 (by omega)
            have g21 : (i.op == 21) = true := beq_iff_eq.2 h
            have HE := Lib.hid ((Ev.read_stop HI.out HBO.out HNR.out (Or.inr (Or.inr h))).symm.trans HRd.out)
            clear h
            go_wp2_with (first | (refine wpList_load_box rfl 39 _ rfl rfl (box_load Try.underlying39 (by kernel_rfl) rfl (by kernel_rfl) HBI) ?_) | (go_at_call 30; refine (CM.out _).mono ?_; rintro e w7 ⟨rfl, hb7⟩; have HB7 := box_on HBI hb7; have i0 : w7.cell? ⟨bi, 0, none⟩ = some (.int .i64 i.op) := box_cell HB7 0 rfl; have i1 : w7.cell? ⟨bi, 1, none⟩ = some (.int .i64 i.d) := box_cell HB7 1 rfl; have i5 : w7.cell? ⟨bi, 5, none⟩ = some (.int .i64 i.imm) := box_cell HB7 5 rfl; have HM7 := Lib.hid (HM.out.on hb7); have b7 : Below w.heap.size w w7 := hB.trans (hb7.mono sB)))
            go_roundw
            case rel => exact ⟨k + 1, on, by omega, by omega, by go_num, HM7, HE, b7⟩
            case measure => simp [intOf]; omega
          · have g18 : (i.op == 18) = true := beq_iff_eq.2 h
            have n18 : (i.op != 18) = false := by rw [h]; rfl
            have g20 : (i.op == 20) = false := beq_eq_false_iff_ne.2 (by omega)
            have g21 : (i.op == 21) = false := beq_eq_false_iff_ne.2 (by omega)
            have HJ1 := Lib.hid (HJ.out i (List.mem_of_getElem? HI.out) (Or.inl h))
            have HE := Lib.hid ((Ev.read_jump HI.out HBO.out HNR.out HMK.out h).symm.trans HRd.out)
            clear h
            go_wp2_with (first | (refine wpList_load_box rfl 39 _ rfl rfl (box_load Try.underlying39 (by kernel_rfl) rfl (by kernel_rfl) HBI) ?_) | (go_at_call 30; refine (CM.out _).mono ?_; rintro e w7 ⟨rfl, hb7⟩; have HB7 := box_on HBI hb7; have i0 : w7.cell? ⟨bi, 0, none⟩ = some (.int .i64 i.op) := box_cell HB7 0 rfl; have i1 : w7.cell? ⟨bi, 1, none⟩ = some (.int .i64 i.d) := box_cell HB7 1 rfl; have i5 : w7.cell? ⟨bi, 5, none⟩ = some (.int .i64 i.imm) := box_cell HB7 5 rfl; have HM7 := Lib.hid (HM.out.on hb7); have b7 : Below w.heap.size w w7 := hB.trans (hb7.mono sB)) | (at_mapUpdate; refine wpList_update_at (v := .bool true) rfl _ _ _ 107 _ rfl Try.underlying107 rfl rfl rfl HM7.out HJ1.out ?_; intro w8 hm8 ht8; rw [setF_on] at hm8; have HM8 := Lib.hid hm8; have b8 : Below w.heap.size w w8 := b7.trans (ht8.below (Nat.le_refl _) b7.size); have i0 : w8.cell? ⟨bi, 0, none⟩ = some (.int .i64 i.op) := (ht8.cell (by omega)).trans i0))
            go_roundw
            case rel => exact ⟨k + 1, _, by omega, by omega, by go_num, HM8, HE, b8⟩
            case measure => simp [intOf]; omega
          · have g18 : (i.op == 18) = false := beq_eq_false_iff_ne.2 (by omega)
            have n18 : (i.op != 18) = true := bne_iff_ne.2 (by omega)
            have g19 : (i.op == 19) = true := beq_iff_eq.2 h
            have g20 : (i.op == 20) = false := beq_eq_false_iff_ne.2 (by omega)
            have g21 : (i.op == 21) = false := beq_eq_false_iff_ne.2 (by omega)
            have HJ1 := Lib.hid (HJ.out i (List.mem_of_getElem? HI.out) (Or.inr h))
            have HE := Lib.hid ((Ev.read_zero HI.out HBO.out HNR.out HMK.out h).symm.trans HRd.out)
            clear h
            go_upto_region 17 with (first | (refine wpList_load_box rfl 39 _ rfl rfl (box_load Try.underlying39 (by kernel_rfl) rfl (by kernel_rfl) HBI) ?_) | (go_at_call 30; refine (CM.out _).mono ?_; rintro e w7 ⟨rfl, hb7⟩; have HB7 := box_on HBI hb7; have i0 : w7.cell? ⟨bi, 0, none⟩ = some (.int .i64 i.op) := box_cell HB7 0 rfl; have i1 : w7.cell? ⟨bi, 1, none⟩ = some (.int .i64 i.d) := box_cell HB7 1 rfl; have i5 : w7.cell? ⟨bi, 5, none⟩ = some (.int .i64 i.imm) := box_cell HB7 5 rfl; have HM7 := Lib.hid (HM.out.on hb7); have b7 : Below w.heap.size w w7 := hB.trans (hb7.mono sB)) | (at_mapUpdate; refine wpList_update_at (v := .bool true) rfl _ _ _ 107 _ rfl Try.underlying107 rfl rfl rfl HM7.out HJ1.out ?_; intro w8 hm8 ht8; rw [setF_on] at hm8; have HM8 := Lib.hid hm8; have b8 : Below w.heap.size w w8 := b7.trans (ht8.below (Nat.le_refl _) b7.size); have i0 : w8.cell? ⟨bi, 0, none⟩ = some (.int .i64 i.op) := (ht8.cell (by omega)).trans i0))
            go_wp2_with (at_mapUpdate; refine wpList_update_at (v := .bool true) rfl _ _ _ 107 _ rfl Try.underlying107 rfl rfl rfl HM8.out HK1.out ?_; intro w9 hm9 ht9; rw [setF_on] at hm9; have HM9 := Lib.hid hm9; have b9 : Below w.heap.size w w9 := b8.trans (ht9.below (Nat.le_refl _) b8.size); have i0 : w9.cell? ⟨bi, 0, none⟩ = some (.int .i64 i.op) := (ht9.cell (by omega)).trans i0)
            go_roundw
            case rel => exact ⟨k + 1, _, by omega, by omega, by go_num, HM9, HE, b9⟩
            case measure => simp [intOf]; omega
          · have g18 : (i.op == 18) = false := beq_eq_false_iff_ne.2 (by omega)
            have n18 : (i.op != 18) = true := bne_iff_ne.2 (by omega)
            have g19 : (i.op == 19) = false := beq_eq_false_iff_ne.2 (by omega)
            have g20 : (i.op == 20) = false := beq_eq_false_iff_ne.2 (by omega)
            have g21 : (i.op == 21) = false := beq_eq_false_iff_ne.2 (by omega)
            have HE := Lib.hid ((Ev.read_go HI.out HBO.out HNR.out (fun h => by rw [HMK.out] at h; cases h.1) h).symm.trans HRd.out)
            clear h
            go_wp2_with (first | (refine wpList_load_box rfl 39 _ rfl rfl (box_load Try.underlying39 (by kernel_rfl) rfl (by kernel_rfl) HBI) ?_) | (go_at_call 30; refine (CM.out _).mono ?_; rintro e w7 ⟨rfl, hb7⟩; have HB7 := box_on HBI hb7; have i0 : w7.cell? ⟨bi, 0, none⟩ = some (.int .i64 i.op) := box_cell HB7 0 rfl; have i1 : w7.cell? ⟨bi, 1, none⟩ = some (.int .i64 i.d) := box_cell HB7 1 rfl; have i5 : w7.cell? ⟨bi, 5, none⟩ = some (.int .i64 i.imm) := box_cell HB7 5 rfl; have HM7 := Lib.hid (HM.out.on hb7); have b7 : Below w.heap.size w w7 := hB.trans (hb7.mono sB)) | (at_mapUpdate; refine wpList_update_at (v := .bool true) rfl _ _ _ 107 _ rfl Try.underlying107 rfl rfl rfl HM7.out HK1.out ?_; intro w8 hm8 ht8; rw [setF_on] at hm8; have HM8 := Lib.hid hm8; have b8 : Below w.heap.size w w8 := b7.trans (ht8.below (Nat.le_refl _) b7.size); have i0 : w8.cell? ⟨bi, 0, none⟩ = some (.int .i64 i.op) := (ht8.cell (by omega)).trans i0))
            go_roundw
            case rel => exact ⟨k + 1, _, by omega, by omega, by go_num, HM8, HE, b8⟩
            case measure => simp [intOf]; omega
end Go.Proofs.Ytljcgcllhcdleaa
