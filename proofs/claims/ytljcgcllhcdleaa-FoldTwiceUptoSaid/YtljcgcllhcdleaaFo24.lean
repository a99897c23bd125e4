import Derived.Test.YtljcgcllhcdleaaFo23
import Derived.Deep.CutBlock
import Derived.Test.YtljcgcllhcdleaaFo14
import Derived.Deep.DeepCutAuto
/- Chapter 7, the reference: what is wrong with flat instructions. -/
namespace Ev
/-- the places that are looked at -/
def looked (i : Instr) : List Int := reads i ++ (if makes i then [i.d] else [])
def bad0 (f : Flat) (i : Instr) : Bool := (looked i).any fun p => !isPlace f p
def bad1 (f : Flat) (i : Instr) : Bool := bad0 f i || (decide (i.op = 14) && !isWord i.imm)
def bad2 (f : Flat) (i : Instr) : Bool := bad1 f i || (decide (i.op = 16 ∨ i.op = 17) && !(decide (0 ≤ i.b) && decide (i.b < f.arrays.length)))
def bad3 (f : Flat) (k : Nat) (i : Instr) : Bool := bad2 f i || (decide (i.op = 18 ∨ i.op = 19) && !(decide ((k : Int) < i.imm) && decide (i.imm < f.code.length)))
theorem secrets16 {f : Flat} {i : Instr} (h : i.op = 16) : secrets f i = ((reads i).any (sec f.secret) || (arrSec f.arrays i.b && !sec f.secret i.d)) := by
  unfold secrets reads; simp [h]
theorem secrets17 {f : Flat} {i : Instr} (h : i.op = 17) : secrets f i = (sec f.secret i.a || (sec f.secret i.d && !arrSec f.arrays i.b)) := by
  unfold secrets; simp [h]
theorem secrets19 {f : Flat} {i : Instr} (h : i.op = 19) : secrets f i = (reads i).any (sec f.secret) := by
  unfold secrets reads; simp [h]
theorem secretsM {f : Flat} {i : Instr} (h1 : 1 ≤ i.op) (h2 : i.op ≤ 15) : secrets f i = ((reads i).any (sec f.secret) && !sec f.secret i.d) := by
  unfold secrets; rw [if_neg (by omega), if_neg (by omega), if_neg (by omega), if_neg (by omega)]
theorem secretsN {f : Flat} {i : Instr} (h1 : i.op = 18 ∨ i.op = 20 ∨ i.op = 21) : secrets f i = false := by
  unfold secrets reads; rcases h1 with h | h | h <;> simp [h]
theorem reads_le (i : Instr) : (reads i).length ≤ 4 := by
  unfold reads
  repeat' split
  all_goals simp
theorem bad3_is (f : Flat) (k : Nat) (i : Instr) : bad3 f k i = !numbers f k i := by
  unfold bad3 bad2 bad1 bad0 looked numbers
  rw [List.any_append]
  have e1 : (reads i).any (fun p => !isPlace f p) = !(reads i).all (isPlace f) := by
    rw [List.all_eq_not_any_not, Bool.not_not]
  rw [e1]
  have e2 : (if makes i then [i.d] else []).any (fun p => !isPlace f p) = (makes i && !isPlace f i.d) := by
    cases makes i <;> simp
  rw [e2]
  generalize (reads i).all (isPlace f) = A
  generalize isPlace f i.d = D
  generalize makes i = M
  generalize isWord i.imm = W
  generalize (decide (0 ≤ i.b) && decide (i.b < (f.arrays.length : Int))) = X
  generalize (decide ((k : Int) < i.imm) && decide (i.imm < (f.code.length : Int))) = J
  by_cases h1 : i.op = 14
  · have n1 : ¬ (i.op = 16 ∨ i.op = 17) := by omega
    have n2 : ¬ (i.op = 18 ∨ i.op = 19) := by omega
    rw [if_pos h1]
    simp only [decide_eq_true h1, decide_eq_false n1, decide_eq_false n2]
    cases A <;> cases D <;> cases M <;> cases W <;> rfl
  · rw [if_neg h1]
    by_cases h2 : i.op = 16 ∨ i.op = 17
    · have n2 : ¬ (i.op = 18 ∨ i.op = 19) := by omega
      rw [if_pos h2]
      simp only [decide_eq_false h1, decide_eq_true h2, decide_eq_false n2]
      cases A <;> cases D <;> cases M <;> cases X <;> rfl
    · rw [if_neg h2]
      by_cases h3 : i.op = 18 ∨ i.op = 19
      · rw [if_pos h3]
        simp only [decide_eq_false h1, decide_eq_false h2, decide_eq_true h3]
        cases A <;> cases D <;> cases M <;> cases J <;> rfl
      · rw [if_neg h3]
        simp only [decide_eq_false h1, decide_eq_false h2, decide_eq_false h3]
        cases A <;> cases D <;> cases M <;> rfl
end Ev
namespace Go.Proofs.Ytljcgcllhcdleaa
open Go.RowKit
set_option linter.unusedSimpArgs false
set_option linter.unusedVariables false
set_option maxRecDepth 8000 in
set_option maxHeartbeats 6400000 in
theorem refCheck_any (f : Ev.Flat) (v : Value) (w : World) (h : RFlat w w.heap.size v f) :
    Calls Try.prog 17 #[v] w fun e w' => e = .returned (.tuple #[.int .i64 (Ev.check f).1, .int .i64 (Ev.check f).2]) ∧ Below w.heap.size w w' := by
  obtain ⟨vc, vs, va, rfl, hc, hs, ha⟩ := h
  have hF := FlatAt.box 26 hc hs ha
  obtain ⟨Ac, cc, rfl, hc1, hc2⟩ := SL.form hc
  obtain ⟨As, cs, rfl, hs1, hs2⟩ := SL.form hs
  obtain ⟨Av, cv, rfl, hv1, hv2⟩ := SL.form ha
  unfold maxLen at hc2 hs2 hv2
  obtain ⟨i0, hi0, hz0, hz1, hz2⟩ := info_parts int_info
  have II := Lib.hid (⟨hi0, hz0, hz1, hz2⟩ : _ ∧ _ ∧ _ ∧ _)
  clear hi0 hz0 hz1 hz2
  by_cases hbig : Big f
  case pos =>
    have hr := check_big hbig
    unfold Big at hbig
    rw [hr]
    clear hF hc hs ha
    have HBG := Lib.hid hbig
    clear hbig hr
    by_cases g1 : f.code.length < 1
    · have e1 : ((f.code.length : Int) == 0) = true := beq_iff_eq.2 (by omega)
      clear g1
      go_enter Try.func17, Try.ntmps17
      go_wp2
      go_ret2
      exact ⟨rfl, by (repeat' first | with_reducible (first | exact Below.refl _ _ | assumption | refine Below.alloc ?_ ?_ _ | refine below_drewN ?_ _ | refine Below.drew ?_ | refine Below.setCell ?_ ?_ _ | refine Below.trans ?_ (Below.mono (by with_reducible assumption) ?_)) | go_size)⟩
    have e1 : ((f.code.length : Int) == 0) = false := beq_eq_false_iff_ne.2 (by omega)
    by_cases g2 : 12000 < f.code.length
    · have e2 : decide (12000 < (f.code.length : Int)) = true := by simp; omega
      clear g1 g2
      go_enter Try.func17, Try.ntmps17
      go_wp2
      go_ret2
      exact ⟨rfl, by (repeat' first | with_reducible (first | exact Below.refl _ _ | assumption | refine Below.alloc ?_ ?_ _ | refine below_drewN ?_ _ | refine Below.drew ?_ | refine Below.setCell ?_ ?_ _ | refine Below.trans ?_ (Below.mono (by with_reducible assumption) ?_)) | go_size)⟩
    have e2 : decide (12000 < (f.code.length : Int)) = false := by simp; omega
    by_cases g3 : f.params < 0
    · have e3 : decide (f.params < 0) = true := by simpa using g3
      clear g1 g2 g3
      go_enter Try.func17, Try.ntmps17
      go_wp2
      go_ret2
      exact ⟨rfl, by (repeat' first | with_reducible (first | exact Below.refl _ _ | assumption | refine Below.alloc ?_ ?_ _ | refine below_drewN ?_ _ | refine Below.drew ?_ | refine Below.setCell ?_ ?_ _ | refine Below.trans ?_ (Below.mono (by with_reducible assumption) ?_)) | go_size)⟩
    have e3 : decide (f.params < 0) = false := by simp; omega
    have e4 : decide ((f.secret.length : Int) < f.params) = true := by have := HBG.out; simp; omega
    clear g1 g2 g3
    go_enter Try.func17, Try.ntmps17
    go_wp2
    go_ret2
    exact ⟨rfl, by (repeat' first | with_reducible (first | exact Below.refl _ _ | assumption | refine Below.alloc ?_ ?_ _ | refine below_drewN ?_ _ | refine Below.drew ?_ | refine Below.setCell ?_ ?_ _ | refine Below.trans ?_ (Below.mono (by with_reducible assumption) ?_)) | go_size)⟩
  case neg =>
  have H1 := Lib.hid (fun j i hb hi hn => check_at (f := f) hbig (j := j) (i := i) hb hi hn)
  have H2 := Lib.hid (fun hb => check_end (f := f) hbig hb)
  unfold Big at hbig
  have b1 : 1 ≤ f.code.length := by omega
  have b2 : f.code.length ≤ 12000 := by omega
  have b3 : 0 ≤ f.params := by omega
  have b4 : f.params ≤ (f.secret.length : Int) := by omega
  have e1 : ((f.code.length : Int) == 0) = false := beq_eq_false_iff_ne.2 (by omega)
  have e2 : decide (12000 < (f.code.length : Int)) = false := by simp; omega
  have e3 : decide (f.params < 0) = false := by simp; omega
  have e4 : decide ((f.secret.length : Int) < f.params) = false := by simp; omega
  have HF := Lib.hid hF
  clear hF hbig hc hs ha
  generalize Ev.check f = res at *
  go_enter Try.func17, Try.ntmps17
  go_wp2_with fail
  clear e1 e2 e3 e4
  go_loopw [43] (fun u wr => ∃ j : Nat, j ≤ f.code.length ∧ u = .int .i64 j ∧ Below (w.heap.size + 1) (w.alloc (.cells #[.slice Ac f.code.length cc, .slice As f.secret.length cs, .int .i64 f.params, .slice Av f.arrays.length cv] 26)) wr ∧
      Hid (∀ m, m < j → ∀ x, f.code[m]? = some x → Ev.checkAt f m x = 0)) (fun u _ => f.code.length - (intOf u).toNat)
  case atStart => exact ⟨0, by omega, rfl, Below.refl _ _, fun m hm => absurd hm (by omega)⟩
  case round =>
    obtain ⟨j, hj, rfl, hB, hall⟩ := hrel
    have hs := hB.size
    simp only [World.size_alloc] at hs
    have hBw : Below w.heap.size w wr := by (repeat' first | with_reducible (first | exact Below.refl _ _ | assumption | refine Below.alloc ?_ ?_ _ | refine below_drewN ?_ _ | refine Below.drew ?_ | refine Below.setCell ?_ ?_ _ | refine Below.trans ?_ (Below.mono (by with_reducible assumption) ?_)) | go_size)
    have HFW := Lib.hid (show FlatAt wr w.heap.size f (.slice Ac f.code.length cc) (.slice As f.secret.length cs) (.slice Av f.arrays.length cv) from HF.out.at_ (hB.mono (by simp)))
    have q0 := HFW.out.c0
    have q1 := HFW.out.c1
    have q2 := HFW.out.c2
    have q3 := HFW.out.c3
    by_cases hlt : j < f.code.length
    · obtain ⟨i, hi⟩ : ∃ i, f.code[j]? = some i := ⟨f.code[j], List.getElem?_eq_getElem hlt⟩
      obtain ⟨bc, o, c, hv, hbc, _, _, _, c0, c1, c2, c3, c4, c5⟩ := RCode.at_ HFW.out.code hi
      injection hv with hA _ hcr
      subst hA hcr
      have HI := Lib.hid hi
      clear hi
      have C := Lib.hid (fun (e : Int) (h : Ev.checkAt f j i = e) (hn : e ≠ 0) => (H1.out j i hall.out HI.out (by rw [h]; exact hn)).trans (by rw [h]))
      by_cases hop : 1 ≤ i.op ∧ i.op ≤ 21
      case neg =>
        have HRES := Lib.hid (C.out 1 (by unfold Ev.checkAt; rw [if_pos hop]) (by decide))
        by_cases h1 : i.op < 1
        · have e5 : decide (i.op < 1) = true := by simpa using h1
          clear hop h1
          go_wp2
          go_ret2
          exact ⟨by rw [HRES.out]; rfl, by (repeat' first | with_reducible (first | exact Below.refl _ _ | assumption | refine Below.alloc ?_ ?_ _ | refine below_drewN ?_ _ | refine Below.drew ?_ | refine Below.setCell ?_ ?_ _ | refine Below.trans ?_ (Below.mono (by with_reducible assumption) ?_)) | go_size)⟩
        · have e5 : decide (i.op < 1) = false := by simpa using h1
          have e6 : decide (21 < i.op) = true := by simp; omega
          clear hop h1
          go_wp2
          go_ret2
          exact ⟨by rw [HRES.out]; rfl, by (repeat' first | with_reducible (first | exact Below.refl _ _ | assumption | refine Below.alloc ?_ ?_ _ | refine below_drewN ?_ _ | refine Below.drew ?_ | refine Below.setCell ?_ ?_ _ | refine Below.trans ?_ (Below.mono (by with_reducible assumption) ?_)) | go_size)⟩
      obtain ⟨op1, op2⟩ := hop
      have e5 : decide (i.op < 1) = false := by simp; omega
      have e6 : decide (21 < i.op) = false := by simp; omega
      have sI : wr.heap.size < (wr.alloc (.cells #[.int .i64 i.op, .int .i64 i.d, .int .i64 i.a, .int .i64 i.b, .int .i64 i.c, .int .i64 i.imm] 39)).heap.size := by simp
      have n0 : (wr.alloc (.cells #[.int .i64 i.op, .int .i64 i.d, .int .i64 i.a, .int .i64 i.b, .int .i64 i.c, .int .i64 i.imm] 39)).cell? ⟨wr.heap.size, 0, none⟩ = some (.int .i64 i.op) := by go_simp
      have n1 : (wr.alloc (.cells #[.int .i64 i.op, .int .i64 i.d, .int .i64 i.a, .int .i64 i.b, .int .i64 i.c, .int .i64 i.imm] 39)).cell? ⟨wr.heap.size, 1, none⟩ = some (.int .i64 i.d) := by go_simp
      have n2 : (wr.alloc (.cells #[.int .i64 i.op, .int .i64 i.d, .int .i64 i.a, .int .i64 i.b, .int .i64 i.c, .int .i64 i.imm] 39)).cell? ⟨wr.heap.size, 2, none⟩ = some (.int .i64 i.a) := by go_simp
      have n3 : (wr.alloc (.cells #[.int .i64 i.op, .int .i64 i.d, .int .i64 i.a, .int .i64 i.b, .int .i64 i.c, .int .i64 i.imm] 39)).cell? ⟨wr.heap.size, 3, none⟩ = some (.int .i64 i.b) := by go_simp
      have n4 : (wr.alloc (.cells #[.int .i64 i.op, .int .i64 i.d, .int .i64 i.a, .int .i64 i.b, .int .i64 i.c, .int .i64 i.imm] 39)).cell? ⟨wr.heap.size, 4, none⟩ = some (.int .i64 i.c) := by go_simp
      have n5 : (wr.alloc (.cells #[.int .i64 i.op, .int .i64 i.d, .int .i64 i.a, .int .i64 i.b, .int .i64 i.c, .int .i64 i.imm] 39)).cell? ⟨wr.heap.size, 5, none⟩ = some (.int .i64 i.imm) := by go_simp
      have FI : FlatAt (wr.alloc (.cells #[.int .i64 i.op, .int .i64 i.d, .int .i64 i.a, .int .i64 i.b, .int .i64 i.c, .int .i64 i.imm] 39)) w.heap.size f (.slice (some ⟨bc, o, none⟩) f.code.length cc) (.slice As f.secret.length cs) (.slice Av f.arrays.length cv) := HFW.out.at_ (by (repeat' first | with_reducible (first | exact Below.refl _ _ | assumption | refine Below.alloc ?_ ?_ _ | refine below_drewN ?_ _ | refine Below.drew ?_ | refine Below.setCell ?_ ?_ _ | refine Below.trans ?_ (Below.mono (by with_reducible assumption) ?_)) | go_size))
      have BI : Below (w.heap.size + 1) (w.alloc (.cells #[.slice (some ⟨bc, o, none⟩) f.code.length cc, .slice As f.secret.length cs, .int .i64 f.params, .slice Av f.arrays.length cv] 26)) (wr.alloc (.cells #[.int .i64 i.op, .int .i64 i.d, .int .i64 i.a, .int .i64 i.b, .int .i64 i.c, .int .i64 i.imm] 39)) := hB.alloc (by omega) _
      obtain ⟨wI, hwI⟩ : ∃ wI, (wr.alloc (.cells #[.int .i64 i.op, .int .i64 i.d, .int .i64 i.a, .int .i64 i.b, .int .i64 i.c, .int .i64 i.imm] 39)) = wI := ⟨_, rfl⟩
      have HWI := Lib.hid hwI
      rw [hwI] at sI FI BI n0 n1 n2 n3 n4 n5
      have HFI := Lib.hid FI
      have HBI := Lib.hid BI
      go_upto_region 9 with fail
      (try rw [HWI.out])
      clear hwI HWI FI BI hB hBw HFW q0 q1 q2 q3 c0 c1 c2 c3 c4 c5 HF
      have q0 := HFI.out.c0
      have q1 := HFI.out.c1
      have q2 := HFI.out.c2
      have q3 := HFI.out.c3
      have sw : w.heap.size < wI.heap.size := by omega
      go_upto_region 10 with (go_at_call 36; refine (refReads_any i _).mono ?_; rintro e w1 ⟨v1, rfl, hown1, hb1⟩; obtain ⟨kc1, kf1, s1⟩ := bfacts hb1; have z1 : w.heap.size < w1.heap.size := (by omega); have z2 : wr.heap.size < w1.heap.size := (by omega))
      go_upto_if 60 with (go_at_call 30; refine (refMakes_any i _).mono ?_; rintro e w2 ⟨rfl, hb2⟩)
      have HB2 : Hid (Below wI.heap.size wI w2) := hb1.trans (hb2.mono s1)
      have HO2 := Lib.hid (owns_below hown1 hb2)
      clear kc1 kf1 s1 z1 z2 hown1 hb1 hb2
      have HBW := HB2.out.size
      go_cut [7] (fun o wx => Hid (wx.ownsRow wI.heap.size 3 1 o (Ev.looked i).length ((Ev.looked i).map (Value.int .i64))) ∧ Below wI.heap.size wI wx)
      case first => as_aux_lemma =>
        obtain ⟨kc2, kf2, s2⟩ := bfacts HB2.out
        cases hm : Ev.makes i with
        | false =>
          have hl : Ev.looked i = Ev.reads i := by unfold Ev.looked; rw [hm]; exact List.append_nil _
          go_wp2_with fail
          go_meet
          exact ⟨by rw [hl]; exact HO2.out, HB2.out⟩
        | true =>
          have hl : Ev.looked i = Ev.reads i ++ [i.d] := by unfold Ev.looked; rw [hm]; rfl
          have hrl := Ev.reads_le i
          have HHL := Lib.hid hl
          clear hl
          go_wp2_with (at_builtin; refine wpList_append_own_at _ rfl (.tmp 61) (.tmp 64) _ rfl wI.heap.size 3 i0 (.int .i64 0) 1 8 Try.underlying42 II.out.1 II.out.2.1 II.out.2.2.1 II.out.2.2.2 rfl (by decide) _ _ _ rfl (HO2.out.alloc _) ⟨w2.heap.size, 0, none⟩ 1 1 [.int .i64 i.d] rfl rfl (cell_one_new _ _ _) (fun x hx => by simp at hx; subst hx; rfl) (by unfold maxLen; omega) (by omega) (by simp; omega) ?_; intro v3 w3 hown3 hg3 hn3 hat3)
          have hb3 := (HB2.out.alloc HBW (.cells #[.int .i64 i.d] 3)).grown hg3 (by simp; omega) (fun q hq => (HO2.out.lt q hq).1)
          go_meet
          refine ⟨?_, hb3⟩
          rw [HHL.out, List.map_append, List.length_append]
          exact hown3
      case rest =>
      clear HO2 HB2 HBW
      obtain ⟨HO, hBx⟩ := hcut
      obtain ⟨kcx, kfx, sx⟩ := bfacts hBx
      obtain ⟨AL, cL, hvL, hL1, hL2⟩ := SL.form (SL.of_own HO.out)
      subst hvL
      unfold maxLen at hL2
      have HB0 := Lib.hid (show Ev.bad0 f i = (Ev.looked i).any (fun p => !Ev.isPlace f p) from rfl)
      have HBX := Lib.hid hBx
      clear hBx
      generalize Ev.looked i = L at *
      have HLR : Hid (RInts wc wc.heap.size (.slice AL L.length cL) L) := SL.of_own HO.out
      clear HO
      have xq0 := (kcx _ _ sw).trans q0
      go_wp2_with fail
      go_loop [8, 68] (fun b u => ∃ q : Nat, q ≤ L.length ∧ u = .int .i64 q ∧ b = .bool ((L.take q).any fun p => !Ev.isPlace f p)) (fun _ u => L.length - (intOf u).toNat)
      case atStart => exact ⟨0, by omega, rfl, rfl⟩
      case round =>
        obtain ⟨q, hq, rfl, rfl⟩ := hrel
        by_cases hqt : q < L.length
        · obtain ⟨x, hx⟩ : ∃ x, L[q]? = some x := ⟨L[q], List.getElem?_eq_getElem hqt⟩
          obtain ⟨bl, ol, cl, hv, hbl, _, _, _, pl⟩ := RInts.at_ HLR.out hx
          injection hv with hA _ hcr
          subst hA hcr
          have hstep : (L.take (q + 1)).any (fun p => !Ev.isPlace f p) = ((L.take q).any (fun p => !Ev.isPlace f p) || !Ev.isPlace f x) := by
            rw [List.take_add_one, hx]; simp
          have HST := Lib.hid hstep
          clear hstep hx
          have hpl : Ev.isPlace f x = (decide (0 ≤ x) && decide (x < (f.secret.length : Int))) := rfl
          have HPL := Lib.hid hpl
          clear hpl
          generalize (L.take q).any (fun p => !Ev.isPlace f p) = b at *
          generalize Ev.isPlace f x = px at *
          cases b with
          | true =>
            go_wp2_with fail
            go_round
            case rel => exact ⟨q + 1, by omega, by go_num, by rw [HST.out]; rfl⟩
            case measure => simp [intOf]; omega
          | false =>
            by_cases hx0 : x < 0
            · have e7 : decide (x < 0) = true := by simpa using hx0
              have hpx : px = false := by rw [HPL.out]; simp; omega
              clear hx0
              go_wp2_with fail
              go_round
              case rel => exact ⟨q + 1, by omega, by go_num, by rw [HST.out, hpx]; rfl⟩
              case measure => simp [intOf]; omega
            · have e7 : decide (x < 0) = false := by simpa using hx0
              by_cases hxn : (f.secret.length : Int) ≤ x
              · have e8 : decide ((f.secret.length : Int) ≤ x) = true := by simpa using hxn
                have hpx : px = false := by rw [HPL.out]; simp; omega
                clear hx0 hxn
                go_wp2_with fail
                go_round
                case rel => exact ⟨q + 1, by omega, by go_num, by rw [HST.out, hpx]; rfl⟩
                case measure => simp [intOf]; omega
              · have e8 : decide ((f.secret.length : Int) ≤ x) = false := by simpa using hxn
                have hpx : px = true := by rw [HPL.out]; simp; omega
                clear hx0 hxn
                go_wp2_with fail
                go_round
                case rel => exact ⟨q + 1, by omega, by go_num, by rw [HST.out, hpx]; rfl⟩
                case measure => simp [intOf]; omega
        · have hqe : q = L.length := by omega
          subst hqe
          rw [List.take_length, ← HB0.out]
          clear HLR HB0
          have xn0 := (kcx _ _ (show wr.heap.size < wI.heap.size from sI)).trans n0
          have xn3 := (kcx _ _ (show wr.heap.size < wI.heap.size from sI)).trans n3
          have xn5 := (kcx _ _ (show wr.heap.size < wI.heap.size from sI)).trans n5
          have xq1 := (kcx _ _ sw).trans q1
          have xq3 := (kcx _ _ sw).trans q3
          go_upto_region 18 with fail
          go_cut [8] (fun x wx => x = .bool (Ev.bad1 f i) ∧ wc = wx)
          case first => as_aux_lemma =>
            have HX := Lib.hid (show Ev.bad1 f i = (Ev.bad0 f i || (decide (i.op = 14) && !(decide (0 ≤ i.imm) && decide (i.imm ≤ 4294967295)))) from rfl)
            generalize Ev.bad1 f i = cn at *
            generalize Ev.bad0 f i = c0 at *
            cases c0 with
            | true =>
              go_wp2_with fail
              go_meet
              exact ⟨by rw [HX.out]; rfl, rfl⟩
            | false =>
              by_cases h14 : i.op = 14
              · have g1 : (i.op == 14) = true := by simpa using h14
                have d1 := Lib.hid (decide_eq_true h14)
                clear h14
                by_cases h2 : i.imm < 0
                · have g2 : decide (i.imm < 0) = true := by simpa using h2
                  have d2 := Lib.hid (decide_eq_false (show ¬ 0 ≤ i.imm by omega))
                  clear h2
                  go_wp2_with fail
                  go_meet
                  exact ⟨by rw [HX.out, d1.out, d2.out]; rfl, rfl⟩
                · have g2 : decide (i.imm < 0) = false := by simpa using h2
                  have d2 := Lib.hid (decide_eq_true (show 0 ≤ i.imm by omega))
                  by_cases h3 : 4294967296 ≤ i.imm
                  · have g3 : decide (4294967296 ≤ i.imm) = true := by simpa using h3
                    have d3 := Lib.hid (decide_eq_false (show ¬ i.imm ≤ 4294967295 by omega))
                    clear h2 h3
                    go_wp2_with fail
                    go_meet
                    exact ⟨by rw [HX.out, d1.out, d2.out, d3.out]; rfl, rfl⟩
                  · have g3 : decide (4294967296 ≤ i.imm) = false := by simpa using h3
                    have d3 := Lib.hid (decide_eq_true (show i.imm ≤ 4294967295 by omega))
                    clear h2 h3
                    go_wp2_with fail
                    go_meet
                    exact ⟨by rw [HX.out, d1.out, d2.out, d3.out]; rfl, rfl⟩
              · have g1 : (i.op == 14) = false := by simpa using h14
                have d1 := Lib.hid (decide_eq_false h14)
                clear h14
                go_wp2_with fail
                go_meet
                exact ⟨by rw [HX.out, d1.out]; rfl, rfl⟩
          case rest =>
          obtain ⟨rfl, rfl⟩ := hcut
          go_upto_region 19 with fail
          go_cut [8] (fun x wx => x = .bool (Ev.bad2 f i) ∧ wc = wx)
          case first => as_aux_lemma =>
            have HX := Lib.hid (show Ev.bad2 f i = (Ev.bad1 f i || (decide (i.op = 16 ∨ i.op = 17) && !(decide (0 ≤ i.b) && decide (i.b < (f.arrays.length : Int))))) from rfl)
            generalize Ev.bad2 f i = cn at *
            generalize Ev.bad1 f i = c0 at *
            cases c0 with
            | true =>
              go_wp2_with fail
              go_meet
              exact ⟨by rw [HX.out]; rfl, rfl⟩
            | false =>
              rcases (show i.op = 16 ∨ i.op = 17 ∨ (i.op ≠ 16 ∧ i.op ≠ 17) by omega) with h14 | h14 | h14
              case inr.inr =>
                have g1 : (i.op == 16) = false := by simp [h14]
                have g2 : (i.op == 17) = false := by simp [h14]
                have d1 := Lib.hid (decide_eq_false (show ¬ (i.op = 16 ∨ i.op = 17) by omega))
                clear h14
                go_wp2_with fail
                go_meet
                exact ⟨by rw [HX.out, d1.out]; rfl, rfl⟩
              all_goals
                have d1 := Lib.hid (decide_eq_true (show i.op = 16 ∨ i.op = 17 by omega))
                first
                | (have g1 : (i.op == 16) = true := by (simp [h14]; done))
                | (have g1 : (i.op == 16) = false := by (simp [h14]; done)
                   have g2 : (i.op == 17) = true := by (simp [h14]; done))
                clear h14
                by_cases h2 : i.b < 0
                · have g3 : decide (i.b < 0) = true := by simpa using h2
                  have d2 := Lib.hid (decide_eq_false (show ¬ 0 ≤ i.b by omega))
                  clear h2
                  go_wp2_with fail
                  go_meet
                  exact ⟨by rw [HX.out, d1.out, d2.out]; rfl, rfl⟩
                · have g3 : decide (i.b < 0) = false := by simpa using h2
                  have d2 := Lib.hid (decide_eq_true (show 0 ≤ i.b by omega))
                  by_cases h3 : (f.arrays.length : Int) ≤ i.b
                  · have g4 : decide ((f.arrays.length : Int) ≤ i.b) = true := by simpa using h3
                    have d3 := Lib.hid (decide_eq_false (show ¬ i.b < (f.arrays.length : Int) by omega))
                    clear h2 h3
                    go_wp2_with fail
                    go_meet
                    exact ⟨by rw [HX.out, d1.out, d2.out, d3.out]; rfl, rfl⟩
                  · have g4 : decide ((f.arrays.length : Int) ≤ i.b) = false := by simpa using h3
                    have d3 := Lib.hid (decide_eq_true (show i.b < (f.arrays.length : Int) by omega))
                    clear h2 h3
                    go_wp2_with fail
                    go_meet
                    exact ⟨by rw [HX.out, d1.out, d2.out, d3.out]; rfl, rfl⟩
          case rest =>
          obtain ⟨rfl, rfl⟩ := hcut
          go_upto_region 20 with fail
          go_cut [8] (fun x wx => x = .bool (Ev.bad3 f j i) ∧ wc = wx)
          case first => as_aux_lemma =>
            have HX := Lib.hid (show Ev.bad3 f j i = (Ev.bad2 f i || (decide (i.op = 18 ∨ i.op = 19) && !(decide ((j : Int) < i.imm) && decide (i.imm < (f.code.length : Int))))) from rfl)
            generalize Ev.bad3 f j i = cn at *
            generalize Ev.bad2 f i = c0 at *
            cases c0 with
            | true =>
              go_wp2_with fail
              go_meet
              exact ⟨by rw [HX.out]; rfl, rfl⟩
            | false =>
              rcases (show i.op = 18 ∨ i.op = 19 ∨ (i.op ≠ 18 ∧ i.op ≠ 19) by omega) with h14 | h14 | h14
              case inr.inr =>
                have g1 : (i.op == 18) = false := by simp [h14]
                have g2 : (i.op == 19) = false := by simp [h14]
                have d1 := Lib.hid (decide_eq_false (show ¬ (i.op = 18 ∨ i.op = 19) by omega))
                clear h14
                go_wp2_with fail
                go_meet
                exact ⟨by rw [HX.out, d1.out]; rfl, rfl⟩
              all_goals
                have d1 := Lib.hid (decide_eq_true (show i.op = 18 ∨ i.op = 19 by omega))
                first
                | (have g1 : (i.op == 18) = true := by (simp [h14]; done))
                | (have g1 : (i.op == 18) = false := by (simp [h14]; done)
                   have g2 : (i.op == 19) = true := by (simp [h14]; done))
                clear h14
                by_cases h2 : i.imm ≤ (j : Int)
                · have g3 : decide (i.imm ≤ (j : Int)) = true := by simpa using h2
                  have d2 := Lib.hid (decide_eq_false (show ¬ (j : Int) < i.imm by omega))
                  clear h2
                  go_wp2_with fail
                  go_meet
                  exact ⟨by rw [HX.out, d1.out, d2.out]; rfl, rfl⟩
                · have g3 : decide (i.imm ≤ (j : Int)) = false := by simpa using h2
                  have d2 := Lib.hid (decide_eq_true (show (j : Int) < i.imm by omega))
                  by_cases h3 : (f.code.length : Int) ≤ i.imm
                  · have g4 : decide ((f.code.length : Int) ≤ i.imm) = true := by simpa using h3
                    have d3 := Lib.hid (decide_eq_false (show ¬ i.imm < (f.code.length : Int) by omega))
                    clear h2 h3
                    go_wp2_with fail
                    go_meet
                    exact ⟨by rw [HX.out, d1.out, d2.out, d3.out]; rfl, rfl⟩
                  · have g4 : decide ((f.code.length : Int) ≤ i.imm) = false := by simpa using h3
                    have d3 := Lib.hid (decide_eq_true (show i.imm < (f.code.length : Int) by omega))
                    clear h2 h3
                    go_wp2_with fail
                    go_meet
                    exact ⟨by rw [HX.out, d1.out, d2.out, d3.out]; rfl, rfl⟩
          case rest =>
          obtain ⟨rfl, rfl⟩ := hcut
          rw [Ev.bad3_is]
          cases hnum : Ev.numbers f j i with
          | false =>
            have HRES := Lib.hid (C.out 3 (by unfold Ev.checkAt; rw [if_neg (by omega), if_pos hnum]) (by decide))
            clear hnum
            have hB8 : Below w.heap.size w wc := by
              have h1 := HBX.out
              have h2 := HBI.out
              have h3 : Below w.heap.size w wI := by (repeat' first | with_reducible (first | exact Below.refl _ _ | assumption | refine Below.alloc ?_ ?_ _ | refine below_drewN ?_ _ | refine Below.drew ?_ | refine Below.setCell ?_ ?_ _ | refine Below.trans ?_ (Below.mono (by with_reducible assumption) ?_)) | go_size)
              (repeat' first | with_reducible (first | exact Below.refl _ _ | assumption | refine Below.alloc ?_ ?_ _ | refine below_drewN ?_ _ | refine Below.drew ?_ | refine Below.setCell ?_ ?_ _ | refine Below.trans ?_ (Below.mono (by with_reducible assumption) ?_)) | go_size)
            go_wp2
            go_ret2
            exact ⟨by rw [HRES.out]; rfl, by (repeat' first | with_reducible (first | exact Below.refl _ _ | assumption | refine Below.alloc ?_ ?_ _ | refine below_drewN ?_ _ | refine Below.drew ?_ | refine Below.setCell ?_ ?_ _ | refine Below.trans ?_ (Below.mono (by with_reducible assumption) ?_)) | go_size)⟩
          | true =>
            have HR := Lib.hid (Right.of op1 op2 hnum)
            have HNUM := Lib.hid hnum
            clear hnum
            have hrd := fun x hx => HR.out.reads x hx
            have HRD := Lib.hid hrd
            clear hrd
            have xn1 := (kcx _ _ (show wr.heap.size < wI.heap.size from sI)).trans n1
            have xn2 := (kcx _ _ (show wr.heap.size < wI.heap.size from sI)).trans n2
            have xn4 := (kcx _ _ (show wr.heap.size < wI.heap.size from sI)).trans n4
            go_wp2_with (go_at_call 36; refine (refReads_any i _).mono ?_; rintro e w3 ⟨v3, rfl, hown3, hb3⟩; obtain ⟨A3, c3, hv3, hl31, hl32⟩ := SL.form (SL.of_own hown3); subst hv3; unfold maxLen at hl32)
            have HB3 : Hid (Below wI.heap.size wI w3) := HBX.out.trans (hb3.mono sx)
            have HR3 : Hid (RInts w3 w3.heap.size (.slice A3 (Ev.reads i).length c3) (Ev.reads i)) := SL.of_own hown3
            clear hown3 hb3 HBX kcx kfx sx xn0 xn1 xn2 xn3 xn4 xn5 xq0 xq1 xq3
            obtain ⟨kc3, kf3, s3⟩ := bfacts HB3.out
            have HSM := Lib.hid (show (Ev.reads i).any (Ev.sec f.secret) = (Ev.reads i).any (Ev.sec f.secret) from rfl)
            generalize hLL : Ev.reads i = L2 at *
            go_wp2_with fail
            have HLL := Lib.hid hLL
            clear hLL HSM
            go_loop [11, 153] (fun b u => ∃ q : Nat, q ≤ L2.length ∧ u = .int .i64 q ∧ b = .bool ((L2.take q).any (Ev.sec f.secret))) (fun _ u => L2.length - (intOf u).toNat)
            case atStart => exact ⟨0, by omega, rfl, rfl⟩
            case round =>
              obtain ⟨q, hq, rfl, rfl⟩ := hrel
              by_cases hqt : q < L2.length
              · obtain ⟨x, hx⟩ : ∃ x, L2[q]? = some x := ⟨L2[q], List.getElem?_eq_getElem hqt⟩
                obtain ⟨bl, ol, cl, hv, hbl, _, _, _, pl⟩ := RInts.at_ HR3.out hx
                injection hv with hA _ hcr
                subst hA hcr
                obtain ⟨hx0, hx1⟩ := HRD.out x (List.mem_of_getElem? hx)
                obtain ⟨n, rfl⟩ : ∃ n : Nat, x = n := ⟨x.toNat, by omega⟩
                have hn : n < f.secret.length := by omega
                obtain ⟨bs, os, cs', hv, hbs, _, _, hcs⟩ := RBools.row HFI.out.secret (by omega)
                injection hv with hA _ hcr
                subst hA hcr
                have hcn0 := hcs n hn
                have hcn := (kc3 _ _ hbs).trans hcn0
                have yq1 := (kc3 _ _ sw).trans q1
                have hstep : (L2.take (q + 1)).any (Ev.sec f.secret) = ((L2.take q).any (Ev.sec f.secret) || Ev.sec f.secret n) := by
                  rw [List.take_add_one, hx]; simp
                have HST := Lib.hid hstep
                clear hstep hx hcs
                generalize (L2.take q).any (Ev.sec f.secret) = b at *
                generalize Ev.sec f.secret (n : Int) = sn at *
                cases b with
                | true =>
                  go_wp2_with fail
                  go_round
                  case rel => exact ⟨q + 1, by omega, by go_num, by rw [HST.out]; rfl⟩
                  case measure => simp [intOf]; omega
                | false =>
                  go_wp2_with fail
                  go_round
                  case rel => exact ⟨q + 1, by omega, by go_num, by rw [HST.out]; rfl⟩
                  case measure => simp [intOf]; omega
              · have hqe : q = L2.length := by omega
                subst hqe
                rw [List.take_length]
                clear HR3 HRD
                go_upto_block 6 with fail
                go_cut [14] (fun x wx => x = .bool (Ev.secrets f i) ∧ Below wI.heap.size wI wx)
                case first => as_aux_lemma =>
                  rcases (show i.op = 16 ∨ i.op = 17 ∨ i.op = 19 ∨ i.op ≤ 15 ∨ (i.op = 18 ∨ i.op = 20 ∨ i.op = 21) by omega) with hop | hop | hop | hop | hop
                  case inl =>
                    have g1 : (i.op == 16) = true := beq_iff_eq.2 hop
                    obtain ⟨nd, hd, hnd⟩ := HR.out.d (by omega)
                    obtain ⟨nb, hb, hnb⟩ := HR.out.arr' (.inl hop)
                    obtain ⟨bs, os, cs', hv, hbs, _, _, hcs⟩ := RBools.row HFI.out.secret (by omega)
                    injection hv with hA _ hcr
                    subst hA hcr
                    obtain ⟨ba, oa, ca', hv, hba, _, _, hca⟩ := RVars.row HFI.out.arrays (by omega)
                    injection hv with hA _ hcr
                    subst hA hcr
                    have e2 := hcs nd hnd
                    obtain ⟨_, e3, _⟩ := hca nb hnb
                    have hs := Ev.secrets16 (f := f) hop
                    rw [hd, hb, HLL.out] at hs
                    rw [hd] at n1
                    rw [hb] at n3
                    generalize L2.any (Ev.sec f.secret) = sb at *
                    generalize Ev.sec f.secret (nd : Int) = xd at *
                    generalize Ev.arrSec f.arrays (nb : Int) = xb at *
                    have HS := Lib.hid hs
                    clear hs hop hd hb hcs hca
                    generalize Ev.secrets f i = res at *
                    rcases (show (sb = true) ∨ (sb = false ∧ xb = false) ∨ (sb = false ∧ xb = true) from by cases sb <;> cases xb <;> simp) with hx | ⟨hx, hx'⟩ | ⟨hx, hx'⟩
                    all_goals (subst hx; try subst hx')
                    all_goals
                      go_wp2_with fail
                      go_meet
                      exact ⟨by rw [HS.out]; rfl, HB3.out⟩
                  case inr.inl =>
                    have g1 : (i.op == 16) = false := beq_eq_false_iff_ne.2 (by omega)
                    have g2 : (i.op == 17) = true := beq_iff_eq.2 hop
                    obtain ⟨na, ha, hna⟩ := HR.out.a (by omega)
                    obtain ⟨nd, hd, hnd⟩ := HR.out.d (by omega)
                    obtain ⟨nb, hb, hnb⟩ := HR.out.arr' (.inr hop)
                    obtain ⟨bs, os, cs', hv, hbs, _, _, hcs⟩ := RBools.row HFI.out.secret (by omega)
                    injection hv with hA _ hcr
                    subst hA hcr
                    obtain ⟨ba, oa, ca', hv, hba, _, _, hca⟩ := RVars.row HFI.out.arrays (by omega)
                    injection hv with hA _ hcr
                    subst hA hcr
                    have e1 := hcs na hna
                    have e2 := hcs nd hnd
                    obtain ⟨_, e3, _⟩ := hca nb hnb
                    have hs := Ev.secrets17 (f := f) hop
                    rw [ha, hd, hb] at hs
                    rw [hd] at n1
                    rw [ha] at n2
                    rw [hb] at n3
                    generalize Ev.sec f.secret (na : Int) = xa at *
                    generalize Ev.sec f.secret (nd : Int) = xd at *
                    generalize Ev.arrSec f.arrays (nb : Int) = xb at *
                    have HS := Lib.hid hs
                    clear hs hop hd hb ha hcs hca
                    generalize Ev.secrets f i = res at *
                    rcases (show (xa = true) ∨ (xa = false ∧ xd = false) ∨ (xa = false ∧ xd = true) from by cases xa <;> cases xd <;> simp) with hx | ⟨hx, hx'⟩ | ⟨hx, hx'⟩
                    all_goals (subst hx; try subst hx')
                    all_goals
                      go_wp2_with fail
                      go_meet
                      exact ⟨by rw [HS.out]; rfl, HB3.out⟩
                  case inr.inr.inl =>
                    have g1 : (i.op == 16) = false := beq_eq_false_iff_ne.2 (by omega)
                    have g2 : (i.op == 17) = false := beq_eq_false_iff_ne.2 (by omega)
                    have g3 : (i.op == 19) = true := beq_iff_eq.2 hop
                    have hs := Ev.secrets19 (f := f) hop
                    rw [HLL.out] at hs
                    generalize L2.any (Ev.sec f.secret) = sb at *
                    have HS := Lib.hid hs
                    clear hs hop
                    generalize Ev.secrets f i = res at *
                    go_wp2_with fail
                    go_meet
                    exact ⟨by rw [HS.out], HB3.out⟩
                  case inr.inr.inr.inl =>
                    have g1 : (i.op == 16) = false := beq_eq_false_iff_ne.2 (by omega)
                    have g2 : (i.op == 17) = false := beq_eq_false_iff_ne.2 (by omega)
                    have g3 : (i.op == 19) = false := beq_eq_false_iff_ne.2 (by omega)
                    have hm : Ev.makes i = true := by unfold Ev.makes; simp; omega
                    obtain ⟨nd, hd, hnd⟩ := HR.out.d (by omega)
                    obtain ⟨bs, os, cs', hv, hbs, _, _, hcs⟩ := RBools.row HFI.out.secret (by omega)
                    injection hv with hA _ hcr
                    subst hA hcr
                    have e2 := hcs nd hnd
                    have hs := Ev.secretsM (f := f) op1 hop
                    rw [hd, HLL.out] at hs
                    have n1' := n1
                    rw [hd] at n1'
                    generalize L2.any (Ev.sec f.secret) = sb at *
                    generalize Ev.sec f.secret (nd : Int) = xd at *
                    have HS := Lib.hid hs
                    have HD := Lib.hid hd
                    clear hs hop hcs hd
                    have z3 : wr.heap.size < w3.heap.size := by omega
                    have z4 : w.heap.size < w3.heap.size := by omega
                    have z5 : bs < w3.heap.size := by omega
                    generalize hse : Ev.secrets f i = res at *
                    clear hse
                    cases sb
                    all_goals
                      go_wp2_with (go_at_call 30; refine (refMakes_any i _).mono ?_; rintro e w4 ⟨rfl, hb4⟩; obtain ⟨kc4, kf4, s4⟩ := bfacts hb4; have HB4 := Lib.hid hb4; clear n1; have n1 := (n1'); rw [hm])
                      go_meet
                      exact ⟨by rw [HS.out]; rfl, HB3.out.trans (HB4.out.mono (by omega))⟩
                  case inr.inr.inr.inr =>
                    have g1 : (i.op == 16) = false := beq_eq_false_iff_ne.2 (by omega)
                    have g2 : (i.op == 17) = false := beq_eq_false_iff_ne.2 (by omega)
                    have g3 : (i.op == 19) = false := beq_eq_false_iff_ne.2 (by omega)
                    have hm : Ev.makes i = false := by unfold Ev.makes; simp; omega
                    have hs := Ev.secretsN (f := f) hop
                    generalize L2.any (Ev.sec f.secret) = sb at *
                    have HS := Lib.hid hs
                    clear hs hop
                    generalize Ev.secrets f i = res at *
                    have z3 : wr.heap.size < w3.heap.size := by omega
                    go_wp2_with (go_at_call 30; refine (refMakes_any i _).mono ?_; rintro e w4 ⟨rfl, hb4⟩; obtain ⟨kc4, kf4, s4⟩ := bfacts hb4; have HB4 := Lib.hid hb4; rw [hm])
                    go_meet
                    exact ⟨by rw [HS.out], HB3.out.trans (HB4.out.mono (by omega))⟩
                case rest =>
                obtain ⟨rfl, hBx⟩ := hcut
                have hBz : Below (w.heap.size + 1) _ _ := HBI.out.trans (hBx.mono (by omega))
                have HBZ := Lib.hid hBz
                have HBY := Lib.hid hBx
                clear hBz hBx
                cases hsc : Ev.secrets f i with
                | true =>
                  have HRES := Lib.hid (C.out 10 (by unfold Ev.checkAt; rw [if_neg (by omega), if_neg (by rw [HNUM.out]; simp), if_pos hsc]) (by decide))
                  have hB8 : Below w.heap.size w wc := by
                    have h1 := HBY.out
                    have h2 := HBI.out
                    have h3 : Below w.heap.size w wI := by (repeat' first | with_reducible (first | exact Below.refl _ _ | assumption | refine Below.alloc ?_ ?_ _ | refine below_drewN ?_ _ | refine Below.drew ?_ | refine Below.setCell ?_ ?_ _ | refine Below.trans ?_ (Below.mono (by with_reducible assumption) ?_)) | go_size)
                    (repeat' first | with_reducible (first | exact Below.refl _ _ | assumption | refine Below.alloc ?_ ?_ _ | refine below_drewN ?_ _ | refine Below.drew ?_ | refine Below.setCell ?_ ?_ _ | refine Below.trans ?_ (Below.mono (by with_reducible assumption) ?_)) | go_size)
                  go_wp2
                  go_ret2
                  exact ⟨by rw [HRES.out]; rfl, by (repeat' first | with_reducible (first | exact Below.refl _ _ | assumption | refine Below.alloc ?_ ?_ _ | refine below_drewN ?_ _ | refine Below.drew ?_ | refine Below.setCell ?_ ?_ _ | refine Below.trans ?_ (Below.mono (by with_reducible assumption) ?_)) | go_size)⟩
                | false =>
                  have HZ := Lib.hid (show Ev.checkAt f j i = 0 by unfold Ev.checkAt; rw [if_neg (by omega), if_neg (by rw [HNUM.out]; simp), if_neg (by rw [hsc]; simp)])
                  clear hsc
                  go_wp2_with fail
                  go_roundw
                  case rel =>
                    refine ⟨j + 1, by omega, by go_num, HBZ.out, fun m hm x hx => ?_⟩
                    by_cases hmj : m = j
                    · subst hmj
                      rw [HI.out] at hx
                      injection hx with hx
                      subst hx
                      exact HZ.out
                    · exact hall.out m (by omega) x hx
                  case measure => simp [intOf]; omega
    · as_aux_lemma =>
      have hres := H2.out (fun m hm x hx => hall.out m (by omega) x hx)
      obtain ⟨m, hm⟩ : ∃ m : Nat, f.code.length = m + 1 := ⟨f.code.length - 1, by omega⟩
      have hm' : (f.code.length : Int) - 1 = m := by omega
      obtain ⟨bc, o, c, hv, hbc, _, _, hrow⟩ := RCode.row HFW.out.code (by omega)
      injection hv with hA _ hcr
      subst hA hcr
      obtain ⟨i, hi⟩ : ∃ i, f.code[m]? = some i := ⟨f.code[m], List.getElem?_eq_getElem (by omega)⟩
      obtain ⟨i0', _⟩ := hrow m i hi
      have hlast : Ev.lastOp f = i.op := by unfold Ev.lastOp; rw [show f.code.length - 1 = m by omega]; simp [List.getD, hi]
      rw [hlast, hm'] at hres
      have HRES := Lib.hid hres
      clear hres hrow hi hlast
      have wm : IntKind.i64.wrap (f.code.length - 1 : Int) = m := by rw [hm', IntKind.wrap_i64]; omega
      have hml : m < f.code.length := by omega
      clear hm
      by_cases h3 : i.op = 20 ∨ i.op = 21 ∨ i.op = 18
      · have hr := HRES.out
        rw [if_pos h3] at hr
        have HR := Lib.hid hr
        clear hr
        have g1 : decide (i.op < 18) = false := by simp; omega
        have g2 : (i.op == 19) = false := by simp; omega
        have g3 : decide (21 < i.op) = false := by simp; omega
        clear h3
        go_wp2
        go_ret2
        exact ⟨by rw [HR.out]; rfl, by (repeat' first | with_reducible (first | exact Below.refl _ _ | assumption | refine Below.alloc ?_ ?_ _ | refine below_drewN ?_ _ | refine Below.drew ?_ | refine Below.setCell ?_ ?_ _ | refine Below.trans ?_ (Below.mono (by with_reducible assumption) ?_)) | go_size)⟩
      · have hr := HRES.out
        rw [if_neg h3] at hr
        have HR := Lib.hid hr
        clear hr
        rcases (show i.op < 18 ∨ i.op = 19 ∨ 21 < i.op by omega) with h4 | h4 | h4
        · have g1 : decide (i.op < 18) = true := by simpa using h4
          clear h3 h4
          go_wp2_with fail
          go_quiet (fail)
          go_wp2
          go_ret2
          exact ⟨by rw [HR.out]; rfl, by (repeat' first | with_reducible (first | exact Below.refl _ _ | assumption | refine Below.alloc ?_ ?_ _ | refine below_drewN ?_ _ | refine Below.drew ?_ | refine Below.setCell ?_ ?_ _ | refine Below.trans ?_ (Below.mono (by with_reducible assumption) ?_)) | go_size)⟩
        · have g1 : decide (i.op < 18) = false := by simp; omega
          have g2 : (i.op == 19) = true := by simp; omega
          clear h3 h4
          go_wp2_with fail
          go_quiet (fail)
          go_wp2
          go_ret2
          exact ⟨by rw [HR.out]; rfl, by (repeat' first | with_reducible (first | exact Below.refl _ _ | assumption | refine Below.alloc ?_ ?_ _ | refine below_drewN ?_ _ | refine Below.drew ?_ | refine Below.setCell ?_ ?_ _ | refine Below.trans ?_ (Below.mono (by with_reducible assumption) ?_)) | go_size)⟩
        · have g1 : decide (i.op < 18) = false := by simp; omega
          have g2 : (i.op == 19) = false := by simp; omega
          have g3 : decide (21 < i.op) = true := by simpa using h4
          clear h3 h4
          go_wp2_with fail
          go_quiet (fail)
          go_wp2
          go_ret2
          exact ⟨by rw [HR.out]; rfl, by (repeat' first | with_reducible (first | exact Below.refl _ _ | assumption | refine Below.alloc ?_ ?_ _ | refine below_drewN ?_ _ | refine Below.drew ?_ | refine Below.setCell ?_ ?_ _ | refine Below.trans ?_ (Below.mono (by with_reducible assumption) ?_)) | go_size)⟩
end Go.Proofs.Ytljcgcllhcdleaa
