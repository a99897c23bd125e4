import Derived.Test.YtljcgcllhcdleaaFo22
import Derived.Test.YtljcgcllhcdleaaFo3
import Derived.Deep.RegionHeld3
import Derived.RegionCalls
import Derived.Test.YtljcgcllhcdleaaFo2
import Derived.Test.YtljcgcllhcdleaaFo13
import Derived.Lib.ConvBytes
/- Chapter 7: what is wrong with flat instructions. -/
namespace Go.Proofs.Ytljcgcllhcdleaa
open Go.RowKit
set_option linter.unusedSimpArgs false
set_option linter.unusedVariables false
theorem checkFrom_stop (f : Ev.Flat) : ∀ (l : List Ev.Instr) (k j : Nat) (i : Ev.Instr), (∀ m, m < j → ∀ x, l[m]? = some x → Ev.checkAt f (k + m) x = 0) → l[j]? = some i → Ev.checkAt f (k + j) i ≠ 0 → Ev.checkFrom f k l = (Ev.checkAt f (k + j) i, ((k + j : Nat) : Int))
  | [], k, j, i, _, hi, _ => by simp at hi
  | y :: r, k, 0, i, _, hi, hn => by
    simp at hi
    subst hi
    rw [Nat.add_zero] at hn ⊢
    unfold Ev.checkFrom
    rw [if_neg hn]
  | y :: r, k, j + 1, i, h, hi, hn => by
    have h0 : Ev.checkAt f k y = 0 := h 0 (by omega) y (by simp)
    unfold Ev.checkFrom
    rw [if_pos h0]
    have := checkFrom_stop f r (k + 1) j i (fun m hm x hx => by rw [show k + 1 + m = k + (m + 1) by omega]; exact h (m + 1) (by omega) x (by simpa using hx)) (by simpa using hi) (by rw [show k + 1 + j = k + (j + 1) by omega]; exact hn)
    rw [this, show k + 1 + j = k + (j + 1) by omega]
theorem checkFrom_all (f : Ev.Flat) : ∀ (l : List Ev.Instr) (k : Nat), (∀ m x, l[m]? = some x → Ev.checkAt f (k + m) x = 0) → Ev.checkFrom f k l = (0, -1)
  | [], k, _ => rfl
  | y :: r, k, h => by
    have h0 : Ev.checkAt f k y = 0 := h 0 y (by simp)
    unfold Ev.checkFrom
    rw [if_pos h0]
    exact checkFrom_all f r (k + 1) (fun m x hx => by rw [show k + 1 + m = k + (m + 1) by omega]; exact h (m + 1) x (by simpa using hx))
def Big (f : Ev.Flat) : Prop := f.code.length < 1 ∨ 12000 < f.code.length ∨ f.params < 0 ∨ (f.secret.length : Int) < f.params
theorem check_big {f : Ev.Flat} (h : Big f) : Ev.check f = (4, -1) := by unfold Big at h; unfold Ev.check; rw [if_pos h]
theorem check_at {f : Ev.Flat} (h : ¬ Big f) {j : Nat} {i : Ev.Instr} (hb : ∀ m, m < j → ∀ x, f.code[m]? = some x → Ev.checkAt f m x = 0) (hi : f.code[j]? = some i) (hn : Ev.checkAt f j i ≠ 0) : Ev.check f = (Ev.checkAt f j i, (j : Int)) := by
  have := checkFrom_stop f f.code 0 j i (fun m hm x hx => by rw [Nat.zero_add]; exact hb m hm x hx) hi (by rw [Nat.zero_add]; exact hn)
  rw [Nat.zero_add] at this
  unfold Ev.check
  unfold Big at h
  rw [if_neg h, this, if_pos hn]
theorem check_end {f : Ev.Flat} (h : ¬ Big f) (hb : ∀ m, m < f.code.length → ∀ x, f.code[m]? = some x → Ev.checkAt f m x = 0) :
    Ev.check f = if Ev.lastOp f = 20 ∨ Ev.lastOp f = 21 ∨ Ev.lastOp f = 18 then (0, -1) else (8, (f.code.length : Int) - 1) := by
  have := checkFrom_all f f.code 0 (fun m x hx => by rw [Nat.zero_add]; exact hb m (List.getElem?_eq_some_iff.1 hx).1 x hx)
  unfold Ev.check
  unfold Big at h
  rw [if_neg h, this, if_neg (by simp)]
theorem FlatAt.at_ {w w' : World} {b : Nat} {f : Ev.Flat} {vc vs va : Value} (h : FlatAt w b f vc vs va) (hb : Below w.heap.size w w') : FlatAt w' b f vc vs va := by
  have lt := World.block_lt_of_cell? w _ h.c0
  exact ⟨(hb.cell (p := ⟨b, 0, none⟩) lt).trans h.c0, (hb.cell (p := ⟨b, 1, none⟩) lt).trans h.c1, (hb.cell (p := ⟨b, 2, none⟩) lt).trans h.c2, (hb.cell (p := ⟨b, 3, none⟩) lt).trans h.c3,
    SL.at_ h.code hb (Nat.le_refl _), SL.at_ h.secret hb (Nat.le_refl _), SL.at_ h.arrays hb (Nat.le_refl _)⟩
theorem FlatAt.box {w : World} {f : Ev.Flat} {vc vs va : Value} (t : TypeId) (hc : RCode w w.heap.size vc f.code) (hs : RBools w w.heap.size vs f.secret) (ha : RVars w w.heap.size va f.arrays) :
    FlatAt (w.alloc (.cells #[vc, vs, .int .i64 f.params, va] t)) w.heap.size f vc vs va := by
  have hb : Below w.heap.size w (w.alloc (.cells #[vc, vs, .int .i64 f.params, va] t)) := by (repeat' first | with_reducible (first | exact Below.refl _ _ | assumption | refine Below.alloc ?_ ?_ _ | refine below_drewN ?_ _ | refine Below.drew ?_ | refine Below.setCell ?_ ?_ _ | refine Below.trans ?_ (Below.mono (by with_reducible assumption) ?_)) | go_size)
  have hx : ∀ j u, #[vc, vs, .int .i64 f.params, va][j]? = some u → (w.alloc (.cells #[vc, vs, .int .i64 f.params, va] t)).cell? ⟨w.heap.size, j, none⟩ = some u := fun j u hu => by
    rw [World.cell?_alloc_at _ _ _ _ rfl]; exact hu
  exact ⟨hx 0 _ rfl, hx 1 _ rfl, hx 2 _ rfl, hx 3 _ rfl, SL.at_ hc hb (Nat.le_refl _), SL.at_ hs hb (Nat.le_refl _), SL.at_ ha hb (Nat.le_refl _)⟩

set_option maxRecDepth 4000 in
set_option maxHeartbeats 3200000 in
theorem check_any (f : Ev.Flat) (vc vs va : Value) (w : World) (hc : RCode w w.heap.size vc f.code) (hs : RBools w w.heap.size vs f.secret) (ha : RVars w w.heap.size va f.arrays) :
    Calls Try.prog 38 #[.agg #[vc, vs, .int .i64 f.params, va]] w fun e w' => e = .returned (.tuple #[.int .i64 (Ev.check f).1, .int .i64 (Ev.check f).2]) ∧ Below w.heap.size w w' := by
  have hF := FlatAt.box 26 hc hs ha
  obtain ⟨Ac, cc, rfl, hc1, hc2⟩ := SL.form hc
  obtain ⟨As, cs, rfl, hs1, hs2⟩ := SL.form hs
  obtain ⟨Av, cv, rfl, hv1, hv2⟩ := SL.form ha
  unfold maxLen at hc2 hs2 hv2
  clear hc hs ha
  by_cases hbig : Big f
  · have H := Lib.hid (check_big hbig)
    unfold Big at hbig
    clear hF
    go_enter Try.func38, Try.ntmps38
    go_wp2_with fail
    all_goals
      first
      | (exfalso; simp at *; omega)
      | skip
    all_goals
      go_ret2
      exact ⟨by rw [H.out]; rfl, by (repeat' first | with_reducible (first | exact Below.refl _ _ | assumption | refine Below.alloc ?_ ?_ _ | refine below_drewN ?_ _ | refine Below.drew ?_ | refine Below.setCell ?_ ?_ _ | refine Below.trans ?_ (Below.mono (by with_reducible assumption) ?_)) | go_size)⟩
  · have H1 := Lib.hid (fun j i => @check_at f hbig j i)
    have H2 := Lib.hid (@check_end f hbig)
    unfold Big at hbig
    have HF := Lib.hid hF
    clear hF
    generalize Ev.check f = res at *
    go_enter Try.func38, Try.ntmps38
    go_wp2_with fail
    go_loopw [33] (fun u w' => ∃ j : Nat, j ≤ f.code.length ∧ u = .int .i64 j ∧ FlatAt w' w.heap.size f (.slice Ac f.code.length cc) (.slice As f.secret.length cs) (.slice Av f.arrays.length cv) ∧ Below w.heap.size w w' ∧
      Hid (∀ m, m < j → ∀ x, f.code[m]? = some x → Ev.checkAt f m x = 0)) (fun u _ => f.code.length - (intOf u).toNat)
    case atStart => exact ⟨0, by omega, rfl, HF.out, by (repeat' first | with_reducible (first | exact Below.refl _ _ | assumption | refine Below.alloc ?_ ?_ _ | refine below_drewN ?_ _ | refine Below.drew ?_ | refine Below.setCell ?_ ?_ _ | refine Below.trans ?_ (Below.mono (by with_reducible assumption) ?_)) | go_size), fun m hm => absurd hm (by omega)⟩
    case round =>
      obtain ⟨j, hj, rfl, hW, hB, hall⟩ := hrel
      have HW := Lib.hid hW
      obtain ⟨q0, q1, q2, q3, hcode, hsec, harr⟩ := hW
      obtain ⟨kd, kg, sd⟩ := bfacts hB
      have zr : w.heap.size < wr.heap.size := World.block_lt_of_cell? wr _ q0
      by_cases hlt : j < f.code.length
      · obtain ⟨i, hi⟩ : ∃ i, f.code[j]? = some i := ⟨f.code[j], List.getElem?_eq_getElem hlt⟩
        obtain ⟨bc, o, c, hv, hbc, hk, hn, hm, i0, i1, i2, i3, i4, i5⟩ := RCode.at_ hcode hi
        injection hv with hA _ hcr
        subst hA hcr
        clear hcode hsec harr
        have HI := Lib.hid hi
        clear hi
        have C := Lib.hid (fun (e : Int) (h : Ev.checkAt f j i = e) (hn : e ≠ 0) => (H1.out j i hall.out HI.out (by rw [h]; exact hn)).trans (by rw [h]))
        by_cases hop : 1 ≤ i.op ∧ i.op ≤ 21
        · obtain ⟨op1, op2⟩ := hop
          cases hnum : Ev.numbers f j i
          · have HRES := Lib.hid (C.out 3 (by unfold Ev.checkAt; rw [if_neg (by omega), if_pos hnum]) (by decide))
            go_wp2_with fail
            refine (numbers_any f w.heap.size j i _ _ _ _ (HW.out.at_ (by (repeat' first | with_reducible (first | exact Below.refl _ _ | assumption | refine Below.alloc ?_ ?_ _ | refine below_drewN ?_ _ | refine Below.drew ?_ | refine Below.setCell ?_ ?_ _ | refine Below.trans ?_ (Below.mono (by with_reducible assumption) ?_)) | go_size))) HI.out).mono ?_
            rintro e w1 ⟨rfl, hb1⟩
            obtain ⟨kc1, kf1, s1⟩ := bfacts hb1
            (try simp only [World.size_alloc, World.size_setCell, World.size_drew, World.heap_drewN, Nat.add_one_le_iff] at s1)
            (try have z1 : w.heap.size < w1.heap.size := by omega)
            have B1 : Hid (Below w.heap.size w w1) := by (show Below _ _ _); (repeat' first | with_reducible (first | exact Below.refl _ _ | assumption | refine Below.alloc ?_ ?_ _ | refine below_drewN ?_ _ | refine Below.drew ?_ | refine Below.setCell ?_ ?_ _ | refine Below.trans ?_ (Below.mono (by with_reducible assumption) ?_)) | go_size)
            obtain ⟨kd1, kg1, _⟩ := bfacts B1.out
            go_wp2_with fail
            go_ret2
            exact ⟨by rw [HRES.out]; rfl, by (repeat' first | with_reducible (first | exact Below.refl _ _ | assumption | refine Below.alloc ?_ ?_ _ | refine below_drewN ?_ _ | refine Below.drew ?_ | refine Below.setCell ?_ ?_ _ | refine Below.trans ?_ (Below.mono (by with_reducible assumption) ?_)) | go_size)⟩
          · have HR := Lib.hid (Right.of op1 op2 hnum)
            cases hsc : Ev.secrets f i
            · have HZ := Lib.hid (show Ev.checkAt f j i = 0 by unfold Ev.checkAt; rw [if_neg (by omega), if_neg (by rw [hnum]; simp), if_neg (by rw [hsc]; simp)])
              go_wp2_with fail
              refine (numbers_any f w.heap.size j i _ _ _ _ (HW.out.at_ (by (repeat' first | with_reducible (first | exact Below.refl _ _ | assumption | refine Below.alloc ?_ ?_ _ | refine below_drewN ?_ _ | refine Below.drew ?_ | refine Below.setCell ?_ ?_ _ | refine Below.trans ?_ (Below.mono (by with_reducible assumption) ?_)) | go_size))) HI.out).mono ?_
              rintro e w1 ⟨rfl, hb1⟩
              obtain ⟨kc1, kf1, s1⟩ := bfacts hb1
              (try simp only [World.size_alloc, World.size_setCell, World.size_drew, World.heap_drewN, Nat.add_one_le_iff] at s1)
              (try have z1 : w.heap.size < w1.heap.size := by omega)
              have B1 : Hid (Below w.heap.size w w1) := by (show Below _ _ _); (repeat' first | with_reducible (first | exact Below.refl _ _ | assumption | refine Below.alloc ?_ ?_ _ | refine below_drewN ?_ _ | refine Below.drew ?_ | refine Below.setCell ?_ ?_ _ | refine Below.trans ?_ (Below.mono (by with_reducible assumption) ?_)) | go_size)
              obtain ⟨kd1, kg1, _⟩ := bfacts B1.out
              go_wp2_with fail
              refine (secrets_any f w.heap.size j i _ _ _ _ (HW.out.at_ (by (repeat' first | with_reducible (first | exact Below.refl _ _ | assumption | refine Below.alloc ?_ ?_ _ | refine below_drewN ?_ _ | refine Below.drew ?_ | refine Below.setCell ?_ ?_ _ | refine Below.trans ?_ (Below.mono (by with_reducible assumption) ?_)) | go_size))) HR.out).mono ?_
              rintro e w2 ⟨rfl, hb2⟩
              obtain ⟨kc2, kf2, s2⟩ := bfacts hb2
              (try simp only [World.size_alloc, World.size_setCell, World.size_drew, World.heap_drewN, Nat.add_one_le_iff] at s2)
              (try have z2 : w.heap.size < w2.heap.size := by omega)
              have B2 : Hid (Below w.heap.size w w2) := by (show Below _ _ _); (repeat' first | with_reducible (first | exact Below.refl _ _ | assumption | refine Below.alloc ?_ ?_ _ | refine below_drewN ?_ _ | refine Below.drew ?_ | refine Below.setCell ?_ ?_ _ | refine Below.trans ?_ (Below.mono (by with_reducible assumption) ?_)) | go_size)
              obtain ⟨kd2, kg2, _⟩ := bfacts B2.out
              go_wp2_with fail
              go_roundw
              case rel =>
                refine ⟨j + 1, by omega, by go_num, HW.out.at_ (by (repeat' first | with_reducible (first | exact Below.refl _ _ | assumption | refine Below.alloc ?_ ?_ _ | refine below_drewN ?_ _ | refine Below.drew ?_ | refine Below.setCell ?_ ?_ _ | refine Below.trans ?_ (Below.mono (by with_reducible assumption) ?_)) | go_size)), by (repeat' first | with_reducible (first | exact Below.refl _ _ | assumption | refine Below.alloc ?_ ?_ _ | refine below_drewN ?_ _ | refine Below.drew ?_ | refine Below.setCell ?_ ?_ _ | refine Below.trans ?_ (Below.mono (by with_reducible assumption) ?_)) | go_size), fun m hm x hx => ?_⟩
                by_cases hmj : m = j
                · subst hmj
                  rw [HI.out] at hx
                  injection hx with hx
                  subst hx
                  exact HZ.out
                · exact hall.out m (by omega) x hx
              case measure => simp [intOf]; omega
            · have HRES := Lib.hid (C.out 10 (by unfold Ev.checkAt; rw [if_neg (by omega), if_neg (by rw [hnum]; simp), if_pos hsc]) (by decide))
              go_wp2_with fail
              refine (numbers_any f w.heap.size j i _ _ _ _ (HW.out.at_ (by (repeat' first | with_reducible (first | exact Below.refl _ _ | assumption | refine Below.alloc ?_ ?_ _ | refine below_drewN ?_ _ | refine Below.drew ?_ | refine Below.setCell ?_ ?_ _ | refine Below.trans ?_ (Below.mono (by with_reducible assumption) ?_)) | go_size))) HI.out).mono ?_
              rintro e w1 ⟨rfl, hb1⟩
              obtain ⟨kc1, kf1, s1⟩ := bfacts hb1
              (try simp only [World.size_alloc, World.size_setCell, World.size_drew, World.heap_drewN, Nat.add_one_le_iff] at s1)
              (try have z1 : w.heap.size < w1.heap.size := by omega)
              have B1 : Hid (Below w.heap.size w w1) := by (show Below _ _ _); (repeat' first | with_reducible (first | exact Below.refl _ _ | assumption | refine Below.alloc ?_ ?_ _ | refine below_drewN ?_ _ | refine Below.drew ?_ | refine Below.setCell ?_ ?_ _ | refine Below.trans ?_ (Below.mono (by with_reducible assumption) ?_)) | go_size)
              obtain ⟨kd1, kg1, _⟩ := bfacts B1.out
              go_wp2_with fail
              refine (secrets_any f w.heap.size j i _ _ _ _ (HW.out.at_ (by (repeat' first | with_reducible (first | exact Below.refl _ _ | assumption | refine Below.alloc ?_ ?_ _ | refine below_drewN ?_ _ | refine Below.drew ?_ | refine Below.setCell ?_ ?_ _ | refine Below.trans ?_ (Below.mono (by with_reducible assumption) ?_)) | go_size))) HR.out).mono ?_
              rintro e w2 ⟨rfl, hb2⟩
              obtain ⟨kc2, kf2, s2⟩ := bfacts hb2
              (try simp only [World.size_alloc, World.size_setCell, World.size_drew, World.heap_drewN, Nat.add_one_le_iff] at s2)
              (try have z2 : w.heap.size < w2.heap.size := by omega)
              have B2 : Hid (Below w.heap.size w w2) := by (show Below _ _ _); (repeat' first | with_reducible (first | exact Below.refl _ _ | assumption | refine Below.alloc ?_ ?_ _ | refine below_drewN ?_ _ | refine Below.drew ?_ | refine Below.setCell ?_ ?_ _ | refine Below.trans ?_ (Below.mono (by with_reducible assumption) ?_)) | go_size)
              obtain ⟨kd2, kg2, _⟩ := bfacts B2.out
              go_wp2_with fail
              go_ret2
              exact ⟨by rw [HRES.out]; rfl, by (repeat' first | with_reducible (first | exact Below.refl _ _ | assumption | refine Below.alloc ?_ ?_ _ | refine below_drewN ?_ _ | refine Below.drew ?_ | refine Below.setCell ?_ ?_ _ | refine Below.trans ?_ (Below.mono (by with_reducible assumption) ?_)) | go_size)⟩
        · have hres := C.out 1 (by unfold Ev.checkAt; rw [if_pos hop]) (by decide)
          have HRES := Lib.hid hres
          clear hres
          go_wp2_with fail
          all_goals
            go_ret2
            exact ⟨by rw [HRES.out]; rfl, by (repeat' first | with_reducible (first | exact Below.refl _ _ | assumption | refine Below.alloc ?_ ?_ _ | refine below_drewN ?_ _ | refine Below.drew ?_ | refine Below.setCell ?_ ?_ _ | refine Below.trans ?_ (Below.mono (by with_reducible assumption) ?_)) | go_size)⟩
      · have hje : f.code.length ≤ j := by omega
        have hres := H2.out (fun m hm x hx => hall.out m (by omega) x hx)
        obtain ⟨m, hm⟩ : ∃ m : Nat, f.code.length = m + 1 := ⟨f.code.length - 1, by omega⟩
        have hm' : (f.code.length : Int) - 1 = m := by omega
        obtain ⟨bc, o, c, hv, hbc, _, _, hrow⟩ := RCode.row hcode (by omega)
        injection hv with hA _ hcr
        subst hA hcr
        obtain ⟨i, hi⟩ : ∃ i, f.code[m]? = some i := ⟨f.code[m], List.getElem?_eq_getElem (by omega)⟩
        obtain ⟨i0, _⟩ := hrow m i hi
        have hlast : Ev.lastOp f = i.op := by unfold Ev.lastOp; rw [show f.code.length - 1 = m by omega]; simp [List.getD, hi]
        rw [hlast, hm'] at hres
        have HRES := Lib.hid hres
        have HI := Lib.hid hi
        clear hres hrow hi hlast hcode hsec harr
        have wm : IntKind.i64.wrap (f.code.length - 1 : Int) = m := by rw [hm', IntKind.wrap_i64]; omega
        have hml : m < f.code.length := by omega
        clear hm
        by_cases h3 : i.op = 20 ∨ i.op = 21 ∨ i.op = 18
        · have hr := HRES.out
          rw [if_pos h3] at hr
          have HR := Lib.hid hr
          clear hr
          rcases h3 with h3 | h3 | h3
          all_goals
            go_wp2_with fail
            go_ret2
            exact ⟨by rw [HR.out]; rfl, by (repeat' first | with_reducible (first | exact Below.refl _ _ | assumption | refine Below.alloc ?_ ?_ _ | refine below_drewN ?_ _ | refine Below.drew ?_ | refine Below.setCell ?_ ?_ _ | refine Below.trans ?_ (Below.mono (by with_reducible assumption) ?_)) | go_size)⟩
        · have hr := HRES.out
          rw [if_neg h3] at hr
          have HR := Lib.hid hr
          clear hr
          have n20 : (i.op != 20) = true := by simp; omega
          have n21 : (i.op != 21) = true := by simp; omega
          have n18 : (i.op != 18) = true := by simp; omega
          clear h3
          go_wp2_with fail
          refine wp_region_chain (fun w' => Below (wr).heap.size (wr) w') (by kernel_rfl) (by kernel_rfl) (by (repeat' first | with_reducible (first | exact Below.refl _ _ | assumption | refine Below.alloc ?_ ?_ _ | refine below_drewN ?_ _ | refine Below.drew ?_ | refine Below.setCell ?_ ?_ _ | refine Below.trans ?_ (Below.mono (by with_reducible assumption) ?_)) | go_size)) ?_
          repeat (
            apply chain_cons
            case h =>
              refine fun w9 hb9 => ?_
              have hB9 : Below w.heap.size w w9 := by (repeat' first | with_reducible (first | exact Below.refl _ _ | assumption | refine Below.alloc ?_ ?_ _ | refine below_drewN ?_ _ | refine Below.drew ?_ | refine Below.setCell ?_ ?_ _ | refine Below.trans ?_ (Below.mono (by with_reducible assumption) ?_)) | go_size)
              obtain ⟨kc9, kf9, s9⟩ := bfacts hb9
              obtain ⟨kd9, kg9, _⟩ := bfacts hB9
              go_wp2_with fail
              (try (fail; go_wp2_with fail))
              refine settled_intro (S := fun w' => Below (wr).heap.size (wr) w') ?_
              (repeat' first | with_reducible (first | exact Below.refl _ _ | assumption | refine Below.alloc ?_ ?_ _ | refine below_drewN ?_ _ | refine Below.drew ?_ | refine Below.setCell ?_ ?_ _ | refine Below.trans ?_ (Below.mono (by with_reducible assumption) ?_)) | go_size)
            case hp => first | rfl | (simp only [*]; done) | (simp only [*]; rfl))
          refine chain.nil ?_
          refine fun w2 hb2 => ?_
          have B2 : Below w.heap.size w w2 := by (repeat' first | with_reducible (first | exact Below.refl _ _ | assumption | refine Below.alloc ?_ ?_ _ | refine below_drewN ?_ _ | refine Below.drew ?_ | refine Below.setCell ?_ ?_ _ | refine Below.trans ?_ (Below.mono (by with_reducible assumption) ?_)) | go_size)
          obtain ⟨kc2, kf2, s2⟩ := bfacts hb2
          obtain ⟨kd2, kg2, _⟩ := bfacts B2
          (try simp only [World.size_alloc, World.size_setCell, World.size_drew, World.heap_drewN, Nat.add_one_le_iff] at s2)
          clear hb2
          have hb2 := B2
          clear B2
          have B2 : Hid (Below w.heap.size w w2) := hb2
          (try have z2 : w.heap.size < w2.heap.size := by omega)
          (try dsimp only)
          go_wp2_with fail
          go_ret2
          exact ⟨by rw [HR.out]; rfl, by (repeat' first | with_reducible (first | exact Below.refl _ _ | assumption | refine Below.alloc ?_ ?_ _ | refine below_drewN ?_ _ | refine Below.drew ?_ | refine Below.setCell ?_ ?_ _ | refine Below.trans ?_ (Below.mono (by with_reducible assumption) ?_)) | go_size)⟩
end Go.Proofs.Ytljcgcllhcdleaa
/- Chapter 7, the reference: what an instruction reads, by a text. -/
namespace Go.Proofs.Ytljcgcllhcdleaa
open Go.RowKit
set_option linter.unusedSimpArgs false
set_option linter.unusedVariables false
/-- which of A, B, C, D an op reads, and whether it makes D -/
def form (op : Int) : ByteArray :=
  if 1 ≤ op ∧ op ≤ 12 then ⟨#[65, 66, 109]⟩ else if op = 13 then ⟨#[65, 66, 67, 109]⟩ else if op = 14 then ⟨#[109]⟩
  else if op = 15 ∨ op = 16 then ⟨#[65, 109]⟩ else if op = 17 then ⟨#[65, 68]⟩ else if op = 19 ∨ op = 20 then ⟨#[65]⟩ else ⟨#[]⟩
theorem form_cases (op : Int) : ((1 ≤ op ∧ op ≤ 12) ∧ form op = ⟨#[65, 66, 109]⟩) ∨ (op = 13 ∧ form op = ⟨#[65, 66, 67, 109]⟩) ∨ (op = 14 ∧ form op = ⟨#[109]⟩) ∨ ((op = 15 ∨ op = 16) ∧ form op = ⟨#[65, 109]⟩) ∨
    (op = 17 ∧ form op = ⟨#[65, 68]⟩) ∨ ((op = 19 ∨ op = 20) ∧ form op = ⟨#[65]⟩) ∨ ((op < 1 ∨ op = 18 ∨ 20 < op) ∧ form op = ⟨#[]⟩) := by
  unfold form
  by_cases h1 : 1 ≤ op ∧ op ≤ 12
  · exact .inl ⟨h1, if_pos h1⟩
  · rw [if_neg h1]
    by_cases h2 : op = 13
    · exact .inr (.inl ⟨h2, if_pos h2⟩)
    · rw [if_neg h2]
      by_cases h3 : op = 14
      · exact .inr (.inr (.inl ⟨h3, if_pos h3⟩))
      · rw [if_neg h3]
        by_cases h4 : op = 15 ∨ op = 16
        · exact .inr (.inr (.inr (.inl ⟨h4, if_pos h4⟩)))
        · rw [if_neg h4]
          by_cases h5 : op = 17
          · exact .inr (.inr (.inr (.inr (.inl ⟨h5, if_pos h5⟩))))
          · rw [if_neg h5]
            by_cases h6 : op = 19 ∨ op = 20
            · exact .inr (.inr (.inr (.inr (.inr (.inl ⟨h6, if_pos h6⟩)))))
            · exact .inr (.inr (.inr (.inr (.inr (.inr ⟨by omega, if_neg h6⟩)))))

set_option maxHeartbeats 800000 in
theorem form_any (op : Int) (w : World) :
    Calls Try.prog 64 #[.int .i64 op] w fun e w' => e = .returned (.string (form op)) ∧ Below w.heap.size w w' := by
  have H := Lib.hid (form_cases op)
  generalize form op = s at *
  go_enter Try.func64, Try.ntmps64
  go_wp2
  all_goals
    go_ret
    (try simp only [beq_iff_eq, beq_eq_false_iff_ne] at *)
    refine ⟨?_, by (repeat' first | with_reducible (first | exact Below.refl _ _ | assumption | refine Below.alloc ?_ ?_ _ | refine below_drewN ?_ _ | refine Below.drew ?_ | refine Below.setCell ?_ ?_ _ | refine Below.trans ?_ (Below.mono (by with_reducible assumption) ?_)) | go_size)⟩
    rcases H.out with ⟨h, rfl⟩ | ⟨h, rfl⟩ | ⟨h, rfl⟩ | ⟨h, rfl⟩ | ⟨h, rfl⟩ | ⟨h, rfl⟩ | ⟨h, rfl⟩ <;> first | rfl | (exfalso; omega)

set_option maxHeartbeats 800000 in
theorem refMakes_any (i : Ev.Instr) (w : World) :
    Calls Try.prog 30 #[.agg #[.int .i64 i.op, .int .i64 i.d, .int .i64 i.a, .int .i64 i.b, .int .i64 i.c, .int .i64 i.imm]] w fun e w' => e = .returned (.bool (Ev.makes i)) ∧ Below w.heap.size w w' := by
  have hm : ∀ b, ((1 ≤ i.op ∧ i.op ≤ 16) ↔ b = true) → Ev.makes i = b := fun b h => by
    unfold Ev.makes
    cases b <;> simp at h ⊢ <;> omega
  generalize Ev.makes i = mk at *
  have HM := Lib.hid hm
  clear hm
  rcases form_cases i.op with ⟨h, hf⟩ | ⟨h, hf⟩ | ⟨h, hf⟩ | ⟨h, hf⟩ | ⟨h, hf⟩ | ⟨h, hf⟩ | ⟨h, hf⟩
  all_goals
    have hc := form_any i.op
    rw [hf] at hc
    have HC := Lib.hid hc
    have HH := Lib.hid h
    clear hc hf h
    go_enter Try.func30, Try.ntmps30
    go_wp2_with fail
    refine (HC.out _).mono ?_
    rintro e w1 ⟨rfl, hb1⟩
    obtain ⟨kc1, kf1, s1⟩ := bfacts hb1
    (try simp only [World.size_alloc, World.size_setCell, World.size_drew, World.heap_drewN, Nat.add_one_le_iff] at s1)
    (try have z1 : w.heap.size < w1.heap.size := by omega)
    have B1 : Hid (Below w.heap.size w w1) := by (show Below _ _ _); (repeat' first | with_reducible (first | exact Below.refl _ _ | assumption | refine Below.alloc ?_ ?_ _ | refine below_drewN ?_ _ | refine Below.drew ?_ | refine Below.setCell ?_ ?_ _ | refine Below.trans ?_ (Below.mono (by with_reducible assumption) ?_)) | go_size)
    obtain ⟨kd1, kg1, _⟩ := bfacts B1.out
    go_wp2_with fail
    try go_ret
  all_goals
    have h := HH.out
    first
    | (have e := HM.out true (by constructor <;> intro _ <;> first | rfl | omega)
       exact ⟨by rw [e]; rfl, by (repeat' first | with_reducible (first | exact Below.refl _ _ | assumption | refine Below.alloc ?_ ?_ _ | refine below_drewN ?_ _ | refine Below.drew ?_ | refine Below.setCell ?_ ?_ _ | refine Below.trans ?_ (Below.mono (by with_reducible assumption) ?_)) | go_size)⟩)
    | (have e := HM.out false (by constructor <;> intro _ <;> first | (exfalso; omega) | contradiction)
       exact ⟨by rw [e]; rfl, by (repeat' first | with_reducible (first | exact Below.refl _ _ | assumption | refine Below.alloc ?_ ?_ _ | refine below_drewN ?_ _ | refine Below.drew ?_ | refine Below.setCell ?_ ?_ _ | refine Below.trans ?_ (Below.mono (by with_reducible assumption) ?_)) | go_size)⟩)
    | skip
  all_goals trace_state
end Go.Proofs.Ytljcgcllhcdleaa
/- Chapter 7, the reference: what an instruction reads. -/
namespace Ev
/-- what a letter of the form reads -/
def letter (i : Instr) (c : Nat) : List Int := if c = 65 then [i.a] else if c = 66 then [i.b] else if c = 67 then [i.c] else if c = 68 then [i.d] else []
def readsTo (i : Instr) (l : List Nat) : List Int := l.flatMap (letter i)
theorem letter_le (i : Instr) (c : Nat) : (letter i c).length ≤ 1 := by
  unfold letter
  repeat' split
  all_goals simp
theorem readsTo_le (i : Instr) : ∀ l : List Nat, (readsTo i l).length ≤ l.length
  | [] => by simp [readsTo]
  | c :: l => by
    have h := readsTo_le i l
    have := letter_le i c
    simp only [readsTo, List.flatMap_cons, List.length_append, List.length_cons] at h ⊢
    omega
end Ev
namespace Go.Proofs.Ytljcgcllhcdleaa
open Go.RowKit
set_option linter.unusedSimpArgs false
set_option linter.unusedVariables false
theorem readsTo_snoc (i : Ev.Instr) {l : List UInt8} {j : Nat} {c : UInt8} (h : l[j]? = some c) : Ev.readsTo i ((l.map (·.toNat)).take (j + 1)) = Ev.readsTo i ((l.map (·.toNat)).take j) ++ Ev.letter i c.toNat := by
  have h' : (l.map (·.toNat))[j]? = some c.toNat := by rw [List.getElem?_map, h]; rfl
  rw [List.take_add_one, h']
  simp [Ev.readsTo]
theorem form_letters (i : Ev.Instr) : (form i.op).size ≤ 4 ∧ (∀ c ∈ (form i.op).data.toList, c.toNat = 65 ∨ c.toNat = 66 ∨ c.toNat = 67 ∨ c.toNat = 68 ∨ c.toNat = 109) ∧ Ev.readsTo i ((form i.op).data.toList.map (·.toNat)) = Ev.reads i := by
  rcases form_cases i.op with ⟨h, hf⟩ | ⟨h, hf⟩ | ⟨h, hf⟩ | ⟨h, hf⟩ | ⟨h, hf⟩ | ⟨h, hf⟩ | ⟨h, hf⟩
  all_goals
    rw [hf]
    refine ⟨by decide, by decide, ?_⟩
    unfold Ev.reads
  · rw [if_pos h]; rfl
  · rw [if_neg (by omega), if_pos h]; rfl
  · rw [if_neg (by omega), if_neg (by omega), if_neg (by omega), if_neg (by omega)]; rfl
  · rw [if_neg (by omega), if_neg (by omega), if_neg (by omega), if_pos (by omega)]; rfl
  · rw [if_neg (by omega), if_neg (by omega), if_pos h]; rfl
  · rw [if_neg (by omega), if_neg (by omega), if_neg (by omega), if_pos (by omega)]; rfl
  · rw [if_neg (by omega), if_neg (by omega), if_neg (by omega), if_neg (by omega)]; rfl
set_option maxRecDepth 4000 in
set_option maxHeartbeats 1600000 in
theorem refReads_any (i : Ev.Instr) (w : World) :
    Calls Try.prog 36 #[.agg #[.int .i64 i.op, .int .i64 i.d, .int .i64 i.a, .int .i64 i.b, .int .i64 i.c, .int .i64 i.imm]] w fun e w' => ∃ v, e = .returned v ∧ w'.ownsRow w.heap.size 3 1 v (Ev.reads i).length ((Ev.reads i).map (Value.int .i64)) ∧ Below w.heap.size w w' := by
  obtain ⟨h4, hlet, hrd⟩ := form_letters i
  have hc := form_any i.op
  generalize Ev.reads i = res at *
  generalize form i.op = s at *
  have HF := Lib.hid hc
  have HRD := Lib.hid hrd
  have HLET := Lib.hid hlet
  obtain ⟨L, hL⟩ : ∃ L, s.data.toList = L := ⟨_, rfl⟩
  have hLs : L.length = s.size := by rw [← hL]; rfl
  have HLL := Lib.hid hL
  obtain ⟨i0, hi0, hz0, hz1, hz2⟩ := info_parts int_info
  have II := Lib.hid (⟨hi0, hz0, hz1, hz2⟩ : _ ∧ _ ∧ _ ∧ _)
  clear hlet hrd hc hL hi0 hz0 hz1 hz2
  go_enter Try.func36, Try.ntmps36
  go_wp2_with fail
  refine (HF.out _).mono ?_
  rintro e w1 ⟨rfl, hb1⟩
  obtain ⟨kc1, kf1, s1⟩ := bfacts hb1
  (try simp only [World.size_alloc, World.size_setCell, World.size_drew, World.heap_drewN, Nat.add_one_le_iff] at s1)
  (try have z1 : w.heap.size < w1.heap.size := by omega)
  have B1 : Hid (Below w.heap.size w w1) := by (show Below _ _ _); (repeat' first | with_reducible (first | exact Below.refl _ _ | assumption | refine Below.alloc ?_ ?_ _ | refine below_drewN ?_ _ | refine Below.drew ?_ | refine Below.setCell ?_ ?_ _ | refine Below.trans ?_ (Below.mono (by with_reducible assumption) ?_)) | go_size)
  obtain ⟨kd1, kg1, _⟩ := bfacts B1.out
  have cv := Lib.run_convert_string_bytes (P := Try.prog) w1 9 74 5 s Try.underlying9 Try.underlying74 Try.underlying5
  have z2 := Lib.bytesWorld_size w1 5 s
  have hcel := Lib.hid (fun j hj => Lib.bytesWorld_cell w1 5 s j hj)
  have hbw : Below w1.heap.size w1 (Lib.bytesWorld w1 5 s) := by
    exact ⟨rfl, rfl, rfl, by rw [Lib.bytesWorld_size]; omega, fun j hj => Lib.bytesWorld_at_old _ _ _ j hj⟩
  generalize Lib.bytesWorld w1 5 s = w2 at *
  generalize grownCap w1 s.size 0 5 = cap at *
  obtain ⟨kc2, kf2, s2⟩ := bfacts hbw
  have HL := Lib.hid hLs
  have BX := Lib.hid (show Below (w.heap.size + 1) (w.alloc (.cells #[.int .i64 i.op, .int .i64 i.d, .int .i64 i.a, .int .i64 i.b, .int .i64 i.c, .int .i64 i.imm] 39)) w2 by
    refine Below.trans (b := w1) ?_ (hbw.mono ?_)
    · have := hb1; simpa using this
    · have := hb1.size; simpa using this)
  clear hbw kc1 kf1 kd1 kg1
  go_wp2_with fail
  clear cv kc2 kf2
  go_loopw [3, 11] (fun o kk wr => ∃ j : Nat, j ≤ s.size ∧ kk = .int .i64 j ∧ Hid (wr.ownsRow w2.heap.size 3 1 o (Ev.readsTo i ((L.map (·.toNat)).take j)).length ((Ev.readsTo i ((L.map (·.toNat)).take j)).map (Value.int .i64))) ∧ Below w2.heap.size w2 wr) (fun _ kk _ => s.size - (intOf kk).toNat)
  case atStart => exact ⟨0, by omega, rfl, World.ownsRow_nil _ _ _ _, Below.refl _ _⟩
  case round =>
    obtain ⟨j, hj, rfl, OW, hB⟩ := hrel
    have hs3 := hB.size
    have bx1 : wr.cell? ⟨w.heap.size, 1, none⟩ = some (.int .i64 i.d) := (hB.cell (p := ⟨w.heap.size, 1, none⟩) (by go_size)).trans ((BX.out.cell (p := ⟨w.heap.size, 1, none⟩) (by go_size)).trans (by go_simp))
    have bx2 : wr.cell? ⟨w.heap.size, 2, none⟩ = some (.int .i64 i.a) := (hB.cell (p := ⟨w.heap.size, 2, none⟩) (by go_size)).trans ((BX.out.cell (p := ⟨w.heap.size, 2, none⟩) (by go_size)).trans (by go_simp))
    have bx3 : wr.cell? ⟨w.heap.size, 3, none⟩ = some (.int .i64 i.b) := (hB.cell (p := ⟨w.heap.size, 3, none⟩) (by go_size)).trans ((BX.out.cell (p := ⟨w.heap.size, 3, none⟩) (by go_size)).trans (by go_simp))
    have bx4 : wr.cell? ⟨w.heap.size, 4, none⟩ = some (.int .i64 i.c) := (hB.cell (p := ⟨w.heap.size, 4, none⟩) (by go_size)).trans ((BX.out.cell (p := ⟨w.heap.size, 4, none⟩) (by go_size)).trans (by go_simp))
    by_cases hlt : j < s.size
    · obtain ⟨c, hx⟩ : ∃ c, L[j]? = some c := ⟨L[j]'(by rw [HL.out]; exact hlt), List.getElem?_eq_getElem _⟩
      have hcc : wr.cell? ⟨w1.heap.size, j, none⟩ = some (.int .u8 c.toNat) := (hB.cell (p := ⟨w1.heap.size, j, none⟩) (by go_size)).trans (by
        have := hcel.out j hlt
        rw [HLL.out, List.getD_eq_getElem?_getD, hx] at this
        exact this)
      have hcl := HLET.out c (by rw [HLL.out]; exact List.mem_of_getElem? hx)
      have hrl := Ev.readsTo_le i ((L.map (·.toNat)).take j)
      have hrl2 : ((L.map (·.toNat)).take j).length ≤ j := List.length_take_le _ _
      rcases hcl with hc | hc | hc | hc | hc
      all_goals rw [hc] at hcc
      · -- letter 65
        have HE := Lib.hid (show Ev.readsTo i ((L.map (·.toNat)).take (j + 1)) = Ev.readsTo i ((L.map (·.toNat)).take j) ++ [i.a] by
          rw [readsTo_snoc i hx, hc]; rfl)
        generalize i.a = x at *
        go_wp2_with (at_builtin; refine wpList_append_own_at _ rfl (.tmp 18) (.tmp 21) _ rfl w2.heap.size 3 i0 (.int .i64 0) 1 8 Try.underlying42 II.out.1 II.out.2.1 II.out.2.2.1 II.out.2.2.2 rfl (by decide) _ _ _ rfl (OW.out.alloc _) ⟨wr.heap.size, 0, none⟩ 1 1 [.int .i64 x] rfl rfl (cell_one_new _ _ _) (fun x hx => by simp at hx; subst hx; rfl) (by unfold maxLen; omega) (by omega) (by simp; omega) ?_; intro v3 w3 hown3 hg3 hn3 hat3)
        replace hown3 : w3.ownsRow w2.heap.size 3 1 v3 (Ev.readsTo i ((L.map (·.toNat)).take (j + 1))).length ((Ev.readsTo i ((L.map (·.toNat)).take (j + 1))).map (Value.int .i64)) := by
          rw [HE.out, List.map_append, List.length_append]; exact hown3
        have hb3 := (hB.alloc (by omega) (.cells #[.int .i64 x] 3)).grown hg3 (by simp; omega) (fun q hq => (OW.out.lt q hq).1)
        go_wp2_with fail
        go_roundw
        case rel => exact ⟨j + 1, by omega, by go_num, hown3, hb3⟩
        case measure => simp [intOf]; omega
      · -- letter 66
        have HE := Lib.hid (show Ev.readsTo i ((L.map (·.toNat)).take (j + 1)) = Ev.readsTo i ((L.map (·.toNat)).take j) ++ [i.b] by
          rw [readsTo_snoc i hx, hc]; rfl)
        generalize i.b = x at *
        go_wp2_with (at_builtin; refine wpList_append_own_at _ rfl (.tmp 25) (.tmp 28) _ rfl w2.heap.size 3 i0 (.int .i64 0) 1 8 Try.underlying42 II.out.1 II.out.2.1 II.out.2.2.1 II.out.2.2.2 rfl (by decide) _ _ _ rfl (OW.out.alloc _) ⟨wr.heap.size, 0, none⟩ 1 1 [.int .i64 x] rfl rfl (cell_one_new _ _ _) (fun x hx => by simp at hx; subst hx; rfl) (by unfold maxLen; omega) (by omega) (by simp; omega) ?_; intro v3 w3 hown3 hg3 hn3 hat3)
        replace hown3 : w3.ownsRow w2.heap.size 3 1 v3 (Ev.readsTo i ((L.map (·.toNat)).take (j + 1))).length ((Ev.readsTo i ((L.map (·.toNat)).take (j + 1))).map (Value.int .i64)) := by
          rw [HE.out, List.map_append, List.length_append]; exact hown3
        have hb3 := (hB.alloc (by omega) (.cells #[.int .i64 x] 3)).grown hg3 (by simp; omega) (fun q hq => (OW.out.lt q hq).1)
        go_wp2_with fail
        go_roundw
        case rel => exact ⟨j + 1, by omega, by go_num, hown3, hb3⟩
        case measure => simp [intOf]; omega
      · -- letter 67
        have HE := Lib.hid (show Ev.readsTo i ((L.map (·.toNat)).take (j + 1)) = Ev.readsTo i ((L.map (·.toNat)).take j) ++ [i.c] by
          rw [readsTo_snoc i hx, hc]; rfl)
        generalize i.c = x at *
        go_wp2_with (at_builtin; refine wpList_append_own_at _ rfl (.tmp 32) (.tmp 35) _ rfl w2.heap.size 3 i0 (.int .i64 0) 1 8 Try.underlying42 II.out.1 II.out.2.1 II.out.2.2.1 II.out.2.2.2 rfl (by decide) _ _ _ rfl (OW.out.alloc _) ⟨wr.heap.size, 0, none⟩ 1 1 [.int .i64 x] rfl rfl (cell_one_new _ _ _) (fun x hx => by simp at hx; subst hx; rfl) (by unfold maxLen; omega) (by omega) (by simp; omega) ?_; intro v3 w3 hown3 hg3 hn3 hat3)
        replace hown3 : w3.ownsRow w2.heap.size 3 1 v3 (Ev.readsTo i ((L.map (·.toNat)).take (j + 1))).length ((Ev.readsTo i ((L.map (·.toNat)).take (j + 1))).map (Value.int .i64)) := by
          rw [HE.out, List.map_append, List.length_append]; exact hown3
        have hb3 := (hB.alloc (by omega) (.cells #[.int .i64 x] 3)).grown hg3 (by simp; omega) (fun q hq => (OW.out.lt q hq).1)
        go_wp2_with fail
        go_roundw
        case rel => exact ⟨j + 1, by omega, by go_num, hown3, hb3⟩
        case measure => simp [intOf]; omega
      · -- letter 68
        have HE := Lib.hid (show Ev.readsTo i ((L.map (·.toNat)).take (j + 1)) = Ev.readsTo i ((L.map (·.toNat)).take j) ++ [i.d] by
          rw [readsTo_snoc i hx, hc]; rfl)
        generalize i.d = x at *
        go_wp2_with (at_builtin; refine wpList_append_own_at _ rfl (.tmp 39) (.tmp 42) _ rfl w2.heap.size 3 i0 (.int .i64 0) 1 8 Try.underlying42 II.out.1 II.out.2.1 II.out.2.2.1 II.out.2.2.2 rfl (by decide) _ _ _ rfl (OW.out.alloc _) ⟨wr.heap.size, 0, none⟩ 1 1 [.int .i64 x] rfl rfl (cell_one_new _ _ _) (fun x hx => by simp at hx; subst hx; rfl) (by unfold maxLen; omega) (by omega) (by simp; omega) ?_; intro v3 w3 hown3 hg3 hn3 hat3)
        replace hown3 : w3.ownsRow w2.heap.size 3 1 v3 (Ev.readsTo i ((L.map (·.toNat)).take (j + 1))).length ((Ev.readsTo i ((L.map (·.toNat)).take (j + 1))).map (Value.int .i64)) := by
          rw [HE.out, List.map_append, List.length_append]; exact hown3
        have hb3 := (hB.alloc (by omega) (.cells #[.int .i64 x] 3)).grown hg3 (by simp; omega) (fun q hq => (OW.out.lt q hq).1)
        go_wp2_with fail
        go_roundw
        case rel => exact ⟨j + 1, by omega, by go_num, hown3, hb3⟩
        case measure => simp [intOf]; omega
      · -- the last one
        have HE := Lib.hid (show Ev.readsTo i ((L.map (·.toNat)).take (j + 1)) = Ev.readsTo i ((L.map (·.toNat)).take j) by
          rw [readsTo_snoc i hx, hc]; exact List.append_nil _)
        go_wp2_with fail
        go_roundw
        case rel => exact ⟨j + 1, by omega, by go_num, by rw [HE.out]; exact OW.out, hB⟩
        case measure => simp [intOf]; omega
    · have hje : j = s.size := by omega
      subst hje
      go_wp2
      go_ret
      have h := OW.out
      have e : (L.map (·.toNat)).take s.size = L.map (·.toNat) := List.take_of_length_le (by rw [List.length_map, HL.out]; exact Nat.le_refl _)
      rw [e, ← HLL.out, HRD.out] at h
      refine ⟨_, rfl, own_less h (by omega), ?_⟩
      have := BX.out
      have hb4 : Below w.heap.size w w2 := by (repeat' first | with_reducible (first | exact Below.refl _ _ | assumption | refine Below.alloc ?_ ?_ _ | refine below_drewN ?_ _ | refine Below.drew ?_ | refine Below.setCell ?_ ?_ _ | refine Below.trans ?_ (Below.mono (by with_reducible assumption) ?_)) | go_size)
      (repeat' first | with_reducible (first | exact Below.refl _ _ | assumption | refine Below.alloc ?_ ?_ _ | refine below_drewN ?_ _ | refine Below.drew ?_ | refine Below.setCell ?_ ?_ _ | refine Below.trans ?_ (Below.mono (by with_reducible assumption) ?_)) | go_size)
end Go.Proofs.Ytljcgcllhcdleaa
