import Derived.Test.YtljcgcllhcdleaaLg23
/- Chapter 7: what is wrong with flat instructions. -/
namespace Go.Proofs.Ytljcgcllhcdleaa
open Go.RowKit
set_option linter.unusedSimpArgs false
set_option linter.unusedVariables false
theorem checkFrom_stop (f : Ev.Flat) : ∀ (l : List Ev.Instr) (k j : Nat) (i : Ev.Instr), (∀ m, m < j → ∀ x, l[m]? = some x → Ev.checkAt f (k + m) x = 0) → l[j]? = some i → Ev.checkAt f (k + j) i ≠ 0 → Ev.checkFrom f k l = (Ev.checkAt f (k + j) i, ((k + j : Nat) : Int))
  | [], k, j, i, _, hi, _ => by simp at hi
  | y :: r, k, 0, i, _, hi, hn => by
    simp at hi
    subst hi
    rw [Nat.add_zero] at hn ⊢
    unfold Ev.checkFrom
    rw [if_neg hn]
  | y :: r, k, j + 1, i, h, hi, hn => by
    have h0 : Ev.checkAt f k y = 0 := h 0 (by omega) y (by simp)
    unfold Ev.checkFrom
    rw [if_pos h0]
    have := checkFrom_stop f r (k + 1) j i (fun m hm x hx => by rw [show k + 1 + m = k + (m + 1) by omega]; exact h (m + 1) (by omega) x (by simpa using hx)) (by simpa using hi) (by rw [show k + 1 + j = k + (j + 1) by omega]; exact hn)
    rw [this, show k + 1 + j = k + (j + 1) by omega]
theorem checkFrom_all (f : Ev.Flat) : ∀ (l : List Ev.Instr) (k : Nat), (∀ m x, l[m]? = some x → Ev.checkAt f (k + m) x = 0) → Ev.checkFrom f k l = (0, -1)
  | [], k, _ => rfl
  | y :: r, k, h => by
    have h0 : Ev.checkAt f k y = 0 := h 0 y (by simp)
    unfold Ev.checkFrom
    rw [if_pos h0]
    exact checkFrom_all f r (k + 1) (fun m x hx => by rw [show k + 1 + m = k + (m + 1) by omega]; exact h (m + 1) x (by simpa using hx))
def Big (f : Ev.Flat) : Prop := f.code.length < 1 ∨ 12000 < f.code.length ∨ f.params < 0 ∨ (f.secret.length : Int) < f.params
theorem check_big {f : Ev.Flat} (h : Big f) : Ev.check f = (4, -1) := by unfold Big at h; unfold Ev.check; rw [if_pos h]
theorem check_at {f : Ev.Flat} (h : ¬ Big f) {j : Nat} {i : Ev.Instr} (hb : ∀ m, m < j → ∀ x, f.code[m]? = some x → Ev.checkAt f m x = 0) (hi : f.code[j]? = some i) (hn : Ev.checkAt f j i ≠ 0) : Ev.check f = (Ev.checkAt f j i, (j : Int)) := by
  have := checkFrom_stop f f.code 0 j i (fun m hm x hx => by rw [Nat.zero_add]; exact hb m hm x hx) hi (by rw [Nat.zero_add]; exact hn)
  rw [Nat.zero_add] at this
  unfold Ev.check
  unfold Big at h
  rw [if_neg h, this, if_pos hn]
theorem check_end {f : Ev.Flat} (h : ¬ Big f) (hb : ∀ m, m < f.code.length → ∀ x, f.code[m]? = some x → Ev.checkAt f m x = 0) :
    Ev.check f = if Ev.lastOp f = 20 ∨ Ev.lastOp f = 21 ∨ Ev.lastOp f = 18 then (0, -1) else (8, (f.code.length : Int) - 1) := by
  have := checkFrom_all f f.code 0 (fun m x hx => by rw [Nat.zero_add]; exact hb m (List.getElem?_eq_some_iff.1 hx).1 x hx)
  unfold Ev.check
  unfold Big at h
  rw [if_neg h, this, if_neg (by simp)]
theorem FlatAt.at_ {w w' : World} {b : Nat} {f : Ev.Flat} {vc vs va : Value} (h : FlatAt w b f vc vs va) (hb : Below w.heap.size w w') : FlatAt w' b f vc vs va := by
  have lt := World.block_lt_of_cell? w _ h.c0
  exact ⟨(hb.cell (p := ⟨b, 0, none⟩) lt).trans h.c0, (hb.cell (p := ⟨b, 1, none⟩) lt).trans h.c1, (hb.cell (p := ⟨b, 2, none⟩) lt).trans h.c2, (hb.cell (p := ⟨b, 3, none⟩) lt).trans h.c3,
    SL.at_ h.code hb (Nat.le_refl _), SL.at_ h.secret hb (Nat.le_refl _), SL.at_ h.arrays hb (Nat.le_refl _)⟩
theorem FlatAt.box {w : World} {f : Ev.Flat} {vc vs va : Value} (t : TypeId) (hc : RCode w w.heap.size vc f.code) (hs : RBools w w.heap.size vs f.secret) (ha : RVars w w.heap.size va f.arrays) :
    FlatAt (w.alloc (.cells #[vc, vs, .int .i64 f.params, va] t)) w.heap.size f vc vs va := by
  have hb : Below w.heap.size w (w.alloc (.cells #[vc, vs, .int .i64 f.params, va] t)) := by (repeat' first | with_reducible (first | exact Below.refl _ _ | assumption | refine Below.alloc ?_ ?_ _ | refine below_drewN ?_ _ | refine Below.drew ?_ | refine Below.setCell ?_ ?_ _ | refine Below.trans ?_ (Below.mono (by with_reducible assumption) ?_)) | go_size)
  have hx : ∀ j u, #[vc, vs, .int .i64 f.params, va][j]? = some u → (w.alloc (.cells #[vc, vs, .int .i64 f.params, va] t)).cell? ⟨w.heap.size, j, none⟩ = some u := fun j u hu => by
    rw [World.cell?_alloc_at _ _ _ _ rfl]; exact hu
  exact ⟨hx 0 _ rfl, hx 1 _ rfl, hx 2 _ rfl, hx 3 _ rfl, SL.at_ hc hb (Nat.le_refl _), SL.at_ hs hb (Nat.le_refl _), SL.at_ ha hb (Nat.le_refl _)⟩

set_option maxRecDepth 4000 in
set_option maxHeartbeats 3200000 in
theorem check_any (f : Ev.Flat) (vc vs va : Value) (w : World) (hc : RCode w w.heap.size vc f.code) (hs : RBools w w.heap.size vs f.secret) (ha : RVars w w.heap.size va f.arrays) :
    Calls Try.prog 38 #[.agg #[vc, vs, .int .i64 f.params, va]] w fun e w' => e = .returned (.tuple #[.int .i64 (Ev.check f).1, .int .i64 (Ev.check f).2]) ∧ Below w.heap.size w w' := by
  have hF := FlatAt.box 26 hc hs ha
  obtain ⟨Ac, cc, rfl, hc1, hc2⟩ := SL.form hc
  obtain ⟨As, cs, rfl, hs1, hs2⟩ := SL.form hs
  obtain ⟨Av, cv, rfl, hv1, hv2⟩ := SL.form ha
  unfold maxLen at hc2 hs2 hv2
  clear hc hs ha
  by_cases hbig : Big f
  · have H := Lib.hid (check_big hbig)
    unfold Big at hbig
    clear hF
    go_enter Try.func38, Try.ntmps38
    go_wp2_with fail
    all_goals
      first
      | (exfalso; simp at *; omega)
      | skip
    all_goals
      go_ret2
      exact ⟨by rw [H.out]; rfl, by (repeat' first | with_reducible (first | exact Below.refl _ _ | assumption | refine Below.alloc ?_ ?_ _ | refine below_drewN ?_ _ | refine Below.drew ?_ | refine Below.setCell ?_ ?_ _ | refine Below.trans ?_ (Below.mono (by with_reducible assumption) ?_)) | go_size)⟩
  · have H1 := Lib.hid (fun j i => @check_at f hbig j i)
    have H2 := Lib.hid (@check_end f hbig)
    unfold Big at hbig
    have HF := Lib.hid hF
    clear hF
    generalize Ev.check f = res at *
    go_enter Try.func38, Try.ntmps38
    go_wp2_with fail
    go_loopw [33] (fun u w' => ∃ j : Nat, j ≤ f.code.length ∧ u = .int .i64 j ∧ FlatAt w' w.heap.size f (.slice Ac f.code.length cc) (.slice As f.secret.length cs) (.slice Av f.arrays.length cv) ∧ Below w.heap.size w w' ∧
      Hid (∀ m, m < j → ∀ x, f.code[m]? = some x → Ev.checkAt f m x = 0)) (fun u _ => f.code.length - (intOf u).toNat)
    case atStart => exact ⟨0, by omega, rfl, HF.out, by (repeat' first | with_reducible (first | exact Below.refl _ _ | assumption | refine Below.alloc ?_ ?_ _ | refine below_drewN ?_ _ | refine Below.drew ?_ | refine Below.setCell ?_ ?_ _ | refine Below.trans ?_ (Below.mono (by with_reducible assumption) ?_)) | go_size), fun m hm => absurd hm (by omega)⟩
    case round =>
      obtain ⟨j, hj, rfl, hW, hB, hall⟩ := hrel
      have HW := Lib.hid hW
      obtain ⟨q0, q1, q2, q3, hcode, hsec, harr⟩ := hW
      obtain ⟨kd, kg, sd⟩ := bfacts hB
      have zr : w.heap.size < wr.heap.size := World.block_lt_of_cell? wr _ q0
      by_cases hlt : j < f.code.length
      · obtain ⟨i, hi⟩ : ∃ i, f.code[j]? = some i := ⟨f.code[j], List.getElem?_eq_getElem hlt⟩
        obtain ⟨bc, o, c, hv, hbc, hk, hn, hm, i0, i1, i2, i3, i4, i5⟩ := RCode.at_ hcode hi
        injection hv with hA _ hcr
        subst hA hcr
        clear hcode hsec harr
        have HI := Lib.hid hi
        clear hi
        have C := Lib.hid (fun (e : Int) (h : Ev.checkAt f j i = e) (hn : e ≠ 0) => (H1.out j i hall.out HI.out (by rw [h]; exact hn)).trans (by rw [h]))
        by_cases hop : 1 ≤ i.op ∧ i.op ≤ 21
        · obtain ⟨op1, op2⟩ := hop
          cases hnum : Ev.numbers f j i
          · have HRES := Lib.hid (C.out 3 (by unfold Ev.checkAt; rw [if_neg (by omega), if_pos hnum]) (by decide))
            go_wp2_with fail
            refine (numbers_any f w.heap.size j i _ _ _ _ (HW.out.at_ (by (repeat' first | with_reducible (first | exact Below.refl _ _ | assumption | refine Below.alloc ?_ ?_ _ | refine below_drewN ?_ _ | refine Below.drew ?_ | refine Below.setCell ?_ ?_ _ | refine Below.trans ?_ (Below.mono (by with_reducible assumption) ?_)) | go_size))) HI.out).mono ?_
            rintro e w1 ⟨rfl, hb1⟩
            obtain ⟨kc1, kf1, s1⟩ := bfacts hb1
            (try simp only [World.size_alloc, World.size_setCell, World.size_drew, World.heap_drewN, Nat.add_one_le_iff] at s1)
            (try have z1 : w.heap.size < w1.heap.size := by omega)
            have B1 : Hid (Below w.heap.size w w1) := by (show Below _ _ _); (repeat' first | with_reducible (first | exact Below.refl _ _ | assumption | refine Below.alloc ?_ ?_ _ | refine below_drewN ?_ _ | refine Below.drew ?_ | refine Below.setCell ?_ ?_ _ | refine Below.trans ?_ (Below.mono (by with_reducible assumption) ?_)) | go_size)
            obtain ⟨kd1, kg1, _⟩ := bfacts B1.out
            go_wp2_with fail
            go_ret2
            exact ⟨by rw [HRES.out]; rfl, by (repeat' first | with_reducible (first | exact Below.refl _ _ | assumption | refine Below.alloc ?_ ?_ _ | refine below_drewN ?_ _ | refine Below.drew ?_ | refine Below.setCell ?_ ?_ _ | refine Below.trans ?_ (Below.mono (by with_reducible assumption) ?_)) | go_size)⟩
          · have HR := Lib.hid (Right.of op1 op2 hnum)
            cases hsc : Ev.secrets f i
            · have HZ := Lib.hid (show Ev.checkAt f j i = 0 by unfold Ev.checkAt; rw [if_neg (by omega), if_neg (by rw [hnum]; simp), if_neg (by rw [hsc]; simp)])
              go_wp2_with fail
              refine (numbers_any f w.heap.size j i _ _ _ _ (HW.out.at_ (by (repeat' first | with_reducible (first | exact Below.refl _ _ | assumption | refine Below.alloc ?_ ?_ _ | refine below_drewN ?_ _ | refine Below.drew ?_ | refine Below.setCell ?_ ?_ _ | refine Below.trans ?_ (Below.mono (by with_reducible assumption) ?_)) | go_size))) HI.out).mono ?_
              rintro e w1 ⟨rfl, hb1⟩
              obtain ⟨kc1, kf1, s1⟩ := bfacts hb1
              (try simp only [World.size_alloc, World.size_setCell, World.size_drew, World.heap_drewN, Nat.add_one_le_iff] at s1)
              (try have z1 : w.heap.size < w1.heap.size := by omega)
              have B1 : Hid (Below w.heap.size w w1) := by (show Below _ _ _); (repeat' first | with_reducible (first | exact Below.refl _ _ | assumption | refine Below.alloc ?_ ?_ _ | refine below_drewN ?_ _ | refine Below.drew ?_ | refine Below.setCell ?_ ?_ _ | refine Below.trans ?_ (Below.mono (by with_reducible assumption) ?_)) | go_size)
              obtain ⟨kd1, kg1, _⟩ := bfacts B1.out
              go_wp2_with fail
              refine (secrets_any f w.heap.size j i _ _ _ _ (HW.out.at_ (by (repeat' first | with_reducible (first | exact Below.refl _ _ | assumption | refine Below.alloc ?_ ?_ _ | refine below_drewN ?_ _ | refine Below.drew ?_ | refine Below.setCell ?_ ?_ _ | refine Below.trans ?_ (Below.mono (by with_reducible assumption) ?_)) | go_size))) HR.out).mono ?_
              rintro e w2 ⟨rfl, hb2⟩
              obtain ⟨kc2, kf2, s2⟩ := bfacts hb2
              (try simp only [World.size_alloc, World.size_setCell, World.size_drew, World.heap_drewN, Nat.add_one_le_iff] at s2)
              (try have z2 : w.heap.size < w2.heap.size := by omega)
              have B2 : Hid (Below w.heap.size w w2) := by (show Below _ _ _); (repeat' first | with_reducible (first | exact Below.refl _ _ | assumption | refine Below.alloc ?_ ?_ _ | refine below_drewN ?_ _ | refine Below.drew ?_ | refine Below.setCell ?_ ?_ _ | refine Below.trans ?_ (Below.mono (by with_reducible assumption) ?_)) | go_size)
              obtain ⟨kd2, kg2, _⟩ := bfacts B2.out
              go_wp2_with fail
              go_roundw
              case rel =>
                refine ⟨j + 1, by omega, by go_num, HW.out.at_ (by (repeat' first | with_reducible (first | exact Below.refl _ _ | assumption | refine Below.alloc ?_ ?_ _ | refine below_drewN ?_ _ | refine Below.drew ?_ | refine Below.setCell ?_ ?_ _ | refine Below.trans ?_ (Below.mono (by with_reducible assumption) ?_)) | go_size)), by (repeat' first | with_reducible (first | exact Below.refl _ _ | assumption | refine Below.alloc ?_ ?_ _ | refine below_drewN ?_ _ | refine Below.drew ?_ | refine Below.setCell ?_ ?_ _ | refine Below.trans ?_ (Below.mono (by with_reducible assumption) ?_)) | go_size), fun m hm x hx => ?_⟩
                by_cases hmj : m = j
                · subst hmj
                  rw [HI.out] at hx
                  injection hx with hx
                  subst hx
                  exact HZ.out
                · exact hall.out m (by omega) x hx
              case measure => simp [intOf]; omega
            · have HRES := Lib.hid (C.out 10 (by unfold Ev.checkAt; rw [if_neg (by omega), if_neg (by rw [hnum]; simp), if_pos hsc]) (by decide))
              go_wp2_with fail
              refine (numbers_any f w.heap.size j i _ _ _ _ (HW.out.at_ (by (repeat' first | with_reducible (first | exact Below.refl _ _ | assumption | refine Below.alloc ?_ ?_ _ | refine below_drewN ?_ _ | refine Below.drew ?_ | refine Below.setCell ?_ ?_ _ | refine Below.trans ?_ (Below.mono (by with_reducible assumption) ?_)) | go_size))) HI.out).mono ?_
              rintro e w1 ⟨rfl, hb1⟩
              obtain ⟨kc1, kf1, s1⟩ := bfacts hb1
              (try simp only [World.size_alloc, World.size_setCell, World.size_drew, World.heap_drewN, Nat.add_one_le_iff] at s1)
              (try have z1 : w.heap.size < w1.heap.size := by omega)
              have B1 : Hid (Below w.heap.size w w1) := by (show Below _ _ _); (repeat' first | with_reducible (first | exact Below.refl _ _ | assumption | refine Below.alloc ?_ ?_ _ | refine below_drewN ?_ _ | refine Below.drew ?_ | refine Below.setCell ?_ ?_ _ | refine Below.trans ?_ (Below.mono (by with_reducible assumption) ?_)) | go_size)
              obtain ⟨kd1, kg1, _⟩ := bfacts B1.out
              go_wp2_with fail
              refine (secrets_any f w.heap.size j i _ _ _ _ (HW.out.at_ (by (repeat' first | with_reducible (first | exact Below.refl _ _ | assumption | refine Below.alloc ?_ ?_ _ | refine below_drewN ?_ _ | refine Below.drew ?_ | refine Below.setCell ?_ ?_ _ | refine Below.trans ?_ (Below.mono (by with_reducible assumption) ?_)) | go_size))) HR.out).mono ?_
              rintro e w2 ⟨rfl, hb2⟩
              obtain ⟨kc2, kf2, s2⟩ := bfacts hb2
              (try simp only [World.size_alloc, World.size_setCell, World.size_drew, World.heap_drewN, Nat.add_one_le_iff] at s2)
              (try have z2 : w.heap.size < w2.heap.size := by omega)
              have B2 : Hid (Below w.heap.size w w2) := by (show Below _ _ _); (repeat' first | with_reducible (first | exact Below.refl _ _ | assumption | refine Below.alloc ?_ ?_ _ | refine below_drewN ?_ _ | refine Below.drew ?_ | refine Below.setCell ?_ ?_ _ | refine Below.trans ?_ (Below.mono (by with_reducible assumption) ?_)) | go_size)
              obtain ⟨kd2, kg2, _⟩ := bfacts B2.out
              go_wp2_with fail
              go_ret2
              exact ⟨by rw [HRES.out]; rfl, by (repeat' first | with_reducible (first | exact Below.refl _ _ | assumption | refine Below.alloc ?_ ?_ _ | refine below_drewN ?_ _ | refine Below.drew ?_ | refine Below.setCell ?_ ?_ _ | refine Below.trans ?_ (Below.mono (by with_reducible assumption) ?_)) | go_size)⟩
        · have hres := C.out 1 (by unfold Ev.checkAt; rw [if_pos hop]) (by decide)
          have HRES := Lib.hid hres
          clear hres
          go_wp2_with fail
          all_goals
            go_ret2
            exact ⟨by rw [HRES.out]; rfl, by (repeat' first | with_reducible (first | exact Below.refl _ _ | assumption | refine Below.alloc ?_ ?_ _ | refine below_drewN ?_ _ | refine Below.drew ?_ | refine Below.setCell ?_ ?_ _ | refine Below.trans ?_ (Below.mono (by with_reducible assumption) ?_)) | go_size)⟩
      · have hje : f.code.length ≤ j := by omega
        have hres := H2.out (fun m hm x hx => hall.out m (by omega) x hx)
        obtain ⟨m, hm⟩ : ∃ m : Nat, f.code.length = m + 1 := ⟨f.code.length - 1, by omega⟩
        have hm' : (f.code.length : Int) - 1 = m := by omega
        obtain ⟨bc, o, c, hv, hbc, _, _, hrow⟩ := RCode.row hcode (by omega)
        injection hv with hA _ hcr
        subst hA hcr
        obtain ⟨i, hi⟩ : ∃ i, f.code[m]? = some i := ⟨f.code[m], List.getElem?_eq_getElem (by omega)⟩
        obtain ⟨i0, _⟩ := hrow m i hi
        have hlast : Ev.lastOp f = i.op := by unfold Ev.lastOp; rw [show f.code.length - 1 = m by omega]; simp [List.getD, hi]
        rw [hlast, hm'] at hres
        have HRES := Lib.hid hres
        have HI := Lib.hid hi
        clear hres hrow hi hlast hcode hsec harr
        have wm : IntKind.i64.wrap (f.code.length - 1 : Int) = m := by rw [hm', IntKind.wrap_i64]; omega
        have hml : m < f.code.length := by omega
        clear hm
        by_cases h3 : i.op = 20 ∨ i.op = 21 ∨ i.op = 18
        · have hr := HRES.out
          rw [if_pos h3] at hr
          have HR := Lib.hid hr
          clear hr
          rcases h3 with h3 | h3 | h3
          all_goals
            go_wp2_with fail
            go_ret2
            exact ⟨by rw [HR.out]; rfl, by (repeat' first | with_reducible (first | exact Below.refl _ _ | assumption | refine Below.alloc ?_ ?_ _ | refine below_drewN ?_ _ | refine Below.drew ?_ | refine Below.setCell ?_ ?_ _ | refine Below.trans ?_ (Below.mono (by with_reducible assumption) ?_)) | go_size)⟩
        · have hr := HRES.out
          rw [if_neg h3] at hr
          have HR := Lib.hid hr
          clear hr
          have n20 : (i.op != 20) = true := by simp; omega
          have n21 : (i.op != 21) = true := by simp; omega
          have n18 : (i.op != 18) = true := by simp; omega
          clear h3
          go_wp2_with fail
          refine wp_region_chain (fun w' => Below (wr).heap.size (wr) w') (by kernel_rfl) (by kernel_rfl) (by (repeat' first | with_reducible (first | exact Below.refl _ _ | assumption | refine Below.alloc ?_ ?_ _ | refine below_drewN ?_ _ | refine Below.drew ?_ | refine Below.setCell ?_ ?_ _ | refine Below.trans ?_ (Below.mono (by with_reducible assumption) ?_)) | go_size)) ?_
          repeat (
            apply chain_cons
            case h =>
              refine fun w9 hb9 => ?_
              have hB9 : Below w.heap.size w w9 := by (repeat' first | with_reducible (first | exact Below.refl _ _ | assumption | refine Below.alloc ?_ ?_ _ | refine below_drewN ?_ _ | refine Below.drew ?_ | refine Below.setCell ?_ ?_ _ | refine Below.trans ?_ (Below.mono (by with_reducible assumption) ?_)) | go_size)
              obtain ⟨kc9, kf9, s9⟩ := bfacts hb9
              obtain ⟨kd9, kg9, _⟩ := bfacts hB9
              go_wp2_with fail
              (try (fail; go_wp2_with fail))
              refine settled_intro (S := fun w' => Below (wr).heap.size (wr) w') ?_
              (repeat' first | with_reducible (first | exact Below.refl _ _ | assumption | refine Below.alloc ?_ ?_ _ | refine below_drewN ?_ _ | refine Below.drew ?_ | refine Below.setCell ?_ ?_ _ | refine Below.trans ?_ (Below.mono (by with_reducible assumption) ?_)) | go_size)
            case hp => first | rfl | (simp only [*]; done) | (simp only [*]; rfl))
          refine chain.nil ?_
          refine fun w2 hb2 => ?_
          have B2 : Below w.heap.size w w2 := by (repeat' first | with_reducible (first | exact Below.refl _ _ | assumption | refine Below.alloc ?_ ?_ _ | refine below_drewN ?_ _ | refine Below.drew ?_ | refine Below.setCell ?_ ?_ _ | refine Below.trans ?_ (Below.mono (by with_reducible assumption) ?_)) | go_size)
          obtain ⟨kc2, kf2, s2⟩ := bfacts hb2
          obtain ⟨kd2, kg2, _⟩ := bfacts B2
          (try simp only [World.size_alloc, World.size_setCell, World.size_drew, World.heap_drewN, Nat.add_one_le_iff] at s2)
          clear hb2
          have hb2 := B2
          clear B2
          have B2 : Hid (Below w.heap.size w w2) := hb2
          (try have z2 : w.heap.size < w2.heap.size := by omega)
          (try dsimp only)
          go_wp2_with fail
          go_ret2
          exact ⟨by rw [HR.out]; rfl, by (repeat' first | with_reducible (first | exact Below.refl _ _ | assumption | refine Below.alloc ?_ ?_ _ | refine below_drewN ?_ _ | refine Below.drew ?_ | refine Below.setCell ?_ ?_ _ | refine Below.trans ?_ (Below.mono (by with_reducible assumption) ?_)) | go_size)⟩
end Go.Proofs.Ytljcgcllhcdleaa
