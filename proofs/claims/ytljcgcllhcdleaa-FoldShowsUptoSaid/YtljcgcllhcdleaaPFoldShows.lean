import Derived.Test.YtljcgcllhcdleaaFo32
import Derived.Test.YtljcgcllhcdleaaPShows
import Derived.Test.YtljcgcllhcdleaaFo28
import Derived.Deep.DeepCutAuto
/- evlaw9.FoldShows: the walk. -/
namespace Go.Proofs.Ytljcgcllhcdleaa
open Go.RowKit
set_option linter.unusedSimpArgs false
set_option linter.unusedVariables false
theorem list18l {t : List Int} (h : t.length = 18) : ∃ x0 x1 x2 x3 x4 x5 x6 x7 x8 x9 x10 x11 x12 x13 x14 x15 x16 x17, t = [x0, x1, x2, x3, x4, x5, x6, x7, x8, x9, x10, x11, x12, x13, x14, x15, x16, x17] := by
  match t, h with
  | [x0, x1, x2, x3, x4, x5, x6, x7, x8, x9, x10, x11, x12, x13, x14, x15, x16, x17], _ => exact ⟨_, _, _, _, _, _, _, _, _, _, _, _, _, _, _, _, _, _, rfl⟩
theorem code_of {w : World} {n : Nat} {A B C : Option Addr} {a b c d e f : Nat} {p : Int} {x : Ev.Flat} (h : RFlat w n (.agg #[.slice A a b, .slice B c d, .int .i64 p, .slice C e f]) x) : RCode w n (.slice A a b) x.code := by
  obtain ⟨_, _, _, e, hc', _⟩ := h
  injection e with e
  simp only [Array.mk.injEq, List.cons.injEq] at e
  obtain ⟨rfl, _⟩ := e
  exact hc'
set_option maxRecDepth 16000 in
set_option maxHeartbeats 12800000 in
theorem foldShows_walk (f : Ev.Flat) (t : List Int) (vf : Value) (w : World) (hf : RFlat w w.heap.size vf f) (hl : t.length = 18) (ht : ∀ x ∈ t, -9223372036854775808 ≤ x ∧ x ≤ 9223372036854775807) (hbf : f.code.length + f.secret.length + f.arrays.length ≤ 1048576) :
    Calls Try.prog 9 #[vf, tableV t] w fun e w' => e = .returned (.bool true) ∧ Below w.heap.size w w' := by
  have HTL := Lib.hid hl
  have HTI := Lib.hid ht
  clear ht
  have HF0 := Lib.hid hf
  obtain ⟨Ac, cc, As, cs, Av, cv, rfl⟩ := hf.slices
  obtain ⟨_, _, e, hcc1, hcc⟩ := SL.form (code_of HF0.out)
  injection e with e1 e2 e3
  subst e1 e3
  unfold maxLen at hcc
  have HBF := Lib.hid hbf
  clear hf hbf
  obtain ⟨x0, x1, x2, x3, x4, x5, x6, x7, x8, x9, x10, x11, x12, x13, x14, x15, x16, x17, hT18⟩ := list18l hl
  have HTV := Lib.hid (show tableV t = .agg #[.int .i64 x0, .int .i64 x1, .int .i64 x2, .int .i64 x3, .int .i64 x4, .int .i64 x5, .int .i64 x6, .int .i64 x7, .int .i64 x8, .int .i64 x9, .int .i64 x10, .int .i64 x11, .int .i64 x12, .int .i64 x13, .int .i64 x14, .int .i64 x15, .int .i64 x16, .int .i64 x17] by rw [hT18]; rfl)
  clear hl hT18
  obtain ⟨er, ek, hck⟩ : ∃ er ek, Ev.check f = (er, ek) := ⟨_, _, rfl⟩
  have HRT := Lib.hid (show er = 0 → Ev.Right f from fun h0 => Ev.right_of_check (by rw [hck]; exact h0))
  have CC : Hid (∀ u : World, Below w.heap.size w u → Calls Try.prog 17 #[.agg #[.slice Ac f.code.length cc, .slice As f.secret.length cs, .int .i64 f.params, .slice Av f.arrays.length cv]] u fun e w' => e = .returned (.tuple #[.int .i64 er, .int .i64 ek]) ∧ Below u.heap.size u w') := by
    intro u hb
    have h := refCheck_any f _ u (RFlat.on HF0 hb).out
    rw [hck] at h
    exact h
  clear hck
  obtain ⟨wt, hwt⟩ : ∃ wt, Ev.wrong t = wt := ⟨_, rfl⟩
  have HWT := Lib.hid hwt
  have CW : Hid (∀ u : World, Calls Try.prog 18 #[.agg #[.int .i64 x0, .int .i64 x1, .int .i64 x2, .int .i64 x3, .int .i64 x4, .int .i64 x5, .int .i64 x6, .int .i64 x7, .int .i64 x8, .int .i64 x9, .int .i64 x10, .int .i64 x11, .int .i64 x12, .int .i64 x13, .int .i64 x14, .int .i64 x15, .int .i64 x16, .int .i64 x17]] u fun e w' => e = .returned (.int .i64 wt) ∧ Below u.heap.size u w') := by
    intro u
    have h := refWrong_any t u HTL.out HTI.out
    rw [HTV.out, hwt] at h
    exact h
  clear hwt
  obtain ⟨x, hx⟩ : ∃ x, Ev.foldF f = x := ⟨_, rfl⟩
  have HX := Lib.hid hx
  have HXR := Lib.hid (show er = 0 → Ev.Right x from fun h0 => by rw [← hx]; exact Ev.fold_right (HRT.out h0))
  have CF : Hid (er = 0 → ∀ u : World, Below w.heap.size w u → Calls Try.prog 29 #[.agg #[.slice Ac f.code.length cc, .slice As f.secret.length cs, .int .i64 f.params, .slice Av f.arrays.length cv]] u fun e w' => ∃ Ap cp Aq cq Ar cr, e = .returned (.agg #[.slice Ap x.code.length cp, .slice Aq x.secret.length cq, .int .i64 x.params, .slice Ar x.arrays.length cr]) ∧ Hid (RFlat w' w'.heap.size (.agg #[.slice Ap x.code.length cp, .slice Aq x.secret.length cq, .int .i64 x.params, .slice Ar x.arrays.length cr]) x) ∧ Below u.heap.size u w') := by
    intro h0 u hb
    have h := fold_any f _ u (RFlat.on HF0 hb).out (HRT.out h0) (by have := HBF.out; omega) (by have := HBF.out; omega)
    rw [hx] at h
    refine h.mono ?_
    rintro e w' ⟨v, rfl, hR, _, hb⟩
    obtain ⟨Ap, cp, Aq, cq, Ar, cr, rfl⟩ := hR.slices
    exact ⟨Ap, cp, Aq, cq, Ar, cr, rfl, Lib.hid hR, hb⟩
  clear hx
  rw [HTV.out]
  go_enter Try.func9, Try.ntmps9
  go_upto_region 1 with fail
  have bA : Below w.heap.size w ((w.alloc (.cells #[.slice Ac f.code.length cc, .slice As f.secret.length cs, .int .i64 f.params, .slice Av f.arrays.length cv] 26)).alloc (.cells #[.int .i64 x0, .int .i64 x1, .int .i64 x2, .int .i64 x3, .int .i64 x4, .int .i64 x5, .int .i64 x6, .int .i64 x7, .int .i64 x8, .int .i64 x9, .int .i64 x10, .int .i64 x11, .int .i64 x12, .int .i64 x13, .int .i64 x14, .int .i64 x15, .int .i64 x16, .int .i64 x17] 29)) := by (repeat' first | with_reducible (first | exact Below.refl _ _ | assumption | refine Below.alloc ?_ ?_ _ | refine below_drewN ?_ _ | refine Below.drew ?_ | refine Below.setCell ?_ ?_ _ | refine Below.trans ?_ (Below.mono (by with_reducible assumption) ?_)) | go_size)
  have HBF1 : Hid ((((w.alloc (.cells #[.slice Ac f.code.length cc, .slice As f.secret.length cs, .int .i64 f.params, .slice Av f.arrays.length cv] 26)).alloc (.cells #[.int .i64 x0, .int .i64 x1, .int .i64 x2, .int .i64 x3, .int .i64 x4, .int .i64 x5, .int .i64 x6, .int .i64 x7, .int .i64 x8, .int .i64 x9, .int .i64 x10, .int .i64 x11, .int .i64 x12, .int .i64 x13, .int .i64 x14, .int .i64 x15, .int .i64 x16, .int .i64 x17] 29))).heap[w.heap.size]? = some (.cells #[.slice Ac f.code.length cc, .slice As f.secret.length cs, .int .i64 f.params, .slice Av f.arrays.length cv] 26 (0, 0))) := (box_on (box_new w _) ((Below.refl _ _).alloc (Nat.le_refl _) _))
  have HBT : Hid ((((w.alloc (.cells #[.slice Ac f.code.length cc, .slice As f.secret.length cs, .int .i64 f.params, .slice Av f.arrays.length cv] 26)).alloc (.cells #[.int .i64 x0, .int .i64 x1, .int .i64 x2, .int .i64 x3, .int .i64 x4, .int .i64 x5, .int .i64 x6, .int .i64 x7, .int .i64 x8, .int .i64 x9, .int .i64 x10, .int .i64 x11, .int .i64 x12, .int .i64 x13, .int .i64 x14, .int .i64 x15, .int .i64 x16, .int .i64 x17] 29))).heap[w.heap.size + 1]? = some (.cells #[.int .i64 x0, .int .i64 x1, .int .i64 x2, .int .i64 x3, .int .i64 x4, .int .i64 x5, .int .i64 x6, .int .i64 x7, .int .i64 x8, .int .i64 x9, .int .i64 x10, .int .i64 x11, .int .i64 x12, .int .i64 x13, .int .i64 x14, .int .i64 x15, .int .i64 x16, .int .i64 x17] 29 (0, 0))) := by
    have h := box_new (w.alloc (.cells #[.slice Ac f.code.length cc, .slice As f.secret.length cs, .int .i64 f.params, .slice Av f.arrays.length cv] 26)) (.cells #[.int .i64 x0, .int .i64 x1, .int .i64 x2, .int .i64 x3, .int .i64 x4, .int .i64 x5, .int .i64 x6, .int .i64 x7, .int .i64 x8, .int .i64 x9, .int .i64 x10, .int .i64 x11, .int .i64 x12, .int .i64 x13, .int .i64 x14, .int .i64 x15, .int .i64 x16, .int .i64 x17] 29)
    rw [World.size_alloc] at h
    exact h
  have HF := RFlat.on HF0 bA
  generalize ((w.alloc (.cells #[.slice Ac f.code.length cc, .slice As f.secret.length cs, .int .i64 f.params, .slice Av f.arrays.length cv] 26)).alloc (.cells #[.int .i64 x0, .int .i64 x1, .int .i64 x2, .int .i64 x3, .int .i64 x4, .int .i64 x5, .int .i64 x6, .int .i64 x7, .int .i64 x8, .int .i64 x9, .int .i64 x10, .int .i64 x11, .int .i64 x12, .int .i64 x13, .int .i64 x14, .int .i64 x15, .int .i64 x16, .int .i64 x17] 29)) = wA at *
  go_upto_region 3 with (go_at_call 26; refine (alive_fold _).mono ?_; rintro e w1 ⟨rfl, hb1⟩)
  have s1 := bA.size
  have b1 : Below w.heap.size w w1 := bA.trans (hb1.mono s1)
  replace HBF1 := box_on HBF1 hb1
  replace HBT := box_on HBT hb1
  replace HF := RFlat.on HF hb1
  clear bA hb1 s1
  go_upto_region 4 with (first | (refine wpList_load_box rfl 26 _ rfl rfl (box_load Try.underlying26 (by kernel_rfl) rfl (by kernel_rfl) (box_on HBF1 (by (repeat' first | with_reducible (first | exact Below.refl _ _ | assumption | refine Below.alloc ?_ ?_ _ | refine below_drewN ?_ _ | refine Below.drew ?_ | refine Below.setCell ?_ ?_ _ | refine Below.trans ?_ (Below.mono (by with_reducible assumption) ?_)) | go_size)))) ?_) | (go_at_call 17; refine (CC.out _ b1).mono ?_; rintro e w2 ⟨rfl, hb2⟩))
  have s1 := b1.size
  have b2 : Below w.heap.size w w2 := b1.trans (hb2.mono s1)
  replace HBF1 := box_on HBF1 hb2
  replace HBT := box_on HBT hb2
  replace HF := RFlat.on HF hb2
  clear b1 hb2 s1
  by_cases h0 : er = 0
  case neg =>
    have g0 : (er != 0) = true := bne_iff_ne.2 h0
    clear h0
    go_wp2_with fail
    go_ret
    exact ⟨rfl, b2⟩
  case pos =>
  subst h0
  have HR := Lib.hid (HRT.out rfl)
  have HXR1 := Lib.hid (HXR.out rfl)
  have CF1 := Lib.hid (CF.out rfl)
  clear HRT HXR CF
  by_cases hw0 : wt = 0
  case neg =>
    have g0 : (wt != 0) = true := bne_iff_ne.2 hw0
    clear hw0
    go_wp2_with (first | (refine wpList_load_box rfl 29 _ rfl rfl (box_load Try.underlying29 (by kernel_rfl) rfl (by kernel_rfl) (box_on HBT (by (repeat' first | with_reducible (first | exact Below.refl _ _ | assumption | refine Below.alloc ?_ ?_ _ | refine below_drewN ?_ _ | refine Below.drew ?_ | refine Below.setCell ?_ ?_ _ | refine Below.trans ?_ (Below.mono (by with_reducible assumption) ?_)) | go_size)))) ?_) | (refine wpList_load_boxg (by rfl) 29 _ rfl rfl (box_load Try.underlying29 (by kernel_rfl) rfl (by kernel_rfl) (box_on HBT (by (repeat' first | with_reducible (first | exact Below.refl _ _ | assumption | refine Below.alloc ?_ ?_ _ | refine below_drewN ?_ _ | refine Below.drew ?_ | refine Below.setCell ?_ ?_ _ | refine Below.trans ?_ (Below.mono (by with_reducible assumption) ?_)) | go_size)))) ?_) | (go_at_call 18; refine (CW.out _).mono ?_; rintro e w3 ⟨rfl, hb3⟩))
    go_ret
    exact ⟨rfl, by have s2 := b2.size; (repeat' first | with_reducible (first | exact Below.refl _ _ | assumption | refine Below.alloc ?_ ?_ _ | refine below_drewN ?_ _ | refine Below.drew ?_ | refine Below.setCell ?_ ?_ _ | refine Below.trans ?_ (Below.mono (by with_reducible assumption) ?_)) | go_size)⟩
  case pos =>
  subst hw0
  go_upto_region 6 with (first | (refine wpList_load_box rfl 29 _ rfl rfl (box_load Try.underlying29 (by kernel_rfl) rfl (by kernel_rfl) (box_on HBT (by (repeat' first | with_reducible (first | exact Below.refl _ _ | assumption | refine Below.alloc ?_ ?_ _ | refine below_drewN ?_ _ | refine Below.drew ?_ | refine Below.setCell ?_ ?_ _ | refine Below.trans ?_ (Below.mono (by with_reducible assumption) ?_)) | go_size)))) ?_) | (refine wpList_load_boxg (by rfl) 29 _ rfl rfl (box_load Try.underlying29 (by kernel_rfl) rfl (by kernel_rfl) (box_on HBT (by (repeat' first | with_reducible (first | exact Below.refl _ _ | assumption | refine Below.alloc ?_ ?_ _ | refine below_drewN ?_ _ | refine Below.drew ?_ | refine Below.setCell ?_ ?_ _ | refine Below.trans ?_ (Below.mono (by with_reducible assumption) ?_)) | go_size)))) ?_) | (go_at_call 18; refine (CW.out _).mono ?_; rintro e w3 ⟨rfl, hb3⟩))
  have s2 := b2.size
  have b3 : Below w.heap.size w w3 := b2.trans (hb3.mono s2)
  replace HBF1 := box_on HBF1 hb3
  replace HBT := box_on HBT hb3
  replace HF := RFlat.on HF hb3
  clear b2 hb3 s2
  have CSH : Hid (∀ (u : World) (i : Ev.Instr) (j : Nat), Below w3.heap.size w3 u → f.code[j]? = some i → Calls Try.prog 21 #[.agg #[.slice Ac f.code.length cc, .slice As f.secret.length cs, .int .i64 f.params, .slice Av f.arrays.length cv], .agg #[.int .i64 x0, .int .i64 x1, .int .i64 x2, .int .i64 x3, .int .i64 x4, .int .i64 x5, .int .i64 x6, .int .i64 x7, .int .i64 x8, .int .i64 x9, .int .i64 x10, .int .i64 x11, .int .i64 x12, .int .i64 x13, .int .i64 x14, .int .i64 x15, .int .i64 x16, .int .i64 x17], .agg #[.int .i64 i.op, .int .i64 i.d, .int .i64 i.a, .int .i64 i.b, .int .i64 i.c, .int .i64 i.imm]] u fun e w' => e = .returned (.bool (Ev.shows f t i)) ∧ Below u.heap.size u w') := by
    refine Lib.hid fun u i j hb hi => ?_
    have h := shows_any f t i j _ u (RFlat.on HF hb).out HTL.out HWT.out (HR.out.sound hi)
    rw [HTV.out] at h
    exact h
  have HKD := Lib.hid (code_of HF.out)
  have f0 : w3.cell? ⟨w.heap.size, 0, none⟩ = some (.slice Ac f.code.length cc) := box_cell HBF1 0 rfl
  have s3 := b3.size
  clear CC CW
  go_wp2_with fail
  go_loopw [31] (fun kk wr => ∃ k : Nat, k ≤ f.code.length ∧ kk = .int .i64 (k : Int) ∧ Hid (∀ j i, j < k → f.code[j]? = some i → Ev.shows f t i = false) ∧ Below w3.heap.size w3 wr) (fun kk _ => f.code.length - (intOf kk).toNat)
  case atStart => exact ⟨0, by omega, rfl, Lib.hid (fun j i h => by omega), by (repeat' first | with_reducible (first | exact Below.refl _ _ | assumption | refine Below.alloc ?_ ?_ _ | refine below_drewN ?_ _ | refine Below.drew ?_ | refine Below.setCell ?_ ?_ _ | refine Below.trans ?_ (Below.mono (by with_reducible assumption) ?_)) | go_size)⟩
  case round =>
    obtain ⟨k, hk, rfl, HS, hB⟩ := hrel
    have sB := hB.size
    by_cases hlt : k < f.code.length
    · as_aux_lemma =>
      obtain ⟨i, hi⟩ : ∃ i, f.code[k]? = some i := ⟨f.code[k], List.getElem?_eq_getElem hlt⟩
      obtain ⟨b1, o1, r1, hv, hb1, _, _, _, p0, p1, p2, p3, p4, p5⟩ := RCode.at_ (SL.at_ HKD.out hB (Nat.le_refl _)) hi
      injection hv with hA _ hcr
      subst hA hcr
      have HI := Lib.hid hi
      replace f0 : wr.cell? ⟨w.heap.size, 0, none⟩ = some (.slice (some ⟨b1, o1, none⟩) f.code.length cc) := (hB.cell (p := ⟨w.heap.size, 0, none⟩) (box_lt HBF1)).trans f0
      clear hi
      have CS := Lib.hid (fun (u : World) (hb : Below w3.heap.size w3 u) => CSH.out u i k hb HI.out)
      cases hs : Ev.shows f t i with
      | true =>
        rw [hs] at CS
        clear hs
        go_wp2_with (first | (refine wpList_load_box rfl 26 _ rfl rfl (box_load Try.underlying26 (by kernel_rfl) rfl (by kernel_rfl) (box_on HBF1 (by (repeat' first | with_reducible (first | exact Below.refl _ _ | assumption | refine Below.alloc ?_ ?_ _ | refine below_drewN ?_ _ | refine Below.drew ?_ | refine Below.setCell ?_ ?_ _ | refine Below.trans ?_ (Below.mono (by with_reducible assumption) ?_)) | go_size)))) ?_) | (refine wpList_load_box rfl 29 _ rfl rfl (box_load Try.underlying29 (by kernel_rfl) rfl (by kernel_rfl) (box_on HBT (by (repeat' first | with_reducible (first | exact Below.refl _ _ | assumption | refine Below.alloc ?_ ?_ _ | refine below_drewN ?_ _ | refine Below.drew ?_ | refine Below.setCell ?_ ?_ _ | refine Below.trans ?_ (Below.mono (by with_reducible assumption) ?_)) | go_size)))) ?_) | (refine wpList_load_boxg (by rfl) 29 _ rfl rfl (box_load Try.underlying29 (by kernel_rfl) rfl (by kernel_rfl) (box_on HBT (by (repeat' first | with_reducible (first | exact Below.refl _ _ | assumption | refine Below.alloc ?_ ?_ _ | refine below_drewN ?_ _ | refine Below.drew ?_ | refine Below.setCell ?_ ?_ _ | refine Below.trans ?_ (Below.mono (by with_reducible assumption) ?_)) | go_size)))) ?_) | (go_at_call 21; refine (CS.out _ (by (repeat' first | with_reducible (first | exact Below.refl _ _ | assumption | refine Below.alloc ?_ ?_ _ | refine below_drewN ?_ _ | refine Below.drew ?_ | refine Below.setCell ?_ ?_ _ | refine Below.trans ?_ (Below.mono (by with_reducible assumption) ?_)) | go_size))).mono ?_; rintro e w7 ⟨rfl, hb7⟩; have s7 := hb7.size; simp only [World.size_alloc] at s7))
        go_ret
        exact ⟨rfl, by (repeat' first | with_reducible (first | exact Below.refl _ _ | assumption | refine Below.alloc ?_ ?_ _ | refine below_drewN ?_ _ | refine Below.drew ?_ | refine Below.setCell ?_ ?_ _ | refine Below.trans ?_ (Below.mono (by with_reducible assumption) ?_)) | go_size)⟩
      | false =>
        rw [hs] at CS
        have HSI := Lib.hid hs
        clear hs
        go_wp2_with (first | (refine wpList_load_box rfl 26 _ rfl rfl (box_load Try.underlying26 (by kernel_rfl) rfl (by kernel_rfl) (box_on HBF1 (by (repeat' first | with_reducible (first | exact Below.refl _ _ | assumption | refine Below.alloc ?_ ?_ _ | refine below_drewN ?_ _ | refine Below.drew ?_ | refine Below.setCell ?_ ?_ _ | refine Below.trans ?_ (Below.mono (by with_reducible assumption) ?_)) | go_size)))) ?_) | (refine wpList_load_box rfl 29 _ rfl rfl (box_load Try.underlying29 (by kernel_rfl) rfl (by kernel_rfl) (box_on HBT (by (repeat' first | with_reducible (first | exact Below.refl _ _ | assumption | refine Below.alloc ?_ ?_ _ | refine below_drewN ?_ _ | refine Below.drew ?_ | refine Below.setCell ?_ ?_ _ | refine Below.trans ?_ (Below.mono (by with_reducible assumption) ?_)) | go_size)))) ?_) | (refine wpList_load_boxg (by rfl) 29 _ rfl rfl (box_load Try.underlying29 (by kernel_rfl) rfl (by kernel_rfl) (box_on HBT (by (repeat' first | with_reducible (first | exact Below.refl _ _ | assumption | refine Below.alloc ?_ ?_ _ | refine below_drewN ?_ _ | refine Below.drew ?_ | refine Below.setCell ?_ ?_ _ | refine Below.trans ?_ (Below.mono (by with_reducible assumption) ?_)) | go_size)))) ?_) | (go_at_call 21; refine (CS.out _ (by (repeat' first | with_reducible (first | exact Below.refl _ _ | assumption | refine Below.alloc ?_ ?_ _ | refine below_drewN ?_ _ | refine Below.drew ?_ | refine Below.setCell ?_ ?_ _ | refine Below.trans ?_ (Below.mono (by with_reducible assumption) ?_)) | go_size))).mono ?_; rintro e w7 ⟨rfl, hb7⟩; have s7 := hb7.size; simp only [World.size_alloc] at s7))
        go_roundw
        case rel =>
          refine ⟨k + 1, by omega, by go_num, Lib.hid (fun j i' hj hi' => ?_), by (repeat' first | with_reducible (first | exact Below.refl _ _ | assumption | refine Below.alloc ?_ ?_ _ | refine below_drewN ?_ _ | refine Below.drew ?_ | refine Below.setCell ?_ ?_ _ | refine Below.trans ?_ (Below.mono (by with_reducible assumption) ?_)) | go_size)⟩
          by_cases e : j = k
          · subst e
            rw [HI.out] at hi'
            injection hi' with hi'
            rw [← hi']
            exact HSI.out
          · exact HS.out j i' (by omega) hi'
        case measure => simp [intOf]; omega
    · obtain rfl : k = f.code.length := by omega
      have b4 : Below w.heap.size w wr := b3.trans (hB.mono s3)
      have HAS : Hid (∀ i ∈ x.code, Ev.shows x t i = false) := Lib.hid (by
        rw [← HX.out]
        refine Ev.fold_shows HWT.out fun i hi => ?_
        obtain ⟨j, hj, rfl⟩ := List.getElem_of_mem hi
        exact HS.out j _ hj (List.getElem?_eq_getElem hj))
      replace HBF1 := box_on HBF1 hB
      replace HBT := box_on HBT hB
      clear HS hB f0 CSH HKD b3 sB HF HF0 HX
      go_upto_region 13 with (first | (refine wpList_load_box rfl 26 _ rfl rfl (box_load Try.underlying26 (by kernel_rfl) rfl (by kernel_rfl) (box_on HBF1 (by (repeat' first | with_reducible (first | exact Below.refl _ _ | assumption | refine Below.alloc ?_ ?_ _ | refine below_drewN ?_ _ | refine Below.drew ?_ | refine Below.setCell ?_ ?_ _ | refine Below.trans ?_ (Below.mono (by with_reducible assumption) ?_)) | go_size)))) ?_) | (go_at_call 29; refine (CF1.out _ b4).mono ?_; rintro e w4 ⟨Ap, cp, Aq, cq, Ar, cr, rfl, HX1, hb4⟩))
      have HBX := box_new w4 (.cells #[.slice Ap x.code.length cp, .slice Aq x.secret.length cq, .int .i64 x.params, .slice Ar x.arrays.length cr] 26)
      have bX : Below w4.heap.size w4 (w4.alloc (.cells #[.slice Ap x.code.length cp, .slice Aq x.secret.length cq, .int .i64 x.params, .slice Ar x.arrays.length cr] 26)) := (Below.refl _ _).alloc (Nat.le_refl _) _
      replace HX1 := RFlat.on HX1 bX
      replace HBT := box_on (box_on HBT hb4) bX
      have s4 := b4.size
      have s5 := hb4.size
      have b5 : Below w.heap.size w (w4.alloc (.cells #[.slice Ap x.code.length cp, .slice Aq x.secret.length cq, .int .i64 x.params, .slice Ar x.arrays.length cr] 26)) := (b4.trans (hb4.mono s4)).alloc (by omega) _
      generalize w4.alloc (.cells #[.slice Ap x.code.length cp, .slice Aq x.secret.length cq, .int .i64 x.params, .slice Ar x.arrays.length cr] 26) = wC at *
      generalize w4.heap.size = bx at *
      clear b4 hb4 bX HBF1 s4 s5 CF1
      have CX := Lib.hid (fun (u : World) (hb : Below wC.heap.size wC u) => check_right x _ u (RFlat.on HX1 hb).out HXR1.out)
      go_upto_region 14 with (first | (refine wpList_load_box rfl 26 _ rfl rfl (box_load Try.underlying26 (by kernel_rfl) rfl (by kernel_rfl) (box_on HBX (by (repeat' first | with_reducible (first | exact Below.refl _ _ | assumption | refine Below.alloc ?_ ?_ _ | refine below_drewN ?_ _ | refine Below.drew ?_ | refine Below.setCell ?_ ?_ _ | refine Below.trans ?_ (Below.mono (by with_reducible assumption) ?_)) | go_size)))) ?_) | (go_at_call 17; refine (CX.out _ (Below.refl _ _)).mono ?_; rintro e w5 ⟨rfl, hb5⟩))
      replace HX1 := RFlat.on HX1 hb5
      replace HBX := box_on HBX hb5
      replace HBT := box_on HBT hb5
      have s4 := b5.size
      have b6 : Below w.heap.size w w5 := b5.trans (hb5.mono s4)
      clear hb5 b5 CX s4
      have CSX : Hid (∀ (u : World) (i : Ev.Instr) (j : Nat), Below w5.heap.size w5 u → x.code[j]? = some i → Calls Try.prog 21 #[.agg #[.slice Ap x.code.length cp, .slice Aq x.secret.length cq, .int .i64 x.params, .slice Ar x.arrays.length cr], .agg #[.int .i64 x0, .int .i64 x1, .int .i64 x2, .int .i64 x3, .int .i64 x4, .int .i64 x5, .int .i64 x6, .int .i64 x7, .int .i64 x8, .int .i64 x9, .int .i64 x10, .int .i64 x11, .int .i64 x12, .int .i64 x13, .int .i64 x14, .int .i64 x15, .int .i64 x16, .int .i64 x17], .agg #[.int .i64 i.op, .int .i64 i.d, .int .i64 i.a, .int .i64 i.b, .int .i64 i.c, .int .i64 i.imm]] u fun e w' => e = .returned (.bool false) ∧ Below u.heap.size u w') := by
        refine Lib.hid fun u i j hb hi => ?_
        have h := shows_any x t i j _ u (RFlat.on HX1 hb).out HTL.out HWT.out (HXR1.out.sound hi)
        rw [HTV.out, HAS.out i (List.mem_of_getElem? hi)] at h
        exact h
      have HXC := Lib.hid (code_of HX1.out)
      obtain ⟨_, _, e, hxx1, hxx⟩ := SL.form HXC.out
      injection e with e1 e2 e3
      subst e1 e3
      unfold maxLen at hxx
      have q0 : w5.cell? ⟨bx, 0, none⟩ = some (.slice Ap x.code.length cp) := box_cell HBX 0 rfl
      have s6 := b6.size
      clear HX1 HXR1 HAS
      go_wp2_with fail
      go_loopw [52] (fun jj wz => ∃ j : Nat, j ≤ x.code.length ∧ jj = .int .i64 (j : Int) ∧ Below w5.heap.size w5 wz) (fun jj _ => x.code.length - (intOf jj).toNat)
      case atStart => exact ⟨0, by omega, rfl, by (repeat' first | with_reducible (first | exact Below.refl _ _ | assumption | refine Below.alloc ?_ ?_ _ | refine below_drewN ?_ _ | refine Below.drew ?_ | refine Below.setCell ?_ ?_ _ | refine Below.trans ?_ (Below.mono (by with_reducible assumption) ?_)) | go_size)⟩
      case round =>
        obtain ⟨j, hj, rfl, hB⟩ := hrel
        have sB := hB.size
        by_cases hjl : j < x.code.length
        · obtain ⟨i, hi⟩ : ∃ i, x.code[j]? = some i := ⟨x.code[j], List.getElem?_eq_getElem hjl⟩
          obtain ⟨b1, o1, r1, hv, hb1, _, _, _, p0, p1, p2, p3, p4, p5⟩ := RCode.at_ (SL.at_ HXC.out hB (Nat.le_refl _)) hi
          injection hv with hA _ hcr
          subst hA hcr
          have HI := Lib.hid hi
          clear hi
          replace q0 : wr.cell? ⟨bx, 0, none⟩ = some (.slice (some ⟨b1, o1, none⟩) x.code.length cp) := (hB.cell (p := ⟨bx, 0, none⟩) (box_lt HBX)).trans q0
          go_wp2_with (first | (refine wpList_load_box rfl 26 _ rfl rfl (box_load Try.underlying26 (by kernel_rfl) rfl (by kernel_rfl) (box_on HBX (by (repeat' first | with_reducible (first | exact Below.refl _ _ | assumption | refine Below.alloc ?_ ?_ _ | refine below_drewN ?_ _ | refine Below.drew ?_ | refine Below.setCell ?_ ?_ _ | refine Below.trans ?_ (Below.mono (by with_reducible assumption) ?_)) | go_size)))) ?_) | (refine wpList_load_box rfl 29 _ rfl rfl (box_load Try.underlying29 (by kernel_rfl) rfl (by kernel_rfl) (box_on HBT (by (repeat' first | with_reducible (first | exact Below.refl _ _ | assumption | refine Below.alloc ?_ ?_ _ | refine below_drewN ?_ _ | refine Below.drew ?_ | refine Below.setCell ?_ ?_ _ | refine Below.trans ?_ (Below.mono (by with_reducible assumption) ?_)) | go_size)))) ?_) | (refine wpList_load_boxg (by rfl) 29 _ rfl rfl (box_load Try.underlying29 (by kernel_rfl) rfl (by kernel_rfl) (box_on HBT (by (repeat' first | with_reducible (first | exact Below.refl _ _ | assumption | refine Below.alloc ?_ ?_ _ | refine below_drewN ?_ _ | refine Below.drew ?_ | refine Below.setCell ?_ ?_ _ | refine Below.trans ?_ (Below.mono (by with_reducible assumption) ?_)) | go_size)))) ?_) | (go_at_call 21; refine (CSX.out _ _ _ (by (repeat' first | with_reducible (first | exact Below.refl _ _ | assumption | refine Below.alloc ?_ ?_ _ | refine below_drewN ?_ _ | refine Below.drew ?_ | refine Below.setCell ?_ ?_ _ | refine Below.trans ?_ (Below.mono (by with_reducible assumption) ?_)) | go_size)) HI.out).mono ?_; rintro e w7 ⟨rfl, hb7⟩; have s7 := hb7.size; simp only [World.size_alloc] at s7))
          go_roundw
          case rel => exact ⟨j + 1, by omega, by go_num, by (repeat' first | with_reducible (first | exact Below.refl _ _ | assumption | refine Below.alloc ?_ ?_ _ | refine below_drewN ?_ _ | refine Below.drew ?_ | refine Below.setCell ?_ ?_ _ | refine Below.trans ?_ (Below.mono (by with_reducible assumption) ?_)) | go_size)⟩
          case measure => simp [intOf]; omega
        · go_wp2_with fail
          go_ret
          exact ⟨rfl, by (repeat' first | with_reducible (first | exact Below.refl _ _ | assumption | refine Below.alloc ?_ ?_ _ | refine below_drewN ?_ _ | refine Below.drew ?_ | refine Below.setCell ?_ ?_ _ | refine Below.trans ?_ (Below.mono (by with_reducible assumption) ?_)) | go_size)⟩
end Go.Proofs.Ytljcgcllhcdleaa
