import Derived.Test.YtljcgcllhcdleaaLg31
import Derived.Test.YtljcgcllhcdleaaLg32
import Derived.Test.YtljcgcllhcdleaaLg28
/- LegalShows: the walk. The bounds come from the bulk of what is read. -/
namespace Go.Proofs.Ytljcgcllhcdleaa
open Go.RowKit
set_option linter.unusedSimpArgs false
set_option linter.unusedVariables false
theorem list18l {t : List Int} (h : t.length = 18) : ∃ x0 x1 x2 x3 x4 x5 x6 x7 x8 x9 x10 x11 x12 x13 x14 x15 x16 x17, t = [x0, x1, x2, x3, x4, x5, x6, x7, x8, x9, x10, x11, x12, x13, x14, x15, x16, x17] := by
  match t, h with
  | [x0, x1, x2, x3, x4, x5, x6, x7, x8, x9, x10, x11, x12, x13, x14, x15, x16, x17], _ => exact ⟨_, _, _, _, _, _, _, _, _, _, _, _, _, _, _, _, _, _, rfl⟩
set_option maxRecDepth 16000 in
set_option maxHeartbeats 12800000 in
theorem legalShows_walk (f : Ev.Flat) (t : List Int) (vf : Value) (w : World) (hf : RFlat w w.heap.size vf f) (hl : t.length = 18) (ht : ∀ x ∈ t, -9223372036854775808 ≤ x ∧ x ≤ 9223372036854775807)
    (hbf : f.code.length + f.secret.length + f.arrays.length ≤ 1048576) :
    Calls Try.prog 3 #[vf, tableV t] w fun e w' => e = .returned (.bool true) ∧ Below w.heap.size w w' := by
  have HTL := Lib.hid hl
  have HTI := Lib.hid ht
  clear ht
  have HF0 := Lib.hid hf
  obtain ⟨Ac, cc, As, cs, Av, cv, rfl⟩ := hf.slices
  obtain ⟨_, _, _, e, hc, hs, ha⟩ := HF0.out
  injection e with e
  simp only [Array.mk.injEq, List.cons.injEq] at e
  obtain ⟨rfl, rfl, _, rfl, _⟩ := e
  obtain ⟨_, _, e, hcc1, hcc⟩ := SL.form hc
  injection e with e1 e2 e3
  subst e1 e3
  obtain ⟨_, _, e, hss1, hss⟩ := SL.form hs
  injection e with e1 e2 e3
  subst e1 e3
  unfold maxLen at hcc hss
  have HBF := Lib.hid hbf
  clear hf hc hs ha hbf
  obtain ⟨x0, x1, x2, x3, x4, x5, x6, x7, x8, x9, x10, x11, x12, x13, x14, x15, x16, x17, hT18⟩ := list18l hl
  have HTV := Lib.hid (show tableV t = .agg #[.int .i64 x0, .int .i64 x1, .int .i64 x2, .int .i64 x3, .int .i64 x4, .int .i64 x5, .int .i64 x6, .int .i64 x7, .int .i64 x8, .int .i64 x9, .int .i64 x10, .int .i64 x11, .int .i64 x12, .int .i64 x13, .int .i64 x14, .int .i64 x15, .int .i64 x16, .int .i64 x17] by rw [hT18]; rfl)
  clear hl hT18
  obtain ⟨er, ek, hck⟩ : ∃ er ek, Ev.check f = (er, ek) := ⟨_, _, rfl⟩
  have HRT := Lib.hid (show er = 0 → Ev.Right f from fun h0 => Ev.right_of_check (by rw [hck]; exact h0))
  have CC : Hid (∀ u : World, Below w.heap.size w u → Calls Try.prog 17 #[.agg #[.slice Ac f.code.length cc, .slice As f.secret.length cs, .int .i64 f.params, .slice Av f.arrays.length cv]] u fun e w' => e = .returned (.tuple #[.int .i64 er, .int .i64 ek]) ∧ Below u.heap.size u w') := by
    intro u hb
    have h := refCheck_any f _ u (RFlat.on HF0 hb).out
    rw [hck] at h
    exact h
  clear hck
  obtain ⟨wt, hwt⟩ : ∃ wt, Ev.wrong t = wt := ⟨_, rfl⟩
  have HWT := Lib.hid hwt
  have CW : Hid (∀ u : World, Calls Try.prog 18 #[.agg #[.int .i64 x0, .int .i64 x1, .int .i64 x2, .int .i64 x3, .int .i64 x4, .int .i64 x5, .int .i64 x6, .int .i64 x7, .int .i64 x8, .int .i64 x9, .int .i64 x10, .int .i64 x11, .int .i64 x12, .int .i64 x13, .int .i64 x14, .int .i64 x15, .int .i64 x16, .int .i64 x17]] u fun e w' => e = .returned (.int .i64 wt) ∧ Below u.heap.size u w') := by
    intro u
    have h := refWrong_any t u HTL.out HTI.out
    rw [HTV.out, hwt] at h
    exact h
  clear hwt
  obtain ⟨el, x, hlg⟩ : ∃ el x, Ev.legal f t = (el, x) := ⟨_, _, rfl⟩
  have HLG := Lib.hid hlg
  have CL : Hid (er = 0 → wt = 0 → ∀ u : World, Below w.heap.size w u → Calls Try.prog 19 #[.agg #[.slice Ac f.code.length cc, .slice As f.secret.length cs, .int .i64 f.params, .slice Av f.arrays.length cv], .agg #[.int .i64 x0, .int .i64 x1, .int .i64 x2, .int .i64 x3, .int .i64 x4, .int .i64 x5, .int .i64 x6, .int .i64 x7, .int .i64 x8, .int .i64 x9, .int .i64 x10, .int .i64 x11, .int .i64 x12, .int .i64 x13, .int .i64 x14, .int .i64 x15, .int .i64 x16, .int .i64 x17]] u fun e w' => ∃ A1 c1 A2 c2 A3 c3, e = .returned (.tuple #[.agg #[.slice A1 x.code.length c1, .slice A2 x.secret.length c2, .int .i64 x.params, .slice A3 x.arrays.length c3], .int .i64 el]) ∧ Hid (RFlat w' w'.heap.size (.agg #[.slice A1 x.code.length c1, .slice A2 x.secret.length c2, .int .i64 x.params, .slice A3 x.arrays.length c3]) x) ∧ Below u.heap.size u w') := by
    intro he hw u hb
    have h := legal_told f t _ u (RFlat.on HF0 hb).out HTL.out (HWT.out.trans hw) (HRT.out he) (by have := HBF.out; omega) (by have := HBF.out; omega) el x HLG.out
    rw [HTV.out] at h
    exact h.mono fun _ _ ⟨A1, c1, A2, c2, A3, c3, he, hR, _, hb⟩ => ⟨A1, c1, A2, c2, A3, c3, he, hR, hb⟩
  clear hlg
  rw [HTV.out]
  go_enter Try.func3, Try.ntmps3
  go_upto_region 1 with fail
  have bA : Below w.heap.size w ((w.alloc (.cells #[.slice Ac f.code.length cc, .slice As f.secret.length cs, .int .i64 f.params, .slice Av f.arrays.length cv] 26)).alloc (.cells #[.int .i64 x0, .int .i64 x1, .int .i64 x2, .int .i64 x3, .int .i64 x4, .int .i64 x5, .int .i64 x6, .int .i64 x7, .int .i64 x8, .int .i64 x9, .int .i64 x10, .int .i64 x11, .int .i64 x12, .int .i64 x13, .int .i64 x14, .int .i64 x15, .int .i64 x16, .int .i64 x17] 29)) := by (repeat' first | with_reducible (first | exact Below.refl _ _ | assumption | refine Below.alloc ?_ ?_ _ | refine below_drewN ?_ _ | refine Below.drew ?_ | refine Below.setCell ?_ ?_ _ | refine Below.trans ?_ (Below.mono (by with_reducible assumption) ?_)) | go_size)
  have HBF1 : Hid ((((w.alloc (.cells #[.slice Ac f.code.length cc, .slice As f.secret.length cs, .int .i64 f.params, .slice Av f.arrays.length cv] 26)).alloc (.cells #[.int .i64 x0, .int .i64 x1, .int .i64 x2, .int .i64 x3, .int .i64 x4, .int .i64 x5, .int .i64 x6, .int .i64 x7, .int .i64 x8, .int .i64 x9, .int .i64 x10, .int .i64 x11, .int .i64 x12, .int .i64 x13, .int .i64 x14, .int .i64 x15, .int .i64 x16, .int .i64 x17] 29))).heap[w.heap.size]? = some (.cells #[.slice Ac f.code.length cc, .slice As f.secret.length cs, .int .i64 f.params, .slice Av f.arrays.length cv] 26 (0, 0))) := (box_on (box_new w _) ((Below.refl _ _).alloc (Nat.le_refl _) _))
  have HBT : Hid ((((w.alloc (.cells #[.slice Ac f.code.length cc, .slice As f.secret.length cs, .int .i64 f.params, .slice Av f.arrays.length cv] 26)).alloc (.cells #[.int .i64 x0, .int .i64 x1, .int .i64 x2, .int .i64 x3, .int .i64 x4, .int .i64 x5, .int .i64 x6, .int .i64 x7, .int .i64 x8, .int .i64 x9, .int .i64 x10, .int .i64 x11, .int .i64 x12, .int .i64 x13, .int .i64 x14, .int .i64 x15, .int .i64 x16, .int .i64 x17] 29))).heap[w.heap.size + 1]? = some (.cells #[.int .i64 x0, .int .i64 x1, .int .i64 x2, .int .i64 x3, .int .i64 x4, .int .i64 x5, .int .i64 x6, .int .i64 x7, .int .i64 x8, .int .i64 x9, .int .i64 x10, .int .i64 x11, .int .i64 x12, .int .i64 x13, .int .i64 x14, .int .i64 x15, .int .i64 x16, .int .i64 x17] 29 (0, 0))) := by
    have h := box_new (w.alloc (.cells #[.slice Ac f.code.length cc, .slice As f.secret.length cs, .int .i64 f.params, .slice Av f.arrays.length cv] 26)) (.cells #[.int .i64 x0, .int .i64 x1, .int .i64 x2, .int .i64 x3, .int .i64 x4, .int .i64 x5, .int .i64 x6, .int .i64 x7, .int .i64 x8, .int .i64 x9, .int .i64 x10, .int .i64 x11, .int .i64 x12, .int .i64 x13, .int .i64 x14, .int .i64 x15, .int .i64 x16, .int .i64 x17] 29)
    rw [World.size_alloc] at h
    exact h
  have HF := RFlat.on HF0 bA
  generalize ((w.alloc (.cells #[.slice Ac f.code.length cc, .slice As f.secret.length cs, .int .i64 f.params, .slice Av f.arrays.length cv] 26)).alloc (.cells #[.int .i64 x0, .int .i64 x1, .int .i64 x2, .int .i64 x3, .int .i64 x4, .int .i64 x5, .int .i64 x6, .int .i64 x7, .int .i64 x8, .int .i64 x9, .int .i64 x10, .int .i64 x11, .int .i64 x12, .int .i64 x13, .int .i64 x14, .int .i64 x15, .int .i64 x16, .int .i64 x17] 29)) = wA at *
  go_upto_region 3 with (go_at_call 16; refine (alive_leg _).mono ?_; rintro e w1 ⟨rfl, hb1⟩)
  have s1 := bA.size
  have b1 : Below w.heap.size w w1 := bA.trans (hb1.mono s1)
  replace HBF1 := box_on HBF1 hb1
  replace HBT := box_on HBT hb1
  replace HF := RFlat.on HF hb1
  clear bA hb1 s1
  go_upto_region 4 with (first | (refine wpList_load_box rfl 26 _ rfl rfl (box_load Try.underlying26 (by kernel_rfl) rfl (by kernel_rfl) (box_on HBF1 (by (repeat' first | with_reducible (first | exact Below.refl _ _ | assumption | refine Below.alloc ?_ ?_ _ | refine below_drewN ?_ _ | refine Below.drew ?_ | refine Below.setCell ?_ ?_ _ | refine Below.trans ?_ (Below.mono (by with_reducible assumption) ?_)) | go_size)))) ?_) | (go_at_call 17; refine (CC.out _ b1).mono ?_; rintro e w2 ⟨rfl, hb2⟩))
  have s1 := b1.size
  have b2 : Below w.heap.size w w2 := b1.trans (hb2.mono s1)
  replace HBF1 := box_on HBF1 hb2
  replace HBT := box_on HBT hb2
  replace HF := RFlat.on HF hb2
  clear b1 hb2 s1
  by_cases h0 : er = 0
  case neg =>
    have g0 : (er != 0) = true := bne_iff_ne.2 h0
    clear h0
    go_wp2_with fail
    go_ret
    exact ⟨rfl, b2⟩
  case pos =>
  subst h0
  have HR := Lib.hid (HRT.out rfl)
  clear HRT
  by_cases hw0 : wt = 0
  case neg =>
    have g0 : (wt != 0) = true := bne_iff_ne.2 hw0
    clear hw0
    go_wp2_with (first | (refine wpList_load_box rfl 29 _ rfl rfl (box_load Try.underlying29 (by kernel_rfl) rfl (by kernel_rfl) (box_on HBT (by (repeat' first | with_reducible (first | exact Below.refl _ _ | assumption | refine Below.alloc ?_ ?_ _ | refine below_drewN ?_ _ | refine Below.drew ?_ | refine Below.setCell ?_ ?_ _ | refine Below.trans ?_ (Below.mono (by with_reducible assumption) ?_)) | go_size)))) ?_) | (refine wpList_load_boxg (by rfl) 29 _ rfl rfl (box_load Try.underlying29 (by kernel_rfl) rfl (by kernel_rfl) (box_on HBT (by (repeat' first | with_reducible (first | exact Below.refl _ _ | assumption | refine Below.alloc ?_ ?_ _ | refine below_drewN ?_ _ | refine Below.drew ?_ | refine Below.setCell ?_ ?_ _ | refine Below.trans ?_ (Below.mono (by with_reducible assumption) ?_)) | go_size)))) ?_) | (go_at_call 18; refine (CW.out _).mono ?_; rintro e w3 ⟨rfl, hb3⟩))
    go_ret
    exact ⟨rfl, by have s2 := b2.size; (repeat' first | with_reducible (first | exact Below.refl _ _ | assumption | refine Below.alloc ?_ ?_ _ | refine below_drewN ?_ _ | refine Below.drew ?_ | refine Below.setCell ?_ ?_ _ | refine Below.trans ?_ (Below.mono (by with_reducible assumption) ?_)) | go_size)⟩
  case pos =>
  subst hw0
  have CL2 := Lib.hid (CL.out rfl rfl)
  clear CL
  go_upto_region 6 with (first | (refine wpList_load_box rfl 29 _ rfl rfl (box_load Try.underlying29 (by kernel_rfl) rfl (by kernel_rfl) (box_on HBT (by (repeat' first | with_reducible (first | exact Below.refl _ _ | assumption | refine Below.alloc ?_ ?_ _ | refine below_drewN ?_ _ | refine Below.drew ?_ | refine Below.setCell ?_ ?_ _ | refine Below.trans ?_ (Below.mono (by with_reducible assumption) ?_)) | go_size)))) ?_) | (refine wpList_load_boxg (by rfl) 29 _ rfl rfl (box_load Try.underlying29 (by kernel_rfl) rfl (by kernel_rfl) (box_on HBT (by (repeat' first | with_reducible (first | exact Below.refl _ _ | assumption | refine Below.alloc ?_ ?_ _ | refine below_drewN ?_ _ | refine Below.drew ?_ | refine Below.setCell ?_ ?_ _ | refine Below.trans ?_ (Below.mono (by with_reducible assumption) ?_)) | go_size)))) ?_) | (go_at_call 18; refine (CW.out _).mono ?_; rintro e w3 ⟨rfl, hb3⟩))
  have s2 := b2.size
  have b3 : Below w.heap.size w w3 := b2.trans (hb3.mono s2)
  replace HBF1 := box_on HBF1 hb3
  replace HBT := box_on HBT hb3
  replace HF := RFlat.on HF hb3
  clear b2 hb3 s2
  go_upto_region 7 with (first | (refine wpList_load_box rfl 26 _ rfl rfl (box_load Try.underlying26 (by kernel_rfl) rfl (by kernel_rfl) (box_on HBF1 (by (repeat' first | with_reducible (first | exact Below.refl _ _ | assumption | refine Below.alloc ?_ ?_ _ | refine below_drewN ?_ _ | refine Below.drew ?_ | refine Below.setCell ?_ ?_ _ | refine Below.trans ?_ (Below.mono (by with_reducible assumption) ?_)) | go_size)))) ?_) | (refine wpList_load_box rfl 29 _ rfl rfl (box_load Try.underlying29 (by kernel_rfl) rfl (by kernel_rfl) (box_on HBT (by (repeat' first | with_reducible (first | exact Below.refl _ _ | assumption | refine Below.alloc ?_ ?_ _ | refine below_drewN ?_ _ | refine Below.drew ?_ | refine Below.setCell ?_ ?_ _ | refine Below.trans ?_ (Below.mono (by with_reducible assumption) ?_)) | go_size)))) ?_) | (refine wpList_load_boxg (by rfl) 29 _ rfl rfl (box_load Try.underlying29 (by kernel_rfl) rfl (by kernel_rfl) (box_on HBT (by (repeat' first | with_reducible (first | exact Below.refl _ _ | assumption | refine Below.alloc ?_ ?_ _ | refine below_drewN ?_ _ | refine Below.drew ?_ | refine Below.setCell ?_ ?_ _ | refine Below.trans ?_ (Below.mono (by with_reducible assumption) ?_)) | go_size)))) ?_) | (go_at_call 19; refine (CL2.out _ b3).mono ?_; rintro e w4 ⟨A1, c1, A2, c2, A3, c3, rfl, HX, hb4⟩))
  have s2 := b3.size
  have s3 := hb4.size
  have bC : Below w4.heap.size w4 (w4.alloc (.cells #[.slice A1 x.code.length c1, .slice A2 x.secret.length c2, .int .i64 x.params, .slice A3 x.arrays.length c3] 26)) := (Below.refl _ _).alloc (Nat.le_refl _) _
  have HBX := box_new w4 (.cells #[.slice A1 x.code.length c1, .slice A2 x.secret.length c2, .int .i64 x.params, .slice A3 x.arrays.length c3] 26)
  replace HX := RFlat.on HX bC
  replace HBF1 := box_on (box_on HBF1 hb4) bC
  replace HBT := box_on (box_on HBT hb4) bC
  replace HF := RFlat.on (RFlat.on HF hb4) bC
  have b4 : Below w.heap.size w (w4.alloc (.cells #[.slice A1 x.code.length c1, .slice A2 x.secret.length c2, .int .i64 x.params, .slice A3 x.arrays.length c3] 26)) := (b3.trans (hb4.mono s2)).alloc (by omega) _
  generalize w4.alloc (.cells #[.slice A1 x.code.length c1, .slice A2 x.secret.length c2, .int .i64 x.params, .slice A3 x.arrays.length c3] 26) = wB at *
  clear b3 hb4 bC s2 CL2
  by_cases he0 : el = 0
  case neg =>
    have hN : x.code.length = 0 ∧ (el = 4 ∨ el = 11) := by
      have h := Ev.legal_err f t
      rw [HLG.out] at h
      rcases h with h | ⟨h1, h2⟩
      · exact absurd h he0
      · exact ⟨by rw [show x = Ev.noFlat from h2]; rfl, h1⟩
    obtain ⟨hn, he⟩ := hN
    have g0 : (el != 0) = true := bne_iff_ne.2 he0
    have gn : ((x.code.length : Int) == 0) = true := by rw [hn]; rfl
    have q0 : wB.cell? ⟨w4.heap.size, 0, none⟩ = some (.slice A1 x.code.length c1) := box_cell HBX 0 rfl
    clear hn he0
    by_cases h4 : el = 4
    · have g4 : (el == 4) = true := beq_iff_eq.2 h4
      clear h4 he
      go_wp2_with fail
      go_ret
      exact ⟨rfl, b4⟩
    · have g4 : (el == 4) = false := beq_eq_false_iff_ne.2 h4
      have g11 : (el == 11) = true := beq_iff_eq.2 (by omega)
      clear h4 he
      go_wp2_with fail
      go_ret
      exact ⟨rfl, b4⟩
  case pos =>
  subst he0
  have HGD : Hid (Ev.LegalGood f x t) := by
    have h := Ev.legal_shows HR.out HWT.out (t := t) (by rw [HLG.out])
    rw [HLG.out] at h
    exact h
  go_upto_region 10 with (first | (refine wpList_load_box rfl 26 _ rfl rfl (box_load Try.underlying26 (by kernel_rfl) rfl (by kernel_rfl) (box_on HBX (by (repeat' first | with_reducible (first | exact Below.refl _ _ | assumption | refine Below.alloc ?_ ?_ _ | refine below_drewN ?_ _ | refine Below.drew ?_ | refine Below.setCell ?_ ?_ _ | refine Below.trans ?_ (Below.mono (by with_reducible assumption) ?_)) | go_size)))) ?_) | (go_at_call 17; refine (check_right x _ _ HX.out HGD.out.right).mono ?_; rintro e w5 ⟨rfl, hb5⟩))
  have s4 := b4.size
  have b5 : Below w.heap.size w w5 := b4.trans (hb5.mono s4)
  replace HBF1 := box_on HBF1 hb5
  replace HBT := box_on HBT hb5
  replace HBX := box_on HBX hb5
  replace HF := RFlat.on HF hb5
  replace HX := RFlat.on HX hb5
  clear b4 hb5 s4
  obtain ⟨np, hnp⟩ : ∃ np : Nat, f.params = (np : Int) := ⟨f.params.toNat, by have := HR.out.p0; omega⟩
  have HNP := Lib.hid hnp
  have hp1 : np ≤ f.secret.length := by have := HR.out.p1; omega
  have hxs : f.secret.length ≤ x.secret.length := by obtain ⟨s, h⟩ := HGD.out.sec; rw [h, List.length_append]; omega
  have f1 : w5.cell? ⟨w.heap.size, 1, none⟩ = some (.slice As f.secret.length cs) := box_cell HBF1 1 rfl
  have f2 : w5.cell? ⟨w.heap.size, 2, none⟩ = some (.int .i64 (np : Int)) := box_cell HBF1 2 (by rw [hnp]; rfl)
  have f3 : w5.cell? ⟨w.heap.size, 3, none⟩ = some (.slice Av f.arrays.length cv) := box_cell HBF1 3 rfl
  have q0 : w5.cell? ⟨w4.heap.size, 0, none⟩ = some (.slice A1 x.code.length c1) := box_cell HBX 0 rfl
  have q1 : w5.cell? ⟨w4.heap.size, 1, none⟩ = some (.slice A2 x.secret.length c2) := box_cell HBX 1 rfl
  have q2 : w5.cell? ⟨w4.heap.size, 2, none⟩ = some (.int .i64 (np : Int)) := box_cell HBX 2 (by rw [← hnp, ← HGD.out.params]; rfl)
  have q3 : w5.cell? ⟨w4.heap.size, 3, none⟩ = some (.slice A3 x.arrays.length c3) := box_cell HBX 3 rfl
  have gnp : ((np : Int) != (np : Int)) = false := by simp
  have gsl : decide ((x.secret.length : Int) < (np : Int)) = false := decide_eq_false (by omega)
  have CSV : Hid (Calls Try.prog 20 #[.slice A3 x.arrays.length c3, .slice Av f.arrays.length cv] w5 fun e w' => e = .returned (.bool true) ∧ ∃ n, w' = w5.drewN n) := by
    obtain ⟨_, _, _, e, _, _, ha⟩ := HF.out
    obtain ⟨_, _, _, e', _, _, ha'⟩ := HX.out
    injection e with e
    injection e' with e'
    simp only [Array.mk.injEq, List.cons.injEq] at e e'
    obtain ⟨_, _, _, rfl, _⟩ := e
    obtain ⟨_, _, _, rfl, _⟩ := e'
    exact (sameVars_any x.arrays f.arrays _ _ w5 ha' ha).mono fun _ _ ⟨h, hb⟩ => ⟨by rw [h, HGD.out.arrays]; simp, hb⟩
  clear hnp
  go_upto_region 12 with (go_at_call 20; refine CSV.out.mono ?_; rintro e w' ⟨rfl, n6, rfl⟩)
  have CSH : Hid (∀ (u : World) (i : Ev.Instr) (j : Nat), Below w5.heap.size w5 u → x.code[j]? = some i → Calls Try.prog 21 #[.agg #[.slice A1 x.code.length c1, .slice A2 x.secret.length c2, .int .i64 x.params, .slice A3 x.arrays.length c3], .agg #[.int .i64 x0, .int .i64 x1, .int .i64 x2, .int .i64 x3, .int .i64 x4, .int .i64 x5, .int .i64 x6, .int .i64 x7, .int .i64 x8, .int .i64 x9, .int .i64 x10, .int .i64 x11, .int .i64 x12, .int .i64 x13, .int .i64 x14, .int .i64 x15, .int .i64 x16, .int .i64 x17], .agg #[.int .i64 i.op, .int .i64 i.d, .int .i64 i.a, .int .i64 i.b, .int .i64 i.c, .int .i64 i.imm]] u fun e w' => e = .returned (.bool false) ∧ Below u.heap.size u w') := by
    refine Lib.hid fun u i j hb hi => ?_
    have h := shows_any x t i j _ u (RFlat.on HX hb).out HTL.out HWT.out (HGD.out.right.sound hi)
    rw [HTV.out, HGD.out.even i (List.mem_of_getElem? hi)] at h
    exact h
  obtain ⟨hfs, hxsl⟩ : RBools w5 w5.heap.size (.slice As f.secret.length cs) f.secret ∧ RBools w5 w5.heap.size (.slice A2 x.secret.length c2) x.secret ∧ RCode w5 w5.heap.size (.slice A1 x.code.length c1) x.code := by
    obtain ⟨_, _, _, e, _, ha, _⟩ := HF.out
    obtain ⟨_, _, _, e', hc', ha', _⟩ := HX.out
    injection e with e
    injection e' with e'
    simp only [Array.mk.injEq, List.cons.injEq] at e e'
    obtain ⟨_, rfl, _⟩ := e
    obtain ⟨rfl, rfl, _⟩ := e'
    exact ⟨ha, ha', hc'⟩
  obtain ⟨_, _, e, hxx1, hxx⟩ := SL.form hxsl.1
  injection e with e1 e2 e3
  subst e1 e3
  obtain ⟨_, _, e, hyy1, hyy⟩ := SL.form hxsl.2
  injection e with e1 e2 e3
  subst e1 e3
  unfold maxLen at hxx hyy
  have HFS := Lib.hid hfs
  have HXS := Lib.hid hxsl.1
  have HXC := Lib.hid hxsl.2
  have HSX : Hid (∃ s, x.secret = f.secret ++ s) := Lib.hid HGD.out.sec
  have s5 := b5.size
  have xl := HGD.out.right.len2
  clear hfs hxsl CSV CC CW HF HX
  go_wp2_with fail
  go_loopw [80] (fun kk wr => ∃ k : Nat, k ≤ np ∧ kk = .int .i64 (k : Int) ∧ ∃ n, wr = w5.drewN n) (fun kk _ => np - (intOf kk).toNat)
  case atStart => exact ⟨0, by omega, rfl, by (first | exact ⟨0, rfl⟩ | exact ⟨_, rfl⟩ | (simp only [World.drewN_drewN, World.drew_is_drewN]; exact ⟨_, rfl⟩))⟩
  case round =>
    obtain ⟨k, hk, rfl, nw, rfl⟩ := hrel
    by_cases hlt : k < np
    · obtain ⟨b, hb⟩ : ∃ b, f.secret[k]? = some b := ⟨f.secret[k]'(by omega), List.getElem?_eq_getElem _⟩
      have hb2 : x.secret[k]? = some b := by obtain ⟨s, h⟩ := HSX.out; rw [h, List.getElem?_append_left (by omega)]; exact hb
      obtain ⟨b1, o1, r1, hv, hb1, _, _, _, p0⟩ := RBools.at_ HFS.out hb
      injection hv with hA _ hcr
      subst hA hcr
      obtain ⟨b2, o2, r2, hv, hb2', _, _, _, p1⟩ := RBools.at_ HXS.out hb2
      injection hv with hA _ hcr
      subst hA hcr
      clear hb hb2
      have gb : (b != b) = false := by simp
      go_wp2_with fail
      go_quiet (fail)
      go_wp2_with fail
      go_roundw
      case rel => exact ⟨k + 1, by omega, by go_num, by (first | exact ⟨0, rfl⟩ | exact ⟨_, rfl⟩ | (simp only [World.drewN_drewN, World.drew_is_drewN]; exact ⟨_, rfl⟩))⟩
      case measure => simp [intOf]; omega
    · go_wp2_with fail
      go_loopw [98] (fun jj wr => ∃ j : Nat, j ≤ x.code.length ∧ jj = .int .i64 (j : Int) ∧ Below w5.heap.size w5 wr) (fun jj _ => x.code.length - (intOf jj).toNat)
      case atStart => exact ⟨0, by omega, rfl, by (repeat' first | with_reducible (first | exact Below.refl _ _ | assumption | refine Below.alloc ?_ ?_ _ | refine below_drewN ?_ _ | refine Below.drew ?_ | refine Below.setCell ?_ ?_ _ | refine Below.trans ?_ (Below.mono (by with_reducible assumption) ?_)) | go_size)⟩
      case round =>
        obtain ⟨j, hj, rfl, hB⟩ := hrel
        have sB := hB.size
        by_cases hjl : j < x.code.length
        · obtain ⟨i, hi⟩ : ∃ i, x.code[j]? = some i := ⟨x.code[j], List.getElem?_eq_getElem hjl⟩
          obtain ⟨b1, o1, r1, hv, hb1, _, _, _, p0, p1, p2, p3, p4, p5⟩ := RCode.at_ (SL.at_ HXC.out hB (Nat.le_refl _)) hi
          injection hv with hA _ hcr
          subst hA hcr
          have HI := Lib.hid hi
          clear hi
          replace q0 : wr.cell? ⟨w4.heap.size, 0, none⟩ = some (.slice (some ⟨b1, o1, none⟩) x.code.length c1) := (hB.cell (p := ⟨w4.heap.size, 0, none⟩) (box_lt HBX)).trans q0
          go_wp2_with (first | (refine wpList_load_box rfl 26 _ rfl rfl (box_load Try.underlying26 (by kernel_rfl) rfl (by kernel_rfl) (box_on HBX (by (repeat' first | with_reducible (first | exact Below.refl _ _ | assumption | refine Below.alloc ?_ ?_ _ | refine below_drewN ?_ _ | refine Below.drew ?_ | refine Below.setCell ?_ ?_ _ | refine Below.trans ?_ (Below.mono (by with_reducible assumption) ?_)) | go_size)))) ?_) | (refine wpList_load_box rfl 29 _ rfl rfl (box_load Try.underlying29 (by kernel_rfl) rfl (by kernel_rfl) (box_on HBT (by (repeat' first | with_reducible (first | exact Below.refl _ _ | assumption | refine Below.alloc ?_ ?_ _ | refine below_drewN ?_ _ | refine Below.drew ?_ | refine Below.setCell ?_ ?_ _ | refine Below.trans ?_ (Below.mono (by with_reducible assumption) ?_)) | go_size)))) ?_) | (refine wpList_load_boxg (by rfl) 29 _ rfl rfl (box_load Try.underlying29 (by kernel_rfl) rfl (by kernel_rfl) (box_on HBT (by (repeat' first | with_reducible (first | exact Below.refl _ _ | assumption | refine Below.alloc ?_ ?_ _ | refine below_drewN ?_ _ | refine Below.drew ?_ | refine Below.setCell ?_ ?_ _ | refine Below.trans ?_ (Below.mono (by with_reducible assumption) ?_)) | go_size)))) ?_) | (go_at_call 21; refine (CSH.out _ _ _ (by (repeat' first | with_reducible (first | exact Below.refl _ _ | assumption | refine Below.alloc ?_ ?_ _ | refine below_drewN ?_ _ | refine Below.drew ?_ | refine Below.setCell ?_ ?_ _ | refine Below.trans ?_ (Below.mono (by with_reducible assumption) ?_)) | go_size)) HI.out).mono ?_; rintro e w7 ⟨rfl, hb7⟩; have s7 := hb7.size; simp only [World.size_alloc] at s7))
          go_roundw
          case rel => exact ⟨j + 1, by omega, by go_num, by (repeat' first | with_reducible (first | exact Below.refl _ _ | assumption | refine Below.alloc ?_ ?_ _ | refine below_drewN ?_ _ | refine Below.drew ?_ | refine Below.setCell ?_ ?_ _ | refine Below.trans ?_ (Below.mono (by with_reducible assumption) ?_)) | go_size)⟩
          case measure => simp [intOf]; omega
        · go_wp2_with fail
          go_ret
          exact ⟨rfl, by (repeat' first | with_reducible (first | exact Below.refl _ _ | assumption | refine Below.alloc ?_ ?_ _ | refine below_drewN ?_ _ | refine Below.drew ?_ | refine Below.setCell ?_ ?_ _ | refine Below.trans ?_ (Below.mono (by with_reducible assumption) ?_)) | go_size)⟩
end Go.Proofs.Ytljcgcllhcdleaa
