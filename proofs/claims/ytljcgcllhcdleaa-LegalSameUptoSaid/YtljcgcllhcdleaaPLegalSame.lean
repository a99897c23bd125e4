import Derived.Test.YtljcgcllhcdleaaLg31
import Derived.Test.YtljcgcllhcdleaaLg32
import Derived.Test.YtljcgcllhcdleaaLg28
import Derived.Test.YtljcgcllhcdleaaPParams
/- LegalSame: the walk. The bounds come from the bulk of what is read. -/
namespace Go.Proofs.Ytljcgcllhcdleaa
open Go.RowKit
set_option linter.unusedSimpArgs false
set_option linter.unusedVariables false
theorem list18l {t : List Int} (h : t.length = 18) : ∃ x0 x1 x2 x3 x4 x5 x6 x7 x8 x9 x10 x11 x12 x13 x14 x15 x16 x17, t = [x0, x1, x2, x3, x4, x5, x6, x7, x8, x9, x10, x11, x12, x13, x14, x15, x16, x17] := by
  match t, h with
  | [x0, x1, x2, x3, x4, x5, x6, x7, x8, x9, x10, x11, x12, x13, x14, x15, x16, x17], _ => exact ⟨_, _, _, _, _, _, _, _, _, _, _, _, _, _, _, _, _, _, rfl⟩
set_option maxRecDepth 16000 in
set_option maxHeartbeats 12800000 in
theorem legalSame_walk (f : Ev.Flat) (t : List Int) (g : Ev.Given) (vf vg : Value) (w : World) (hf : RFlat w w.heap.size vf f) (hg : RGiven w w.heap.size vg g) (hl : t.length = 18) (ht : ∀ x ∈ t, -9223372036854775808 ≤ x ∧ x ≤ 9223372036854775807)
    (hbf : f.code.length + f.secret.length + f.arrays.length ≤ 1048576) (hbg : g.words.length + g.arrays.length + g.arrays.flatten.length ≤ 1048576) :
    Calls Try.prog 4 #[vf, tableV t, vg] w fun e w' => e = .returned (.bool true) ∧ Below w.heap.size w w' := by
  have HTL := Lib.hid hl
  have HTI := Lib.hid ht
  clear ht
  have HF0 := Lib.hid hf
  have HG0 := Lib.hid hg
  have HBG := Lib.hid hbg
  obtain ⟨vw, vx, rfl, hw, hx⟩ := hg
  obtain ⟨Aw, cw, rfl, _, _⟩ := SL.form hw
  obtain ⟨_, _, hxs, _⟩ := hx
  obtain ⟨Ax, cx, rfl, _, _⟩ := SL.form hxs
  clear hw hxs hbg
  obtain ⟨Ac, cc, As, cs, Av, cv, rfl⟩ := hf.slices
  obtain ⟨_, _, _, e, hc, hs, ha⟩ := HF0.out
  injection e with e
  simp only [Array.mk.injEq, List.cons.injEq] at e
  obtain ⟨rfl, rfl, _, rfl, _⟩ := e
  obtain ⟨_, _, e, hcc1, hcc⟩ := SL.form hc
  injection e with e1 e2 e3
  subst e1 e3
  obtain ⟨_, _, e, hss1, hss⟩ := SL.form hs
  injection e with e1 e2 e3
  subst e1 e3
  unfold maxLen at hcc hss
  have HBF := Lib.hid hbf
  clear hf hc hs ha hbf
  obtain ⟨x0, x1, x2, x3, x4, x5, x6, x7, x8, x9, x10, x11, x12, x13, x14, x15, x16, x17, hT18⟩ := list18l hl
  have HTV := Lib.hid (show tableV t = .agg #[.int .i64 x0, .int .i64 x1, .int .i64 x2, .int .i64 x3, .int .i64 x4, .int .i64 x5, .int .i64 x6, .int .i64 x7, .int .i64 x8, .int .i64 x9, .int .i64 x10, .int .i64 x11, .int .i64 x12, .int .i64 x13, .int .i64 x14, .int .i64 x15, .int .i64 x16, .int .i64 x17] by rw [hT18]; rfl)
  clear hl hT18
  obtain ⟨er, ek, hck⟩ : ∃ er ek, Ev.check f = (er, ek) := ⟨_, _, rfl⟩
  have HRT := Lib.hid (show er = 0 → Ev.Right f from fun h0 => Ev.right_of_check (by rw [hck]; exact h0))
  have CC : Hid (∀ u : World, Below w.heap.size w u → Calls Try.prog 17 #[.agg #[.slice Ac f.code.length cc, .slice As f.secret.length cs, .int .i64 f.params, .slice Av f.arrays.length cv]] u fun e w' => e = .returned (.tuple #[.int .i64 er, .int .i64 ek]) ∧ Below u.heap.size u w') := by
    intro u hb
    have h := refCheck_any f _ u (RFlat.on HF0 hb).out
    rw [hck] at h
    exact h
  clear hck
  obtain ⟨wt, hwt⟩ : ∃ wt, Ev.wrong t = wt := ⟨_, rfl⟩
  have HWT := Lib.hid hwt
  have CW : Hid (∀ u : World, Calls Try.prog 18 #[.agg #[.int .i64 x0, .int .i64 x1, .int .i64 x2, .int .i64 x3, .int .i64 x4, .int .i64 x5, .int .i64 x6, .int .i64 x7, .int .i64 x8, .int .i64 x9, .int .i64 x10, .int .i64 x11, .int .i64 x12, .int .i64 x13, .int .i64 x14, .int .i64 x15, .int .i64 x16, .int .i64 x17]] u fun e w' => e = .returned (.int .i64 wt) ∧ Below u.heap.size u w') := by
    intro u
    have h := refWrong_any t u HTL.out HTI.out
    rw [HTV.out, hwt] at h
    exact h
  clear hwt
  obtain ⟨el, x, hlg⟩ : ∃ el x, Ev.legal f t = (el, x) := ⟨_, _, rfl⟩
  have HLG := Lib.hid hlg
  have CL : Hid (er = 0 → wt = 0 → ∀ u : World, Below w.heap.size w u → Calls Try.prog 19 #[.agg #[.slice Ac f.code.length cc, .slice As f.secret.length cs, .int .i64 f.params, .slice Av f.arrays.length cv], .agg #[.int .i64 x0, .int .i64 x1, .int .i64 x2, .int .i64 x3, .int .i64 x4, .int .i64 x5, .int .i64 x6, .int .i64 x7, .int .i64 x8, .int .i64 x9, .int .i64 x10, .int .i64 x11, .int .i64 x12, .int .i64 x13, .int .i64 x14, .int .i64 x15, .int .i64 x16, .int .i64 x17]] u fun e w' => ∃ A1 c1 A2 c2 A3 c3, e = .returned (.tuple #[.agg #[.slice A1 x.code.length c1, .slice A2 x.secret.length c2, .int .i64 x.params, .slice A3 x.arrays.length c3], .int .i64 el]) ∧ Hid (RFlat w' w'.heap.size (.agg #[.slice A1 x.code.length c1, .slice A2 x.secret.length c2, .int .i64 x.params, .slice A3 x.arrays.length c3]) x) ∧ Below u.heap.size u w') := by
    intro he hw u hb
    have h := legal_told f t _ u (RFlat.on HF0 hb).out HTL.out (HWT.out.trans hw) (HRT.out he) (by have := HBF.out; omega) (by have := HBF.out; omega) el x HLG.out
    rw [HTV.out] at h
    exact h.mono fun _ _ ⟨A1, c1, A2, c2, A3, c3, he, hR, _, hb⟩ => ⟨A1, c1, A2, c2, A3, c3, he, hR, hb⟩
  clear hlg
  rw [HTV.out]
  go_enter Try.func4, Try.ntmps4
  go_upto_region 1 with fail
  have bA : Below w.heap.size w (((w.alloc (.cells #[.slice Ac f.code.length cc, .slice As f.secret.length cs, .int .i64 f.params, .slice Av f.arrays.length cv] 26)).alloc (.cells #[.int .i64 x0, .int .i64 x1, .int .i64 x2, .int .i64 x3, .int .i64 x4, .int .i64 x5, .int .i64 x6, .int .i64 x7, .int .i64 x8, .int .i64 x9, .int .i64 x10, .int .i64 x11, .int .i64 x12, .int .i64 x13, .int .i64 x14, .int .i64 x15, .int .i64 x16, .int .i64 x17] 29)).alloc (.cells #[.slice Aw g.words.length cw, .slice Ax g.arrays.length cx] 45)) := by (repeat' first | with_reducible (first | exact Below.refl _ _ | assumption | refine Below.alloc ?_ ?_ _ | refine below_drewN ?_ _ | refine Below.drew ?_ | refine Below.setCell ?_ ?_ _ | refine Below.trans ?_ (Below.mono (by with_reducible assumption) ?_)) | go_size)
  have HBF1 : Hid (((((w.alloc (.cells #[.slice Ac f.code.length cc, .slice As f.secret.length cs, .int .i64 f.params, .slice Av f.arrays.length cv] 26)).alloc (.cells #[.int .i64 x0, .int .i64 x1, .int .i64 x2, .int .i64 x3, .int .i64 x4, .int .i64 x5, .int .i64 x6, .int .i64 x7, .int .i64 x8, .int .i64 x9, .int .i64 x10, .int .i64 x11, .int .i64 x12, .int .i64 x13, .int .i64 x14, .int .i64 x15, .int .i64 x16, .int .i64 x17] 29)).alloc (.cells #[.slice Aw g.words.length cw, .slice Ax g.arrays.length cx] 45))).heap[w.heap.size]? = some (.cells #[.slice Ac f.code.length cc, .slice As f.secret.length cs, .int .i64 f.params, .slice Av f.arrays.length cv] 26 (0, 0))) := (box_on (box_on (box_new w _) ((Below.refl _ _).alloc (Nat.le_refl _) _)) ((Below.refl _ _).alloc (Nat.le_refl _) _))
  have HBT : Hid (((((w.alloc (.cells #[.slice Ac f.code.length cc, .slice As f.secret.length cs, .int .i64 f.params, .slice Av f.arrays.length cv] 26)).alloc (.cells #[.int .i64 x0, .int .i64 x1, .int .i64 x2, .int .i64 x3, .int .i64 x4, .int .i64 x5, .int .i64 x6, .int .i64 x7, .int .i64 x8, .int .i64 x9, .int .i64 x10, .int .i64 x11, .int .i64 x12, .int .i64 x13, .int .i64 x14, .int .i64 x15, .int .i64 x16, .int .i64 x17] 29)).alloc (.cells #[.slice Aw g.words.length cw, .slice Ax g.arrays.length cx] 45))).heap[w.heap.size + 1]? = some (.cells #[.int .i64 x0, .int .i64 x1, .int .i64 x2, .int .i64 x3, .int .i64 x4, .int .i64 x5, .int .i64 x6, .int .i64 x7, .int .i64 x8, .int .i64 x9, .int .i64 x10, .int .i64 x11, .int .i64 x12, .int .i64 x13, .int .i64 x14, .int .i64 x15, .int .i64 x16, .int .i64 x17] 29 (0, 0))) := by
    have h := box_new (w.alloc (.cells #[.slice Ac f.code.length cc, .slice As f.secret.length cs, .int .i64 f.params, .slice Av f.arrays.length cv] 26)) (.cells #[.int .i64 x0, .int .i64 x1, .int .i64 x2, .int .i64 x3, .int .i64 x4, .int .i64 x5, .int .i64 x6, .int .i64 x7, .int .i64 x8, .int .i64 x9, .int .i64 x10, .int .i64 x11, .int .i64 x12, .int .i64 x13, .int .i64 x14, .int .i64 x15, .int .i64 x16, .int .i64 x17] 29)
    rw [World.size_alloc] at h
    exact (box_on h ((Below.refl _ _).alloc (Nat.le_refl _) _))
  have HBG1 : Hid (((((w.alloc (.cells #[.slice Ac f.code.length cc, .slice As f.secret.length cs, .int .i64 f.params, .slice Av f.arrays.length cv] 26)).alloc (.cells #[.int .i64 x0, .int .i64 x1, .int .i64 x2, .int .i64 x3, .int .i64 x4, .int .i64 x5, .int .i64 x6, .int .i64 x7, .int .i64 x8, .int .i64 x9, .int .i64 x10, .int .i64 x11, .int .i64 x12, .int .i64 x13, .int .i64 x14, .int .i64 x15, .int .i64 x16, .int .i64 x17] 29)).alloc (.cells #[.slice Aw g.words.length cw, .slice Ax g.arrays.length cx] 45))).heap[w.heap.size + 1 + 1]? = some (.cells #[.slice Aw g.words.length cw, .slice Ax g.arrays.length cx] 45 (0, 0))) := by
    have h := box_new ((w.alloc (.cells #[.slice Ac f.code.length cc, .slice As f.secret.length cs, .int .i64 f.params, .slice Av f.arrays.length cv] 26)).alloc (.cells #[.int .i64 x0, .int .i64 x1, .int .i64 x2, .int .i64 x3, .int .i64 x4, .int .i64 x5, .int .i64 x6, .int .i64 x7, .int .i64 x8, .int .i64 x9, .int .i64 x10, .int .i64 x11, .int .i64 x12, .int .i64 x13, .int .i64 x14, .int .i64 x15, .int .i64 x16, .int .i64 x17] 29)) (.cells #[.slice Aw g.words.length cw, .slice Ax g.arrays.length cx] 45)
    rw [World.size_alloc, World.size_alloc] at h
    exact h
  have HF := RFlat.on HF0 bA
  generalize (((w.alloc (.cells #[.slice Ac f.code.length cc, .slice As f.secret.length cs, .int .i64 f.params, .slice Av f.arrays.length cv] 26)).alloc (.cells #[.int .i64 x0, .int .i64 x1, .int .i64 x2, .int .i64 x3, .int .i64 x4, .int .i64 x5, .int .i64 x6, .int .i64 x7, .int .i64 x8, .int .i64 x9, .int .i64 x10, .int .i64 x11, .int .i64 x12, .int .i64 x13, .int .i64 x14, .int .i64 x15, .int .i64 x16, .int .i64 x17] 29)).alloc (.cells #[.slice Aw g.words.length cw, .slice Ax g.arrays.length cx] 45)) = wA at *
  go_upto_region 3 with (go_at_call 16; refine (alive_leg _).mono ?_; rintro e w1 ⟨rfl, hb1⟩)
  have s1 := bA.size
  have b1 : Below w.heap.size w w1 := bA.trans (hb1.mono s1)
  replace HBF1 := box_on HBF1 hb1
  replace HBT := box_on HBT hb1
  replace HBG1 := box_on HBG1 hb1
  replace HF := RFlat.on HF hb1
  clear bA hb1 s1
  go_upto_region 4 with (first | (refine wpList_load_box rfl 26 _ rfl rfl (box_load Try.underlying26 (by kernel_rfl) rfl (by kernel_rfl) (box_on HBF1 (by (repeat' first | with_reducible (first | exact Below.refl _ _ | assumption | refine Below.alloc ?_ ?_ _ | refine below_drewN ?_ _ | refine Below.drew ?_ | refine Below.setCell ?_ ?_ _ | refine Below.trans ?_ (Below.mono (by with_reducible assumption) ?_)) | go_size)))) ?_) | (go_at_call 17; refine (CC.out _ b1).mono ?_; rintro e w2 ⟨rfl, hb2⟩))
  have s1 := b1.size
  have b2 : Below w.heap.size w w2 := b1.trans (hb2.mono s1)
  replace HBF1 := box_on HBF1 hb2
  replace HBT := box_on HBT hb2
  replace HBG1 := box_on HBG1 hb2
  replace HF := RFlat.on HF hb2
  clear b1 hb2 s1
  have s2 := b2.size
  have ldf : ∀ u, Below w2.heap.size w2 u → (Go.Instr.loadAt 26 (.pointer (some ⟨w.heap.size, 0, none⟩))).run Try.prog u = .ok (.agg #[.slice Ac f.code.length cc, .slice As f.secret.length cs, .int .i64 f.params, .slice Av f.arrays.length cv]) u := fun u hu => box_load Try.underlying26 (by kernel_rfl) rfl (by kernel_rfl) (box_on HBF1 hu)
  have ldt : ∀ u, Below w2.heap.size w2 u → (Go.Instr.loadAt 29 (.pointer (some ⟨w.heap.size + 1, 0, none⟩))).run Try.prog u = .ok (.agg #[.int .i64 x0, .int .i64 x1, .int .i64 x2, .int .i64 x3, .int .i64 x4, .int .i64 x5, .int .i64 x6, .int .i64 x7, .int .i64 x8, .int .i64 x9, .int .i64 x10, .int .i64 x11, .int .i64 x12, .int .i64 x13, .int .i64 x14, .int .i64 x15, .int .i64 x16, .int .i64 x17]) u := fun u hu => box_load Try.underlying29 (by kernel_rfl) rfl (by kernel_rfl) (box_on HBT hu)
  have ldg : ∀ u, Below w2.heap.size w2 u → (Go.Instr.loadAt 45 (.pointer (some ⟨w.heap.size + 1 + 1, 0, none⟩))).run Try.prog u = .ok (.agg #[.slice Aw g.words.length cw, .slice Ax g.arrays.length cx]) u := fun u hu => box_load Try.underlying45 (by kernel_rfl) rfl (by kernel_rfl) (box_on HBG1 hu)
  have zb := box_lt HBG1
  have za := box_lt HBF1
  by_cases h0 : er = 0
  case neg => as_aux_lemma =>
    have g0 : (er != 0) = true := bne_iff_ne.2 h0
    clear h0
    refine wp_region_trail (fun w' => Below ((w2).heap.size) (w2) w') [(0, true), (1, true), (2, true), (3, true), (4, true), (5, true), (6, true), (7, true), (8, true), (9, true), (10, true), (11, true), (12, true), (13, true), (14, true), (15, true), (16, true), (17, true)] (by kernel_rfl) (by kernel_rfl) (by kernel_rfl) (by decide) (by (repeat' first | with_reducible (first | exact Below.refl _ _ | assumption | refine Below.alloc ?_ ?_ _ | refine below_drewN ?_ _ | refine Below.drew ?_ | refine Below.setCell ?_ ?_ _ | refine Below.trans ?_ (Below.mono (by with_reducible assumption) ?_)) | go_size)) ?_
    apply trail_light
    case hi => (simp only [List.getElem?_toArray, List.getElem?_cons_zero, List.getElem?_cons_succ]; exact rfl)
    case hl => first | exact light_no (by rfl) | ((first | apply light_plain rfl | apply light_yes (by rfl)); intro w9 _; go_simp; try rfl)
    case hQ => exact fun _ _ _ h => h
    (try simp only [Act.put, List.setIfInBounds_toArray, List.set_cons_zero, List.set_cons_succ])
    apply trail_light
    case hi => (simp only [List.getElem?_toArray, List.getElem?_cons_zero, List.getElem?_cons_succ]; exact rfl)
    case hl => first | exact light_no (by rfl) | ((first | apply light_plain rfl | apply light_yes (by rfl)); intro w9 _; go_simp; try rfl)
    case hQ => exact fun _ _ _ h => h
    (try simp only [Act.put, List.setIfInBounds_toArray, List.set_cons_zero, List.set_cons_succ])
    apply trail_light
    case hi => (simp only [List.getElem?_toArray, List.getElem?_cons_zero, List.getElem?_cons_succ]; exact rfl)
    case hl => first | exact light_no (by rfl) | ((first | apply light_plain rfl | apply light_yes (by rfl)); intro w9 _; go_simp; try rfl)
    case hQ => exact fun _ _ _ h => h
    (try simp only [Act.put, List.setIfInBounds_toArray, List.set_cons_zero, List.set_cons_succ])
    apply trail_light
    case hi => (simp only [List.getElem?_toArray, List.getElem?_cons_zero, List.getElem?_cons_succ]; exact rfl)
    case hl => first | exact light_no (by rfl) | ((first | apply light_plain rfl | apply light_yes (by rfl)); intro w9 hb9; have hB9 : Below w2.heap.size w2 w9 := (by (repeat' first | with_reducible (first | exact Below.refl _ _ | assumption | refine Below.alloc ?_ ?_ _ | refine below_drewN ?_ _ | refine Below.drew ?_ | refine Below.setCell ?_ ?_ _ | refine Below.trans ?_ (Below.mono (by with_reducible assumption) ?_)) | go_size)); exact exec_load rfl rfl (by first | exact ldf w9 hB9 | exact ldt w9 hB9 | exact ldg w9 hB9 | exact ldi w9 hB9 | exact ldh w9 hB9)) | ((first | apply light_plain rfl | apply light_yes (by rfl)); intro w9 hb9; have hB9 : Below w2.heap.size w2 w9 := (by (repeat' first | with_reducible (first | exact Below.refl _ _ | assumption | refine Below.alloc ?_ ?_ _ | refine below_drewN ?_ _ | refine Below.drew ?_ | refine Below.setCell ?_ ?_ _ | refine Below.trans ?_ (Below.mono (by with_reducible assumption) ?_)) | go_size)); obtain ⟨kc9, kf9, s9⟩ := bfacts hb9; obtain ⟨kd9, kg9, _⟩ := bfacts hB9; go_simp; try rfl)
    case hQ => exact fun _ _ _ h => h
    (try simp only [Act.put, List.setIfInBounds_toArray, List.set_cons_zero, List.set_cons_succ])
    apply trail_light
    case hi => (simp only [List.getElem?_toArray, List.getElem?_cons_zero, List.getElem?_cons_succ]; exact rfl)
    case hl => first | exact light_no (by rfl) | ((first | apply light_plain rfl | apply light_yes (by rfl)); intro w9 hb9; have hB9 : Below w2.heap.size w2 w9 := (by (repeat' first | with_reducible (first | exact Below.refl _ _ | assumption | refine Below.alloc ?_ ?_ _ | refine below_drewN ?_ _ | refine Below.drew ?_ | refine Below.setCell ?_ ?_ _ | refine Below.trans ?_ (Below.mono (by with_reducible assumption) ?_)) | go_size)); obtain ⟨kc9, kf9, s9⟩ := bfacts hb9; obtain ⟨kd9, kg9, _⟩ := bfacts hB9; go_simp; try rfl)
    case hQ => exact fun _ _ _ h => h
    (try simp only [Act.put, List.setIfInBounds_toArray, List.set_cons_zero, List.set_cons_succ])
    apply trail_light
    case hi => (simp only [List.getElem?_toArray, List.getElem?_cons_zero, List.getElem?_cons_succ]; exact rfl)
    case hl => first | exact light_no (by rfl) | ((first | apply light_plain rfl | apply light_yes (by rfl)); intro w9 _; go_simp; try rfl)
    case hQ => exact fun _ _ _ h => h
    (try simp only [Act.put, List.setIfInBounds_toArray, List.set_cons_zero, List.set_cons_succ])
    apply trail_light
    case hi => (simp only [List.getElem?_toArray, List.getElem?_cons_zero, List.getElem?_cons_succ]; exact rfl)
    case hl => first | exact light_no (by rfl) | ((first | apply light_plain rfl | apply light_yes (by rfl)); intro w9 _; go_simp; try rfl)
    case hQ => exact fun _ _ _ h => h
    (try simp only [Act.put, List.setIfInBounds_toArray, List.set_cons_zero, List.set_cons_succ])
    apply trail_light
    case hi => (simp only [List.getElem?_toArray, List.getElem?_cons_zero, List.getElem?_cons_succ]; exact rfl)
    case hl => first | exact light_no (by rfl) | ((first | apply light_plain rfl | apply light_yes (by rfl)); intro w9 _; go_simp; try rfl)
    case hQ => exact fun _ _ _ h => h
    (try simp only [Act.put, List.setIfInBounds_toArray, List.set_cons_zero, List.set_cons_succ])
    apply trail_light
    case hi => (simp only [List.getElem?_toArray, List.getElem?_cons_zero, List.getElem?_cons_succ]; exact rfl)
    case hl => first | exact light_no (by rfl) | ((first | apply light_plain rfl | apply light_yes (by rfl)); intro w9 _; go_simp; try rfl)
    case hQ => exact fun _ _ _ h => h
    (try simp only [Act.put, List.setIfInBounds_toArray, List.set_cons_zero, List.set_cons_succ])
    apply trail_light
    case hi => (simp only [List.getElem?_toArray, List.getElem?_cons_zero, List.getElem?_cons_succ]; exact rfl)
    case hl => first | exact light_no (by rfl) | ((first | apply light_plain rfl | apply light_yes (by rfl)); intro w9 hb9; have hB9 : Below w2.heap.size w2 w9 := (by (repeat' first | with_reducible (first | exact Below.refl _ _ | assumption | refine Below.alloc ?_ ?_ _ | refine below_drewN ?_ _ | refine Below.drew ?_ | refine Below.setCell ?_ ?_ _ | refine Below.trans ?_ (Below.mono (by with_reducible assumption) ?_)) | go_size)); exact exec_load rfl rfl (by first | exact ldf w9 hB9 | exact ldt w9 hB9 | exact ldg w9 hB9 | exact ldi w9 hB9 | exact ldh w9 hB9)) | ((first | apply light_plain rfl | apply light_yes (by rfl)); intro w9 hb9; have hB9 : Below w2.heap.size w2 w9 := (by (repeat' first | with_reducible (first | exact Below.refl _ _ | assumption | refine Below.alloc ?_ ?_ _ | refine below_drewN ?_ _ | refine Below.drew ?_ | refine Below.setCell ?_ ?_ _ | refine Below.trans ?_ (Below.mono (by with_reducible assumption) ?_)) | go_size)); obtain ⟨kc9, kf9, s9⟩ := bfacts hb9; obtain ⟨kd9, kg9, _⟩ := bfacts hB9; go_simp; try rfl)
    case hQ => exact fun _ _ _ h => h
    (try simp only [Act.put, List.setIfInBounds_toArray, List.set_cons_zero, List.set_cons_succ])
    apply trail_light
    case hi => (simp only [List.getElem?_toArray, List.getElem?_cons_zero, List.getElem?_cons_succ]; exact rfl)
    case hl => first | exact light_no (by rfl) | ((first | apply light_plain rfl | apply light_yes (by rfl)); intro w9 hb9; have hB9 : Below w2.heap.size w2 w9 := (by (repeat' first | with_reducible (first | exact Below.refl _ _ | assumption | refine Below.alloc ?_ ?_ _ | refine below_drewN ?_ _ | refine Below.drew ?_ | refine Below.setCell ?_ ?_ _ | refine Below.trans ?_ (Below.mono (by with_reducible assumption) ?_)) | go_size)); obtain ⟨kc9, kf9, s9⟩ := bfacts hb9; obtain ⟨kd9, kg9, _⟩ := bfacts hB9; go_simp; try rfl)
    case hQ => exact fun _ _ _ h => h
    (try simp only [Act.put, List.setIfInBounds_toArray, List.set_cons_zero, List.set_cons_succ])
    apply trail_light
    case hi => (simp only [List.getElem?_toArray, List.getElem?_cons_zero, List.getElem?_cons_succ]; exact rfl)
    case hl => first | exact light_no (by rfl) | ((first | apply light_plain rfl | apply light_yes (by rfl)); intro w9 _; go_simp; try rfl)
    case hQ => exact fun _ _ _ h => h
    (try simp only [Act.put, List.setIfInBounds_toArray, List.set_cons_zero, List.set_cons_succ])
    apply trail_light
    case hi => (simp only [List.getElem?_toArray, List.getElem?_cons_zero, List.getElem?_cons_succ]; exact rfl)
    case hl => first | exact light_no (by rfl) | ((first | apply light_plain rfl | apply light_yes (by rfl)); intro w9 hb9; have hB9 : Below w2.heap.size w2 w9 := (by (repeat' first | with_reducible (first | exact Below.refl _ _ | assumption | refine Below.alloc ?_ ?_ _ | refine below_drewN ?_ _ | refine Below.drew ?_ | refine Below.setCell ?_ ?_ _ | refine Below.trans ?_ (Below.mono (by with_reducible assumption) ?_)) | go_size)); exact exec_load rfl rfl (by first | exact ldf w9 hB9 | exact ldt w9 hB9 | exact ldg w9 hB9 | exact ldi w9 hB9 | exact ldh w9 hB9)) | ((first | apply light_plain rfl | apply light_yes (by rfl)); intro w9 hb9; have hB9 : Below w2.heap.size w2 w9 := (by (repeat' first | with_reducible (first | exact Below.refl _ _ | assumption | refine Below.alloc ?_ ?_ _ | refine below_drewN ?_ _ | refine Below.drew ?_ | refine Below.setCell ?_ ?_ _ | refine Below.trans ?_ (Below.mono (by with_reducible assumption) ?_)) | go_size)); obtain ⟨kc9, kf9, s9⟩ := bfacts hb9; obtain ⟨kd9, kg9, _⟩ := bfacts hB9; go_simp; try rfl)
    case hQ => exact fun _ _ _ h => h
    (try simp only [Act.put, List.setIfInBounds_toArray, List.set_cons_zero, List.set_cons_succ])
    apply trail_light
    case hi => (simp only [List.getElem?_toArray, List.getElem?_cons_zero, List.getElem?_cons_succ]; exact rfl)
    case hl => first | exact light_no (by rfl) | ((first | apply light_plain rfl | apply light_yes (by rfl)); intro w9 _; go_simp; try rfl)
    case hQ => exact fun _ _ _ h => h
    (try simp only [Act.put, List.setIfInBounds_toArray, List.set_cons_zero, List.set_cons_succ])
    apply trail_light
    case hi => (simp only [List.getElem?_toArray, List.getElem?_cons_zero, List.getElem?_cons_succ]; exact rfl)
    case hl => first | exact light_no (by rfl) | ((first | apply light_plain rfl | apply light_yes (by rfl)); intro w9 hb9; have hB9 : Below w2.heap.size w2 w9 := (by (repeat' first | with_reducible (first | exact Below.refl _ _ | assumption | refine Below.alloc ?_ ?_ _ | refine below_drewN ?_ _ | refine Below.drew ?_ | refine Below.setCell ?_ ?_ _ | refine Below.trans ?_ (Below.mono (by with_reducible assumption) ?_)) | go_size)); exact exec_load rfl rfl (by first | exact ldf w9 hB9 | exact ldt w9 hB9 | exact ldg w9 hB9 | exact ldi w9 hB9 | exact ldh w9 hB9)) | ((first | apply light_plain rfl | apply light_yes (by rfl)); intro w9 hb9; have hB9 : Below w2.heap.size w2 w9 := (by (repeat' first | with_reducible (first | exact Below.refl _ _ | assumption | refine Below.alloc ?_ ?_ _ | refine below_drewN ?_ _ | refine Below.drew ?_ | refine Below.setCell ?_ ?_ _ | refine Below.trans ?_ (Below.mono (by with_reducible assumption) ?_)) | go_size)); obtain ⟨kc9, kf9, s9⟩ := bfacts hb9; obtain ⟨kd9, kg9, _⟩ := bfacts hB9; go_simp; try rfl)
    case hQ => exact fun _ _ _ h => h
    (try simp only [Act.put, List.setIfInBounds_toArray, List.set_cons_zero, List.set_cons_succ])
    apply trail_light
    case hi => (simp only [List.getElem?_toArray, List.getElem?_cons_zero, List.getElem?_cons_succ]; exact rfl)
    case hl => first | exact light_no (by rfl) | ((first | apply light_plain rfl | apply light_yes (by rfl)); intro w9 hb9; have hB9 : Below w2.heap.size w2 w9 := (by (repeat' first | with_reducible (first | exact Below.refl _ _ | assumption | refine Below.alloc ?_ ?_ _ | refine below_drewN ?_ _ | refine Below.drew ?_ | refine Below.setCell ?_ ?_ _ | refine Below.trans ?_ (Below.mono (by with_reducible assumption) ?_)) | go_size)); obtain ⟨kc9, kf9, s9⟩ := bfacts hb9; obtain ⟨kd9, kg9, _⟩ := bfacts hB9; go_simp; try rfl)
    case hQ => exact fun _ _ _ h => h
    (try simp only [Act.put, List.setIfInBounds_toArray, List.set_cons_zero, List.set_cons_succ])
    apply trail_light
    case hi => (simp only [List.getElem?_toArray, List.getElem?_cons_zero, List.getElem?_cons_succ]; exact rfl)
    case hl => first | exact light_no (by rfl) | ((first | apply light_plain rfl | apply light_yes (by rfl)); intro w9 _; go_simp; try rfl)
    case hQ => exact fun _ _ _ h => h
    (try simp only [Act.put, List.setIfInBounds_toArray, List.set_cons_zero, List.set_cons_succ])
    apply trail_light
    case hi => (simp only [List.getElem?_toArray, List.getElem?_cons_zero, List.getElem?_cons_succ]; exact rfl)
    case hl => first | exact light_no (by rfl) | ((first | apply light_plain rfl | apply light_yes (by rfl)); intro w9 _; go_simp; try rfl)
    case hQ => exact fun _ _ _ h => h
    (try simp only [Act.put, List.setIfInBounds_toArray, List.set_cons_zero, List.set_cons_succ])
    refine trail_nil ?_
    (try dsimp only)
    go_wp2_with fail
    go_ret
    exact ⟨rfl, by (repeat' first | with_reducible (first | exact Below.refl _ _ | assumption | refine Below.alloc ?_ ?_ _ | refine below_drewN ?_ _ | refine Below.drew ?_ | refine Below.setCell ?_ ?_ _ | refine Below.trans ?_ (Below.mono (by with_reducible assumption) ?_)) | go_size)⟩
  case pos =>
  subst h0
  have HR := Lib.hid (HRT.out rfl)
  clear HRT
  have CL1 := Lib.hid (CL.out rfl)
  clear CL
  have f2 : w2.cell? ⟨w.heap.size, 2, none⟩ = some (.int .i64 f.params) := box_cell HBF1 2 rfl
  have f3 : w2.cell? ⟨w.heap.size, 3, none⟩ = some (.slice Av f.arrays.length cv) := box_cell HBF1 3 rfl
  by_cases hw0 : wt = 0
  case neg => as_aux_lemma =>
    have g0 : (wt != 0) = true := bne_iff_ne.2 hw0
    clear hw0
    refine wp_region_trail (fun w' => Below ((w2).heap.size) (w2) w') [(0, true), (1, true), (2, true), (3, true), (4, false), (5, true), (6, true), (7, true), (8, true), (9, true), (10, true), (11, true), (12, true), (13, true), (14, true), (15, true), (16, true), (17, true)] (by kernel_rfl) (by kernel_rfl) (by kernel_rfl) (by decide) (by (repeat' first | with_reducible (first | exact Below.refl _ _ | assumption | refine Below.alloc ?_ ?_ _ | refine below_drewN ?_ _ | refine Below.drew ?_ | refine Below.setCell ?_ ?_ _ | refine Below.trans ?_ (Below.mono (by with_reducible assumption) ?_)) | go_size)) ?_
    apply trail_light
    case hi => (simp only [List.getElem?_toArray, List.getElem?_cons_zero, List.getElem?_cons_succ]; exact rfl)
    case hl => first | exact light_no (by rfl) | ((first | apply light_plain rfl | apply light_yes (by rfl)); intro w9 _; go_simp; try rfl)
    case hQ => exact fun _ _ _ h => h
    (try simp only [Act.put, List.setIfInBounds_toArray, List.set_cons_zero, List.set_cons_succ])
    apply trail_light
    case hi => (simp only [List.getElem?_toArray, List.getElem?_cons_zero, List.getElem?_cons_succ]; exact rfl)
    case hl => first | exact light_no (by rfl) | ((first | apply light_plain rfl | apply light_yes (by rfl)); intro w9 _; go_simp; try rfl)
    case hQ => exact fun _ _ _ h => h
    (try simp only [Act.put, List.setIfInBounds_toArray, List.set_cons_zero, List.set_cons_succ])
    apply trail_light
    case hi => (simp only [List.getElem?_toArray, List.getElem?_cons_zero, List.getElem?_cons_succ]; exact rfl)
    case hl => first | exact light_no (by rfl) | ((first | apply light_plain rfl | apply light_yes (by rfl)); intro w9 _; go_simp; try rfl)
    case hQ => exact fun _ _ _ h => h
    (try simp only [Act.put, List.setIfInBounds_toArray, List.set_cons_zero, List.set_cons_succ])
    apply trail_light
    case hi => (simp only [List.getElem?_toArray, List.getElem?_cons_zero, List.getElem?_cons_succ]; exact rfl)
    case hl => first | exact light_no (by rfl) | ((first | apply light_plain rfl | apply light_yes (by rfl)); intro w9 hb9; have hB9 : Below w2.heap.size w2 w9 := (by (repeat' first | with_reducible (first | exact Below.refl _ _ | assumption | refine Below.alloc ?_ ?_ _ | refine below_drewN ?_ _ | refine Below.drew ?_ | refine Below.setCell ?_ ?_ _ | refine Below.trans ?_ (Below.mono (by with_reducible assumption) ?_)) | go_size)); exact exec_load rfl rfl (by first | exact ldf w9 hB9 | exact ldt w9 hB9 | exact ldg w9 hB9 | exact ldi w9 hB9 | exact ldh w9 hB9)) | ((first | apply light_plain rfl | apply light_yes (by rfl)); intro w9 hb9; have hB9 : Below w2.heap.size w2 w9 := (by (repeat' first | with_reducible (first | exact Below.refl _ _ | assumption | refine Below.alloc ?_ ?_ _ | refine below_drewN ?_ _ | refine Below.drew ?_ | refine Below.setCell ?_ ?_ _ | refine Below.trans ?_ (Below.mono (by with_reducible assumption) ?_)) | go_size)); obtain ⟨kc9, kf9, s9⟩ := bfacts hb9; obtain ⟨kd9, kg9, _⟩ := bfacts hB9; go_simp; try rfl)
    case hQ => exact fun _ _ _ h => h
    (try simp only [Act.put, List.setIfInBounds_toArray, List.set_cons_zero, List.set_cons_succ])
    apply trail_heavy
    case hi => (simp only [List.getElem?_toArray, List.getElem?_cons_zero, List.getElem?_cons_succ]; exact rfl)
    go_wp2_with (first | (go_at_call 18; refine (CW.out _).mono ?_; rintro e w3 ⟨rfl, hb3⟩; obtain ⟨kc3, kf3, s3⟩ := bfacts hb3; (try simp only [World.size_alloc, World.size_setCell, World.size_drew, World.heap_drewN, Nat.add_one_le_iff] at s3); skip) | fail)
    refine ⟨by (repeat' first | with_reducible (first | exact Below.refl _ _ | assumption | refine Below.alloc ?_ ?_ _ | refine below_drewN ?_ _ | refine Below.drew ?_ | refine Below.setCell ?_ ?_ _ | refine Below.trans ?_ (Below.mono (by with_reducible assumption) ?_)) | go_size), ?_⟩
    apply trail_light
    case hi => (simp only [List.getElem?_toArray, List.getElem?_cons_zero, List.getElem?_cons_succ]; exact rfl)
    case hl => first | exact light_no (by rfl) | ((first | apply light_plain rfl | apply light_yes (by rfl)); intro w9 _; go_simp; try rfl)
    case hQ => exact fun _ _ _ h => h
    (try simp only [Act.put, List.setIfInBounds_toArray, List.set_cons_zero, List.set_cons_succ])
    apply trail_light
    case hi => (simp only [List.getElem?_toArray, List.getElem?_cons_zero, List.getElem?_cons_succ]; exact rfl)
    case hl => first | exact light_no (by rfl) | ((first | apply light_plain rfl | apply light_yes (by rfl)); intro w9 _; go_simp; try rfl)
    case hQ => exact fun _ _ _ h => h
    (try simp only [Act.put, List.setIfInBounds_toArray, List.set_cons_zero, List.set_cons_succ])
    apply trail_light
    case hi => (simp only [List.getElem?_toArray, List.getElem?_cons_zero, List.getElem?_cons_succ]; exact rfl)
    case hl => first | exact light_no (by rfl) | ((first | apply light_plain rfl | apply light_yes (by rfl)); intro w9 _; go_simp; try rfl)
    case hQ => exact fun _ _ _ h => h
    (try simp only [Act.put, List.setIfInBounds_toArray, List.set_cons_zero, List.set_cons_succ])
    apply trail_light
    case hi => (simp only [List.getElem?_toArray, List.getElem?_cons_zero, List.getElem?_cons_succ]; exact rfl)
    case hl => first | exact light_no (by rfl) | ((first | apply light_plain rfl | apply light_yes (by rfl)); intro w9 _; go_simp; try rfl)
    case hQ => exact fun _ _ _ h => h
    (try simp only [Act.put, List.setIfInBounds_toArray, List.set_cons_zero, List.set_cons_succ])
    apply trail_light
    case hi => (simp only [List.getElem?_toArray, List.getElem?_cons_zero, List.getElem?_cons_succ]; exact rfl)
    case hl => first | exact light_no (by rfl) | ((first | apply light_plain rfl | apply light_yes (by rfl)); intro w9 hb9; have hB9 : Below w2.heap.size w2 w9 := (by (repeat' first | with_reducible (first | exact Below.refl _ _ | assumption | refine Below.alloc ?_ ?_ _ | refine below_drewN ?_ _ | refine Below.drew ?_ | refine Below.setCell ?_ ?_ _ | refine Below.trans ?_ (Below.mono (by with_reducible assumption) ?_)) | go_size)); exact exec_load rfl rfl (by first | exact ldf w9 hB9 | exact ldt w9 hB9 | exact ldg w9 hB9 | exact ldi w9 hB9 | exact ldh w9 hB9)) | ((first | apply light_plain rfl | apply light_yes (by rfl)); intro w9 hb9; have hB9 : Below w2.heap.size w2 w9 := (by (repeat' first | with_reducible (first | exact Below.refl _ _ | assumption | refine Below.alloc ?_ ?_ _ | refine below_drewN ?_ _ | refine Below.drew ?_ | refine Below.setCell ?_ ?_ _ | refine Below.trans ?_ (Below.mono (by with_reducible assumption) ?_)) | go_size)); obtain ⟨kc9, kf9, s9⟩ := bfacts hb9; obtain ⟨kd9, kg9, _⟩ := bfacts hB9; go_simp; try rfl)
    case hQ => exact fun _ _ _ h => h
    (try simp only [Act.put, List.setIfInBounds_toArray, List.set_cons_zero, List.set_cons_succ])
    apply trail_light
    case hi => (simp only [List.getElem?_toArray, List.getElem?_cons_zero, List.getElem?_cons_succ]; exact rfl)
    case hl => first | exact light_no (by rfl) | ((first | apply light_plain rfl | apply light_yes (by rfl)); intro w9 hb9; have hB9 : Below w2.heap.size w2 w9 := (by (repeat' first | with_reducible (first | exact Below.refl _ _ | assumption | refine Below.alloc ?_ ?_ _ | refine below_drewN ?_ _ | refine Below.drew ?_ | refine Below.setCell ?_ ?_ _ | refine Below.trans ?_ (Below.mono (by with_reducible assumption) ?_)) | go_size)); obtain ⟨kc9, kf9, s9⟩ := bfacts hb9; obtain ⟨kd9, kg9, _⟩ := bfacts hB9; go_simp; try rfl)
    case hQ => exact fun _ _ _ h => h
    (try simp only [Act.put, List.setIfInBounds_toArray, List.set_cons_zero, List.set_cons_succ])
    apply trail_light
    case hi => (simp only [List.getElem?_toArray, List.getElem?_cons_zero, List.getElem?_cons_succ]; exact rfl)
    case hl => first | exact light_no (by rfl) | ((first | apply light_plain rfl | apply light_yes (by rfl)); intro w9 _; go_simp; try rfl)
    case hQ => exact fun _ _ _ h => h
    (try simp only [Act.put, List.setIfInBounds_toArray, List.set_cons_zero, List.set_cons_succ])
    apply trail_light
    case hi => (simp only [List.getElem?_toArray, List.getElem?_cons_zero, List.getElem?_cons_succ]; exact rfl)
    case hl => first | exact light_no (by rfl) | ((first | apply light_plain rfl | apply light_yes (by rfl)); intro w9 hb9; have hB9 : Below w2.heap.size w2 w9 := (by (repeat' first | with_reducible (first | exact Below.refl _ _ | assumption | refine Below.alloc ?_ ?_ _ | refine below_drewN ?_ _ | refine Below.drew ?_ | refine Below.setCell ?_ ?_ _ | refine Below.trans ?_ (Below.mono (by with_reducible assumption) ?_)) | go_size)); exact exec_load rfl rfl (by first | exact ldf w9 hB9 | exact ldt w9 hB9 | exact ldg w9 hB9 | exact ldi w9 hB9 | exact ldh w9 hB9)) | ((first | apply light_plain rfl | apply light_yes (by rfl)); intro w9 hb9; have hB9 : Below w2.heap.size w2 w9 := (by (repeat' first | with_reducible (first | exact Below.refl _ _ | assumption | refine Below.alloc ?_ ?_ _ | refine below_drewN ?_ _ | refine Below.drew ?_ | refine Below.setCell ?_ ?_ _ | refine Below.trans ?_ (Below.mono (by with_reducible assumption) ?_)) | go_size)); obtain ⟨kc9, kf9, s9⟩ := bfacts hb9; obtain ⟨kd9, kg9, _⟩ := bfacts hB9; go_simp; try rfl)
    case hQ => exact fun _ _ _ h => h
    (try simp only [Act.put, List.setIfInBounds_toArray, List.set_cons_zero, List.set_cons_succ])
    apply trail_light
    case hi => (simp only [List.getElem?_toArray, List.getElem?_cons_zero, List.getElem?_cons_succ]; exact rfl)
    case hl => first | exact light_no (by rfl) | ((first | apply light_plain rfl | apply light_yes (by rfl)); intro w9 _; go_simp; try rfl)
    case hQ => exact fun _ _ _ h => h
    (try simp only [Act.put, List.setIfInBounds_toArray, List.set_cons_zero, List.set_cons_succ])
    apply trail_light
    case hi => (simp only [List.getElem?_toArray, List.getElem?_cons_zero, List.getElem?_cons_succ]; exact rfl)
    case hl => first | exact light_no (by rfl) | ((first | apply light_plain rfl | apply light_yes (by rfl)); intro w9 hb9; have hB9 : Below w2.heap.size w2 w9 := (by (repeat' first | with_reducible (first | exact Below.refl _ _ | assumption | refine Below.alloc ?_ ?_ _ | refine below_drewN ?_ _ | refine Below.drew ?_ | refine Below.setCell ?_ ?_ _ | refine Below.trans ?_ (Below.mono (by with_reducible assumption) ?_)) | go_size)); exact exec_load rfl rfl (by first | exact ldf w9 hB9 | exact ldt w9 hB9 | exact ldg w9 hB9 | exact ldi w9 hB9 | exact ldh w9 hB9)) | ((first | apply light_plain rfl | apply light_yes (by rfl)); intro w9 hb9; have hB9 : Below w2.heap.size w2 w9 := (by (repeat' first | with_reducible (first | exact Below.refl _ _ | assumption | refine Below.alloc ?_ ?_ _ | refine below_drewN ?_ _ | refine Below.drew ?_ | refine Below.setCell ?_ ?_ _ | refine Below.trans ?_ (Below.mono (by with_reducible assumption) ?_)) | go_size)); obtain ⟨kc9, kf9, s9⟩ := bfacts hb9; obtain ⟨kd9, kg9, _⟩ := bfacts hB9; go_simp; try rfl)
    case hQ => exact fun _ _ _ h => h
    (try simp only [Act.put, List.setIfInBounds_toArray, List.set_cons_zero, List.set_cons_succ])
    apply trail_light
    case hi => (simp only [List.getElem?_toArray, List.getElem?_cons_zero, List.getElem?_cons_succ]; exact rfl)
    case hl => first | exact light_no (by rfl) | ((first | apply light_plain rfl | apply light_yes (by rfl)); intro w9 hb9; have hB9 : Below w2.heap.size w2 w9 := (by (repeat' first | with_reducible (first | exact Below.refl _ _ | assumption | refine Below.alloc ?_ ?_ _ | refine below_drewN ?_ _ | refine Below.drew ?_ | refine Below.setCell ?_ ?_ _ | refine Below.trans ?_ (Below.mono (by with_reducible assumption) ?_)) | go_size)); obtain ⟨kc9, kf9, s9⟩ := bfacts hb9; obtain ⟨kd9, kg9, _⟩ := bfacts hB9; go_simp; try rfl)
    case hQ => exact fun _ _ _ h => h
    (try simp only [Act.put, List.setIfInBounds_toArray, List.set_cons_zero, List.set_cons_succ])
    apply trail_light
    case hi => (simp only [List.getElem?_toArray, List.getElem?_cons_zero, List.getElem?_cons_succ]; exact rfl)
    case hl => first | exact light_no (by rfl) | ((first | apply light_plain rfl | apply light_yes (by rfl)); intro w9 _; go_simp; try rfl)
    case hQ => exact fun _ _ _ h => h
    (try simp only [Act.put, List.setIfInBounds_toArray, List.set_cons_zero, List.set_cons_succ])
    apply trail_light
    case hi => (simp only [List.getElem?_toArray, List.getElem?_cons_zero, List.getElem?_cons_succ]; exact rfl)
    case hl => first | exact light_no (by rfl) | ((first | apply light_plain rfl | apply light_yes (by rfl)); intro w9 _; go_simp; try rfl)
    case hQ => exact fun _ _ _ h => h
    (try simp only [Act.put, List.setIfInBounds_toArray, List.set_cons_zero, List.set_cons_succ])
    refine trail_nil ?_
    (try dsimp only)
    go_wp2_with fail
    go_ret
    exact ⟨rfl, by (repeat' first | with_reducible (first | exact Below.refl _ _ | assumption | refine Below.alloc ?_ ?_ _ | refine below_drewN ?_ _ | refine Below.drew ?_ | refine Below.setCell ?_ ?_ _ | refine Below.trans ?_ (Below.mono (by with_reducible assumption) ?_)) | go_size)⟩
  case pos =>
  subst hw0
  have CL2 := Lib.hid (CL1.out rfl)
  clear CL1
  obtain ⟨np, hnp⟩ : ∃ np : Nat, f.params = (np : Int) := ⟨f.params.toNat, by have := HR.out.p0; omega⟩
  have HNP := Lib.hid hnp
  have hnp2 : np ≤ 1048576 := by have := HR.out.p1; have := HBF.out; omega
  have hmk := params_make hnp.symm hnp2
  obtain ⟨ft, hft⟩ : ∃ ft, Ev.fits np f.arrays g = ft := ⟨_, rfl⟩
  have HFT := Lib.hid hft
  have CF : Hid (∀ (u : World) (vp : Value), Below w.heap.size w u → RVars u u.heap.size vp (List.replicate np default) → Calls Try.prog 22 #[.agg #[vp, .slice Av f.arrays.length cv, .slice none 0 0], .agg #[.slice Aw g.words.length cw, .slice Ax g.arrays.length cx]] u fun e w' => e = .returned (.int .i64 ft) ∧ Below u.heap.size u w') := by
    refine Lib.hid fun u vp hb h1 => ?_
    obtain ⟨_, _, _, e, _, _, h4⟩ := (RFlat.on HF0 hb).out
    injection e with e
    simp only [Array.mk.injEq, List.cons.injEq] at e
    obtain ⟨_, _, _, rfl, _⟩ := e
    have h := fits_any (List.replicate np default) f.arrays g vp _ (.slice none 0 0) _ u h1 h4 ⟨_, _, _, rfl⟩ (RGiven.on HG0 hb).out (by have := HBG.out; omega)
    rw [List.length_replicate, HFT.out] at h
    exact h
  clear hft hnp
  by_cases h0 : ft = 0
  case neg => as_aux_lemma =>
    have g3 : (ft != 0) = true := bne_iff_ne.2 h0
    clear h0
    refine wp_region_trail (fun w' => Below ((w2).heap.size) (w2) w') [(0, true), (1, true), (2, true), (3, true), (4, false), (5, true), (6, true), (7, true), (8, true), (9, true), (11, true), (12, true), (14, true), (10, false), (13, true), (15, false), (16, true), (17, true)] (by kernel_rfl) (by kernel_rfl) (by kernel_rfl) (by decide) (by (repeat' first | with_reducible (first | exact Below.refl _ _ | assumption | refine Below.alloc ?_ ?_ _ | refine below_drewN ?_ _ | refine Below.drew ?_ | refine Below.setCell ?_ ?_ _ | refine Below.trans ?_ (Below.mono (by with_reducible assumption) ?_)) | go_size)) ?_
    apply trail_light
    case hi => (simp only [List.getElem?_toArray, List.getElem?_cons_zero, List.getElem?_cons_succ]; exact rfl)
    case hl => first | exact light_no (by rfl) | ((first | apply light_plain rfl | apply light_yes (by rfl)); intro w9 _; go_simp; try rfl)
    case hQ => exact fun _ _ _ h => h
    (try simp only [Act.put, List.setIfInBounds_toArray, List.set_cons_zero, List.set_cons_succ])
    apply trail_light
    case hi => (simp only [List.getElem?_toArray, List.getElem?_cons_zero, List.getElem?_cons_succ]; exact rfl)
    case hl => first | exact light_no (by rfl) | ((first | apply light_plain rfl | apply light_yes (by rfl)); intro w9 _; go_simp; try rfl)
    case hQ => exact fun _ _ _ h => h
    (try simp only [Act.put, List.setIfInBounds_toArray, List.set_cons_zero, List.set_cons_succ])
    apply trail_light
    case hi => (simp only [List.getElem?_toArray, List.getElem?_cons_zero, List.getElem?_cons_succ]; exact rfl)
    case hl => first | exact light_no (by rfl) | ((first | apply light_plain rfl | apply light_yes (by rfl)); intro w9 _; go_simp; try rfl)
    case hQ => exact fun _ _ _ h => h
    (try simp only [Act.put, List.setIfInBounds_toArray, List.set_cons_zero, List.set_cons_succ])
    apply trail_light
    case hi => (simp only [List.getElem?_toArray, List.getElem?_cons_zero, List.getElem?_cons_succ]; exact rfl)
    case hl => first | exact light_no (by rfl) | ((first | apply light_plain rfl | apply light_yes (by rfl)); intro w9 hb9; have hB9 : Below w2.heap.size w2 w9 := (by (repeat' first | with_reducible (first | exact Below.refl _ _ | assumption | refine Below.alloc ?_ ?_ _ | refine below_drewN ?_ _ | refine Below.drew ?_ | refine Below.setCell ?_ ?_ _ | refine Below.trans ?_ (Below.mono (by with_reducible assumption) ?_)) | go_size)); exact exec_load rfl rfl (by first | exact ldf w9 hB9 | exact ldt w9 hB9 | exact ldg w9 hB9 | exact ldi w9 hB9 | exact ldh w9 hB9)) | ((first | apply light_plain rfl | apply light_yes (by rfl)); intro w9 hb9; have hB9 : Below w2.heap.size w2 w9 := (by (repeat' first | with_reducible (first | exact Below.refl _ _ | assumption | refine Below.alloc ?_ ?_ _ | refine below_drewN ?_ _ | refine Below.drew ?_ | refine Below.setCell ?_ ?_ _ | refine Below.trans ?_ (Below.mono (by with_reducible assumption) ?_)) | go_size)); obtain ⟨kc9, kf9, s9⟩ := bfacts hb9; obtain ⟨kd9, kg9, _⟩ := bfacts hB9; go_simp; try rfl)
    case hQ => exact fun _ _ _ h => h
    (try simp only [Act.put, List.setIfInBounds_toArray, List.set_cons_zero, List.set_cons_succ])
    apply trail_heavy
    case hi => (simp only [List.getElem?_toArray, List.getElem?_cons_zero, List.getElem?_cons_succ]; exact rfl)
    go_wp2_with (first | (go_at_call 18; refine (CW.out _).mono ?_; rintro e w3 ⟨rfl, hb3⟩; obtain ⟨kc3, kf3, s3⟩ := bfacts hb3; (try simp only [World.size_alloc, World.size_setCell, World.size_drew, World.heap_drewN, Nat.add_one_le_iff] at s3); skip) | (go_at_call 22; refine (CF.out _ _ (by (repeat' first | with_reducible (first | exact Below.refl _ _ | assumption | refine Below.alloc ?_ ?_ _ | refine below_drewN ?_ _ | refine Below.drew ?_ | refine Below.setCell ?_ ?_ _ | refine Below.trans ?_ (Below.mono (by with_reducible assumption) ?_)) | go_size)) (params_vars hnp2 _)).mono ?_; rintro e w6 ⟨rfl, hb6⟩; obtain ⟨kc6, kf6, s6⟩ := bfacts hb6; (try simp only [World.size_alloc, World.size_setCell, World.size_drew, World.heap_drewN, Nat.add_one_le_iff] at s6); skip) | fail)
    refine ⟨by (repeat' first | with_reducible (first | exact Below.refl _ _ | assumption | refine Below.alloc ?_ ?_ _ | refine below_drewN ?_ _ | refine Below.drew ?_ | refine Below.setCell ?_ ?_ _ | refine Below.trans ?_ (Below.mono (by with_reducible assumption) ?_)) | go_size), ?_⟩
    apply trail_light
    case hi => (simp only [List.getElem?_toArray, List.getElem?_cons_zero, List.getElem?_cons_succ]; exact rfl)
    case hl => first | exact light_no (by rfl) | ((first | apply light_plain rfl | apply light_yes (by rfl)); intro w9 _; go_simp; try rfl)
    case hQ => exact fun _ _ _ h => h
    (try simp only [Act.put, List.setIfInBounds_toArray, List.set_cons_zero, List.set_cons_succ])
    apply trail_light
    case hi => (simp only [List.getElem?_toArray, List.getElem?_cons_zero, List.getElem?_cons_succ]; exact rfl)
    case hl => first | exact light_no (by rfl) | ((first | apply light_plain rfl | apply light_yes (by rfl)); intro w9 _; go_simp; try rfl)
    case hQ => exact fun _ _ _ h => h
    (try simp only [Act.put, List.setIfInBounds_toArray, List.set_cons_zero, List.set_cons_succ])
    apply trail_light
    case hi => (simp only [List.getElem?_toArray, List.getElem?_cons_zero, List.getElem?_cons_succ]; exact rfl)
    case hl => first | exact light_no (by rfl) | ((first | apply light_plain rfl | apply light_yes (by rfl)); intro w9 _; go_simp; try rfl)
    case hQ => exact fun _ _ _ h => h
    (try simp only [Act.put, List.setIfInBounds_toArray, List.set_cons_zero, List.set_cons_succ])
    apply trail_light
    case hi => (simp only [List.getElem?_toArray, List.getElem?_cons_zero, List.getElem?_cons_succ]; exact rfl)
    case hl => first | exact light_no (by rfl) | ((first | apply light_plain rfl | apply light_yes (by rfl)); intro w9 _; go_simp; try rfl)
    case hQ => exact fun _ _ _ h => h
    (try simp only [Act.put, List.setIfInBounds_toArray, List.set_cons_zero, List.set_cons_succ])
    apply trail_light
    case hi => (simp only [List.getElem?_toArray, List.getElem?_cons_zero, List.getElem?_cons_succ]; exact rfl)
    case hl => first | exact light_no (by rfl) | ((first | apply light_plain rfl | apply light_yes (by rfl)); intro w9 hb9; have hB9 : Below w2.heap.size w2 w9 := (by (repeat' first | with_reducible (first | exact Below.refl _ _ | assumption | refine Below.alloc ?_ ?_ _ | refine below_drewN ?_ _ | refine Below.drew ?_ | refine Below.setCell ?_ ?_ _ | refine Below.trans ?_ (Below.mono (by with_reducible assumption) ?_)) | go_size)); exact exec_load rfl rfl (by first | exact ldf w9 hB9 | exact ldt w9 hB9 | exact ldg w9 hB9 | exact ldi w9 hB9 | exact ldh w9 hB9)) | ((first | apply light_plain rfl | apply light_yes (by rfl)); intro w9 hb9; have hB9 : Below w2.heap.size w2 w9 := (by (repeat' first | with_reducible (first | exact Below.refl _ _ | assumption | refine Below.alloc ?_ ?_ _ | refine below_drewN ?_ _ | refine Below.drew ?_ | refine Below.setCell ?_ ?_ _ | refine Below.trans ?_ (Below.mono (by with_reducible assumption) ?_)) | go_size)); obtain ⟨kc9, kf9, s9⟩ := bfacts hb9; obtain ⟨kd9, kg9, _⟩ := bfacts hB9; go_simp; try rfl)
    case hQ => exact fun _ _ _ h => h
    (try simp only [Act.put, List.setIfInBounds_toArray, List.set_cons_zero, List.set_cons_succ])
    apply trail_light
    case hi => (simp only [List.getElem?_toArray, List.getElem?_cons_zero, List.getElem?_cons_succ]; exact rfl)
    case hl => first | exact light_no (by rfl) | ((first | apply light_plain rfl | apply light_yes (by rfl)); intro w9 _; go_simp; try rfl)
    case hQ => exact fun _ _ _ h => h
    (try simp only [Act.put, List.setIfInBounds_toArray, List.set_cons_zero, List.set_cons_succ])
    apply trail_light
    case hi => (simp only [List.getElem?_toArray, List.getElem?_cons_zero, List.getElem?_cons_succ]; exact rfl)
    case hl => first | exact light_no (by rfl) | ((first | apply light_plain rfl | apply light_yes (by rfl)); intro w9 hb9; have hB9 : Below w2.heap.size w2 w9 := (by (repeat' first | with_reducible (first | exact Below.refl _ _ | assumption | refine Below.alloc ?_ ?_ _ | refine below_drewN ?_ _ | refine Below.drew ?_ | refine Below.setCell ?_ ?_ _ | refine Below.trans ?_ (Below.mono (by with_reducible assumption) ?_)) | go_size)); exact exec_load rfl rfl (by first | exact ldf w9 hB9 | exact ldt w9 hB9 | exact ldg w9 hB9 | exact ldi w9 hB9 | exact ldh w9 hB9)) | ((first | apply light_plain rfl | apply light_yes (by rfl)); intro w9 hb9; have hB9 : Below w2.heap.size w2 w9 := (by (repeat' first | with_reducible (first | exact Below.refl _ _ | assumption | refine Below.alloc ?_ ?_ _ | refine below_drewN ?_ _ | refine Below.drew ?_ | refine Below.setCell ?_ ?_ _ | refine Below.trans ?_ (Below.mono (by with_reducible assumption) ?_)) | go_size)); obtain ⟨kc9, kf9, s9⟩ := bfacts hb9; obtain ⟨kd9, kg9, _⟩ := bfacts hB9; go_simp; try rfl)
    case hQ => exact fun _ _ _ h => h
    (try simp only [Act.put, List.setIfInBounds_toArray, List.set_cons_zero, List.set_cons_succ])
    apply trail_light
    case hi => (simp only [List.getElem?_toArray, List.getElem?_cons_zero, List.getElem?_cons_succ]; exact rfl)
    case hl => first | exact light_no (by rfl) | ((first | apply light_plain rfl | apply light_yes (by rfl)); intro w9 hb9; have hB9 : Below w2.heap.size w2 w9 := (by (repeat' first | with_reducible (first | exact Below.refl _ _ | assumption | refine Below.alloc ?_ ?_ _ | refine below_drewN ?_ _ | refine Below.drew ?_ | refine Below.setCell ?_ ?_ _ | refine Below.trans ?_ (Below.mono (by with_reducible assumption) ?_)) | go_size)); exact exec_load rfl rfl (by first | exact ldf w9 hB9 | exact ldt w9 hB9 | exact ldg w9 hB9 | exact ldi w9 hB9 | exact ldh w9 hB9)) | ((first | apply light_plain rfl | apply light_yes (by rfl)); intro w9 hb9; have hB9 : Below w2.heap.size w2 w9 := (by (repeat' first | with_reducible (first | exact Below.refl _ _ | assumption | refine Below.alloc ?_ ?_ _ | refine below_drewN ?_ _ | refine Below.drew ?_ | refine Below.setCell ?_ ?_ _ | refine Below.trans ?_ (Below.mono (by with_reducible assumption) ?_)) | go_size)); obtain ⟨kc9, kf9, s9⟩ := bfacts hb9; obtain ⟨kd9, kg9, _⟩ := bfacts hB9; go_simp; try rfl)
    case hQ => exact fun _ _ _ h => h
    (try simp only [Act.put, List.setIfInBounds_toArray, List.set_cons_zero, List.set_cons_succ])
    apply trail_heavy
    case hi => (simp only [List.getElem?_toArray, List.getElem?_cons_zero, List.getElem?_cons_succ]; exact rfl)
    go_wp2_with (first | (go_at_call 18; refine (CW.out _).mono ?_; rintro e w3 ⟨rfl, hb3⟩; obtain ⟨kc3, kf3, s3⟩ := bfacts hb3; (try simp only [World.size_alloc, World.size_setCell, World.size_drew, World.heap_drewN, Nat.add_one_le_iff] at s3); skip) | (go_at_call 22; refine (CF.out _ _ (by (repeat' first | with_reducible (first | exact Below.refl _ _ | assumption | refine Below.alloc ?_ ?_ _ | refine below_drewN ?_ _ | refine Below.drew ?_ | refine Below.setCell ?_ ?_ _ | refine Below.trans ?_ (Below.mono (by with_reducible assumption) ?_)) | go_size)) (params_vars hnp2 _)).mono ?_; rintro e w6 ⟨rfl, hb6⟩; obtain ⟨kc6, kf6, s6⟩ := bfacts hb6; (try simp only [World.size_alloc, World.size_setCell, World.size_drew, World.heap_drewN, Nat.add_one_le_iff] at s6); skip) | fail)
    refine ⟨by (repeat' first | with_reducible (first | exact Below.refl _ _ | assumption | refine Below.alloc ?_ ?_ _ | refine below_drewN ?_ _ | refine Below.drew ?_ | refine Below.setCell ?_ ?_ _ | refine Below.trans ?_ (Below.mono (by with_reducible assumption) ?_)) | go_size), ?_⟩
    apply trail_light
    case hi => (simp only [List.getElem?_toArray, List.getElem?_cons_zero, List.getElem?_cons_succ]; exact rfl)
    case hl => first | exact light_no (by rfl) | ((first | apply light_plain rfl | apply light_yes (by rfl)); intro w9 _; go_simp; try rfl)
    case hQ => exact fun _ _ _ h => h
    (try simp only [Act.put, List.setIfInBounds_toArray, List.set_cons_zero, List.set_cons_succ])
    apply trail_heavy
    case hi => (simp only [List.getElem?_toArray, List.getElem?_cons_zero, List.getElem?_cons_succ]; exact rfl)
    go_wp2_with (first | (go_at_call 18; refine (CW.out _).mono ?_; rintro e w3 ⟨rfl, hb3⟩; obtain ⟨kc3, kf3, s3⟩ := bfacts hb3; (try simp only [World.size_alloc, World.size_setCell, World.size_drew, World.heap_drewN, Nat.add_one_le_iff] at s3); skip) | (go_at_call 22; refine (CF.out _ _ (by (repeat' first | with_reducible (first | exact Below.refl _ _ | assumption | refine Below.alloc ?_ ?_ _ | refine below_drewN ?_ _ | refine Below.drew ?_ | refine Below.setCell ?_ ?_ _ | refine Below.trans ?_ (Below.mono (by with_reducible assumption) ?_)) | go_size)) (params_vars hnp2 _)).mono ?_; rintro e w6 ⟨rfl, hb6⟩; obtain ⟨kc6, kf6, s6⟩ := bfacts hb6; (try simp only [World.size_alloc, World.size_setCell, World.size_drew, World.heap_drewN, Nat.add_one_le_iff] at s6); skip) | fail)
    refine ⟨by (repeat' first | with_reducible (first | exact Below.refl _ _ | assumption | refine Below.alloc ?_ ?_ _ | refine below_drewN ?_ _ | refine Below.drew ?_ | refine Below.setCell ?_ ?_ _ | refine Below.trans ?_ (Below.mono (by with_reducible assumption) ?_)) | go_size), ?_⟩
    apply trail_light
    case hi => (simp only [List.getElem?_toArray, List.getElem?_cons_zero, List.getElem?_cons_succ]; exact rfl)
    case hl => first | exact light_no (by rfl) | ((first | apply light_plain rfl | apply light_yes (by rfl)); intro w9 _; go_simp; try rfl)
    case hQ => exact fun _ _ _ h => h
    (try simp only [Act.put, List.setIfInBounds_toArray, List.set_cons_zero, List.set_cons_succ])
    apply trail_light
    case hi => (simp only [List.getElem?_toArray, List.getElem?_cons_zero, List.getElem?_cons_succ]; exact rfl)
    case hl => first | exact light_no (by rfl) | ((first | apply light_plain rfl | apply light_yes (by rfl)); intro w9 _; go_simp; try rfl)
    case hQ => exact fun _ _ _ h => h
    (try simp only [Act.put, List.setIfInBounds_toArray, List.set_cons_zero, List.set_cons_succ])
    refine trail_nil ?_
    (try dsimp only)
    go_wp2_with fail
    go_ret
    exact ⟨rfl, by (repeat' first | with_reducible (first | exact Below.refl _ _ | assumption | refine Below.alloc ?_ ?_ _ | refine below_drewN ?_ _ | refine Below.drew ?_ | refine Below.setCell ?_ ?_ _ | refine Below.trans ?_ (Below.mono (by with_reducible assumption) ?_)) | go_size)⟩
  case pos =>
  subst h0
  refine wp_region_trail (fun w' => Below ((w2).heap.size) (w2) w') [(0, true), (1, true), (2, true), (3, true), (4, false), (5, true), (6, true), (7, true), (8, true), (9, true), (11, true), (12, true), (14, true), (10, false), (13, true), (15, false), (16, true), (17, true)] (by kernel_rfl) (by kernel_rfl) (by kernel_rfl) (by decide) (by (repeat' first | with_reducible (first | exact Below.refl _ _ | assumption | refine Below.alloc ?_ ?_ _ | refine below_drewN ?_ _ | refine Below.drew ?_ | refine Below.setCell ?_ ?_ _ | refine Below.trans ?_ (Below.mono (by with_reducible assumption) ?_)) | go_size)) ?_
  apply trail_light
  case hi => (simp only [List.getElem?_toArray, List.getElem?_cons_zero, List.getElem?_cons_succ]; exact rfl)
  case hl => first | exact light_no (by rfl) | ((first | apply light_plain rfl | apply light_yes (by rfl)); intro w9 _; go_simp; try rfl)
  case hQ => exact fun _ _ _ h => h
  (try simp only [Act.put, List.setIfInBounds_toArray, List.set_cons_zero, List.set_cons_succ])
  apply trail_light
  case hi => (simp only [List.getElem?_toArray, List.getElem?_cons_zero, List.getElem?_cons_succ]; exact rfl)
  case hl => first | exact light_no (by rfl) | ((first | apply light_plain rfl | apply light_yes (by rfl)); intro w9 _; go_simp; try rfl)
  case hQ => exact fun _ _ _ h => h
  (try simp only [Act.put, List.setIfInBounds_toArray, List.set_cons_zero, List.set_cons_succ])
  apply trail_light
  case hi => (simp only [List.getElem?_toArray, List.getElem?_cons_zero, List.getElem?_cons_succ]; exact rfl)
  case hl => first | exact light_no (by rfl) | ((first | apply light_plain rfl | apply light_yes (by rfl)); intro w9 _; go_simp; try rfl)
  case hQ => exact fun _ _ _ h => h
  (try simp only [Act.put, List.setIfInBounds_toArray, List.set_cons_zero, List.set_cons_succ])
  apply trail_light
  case hi => (simp only [List.getElem?_toArray, List.getElem?_cons_zero, List.getElem?_cons_succ]; exact rfl)
  case hl => first | exact light_no (by rfl) | ((first | apply light_plain rfl | apply light_yes (by rfl)); intro w9 hb9; have hB9 : Below w2.heap.size w2 w9 := (by (repeat' first | with_reducible (first | exact Below.refl _ _ | assumption | refine Below.alloc ?_ ?_ _ | refine below_drewN ?_ _ | refine Below.drew ?_ | refine Below.setCell ?_ ?_ _ | refine Below.trans ?_ (Below.mono (by with_reducible assumption) ?_)) | go_size)); exact exec_load rfl rfl (by first | exact ldf w9 hB9 | exact ldt w9 hB9 | exact ldg w9 hB9 | exact ldi w9 hB9 | exact ldh w9 hB9)) | ((first | apply light_plain rfl | apply light_yes (by rfl)); intro w9 hb9; have hB9 : Below w2.heap.size w2 w9 := (by (repeat' first | with_reducible (first | exact Below.refl _ _ | assumption | refine Below.alloc ?_ ?_ _ | refine below_drewN ?_ _ | refine Below.drew ?_ | refine Below.setCell ?_ ?_ _ | refine Below.trans ?_ (Below.mono (by with_reducible assumption) ?_)) | go_size)); obtain ⟨kc9, kf9, s9⟩ := bfacts hb9; obtain ⟨kd9, kg9, _⟩ := bfacts hB9; go_simp; try rfl)
  case hQ => exact fun _ _ _ h => h
  (try simp only [Act.put, List.setIfInBounds_toArray, List.set_cons_zero, List.set_cons_succ])
  apply trail_heavy
  case hi => (simp only [List.getElem?_toArray, List.getElem?_cons_zero, List.getElem?_cons_succ]; exact rfl)
  go_wp2_with (first | (go_at_call 18; refine (CW.out _).mono ?_; rintro e w3 ⟨rfl, hb3⟩; obtain ⟨kc3, kf3, s3⟩ := bfacts hb3; (try simp only [World.size_alloc, World.size_setCell, World.size_drew, World.heap_drewN, Nat.add_one_le_iff] at s3); skip) | (go_at_call 22; refine (CF.out _ _ (by (repeat' first | with_reducible (first | exact Below.refl _ _ | assumption | refine Below.alloc ?_ ?_ _ | refine below_drewN ?_ _ | refine Below.drew ?_ | refine Below.setCell ?_ ?_ _ | refine Below.trans ?_ (Below.mono (by with_reducible assumption) ?_)) | go_size)) (params_vars hnp2 _)).mono ?_; rintro e w6 ⟨rfl, hb6⟩; obtain ⟨kc6, kf6, s6⟩ := bfacts hb6; (try simp only [World.size_alloc, World.size_setCell, World.size_drew, World.heap_drewN, Nat.add_one_le_iff] at s6); skip) | fail)
  refine ⟨by (repeat' first | with_reducible (first | exact Below.refl _ _ | assumption | refine Below.alloc ?_ ?_ _ | refine below_drewN ?_ _ | refine Below.drew ?_ | refine Below.setCell ?_ ?_ _ | refine Below.trans ?_ (Below.mono (by with_reducible assumption) ?_)) | go_size), ?_⟩
  apply trail_light
  case hi => (simp only [List.getElem?_toArray, List.getElem?_cons_zero, List.getElem?_cons_succ]; exact rfl)
  case hl => first | exact light_no (by rfl) | ((first | apply light_plain rfl | apply light_yes (by rfl)); intro w9 _; go_simp; try rfl)
  case hQ => exact fun _ _ _ h => h
  (try simp only [Act.put, List.setIfInBounds_toArray, List.set_cons_zero, List.set_cons_succ])
  apply trail_light
  case hi => (simp only [List.getElem?_toArray, List.getElem?_cons_zero, List.getElem?_cons_succ]; exact rfl)
  case hl => first | exact light_no (by rfl) | ((first | apply light_plain rfl | apply light_yes (by rfl)); intro w9 _; go_simp; try rfl)
  case hQ => exact fun _ _ _ h => h
  (try simp only [Act.put, List.setIfInBounds_toArray, List.set_cons_zero, List.set_cons_succ])
  apply trail_light
  case hi => (simp only [List.getElem?_toArray, List.getElem?_cons_zero, List.getElem?_cons_succ]; exact rfl)
  case hl => first | exact light_no (by rfl) | ((first | apply light_plain rfl | apply light_yes (by rfl)); intro w9 _; go_simp; try rfl)
  case hQ => exact fun _ _ _ h => h
  (try simp only [Act.put, List.setIfInBounds_toArray, List.set_cons_zero, List.set_cons_succ])
  apply trail_light
  case hi => (simp only [List.getElem?_toArray, List.getElem?_cons_zero, List.getElem?_cons_succ]; exact rfl)
  case hl => first | exact light_no (by rfl) | ((first | apply light_plain rfl | apply light_yes (by rfl)); intro w9 _; go_simp; try rfl)
  case hQ => exact fun _ _ _ h => h
  (try simp only [Act.put, List.setIfInBounds_toArray, List.set_cons_zero, List.set_cons_succ])
  apply trail_light
  case hi => (simp only [List.getElem?_toArray, List.getElem?_cons_zero, List.getElem?_cons_succ]; exact rfl)
  case hl => first | exact light_no (by rfl) | ((first | apply light_plain rfl | apply light_yes (by rfl)); intro w9 hb9; have hB9 : Below w2.heap.size w2 w9 := (by (repeat' first | with_reducible (first | exact Below.refl _ _ | assumption | refine Below.alloc ?_ ?_ _ | refine below_drewN ?_ _ | refine Below.drew ?_ | refine Below.setCell ?_ ?_ _ | refine Below.trans ?_ (Below.mono (by with_reducible assumption) ?_)) | go_size)); exact exec_load rfl rfl (by first | exact ldf w9 hB9 | exact ldt w9 hB9 | exact ldg w9 hB9 | exact ldi w9 hB9 | exact ldh w9 hB9)) | ((first | apply light_plain rfl | apply light_yes (by rfl)); intro w9 hb9; have hB9 : Below w2.heap.size w2 w9 := (by (repeat' first | with_reducible (first | exact Below.refl _ _ | assumption | refine Below.alloc ?_ ?_ _ | refine below_drewN ?_ _ | refine Below.drew ?_ | refine Below.setCell ?_ ?_ _ | refine Below.trans ?_ (Below.mono (by with_reducible assumption) ?_)) | go_size)); obtain ⟨kc9, kf9, s9⟩ := bfacts hb9; obtain ⟨kd9, kg9, _⟩ := bfacts hB9; go_simp; try rfl)
  case hQ => exact fun _ _ _ h => h
  (try simp only [Act.put, List.setIfInBounds_toArray, List.set_cons_zero, List.set_cons_succ])
  apply trail_light
  case hi => (simp only [List.getElem?_toArray, List.getElem?_cons_zero, List.getElem?_cons_succ]; exact rfl)
  case hl => first | exact light_no (by rfl) | ((first | apply light_plain rfl | apply light_yes (by rfl)); intro w9 _; go_simp; try rfl)
  case hQ => exact fun _ _ _ h => h
  (try simp only [Act.put, List.setIfInBounds_toArray, List.set_cons_zero, List.set_cons_succ])
  apply trail_light
  case hi => (simp only [List.getElem?_toArray, List.getElem?_cons_zero, List.getElem?_cons_succ]; exact rfl)
  case hl => first | exact light_no (by rfl) | ((first | apply light_plain rfl | apply light_yes (by rfl)); intro w9 hb9; have hB9 : Below w2.heap.size w2 w9 := (by (repeat' first | with_reducible (first | exact Below.refl _ _ | assumption | refine Below.alloc ?_ ?_ _ | refine below_drewN ?_ _ | refine Below.drew ?_ | refine Below.setCell ?_ ?_ _ | refine Below.trans ?_ (Below.mono (by with_reducible assumption) ?_)) | go_size)); exact exec_load rfl rfl (by first | exact ldf w9 hB9 | exact ldt w9 hB9 | exact ldg w9 hB9 | exact ldi w9 hB9 | exact ldh w9 hB9)) | ((first | apply light_plain rfl | apply light_yes (by rfl)); intro w9 hb9; have hB9 : Below w2.heap.size w2 w9 := (by (repeat' first | with_reducible (first | exact Below.refl _ _ | assumption | refine Below.alloc ?_ ?_ _ | refine below_drewN ?_ _ | refine Below.drew ?_ | refine Below.setCell ?_ ?_ _ | refine Below.trans ?_ (Below.mono (by with_reducible assumption) ?_)) | go_size)); obtain ⟨kc9, kf9, s9⟩ := bfacts hb9; obtain ⟨kd9, kg9, _⟩ := bfacts hB9; go_simp; try rfl)
  case hQ => exact fun _ _ _ h => h
  (try simp only [Act.put, List.setIfInBounds_toArray, List.set_cons_zero, List.set_cons_succ])
  apply trail_light
  case hi => (simp only [List.getElem?_toArray, List.getElem?_cons_zero, List.getElem?_cons_succ]; exact rfl)
  case hl => first | exact light_no (by rfl) | ((first | apply light_plain rfl | apply light_yes (by rfl)); intro w9 hb9; have hB9 : Below w2.heap.size w2 w9 := (by (repeat' first | with_reducible (first | exact Below.refl _ _ | assumption | refine Below.alloc ?_ ?_ _ | refine below_drewN ?_ _ | refine Below.drew ?_ | refine Below.setCell ?_ ?_ _ | refine Below.trans ?_ (Below.mono (by with_reducible assumption) ?_)) | go_size)); exact exec_load rfl rfl (by first | exact ldf w9 hB9 | exact ldt w9 hB9 | exact ldg w9 hB9 | exact ldi w9 hB9 | exact ldh w9 hB9)) | ((first | apply light_plain rfl | apply light_yes (by rfl)); intro w9 hb9; have hB9 : Below w2.heap.size w2 w9 := (by (repeat' first | with_reducible (first | exact Below.refl _ _ | assumption | refine Below.alloc ?_ ?_ _ | refine below_drewN ?_ _ | refine Below.drew ?_ | refine Below.setCell ?_ ?_ _ | refine Below.trans ?_ (Below.mono (by with_reducible assumption) ?_)) | go_size)); obtain ⟨kc9, kf9, s9⟩ := bfacts hb9; obtain ⟨kd9, kg9, _⟩ := bfacts hB9; go_simp; try rfl)
  case hQ => exact fun _ _ _ h => h
  (try simp only [Act.put, List.setIfInBounds_toArray, List.set_cons_zero, List.set_cons_succ])
  apply trail_heavy
  case hi => (simp only [List.getElem?_toArray, List.getElem?_cons_zero, List.getElem?_cons_succ]; exact rfl)
  go_wp2_with (first | (go_at_call 18; refine (CW.out _).mono ?_; rintro e w3 ⟨rfl, hb3⟩; obtain ⟨kc3, kf3, s3⟩ := bfacts hb3; (try simp only [World.size_alloc, World.size_setCell, World.size_drew, World.heap_drewN, Nat.add_one_le_iff] at s3); skip) | (go_at_call 22; refine (CF.out _ _ (by (repeat' first | with_reducible (first | exact Below.refl _ _ | assumption | refine Below.alloc ?_ ?_ _ | refine below_drewN ?_ _ | refine Below.drew ?_ | refine Below.setCell ?_ ?_ _ | refine Below.trans ?_ (Below.mono (by with_reducible assumption) ?_)) | go_size)) (params_vars hnp2 _)).mono ?_; rintro e w6 ⟨rfl, hb6⟩; obtain ⟨kc6, kf6, s6⟩ := bfacts hb6; (try simp only [World.size_alloc, World.size_setCell, World.size_drew, World.heap_drewN, Nat.add_one_le_iff] at s6); skip) | fail)
  refine ⟨by (repeat' first | with_reducible (first | exact Below.refl _ _ | assumption | refine Below.alloc ?_ ?_ _ | refine below_drewN ?_ _ | refine Below.drew ?_ | refine Below.setCell ?_ ?_ _ | refine Below.trans ?_ (Below.mono (by with_reducible assumption) ?_)) | go_size), ?_⟩
  apply trail_light
  case hi => (simp only [List.getElem?_toArray, List.getElem?_cons_zero, List.getElem?_cons_succ]; exact rfl)
  case hl => first | exact light_no (by rfl) | ((first | apply light_plain rfl | apply light_yes (by rfl)); intro w9 _; go_simp; try rfl)
  case hQ => exact fun _ _ _ h => h
  (try simp only [Act.put, List.setIfInBounds_toArray, List.set_cons_zero, List.set_cons_succ])
  apply trail_heavy
  case hi => (simp only [List.getElem?_toArray, List.getElem?_cons_zero, List.getElem?_cons_succ]; exact rfl)
  go_wp2_with (first | (go_at_call 18; refine (CW.out _).mono ?_; rintro e w3 ⟨rfl, hb3⟩; obtain ⟨kc3, kf3, s3⟩ := bfacts hb3; (try simp only [World.size_alloc, World.size_setCell, World.size_drew, World.heap_drewN, Nat.add_one_le_iff] at s3); skip) | (go_at_call 22; refine (CF.out _ _ (by (repeat' first | with_reducible (first | exact Below.refl _ _ | assumption | refine Below.alloc ?_ ?_ _ | refine below_drewN ?_ _ | refine Below.drew ?_ | refine Below.setCell ?_ ?_ _ | refine Below.trans ?_ (Below.mono (by with_reducible assumption) ?_)) | go_size)) (params_vars hnp2 _)).mono ?_; rintro e w6 ⟨rfl, hb6⟩; obtain ⟨kc6, kf6, s6⟩ := bfacts hb6; (try simp only [World.size_alloc, World.size_setCell, World.size_drew, World.heap_drewN, Nat.add_one_le_iff] at s6); skip) | fail)
  refine ⟨by (repeat' first | with_reducible (first | exact Below.refl _ _ | assumption | refine Below.alloc ?_ ?_ _ | refine below_drewN ?_ _ | refine Below.drew ?_ | refine Below.setCell ?_ ?_ _ | refine Below.trans ?_ (Below.mono (by with_reducible assumption) ?_)) | go_size), ?_⟩
  apply trail_light
  case hi => (simp only [List.getElem?_toArray, List.getElem?_cons_zero, List.getElem?_cons_succ]; exact rfl)
  case hl => first | exact light_no (by rfl) | ((first | apply light_plain rfl | apply light_yes (by rfl)); intro w9 _; go_simp; try rfl)
  case hQ => exact fun _ _ _ h => h
  (try simp only [Act.put, List.setIfInBounds_toArray, List.set_cons_zero, List.set_cons_succ])
  apply trail_light
  case hi => (simp only [List.getElem?_toArray, List.getElem?_cons_zero, List.getElem?_cons_succ]; exact rfl)
  case hl => first | exact light_no (by rfl) | ((first | apply light_plain rfl | apply light_yes (by rfl)); intro w9 _; go_simp; try rfl)
  case hQ => exact fun _ _ _ h => h
  (try simp only [Act.put, List.setIfInBounds_toArray, List.set_cons_zero, List.set_cons_succ])
  refine trail_nil ?_
  (try dsimp only)
  go_upto_region 6 with fail
  have bD : Below w2.heap.size w2 w6 := by (repeat' first | with_reducible (first | exact Below.refl _ _ | assumption | refine Below.alloc ?_ ?_ _ | refine below_drewN ?_ _ | refine Below.drew ?_ | refine Below.setCell ?_ ?_ _ | refine Below.trans ?_ (Below.mono (by with_reducible assumption) ?_)) | go_size)
  have b3 : Below w.heap.size w w6 := by (repeat' first | with_reducible (first | exact Below.refl _ _ | assumption | refine Below.alloc ?_ ?_ _ | refine below_drewN ?_ _ | refine Below.drew ?_ | refine Below.setCell ?_ ?_ _ | refine Below.trans ?_ (Below.mono (by with_reducible assumption) ?_)) | go_size)
  replace HBF1 := box_on HBF1 bD
  replace HBT := box_on HBT bD
  replace HBG1 := box_on HBG1 bD
  replace HF := RFlat.on HF bD
  clear ldf ldt ldg f2 f3 bD hmk za zb b2 CF
  go_upto_region 7 with (first | (refine wpList_load_box rfl 26 _ rfl rfl (box_load Try.underlying26 (by kernel_rfl) rfl (by kernel_rfl) (box_on HBF1 (by (repeat' first | with_reducible (first | exact Below.refl _ _ | assumption | refine Below.alloc ?_ ?_ _ | refine below_drewN ?_ _ | refine Below.drew ?_ | refine Below.setCell ?_ ?_ _ | refine Below.trans ?_ (Below.mono (by with_reducible assumption) ?_)) | go_size)))) ?_) | (refine wpList_load_box rfl 29 _ rfl rfl (box_load Try.underlying29 (by kernel_rfl) rfl (by kernel_rfl) (box_on HBT (by (repeat' first | with_reducible (first | exact Below.refl _ _ | assumption | refine Below.alloc ?_ ?_ _ | refine below_drewN ?_ _ | refine Below.drew ?_ | refine Below.setCell ?_ ?_ _ | refine Below.trans ?_ (Below.mono (by with_reducible assumption) ?_)) | go_size)))) ?_) | (refine wpList_load_boxg (by rfl) 29 _ rfl rfl (box_load Try.underlying29 (by kernel_rfl) rfl (by kernel_rfl) (box_on HBT (by (repeat' first | with_reducible (first | exact Below.refl _ _ | assumption | refine Below.alloc ?_ ?_ _ | refine below_drewN ?_ _ | refine Below.drew ?_ | refine Below.setCell ?_ ?_ _ | refine Below.trans ?_ (Below.mono (by with_reducible assumption) ?_)) | go_size)))) ?_) | (go_at_call 19; refine (CL2.out _ b3).mono ?_; rintro e w4 ⟨A1, c1, A2, c2, A3, c3, rfl, HX, hb4⟩))
  have s2 := b3.size
  have s3 := hb4.size
  have bC : Below w4.heap.size w4 (w4.alloc (.cells #[.slice A1 x.code.length c1, .slice A2 x.secret.length c2, .int .i64 x.params, .slice A3 x.arrays.length c3] 26)) := (Below.refl _ _).alloc (Nat.le_refl _) _
  have HBX := box_new w4 (.cells #[.slice A1 x.code.length c1, .slice A2 x.secret.length c2, .int .i64 x.params, .slice A3 x.arrays.length c3] 26)
  replace HX := RFlat.on HX bC
  replace HBF1 := box_on (box_on HBF1 hb4) bC
  replace HBT := box_on (box_on HBT hb4) bC
  replace HBG1 := box_on (box_on HBG1 hb4) bC
  replace HF := RFlat.on (RFlat.on HF hb4) bC
  have b4 : Below w.heap.size w (w4.alloc (.cells #[.slice A1 x.code.length c1, .slice A2 x.secret.length c2, .int .i64 x.params, .slice A3 x.arrays.length c3] 26)) := (b3.trans (hb4.mono s2)).alloc (by omega) _
  generalize w4.alloc (.cells #[.slice A1 x.code.length c1, .slice A2 x.secret.length c2, .int .i64 x.params, .slice A3 x.arrays.length c3] 26) = wB at *
  clear b3 hb4 bC s2 CL2
  by_cases he0 : el = 0
  case neg =>
    have he : el = 4 ∨ el = 11 := by
      have h := Ev.legal_err f t
      rw [HLG.out] at h
      rcases h with h | ⟨h1, h2⟩
      · exact absurd h he0
      · exact h1
    have g0 : (el != 0) = true := bne_iff_ne.2 he0
    clear he0
    by_cases h4 : el = 4
    · have g4 : (el == 4) = true := beq_iff_eq.2 h4
      clear h4 he
      go_wp2_with fail
      go_ret
      exact ⟨rfl, b4⟩
    · have g4 : (el == 4) = false := beq_eq_false_iff_ne.2 h4
      have g11 : (el == 11) = true := beq_iff_eq.2 (by omega)
      clear h4 he
      go_wp2_with fail
      go_ret
      exact ⟨rfl, b4⟩
  case pos =>
  subst he0
  have HGD : Hid (Ev.LegalGood f x t) := by
    have h := Ev.legal_shows HR.out HWT.out (t := t) (by rw [HLG.out])
    rw [HLG.out] at h
    exact h
  have HGV : Hid (Given f g) := Lib.hid (given_fits HNP.out HFT.out (by have := HBF.out; omega) (by have := HBG.out; omega))
  have HGX : Hid (Given x g) := by
    have h := Ev.legal_slots (f := f) (t := t) (by rw [HLG.out])
    rw [HLG.out] at h
    have h0 := HGV.out
    have hb := HBF.out
    obtain ⟨h1, _⟩ := h
    dsimp only at h1
    exact Lib.hid ⟨by rw [HGD.out.params]; exact h0.words, by rw [HGD.out.arrays]; exact h0.arrays, h0.wword, h0.aword, h0.small, h0.few, by omega⟩
  obtain ⟨E, hE⟩ : ∃ E, (Ev.run f t g).1 = E := ⟨_, rfl⟩
  have HE := Lib.hid hE
  have HE2 : Hid ((Ev.run x t g).1 = E) := by
    have h := Ev.legal_same (f := f) (t := t) (g := g) HR.out HWT.out (by rw [HLG.out]) (by have h1 := HGV.out.words; have h2 := HR.out.p1; omega) (Ev.start_fine (by have h1 := HGV.out.words; have h2 := HR.out.p1; omega) HGV.out.wword HGV.out.arrays HGV.out.aword) t
    rw [HLG.out] at h
    exact Lib.hid (h.symm.trans hE)
  clear hE
  go_upto_region 10 with (first | (refine wpList_load_box rfl 26 _ rfl rfl (box_load Try.underlying26 (by kernel_rfl) rfl (by kernel_rfl) (box_on HBX (by (repeat' first | with_reducible (first | exact Below.refl _ _ | assumption | refine Below.alloc ?_ ?_ _ | refine below_drewN ?_ _ | refine Below.drew ?_ | refine Below.setCell ?_ ?_ _ | refine Below.trans ?_ (Below.mono (by with_reducible assumption) ?_)) | go_size)))) ?_) | (go_at_call 17; refine (check_right x _ _ HX.out HGD.out.right).mono ?_; rintro e w5 ⟨rfl, hb5⟩))
  have s4 := b4.size
  have b5 : Below w.heap.size w w5 := b4.trans (hb5.mono s4)
  replace HBF1 := box_on HBF1 hb5
  replace HBT := box_on HBT hb5
  replace HBG1 := box_on HBG1 hb5
  replace HBX := box_on HBX hb5
  replace HF := RFlat.on HF hb5
  replace HX := RFlat.on HX hb5
  clear b4 hb5 s4
  have hnp := HNP.out
  have f2 : w5.cell? ⟨w.heap.size, 2, none⟩ = some (.int .i64 (np : Int)) := box_cell HBF1 2 (by rw [hnp]; rfl)
  have f3 : w5.cell? ⟨w.heap.size, 3, none⟩ = some (.slice Av f.arrays.length cv) := box_cell HBF1 3 rfl
  have q2 : w5.cell? ⟨w4.heap.size, 2, none⟩ = some (.int .i64 (np : Int)) := box_cell HBX 2 (by rw [← hnp, ← HGD.out.params]; rfl)
  have q3 : w5.cell? ⟨w4.heap.size, 3, none⟩ = some (.slice A3 x.arrays.length c3) := box_cell HBX 3 rfl
  have gnp : ((np : Int) != (np : Int)) = false := by simp
  have gna : ((x.arrays.length : Int) != (f.arrays.length : Int)) = false := by rw [HGD.out.arrays]; simp
  clear hnp
  go_upto_region 12 with fail
  clear f2 f3 q2 q3 gna
  have CR1 : Hid (∀ u : World, Below w5.heap.size w5 u → Calls Try.prog 23 #[.agg #[.slice Ac f.code.length cc, .slice As f.secret.length cs, .int .i64 f.params, .slice Av f.arrays.length cv], .agg #[.int .i64 x0, .int .i64 x1, .int .i64 x2, .int .i64 x3, .int .i64 x4, .int .i64 x5, .int .i64 x6, .int .i64 x7, .int .i64 x8, .int .i64 x9, .int .i64 x10, .int .i64 x11, .int .i64 x12, .int .i64 x13, .int .i64 x14, .int .i64 x15, .int .i64 x16, .int .i64 x17], .agg #[.slice Aw g.words.length cw, .slice Ax g.arrays.length cx]] u fun e w' => ∃ A n c A2 n2 c2, e = .returned (.tuple #[.agg #[.int .i64 E.word, .bool E.trap, .slice A n c], .slice A2 n2 c2]) ∧ Hid (REnded w' (.agg #[.int .i64 E.word, .bool E.trap, .slice A n c]) E) ∧ Below u.heap.size u w') := by
    refine Lib.hid fun u hb => ?_
    have h := refRun_told f t g _ _ u (RFlat.on HF hb).out (RGiven.on HG0 (b5.trans (hb.mono b5.size))).out HTL.out HWT.out HR.out HGV.out E HE.out
    rw [HTV.out] at h
    exact h
  have CR2 : Hid (∀ u : World, Below w5.heap.size w5 u → Calls Try.prog 23 #[.agg #[.slice A1 x.code.length c1, .slice A2 x.secret.length c2, .int .i64 x.params, .slice A3 x.arrays.length c3], .agg #[.int .i64 x0, .int .i64 x1, .int .i64 x2, .int .i64 x3, .int .i64 x4, .int .i64 x5, .int .i64 x6, .int .i64 x7, .int .i64 x8, .int .i64 x9, .int .i64 x10, .int .i64 x11, .int .i64 x12, .int .i64 x13, .int .i64 x14, .int .i64 x15, .int .i64 x16, .int .i64 x17], .agg #[.slice Aw g.words.length cw, .slice Ax g.arrays.length cx]] u fun e w' => ∃ A n c A2 n2 c2, e = .returned (.tuple #[.agg #[.int .i64 E.word, .bool E.trap, .slice A n c], .slice A2 n2 c2]) ∧ Hid (REnded w' (.agg #[.int .i64 E.word, .bool E.trap, .slice A n c]) E) ∧ Below u.heap.size u w') := by
    refine Lib.hid fun u hb => ?_
    have h := refRun_told x t g _ _ u (RFlat.on HX hb).out (RGiven.on HG0 (b5.trans (hb.mono b5.size))).out HTL.out HWT.out HGD.out.right HGX.out E HE2.out
    rw [HTV.out] at h
    exact h
  go_upto_region 13 with (first | (refine wpList_load_box rfl 26 _ rfl rfl (box_load Try.underlying26 (by kernel_rfl) rfl (by kernel_rfl) (box_on HBF1 (by (repeat' first | with_reducible (first | exact Below.refl _ _ | assumption | refine Below.alloc ?_ ?_ _ | refine below_drewN ?_ _ | refine Below.drew ?_ | refine Below.setCell ?_ ?_ _ | refine Below.trans ?_ (Below.mono (by with_reducible assumption) ?_)) | go_size)))) ?_) | (refine wpList_load_box rfl 29 _ rfl rfl (box_load Try.underlying29 (by kernel_rfl) rfl (by kernel_rfl) (box_on HBT (by (repeat' first | with_reducible (first | exact Below.refl _ _ | assumption | refine Below.alloc ?_ ?_ _ | refine below_drewN ?_ _ | refine Below.drew ?_ | refine Below.setCell ?_ ?_ _ | refine Below.trans ?_ (Below.mono (by with_reducible assumption) ?_)) | go_size)))) ?_) | (refine wpList_load_boxg (by rfl) 29 _ rfl rfl (box_load Try.underlying29 (by kernel_rfl) rfl (by kernel_rfl) (box_on HBT (by (repeat' first | with_reducible (first | exact Below.refl _ _ | assumption | refine Below.alloc ?_ ?_ _ | refine below_drewN ?_ _ | refine Below.drew ?_ | refine Below.setCell ?_ ?_ _ | refine Below.trans ?_ (Below.mono (by with_reducible assumption) ?_)) | go_size)))) ?_) | (refine wpList_load_box rfl 45 _ rfl rfl (box_load Try.underlying45 (by kernel_rfl) rfl (by kernel_rfl) (box_on HBG1 (by (repeat' first | with_reducible (first | exact Below.refl _ _ | assumption | refine Below.alloc ?_ ?_ _ | refine below_drewN ?_ _ | refine Below.drew ?_ | refine Below.setCell ?_ ?_ _ | refine Below.trans ?_ (Below.mono (by with_reducible assumption) ?_)) | go_size)))) ?_) | (go_at_call 23; refine (CR1.out _ (by (repeat' first | with_reducible (first | exact Below.refl _ _ | assumption | refine Below.alloc ?_ ?_ _ | refine below_drewN ?_ _ | refine Below.drew ?_ | refine Below.setCell ?_ ?_ _ | refine Below.trans ?_ (Below.mono (by with_reducible assumption) ?_)) | go_size))).mono ?_; rintro e w7 ⟨D1, m1, k1, D2, m2, k2, rfl, HD, hb7⟩))
  have s7 := hb7.size
  have bE : Below w7.heap.size w7 (w7.alloc (.cells #[.int .i64 E.word, .bool E.trap, .slice D1 m1 k1] 51)) := (Below.refl _ _).alloc (Nat.le_refl _) _
  have bF : Below w5.heap.size w5 (w7.alloc (.cells #[.int .i64 E.word, .bool E.trap, .slice D1 m1 k1] 51)) := by (repeat' first | with_reducible (first | exact Below.refl _ _ | assumption | refine Below.alloc ?_ ?_ _ | refine below_drewN ?_ _ | refine Below.drew ?_ | refine Below.setCell ?_ ?_ _ | refine Below.trans ?_ (Below.mono (by with_reducible assumption) ?_)) | go_size)
  have HBA := box_new w7 (.cells #[.int .i64 E.word, .bool E.trap, .slice D1 m1 k1] 51)
  replace HD := REnded.on HD bE
  replace HBT := box_on HBT bF
  replace HBG1 := box_on HBG1 bF
  replace HBX := box_on HBX bF
  clear hb7 bE CR1 s7
  generalize w7.alloc (.cells #[.int .i64 E.word, .bool E.trap, .slice D1 m1 k1] 51) = wC at *
  go_upto_region 14 with (first | (refine wpList_load_box rfl 26 _ rfl rfl (box_load Try.underlying26 (by kernel_rfl) rfl (by kernel_rfl) (box_on HBX (by (repeat' first | with_reducible (first | exact Below.refl _ _ | assumption | refine Below.alloc ?_ ?_ _ | refine below_drewN ?_ _ | refine Below.drew ?_ | refine Below.setCell ?_ ?_ _ | refine Below.trans ?_ (Below.mono (by with_reducible assumption) ?_)) | go_size)))) ?_) | (refine wpList_load_box rfl 29 _ rfl rfl (box_load Try.underlying29 (by kernel_rfl) rfl (by kernel_rfl) (box_on HBT (by (repeat' first | with_reducible (first | exact Below.refl _ _ | assumption | refine Below.alloc ?_ ?_ _ | refine below_drewN ?_ _ | refine Below.drew ?_ | refine Below.setCell ?_ ?_ _ | refine Below.trans ?_ (Below.mono (by with_reducible assumption) ?_)) | go_size)))) ?_) | (refine wpList_load_boxg (by rfl) 29 _ rfl rfl (box_load Try.underlying29 (by kernel_rfl) rfl (by kernel_rfl) (box_on HBT (by (repeat' first | with_reducible (first | exact Below.refl _ _ | assumption | refine Below.alloc ?_ ?_ _ | refine below_drewN ?_ _ | refine Below.drew ?_ | refine Below.setCell ?_ ?_ _ | refine Below.trans ?_ (Below.mono (by with_reducible assumption) ?_)) | go_size)))) ?_) | (refine wpList_load_box rfl 45 _ rfl rfl (box_load Try.underlying45 (by kernel_rfl) rfl (by kernel_rfl) (box_on HBG1 (by (repeat' first | with_reducible (first | exact Below.refl _ _ | assumption | refine Below.alloc ?_ ?_ _ | refine below_drewN ?_ _ | refine Below.drew ?_ | refine Below.setCell ?_ ?_ _ | refine Below.trans ?_ (Below.mono (by with_reducible assumption) ?_)) | go_size)))) ?_) | (go_at_call 23; refine (CR2.out _ (by (repeat' first | with_reducible (first | exact Below.refl _ _ | assumption | refine Below.alloc ?_ ?_ _ | refine below_drewN ?_ _ | refine Below.drew ?_ | refine Below.setCell ?_ ?_ _ | refine Below.trans ?_ (Below.mono (by with_reducible assumption) ?_)) | go_size))).mono ?_; rintro e w8 ⟨D3, m3, k3, D4, m4, k4, rfl, HD2, hb8⟩))
  have s8 := hb8.size
  have bE : Below w8.heap.size w8 (w8.alloc (.cells #[.int .i64 E.word, .bool E.trap, .slice D3 m3 k3] 51)) := (Below.refl _ _).alloc (Nat.le_refl _) _
  have bG : Below wC.heap.size wC (w8.alloc (.cells #[.int .i64 E.word, .bool E.trap, .slice D3 m3 k3] 51)) := by (repeat' first | with_reducible (first | exact Below.refl _ _ | assumption | refine Below.alloc ?_ ?_ _ | refine below_drewN ?_ _ | refine Below.drew ?_ | refine Below.setCell ?_ ?_ _ | refine Below.trans ?_ (Below.mono (by with_reducible assumption) ?_)) | go_size)
  have HBB := box_new w8 (.cells #[.int .i64 E.word, .bool E.trap, .slice D3 m3 k3] 51)
  replace HD := REnded.on HD bG
  replace HD2 := REnded.on HD2 bE
  replace HBA := box_on HBA bG
  have sF := bF.size
  have s5 := b5.size
  have b9 : Below w.heap.size w (w8.alloc (.cells #[.int .i64 E.word, .bool E.trap, .slice D3 m3 k3] 51)) := (b5.trans (bF.mono s5)).trans (bG.mono (by omega))
  clear hb8 bE CR2 s8 bF bG b5
  generalize w8.alloc (.cells #[.int .i64 E.word, .bool E.trap, .slice D3 m3 k3] 51) = wD at *
  go_wp2_with (first | (refine wpList_load_box rfl 51 _ rfl rfl (box_load Try.underlying51 (by kernel_rfl) rfl (by kernel_rfl) (box_on HBA (by (repeat' first | with_reducible (first | exact Below.refl _ _ | assumption | refine Below.alloc ?_ ?_ _ | refine below_drewN ?_ _ | refine Below.drew ?_ | refine Below.setCell ?_ ?_ _ | refine Below.trans ?_ (Below.mono (by with_reducible assumption) ?_)) | go_size)))) ?_) | (refine wpList_load_box rfl 51 _ rfl rfl (box_load Try.underlying51 (by kernel_rfl) rfl (by kernel_rfl) (box_on HBB (by (repeat' first | with_reducible (first | exact Below.refl _ _ | assumption | refine Below.alloc ?_ ?_ _ | refine below_drewN ?_ _ | refine Below.drew ?_ | refine Below.setCell ?_ ?_ _ | refine Below.trans ?_ (Below.mono (by with_reducible assumption) ?_)) | go_size)))) ?_) | (go_at_call 24; refine (sameEnded_same E _ _ _ HD.out HD2.out).mono ?_; rintro e w9 ⟨rfl, hb9⟩))
  go_ret
  exact ⟨rfl, by have s9 := b9.size; (repeat' first | with_reducible (first | exact Below.refl _ _ | assumption | refine Below.alloc ?_ ?_ _ | refine below_drewN ?_ _ | refine Below.drew ?_ | refine Below.setCell ?_ ?_ _ | refine Below.trans ?_ (Below.mono (by with_reducible assumption) ?_)) | go_size)⟩
end Go.Proofs.Ytljcgcllhcdleaa
