import Derived.Test.YtljcgcllhcdleaaLg31
import Derived.Test.YtljcgcllhcdleaaLg32
import Derived.Test.YtljcgcllhcdleaaLg28
import Derived.Test.YtljcgcllhcdleaaPPlainT
/- LegalWhen: the walk. The bounds come from the bulk of what is read. -/
namespace Go.Proofs.Ytljcgcllhcdleaa
open Go.RowKit
set_option linter.unusedSimpArgs false
set_option linter.unusedVariables false
theorem list18l {t : List Int} (h : t.length = 18) : ∃ x0 x1 x2 x3 x4 x5 x6 x7 x8 x9 x10 x11 x12 x13 x14 x15 x16 x17, t = [x0, x1, x2, x3, x4, x5, x6, x7, x8, x9, x10, x11, x12, x13, x14, x15, x16, x17] := by
  match t, h with
  | [x0, x1, x2, x3, x4, x5, x6, x7, x8, x9, x10, x11, x12, x13, x14, x15, x16, x17], _ => exact ⟨_, _, _, _, _, _, _, _, _, _, _, _, _, _, _, _, _, _, rfl⟩
set_option maxRecDepth 16000 in
set_option maxHeartbeats 12800000 in
theorem legalWhen_walk (f : Ev.Flat) (t : List Int) (vf : Value) (w : World) (hf : RFlat w w.heap.size vf f) (hl : t.length = 18) (ht : ∀ x ∈ t, -9223372036854775808 ≤ x ∧ x ≤ 9223372036854775807)
    (hbf : f.code.length + f.secret.length + f.arrays.length ≤ 1048576) :
    Calls Try.prog 5 #[vf, tableV t] w fun e w' => e = .returned (.bool true) ∧ Below w.heap.size w w' := by
  have HTL := Lib.hid hl
  have HTI := Lib.hid ht
  clear ht
  have HF0 := Lib.hid hf
  obtain ⟨Ac, cc, As, cs, Av, cv, rfl⟩ := hf.slices
  obtain ⟨_, _, _, e, hc, hs, ha⟩ := HF0.out
  injection e with e
  simp only [Array.mk.injEq, List.cons.injEq] at e
  obtain ⟨rfl, rfl, _, rfl, _⟩ := e
  obtain ⟨_, _, e, hcc1, hcc⟩ := SL.form hc
  injection e with e1 e2 e3
  subst e1 e3
  obtain ⟨_, _, e, hss1, hss⟩ := SL.form hs
  injection e with e1 e2 e3
  subst e1 e3
  unfold maxLen at hcc hss
  have HBF := Lib.hid hbf
  clear hf hc hs ha hbf
  obtain ⟨x0, x1, x2, x3, x4, x5, x6, x7, x8, x9, x10, x11, x12, x13, x14, x15, x16, x17, hT18⟩ := list18l hl
  have HTV := Lib.hid (show tableV t = .agg #[.int .i64 x0, .int .i64 x1, .int .i64 x2, .int .i64 x3, .int .i64 x4, .int .i64 x5, .int .i64 x6, .int .i64 x7, .int .i64 x8, .int .i64 x9, .int .i64 x10, .int .i64 x11, .int .i64 x12, .int .i64 x13, .int .i64 x14, .int .i64 x15, .int .i64 x16, .int .i64 x17] by rw [hT18]; rfl)
  clear hl hT18
  obtain ⟨er, ek, hck⟩ : ∃ er ek, Ev.check f = (er, ek) := ⟨_, _, rfl⟩
  have HRT := Lib.hid (show er = 0 → Ev.Right f from fun h0 => Ev.right_of_check (by rw [hck]; exact h0))
  have CC : Hid (∀ u : World, Below w.heap.size w u → Calls Try.prog 17 #[.agg #[.slice Ac f.code.length cc, .slice As f.secret.length cs, .int .i64 f.params, .slice Av f.arrays.length cv]] u fun e w' => e = .returned (.tuple #[.int .i64 er, .int .i64 ek]) ∧ Below u.heap.size u w') := by
    intro u hb
    have h := refCheck_any f _ u (RFlat.on HF0 hb).out
    rw [hck] at h
    exact h
  clear hck
  obtain ⟨wt, hwt⟩ : ∃ wt, Ev.wrong t = wt := ⟨_, rfl⟩
  have HWT := Lib.hid hwt
  have CW : Hid (∀ u : World, Calls Try.prog 18 #[.agg #[.int .i64 x0, .int .i64 x1, .int .i64 x2, .int .i64 x3, .int .i64 x4, .int .i64 x5, .int .i64 x6, .int .i64 x7, .int .i64 x8, .int .i64 x9, .int .i64 x10, .int .i64 x11, .int .i64 x12, .int .i64 x13, .int .i64 x14, .int .i64 x15, .int .i64 x16, .int .i64 x17]] u fun e w' => e = .returned (.int .i64 wt) ∧ Below u.heap.size u w') := by
    intro u
    have h := refWrong_any t u HTL.out HTI.out
    rw [HTV.out, hwt] at h
    exact h
  clear hwt
  obtain ⟨el, x, hlg⟩ : ∃ el x, Ev.legal f t = (el, x) := ⟨_, _, rfl⟩
  have HLG := Lib.hid hlg
  have CL : Hid (er = 0 → wt = 0 → ∀ u : World, Below w.heap.size w u → Calls Try.prog 19 #[.agg #[.slice Ac f.code.length cc, .slice As f.secret.length cs, .int .i64 f.params, .slice Av f.arrays.length cv], .agg #[.int .i64 x0, .int .i64 x1, .int .i64 x2, .int .i64 x3, .int .i64 x4, .int .i64 x5, .int .i64 x6, .int .i64 x7, .int .i64 x8, .int .i64 x9, .int .i64 x10, .int .i64 x11, .int .i64 x12, .int .i64 x13, .int .i64 x14, .int .i64 x15, .int .i64 x16, .int .i64 x17]] u fun e w' => ∃ A1 c1 A2 c2 A3 c3, e = .returned (.tuple #[.agg #[.slice A1 x.code.length c1, .slice A2 x.secret.length c2, .int .i64 x.params, .slice A3 x.arrays.length c3], .int .i64 el]) ∧ Hid (RFlat w' w'.heap.size (.agg #[.slice A1 x.code.length c1, .slice A2 x.secret.length c2, .int .i64 x.params, .slice A3 x.arrays.length c3]) x) ∧ Below u.heap.size u w') := by
    intro he hw u hb
    have h := legal_told f t _ u (RFlat.on HF0 hb).out HTL.out (HWT.out.trans hw) (HRT.out he) (by have := HBF.out; omega) (by have := HBF.out; omega) el x HLG.out
    rw [HTV.out] at h
    exact h.mono fun _ _ ⟨A1, c1, A2, c2, A3, c3, he, hR, _, hb⟩ => ⟨A1, c1, A2, c2, A3, c3, he, hR, hb⟩
  clear hlg
  rw [HTV.out]
  go_enter Try.func5, Try.ntmps5
  go_upto_region 1 with fail
  have bA : Below w.heap.size w ((w.alloc (.cells #[.slice Ac f.code.length cc, .slice As f.secret.length cs, .int .i64 f.params, .slice Av f.arrays.length cv] 26)).alloc (.cells #[.int .i64 x0, .int .i64 x1, .int .i64 x2, .int .i64 x3, .int .i64 x4, .int .i64 x5, .int .i64 x6, .int .i64 x7, .int .i64 x8, .int .i64 x9, .int .i64 x10, .int .i64 x11, .int .i64 x12, .int .i64 x13, .int .i64 x14, .int .i64 x15, .int .i64 x16, .int .i64 x17] 29)) := by (repeat' first | with_reducible (first | exact Below.refl _ _ | assumption | refine Below.alloc ?_ ?_ _ | refine below_drewN ?_ _ | refine Below.drew ?_ | refine Below.setCell ?_ ?_ _ | refine Below.trans ?_ (Below.mono (by with_reducible assumption) ?_)) | go_size)
  have HBF1 : Hid ((((w.alloc (.cells #[.slice Ac f.code.length cc, .slice As f.secret.length cs, .int .i64 f.params, .slice Av f.arrays.length cv] 26)).alloc (.cells #[.int .i64 x0, .int .i64 x1, .int .i64 x2, .int .i64 x3, .int .i64 x4, .int .i64 x5, .int .i64 x6, .int .i64 x7, .int .i64 x8, .int .i64 x9, .int .i64 x10, .int .i64 x11, .int .i64 x12, .int .i64 x13, .int .i64 x14, .int .i64 x15, .int .i64 x16, .int .i64 x17] 29))).heap[w.heap.size]? = some (.cells #[.slice Ac f.code.length cc, .slice As f.secret.length cs, .int .i64 f.params, .slice Av f.arrays.length cv] 26 (0, 0))) := (box_on (box_new w _) ((Below.refl _ _).alloc (Nat.le_refl _) _))
  have HBT : Hid ((((w.alloc (.cells #[.slice Ac f.code.length cc, .slice As f.secret.length cs, .int .i64 f.params, .slice Av f.arrays.length cv] 26)).alloc (.cells #[.int .i64 x0, .int .i64 x1, .int .i64 x2, .int .i64 x3, .int .i64 x4, .int .i64 x5, .int .i64 x6, .int .i64 x7, .int .i64 x8, .int .i64 x9, .int .i64 x10, .int .i64 x11, .int .i64 x12, .int .i64 x13, .int .i64 x14, .int .i64 x15, .int .i64 x16, .int .i64 x17] 29))).heap[w.heap.size + 1]? = some (.cells #[.int .i64 x0, .int .i64 x1, .int .i64 x2, .int .i64 x3, .int .i64 x4, .int .i64 x5, .int .i64 x6, .int .i64 x7, .int .i64 x8, .int .i64 x9, .int .i64 x10, .int .i64 x11, .int .i64 x12, .int .i64 x13, .int .i64 x14, .int .i64 x15, .int .i64 x16, .int .i64 x17] 29 (0, 0))) := by
    have h := box_new (w.alloc (.cells #[.slice Ac f.code.length cc, .slice As f.secret.length cs, .int .i64 f.params, .slice Av f.arrays.length cv] 26)) (.cells #[.int .i64 x0, .int .i64 x1, .int .i64 x2, .int .i64 x3, .int .i64 x4, .int .i64 x5, .int .i64 x6, .int .i64 x7, .int .i64 x8, .int .i64 x9, .int .i64 x10, .int .i64 x11, .int .i64 x12, .int .i64 x13, .int .i64 x14, .int .i64 x15, .int .i64 x16, .int .i64 x17] 29)
    rw [World.size_alloc] at h
    exact h
  have HF := RFlat.on HF0 bA
  generalize ((w.alloc (.cells #[.slice Ac f.code.length cc, .slice As f.secret.length cs, .int .i64 f.params, .slice Av f.arrays.length cv] 26)).alloc (.cells #[.int .i64 x0, .int .i64 x1, .int .i64 x2, .int .i64 x3, .int .i64 x4, .int .i64 x5, .int .i64 x6, .int .i64 x7, .int .i64 x8, .int .i64 x9, .int .i64 x10, .int .i64 x11, .int .i64 x12, .int .i64 x13, .int .i64 x14, .int .i64 x15, .int .i64 x16, .int .i64 x17] 29)) = wA at *
  go_upto_region 3 with (go_at_call 16; refine (alive_leg _).mono ?_; rintro e w1 ⟨rfl, hb1⟩)
  have s1 := bA.size
  have b1 : Below w.heap.size w w1 := bA.trans (hb1.mono s1)
  replace HBF1 := box_on HBF1 hb1
  replace HBT := box_on HBT hb1
  replace HF := RFlat.on HF hb1
  clear bA hb1 s1
  go_upto_region 4 with (first | (refine wpList_load_box rfl 26 _ rfl rfl (box_load Try.underlying26 (by kernel_rfl) rfl (by kernel_rfl) (box_on HBF1 (by (repeat' first | with_reducible (first | exact Below.refl _ _ | assumption | refine Below.alloc ?_ ?_ _ | refine below_drewN ?_ _ | refine Below.drew ?_ | refine Below.setCell ?_ ?_ _ | refine Below.trans ?_ (Below.mono (by with_reducible assumption) ?_)) | go_size)))) ?_) | (go_at_call 17; refine (CC.out _ b1).mono ?_; rintro e w2 ⟨rfl, hb2⟩))
  have s1 := b1.size
  have b2 : Below w.heap.size w w2 := b1.trans (hb2.mono s1)
  replace HBF1 := box_on HBF1 hb2
  replace HBT := box_on HBT hb2
  replace HF := RFlat.on HF hb2
  clear b1 hb2 s1
  by_cases h0 : er = 0
  case neg =>
    have g0 : (er != 0) = true := bne_iff_ne.2 h0
    clear h0
    go_wp2_with fail
    go_ret
    exact ⟨rfl, b2⟩
  case pos =>
  subst h0
  have HR := Lib.hid (HRT.out rfl)
  clear HRT
  by_cases hw0 : wt = 0
  case neg =>
    have g0 : (wt != 0) = true := bne_iff_ne.2 hw0
    clear hw0
    go_wp2_with (first | (refine wpList_load_box rfl 29 _ rfl rfl (box_load Try.underlying29 (by kernel_rfl) rfl (by kernel_rfl) (box_on HBT (by (repeat' first | with_reducible (first | exact Below.refl _ _ | assumption | refine Below.alloc ?_ ?_ _ | refine below_drewN ?_ _ | refine Below.drew ?_ | refine Below.setCell ?_ ?_ _ | refine Below.trans ?_ (Below.mono (by with_reducible assumption) ?_)) | go_size)))) ?_) | (refine wpList_load_boxg (by rfl) 29 _ rfl rfl (box_load Try.underlying29 (by kernel_rfl) rfl (by kernel_rfl) (box_on HBT (by (repeat' first | with_reducible (first | exact Below.refl _ _ | assumption | refine Below.alloc ?_ ?_ _ | refine below_drewN ?_ _ | refine Below.drew ?_ | refine Below.setCell ?_ ?_ _ | refine Below.trans ?_ (Below.mono (by with_reducible assumption) ?_)) | go_size)))) ?_) | (go_at_call 18; refine (CW.out _).mono ?_; rintro e w3 ⟨rfl, hb3⟩))
    go_ret
    exact ⟨rfl, by have s2 := b2.size; (repeat' first | with_reducible (first | exact Below.refl _ _ | assumption | refine Below.alloc ?_ ?_ _ | refine below_drewN ?_ _ | refine Below.drew ?_ | refine Below.setCell ?_ ?_ _ | refine Below.trans ?_ (Below.mono (by with_reducible assumption) ?_)) | go_size)⟩
  case pos =>
  subst hw0
  have CL2 := Lib.hid (CL.out rfl rfl)
  clear CL
  go_upto_region 6 with (first | (refine wpList_load_box rfl 29 _ rfl rfl (box_load Try.underlying29 (by kernel_rfl) rfl (by kernel_rfl) (box_on HBT (by (repeat' first | with_reducible (first | exact Below.refl _ _ | assumption | refine Below.alloc ?_ ?_ _ | refine below_drewN ?_ _ | refine Below.drew ?_ | refine Below.setCell ?_ ?_ _ | refine Below.trans ?_ (Below.mono (by with_reducible assumption) ?_)) | go_size)))) ?_) | (refine wpList_load_boxg (by rfl) 29 _ rfl rfl (box_load Try.underlying29 (by kernel_rfl) rfl (by kernel_rfl) (box_on HBT (by (repeat' first | with_reducible (first | exact Below.refl _ _ | assumption | refine Below.alloc ?_ ?_ _ | refine below_drewN ?_ _ | refine Below.drew ?_ | refine Below.setCell ?_ ?_ _ | refine Below.trans ?_ (Below.mono (by with_reducible assumption) ?_)) | go_size)))) ?_) | (go_at_call 18; refine (CW.out _).mono ?_; rintro e w3 ⟨rfl, hb3⟩))
  have s2 := b2.size
  have b3 : Below w.heap.size w w3 := b2.trans (hb3.mono s2)
  replace HBF1 := box_on HBF1 hb3
  replace HBT := box_on HBT hb3
  replace HF := RFlat.on HF hb3
  clear b2 hb3 s2
  have CSH : Hid (∀ (u : World) (i : Ev.Instr) (j : Nat), Below w3.heap.size w3 u → f.code[j]? = some i → Calls Try.prog 21 #[.agg #[.slice Ac f.code.length cc, .slice As f.secret.length cs, .int .i64 f.params, .slice Av f.arrays.length cv], .agg #[.int .i64 x0, .int .i64 x1, .int .i64 x2, .int .i64 x3, .int .i64 x4, .int .i64 x5, .int .i64 x6, .int .i64 x7, .int .i64 x8, .int .i64 x9, .int .i64 x10, .int .i64 x11, .int .i64 x12, .int .i64 x13, .int .i64 x14, .int .i64 x15, .int .i64 x16, .int .i64 x17], .agg #[.int .i64 i.op, .int .i64 i.d, .int .i64 i.a, .int .i64 i.b, .int .i64 i.c, .int .i64 i.imm]] u fun e w' => e = .returned (.bool (Ev.shows f t i)) ∧ Below u.heap.size u w') := by
    refine Lib.hid fun u i j hb hi => ?_
    have h := shows_any f t i j _ u (RFlat.on HF hb).out HTL.out HWT.out (HR.out.sound hi)
    rw [HTV.out] at h
    exact h
  have hfc : RCode w3 w3.heap.size (.slice Ac f.code.length cc) f.code := by
    obtain ⟨_, _, _, e, hc', _⟩ := HF.out
    injection e with e
    simp only [Array.mk.injEq, List.cons.injEq] at e
    obtain ⟨rfl, _⟩ := e
    exact hc'
  have HKD := Lib.hid hfc
  have f0 : w3.cell? ⟨w.heap.size, 0, none⟩ = some (.slice Ac f.code.length cc) := box_cell HBF1 0 rfl
  have fl := HR.out.len2
  have s3 := b3.size
  clear hfc CC CW
  go_wp2_with fail
  go_loopw [30, 7, 8] (fun kk sh nn wr => ∃ k : Nat, k ≤ f.code.length ∧ kk = .int .i64 (k : Int) ∧ sh = .int .i64 ((Ev.cnt f t (f.code.take k) : Nat) : Int) ∧ nn = .bool ((f.code.take k).any fun i => Ev.shows f t i && Ev.noWay i) ∧ Below w3.heap.size w3 wr) (fun kk _ _ _ => f.code.length - (intOf kk).toNat)
  case atStart => exact ⟨0, by omega, rfl, rfl, rfl, by (repeat' first | with_reducible (first | exact Below.refl _ _ | assumption | refine Below.alloc ?_ ?_ _ | refine below_drewN ?_ _ | refine Below.drew ?_ | refine Below.setCell ?_ ?_ _ | refine Below.trans ?_ (Below.mono (by with_reducible assumption) ?_)) | go_size)⟩
  case round =>
    obtain ⟨k, hk, rfl, rfl, rfl, hB⟩ := hrel
    have sB := hB.size
    by_cases hlt : k < f.code.length
    · as_aux_lemma =>
      obtain ⟨i, hi⟩ : ∃ i, f.code[k]? = some i := ⟨f.code[k], List.getElem?_eq_getElem hlt⟩
      obtain ⟨b1, o1, r1, hv, hb1, _, _, _, p0, p1, p2, p3, p4, p5⟩ := RCode.at_ (SL.at_ HKD.out hB (Nat.le_refl _)) hi
      injection hv with hA _ hcr
      subst hA hcr
      have HI := Lib.hid hi
      have hcn : Ev.cnt f t (f.code.take k) ≤ 12000 := by
        unfold Ev.cnt
        refine Nat.le_trans (List.length_filter_le _ _) ?_
        rw [List.length_take]
        omega
      have htk : f.code.take (k + 1) = f.code.take k ++ [i] := by rw [List.take_add_one, hi]; rfl
      have hc1 : Ev.cnt f t (f.code.take (k + 1)) = Ev.cnt f t (f.code.take k) + if Ev.shows f t i then 1 else 0 := by
        unfold Ev.cnt
        rw [htk, List.filter_append, List.length_append]
        congr 1
        cases h : Ev.shows f t i <;> simp [h]
      have hn1 : ((f.code.take (k + 1)).any fun i => Ev.shows f t i && Ev.noWay i) = (((f.code.take k).any fun i => Ev.shows f t i && Ev.noWay i) || (Ev.shows f t i && Ev.noWay i)) := by rw [htk, List.any_append]; simp
      have HC1 := Lib.hid hc1
      have HN1 := Lib.hid hn1
      replace f0 : wr.cell? ⟨w.heap.size, 0, none⟩ = some (.slice (some ⟨b1, o1, none⟩) f.code.length cc) := (hB.cell (p := ⟨w.heap.size, 0, none⟩) (box_lt HBF1)).trans f0
      clear hi htk hc1 hn1
      generalize Ev.cnt f t (f.code.take k) = cn at *
      generalize ((f.code.take k).any fun i => Ev.shows f t i && Ev.noWay i) = an at *
      have CS := Lib.hid (fun (u : World) (hb : Below w3.heap.size w3 u) => CSH.out u i k hb HI.out)
      cases hs : Ev.shows f t i with
      | false =>
        rw [hs] at CS
        have E1 : Hid (Ev.cnt f t (f.code.take (k + 1)) = cn) := Lib.hid (by rw [HC1.out, hs]; rfl)
        have E2 : Hid (((f.code.take (k + 1)).any fun i => Ev.shows f t i && Ev.noWay i) = an) := Lib.hid (by rw [HN1.out, hs]; simp)
        clear hs
        go_wp2_with (first | (refine wpList_load_box rfl 26 _ rfl rfl (box_load Try.underlying26 (by kernel_rfl) rfl (by kernel_rfl) (box_on HBF1 (by (repeat' first | with_reducible (first | exact Below.refl _ _ | assumption | refine Below.alloc ?_ ?_ _ | refine below_drewN ?_ _ | refine Below.drew ?_ | refine Below.setCell ?_ ?_ _ | refine Below.trans ?_ (Below.mono (by with_reducible assumption) ?_)) | go_size)))) ?_) | (refine wpList_load_box rfl 29 _ rfl rfl (box_load Try.underlying29 (by kernel_rfl) rfl (by kernel_rfl) (box_on HBT (by (repeat' first | with_reducible (first | exact Below.refl _ _ | assumption | refine Below.alloc ?_ ?_ _ | refine below_drewN ?_ _ | refine Below.drew ?_ | refine Below.setCell ?_ ?_ _ | refine Below.trans ?_ (Below.mono (by with_reducible assumption) ?_)) | go_size)))) ?_) | (refine wpList_load_boxg (by rfl) 29 _ rfl rfl (box_load Try.underlying29 (by kernel_rfl) rfl (by kernel_rfl) (box_on HBT (by (repeat' first | with_reducible (first | exact Below.refl _ _ | assumption | refine Below.alloc ?_ ?_ _ | refine below_drewN ?_ _ | refine Below.drew ?_ | refine Below.setCell ?_ ?_ _ | refine Below.trans ?_ (Below.mono (by with_reducible assumption) ?_)) | go_size)))) ?_) | (go_at_call 21; refine (CS.out _ (by (repeat' first | with_reducible (first | exact Below.refl _ _ | assumption | refine Below.alloc ?_ ?_ _ | refine below_drewN ?_ _ | refine Below.drew ?_ | refine Below.setCell ?_ ?_ _ | refine Below.trans ?_ (Below.mono (by with_reducible assumption) ?_)) | go_size))).mono ?_; rintro e w7 ⟨rfl, hb7⟩; have s7 := hb7.size; simp only [World.size_alloc] at s7))
        go_roundw
        case rel => exact ⟨k + 1, by omega, by go_num, by rw [E1.out], by rw [E2.out], by (repeat' first | with_reducible (first | exact Below.refl _ _ | assumption | refine Below.alloc ?_ ?_ _ | refine below_drewN ?_ _ | refine Below.drew ?_ | refine Below.setCell ?_ ?_ _ | refine Below.trans ?_ (Below.mono (by with_reducible assumption) ?_)) | go_size)⟩
        case measure => simp [intOf]; omega
      | true =>
        rw [hs] at CS
        have E1 : Hid (Ev.cnt f t (f.code.take (k + 1)) = cn + 1) := Lib.hid (by rw [HC1.out, hs]; rfl)
        have E2 : Hid (((f.code.take (k + 1)).any fun i => Ev.shows f t i && Ev.noWay i) = (an || Ev.noWay i)) := Lib.hid (by rw [HN1.out, hs]; simp)
        clear hs
        go_upto_region 12 with (first | (refine wpList_load_box rfl 26 _ rfl rfl (box_load Try.underlying26 (by kernel_rfl) rfl (by kernel_rfl) (box_on HBF1 (by (repeat' first | with_reducible (first | exact Below.refl _ _ | assumption | refine Below.alloc ?_ ?_ _ | refine below_drewN ?_ _ | refine Below.drew ?_ | refine Below.setCell ?_ ?_ _ | refine Below.trans ?_ (Below.mono (by with_reducible assumption) ?_)) | go_size)))) ?_) | (refine wpList_load_box rfl 29 _ rfl rfl (box_load Try.underlying29 (by kernel_rfl) rfl (by kernel_rfl) (box_on HBT (by (repeat' first | with_reducible (first | exact Below.refl _ _ | assumption | refine Below.alloc ?_ ?_ _ | refine below_drewN ?_ _ | refine Below.drew ?_ | refine Below.setCell ?_ ?_ _ | refine Below.trans ?_ (Below.mono (by with_reducible assumption) ?_)) | go_size)))) ?_) | (refine wpList_load_boxg (by rfl) 29 _ rfl rfl (box_load Try.underlying29 (by kernel_rfl) rfl (by kernel_rfl) (box_on HBT (by (repeat' first | with_reducible (first | exact Below.refl _ _ | assumption | refine Below.alloc ?_ ?_ _ | refine below_drewN ?_ _ | refine Below.drew ?_ | refine Below.setCell ?_ ?_ _ | refine Below.trans ?_ (Below.mono (by with_reducible assumption) ?_)) | go_size)))) ?_) | (go_at_call 21; refine (CS.out _ (by (repeat' first | with_reducible (first | exact Below.refl _ _ | assumption | refine Below.alloc ?_ ?_ _ | refine below_drewN ?_ _ | refine Below.drew ?_ | refine Below.setCell ?_ ?_ _ | refine Below.trans ?_ (Below.mono (by with_reducible assumption) ?_)) | go_size))).mono ?_; rintro e w7 ⟨rfl, hb7⟩; have s7 := hb7.size; simp only [World.size_alloc] at s7))
        have i0 : w7.cell? ⟨wr.heap.size, 0, none⟩ = some (.int .i64 i.op) := (hb7.cell (p := ⟨wr.heap.size, 0, none⟩) (by simp)).trans (by rw [World.cell?_alloc_at _ _ _ _ rfl]; rfl)
        have b7 : Below w3.heap.size w3 w7 := by (repeat' first | with_reducible (first | exact Below.refl _ _ | assumption | refine Below.alloc ?_ ?_ _ | refine below_drewN ?_ _ | refine Below.drew ?_ | refine Below.setCell ?_ ?_ _ | refine Below.trans ?_ (Below.mono (by with_reducible assumption) ?_)) | go_size)
        clear p0 p1 p2 p3 p4 p5 hb7 hB f0
        rcases (show i.op = 1 ∨ i.op = 2 ∨ i.op = 3 ∨ i.op = 4 ∨ i.op = 5 ∨ i.op = 15 ∨ i.op = 17 ∨ (i.op ≠ 1 ∧ i.op ≠ 2 ∧ i.op ≠ 3 ∧ i.op ≠ 4 ∧ i.op ≠ 5 ∧ i.op ≠ 15 ∧ i.op ≠ 17) by omega) with h | h | h | h | h | h | h | h
        · have E3 : Hid (Ev.noWay i = true) := Lib.hid (by unfold Ev.noWay; rw [decide_eq_true (by omega)])
          have g1 : (i.op == 1) = true := beq_iff_eq.2 h
          clear h
          go_wp2_with fail
          go_roundw
          case rel => exact ⟨k + 1, by omega, by go_num, by rw [E1.out]; go_num, by rw [E2.out, E3.out]; simp, b7⟩
          case measure => simp [intOf]; omega
        · have E3 : Hid (Ev.noWay i = true) := Lib.hid (by unfold Ev.noWay; rw [decide_eq_true (by omega)])
          have g1 : (i.op == 1) = false := beq_eq_false_iff_ne.2 (by omega)
          have g2 : (i.op == 2) = true := beq_iff_eq.2 h
          clear h
          go_wp2_with fail
          go_roundw
          case rel => exact ⟨k + 1, by omega, by go_num, by rw [E1.out]; go_num, by rw [E2.out, E3.out]; simp, b7⟩
          case measure => simp [intOf]; omega
        · have E3 : Hid (Ev.noWay i = true) := Lib.hid (by unfold Ev.noWay; rw [decide_eq_true (by omega)])
          have g1 : (i.op == 1) = false := beq_eq_false_iff_ne.2 (by omega)
          have g2 : (i.op == 2) = false := beq_eq_false_iff_ne.2 (by omega)
          have g3 : (i.op == 3) = true := beq_iff_eq.2 h
          clear h
          go_wp2_with fail
          go_roundw
          case rel => exact ⟨k + 1, by omega, by go_num, by rw [E1.out]; go_num, by rw [E2.out, E3.out]; simp, b7⟩
          case measure => simp [intOf]; omega
        · have E3 : Hid (Ev.noWay i = true) := Lib.hid (by unfold Ev.noWay; rw [decide_eq_true (by omega)])
          have g1 : (i.op == 1) = false := beq_eq_false_iff_ne.2 (by omega)
          have g2 : (i.op == 2) = false := beq_eq_false_iff_ne.2 (by omega)
          have g3 : (i.op == 3) = false := beq_eq_false_iff_ne.2 (by omega)
          have g4 : (i.op == 4) = true := beq_iff_eq.2 h
          clear h
          go_wp2_with fail
          go_roundw
          case rel => exact ⟨k + 1, by omega, by go_num, by rw [E1.out]; go_num, by rw [E2.out, E3.out]; simp, b7⟩
          case measure => simp [intOf]; omega
        · have E3 : Hid (Ev.noWay i = true) := Lib.hid (by unfold Ev.noWay; rw [decide_eq_true (by omega)])
          have g1 : (i.op == 1) = false := beq_eq_false_iff_ne.2 (by omega)
          have g2 : (i.op == 2) = false := beq_eq_false_iff_ne.2 (by omega)
          have g3 : (i.op == 3) = false := beq_eq_false_iff_ne.2 (by omega)
          have g4 : (i.op == 4) = false := beq_eq_false_iff_ne.2 (by omega)
          have g5 : (i.op == 5) = true := beq_iff_eq.2 h
          clear h
          go_wp2_with fail
          go_roundw
          case rel => exact ⟨k + 1, by omega, by go_num, by rw [E1.out]; go_num, by rw [E2.out, E3.out]; simp, b7⟩
          case measure => simp [intOf]; omega
        · have E3 : Hid (Ev.noWay i = true) := Lib.hid (by unfold Ev.noWay; rw [decide_eq_true (by omega)])
          have g1 : (i.op == 1) = false := beq_eq_false_iff_ne.2 (by omega)
          have g2 : (i.op == 2) = false := beq_eq_false_iff_ne.2 (by omega)
          have g3 : (i.op == 3) = false := beq_eq_false_iff_ne.2 (by omega)
          have g4 : (i.op == 4) = false := beq_eq_false_iff_ne.2 (by omega)
          have g5 : (i.op == 5) = false := beq_eq_false_iff_ne.2 (by omega)
          have g15 : (i.op == 15) = true := beq_iff_eq.2 h
          clear h
          go_wp2_with fail
          go_roundw
          case rel => exact ⟨k + 1, by omega, by go_num, by rw [E1.out]; go_num, by rw [E2.out, E3.out]; simp, b7⟩
          case measure => simp [intOf]; omega
        · have E3 : Hid (Ev.noWay i = true) := Lib.hid (by unfold Ev.noWay; rw [decide_eq_true (by omega)])
          have g1 : (i.op == 1) = false := beq_eq_false_iff_ne.2 (by omega)
          have g2 : (i.op == 2) = false := beq_eq_false_iff_ne.2 (by omega)
          have g3 : (i.op == 3) = false := beq_eq_false_iff_ne.2 (by omega)
          have g4 : (i.op == 4) = false := beq_eq_false_iff_ne.2 (by omega)
          have g5 : (i.op == 5) = false := beq_eq_false_iff_ne.2 (by omega)
          have g15 : (i.op == 15) = false := beq_eq_false_iff_ne.2 (by omega)
          have g17 : (i.op == 17) = true := beq_iff_eq.2 h
          clear h
          go_wp2_with fail
          go_roundw
          case rel => exact ⟨k + 1, by omega, by go_num, by rw [E1.out]; go_num, by rw [E2.out, E3.out]; simp, b7⟩
          case measure => simp [intOf]; omega
        · have E3 : Hid (Ev.noWay i = false) := Lib.hid (by unfold Ev.noWay; rw [decide_eq_false (by omega)])
          have g1 : (i.op == 1) = false := beq_eq_false_iff_ne.2 (by omega)
          have g2 : (i.op == 2) = false := beq_eq_false_iff_ne.2 (by omega)
          have g3 : (i.op == 3) = false := beq_eq_false_iff_ne.2 (by omega)
          have g4 : (i.op == 4) = false := beq_eq_false_iff_ne.2 (by omega)
          have g5 : (i.op == 5) = false := beq_eq_false_iff_ne.2 (by omega)
          have g15 : (i.op == 15) = false := beq_eq_false_iff_ne.2 (by omega)
          have g17 : (i.op == 17) = false := beq_eq_false_iff_ne.2 (by omega)
          clear h
          go_wp2_with fail
          go_roundw
          case rel => exact ⟨k + 1, by omega, by go_num, by rw [E1.out]; go_num, by rw [E2.out, E3.out]; simp, b7⟩
          case measure => simp [intOf]; omega
    · obtain rfl : k = f.code.length := by omega
      as_aux_lemma =>
      have hcn : Ev.cnt f t f.code ≤ 12000 := by
        unfold Ev.cnt
        exact Nat.le_trans (List.length_filter_le _ _) fl
      have HWH : Hid (f.code.length + 1000 * Ev.cnt f t f.code ≤ 12000 → (Ev.cnt f t f.code = 0 → el = 0) ∧ ((∃ i ∈ f.code, Ev.shows f t i = true ∧ Ev.noWay i = true) → el = 11) ∧ ((∀ i ∈ f.code, Ev.shows f t i = true → Ev.noWay i = false) → Ev.plainT t = true → el = 0)) := Lib.hid (fun h => by
        have := Ev.legal_when HR.out HWT.out h
        rw [HLG.out] at this
        exact this)
      have htl : f.code.take f.code.length = f.code := List.take_length
      rw [htl]
      have HAN : Hid (∀ b, (f.code.any fun i => Ev.shows f t i && Ev.noWay i) = b → (b = true → ∃ i ∈ f.code, Ev.shows f t i = true ∧ Ev.noWay i = true) ∧ (b = false → ∀ i ∈ f.code, Ev.shows f t i = true → Ev.noWay i = false)) := Lib.hid (fun b hb => by
        refine ⟨fun h => ?_, fun h i hi hs => ?_⟩
        · rw [h] at hb
          obtain ⟨i, hi, h2⟩ := List.any_eq_true.1 hb
          rw [Bool.and_eq_true] at h2
          exact ⟨i, hi, h2⟩
        · rw [h] at hb
          have := List.any_eq_false.1 hb i hi
          rw [hs] at this
          simpa using this)
      have HBW := hB
      have b4 : Below w.heap.size w wr := b3.trans (hB.mono s3)
      replace HBF1 := box_on HBF1 hB
      replace HBT := box_on HBT hB
      clear f0 hB HBW htl sB
      obtain ⟨cn, hcv⟩ : ∃ cn, Ev.cnt f t f.code = cn := ⟨_, rfl⟩
      obtain ⟨an, hav⟩ : ∃ an, (f.code.any fun i => Ev.shows f t i && Ev.noWay i) = an := ⟨_, rfl⟩
      have HA2 := Lib.hid (HAN.out an hav)
      rw [hcv] at HWH hcn ⊢
      rw [hav]
      clear hcv hav HAN
      go_upto_region 23 with (first | (refine wpList_load_box rfl 26 _ rfl rfl (box_load Try.underlying26 (by kernel_rfl) rfl (by kernel_rfl) (box_on HBF1 (by (repeat' first | with_reducible (first | exact Below.refl _ _ | assumption | refine Below.alloc ?_ ?_ _ | refine below_drewN ?_ _ | refine Below.drew ?_ | refine Below.setCell ?_ ?_ _ | refine Below.trans ?_ (Below.mono (by with_reducible assumption) ?_)) | go_size)))) ?_) | (refine wpList_load_box rfl 29 _ rfl rfl (box_load Try.underlying29 (by kernel_rfl) rfl (by kernel_rfl) (box_on HBT (by (repeat' first | with_reducible (first | exact Below.refl _ _ | assumption | refine Below.alloc ?_ ?_ _ | refine below_drewN ?_ _ | refine Below.drew ?_ | refine Below.setCell ?_ ?_ _ | refine Below.trans ?_ (Below.mono (by with_reducible assumption) ?_)) | go_size)))) ?_) | (refine wpList_load_boxg (by rfl) 29 _ rfl rfl (box_load Try.underlying29 (by kernel_rfl) rfl (by kernel_rfl) (box_on HBT (by (repeat' first | with_reducible (first | exact Below.refl _ _ | assumption | refine Below.alloc ?_ ?_ _ | refine below_drewN ?_ _ | refine Below.drew ?_ | refine Below.setCell ?_ ?_ _ | refine Below.trans ?_ (Below.mono (by with_reducible assumption) ?_)) | go_size)))) ?_) | (go_at_call 19; refine (CL2.out _ b4).mono ?_; rintro e w8 ⟨A1, c1, A2, c2, A3, c3, rfl, HX, hb8⟩))
      have s8 := hb8.size
      have s4 := b4.size
      have bC : Below wr.heap.size wr (w8.alloc (.cells #[.slice A1 x.code.length c1, .slice A2 x.secret.length c2, .int .i64 x.params, .slice A3 x.arrays.length c3] 26)) := by (repeat' first | with_reducible (first | exact Below.refl _ _ | assumption | refine Below.alloc ?_ ?_ _ | refine below_drewN ?_ _ | refine Below.drew ?_ | refine Below.setCell ?_ ?_ _ | refine Below.trans ?_ (Below.mono (by with_reducible assumption) ?_)) | go_size)
      have f0 : (w8.alloc (.cells #[.slice A1 x.code.length c1, .slice A2 x.secret.length c2, .int .i64 x.params, .slice A3 x.arrays.length c3] 26)).cell? ⟨w.heap.size, 0, none⟩ = some (.slice Ac f.code.length cc) := box_cell (box_on HBF1 bC) 0 rfl
      replace HBT := box_on HBT bC
      have b5 : Below w.heap.size w (w8.alloc (.cells #[.slice A1 x.code.length c1, .slice A2 x.secret.length c2, .int .i64 x.params, .slice A3 x.arrays.length c3] 26)) := b4.trans (bC.mono s4)
      clear HX hb8 bC CL2 b4
      generalize w8.alloc (.cells #[.slice A1 x.code.length c1, .slice A2 x.secret.length c2, .int .i64 x.params, .slice A3 x.arrays.length c3] 26) = wE at *
      by_cases hbig : 12000 < f.code.length + 1000 * cn
      · have gb : decide ((12000 : Int) < (f.code.length : Int) + 1000 * (cn : Int)) = true := decide_eq_true (by omega)
        clear hbig
        go_wp2_with fail
        go_ret
        exact ⟨rfl, b5⟩
      have gb : decide ((12000 : Int) < (f.code.length : Int) + 1000 * (cn : Int)) = false := decide_eq_false (by omega)
      obtain ⟨w1, w2, w3'⟩ := HWH.out (by omega)
      have W1 := Lib.hid w1
      have W2 := Lib.hid w2
      have W3 := Lib.hid w3'
      clear hbig w1 w2 w3' HWH
      by_cases h0 : cn = 0
      · have g0 : ((cn : Int) == 0) = true := by rw [h0]; rfl
        have ge : (el == 0) = true := beq_iff_eq.2 (W1.out h0)
        clear h0
        go_wp2_with fail
        go_ret
        exact ⟨rfl, b5⟩
      have g0 : ((cn : Int) == 0) = false := beq_eq_false_iff_ne.2 (by omega)
      clear h0
      cases an with
      | true =>
        have ge : (el == 11) = true := beq_iff_eq.2 (W2.out (HA2.out.1 rfl))
        go_wp2_with fail
        go_ret
        exact ⟨rfl, b5⟩
      | false =>
        have HA3 := Lib.hid (HA2.out.2 rfl)
        clear HA2
        obtain ⟨pt, hpt⟩ : ∃ pt, Ev.plainT t = pt := ⟨_, rfl⟩
        have CP : Hid (∀ u : World, Calls Try.prog 25 #[.agg #[.int .i64 x0, .int .i64 x1, .int .i64 x2, .int .i64 x3, .int .i64 x4, .int .i64 x5, .int .i64 x6, .int .i64 x7, .int .i64 x8, .int .i64 x9, .int .i64 x10, .int .i64 x11, .int .i64 x12, .int .i64 x13, .int .i64 x14, .int .i64 x15, .int .i64 x16, .int .i64 x17]] u fun e w' => e = .returned (.bool pt) ∧ Below u.heap.size u w') := by
          refine Lib.hid fun u => ?_
          have h := plain_any t u HTL.out HWT.out
          rw [HTV.out, hpt] at h
          exact h
        have HPT := Lib.hid hpt
        clear hpt
        cases pt with
        | false =>
          go_wp2_with (first | (refine wpList_load_box rfl 29 _ rfl rfl (box_load Try.underlying29 (by kernel_rfl) rfl (by kernel_rfl) (box_on HBT (by (repeat' first | with_reducible (first | exact Below.refl _ _ | assumption | refine Below.alloc ?_ ?_ _ | refine below_drewN ?_ _ | refine Below.drew ?_ | refine Below.setCell ?_ ?_ _ | refine Below.trans ?_ (Below.mono (by with_reducible assumption) ?_)) | go_size)))) ?_) | (refine wpList_load_boxg (by rfl) 29 _ rfl rfl (box_load Try.underlying29 (by kernel_rfl) rfl (by kernel_rfl) (box_on HBT (by (repeat' first | with_reducible (first | exact Below.refl _ _ | assumption | refine Below.alloc ?_ ?_ _ | refine below_drewN ?_ _ | refine Below.drew ?_ | refine Below.setCell ?_ ?_ _ | refine Below.trans ?_ (Below.mono (by with_reducible assumption) ?_)) | go_size)))) ?_) | (go_at_call 25; refine (CP.out _).mono ?_; rintro e w9 ⟨rfl, hb9⟩))
          go_ret
          exact ⟨rfl, by have s5 := b5.size; (repeat' first | with_reducible (first | exact Below.refl _ _ | assumption | refine Below.alloc ?_ ?_ _ | refine below_drewN ?_ _ | refine Below.drew ?_ | refine Below.setCell ?_ ?_ _ | refine Below.trans ?_ (Below.mono (by with_reducible assumption) ?_)) | go_size)⟩
        | true =>
          have ge : (el == 0) = true := beq_iff_eq.2 (W3.out HA3.out HPT.out)
          go_wp2_with (first | (refine wpList_load_box rfl 29 _ rfl rfl (box_load Try.underlying29 (by kernel_rfl) rfl (by kernel_rfl) (box_on HBT (by (repeat' first | with_reducible (first | exact Below.refl _ _ | assumption | refine Below.alloc ?_ ?_ _ | refine below_drewN ?_ _ | refine Below.drew ?_ | refine Below.setCell ?_ ?_ _ | refine Below.trans ?_ (Below.mono (by with_reducible assumption) ?_)) | go_size)))) ?_) | (refine wpList_load_boxg (by rfl) 29 _ rfl rfl (box_load Try.underlying29 (by kernel_rfl) rfl (by kernel_rfl) (box_on HBT (by (repeat' first | with_reducible (first | exact Below.refl _ _ | assumption | refine Below.alloc ?_ ?_ _ | refine below_drewN ?_ _ | refine Below.drew ?_ | refine Below.setCell ?_ ?_ _ | refine Below.trans ?_ (Below.mono (by with_reducible assumption) ?_)) | go_size)))) ?_) | (go_at_call 25; refine (CP.out _).mono ?_; rintro e w9 ⟨rfl, hb9⟩))
          go_ret
          exact ⟨rfl, by have s5 := b5.size; (repeat' first | with_reducible (first | exact Below.refl _ _ | assumption | refine Below.alloc ?_ ?_ _ | refine below_drewN ?_ _ | refine Below.drew ?_ | refine Below.setCell ?_ ?_ _ | refine Below.trans ?_ (Below.mono (by with_reducible assumption) ?_)) | go_size)⟩
end Go.Proofs.Ytljcgcllhcdleaa
