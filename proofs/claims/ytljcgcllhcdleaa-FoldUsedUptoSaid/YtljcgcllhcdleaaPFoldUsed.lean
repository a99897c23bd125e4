import Derived.Test.YtljcgcllhcdleaaFo32
import Derived.Test.YtljcgcllhcdleaaPFoldShows
import Derived.Test.YtljcgcllhcdleaaPRead
import Derived.Deep.DeepCutAuto
/- evlaw9.FoldUsed. -/
namespace Go.Proofs.Ytljcgcllhcdleaa
open Go.RowKit
set_option linter.unusedSimpArgs false
set_option linter.unusedVariables false
set_option maxRecDepth 16000 in
set_option maxHeartbeats 6400000 in
theorem foldUsed_walk (f : Ev.Flat) (vf : Value) (w : World) (hf : RFlat w w.heap.size vf f) (hbf : f.code.length + f.secret.length + f.arrays.length ≤ 1048576) :
    Calls Try.prog 7 #[vf] w fun e w' => e = .returned (.bool true) ∧ Below w.heap.size w w' := by
  have HF0 := Lib.hid hf
  obtain ⟨Ac, cc, As, cs, Av, cv, rfl⟩ := hf.slices
  have HBF := Lib.hid hbf
  clear hf hbf
  obtain ⟨er, ek, hck⟩ : ∃ er ek, Ev.check f = (er, ek) := ⟨_, _, rfl⟩
  have HRT := Lib.hid (show er = 0 → Ev.Right f from fun h0 => Ev.right_of_check (by rw [hck]; exact h0))
  have CC : Hid (∀ u : World, Below w.heap.size w u → Calls Try.prog 17 #[.agg #[.slice Ac f.code.length cc, .slice As f.secret.length cs, .int .i64 f.params, .slice Av f.arrays.length cv]] u fun e w' => e = .returned (.tuple #[.int .i64 er, .int .i64 ek]) ∧ Below u.heap.size u w') := by
    intro u hb
    have h := refCheck_any f _ u (RFlat.on HF0 hb).out
    rw [hck] at h
    exact h
  clear hck
  obtain ⟨x, hx⟩ : ∃ x, Ev.foldF f = x := ⟨_, rfl⟩
  have HX := Lib.hid hx
  have HXR := Lib.hid (show er = 0 → Ev.Right x from fun h0 => by rw [← hx]; exact Ev.fold_right (HRT.out h0))
  have CF : Hid (er = 0 → ∀ u : World, Below w.heap.size w u → Calls Try.prog 29 #[.agg #[.slice Ac f.code.length cc, .slice As f.secret.length cs, .int .i64 f.params, .slice Av f.arrays.length cv]] u fun e w' => ∃ Ap cp Aq cq Ar cr, e = .returned (.agg #[.slice Ap x.code.length cp, .slice Aq x.secret.length cq, .int .i64 x.params, .slice Ar x.arrays.length cr]) ∧ Hid (RFlat w' w'.heap.size (.agg #[.slice Ap x.code.length cp, .slice Aq x.secret.length cq, .int .i64 x.params, .slice Ar x.arrays.length cr]) x) ∧ Below u.heap.size u w') := by
    intro h0 u hb
    have h := fold_any f _ u (RFlat.on HF0 hb).out (HRT.out h0) (by have := HBF.out; omega) (by have := HBF.out; omega)
    rw [hx] at h
    refine h.mono ?_
    rintro e w' ⟨v, rfl, hR, _, hb⟩
    obtain ⟨Ap, cp, Aq, cq, Ar, cr, rfl⟩ := hR.slices
    exact ⟨Ap, cp, Aq, cq, Ar, cr, rfl, Lib.hid hR, hb⟩
  have HXS : Hid (x.secret = f.secret ∧ x.arrays = f.arrays) := Lib.hid (by rw [← hx]; exact ⟨rfl, rfl⟩)
  clear hx
  go_enter Try.func7, Try.ntmps7
  go_upto_region 1 with fail
  have bA : Below w.heap.size w (w.alloc (.cells #[.slice Ac f.code.length cc, .slice As f.secret.length cs, .int .i64 f.params, .slice Av f.arrays.length cv] 26)) := by (repeat' first | with_reducible (first | exact Below.refl _ _ | assumption | refine Below.alloc ?_ ?_ _ | refine below_drewN ?_ _ | refine Below.drew ?_ | refine Below.setCell ?_ ?_ _ | refine Below.trans ?_ (Below.mono (by with_reducible assumption) ?_)) | go_size)
  have HBF1 := box_new w (.cells #[.slice Ac f.code.length cc, .slice As f.secret.length cs, .int .i64 f.params, .slice Av f.arrays.length cv] 26)
  have HF := RFlat.on HF0 bA
  generalize w.alloc (.cells #[.slice Ac f.code.length cc, .slice As f.secret.length cs, .int .i64 f.params, .slice Av f.arrays.length cv] 26) = wA at *
  go_upto_region 3 with (go_at_call 26; refine (alive_fold _).mono ?_; rintro e w1 ⟨rfl, hb1⟩)
  have s1 := bA.size
  have b1 : Below w.heap.size w w1 := bA.trans (hb1.mono s1)
  replace HBF1 := box_on HBF1 hb1
  replace HF := RFlat.on HF hb1
  clear bA hb1 s1
  go_upto_region 4 with (first | (refine wpList_load_box rfl 26 _ rfl rfl (box_load Try.underlying26 (by kernel_rfl) rfl (by kernel_rfl) (box_on HBF1 (by (repeat' first | with_reducible (first | exact Below.refl _ _ | assumption | refine Below.alloc ?_ ?_ _ | refine below_drewN ?_ _ | refine Below.drew ?_ | refine Below.setCell ?_ ?_ _ | refine Below.trans ?_ (Below.mono (by with_reducible assumption) ?_)) | go_size)))) ?_) | (go_at_call 17; refine (CC.out _ b1).mono ?_; rintro e w2 ⟨rfl, hb2⟩))
  have s1 := b1.size
  have b2 : Below w.heap.size w w2 := b1.trans (hb2.mono s1)
  replace HBF1 := box_on HBF1 hb2
  replace HF := RFlat.on HF hb2
  clear b1 hb2 s1
  by_cases h0 : er = 0
  case neg =>
    have g0 : (er != 0) = true := bne_iff_ne.2 h0
    clear h0
    go_wp2_with fail
    go_ret
    exact ⟨rfl, b2⟩
  case pos =>
  subst h0
  have HR := Lib.hid (HRT.out rfl)
  have HXR1 := Lib.hid (HXR.out rfl)
  have CF1 := Lib.hid (CF.out rfl)
  clear HRT HXR CF
  go_upto_region 7 with (first | (refine wpList_load_box rfl 26 _ rfl rfl (box_load Try.underlying26 (by kernel_rfl) rfl (by kernel_rfl) (box_on HBF1 (by (repeat' first | with_reducible (first | exact Below.refl _ _ | assumption | refine Below.alloc ?_ ?_ _ | refine below_drewN ?_ _ | refine Below.drew ?_ | refine Below.setCell ?_ ?_ _ | refine Below.trans ?_ (Below.mono (by with_reducible assumption) ?_)) | go_size)))) ?_) | (go_at_call 29; refine (CF1.out _ b2).mono ?_; rintro e w3 ⟨Ap, cp, Aq, cq, Ar, cr, rfl, HX1, hb3⟩))
  have HBX := box_new w3 (.cells #[.slice Ap x.code.length cp, .slice Aq x.secret.length cq, .int .i64 x.params, .slice Ar x.arrays.length cr] 26)
  have bX : Below w3.heap.size w3 (w3.alloc (.cells #[.slice Ap x.code.length cp, .slice Aq x.secret.length cq, .int .i64 x.params, .slice Ar x.arrays.length cr] 26)) := (Below.refl _ _).alloc (Nat.le_refl _) _
  replace HX1 := RFlat.on HX1 bX
  have s2 := b2.size
  have s3 := hb3.size
  have b3 : Below w.heap.size w (w3.alloc (.cells #[.slice Ap x.code.length cp, .slice Aq x.secret.length cq, .int .i64 x.params, .slice Ar x.arrays.length cr] 26)) := (b2.trans (hb3.mono s2)).alloc (by omega) _
  generalize w3.alloc (.cells #[.slice Ap x.code.length cp, .slice Aq x.secret.length cq, .int .i64 x.params, .slice Ar x.arrays.length cr] 26) = w4 at *
  generalize w3.heap.size = bx at *
  clear b2 hb3 bX HBF1 HF
  have CX := Lib.hid (fun (u : World) (hb : Below w4.heap.size w4 u) => check_right x _ u (RFlat.on HX1 hb).out HXR1.out)
  go_upto_region 10 with (first | (refine wpList_load_box rfl 26 _ rfl rfl (box_load Try.underlying26 (by kernel_rfl) rfl (by kernel_rfl) HBX) ?_) | (go_at_call 17; refine (CX.out _ (Below.refl _ _)).mono ?_; rintro e w5 ⟨rfl, hb5⟩))
  replace HX1 := RFlat.on HX1 hb5
  replace HBX := box_on HBX hb5
  have s4 := b3.size
  have b5 : Below w.heap.size w w5 := b3.trans (hb5.mono s4)
  clear hb5 b3 CX
  have HXC := Lib.hid (code_of HX1.out)
  obtain ⟨_, _, e, hxx1, hxx⟩ := SL.form HXC.out
  injection e with e1 e2 e3
  subst e1 e3
  unfold maxLen at hxx
  have CRD : Hid (∀ (u : World) (i : Ev.Instr) (k : Nat), Below w5.heap.size w5 u → x.code[k]? = some i → Ev.makes i = true → Calls Try.prog 31 #[.slice Ap x.code.length cp, .int .i64 ((k : Int) + 1), .int .i64 i.d] u fun e w' => e = .returned (.bool true) ∧ Below u.heap.size u w') := Lib.hid (fun u i k hb hi hm => by
    have hlt := (List.getElem?_eq_some_iff.1 hi).1
    have h := read_any x.code (k + 1) i.d _ u (SL.at_ HXC.out hb (Nat.le_refl _)) (by have := HXR1.out.len2; omega) (by omega) (fun j hj hop => by
      obtain ⟨q, hq⟩ := List.getElem?_of_mem hj
      have h1 := HXR1.out.len2
      have h2 := (HXR1.out.sound hq).jump hop
      exact ⟨by omega, by omega⟩)
    rw [show Ev.readIn x.code (k + 1) i.d = true by rw [← HX.out] at hi ⊢; exact Ev.fold_read HR.out hi hm] at h
    exact h)
  have q0 : w5.cell? ⟨bx, 0, none⟩ = some (.slice Ap x.code.length cp) := box_cell HBX 0 rfl
  have s6 := b5.size
  have xl := HXR1.out.len2
  clear HX1 HX HR HXR1 HXS HF0 CC CF1 HBF
  go_wp2_with fail
  go_loopw [31] (fun kk wr => ∃ k : Nat, k ≤ x.code.length ∧ kk = .int .i64 (k : Int) ∧ Below w5.heap.size w5 wr) (fun kk _ => x.code.length - (intOf kk).toNat)
  case atStart => exact ⟨0, by omega, rfl, by (repeat' first | with_reducible (first | exact Below.refl _ _ | assumption | refine Below.alloc ?_ ?_ _ | refine below_drewN ?_ _ | refine Below.drew ?_ | refine Below.setCell ?_ ?_ _ | refine Below.trans ?_ (Below.mono (by with_reducible assumption) ?_)) | go_size)⟩
  case round =>
    obtain ⟨k, hk, rfl, hB⟩ := hrel
    have sB := hB.size
    by_cases hlt : k < x.code.length
    case neg =>
      go_wp2_with fail
      go_ret
      exact ⟨rfl, by (repeat' first | with_reducible (first | exact Below.refl _ _ | assumption | refine Below.alloc ?_ ?_ _ | refine below_drewN ?_ _ | refine Below.drew ?_ | refine Below.setCell ?_ ?_ _ | refine Below.trans ?_ (Below.mono (by with_reducible assumption) ?_)) | go_size)⟩
    case pos =>
    obtain ⟨i, hi⟩ : ∃ i, x.code[k]? = some i := ⟨x.code[k], List.getElem?_eq_getElem hlt⟩
    obtain ⟨b1, o1, r1, hv, hb1, _, _, _, p0, p1, p2, p3, p4, p5⟩ := RCode.at_ (SL.at_ HXC.out hB (Nat.le_refl _)) hi
    injection hv with hA _ hcr
    subst hA hcr
    have HI := Lib.hid hi
    clear hi
    replace q0 : wr.cell? ⟨bx, 0, none⟩ = some (.slice (some ⟨b1, o1, none⟩) x.code.length cp) := (hB.cell (p := ⟨bx, 0, none⟩) (box_lt HBX)).trans q0
    obtain ⟨mk, hmk⟩ : ∃ mk, Ev.makes i = mk := ⟨_, rfl⟩
    have CM : Hid (∀ u : World, Calls Try.prog 30 #[.agg #[.int .i64 i.op, .int .i64 i.d, .int .i64 i.a, .int .i64 i.b, .int .i64 i.c, .int .i64 i.imm]] u fun e w' => e = .returned (.bool mk) ∧ Below u.heap.size u w') := Lib.hid (fun u => by
      have h := refMakes_any i u
      rw [hmk] at h
      exact h)
    have HMK := Lib.hid hmk
    clear hmk
    cases mk with
    | false =>
      go_wp2_with (go_at_call 30; refine (CM.out _).mono ?_; rintro e w7 ⟨rfl, hb7⟩; have s7 := hb7.size; simp only [World.size_alloc] at s7)
      go_roundw
      case rel => exact ⟨k + 1, by omega, by go_num, by (repeat' first | with_reducible (first | exact Below.refl _ _ | assumption | refine Below.alloc ?_ ?_ _ | refine below_drewN ?_ _ | refine Below.drew ?_ | refine Below.setCell ?_ ?_ _ | refine Below.trans ?_ (Below.mono (by with_reducible assumption) ?_)) | go_size)⟩
      case measure => simp [intOf]; omega
    | true =>
      have CR := Lib.hid (fun (u : World) (hb : Below w5.heap.size w5 u) => CRD.out u i k hb HI.out HMK.out)
      go_upto_region 13 with fail
      have HBI := box_new wr (.cells #[.int .i64 i.op, .int .i64 i.d, .int .i64 i.a, .int .i64 i.b, .int .i64 i.c, .int .i64 i.imm] 39)
      have bA : Below wr.heap.size wr (wr.alloc (.cells #[.int .i64 i.op, .int .i64 i.d, .int .i64 i.a, .int .i64 i.b, .int .i64 i.c, .int .i64 i.imm] 39)) := (Below.refl _ _).alloc (Nat.le_refl _) _
      replace hB : Below w5.heap.size w5 (wr.alloc (.cells #[.int .i64 i.op, .int .i64 i.d, .int .i64 i.a, .int .i64 i.b, .int .i64 i.c, .int .i64 i.imm] 39)) := hB.trans (bA.mono sB)
      replace q0 : (wr.alloc (.cells #[.int .i64 i.op, .int .i64 i.d, .int .i64 i.a, .int .i64 i.b, .int .i64 i.c, .int .i64 i.imm] 39)).cell? ⟨bx, 0, none⟩ = some (.slice (some ⟨b1, o1, none⟩) x.code.length cp) := box_cell (box_on HBX hB) 0 rfl
      clear p0 p1 p2 p3 p4 p5 bA sB
      generalize wr.alloc (.cells #[.int .i64 i.op, .int .i64 i.d, .int .i64 i.a, .int .i64 i.b, .int .i64 i.c, .int .i64 i.imm] 39) = wA at *
      generalize wr.heap.size = bi at *
      have sB := hB.size
      go_wp2_with (first | (refine wpList_load_box rfl 39 _ rfl rfl (box_load Try.underlying39 (by kernel_rfl) rfl (by kernel_rfl) HBI) ?_) | (go_at_call 30; refine (CM.out _).mono ?_; rintro e w7 ⟨rfl, hb7⟩; have b7 : Below w5.heap.size w5 w7 := hB.trans (hb7.mono sB); have q7 : w7.cell? ⟨bx, 0, none⟩ = some (.slice (some ⟨b1, o1, none⟩) x.code.length cp) := box_cell (box_on HBX b7) 0 rfl; have i1 : w7.cell? ⟨bi, 1, none⟩ = some (.int .i64 i.d) := box_cell (box_on HBI hb7) 1 rfl) | (go_at_call 31; refine (CR.out _ b7).mono ?_; rintro e w8 ⟨rfl, hb8⟩; have b8 : Below w5.heap.size w5 w8 := b7.trans (hb8.mono b7.size)))
      go_roundw
      case rel => exact ⟨k + 1, by omega, by go_num, b8⟩
      case measure => simp [intOf]; omega
end Go.Proofs.Ytljcgcllhcdleaa
