import Derived.Test.YtljcgcllhcdleaaLg9
import Derived.Test.YtljcgcllhcdleaaLg29
import Derived.Test.YtljcgcllhcdleaaLg16
import Derived.Deep.DeepCutAuto
import Derived.Test.YtljcgcllhcdleaaLg5
import Derived.Test.YtljcgcllhcdleaaLg1
import Derived.Test.YtljcgcllhcdleaaLg4
import Derived.Test.YtljcgcllhcdleaaLg8
import Derived.Deep.QuietTactic
/- Chapter 7, the reference: does a right instruction show what is secret, by a right table? -/
namespace Go.Proofs.Ytljcgcllhcdleaa
open Go.RowKit
set_option linter.unusedSimpArgs false
set_option linter.unusedVariables false
set_option maxRecDepth 8000 in
set_option maxHeartbeats 6400000 in
theorem shows_any (f : Ev.Flat) (t : List Int) (i : Ev.Instr) (k : Nat) (vf : Value) (w : World) (hf : RFlat w w.heap.size vf f) (hl : t.length = 18) (ht : Ev.wrong t = 0) (hs : Ev.Sound f k i) :
    Calls Try.prog 21 #[vf, tableV t, .agg #[.int .i64 i.op, .int .i64 i.d, .int .i64 i.a, .int .i64 i.b, .int .i64 i.c, .int .i64 i.imm]] w fun e w' => e = .returned (.bool (Ev.shows f t i)) ∧ Below w.heap.size w w' := by
  obtain ⟨vc, vs, va, rfl, hc, hsec, ha⟩ := hf
  obtain ⟨Ac, cc, rfl, _, _⟩ := SL.form hc
  obtain ⟨As, cs, rfl, hs1, hs2⟩ := SL.form hsec
  obtain ⟨Av, cv, rfl, _, _⟩ := SL.form ha
  unfold maxLen at hs2
  have HSC := Lib.hid hsec
  clear hc ha hsec
  by_cases h17 : i.op ≤ 17
  case neg =>
    have hres : Ev.shows f t i = false := by unfold Ev.shows; rw [decide_eq_false (by omega)]; rfl
    rw [hres]
    have g1 : decide (i.op < 1) = false := by have := hs.op.1; simp; omega
    have g2 : decide (17 < i.op) = true := by simp; omega
    unfold tableV
    generalize (t.map (Value.int .i64)).toArray = ta
    clear hs h17
    go_enter Try.func21, Try.ntmps21
    go_wp2
    go_ret
    exact ⟨rfl, by (repeat' first | with_reducible (first | exact Below.refl _ _ | assumption | refine Below.alloc ?_ ?_ _ | refine below_drewN ?_ _ | refine Below.drew ?_ | refine Below.setCell ?_ ?_ _ | refine Below.trans ?_ (Below.mono (by with_reducible assumption) ?_)) | go_size)⟩
  case pos =>
  have op1 := hs.op.1
  have hsi := seenIn_right (n := f.secret.length) ht op1 (fun p hp => hs.reads p hp)
  have hwh : whichOf t i.op false = Ev.seenOf t i.op := by unfold whichOf; rw [if_neg (by decide), if_pos h17]
  rw [hwh] at hsi
  have hsh : Ev.shows f t i = ((Ev.hasBit (Ev.seenOf t i.op) 0 && Ev.sec f.secret i.a) || (Ev.hasBit (Ev.seenOf t i.op) 1 && !decide (i.op = 16) && Ev.sec f.secret (if i.op = 17 then i.d else i.b)) || (Ev.hasBit (Ev.seenOf t i.op) 2 && Ev.sec f.secret i.c)) := by
    unfold Ev.shows; rw [decide_eq_true ⟨op1, h17⟩, Bool.true_and]
  rw [hsh]
  clear hsh hwh
  obtain ⟨res, hres⟩ : ∃ res, ((Ev.hasBit (Ev.seenOf t i.op) 0 && Ev.sec f.secret i.a) || (Ev.hasBit (Ev.seenOf t i.op) 1 && !decide (i.op = 16) && Ev.sec f.secret (if i.op = 17 then i.d else i.b)) || (Ev.hasBit (Ev.seenOf t i.op) 2 && Ev.sec f.secret i.c)) = res := ⟨_, rfl⟩
  rw [hres]
  have t0 := bit0_is hsi.1
  have t1 := bit1_is hsi.1
  have t2 := bit2_is hsi.1
  have i0 : Ev.hasBit (Ev.seenOf t i.op) 0 = true → inR f.secret.length i.a := fun h => (hsi.2.1 0 (by decide) h).2 (by omega) (by omega)
  have i1 : Ev.hasBit (Ev.seenOf t i.op) 1 = true → ¬ i.op = 16 → inR f.secret.length (if i.op = 17 then i.d else i.b) := fun h h16 => by
    by_cases h1 : i.op = 17
    · rw [if_pos h1]; exact (hsi.2.1 1 (by decide) h).1 ⟨h1, rfl⟩
    · rw [if_neg h1]; exact (hsi.2.1 1 (by decide) h).2 (by omega) (by omega)
  have i2 : Ev.hasBit (Ev.seenOf t i.op) 2 = true → inR f.secret.length i.c := fun h => (hsi.2.1 2 (by decide) h).2 (by omega) (by omega)
  have ct : (t.map (Value.int .i64)).toArray[i.op.toNat]? = some (.int .i64 (Ev.seenOf t i.op)) := by
    have hx : t[i.op.toNat]? = some (t.getD i.op.toNat 0) := by rw [List.getD_eq_getElem?_getD, List.getElem?_eq_getElem (by omega)]; rfl
    rw [List.getElem?_toArray, List.getElem?_map, hx]
    rfl
  have g1 : decide (i.op < 1) = false := by simp; omega
  have g2 : decide (17 < i.op) = false := by simp; omega
  unfold tableV
  generalize (t.map (Value.int .i64)).toArray = ta at *
  obtain ⟨bq, hbq⟩ : ∃ bq, (if i.op = 17 then i.d else i.b) = bq := ⟨_, rfl⟩
  rw [hbq] at i1 hres
  have HBQ := Lib.hid hbq
  clear hbq
  have HR0 := Lib.hid hres
  have HI := Lib.hid (And.intro i0 (And.intro i1 i2))
  have h07 := hsi.1
  clear hs hsi ht hl i0 i1 i2 hres
  generalize Ev.seenOf t i.op = ts at *
  have hbx := boxes3 w #[.slice Ac f.code.length cc, .slice As f.secret.length cs, .int .i64 f.params, .slice Av f.arrays.length cv] ta #[.int .i64 i.op, .int .i64 i.d, .int .i64 i.a, .int .i64 i.b, .int .i64 i.c, .int .i64 i.imm] 26 29 39
  have sA : w.heap.size + 1 + 1 + 1 = (((w.alloc (.cells #[.slice Ac f.code.length cc, .slice As f.secret.length cs, .int .i64 f.params, .slice Av f.arrays.length cv] 26)).alloc (.cells ta 29)).alloc (.cells #[.int .i64 i.op, .int .i64 i.d, .int .i64 i.a, .int .i64 i.b, .int .i64 i.c, .int .i64 i.imm] 39)).heap.size := by simp
  have bA : Below w.heap.size w (((w.alloc (.cells #[.slice Ac f.code.length cc, .slice As f.secret.length cs, .int .i64 f.params, .slice Av f.arrays.length cv] 26)).alloc (.cells ta 29)).alloc (.cells #[.int .i64 i.op, .int .i64 i.d, .int .i64 i.a, .int .i64 i.b, .int .i64 i.c, .int .i64 i.imm] 39)) := by (repeat' first | with_reducible (first | exact Below.refl _ _ | assumption | refine Below.alloc ?_ ?_ _ | refine below_drewN ?_ _ | refine Below.drew ?_ | refine Below.setCell ?_ ?_ _ | refine Below.trans ?_ (Below.mono (by with_reducible assumption) ?_)) | go_size)
  go_enter Try.func21, Try.ntmps21
  go_upto_region 1 with fail
  obtain ⟨wA, hwA⟩ : ∃ wA, (((w.alloc (.cells #[.slice Ac f.code.length cc, .slice As f.secret.length cs, .int .i64 f.params, .slice Av f.arrays.length cv] 26)).alloc (.cells ta 29)).alloc (.cells #[.int .i64 i.op, .int .i64 i.d, .int .i64 i.a, .int .i64 i.b, .int .i64 i.c, .int .i64 i.imm] 39)) = wA := ⟨_, rfl⟩
  rw [hwA] at hbx sA bA
  (try rw [hwA])
  clear hwA
  have SA := Lib.hid sA
  obtain ⟨hb0, hb1, hb2⟩ := hbx
  have z0 : w.heap.size < wA.heap.size := by omega
  have z1 : w.heap.size + 1 < wA.heap.size := by omega
  have z2 : w.heap.size + 1 + 1 < wA.heap.size := by omega
  clear sA
  have f1 : wA.cell? ⟨w.heap.size, 1, none⟩ = some (.slice As f.secret.length cs) := hb0 1 _ rfl
  have ct' := hb1 _ _ ct
  have n0 : wA.cell? ⟨w.heap.size + 1 + 1, 0, none⟩ = some (.int .i64 i.op) := hb2 0 _ rfl
  have n1 : wA.cell? ⟨w.heap.size + 1 + 1, 1, none⟩ = some (.int .i64 i.d) := hb2 1 _ rfl
  have n2 : wA.cell? ⟨w.heap.size + 1 + 1, 2, none⟩ = some (.int .i64 i.a) := hb2 2 _ rfl
  have n3 : wA.cell? ⟨w.heap.size + 1 + 1, 3, none⟩ = some (.int .i64 i.b) := hb2 3 _ rfl
  have n4 : wA.cell? ⟨w.heap.size + 1 + 1, 4, none⟩ = some (.int .i64 i.c) := hb2 4 _ rfl
  have HS : Hid (RBools wA wA.heap.size (.slice As f.secret.length cs) f.secret) := SL.at_ HSC.out bA (Nat.le_refl _)
  have HBA := Lib.hid bA
  clear hb0 hb1 hb2 ct HSC bA
  have hcell : ∀ x, inR f.secret.length x → ∃ b o c, (Value.slice As f.secret.length cs) = .slice (some ⟨b, o, none⟩) f.secret.length c ∧ wA.cell? ⟨b, o + x.toNat, none⟩ = some (.bool (Ev.sec f.secret x)) := fun x hx => by
    obtain ⟨b, o, c, e, _, _, _, hc⟩ := RBools.row HS.out (by unfold inR at hx; omega)
    have := hc x.toNat (by unfold inR at hx; omega)
    refine ⟨b, o, c, e, ?_⟩
    have hz : Ev.sec f.secret ((x.toNat : Nat) : Int) = Ev.sec f.secret x := by unfold Ev.sec; congr 1
    rw [hz] at this
    exact this
  have HC := Lib.hid hcell
  clear hcell HS
  go_upto_region 4 with fail
  clear ct' g1 g2
  go_upto_if 26 with fail
  go_cut [8] (fun x wx => x = .int .i64 bq ∧ wA = wx)
  case first => as_aux_lemma =>
    by_cases h : i.op = 17
    · have g : (i.op == 17) = true := beq_iff_eq.2 h
      have HQ := Lib.hid (show bq = i.d by rw [← HBQ.out, if_pos h])
      clear h
      go_wp2_with fail
      go_meet
      exact ⟨by rw [HQ.out], rfl⟩
    · have g : (i.op == 17) = false := beq_eq_false_iff_ne.2 h
      have HQ := Lib.hid (show bq = i.b by rw [← HBQ.out, if_neg h])
      clear h
      go_wp2_with fail
      go_meet
      exact ⟨by rw [HQ.out], rfl⟩
  case rest =>
  obtain ⟨rfl, rfl⟩ := hcut
  obtain ⟨A0, hA0⟩ : ∃ A0, Ev.hasBit ts 0 = A0 := ⟨_, rfl⟩
  obtain ⟨A1, hA1⟩ : ∃ A1, Ev.hasBit ts 1 = A1 := ⟨_, rfl⟩
  obtain ⟨A2, hA2⟩ : ∃ A2, Ev.hasBit ts 2 = A2 := ⟨_, rfl⟩
  obtain ⟨sa, hsa⟩ : ∃ sa, Ev.sec f.secret i.a = sa := ⟨_, rfl⟩
  obtain ⟨sb, hsb⟩ : ∃ sb, Ev.sec f.secret bq = sb := ⟨_, rfl⟩
  obtain ⟨sc, hsc⟩ : ∃ sc, Ev.sec f.secret i.c = sc := ⟨_, rfl⟩
  rw [hA0] at t0
  rw [hA1] at t1
  rw [hA2] at t2
  have F0 : Hid (A0 = true → 0 ≤ i.a ∧ i.a < (f.secret.length : Int) ∧ ∃ b o c, (Value.slice As f.secret.length cs) = .slice (some ⟨b, o, none⟩) f.secret.length c ∧ wA.cell? ⟨b, o + i.a.toNat, none⟩ = some (.bool sa)) := fun h => by
    have h1 := HI.out.1 (hA0.trans h)
    have h2 := HC.out _ h1
    rw [hsa] at h2
    exact ⟨h1.1, h1.2, h2⟩
  have F1 : Hid (A1 = true → ¬ i.op = 16 → 0 ≤ bq ∧ bq < (f.secret.length : Int) ∧ ∃ b o c, (Value.slice As f.secret.length cs) = .slice (some ⟨b, o, none⟩) f.secret.length c ∧ wA.cell? ⟨b, o + bq.toNat, none⟩ = some (.bool sb)) := fun h h16 => by
    have h1 := HI.out.2.1 (hA1.trans h) h16
    have h2 := HC.out _ h1
    rw [hsb] at h2
    exact ⟨h1.1, h1.2, h2⟩
  have F2 : Hid (A2 = true → 0 ≤ i.c ∧ i.c < (f.secret.length : Int) ∧ ∃ b o c, (Value.slice As f.secret.length cs) = .slice (some ⟨b, o, none⟩) f.secret.length c ∧ wA.cell? ⟨b, o + i.c.toNat, none⟩ = some (.bool sc)) := fun h => by
    have h1 := HI.out.2.2 (hA2.trans h)
    have h2 := HC.out _ h1
    rw [hsc] at h2
    exact ⟨h1.1, h1.2, h2⟩
  have hres := HR0.out
  rw [hA0, hA1, hA2, hsa, hsb, hsc] at hres
  have HRES := Lib.hid hres
  clear hA0 hA1 hA2 hsa hsb hsc HI HC HBQ HR0 hres
  rcases (show (A0 = false) ∨ (A0 = true ∧ sa = false) ∨ (A0 = true ∧ sa = true) from by cases A0 <;> cases sa <;> simp) with hx | ⟨hx, hx'⟩ | ⟨hx, hx'⟩
  case inr.inr => as_aux_lemma =>
    subst hx hx'
    obtain ⟨p0, p1, b9, o9, c9, hv, hc9⟩ := F0.out rfl
    injection hv with hA _ hcr
    subst hA hcr
    go_wp2_with fail
    go_ret
    exact ⟨by rw [← HRES.out]; simp, by have := HBA.out; (repeat' first | with_reducible (first | exact Below.refl _ _ | assumption | refine Below.alloc ?_ ?_ _ | refine below_drewN ?_ _ | refine Below.drew ?_ | refine Below.setCell ?_ ?_ _ | refine Below.trans ?_ (Below.mono (by with_reducible assumption) ?_)) | go_size)⟩
  case inl => as_aux_lemma =>
    subst hx
    rcases (show (A1 = false) ∨ (A1 = true ∧ i.op = 16) ∨ (A1 = true ∧ ¬ i.op = 16 ∧ sb = false) ∨ (A1 = true ∧ ¬ i.op = 16 ∧ sb = true) from by cases A1 <;> cases sb <;> simp <;> omega) with hy | ⟨hy, h16⟩ | ⟨hy, h16, hz⟩ | ⟨hy, h16, hz⟩
    case inl =>
      subst hy
      cases A2 with
      | false =>
        go_wp2_with fail
        go_ret
        exact ⟨by rw [← HRES.out]; simp, by have := HBA.out; (repeat' first | with_reducible (first | exact Below.refl _ _ | assumption | refine Below.alloc ?_ ?_ _ | refine below_drewN ?_ _ | refine Below.drew ?_ | refine Below.setCell ?_ ?_ _ | refine Below.trans ?_ (Below.mono (by with_reducible assumption) ?_)) | go_size)⟩
      | true =>
        obtain ⟨p4, p5, b7, o7, c7, hv, hc7⟩ := F2.out rfl
        injection hv with hA _ hcr
        subst hA hcr
        go_wp2_with fail
        go_ret
        exact ⟨by rw [← HRES.out]; simp, by have := HBA.out; (repeat' first | with_reducible (first | exact Below.refl _ _ | assumption | refine Below.alloc ?_ ?_ _ | refine below_drewN ?_ _ | refine Below.drew ?_ | refine Below.setCell ?_ ?_ _ | refine Below.trans ?_ (Below.mono (by with_reducible assumption) ?_)) | go_size)⟩
    case inr.inl =>
      subst hy
      have g16 : (i.op != 16) = false := by rw [h16]; rfl
      have H16 := Lib.hid (decide_eq_true h16)
      clear h16
      cases A2 with
      | false =>
        go_wp2_with fail
        go_ret
        exact ⟨by rw [← HRES.out]; simp [H16.out], by have := HBA.out; (repeat' first | with_reducible (first | exact Below.refl _ _ | assumption | refine Below.alloc ?_ ?_ _ | refine below_drewN ?_ _ | refine Below.drew ?_ | refine Below.setCell ?_ ?_ _ | refine Below.trans ?_ (Below.mono (by with_reducible assumption) ?_)) | go_size)⟩
      | true =>
        obtain ⟨p4, p5, b7, o7, c7, hv, hc7⟩ := F2.out rfl
        injection hv with hA _ hcr
        subst hA hcr
        go_wp2_with fail
        go_ret
        exact ⟨by rw [← HRES.out]; simp [H16.out], by have := HBA.out; (repeat' first | with_reducible (first | exact Below.refl _ _ | assumption | refine Below.alloc ?_ ?_ _ | refine below_drewN ?_ _ | refine Below.drew ?_ | refine Below.setCell ?_ ?_ _ | refine Below.trans ?_ (Below.mono (by with_reducible assumption) ?_)) | go_size)⟩
    case inr.inr.inl =>
      subst hy hz
      have g16 : (i.op != 16) = true := bne_iff_ne.2 h16
      have H16 := Lib.hid (decide_eq_false h16)
      obtain ⟨p2, p3, b9, o9, c9, hv, hc9⟩ := F1.out rfl h16
      injection hv with hA _ hcr
      subst hA hcr
      clear h16
      cases A2 with
      | false =>
        go_wp2_with fail
        go_ret
        exact ⟨by rw [← HRES.out]; simp [H16.out], by have := HBA.out; (repeat' first | with_reducible (first | exact Below.refl _ _ | assumption | refine Below.alloc ?_ ?_ _ | refine below_drewN ?_ _ | refine Below.drew ?_ | refine Below.setCell ?_ ?_ _ | refine Below.trans ?_ (Below.mono (by with_reducible assumption) ?_)) | go_size)⟩
      | true =>
        obtain ⟨p4, p5, b7, o7, c7, hv, hc7⟩ := F2.out rfl
        injection hv with hA _ hcr
        injection hA with hA
        injection hA with hA1 hA2
        subst hA1 hA2
        (try clear hcr)
        go_wp2_with fail
        go_ret
        exact ⟨by rw [← HRES.out]; simp [H16.out], by have := HBA.out; (repeat' first | with_reducible (first | exact Below.refl _ _ | assumption | refine Below.alloc ?_ ?_ _ | refine below_drewN ?_ _ | refine Below.drew ?_ | refine Below.setCell ?_ ?_ _ | refine Below.trans ?_ (Below.mono (by with_reducible assumption) ?_)) | go_size)⟩
    case inr.inr.inr =>
      subst hy hz
      have g16 : (i.op != 16) = true := bne_iff_ne.2 h16
      have H16 := Lib.hid (decide_eq_false h16)
      obtain ⟨p2, p3, b9, o9, c9, hv, hc9⟩ := F1.out rfl h16
      injection hv with hA _ hcr
      subst hA hcr
      clear h16
      go_wp2_with fail
      go_ret
      exact ⟨by rw [← HRES.out]; simp [H16.out], by have := HBA.out; (repeat' first | with_reducible (first | exact Below.refl _ _ | assumption | refine Below.alloc ?_ ?_ _ | refine below_drewN ?_ _ | refine Below.drew ?_ | refine Below.setCell ?_ ?_ _ | refine Below.trans ?_ (Below.mono (by with_reducible assumption) ?_)) | go_size)⟩
  case inr.inl => as_aux_lemma =>
    subst hx hx'
    obtain ⟨p0, p1, b8, o8, c8, hv, hc8⟩ := F0.out rfl
    injection hv with hA _ hcr
    subst hA hcr
    rcases (show (A1 = false) ∨ (A1 = true ∧ i.op = 16) ∨ (A1 = true ∧ ¬ i.op = 16 ∧ sb = false) ∨ (A1 = true ∧ ¬ i.op = 16 ∧ sb = true) from by cases A1 <;> cases sb <;> simp <;> omega) with hy | ⟨hy, h16⟩ | ⟨hy, h16, hz⟩ | ⟨hy, h16, hz⟩
    case inl =>
      subst hy
      cases A2 with
      | false =>
        go_wp2_with fail
        go_ret
        exact ⟨by rw [← HRES.out]; simp, by have := HBA.out; (repeat' first | with_reducible (first | exact Below.refl _ _ | assumption | refine Below.alloc ?_ ?_ _ | refine below_drewN ?_ _ | refine Below.drew ?_ | refine Below.setCell ?_ ?_ _ | refine Below.trans ?_ (Below.mono (by with_reducible assumption) ?_)) | go_size)⟩
      | true =>
        obtain ⟨p4, p5, b7, o7, c7, hv, hc7⟩ := F2.out rfl
        injection hv with hA _ hcr
        injection hA with hA
        injection hA with hA1 hA2
        subst hA1 hA2
        (try clear hcr)
        go_wp2_with fail
        go_ret
        exact ⟨by rw [← HRES.out]; simp, by have := HBA.out; (repeat' first | with_reducible (first | exact Below.refl _ _ | assumption | refine Below.alloc ?_ ?_ _ | refine below_drewN ?_ _ | refine Below.drew ?_ | refine Below.setCell ?_ ?_ _ | refine Below.trans ?_ (Below.mono (by with_reducible assumption) ?_)) | go_size)⟩
    case inr.inl =>
      subst hy
      have g16 : (i.op != 16) = false := by rw [h16]; rfl
      have H16 := Lib.hid (decide_eq_true h16)
      clear h16
      cases A2 with
      | false =>
        go_wp2_with fail
        go_ret
        exact ⟨by rw [← HRES.out]; simp [H16.out], by have := HBA.out; (repeat' first | with_reducible (first | exact Below.refl _ _ | assumption | refine Below.alloc ?_ ?_ _ | refine below_drewN ?_ _ | refine Below.drew ?_ | refine Below.setCell ?_ ?_ _ | refine Below.trans ?_ (Below.mono (by with_reducible assumption) ?_)) | go_size)⟩
      | true =>
        obtain ⟨p4, p5, b7, o7, c7, hv, hc7⟩ := F2.out rfl
        injection hv with hA _ hcr
        injection hA with hA
        injection hA with hA1 hA2
        subst hA1 hA2
        (try clear hcr)
        go_wp2_with fail
        go_ret
        exact ⟨by rw [← HRES.out]; simp [H16.out], by have := HBA.out; (repeat' first | with_reducible (first | exact Below.refl _ _ | assumption | refine Below.alloc ?_ ?_ _ | refine below_drewN ?_ _ | refine Below.drew ?_ | refine Below.setCell ?_ ?_ _ | refine Below.trans ?_ (Below.mono (by with_reducible assumption) ?_)) | go_size)⟩
    case inr.inr.inl =>
      subst hy hz
      have g16 : (i.op != 16) = true := bne_iff_ne.2 h16
      have H16 := Lib.hid (decide_eq_false h16)
      obtain ⟨p2, p3, b9, o9, c9, hv, hc9⟩ := F1.out rfl h16
      injection hv with hA _ hcr
      injection hA with hA
      injection hA with hA1 hA2
      subst hA1 hA2
      (try clear hcr)
      clear h16
      cases A2 with
      | false =>
        go_wp2_with fail
        go_ret
        exact ⟨by rw [← HRES.out]; simp [H16.out], by have := HBA.out; (repeat' first | with_reducible (first | exact Below.refl _ _ | assumption | refine Below.alloc ?_ ?_ _ | refine below_drewN ?_ _ | refine Below.drew ?_ | refine Below.setCell ?_ ?_ _ | refine Below.trans ?_ (Below.mono (by with_reducible assumption) ?_)) | go_size)⟩
      | true =>
        obtain ⟨p4, p5, b7, o7, c7, hv, hc7⟩ := F2.out rfl
        injection hv with hA _ hcr
        injection hA with hA
        injection hA with hA1 hA2
        subst hA1 hA2
        (try clear hcr)
        go_wp2_with fail
        go_ret
        exact ⟨by rw [← HRES.out]; simp [H16.out], by have := HBA.out; (repeat' first | with_reducible (first | exact Below.refl _ _ | assumption | refine Below.alloc ?_ ?_ _ | refine below_drewN ?_ _ | refine Below.drew ?_ | refine Below.setCell ?_ ?_ _ | refine Below.trans ?_ (Below.mono (by with_reducible assumption) ?_)) | go_size)⟩
    case inr.inr.inr =>
      subst hy hz
      have g16 : (i.op != 16) = true := bne_iff_ne.2 h16
      have H16 := Lib.hid (decide_eq_false h16)
      obtain ⟨p2, p3, b9, o9, c9, hv, hc9⟩ := F1.out rfl h16
      injection hv with hA _ hcr
      injection hA with hA
      injection hA with hA1 hA2
      subst hA1 hA2
      (try clear hcr)
      clear h16
      go_wp2_with fail
      go_ret
      exact ⟨by rw [← HRES.out]; simp [H16.out], by have := HBA.out; (repeat' first | with_reducible (first | exact Below.refl _ _ | assumption | refine Below.alloc ?_ ?_ _ | refine below_drewN ?_ _ | refine Below.drew ?_ | refine Below.setCell ?_ ?_ _ | refine Below.trans ?_ (Below.mono (by with_reducible assumption) ?_)) | go_size)⟩
end Go.Proofs.Ytljcgcllhcdleaa
/- The reference's comparisons. -/
namespace Go.Proofs.Ytljcgcllhcdleaa
open Go.RowKit
set_option linter.unusedSimpArgs false
set_option linter.unusedVariables false
theorem take_snoc_same {α : Type} {l m : List α} {j : Nat} {x y : α} (h : l.take j = m.take j) (hx : l[j]? = some x) (hy : m[j]? = some y) (e : x = y) : l.take (j + 1) = m.take (j + 1) := by
  rw [List.take_add_one, List.take_add_one, h, hx, hy, e]
set_option maxRecDepth 4000 in
set_option maxHeartbeats 1600000 in
theorem sameInts_any (l m : List Int) (u v : Value) (w : World) {B : Nat} (hl : RInts w B u l) (hm : RInts w B v m) :
    Calls Try.prog 34 #[u, v] w fun e w' => e = .returned (.bool (decide (l = m))) ∧ ∃ n, w' = w.drewN n := by
  have HL := Lib.hid hl
  have HM := Lib.hid hm
  obtain ⟨A, c, rfl, hc1, hc2⟩ := SL.form hl
  obtain ⟨A', c', rfl, hd1, hd2⟩ := SL.form hm
  unfold maxLen at hc2 hd2
  clear hl hm
  go_enter Try.func34, Try.ntmps34
  by_cases hlen : l.length = m.length
  case neg =>
    go_wp2
    go_ret
    refine ⟨?_, by (first | exact ⟨0, rfl⟩ | exact ⟨_, rfl⟩ | (simp only [World.drewN_drewN, World.drew_is_drewN]; exact ⟨_, rfl⟩))⟩
    have : l ≠ m := fun e => hlen (by rw [e])
    simp [this]
  case pos =>
  go_wp2_with fail
  have hlen1 : m.length ≤ l.length := by omega
  have hlen2 : l.length ≤ m.length := by omega
  clear hlen
  go_loopw [13] (fun z wr => ∃ j : Nat, j ≤ l.length ∧ z = .int .i64 j ∧ Hid (l.take j = m.take j) ∧ ∃ n, wr = w.drewN n) (fun z _ => l.length - (intOf z).toNat)
  case atStart => exact ⟨0, by omega, rfl, by simp [Hid], by (first | exact ⟨0, rfl⟩ | exact ⟨_, rfl⟩ | (simp only [World.drewN_drewN, World.drew_is_drewN]; exact ⟨_, rfl⟩))⟩
  case round =>
    obtain ⟨j, hj, rfl, HT, nw, rfl⟩ := hrel
    by_cases hlt : j < l.length
    · obtain ⟨x, hx⟩ : ∃ x, l[j]? = some x := ⟨l[j], List.getElem?_eq_getElem hlt⟩
      obtain ⟨y, hy⟩ : ∃ y, m[j]? = some y := ⟨m[j]'(by omega), List.getElem?_eq_getElem _⟩
      obtain ⟨b1, o1, r1, hv, hb1, _, _, _, p1⟩ := RInts.at_ HL.out hx
      injection hv with hA _ hcr
      subst hA hcr
      obtain ⟨b2, o2, r2, hv, hb2, _, _, _, p2⟩ := RInts.at_ HM.out hy
      injection hv with hA _ hcr
      subst hA hcr
      have HX := Lib.hid hx
      have HY := Lib.hid hy
      clear hx hy
      by_cases hxy : x = y
      · have hs := Lib.hid (take_snoc_same HT.out HX.out HY.out hxy)
        subst hxy
        go_wp2_with fail
        go_quiet (fail)
        go_wp2_with fail
        go_roundw
        case rel => exact ⟨j + 1, by omega, by go_num, hs, by (first | exact ⟨0, rfl⟩ | exact ⟨_, rfl⟩ | (simp only [World.drewN_drewN, World.drew_is_drewN]; exact ⟨_, rfl⟩))⟩
        case measure => simp [intOf]; omega
      · have g1 : (x != y) = true := by simpa using hxy
        go_wp2_with fail
        go_quiet (fail)
        go_wp2
        go_ret
        refine ⟨?_, by (first | exact ⟨0, rfl⟩ | exact ⟨_, rfl⟩ | (simp only [World.drewN_drewN, World.drew_is_drewN]; exact ⟨_, rfl⟩))⟩
        have : l ≠ m := fun e => hxy (by have h1 := HX.out; have h2 := HY.out; rw [e] at h1; rw [h1] at h2; exact Option.some.inj h2)
        simp [this]
    · go_wp2
      go_ret
      refine ⟨?_, by (first | exact ⟨0, rfl⟩ | exact ⟨_, rfl⟩ | (simp only [World.drewN_drewN, World.drew_is_drewN]; exact ⟨_, rfl⟩))⟩
      have h := HT.out
      rw [List.take_of_length_le (by omega), List.take_of_length_le (by omega)] at h
      simp [h]
theorem sameInts_is (l m : List Int) (u v : Value) (w : World) {B : Nat} (hl : RInts w B u l) (hm : RInts w B v m) (b : Bool) (h : decide (l = m) = b) :
    Calls Try.prog 34 #[u, v] w fun e w' => e = .returned (.bool b) ∧ ∃ n, w' = w.drewN n := by
  subst h
  exact sameInts_any l m u v w hl hm
set_option maxRecDepth 4000 in
set_option maxHeartbeats 1600000 in
theorem sameArrays_any (l m : List (List Int)) (u v : Value) (w : World) {B : Nat} (hl : RLists w B u l) (hm : RLists w B v m) :
    Calls Try.prog 60 #[u, v] w fun e w' => e = .returned (.bool (decide (l = m))) ∧ ∃ n, w' = w.drewN n := by
  obtain ⟨us, hul, hus, hue⟩ := hl
  obtain ⟨vs, hvl, hvs, hve⟩ := hm
  have HUS := Lib.hid hus
  have HVS := Lib.hid hvs
  have HUL := Lib.hid hul
  have HVL := Lib.hid hvl
  have HU := Lib.hid hue
  have HV := Lib.hid hve
  obtain ⟨A, c, rfl, hc1, hc2⟩ := SL.form hus
  obtain ⟨A', c', rfl, hd1, hd2⟩ := SL.form hvs
  unfold maxLen at hc2 hd2
  clear hus hvs hue hve hul hvl
  go_enter Try.func60, Try.ntmps60
  by_cases hlen : l.length = m.length
  case neg =>
    go_wp2
    go_ret
    refine ⟨?_, by (first | exact ⟨0, rfl⟩ | exact ⟨_, rfl⟩ | (simp only [World.drewN_drewN, World.drew_is_drewN]; exact ⟨_, rfl⟩))⟩
    have : l ≠ m := fun e => hlen (by rw [e])
    simp [this]
  case pos =>
  go_wp2_with fail
  have hlen1 : m.length ≤ l.length := by omega
  have hlen2 : l.length ≤ m.length := by omega
  clear hlen
  go_loopw [13] (fun z wr => ∃ j : Nat, j ≤ l.length ∧ z = .int .i64 j ∧ Hid (l.take j = m.take j) ∧ ∃ n, wr = w.drewN n) (fun z _ => l.length - (intOf z).toNat)
  case atStart => exact ⟨0, by omega, rfl, by simp [Hid], by (first | exact ⟨0, rfl⟩ | exact ⟨_, rfl⟩ | (simp only [World.drewN_drewN, World.drew_is_drewN]; exact ⟨_, rfl⟩))⟩
  case round =>
    obtain ⟨j, hj, rfl, HT, nw, rfl⟩ := hrel
    by_cases hlt : j < l.length
    · obtain ⟨x, hx⟩ : ∃ x, l[j]? = some x := ⟨l[j], List.getElem?_eq_getElem hlt⟩
      obtain ⟨y, hy⟩ : ∃ y, m[j]? = some y := ⟨m[j]'(by omega), List.getElem?_eq_getElem _⟩
      obtain ⟨a, ha⟩ : ∃ a, us[j]? = some a := ⟨us[j]'(by rw [HUL.out]; exact hlt), List.getElem?_eq_getElem _⟩
      obtain ⟨b, hb⟩ : ∃ b, vs[j]? = some b := ⟨vs[j]'(by rw [HVL.out]; omega), List.getElem?_eq_getElem _⟩
      obtain ⟨b1, o1, r1, hv, hb1, _, _, p1⟩ := SL.row HUS.out (by omega)
      injection hv with hA _ hcr
      subst hA hcr
      obtain ⟨b2, o2, r2, hv, hb2, _, _, p2⟩ := SL.row HVS.out (by omega)
      injection hv with hA _ hcr
      subst hA hcr
      have q1 := p1 j a ha
      have q2 := p2 j b hb
      have RA := Lib.hid (HU.out j a x ha hx)
      have RB := Lib.hid (HV.out j b y hb hy)
      obtain ⟨A1, c1, rfl, _, _⟩ := SL.form RA.out
      obtain ⟨A2, c2, rfl, _, _⟩ := SL.form RB.out
      have HX := Lib.hid hx
      have HY := Lib.hid hy
      clear hx hy ha hb p1 p2
      by_cases hxy : x = y
      · have hs := Lib.hid (take_snoc_same HT.out HX.out HY.out hxy)
        have g1 : decide (x = y) = true := by simpa using hxy
        clear hxy
        go_wp2_with fail
        go_quiet ((go_at_call 34; first | exact Calls.quiet_of (sameInts_is x y _ _ (w.drewN _) (SL.dr _ RA.out) (SL.dr _ RB.out) _ g1) | exact quiet_at (sameInts_is x y _ _ (w.drewN _) (SL.dr _ RA.out) (SL.dr _ RB.out) _ g1)))
        go_wp2_with fail
        go_roundw
        case rel => exact ⟨j + 1, by omega, by go_num, hs, by (first | exact ⟨0, rfl⟩ | exact ⟨_, rfl⟩ | (simp only [World.drewN_drewN, World.drew_is_drewN]; exact ⟨_, rfl⟩))⟩
        case measure => simp [intOf]; omega
      · have g1 : decide (x = y) = false := by simpa using hxy
        have HXY := Lib.hid hxy
        clear hxy
        go_wp2_with fail
        go_quiet ((go_at_call 34; first | exact Calls.quiet_of (sameInts_is x y _ _ (w.drewN _) (SL.dr _ RA.out) (SL.dr _ RB.out) _ g1) | exact quiet_at (sameInts_is x y _ _ (w.drewN _) (SL.dr _ RA.out) (SL.dr _ RB.out) _ g1)))
        go_wp2
        go_ret
        refine ⟨?_, by (first | exact ⟨0, rfl⟩ | exact ⟨_, rfl⟩ | (simp only [World.drewN_drewN, World.drew_is_drewN]; exact ⟨_, rfl⟩))⟩
        have : l ≠ m := fun e => HXY.out (by have h1 := HX.out; have h2 := HY.out; rw [e] at h1; rw [h1] at h2; exact Option.some.inj h2)
        simp [this]
    · go_wp2
      go_ret
      refine ⟨?_, by (first | exact ⟨0, rfl⟩ | exact ⟨_, rfl⟩ | (simp only [World.drewN_drewN, World.drew_is_drewN]; exact ⟨_, rfl⟩))⟩
      have h := HT.out
      rw [List.take_of_length_le (by omega), List.take_of_length_le (by omega)] at h
      simp [h]
end Go.Proofs.Ytljcgcllhcdleaa
/- The reference's comparisons of flat instructions, ends and leaks. -/
namespace Go.Proofs.Ytljcgcllhcdleaa
open Go.RowKit
set_option linter.unusedSimpArgs false
set_option linter.unusedVariables false
theorem RVars.el {w : World} {B : Nat} {v : Value} {l : List Ev.Vr} (h : RVars w B v l) {k : Nat} {x : Ev.Vr} (hk : l[k]? = some x) :
    ∃ b o c, v = .slice (some ⟨b, o, none⟩) l.length c ∧ b < B ∧ k < l.length ∧ l.length ≤ c ∧ c ≤ maxLen ∧ w.cell? ⟨b, o + k * 3, none⟩ = some (.string ⟨x.name.toArray⟩) ∧ w.cell? ⟨b, o + k * 3 + 1, none⟩ = some (.bool x.secret) ∧ w.cell? ⟨b, o + k * 3 + 2, none⟩ = some (.int .i64 x.size) := by
  have hlt : k < l.length := (List.getElem?_eq_some_iff.1 hk).1
  obtain ⟨b, o, c, e, hb, h1, h2, hc⟩ := SL.row h (by omega)
  have hj := fun j u (hu : (cellsV x)[j]? = some u) => hc (k * 3 + j) u (flatMap_at cellsV (fun _ => rfl) l k _ j u hk hu)
  simp only [← Nat.add_assoc] at hj
  exact ⟨b, o, c, e, hb, hlt, h1, h2, hj 0 _ rfl, hj 1 _ rfl, hj 2 _ rfl⟩
theorem get_neq {α : Type} {l m : List α} {k : Nat} {x y : α} (hx : l[k]? = some x) (hy : m[k]? = some y) (h : x ≠ y) : l ≠ m := fun e => h (by
  rw [e, hy] at hx
  exact (Option.some.inj hx).symm)
set_option maxRecDepth 4000 in
set_option maxHeartbeats 1600000 in
theorem sameVars_any (l m : List Ev.Vr) (u v : Value) (w : World) {B : Nat} (hl : RVars w B u l) (hm : RVars w B v m) :
    Calls Try.prog 20 #[u, v] w fun e w' => e = .returned (.bool (decide (l = m))) ∧ ∃ n, w' = w.drewN n := by
  have HL := Lib.hid hl
  have HM := Lib.hid hm
  obtain ⟨A, c, rfl, hc1, hc2⟩ := SL.form hl
  obtain ⟨A', c', rfl, hd1, hd2⟩ := SL.form hm
  unfold maxLen at hc2 hd2
  clear hl hm
  go_enter Try.func20, Try.ntmps20
  by_cases hlen : l.length = m.length
  case neg =>
    go_wp2
    go_ret
    refine ⟨?_, by (first | exact ⟨0, rfl⟩ | exact ⟨_, rfl⟩ | (simp only [World.drewN_drewN, World.drew_is_drewN]; exact ⟨_, rfl⟩))⟩
    have : l ≠ m := fun e => hlen (by rw [e])
    simp [this]
  case pos =>
  go_wp2_with fail
  have hlen1 : m.length ≤ l.length := by omega
  have hlen2 : l.length ≤ m.length := by omega
  clear hlen
  go_loopw [13] (fun z wr => ∃ j : Nat, j ≤ l.length ∧ z = .int .i64 j ∧ Hid (l.take j = m.take j) ∧ ∃ n, wr = w.drewN n) (fun z _ => l.length - (intOf z).toNat)
  case atStart => exact ⟨0, by omega, rfl, by simp [Hid], by (first | exact ⟨0, rfl⟩ | exact ⟨_, rfl⟩ | (simp only [World.drewN_drewN, World.drew_is_drewN]; exact ⟨_, rfl⟩))⟩
  case round =>
    obtain ⟨j, hj, rfl, HT, nw, rfl⟩ := hrel
    by_cases hlt : j < l.length
    · obtain ⟨x, hx⟩ : ∃ x, l[j]? = some x := ⟨l[j], List.getElem?_eq_getElem hlt⟩
      obtain ⟨y, hy⟩ : ∃ y, m[j]? = some y := ⟨m[j]'(by omega), List.getElem?_eq_getElem _⟩
      obtain ⟨b1, o1, r1, hv, hb1, _, _, _, p1, p2, p3⟩ := RVars.el HL.out hx
      injection hv with hA _ hcr
      subst hA hcr
      obtain ⟨b2, o2, r2, hv, hb2, _, _, _, q1, q2, q3⟩ := RVars.el HM.out hy
      injection hv with hA _ hcr
      subst hA hcr
      have HX := Lib.hid hx
      have HY := Lib.hid hy
      clear hx hy
      by_cases hxy : x = y
      · have hs := Lib.hid (take_snoc_same HT.out HX.out HY.out hxy)
        have hn := fun w => neq_var x y w false (by simpa using hxy)
        unfold aggV at hn
        clear hxy
        go_wp2_with fail
        go_quiet (fail)
        go_wp2_with fail
        go_roundw
        case rel => exact ⟨j + 1, by omega, by go_num, hs, by (first | exact ⟨0, rfl⟩ | exact ⟨_, rfl⟩ | (simp only [World.drewN_drewN, World.drew_is_drewN]; exact ⟨_, rfl⟩))⟩
        case measure => simp [intOf]; omega
      · have hn := fun w => neq_var x y w true (by simpa using hxy)
        unfold aggV at hn
        have HXY := Lib.hid hxy
        clear hxy
        go_wp2_with fail
        go_quiet (fail)
        go_wp2
        go_ret
        refine ⟨?_, by (first | exact ⟨0, rfl⟩ | exact ⟨_, rfl⟩ | (simp only [World.drewN_drewN, World.drew_is_drewN]; exact ⟨_, rfl⟩))⟩
        simp [get_neq HX.out HY.out HXY.out]
    · go_wp2
      go_ret
      refine ⟨?_, by (first | exact ⟨0, rfl⟩ | exact ⟨_, rfl⟩ | (simp only [World.drewN_drewN, World.drew_is_drewN]; exact ⟨_, rfl⟩))⟩
      have h := HT.out
      rw [List.take_of_length_le (by omega), List.take_of_length_le (by omega)] at h
      simp [h]
theorem sameVars_is (l m : List Ev.Vr) (u v : Value) (w : World) {B : Nat} (hl : RVars w B u l) (hm : RVars w B v m) (b : Bool) (h : decide (l = m) = b) :
    Calls Try.prog 20 #[u, v] w fun e w' => e = .returned (.bool b) ∧ ∃ n, w' = w.drewN n := by
  subst h
  exact sameVars_any l m u v w hl hm
set_option maxRecDepth 4000 in
set_option maxHeartbeats 1600000 in
theorem sameEnded_any (x y : Ev.Ended) (u v : Value) (w : World) (hx : REnded w u x) (hy : REnded w v y) :
    Calls Try.prog 24 #[u, v] w fun e w' => e = .returned (.bool (decide (x = y))) ∧ Below w.heap.size w w' := by
  obtain ⟨va, rfl, ha⟩ := hx
  obtain ⟨vb, rfl, hb⟩ := hy
  obtain ⟨x1, x2, x3⟩ := x
  obtain ⟨y1, y2, y3⟩ := y
  dsimp only at ha hb ⊢
  have HA := Lib.hid ha
  have HB := Lib.hid hb
  obtain ⟨us, hul, hus, _⟩ := ha
  obtain ⟨vs, hvl, hvs, _⟩ := hb
  obtain ⟨A, c, rfl, _, _⟩ := SL.form hus
  obtain ⟨A', c', rfl, _, _⟩ := SL.form hvs
  clear hus hvs
  go_enter Try.func24, Try.ntmps24
  by_cases h1 : x1 = y1
  · subst h1
    by_cases h2 : x2 = y2
    · subst h2
      go_wp2_with (go_at_call 60; refine (quiet_below (sameArrays_any x3 y3 _ _ _ (HA.out.at_ (B := w.heap.size) (w' := (w.alloc _).alloc _) (by (repeat' first | with_reducible (first | exact Below.refl _ _ | assumption | refine Below.alloc ?_ ?_ _ | refine below_drewN ?_ _ | refine Below.drew ?_ | refine Below.setCell ?_ ?_ _ | refine Below.trans ?_ (Below.mono (by with_reducible assumption) ?_)) | go_size)) (Nat.le_refl _)) (HB.out.at_ (B := w.heap.size) (w' := (w.alloc _).alloc _) (by (repeat' first | with_reducible (first | exact Below.refl _ _ | assumption | refine Below.alloc ?_ ?_ _ | refine below_drewN ?_ _ | refine Below.drew ?_ | refine Below.setCell ?_ ?_ _ | refine Below.trans ?_ (Below.mono (by with_reducible assumption) ?_)) | go_size)) (Nat.le_refl _)))).mono ?_; rintro e w1 ⟨rfl, hb1⟩)
      go_wp2
      go_ret
      refine ⟨?_, by (repeat' first | with_reducible (first | exact Below.refl _ _ | assumption | refine Below.alloc ?_ ?_ _ | refine below_drewN ?_ _ | refine Below.drew ?_ | refine Below.setCell ?_ ?_ _ | refine Below.trans ?_ (Below.mono (by with_reducible assumption) ?_)) | go_size)⟩
      simp
    · go_wp2
      go_ret
      refine ⟨?_, by (repeat' first | with_reducible (first | exact Below.refl _ _ | assumption | refine Below.alloc ?_ ?_ _ | refine below_drewN ?_ _ | refine Below.drew ?_ | refine Below.setCell ?_ ?_ _ | refine Below.trans ?_ (Below.mono (by with_reducible assumption) ?_)) | go_size)⟩
      simp [h2]
  · go_wp2
    go_ret
    refine ⟨?_, by (repeat' first | with_reducible (first | exact Below.refl _ _ | assumption | refine Below.alloc ?_ ?_ _ | refine below_drewN ?_ _ | refine Below.drew ?_ | refine Below.setCell ?_ ?_ _ | refine Below.trans ?_ (Below.mono (by with_reducible assumption) ?_)) | go_size)⟩
    simp [h1]
theorem RLeaks.row {w : World} {v : Value} {l : List Ev.Leak} (h : RLeaks w v l) {k : Nat} {x : Ev.Leak} (hk : l[k]? = some x) :
    ∃ b o c A ca, v = .slice (some ⟨b, o, none⟩) l.length c ∧ b < w.heap.size ∧ w.cell? ⟨b, o + k * 3, none⟩ = some (.int .i64 x.pc) ∧ w.cell? ⟨b, o + k * 3 + 1, none⟩ = some (.int .i64 x.op) ∧ w.cell? ⟨b, o + k * 3 + 2, none⟩ = some (.slice A x.vals.length ca) ∧ RInts w w.heap.size (.slice A x.vals.length ca) x.vals := by
  obtain ⟨us, h1, h2, h3⟩ := h
  have hlt : k < l.length := (List.getElem?_eq_some_iff.1 hk).1
  obtain ⟨u, hu⟩ : ∃ u, us[k]? = some u := ⟨us[k]'(by omega), List.getElem?_eq_getElem _⟩
  obtain ⟨b, o, c, e, hb, _, _, hc⟩ := SL.row h2 (by omega)
  have hr := h3 k u x hu hk
  obtain ⟨A, ca, rfl, _, _⟩ := SL.form hr
  have hj := fun j z (hz : (leakCells x (.slice A x.vals.length ca))[j]? = some z) => hc (k * 3 + j) z (leaksCells_at l us k x _ hk hu j z hz)
  simp only [← Nat.add_assoc] at hj
  exact ⟨b, o, c, A, ca, e, hb, hj 0 _ rfl, hj 1 _ rfl, hj 2 _ rfl, hr⟩
set_option maxRecDepth 4000 in
set_option maxHeartbeats 3200000 in
theorem sameLeaks_any (l m : List Ev.Leak) (u v : Value) (w : World) (hl : RLeaks w u l) (hm : RLeaks w v m) :
    Calls Try.prog 42 #[u, v] w fun e w' => e = .returned (.bool (decide (l = m))) ∧ ∃ n, w' = w.drewN n := by
  have HL := Lib.hid hl
  have HM := Lib.hid hm
  obtain ⟨us, hul, hus, _⟩ := hl
  obtain ⟨vs, hvl, hvs, _⟩ := hm
  obtain ⟨A, c, rfl, hc1, hc2⟩ := SL.form hus
  obtain ⟨A', c', rfl, hd1, hd2⟩ := SL.form hvs
  unfold maxLen at hc2 hd2
  clear hus hvs hul hvl
  go_enter Try.func42, Try.ntmps42
  by_cases hlen : l.length = m.length
  case neg =>
    go_wp2
    go_ret
    refine ⟨?_, by (first | exact ⟨0, rfl⟩ | exact ⟨_, rfl⟩ | (simp only [World.drewN_drewN, World.drew_is_drewN]; exact ⟨_, rfl⟩))⟩
    have : l ≠ m := fun e => hlen (by rw [e])
    simp [this]
  case pos =>
  go_wp2_with fail
  have hlen1 : m.length ≤ l.length := by omega
  have hlen2 : l.length ≤ m.length := by omega
  clear hlen
  go_loopw [13] (fun z wr => ∃ j : Nat, j ≤ l.length ∧ z = .int .i64 j ∧ Hid (l.take j = m.take j) ∧ ∃ n, wr = w.drewN n) (fun z _ => l.length - (intOf z).toNat)
  case atStart => exact ⟨0, by omega, rfl, by simp [Hid], by (first | exact ⟨0, rfl⟩ | exact ⟨_, rfl⟩ | (simp only [World.drewN_drewN, World.drew_is_drewN]; exact ⟨_, rfl⟩))⟩
  case round =>
    obtain ⟨j, hj, rfl, HT, nw, rfl⟩ := hrel
    by_cases hlt : j < l.length
    · obtain ⟨x, hx⟩ : ∃ x, l[j]? = some x := ⟨l[j], List.getElem?_eq_getElem hlt⟩
      obtain ⟨y, hy⟩ : ∃ y, m[j]? = some y := ⟨m[j]'(by omega), List.getElem?_eq_getElem _⟩
      obtain ⟨b1, o1, r1, A1, c1, hv, hb1, p1, p2, p3, RA⟩ := RLeaks.row HL.out hx
      injection hv with hA _ hcr
      subst hA hcr
      obtain ⟨b2, o2, r2, A2, c2, hv, hb2, q1, q2, q3, RB⟩ := RLeaks.row HM.out hy
      injection hv with hA _ hcr
      subst hA hcr
      have HX := Lib.hid hx
      have HY := Lib.hid hy
      have RA := Lib.hid RA
      have RB := Lib.hid RB
      clear hx hy
      by_cases h1 : x.pc = y.pc
      · by_cases h2 : x.op = y.op
        · by_cases h3 : x.vals = y.vals
          · have hxy : x = y := by cases x; cases y; simp_all
            have hs := Lib.hid (take_snoc_same HT.out HX.out HY.out hxy)
            have g1 : decide (x.vals = y.vals) = true := by simpa using h3
            have e1 : (x.pc != y.pc) = false := by simpa using h1
            have e2 : (x.op != y.op) = false := by simpa using h2
            clear h1 h2 h3 hxy
            go_wp2_with fail
            go_quiet ((go_at_call 34; first | exact Calls.quiet_of (sameInts_is x.vals y.vals _ _ (w.drewN _) (SL.dr _ RA.out) (SL.dr _ RB.out) _ g1) | exact quiet_at (sameInts_is x.vals y.vals _ _ (w.drewN _) (SL.dr _ RA.out) (SL.dr _ RB.out) _ g1)))
            go_wp2_with fail
            go_roundw
            case rel => exact ⟨j + 1, by omega, by go_num, hs, by (first | exact ⟨0, rfl⟩ | exact ⟨_, rfl⟩ | (simp only [World.drewN_drewN, World.drew_is_drewN]; exact ⟨_, rfl⟩))⟩
            case measure => simp [intOf]; omega
          · have g1 : decide (x.vals = y.vals) = false := by simpa using h3
            have e1 : (x.pc != y.pc) = false := by simpa using h1
            have e2 : (x.op != y.op) = false := by simpa using h2
            have HXY := Lib.hid (show x ≠ y from fun e => h3 (by rw [e]))
            clear h1 h2 h3
            go_wp2_with fail
            go_quiet ((go_at_call 34; first | exact Calls.quiet_of (sameInts_is x.vals y.vals _ _ (w.drewN _) (SL.dr _ RA.out) (SL.dr _ RB.out) _ g1) | exact quiet_at (sameInts_is x.vals y.vals _ _ (w.drewN _) (SL.dr _ RA.out) (SL.dr _ RB.out) _ g1)))
            go_wp2
            go_ret
            refine ⟨?_, by (first | exact ⟨0, rfl⟩ | exact ⟨_, rfl⟩ | (simp only [World.drewN_drewN, World.drew_is_drewN]; exact ⟨_, rfl⟩))⟩
            simp [get_neq HX.out HY.out HXY.out]
        · have e1 : (x.pc != y.pc) = false := by simpa using h1
          have e2 : (x.op != y.op) = true := by simpa using h2
          have HXY := Lib.hid (show x ≠ y from fun e => h2 (by rw [e]))
          clear h1 h2
          go_wp2_with fail
          go_quiet (fail)
          go_wp2
          go_ret
          refine ⟨?_, by (first | exact ⟨0, rfl⟩ | exact ⟨_, rfl⟩ | (simp only [World.drewN_drewN, World.drew_is_drewN]; exact ⟨_, rfl⟩))⟩
          simp [get_neq HX.out HY.out HXY.out]
      · have e1 : (x.pc != y.pc) = true := by simpa using h1
        have HXY := Lib.hid (show x ≠ y from fun e => h1 (by rw [e]))
        clear h1
        go_wp2_with fail
        go_quiet (fail)
        go_wp2
        go_ret
        refine ⟨?_, by (first | exact ⟨0, rfl⟩ | exact ⟨_, rfl⟩ | (simp only [World.drewN_drewN, World.drew_is_drewN]; exact ⟨_, rfl⟩))⟩
        simp [get_neq HX.out HY.out HXY.out]
    · go_wp2
      go_ret
      refine ⟨?_, by (first | exact ⟨0, rfl⟩ | exact ⟨_, rfl⟩ | (simp only [World.drewN_drewN, World.drew_is_drewN]; exact ⟨_, rfl⟩))⟩
      have h := HT.out
      rw [List.take_of_length_le (by omega), List.take_of_length_le (by omega)] at h
      simp [h]
end Go.Proofs.Ytljcgcllhcdleaa
