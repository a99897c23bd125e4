import Derived.Test.YtljcgcllhcdleaaFo5
import Derived.Test.YtljcgcllhcdleaaFo9
import Derived.Test.YtljcgcllhcdleaaFo29
import Derived.Test.YtljcgcllhcdleaaFo14
import Derived.Deep.DeepCutAuto
/- Chapter 7, the reference: does a right instruction show what is secret, by a right table? -/
namespace Go.Proofs.Ytljcgcllhcdleaa
open Go.RowKit
set_option linter.unusedSimpArgs false
set_option linter.unusedVariables false
set_option maxRecDepth 8000 in
set_option maxHeartbeats 6400000 in
theorem shows_any (f : Ev.Flat) (t : List Int) (i : Ev.Instr) (k : Nat) (vf : Value) (w : World) (hf : RFlat w w.heap.size vf f) (hl : t.length = 18) (ht : Ev.wrong t = 0) (hs : Ev.Sound f k i) :
    Calls Try.prog 21 #[vf, tableV t, .agg #[.int .i64 i.op, .int .i64 i.d, .int .i64 i.a, .int .i64 i.b, .int .i64 i.c, .int .i64 i.imm]] w fun e w' => e = .returned (.bool (Ev.shows f t i)) ∧ Below w.heap.size w w' := by
  obtain ⟨vc, vs, va, rfl, hc, hsec, ha⟩ := hf
  obtain ⟨Ac, cc, rfl, _, _⟩ := SL.form hc
  obtain ⟨As, cs, rfl, hs1, hs2⟩ := SL.form hsec
  obtain ⟨Av, cv, rfl, _, _⟩ := SL.form ha
  unfold maxLen at hs2
  have HSC := Lib.hid hsec
  clear hc ha hsec
  by_cases h17 : i.op ≤ 17
  case neg =>
    have hres : Ev.shows f t i = false := by unfold Ev.shows; rw [decide_eq_false (by omega)]; rfl
    rw [hres]
    have g1 : decide (i.op < 1) = false := by have := hs.op.1; simp; omega
    have g2 : decide (17 < i.op) = true := by simp; omega
    unfold tableV
    generalize (t.map (Value.int .i64)).toArray = ta
    clear hs h17
    go_enter Try.func21, Try.ntmps21
    go_wp2
    go_ret
    exact ⟨rfl, by (repeat' first | with_reducible (first | exact Below.refl _ _ | assumption | refine Below.alloc ?_ ?_ _ | refine below_drewN ?_ _ | refine Below.drew ?_ | refine Below.setCell ?_ ?_ _ | refine Below.trans ?_ (Below.mono (by with_reducible assumption) ?_)) | go_size)⟩
  case pos =>
  have op1 := hs.op.1
  have hsi := seenIn_right (n := f.secret.length) ht op1 (fun p hp => hs.reads p hp)
  have hwh : whichOf t i.op false = Ev.seenOf t i.op := by unfold whichOf; rw [if_neg (by decide), if_pos h17]
  rw [hwh] at hsi
  have hsh : Ev.shows f t i = ((Ev.hasBit (Ev.seenOf t i.op) 0 && Ev.sec f.secret i.a) || (Ev.hasBit (Ev.seenOf t i.op) 1 && !decide (i.op = 16) && Ev.sec f.secret (if i.op = 17 then i.d else i.b)) || (Ev.hasBit (Ev.seenOf t i.op) 2 && Ev.sec f.secret i.c)) := by
    unfold Ev.shows; rw [decide_eq_true ⟨op1, h17⟩, Bool.true_and]
  rw [hsh]
  clear hsh hwh
  obtain ⟨res, hres⟩ : ∃ res, ((Ev.hasBit (Ev.seenOf t i.op) 0 && Ev.sec f.secret i.a) || (Ev.hasBit (Ev.seenOf t i.op) 1 && !decide (i.op = 16) && Ev.sec f.secret (if i.op = 17 then i.d else i.b)) || (Ev.hasBit (Ev.seenOf t i.op) 2 && Ev.sec f.secret i.c)) = res := ⟨_, rfl⟩
  rw [hres]
  have t0 := bit0_is hsi.1
  have t1 := bit1_is hsi.1
  have t2 := bit2_is hsi.1
  have i0 : Ev.hasBit (Ev.seenOf t i.op) 0 = true → inR f.secret.length i.a := fun h => (hsi.2.1 0 (by decide) h).2 (by omega) (by omega)
  have i1 : Ev.hasBit (Ev.seenOf t i.op) 1 = true → ¬ i.op = 16 → inR f.secret.length (if i.op = 17 then i.d else i.b) := fun h h16 => by
    by_cases h1 : i.op = 17
    · rw [if_pos h1]; exact (hsi.2.1 1 (by decide) h).1 ⟨h1, rfl⟩
    · rw [if_neg h1]; exact (hsi.2.1 1 (by decide) h).2 (by omega) (by omega)
  have i2 : Ev.hasBit (Ev.seenOf t i.op) 2 = true → inR f.secret.length i.c := fun h => (hsi.2.1 2 (by decide) h).2 (by omega) (by omega)
  have ct : (t.map (Value.int .i64)).toArray[i.op.toNat]? = some (.int .i64 (Ev.seenOf t i.op)) := by
    have hx : t[i.op.toNat]? = some (t.getD i.op.toNat 0) := by rw [List.getD_eq_getElem?_getD, List.getElem?_eq_getElem (by omega)]; rfl
    rw [List.getElem?_toArray, List.getElem?_map, hx]
    rfl
  have g1 : decide (i.op < 1) = false := by simp; omega
  have g2 : decide (17 < i.op) = false := by simp; omega
  unfold tableV
  generalize (t.map (Value.int .i64)).toArray = ta at *
  obtain ⟨bq, hbq⟩ : ∃ bq, (if i.op = 17 then i.d else i.b) = bq := ⟨_, rfl⟩
  rw [hbq] at i1 hres
  have HBQ := Lib.hid hbq
  clear hbq
  have HR0 := Lib.hid hres
  have HI := Lib.hid (And.intro i0 (And.intro i1 i2))
  have h07 := hsi.1
  clear hs hsi ht hl i0 i1 i2 hres
  generalize Ev.seenOf t i.op = ts at *
  have hbx := boxes3 w #[.slice Ac f.code.length cc, .slice As f.secret.length cs, .int .i64 f.params, .slice Av f.arrays.length cv] ta #[.int .i64 i.op, .int .i64 i.d, .int .i64 i.a, .int .i64 i.b, .int .i64 i.c, .int .i64 i.imm] 26 29 39
  have sA : w.heap.size + 1 + 1 + 1 = (((w.alloc (.cells #[.slice Ac f.code.length cc, .slice As f.secret.length cs, .int .i64 f.params, .slice Av f.arrays.length cv] 26)).alloc (.cells ta 29)).alloc (.cells #[.int .i64 i.op, .int .i64 i.d, .int .i64 i.a, .int .i64 i.b, .int .i64 i.c, .int .i64 i.imm] 39)).heap.size := by simp
  have bA : Below w.heap.size w (((w.alloc (.cells #[.slice Ac f.code.length cc, .slice As f.secret.length cs, .int .i64 f.params, .slice Av f.arrays.length cv] 26)).alloc (.cells ta 29)).alloc (.cells #[.int .i64 i.op, .int .i64 i.d, .int .i64 i.a, .int .i64 i.b, .int .i64 i.c, .int .i64 i.imm] 39)) := by (repeat' first | with_reducible (first | exact Below.refl _ _ | assumption | refine Below.alloc ?_ ?_ _ | refine below_drewN ?_ _ | refine Below.drew ?_ | refine Below.setCell ?_ ?_ _ | refine Below.trans ?_ (Below.mono (by with_reducible assumption) ?_)) | go_size)
  go_enter Try.func21, Try.ntmps21
  go_upto_region 1 with fail
  obtain ⟨wA, hwA⟩ : ∃ wA, (((w.alloc (.cells #[.slice Ac f.code.length cc, .slice As f.secret.length cs, .int .i64 f.params, .slice Av f.arrays.length cv] 26)).alloc (.cells ta 29)).alloc (.cells #[.int .i64 i.op, .int .i64 i.d, .int .i64 i.a, .int .i64 i.b, .int .i64 i.c, .int .i64 i.imm] 39)) = wA := ⟨_, rfl⟩
  rw [hwA] at hbx sA bA
  (try rw [hwA])
  clear hwA
  have SA := Lib.hid sA
  obtain ⟨hb0, hb1, hb2⟩ := hbx
  have z0 : w.heap.size < wA.heap.size := by omega
  have z1 : w.heap.size + 1 < wA.heap.size := by omega
  have z2 : w.heap.size + 1 + 1 < wA.heap.size := by omega
  clear sA
  have f1 : wA.cell? ⟨w.heap.size, 1, none⟩ = some (.slice As f.secret.length cs) := hb0 1 _ rfl
  have ct' := hb1 _ _ ct
  have n0 : wA.cell? ⟨w.heap.size + 1 + 1, 0, none⟩ = some (.int .i64 i.op) := hb2 0 _ rfl
  have n1 : wA.cell? ⟨w.heap.size + 1 + 1, 1, none⟩ = some (.int .i64 i.d) := hb2 1 _ rfl
  have n2 : wA.cell? ⟨w.heap.size + 1 + 1, 2, none⟩ = some (.int .i64 i.a) := hb2 2 _ rfl
  have n3 : wA.cell? ⟨w.heap.size + 1 + 1, 3, none⟩ = some (.int .i64 i.b) := hb2 3 _ rfl
  have n4 : wA.cell? ⟨w.heap.size + 1 + 1, 4, none⟩ = some (.int .i64 i.c) := hb2 4 _ rfl
  have HS : Hid (RBools wA wA.heap.size (.slice As f.secret.length cs) f.secret) := SL.at_ HSC.out bA (Nat.le_refl _)
  have HBA := Lib.hid bA
  clear hb0 hb1 hb2 ct HSC bA
  have hcell : ∀ x, inR f.secret.length x → ∃ b o c, (Value.slice As f.secret.length cs) = .slice (some ⟨b, o, none⟩) f.secret.length c ∧ wA.cell? ⟨b, o + x.toNat, none⟩ = some (.bool (Ev.sec f.secret x)) := fun x hx => by
    obtain ⟨b, o, c, e, _, _, _, hc⟩ := RBools.row HS.out (by unfold inR at hx; omega)
    have := hc x.toNat (by unfold inR at hx; omega)
    refine ⟨b, o, c, e, ?_⟩
    have hz : Ev.sec f.secret ((x.toNat : Nat) : Int) = Ev.sec f.secret x := by unfold Ev.sec; congr 1
    rw [hz] at this
    exact this
  have HC := Lib.hid hcell
  clear hcell HS
  go_upto_region 4 with fail
  clear ct' g1 g2
  go_upto_if 26 with fail
  go_cut [8] (fun x wx => x = .int .i64 bq ∧ wA = wx)
  case first => as_aux_lemma =>
    by_cases h : i.op = 17
    · have g : (i.op == 17) = true := beq_iff_eq.2 h
      have HQ := Lib.hid (show bq = i.d by rw [← HBQ.out, if_pos h])
      clear h
      go_wp2_with fail
      go_meet
      exact ⟨by rw [HQ.out], rfl⟩
    · have g : (i.op == 17) = false := beq_eq_false_iff_ne.2 h
      have HQ := Lib.hid (show bq = i.b by rw [← HBQ.out, if_neg h])
      clear h
      go_wp2_with fail
      go_meet
      exact ⟨by rw [HQ.out], rfl⟩
  case rest =>
  obtain ⟨rfl, rfl⟩ := hcut
  obtain ⟨A0, hA0⟩ : ∃ A0, Ev.hasBit ts 0 = A0 := ⟨_, rfl⟩
  obtain ⟨A1, hA1⟩ : ∃ A1, Ev.hasBit ts 1 = A1 := ⟨_, rfl⟩
  obtain ⟨A2, hA2⟩ : ∃ A2, Ev.hasBit ts 2 = A2 := ⟨_, rfl⟩
  obtain ⟨sa, hsa⟩ : ∃ sa, Ev.sec f.secret i.a = sa := ⟨_, rfl⟩
  obtain ⟨sb, hsb⟩ : ∃ sb, Ev.sec f.secret bq = sb := ⟨_, rfl⟩
  obtain ⟨sc, hsc⟩ : ∃ sc, Ev.sec f.secret i.c = sc := ⟨_, rfl⟩
  rw [hA0] at t0
  rw [hA1] at t1
  rw [hA2] at t2
  have F0 : Hid (A0 = true → 0 ≤ i.a ∧ i.a < (f.secret.length : Int) ∧ ∃ b o c, (Value.slice As f.secret.length cs) = .slice (some ⟨b, o, none⟩) f.secret.length c ∧ wA.cell? ⟨b, o + i.a.toNat, none⟩ = some (.bool sa)) := fun h => by
    have h1 := HI.out.1 (hA0.trans h)
    have h2 := HC.out _ h1
    rw [hsa] at h2
    exact ⟨h1.1, h1.2, h2⟩
  have F1 : Hid (A1 = true → ¬ i.op = 16 → 0 ≤ bq ∧ bq < (f.secret.length : Int) ∧ ∃ b o c, (Value.slice As f.secret.length cs) = .slice (some ⟨b, o, none⟩) f.secret.length c ∧ wA.cell? ⟨b, o + bq.toNat, none⟩ = some (.bool sb)) := fun h h16 => by
    have h1 := HI.out.2.1 (hA1.trans h) h16
    have h2 := HC.out _ h1
    rw [hsb] at h2
    exact ⟨h1.1, h1.2, h2⟩
  have F2 : Hid (A2 = true → 0 ≤ i.c ∧ i.c < (f.secret.length : Int) ∧ ∃ b o c, (Value.slice As f.secret.length cs) = .slice (some ⟨b, o, none⟩) f.secret.length c ∧ wA.cell? ⟨b, o + i.c.toNat, none⟩ = some (.bool sc)) := fun h => by
    have h1 := HI.out.2.2 (hA2.trans h)
    have h2 := HC.out _ h1
    rw [hsc] at h2
    exact ⟨h1.1, h1.2, h2⟩
  have hres := HR0.out
  rw [hA0, hA1, hA2, hsa, hsb, hsc] at hres
  have HRES := Lib.hid hres
  clear hA0 hA1 hA2 hsa hsb hsc HI HC HBQ HR0 hres
  rcases (show (A0 = false) ∨ (A0 = true ∧ sa = false) ∨ (A0 = true ∧ sa = true) from by cases A0 <;> cases sa <;> simp) with hx | ⟨hx, hx'⟩ | ⟨hx, hx'⟩
  case inr.inr => as_aux_lemma =>
    subst hx hx'
    obtain ⟨p0, p1, b9, o9, c9, hv, hc9⟩ := F0.out rfl
    injection hv with hA _ hcr
    subst hA hcr
    go_wp2_with fail
    go_ret
    exact ⟨by rw [← HRES.out]; simp, by have := HBA.out; (repeat' first | with_reducible (first | exact Below.refl _ _ | assumption | refine Below.alloc ?_ ?_ _ | refine below_drewN ?_ _ | refine Below.drew ?_ | refine Below.setCell ?_ ?_ _ | refine Below.trans ?_ (Below.mono (by with_reducible assumption) ?_)) | go_size)⟩
  case inl => as_aux_lemma =>
    subst hx
    rcases (show (A1 = false) ∨ (A1 = true ∧ i.op = 16) ∨ (A1 = true ∧ ¬ i.op = 16 ∧ sb = false) ∨ (A1 = true ∧ ¬ i.op = 16 ∧ sb = true) from by cases A1 <;> cases sb <;> simp <;> omega) with hy | ⟨hy, h16⟩ | ⟨hy, h16, hz⟩ | ⟨hy, h16, hz⟩
    case inl =>
      subst hy
      cases A2 with
      | false =>
        go_wp2_with fail
        go_ret
        exact ⟨by rw [← HRES.out]; simp, by have := HBA.out; (repeat' first | with_reducible (first | exact Below.refl _ _ | assumption | refine Below.alloc ?_ ?_ _ | refine below_drewN ?_ _ | refine Below.drew ?_ | refine Below.setCell ?_ ?_ _ | refine Below.trans ?_ (Below.mono (by with_reducible assumption) ?_)) | go_size)⟩
      | true =>
        obtain ⟨p4, p5, b7, o7, c7, hv, hc7⟩ := F2.out rfl
        injection hv with hA _ hcr
        subst hA hcr
        go_wp2_with fail
        go_ret
        exact ⟨by rw [← HRES.out]; simp, by have := HBA.out; (repeat' first | with_reducible (first | exact Below.refl _ _ | assumption | refine Below.alloc ?_ ?_ _ | refine below_drewN ?_ _ | refine Below.drew ?_ | refine Below.setCell ?_ ?_ _ | refine Below.trans ?_ (Below.mono (by with_reducible assumption) ?_)) | go_size)⟩
    case inr.inl =>
      subst hy
      have g16 : (i.op != 16) = false := by rw [h16]; rfl
      have H16 := Lib.hid (decide_eq_true h16)
      clear h16
      cases A2 with
      | false =>
        go_wp2_with fail
        go_ret
        exact ⟨by rw [← HRES.out]; simp [H16.out], by have := HBA.out; (repeat' first | with_reducible (first | exact Below.refl _ _ | assumption | refine Below.alloc ?_ ?_ _ | refine below_drewN ?_ _ | refine Below.drew ?_ | refine Below.setCell ?_ ?_ _ | refine Below.trans ?_ (Below.mono (by with_reducible assumption) ?_)) | go_size)⟩
      | true =>
        obtain ⟨p4, p5, b7, o7, c7, hv, hc7⟩ := F2.out rfl
        injection hv with hA _ hcr
        subst hA hcr
        go_wp2_with fail
        go_ret
        exact ⟨by rw [← HRES.out]; simp [H16.out], by have := HBA.out; (repeat' first | with_reducible (first | exact Below.refl _ _ | assumption | refine Below.alloc ?_ ?_ _ | refine below_drewN ?_ _ | refine Below.drew ?_ | refine Below.setCell ?_ ?_ _ | refine Below.trans ?_ (Below.mono (by with_reducible assumption) ?_)) | go_size)⟩
    case inr.inr.inl =>
      subst hy hz
      have g16 : (i.op != 16) = true := bne_iff_ne.2 h16
      have H16 := Lib.hid (decide_eq_false h16)
      obtain ⟨p2, p3, b9, o9, c9, hv, hc9⟩ := F1.out rfl h16
      injection hv with hA _ hcr
      subst hA hcr
      clear h16
      cases A2 with
      | false =>
        go_wp2_with fail
        go_ret
        exact ⟨by rw [← HRES.out]; simp [H16.out], by have := HBA.out; (repeat' first | with_reducible (first | exact Below.refl _ _ | assumption | refine Below.alloc ?_ ?_ _ | refine below_drewN ?_ _ | refine Below.drew ?_ | refine Below.setCell ?_ ?_ _ | refine Below.trans ?_ (Below.mono (by with_reducible assumption) ?_)) | go_size)⟩
      | true =>
        obtain ⟨p4, p5, b7, o7, c7, hv, hc7⟩ := F2.out rfl
        injection hv with hA _ hcr
        injection hA with hA
        injection hA with hA1 hA2
        subst hA1 hA2
        (try clear hcr)
        go_wp2_with fail
        go_ret
        exact ⟨by rw [← HRES.out]; simp [H16.out], by have := HBA.out; (repeat' first | with_reducible (first | exact Below.refl _ _ | assumption | refine Below.alloc ?_ ?_ _ | refine below_drewN ?_ _ | refine Below.drew ?_ | refine Below.setCell ?_ ?_ _ | refine Below.trans ?_ (Below.mono (by with_reducible assumption) ?_)) | go_size)⟩
    case inr.inr.inr =>
      subst hy hz
      have g16 : (i.op != 16) = true := bne_iff_ne.2 h16
      have H16 := Lib.hid (decide_eq_false h16)
      obtain ⟨p2, p3, b9, o9, c9, hv, hc9⟩ := F1.out rfl h16
      injection hv with hA _ hcr
      subst hA hcr
      clear h16
      go_wp2_with fail
      go_ret
      exact ⟨by rw [← HRES.out]; simp [H16.out], by have := HBA.out; (repeat' first | with_reducible (first | exact Below.refl _ _ | assumption | refine Below.alloc ?_ ?_ _ | refine below_drewN ?_ _ | refine Below.drew ?_ | refine Below.setCell ?_ ?_ _ | refine Below.trans ?_ (Below.mono (by with_reducible assumption) ?_)) | go_size)⟩
  case inr.inl => as_aux_lemma =>
    subst hx hx'
    obtain ⟨p0, p1, b8, o8, c8, hv, hc8⟩ := F0.out rfl
    injection hv with hA _ hcr
    subst hA hcr
    rcases (show (A1 = false) ∨ (A1 = true ∧ i.op = 16) ∨ (A1 = true ∧ ¬ i.op = 16 ∧ sb = false) ∨ (A1 = true ∧ ¬ i.op = 16 ∧ sb = true) from by cases A1 <;> cases sb <;> simp <;> omega) with hy | ⟨hy, h16⟩ | ⟨hy, h16, hz⟩ | ⟨hy, h16, hz⟩
    case inl =>
      subst hy
      cases A2 with
      | false =>
        go_wp2_with fail
        go_ret
        exact ⟨by rw [← HRES.out]; simp, by have := HBA.out; (repeat' first | with_reducible (first | exact Below.refl _ _ | assumption | refine Below.alloc ?_ ?_ _ | refine below_drewN ?_ _ | refine Below.drew ?_ | refine Below.setCell ?_ ?_ _ | refine Below.trans ?_ (Below.mono (by with_reducible assumption) ?_)) | go_size)⟩
      | true =>
        obtain ⟨p4, p5, b7, o7, c7, hv, hc7⟩ := F2.out rfl
        injection hv with hA _ hcr
        injection hA with hA
        injection hA with hA1 hA2
        subst hA1 hA2
        (try clear hcr)
        go_wp2_with fail
        go_ret
        exact ⟨by rw [← HRES.out]; simp, by have := HBA.out; (repeat' first | with_reducible (first | exact Below.refl _ _ | assumption | refine Below.alloc ?_ ?_ _ | refine below_drewN ?_ _ | refine Below.drew ?_ | refine Below.setCell ?_ ?_ _ | refine Below.trans ?_ (Below.mono (by with_reducible assumption) ?_)) | go_size)⟩
    case inr.inl =>
      subst hy
      have g16 : (i.op != 16) = false := by rw [h16]; rfl
      have H16 := Lib.hid (decide_eq_true h16)
      clear h16
      cases A2 with
      | false =>
        go_wp2_with fail
        go_ret
        exact ⟨by rw [← HRES.out]; simp [H16.out], by have := HBA.out; (repeat' first | with_reducible (first | exact Below.refl _ _ | assumption | refine Below.alloc ?_ ?_ _ | refine below_drewN ?_ _ | refine Below.drew ?_ | refine Below.setCell ?_ ?_ _ | refine Below.trans ?_ (Below.mono (by with_reducible assumption) ?_)) | go_size)⟩
      | true =>
        obtain ⟨p4, p5, b7, o7, c7, hv, hc7⟩ := F2.out rfl
        injection hv with hA _ hcr
        injection hA with hA
        injection hA with hA1 hA2
        subst hA1 hA2
        (try clear hcr)
        go_wp2_with fail
        go_ret
        exact ⟨by rw [← HRES.out]; simp [H16.out], by have := HBA.out; (repeat' first | with_reducible (first | exact Below.refl _ _ | assumption | refine Below.alloc ?_ ?_ _ | refine below_drewN ?_ _ | refine Below.drew ?_ | refine Below.setCell ?_ ?_ _ | refine Below.trans ?_ (Below.mono (by with_reducible assumption) ?_)) | go_size)⟩
    case inr.inr.inl =>
      subst hy hz
      have g16 : (i.op != 16) = true := bne_iff_ne.2 h16
      have H16 := Lib.hid (decide_eq_false h16)
      obtain ⟨p2, p3, b9, o9, c9, hv, hc9⟩ := F1.out rfl h16
      injection hv with hA _ hcr
      injection hA with hA
      injection hA with hA1 hA2
      subst hA1 hA2
      (try clear hcr)
      clear h16
      cases A2 with
      | false =>
        go_wp2_with fail
        go_ret
        exact ⟨by rw [← HRES.out]; simp [H16.out], by have := HBA.out; (repeat' first | with_reducible (first | exact Below.refl _ _ | assumption | refine Below.alloc ?_ ?_ _ | refine below_drewN ?_ _ | refine Below.drew ?_ | refine Below.setCell ?_ ?_ _ | refine Below.trans ?_ (Below.mono (by with_reducible assumption) ?_)) | go_size)⟩
      | true =>
        obtain ⟨p4, p5, b7, o7, c7, hv, hc7⟩ := F2.out rfl
        injection hv with hA _ hcr
        injection hA with hA
        injection hA with hA1 hA2
        subst hA1 hA2
        (try clear hcr)
        go_wp2_with fail
        go_ret
        exact ⟨by rw [← HRES.out]; simp [H16.out], by have := HBA.out; (repeat' first | with_reducible (first | exact Below.refl _ _ | assumption | refine Below.alloc ?_ ?_ _ | refine below_drewN ?_ _ | refine Below.drew ?_ | refine Below.setCell ?_ ?_ _ | refine Below.trans ?_ (Below.mono (by with_reducible assumption) ?_)) | go_size)⟩
    case inr.inr.inr =>
      subst hy hz
      have g16 : (i.op != 16) = true := bne_iff_ne.2 h16
      have H16 := Lib.hid (decide_eq_false h16)
      obtain ⟨p2, p3, b9, o9, c9, hv, hc9⟩ := F1.out rfl h16
      injection hv with hA _ hcr
      injection hA with hA
      injection hA with hA1 hA2
      subst hA1 hA2
      (try clear hcr)
      clear h16
      go_wp2_with fail
      go_ret
      exact ⟨by rw [← HRES.out]; simp [H16.out], by have := HBA.out; (repeat' first | with_reducible (first | exact Below.refl _ _ | assumption | refine Below.alloc ?_ ?_ _ | refine below_drewN ?_ _ | refine Below.drew ?_ | refine Below.setCell ?_ ?_ _ | refine Below.trans ?_ (Below.mono (by with_reducible assumption) ?_)) | go_size)⟩
end Go.Proofs.Ytljcgcllhcdleaa
