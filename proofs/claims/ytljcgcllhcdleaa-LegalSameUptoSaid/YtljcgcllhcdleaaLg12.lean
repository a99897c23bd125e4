import Derived.Test.YtljcgcllhcdleaaLg11
/- legal's maker: its straight-line methods. -/
namespace Go.Proofs.Ytljcgcllhcdleaa
open Go.RowKit
set_option linter.unusedSimpArgs false
set_option linter.unusedVariables false
/-- there is room for so many more -/
def Room (m : Ev.Mk) (k : Nat) : Prop := m.code.length + k ≤ 1073741824 ∧ m.secret.length + k ≤ 1073741824
theorem Room.more {m m' : Ev.Mk} {k n : Nat} (h : Room m k) (hc : m'.code.length = m.code.length + n ∧ m'.secret.length = m.secret.length + n) (hn : n ≤ k) : Room m' (k - n) := by unfold Room at *; omega
theorem Room.less {m : Ev.Mk} {k n : Nat} (h : Room m k) (hn : n ≤ k) : Room m n := by unfold Room at *; omega
theorem InP.more {s s' : List Bool} {n : Nat} {p : Int} (h : Ev.InP s p) (hn : s'.length = s.length + n) : Ev.InP s' p := ⟨h.1, by have := h.2; omega⟩
set_option maxHeartbeats 800000 in
theorem mnum_any (c : MkC) (m : Ev.Mk) (l : List Int) (n : Int) (w : World) (h : MkIn w c m l) (hr : Room m 1) :
    Calls Try.prog 84 #[.pointer (some ⟨c.mb, 0, none⟩), .int .i64 n] w fun e w' => e = .returned (.int .i64 (Ev.mkNum m n).1) ∧ MkIn w' c (Ev.mkNum m n).2 l ∧ MkFr c w w' := by
  have C1 := Lib.hid (place_any c m l false w h (by have := hr.2; omega))
  have HN := Lib.hid hr
  clear h hr
  go_enter Try.func84, Try.ntmps84
  go_wp2_with (first | (go_at_call 96; refine C1.out.mono ?_; rintro e w1 ⟨rfl, h1, fr1⟩; have H1 := Lib.hid h1; have F1 := Lib.hid fr1; clear h1 fr1) | (go_at_call 54; refine (put_any c (m.place false) l ⟨14, (m.secret.length : Int), 0, 0, 0, n⟩ _ H1.out (by have := HN.out.1; simp [Ev.Mk.place]; omega)).mono ?_; rintro e w2 ⟨rfl, h2, fr2⟩; have H2 := Lib.hid h2; have F2 := Lib.hid fr2; clear h2 fr2))
  go_ret
  exact ⟨rfl, H2.out, F1.out.trans F2.out⟩
set_option maxHeartbeats 800000 in
theorem mtwo_any (c : MkC) (m : Ev.Mk) (l : List Int) (op a b : Int) (w : World) (h : MkIn w c m l) (ha : Ev.InP m.secret a) (hb : Ev.InP m.secret b) (hr : Room m 1) :
    Calls Try.prog 82 #[.pointer (some ⟨c.mb, 0, none⟩), .int .i64 op, .int .i64 a, .int .i64 b] w fun e w' => e = .returned (.int .i64 (Ev.mkTwo m op a b).1) ∧ MkIn w' c (Ev.mkTwo m op a b).2 l ∧ MkFr c w w' := by
  obtain ⟨ka, rfl⟩ : ∃ k : Nat, a = (k : Int) := ⟨a.toNat, by have := ha.1; omega⟩
  obtain ⟨kb, rfl⟩ : ∃ k : Nat, b = (k : Int) := ⟨b.toNat, by have := hb.1; omega⟩
  have na : ka < m.secret.length := by have := ha.2; omega
  have nb : kb < m.secret.length := by have := hb.2; omega
  have C1 := Lib.hid (fun s => place_any c m l s w h (by have := hr.2; omega))
  have C2 := Lib.hid (fun w1 (h1 : MkIn w1 c (m.place (Ev.sec m.secret ka || Ev.sec m.secret kb)) l) => put_any c _ l ⟨op, (m.secret.length : Int), (ka : Int), (kb : Int), 0, 0⟩ w1 h1 (by have := hr.1; simp [Ev.Mk.place]; omega))
  obtain ⟨vc, vs, vx, h⟩ := h
  obtain ⟨bk, o, cc, rfl, hbl, hc1, hc2, hcell⟩ := RBools.row (SL.of_own h.sec) (by omega)
  have k1 : w.cell? ⟨c.mb, 1, none⟩ = some (.slice (some ⟨bk, o, none⟩) m.secret.length cc) := (h.at_ 1).trans rfl
  have ca := hcell ka na
  have cb := hcell kb nb
  unfold maxLen at hc2
  clear h hcell ha hb hbl
  have HN := Lib.hid hr
  clear hr
  cases hs : Ev.sec m.secret ka <;> cases ht : Ev.sec m.secret kb
  all_goals
    rw [hs] at ca C2
    rw [ht] at cb C2
    have HS := Lib.hid hs
    have HT := Lib.hid ht
    clear hs ht
    go_enter Try.func82, Try.ntmps82
    go_wp2_with (first | (go_at_call 96; refine (C1.out _).mono ?_; rintro e w1 ⟨rfl, h1, fr1⟩; have H1 := Lib.hid h1; have F1 := Lib.hid fr1; clear h1 fr1 k1 ca cb) | (go_at_call 54; refine (C2.out _ H1.out).mono ?_; rintro e w2 ⟨rfl, h2, fr2⟩; have H2 := Lib.hid h2; have F2 := Lib.hid fr2; clear h2 fr2))
    go_ret
    exact ⟨rfl, by unfold Ev.mkTwo; rw [HS.out, HT.out]; exact H2.out, F1.out.trans F2.out⟩
theorem new_num (m : Ev.Mk) (n : Int) : Ev.InP (Ev.mkNum m n).2.secret (Ev.mkNum m n).1 := ⟨by simp [Ev.mkNum], by simp [Ev.mkNum, Ev.Mk.place, Ev.Mk.put]; omega⟩
theorem new_two (m : Ev.Mk) (op a b : Int) : Ev.InP (Ev.mkTwo m op a b).2.secret (Ev.mkTwo m op a b).1 := ⟨by simp [Ev.mkTwo], by simp [Ev.mkTwo, Ev.Mk.place, Ev.Mk.put]; omega⟩
theorem new_not (m : Ev.Mk) (a : Int) : Ev.InP (Ev.mkNot m a).2.secret (Ev.mkNot m a).1 := new_two _ _ _ _
theorem new_some (m : Ev.Mk) (a : Int) : Ev.InP (Ev.mkSome m a).2.secret (Ev.mkSome m a).1 := new_two _ _ _ _
theorem new_mask (m : Ev.Mk) (a : Int) : Ev.InP (Ev.mkMask m a).2.secret (Ev.mkMask m a).1 := new_two _ _ _ _
theorem new_sel (m : Ev.Mk) (k b c : Int) : Ev.InP (Ev.mkSel m k b c).2.secret (Ev.mkSel m k b c).1 := new_two _ _ _ _
theorem new_less (m : Ev.Mk) (a b : Int) : Ev.InP (Ev.mkLess m a b).2.secret (Ev.mkLess m a b).1 := new_two _ _ _ _
theorem new_bit (m : Ev.Mk) (a n : Int) : Ev.InP (Ev.mkBit m a n).2.secret (Ev.mkBit m a n).1 := new_two _ _ _ _
set_option maxHeartbeats 1600000 in
theorem mnot_any (c : MkC) (m : Ev.Mk) (l : List Int) (a : Int) (w : World) (h : MkIn w c m l) (ha : Ev.InP m.secret a) (hr : Room m 2) :
    Calls Try.prog 95 #[.pointer (some ⟨c.mb, 0, none⟩), .int .i64 a] w fun e w' => e = .returned (.int .i64 (Ev.mkNot m a).1) ∧ MkIn w' c (Ev.mkNot m a).2 l ∧ MkFr c w w' := by
  obtain ⟨res, hres⟩ : ∃ r, r = Ev.mkNot m a := ⟨_, rfl⟩
  rw [← hres]
  have HRES := Lib.hid hres
  clear hres
  have R0 := Lib.hid hr
  have H0 := Lib.hid h
  have F0 := Lib.hid (MkFr.refl c w)
  have J0_a := Lib.hid ha
  clear h hr ha
  go_enter Try.func95, Try.ntmps95
  go_wp2_with fail
  go_at_call 84
  refine (mnum_any c m l 4294967295 _ H0.out  (R0.out.less (by omega))).mono ?_
  rintro e w1 ⟨rfl, h1, fr1⟩
  have F1 := Lib.hid (F0.out.trans fr1)
  have cd := Ev.num_code m 4294967295
  have R1 := Lib.hid (R0.out.more cd (by omega))
  have J1_a := Lib.hid (InP.more J0_a.out cd.2)
  have nw := new_num m 4294967295
  obtain ⟨r1, hr1⟩ : ∃ zz, zz = (Ev.mkNum m 4294967295).1 := ⟨_, rfl⟩
  obtain ⟨m1, hm1⟩ : ∃ zz, zz = (Ev.mkNum m 4294967295).2 := ⟨_, rfl⟩
  have X1 := Lib.hid hr1
  have Y1 := Lib.hid hm1
  simp only [← hr1, ← hm1] at h1 nw R1 J1_a ⊢
  have J1_r1 := Lib.hid nw
  have H1 := Lib.hid h1
  clear cd nw h1 fr1 hr1 hm1 F0 H0 R0 J0_a
  go_wp2_with fail
  go_at_call 82
  refine (mtwo_any c m1 l 5 a r1 _ H1.out J1_a.out J1_r1.out (R1.out.less (by omega))).mono ?_
  rintro e w2 ⟨rfl, h2, fr2⟩
  have F2 := Lib.hid (F1.out.trans fr2)
  have cd := Ev.two_code m1 5 a r1
  have R2 := Lib.hid (R1.out.more cd (by omega))
  have J2_a := Lib.hid (InP.more J1_a.out cd.2)
  have J2_r1 := Lib.hid (InP.more J1_r1.out cd.2)
  have nw := new_two m1 5 a r1
  obtain ⟨r2, hr2⟩ : ∃ zz, zz = (Ev.mkTwo m1 5 a r1).1 := ⟨_, rfl⟩
  obtain ⟨m2, hm2⟩ : ∃ zz, zz = (Ev.mkTwo m1 5 a r1).2 := ⟨_, rfl⟩
  have X2 := Lib.hid hr2
  have Y2 := Lib.hid hm2
  simp only [← hr2, ← hm2] at h2 nw R2 J2_a J2_r1 ⊢
  have J2_r2 := Lib.hid nw
  have H2 := Lib.hid h2
  clear cd nw h2 fr2 hr2 hm2 F1 H1 R1 J1_a J1_r1
  go_wp2_with fail
  go_ret
  have hfin : res = (r2, m2) := by
    rw [X2.out, Y2.out]
    rw [X1.out, Y1.out]
    exact HRES.out
  rw [hfin]
  exact ⟨rfl, H2.out, F2.out⟩
set_option maxHeartbeats 1600000 in
theorem msome_any (c : MkC) (m : Ev.Mk) (l : List Int) (a : Int) (w : World) (h : MkIn w c m l) (ha : Ev.InP m.secret a) (hr : Room m 5) :
    Calls Try.prog 83 #[.pointer (some ⟨c.mb, 0, none⟩), .int .i64 a] w fun e w' => e = .returned (.int .i64 (Ev.mkSome m a).1) ∧ MkIn w' c (Ev.mkSome m a).2 l ∧ MkFr c w w' := by
  obtain ⟨res, hres⟩ : ∃ r, r = Ev.mkSome m a := ⟨_, rfl⟩
  rw [← hres]
  have HRES := Lib.hid hres
  clear hres
  have R0 := Lib.hid hr
  have H0 := Lib.hid h
  have F0 := Lib.hid (MkFr.refl c w)
  have J0_a := Lib.hid ha
  clear h hr ha
  go_enter Try.func83, Try.ntmps83
  go_wp2_with fail
  go_at_call 84
  refine (mnum_any c m l 0 _ H0.out  (R0.out.less (by omega))).mono ?_
  rintro e w1 ⟨rfl, h1, fr1⟩
  have F1 := Lib.hid (F0.out.trans fr1)
  have cd := Ev.num_code m 0
  have R1 := Lib.hid (R0.out.more cd (by omega))
  have J1_a := Lib.hid (InP.more J0_a.out cd.2)
  have nw := new_num m 0
  obtain ⟨r1, hr1⟩ : ∃ zz, zz = (Ev.mkNum m 0).1 := ⟨_, rfl⟩
  obtain ⟨m1, hm1⟩ : ∃ zz, zz = (Ev.mkNum m 0).2 := ⟨_, rfl⟩
  have X1 := Lib.hid hr1
  have Y1 := Lib.hid hm1
  simp only [← hr1, ← hm1] at h1 nw R1 J1_a ⊢
  have J1_r1 := Lib.hid nw
  have H1 := Lib.hid h1
  clear cd nw h1 fr1 hr1 hm1 F0 H0 R0 J0_a
  go_wp2_with fail
  go_at_call 82
  refine (mtwo_any c m1 l 2 r1 a _ H1.out J1_r1.out J1_a.out (R1.out.less (by omega))).mono ?_
  rintro e w2 ⟨rfl, h2, fr2⟩
  have F2 := Lib.hid (F1.out.trans fr2)
  have cd := Ev.two_code m1 2 r1 a
  have R2 := Lib.hid (R1.out.more cd (by omega))
  have J2_a := Lib.hid (InP.more J1_a.out cd.2)
  have J2_r1 := Lib.hid (InP.more J1_r1.out cd.2)
  have nw := new_two m1 2 r1 a
  obtain ⟨r2, hr2⟩ : ∃ zz, zz = (Ev.mkTwo m1 2 r1 a).1 := ⟨_, rfl⟩
  obtain ⟨m2, hm2⟩ : ∃ zz, zz = (Ev.mkTwo m1 2 r1 a).2 := ⟨_, rfl⟩
  have X2 := Lib.hid hr2
  have Y2 := Lib.hid hm2
  simp only [← hr2, ← hm2] at h2 nw R2 J2_a J2_r1 ⊢
  have J2_r2 := Lib.hid nw
  have H2 := Lib.hid h2
  clear cd nw h2 fr2 hr2 hm2 F1 H1 R1 J1_a J1_r1
  go_wp2_with fail
  go_at_call 82
  refine (mtwo_any c m2 l 4 a r2 _ H2.out J2_a.out J2_r2.out (R2.out.less (by omega))).mono ?_
  rintro e w3 ⟨rfl, h3, fr3⟩
  have F3 := Lib.hid (F2.out.trans fr3)
  have cd := Ev.two_code m2 4 a r2
  have R3 := Lib.hid (R2.out.more cd (by omega))
  have J3_a := Lib.hid (InP.more J2_a.out cd.2)
  have J3_r1 := Lib.hid (InP.more J2_r1.out cd.2)
  have J3_r2 := Lib.hid (InP.more J2_r2.out cd.2)
  have nw := new_two m2 4 a r2
  obtain ⟨r3, hr3⟩ : ∃ zz, zz = (Ev.mkTwo m2 4 a r2).1 := ⟨_, rfl⟩
  obtain ⟨m3, hm3⟩ : ∃ zz, zz = (Ev.mkTwo m2 4 a r2).2 := ⟨_, rfl⟩
  have X3 := Lib.hid hr3
  have Y3 := Lib.hid hm3
  simp only [← hr3, ← hm3] at h3 nw R3 J3_a J3_r1 J3_r2 ⊢
  have J3_r3 := Lib.hid nw
  have H3 := Lib.hid h3
  clear cd nw h3 fr3 hr3 hm3 F2 H2 R2 J2_a J2_r1 J2_r2
  go_wp2_with fail
  go_at_call 84
  refine (mnum_any c m3 l 31 _ H3.out  (R3.out.less (by omega))).mono ?_
  rintro e w4 ⟨rfl, h4, fr4⟩
  have F4 := Lib.hid (F3.out.trans fr4)
  have cd := Ev.num_code m3 31
  have R4 := Lib.hid (R3.out.more cd (by omega))
  have J4_a := Lib.hid (InP.more J3_a.out cd.2)
  have J4_r1 := Lib.hid (InP.more J3_r1.out cd.2)
  have J4_r2 := Lib.hid (InP.more J3_r2.out cd.2)
  have J4_r3 := Lib.hid (InP.more J3_r3.out cd.2)
  have nw := new_num m3 31
  obtain ⟨r4, hr4⟩ : ∃ zz, zz = (Ev.mkNum m3 31).1 := ⟨_, rfl⟩
  obtain ⟨m4, hm4⟩ : ∃ zz, zz = (Ev.mkNum m3 31).2 := ⟨_, rfl⟩
  have X4 := Lib.hid hr4
  have Y4 := Lib.hid hm4
  simp only [← hr4, ← hm4] at h4 nw R4 J4_a J4_r1 J4_r2 J4_r3 ⊢
  have J4_r4 := Lib.hid nw
  have H4 := Lib.hid h4
  clear cd nw h4 fr4 hr4 hm4 F3 H3 R3 J3_a J3_r1 J3_r2 J3_r3
  go_wp2_with fail
  go_at_call 82
  refine (mtwo_any c m4 l 7 r3 r4 _ H4.out J4_r3.out J4_r4.out (R4.out.less (by omega))).mono ?_
  rintro e w5 ⟨rfl, h5, fr5⟩
  have F5 := Lib.hid (F4.out.trans fr5)
  have cd := Ev.two_code m4 7 r3 r4
  have R5 := Lib.hid (R4.out.more cd (by omega))
  have J5_a := Lib.hid (InP.more J4_a.out cd.2)
  have J5_r1 := Lib.hid (InP.more J4_r1.out cd.2)
  have J5_r2 := Lib.hid (InP.more J4_r2.out cd.2)
  have J5_r3 := Lib.hid (InP.more J4_r3.out cd.2)
  have J5_r4 := Lib.hid (InP.more J4_r4.out cd.2)
  have nw := new_two m4 7 r3 r4
  obtain ⟨r5, hr5⟩ : ∃ zz, zz = (Ev.mkTwo m4 7 r3 r4).1 := ⟨_, rfl⟩
  obtain ⟨m5, hm5⟩ : ∃ zz, zz = (Ev.mkTwo m4 7 r3 r4).2 := ⟨_, rfl⟩
  have X5 := Lib.hid hr5
  have Y5 := Lib.hid hm5
  simp only [← hr5, ← hm5] at h5 nw R5 J5_a J5_r1 J5_r2 J5_r3 J5_r4 ⊢
  have J5_r5 := Lib.hid nw
  have H5 := Lib.hid h5
  clear cd nw h5 fr5 hr5 hm5 F4 H4 R4 J4_a J4_r1 J4_r2 J4_r3 J4_r4
  go_wp2_with fail
  go_ret
  have hfin : res = (r5, m5) := by
    rw [X5.out, Y5.out]
    rw [X4.out, Y4.out]
    rw [X3.out, Y3.out]
    rw [X2.out, Y2.out]
    rw [X1.out, Y1.out]
    exact HRES.out
  rw [hfin]
  exact ⟨rfl, H5.out, F5.out⟩
set_option maxHeartbeats 1600000 in
theorem mmask_any (c : MkC) (m : Ev.Mk) (l : List Int) (a : Int) (w : World) (h : MkIn w c m l) (ha : Ev.InP m.secret a) (hr : Room m 2) :
    Calls Try.prog 86 #[.pointer (some ⟨c.mb, 0, none⟩), .int .i64 a] w fun e w' => e = .returned (.int .i64 (Ev.mkMask m a).1) ∧ MkIn w' c (Ev.mkMask m a).2 l ∧ MkFr c w w' := by
  obtain ⟨res, hres⟩ : ∃ r, r = Ev.mkMask m a := ⟨_, rfl⟩
  rw [← hres]
  have HRES := Lib.hid hres
  clear hres
  have R0 := Lib.hid hr
  have H0 := Lib.hid h
  have F0 := Lib.hid (MkFr.refl c w)
  have J0_a := Lib.hid ha
  clear h hr ha
  go_enter Try.func86, Try.ntmps86
  go_wp2_with fail
  go_at_call 84
  refine (mnum_any c m l 0 _ H0.out  (R0.out.less (by omega))).mono ?_
  rintro e w1 ⟨rfl, h1, fr1⟩
  have F1 := Lib.hid (F0.out.trans fr1)
  have cd := Ev.num_code m 0
  have R1 := Lib.hid (R0.out.more cd (by omega))
  have J1_a := Lib.hid (InP.more J0_a.out cd.2)
  have nw := new_num m 0
  obtain ⟨r1, hr1⟩ : ∃ zz, zz = (Ev.mkNum m 0).1 := ⟨_, rfl⟩
  obtain ⟨m1, hm1⟩ : ∃ zz, zz = (Ev.mkNum m 0).2 := ⟨_, rfl⟩
  have X1 := Lib.hid hr1
  have Y1 := Lib.hid hm1
  simp only [← hr1, ← hm1] at h1 nw R1 J1_a ⊢
  have J1_r1 := Lib.hid nw
  have H1 := Lib.hid h1
  clear cd nw h1 fr1 hr1 hm1 F0 H0 R0 J0_a
  go_wp2_with fail
  go_at_call 82
  refine (mtwo_any c m1 l 2 r1 a _ H1.out J1_r1.out J1_a.out (R1.out.less (by omega))).mono ?_
  rintro e w2 ⟨rfl, h2, fr2⟩
  have F2 := Lib.hid (F1.out.trans fr2)
  have cd := Ev.two_code m1 2 r1 a
  have R2 := Lib.hid (R1.out.more cd (by omega))
  have J2_a := Lib.hid (InP.more J1_a.out cd.2)
  have J2_r1 := Lib.hid (InP.more J1_r1.out cd.2)
  have nw := new_two m1 2 r1 a
  obtain ⟨r2, hr2⟩ : ∃ zz, zz = (Ev.mkTwo m1 2 r1 a).1 := ⟨_, rfl⟩
  obtain ⟨m2, hm2⟩ : ∃ zz, zz = (Ev.mkTwo m1 2 r1 a).2 := ⟨_, rfl⟩
  have X2 := Lib.hid hr2
  have Y2 := Lib.hid hm2
  simp only [← hr2, ← hm2] at h2 nw R2 J2_a J2_r1 ⊢
  have J2_r2 := Lib.hid nw
  have H2 := Lib.hid h2
  clear cd nw h2 fr2 hr2 hm2 F1 H1 R1 J1_a J1_r1
  go_wp2_with fail
  go_ret
  have hfin : res = (r2, m2) := by
    rw [X2.out, Y2.out]
    rw [X1.out, Y1.out]
    exact HRES.out
  rw [hfin]
  exact ⟨rfl, H2.out, F2.out⟩
set_option maxHeartbeats 1600000 in
theorem msel_any (c : MkC) (m : Ev.Mk) (l : List Int) (k b x : Int) (w : World) (h : MkIn w c m l) (hk : Ev.InP m.secret k) (hb : Ev.InP m.secret b) (hx : Ev.InP m.secret x) (hr : Room m 5) :
    Calls Try.prog 85 #[.pointer (some ⟨c.mb, 0, none⟩), .int .i64 k, .int .i64 b, .int .i64 x] w fun e w' => e = .returned (.int .i64 (Ev.mkSel m k b x).1) ∧ MkIn w' c (Ev.mkSel m k b x).2 l ∧ MkFr c w w' := by
  obtain ⟨res, hres⟩ : ∃ r, r = Ev.mkSel m k b x := ⟨_, rfl⟩
  rw [← hres]
  have HRES := Lib.hid hres
  clear hres
  have R0 := Lib.hid hr
  have H0 := Lib.hid h
  have F0 := Lib.hid (MkFr.refl c w)
  have J0_k := Lib.hid hk
  have J0_b := Lib.hid hb
  have J0_x := Lib.hid hx
  clear h hr hk hb hx
  go_enter Try.func85, Try.ntmps85
  go_wp2_with fail
  go_at_call 82
  refine (mtwo_any c m l 3 b k _ H0.out J0_b.out J0_k.out (R0.out.less (by omega))).mono ?_
  rintro e w1 ⟨rfl, h1, fr1⟩
  have F1 := Lib.hid (F0.out.trans fr1)
  have cd := Ev.two_code m 3 b k
  have R1 := Lib.hid (R0.out.more cd (by omega))
  have J1_k := Lib.hid (InP.more J0_k.out cd.2)
  have J1_b := Lib.hid (InP.more J0_b.out cd.2)
  have J1_x := Lib.hid (InP.more J0_x.out cd.2)
  have nw := new_two m 3 b k
  obtain ⟨r1, hr1⟩ : ∃ zz, zz = (Ev.mkTwo m 3 b k).1 := ⟨_, rfl⟩
  obtain ⟨m1, hm1⟩ : ∃ zz, zz = (Ev.mkTwo m 3 b k).2 := ⟨_, rfl⟩
  have X1 := Lib.hid hr1
  have Y1 := Lib.hid hm1
  simp only [← hr1, ← hm1] at h1 nw R1 J1_k J1_b J1_x ⊢
  have J1_r1 := Lib.hid nw
  have H1 := Lib.hid h1
  clear cd nw h1 fr1 hr1 hm1 F0 H0 R0 J0_k J0_b J0_x
  go_wp2_with fail
  go_at_call 95
  refine (mnot_any c m1 l k _ H1.out J1_k.out (R1.out.less (by omega))).mono ?_
  rintro e w2 ⟨rfl, h2, fr2⟩
  have F2 := Lib.hid (F1.out.trans fr2)
  have cd := Ev.not_code m1 k
  have R2 := Lib.hid (R1.out.more cd (by omega))
  have J2_k := Lib.hid (InP.more J1_k.out cd.2)
  have J2_b := Lib.hid (InP.more J1_b.out cd.2)
  have J2_x := Lib.hid (InP.more J1_x.out cd.2)
  have J2_r1 := Lib.hid (InP.more J1_r1.out cd.2)
  have nw := new_not m1 k
  obtain ⟨r2, hr2⟩ : ∃ zz, zz = (Ev.mkNot m1 k).1 := ⟨_, rfl⟩
  obtain ⟨m2, hm2⟩ : ∃ zz, zz = (Ev.mkNot m1 k).2 := ⟨_, rfl⟩
  have X2 := Lib.hid hr2
  have Y2 := Lib.hid hm2
  simp only [← hr2, ← hm2] at h2 nw R2 J2_k J2_b J2_x J2_r1 ⊢
  have J2_r2 := Lib.hid nw
  have H2 := Lib.hid h2
  clear cd nw h2 fr2 hr2 hm2 F1 H1 R1 J1_k J1_b J1_x J1_r1
  go_wp2_with fail
  go_at_call 82
  refine (mtwo_any c m2 l 3 x r2 _ H2.out J2_x.out J2_r2.out (R2.out.less (by omega))).mono ?_
  rintro e w3 ⟨rfl, h3, fr3⟩
  have F3 := Lib.hid (F2.out.trans fr3)
  have cd := Ev.two_code m2 3 x r2
  have R3 := Lib.hid (R2.out.more cd (by omega))
  have J3_k := Lib.hid (InP.more J2_k.out cd.2)
  have J3_b := Lib.hid (InP.more J2_b.out cd.2)
  have J3_x := Lib.hid (InP.more J2_x.out cd.2)
  have J3_r1 := Lib.hid (InP.more J2_r1.out cd.2)
  have J3_r2 := Lib.hid (InP.more J2_r2.out cd.2)
  have nw := new_two m2 3 x r2
  obtain ⟨r3, hr3⟩ : ∃ zz, zz = (Ev.mkTwo m2 3 x r2).1 := ⟨_, rfl⟩
  obtain ⟨m3, hm3⟩ : ∃ zz, zz = (Ev.mkTwo m2 3 x r2).2 := ⟨_, rfl⟩
  have X3 := Lib.hid hr3
  have Y3 := Lib.hid hm3
  simp only [← hr3, ← hm3] at h3 nw R3 J3_k J3_b J3_x J3_r1 J3_r2 ⊢
  have J3_r3 := Lib.hid nw
  have H3 := Lib.hid h3
  clear cd nw h3 fr3 hr3 hm3 F2 H2 R2 J2_k J2_b J2_x J2_r1 J2_r2
  go_wp2_with fail
  go_at_call 82
  refine (mtwo_any c m3 l 4 r1 r3 _ H3.out J3_r1.out J3_r3.out (R3.out.less (by omega))).mono ?_
  rintro e w4 ⟨rfl, h4, fr4⟩
  have F4 := Lib.hid (F3.out.trans fr4)
  have cd := Ev.two_code m3 4 r1 r3
  have R4 := Lib.hid (R3.out.more cd (by omega))
  have J4_k := Lib.hid (InP.more J3_k.out cd.2)
  have J4_b := Lib.hid (InP.more J3_b.out cd.2)
  have J4_x := Lib.hid (InP.more J3_x.out cd.2)
  have J4_r1 := Lib.hid (InP.more J3_r1.out cd.2)
  have J4_r2 := Lib.hid (InP.more J3_r2.out cd.2)
  have J4_r3 := Lib.hid (InP.more J3_r3.out cd.2)
  have nw := new_two m3 4 r1 r3
  obtain ⟨r4, hr4⟩ : ∃ zz, zz = (Ev.mkTwo m3 4 r1 r3).1 := ⟨_, rfl⟩
  obtain ⟨m4, hm4⟩ : ∃ zz, zz = (Ev.mkTwo m3 4 r1 r3).2 := ⟨_, rfl⟩
  have X4 := Lib.hid hr4
  have Y4 := Lib.hid hm4
  simp only [← hr4, ← hm4] at h4 nw R4 J4_k J4_b J4_x J4_r1 J4_r2 J4_r3 ⊢
  have J4_r4 := Lib.hid nw
  have H4 := Lib.hid h4
  clear cd nw h4 fr4 hr4 hm4 F3 H3 R3 J3_k J3_b J3_x J3_r1 J3_r2 J3_r3
  go_wp2_with fail
  go_ret
  have hfin : res = (r4, m4) := by
    rw [X4.out, Y4.out]
    rw [X3.out, Y3.out]
    rw [X2.out, Y2.out]
    rw [X1.out, Y1.out]
    exact HRES.out
  rw [hfin]
  exact ⟨rfl, H4.out, F4.out⟩
set_option maxHeartbeats 1600000 in
theorem mless_any (c : MkC) (m : Ev.Mk) (l : List Int) (a b : Int) (w : World) (h : MkIn w c m l) (ha : Ev.InP m.secret a) (hb : Ev.InP m.secret b) (hr : Room m 9) :
    Calls Try.prog 81 #[.pointer (some ⟨c.mb, 0, none⟩), .int .i64 a, .int .i64 b] w fun e w' => e = .returned (.int .i64 (Ev.mkLess m a b).1) ∧ MkIn w' c (Ev.mkLess m a b).2 l ∧ MkFr c w w' := by
  obtain ⟨res, hres⟩ : ∃ r, r = Ev.mkLess m a b := ⟨_, rfl⟩
  rw [← hres]
  have HRES := Lib.hid hres
  clear hres
  have R0 := Lib.hid hr
  have H0 := Lib.hid h
  have F0 := Lib.hid (MkFr.refl c w)
  have J0_a := Lib.hid ha
  have J0_b := Lib.hid hb
  clear h hr ha hb
  go_enter Try.func81, Try.ntmps81
  go_wp2_with fail
  go_at_call 95
  refine (mnot_any c m l a _ H0.out J0_a.out (R0.out.less (by omega))).mono ?_
  rintro e w1 ⟨rfl, h1, fr1⟩
  have F1 := Lib.hid (F0.out.trans fr1)
  have cd := Ev.not_code m a
  have R1 := Lib.hid (R0.out.more cd (by omega))
  have J1_a := Lib.hid (InP.more J0_a.out cd.2)
  have J1_b := Lib.hid (InP.more J0_b.out cd.2)
  have nw := new_not m a
  obtain ⟨r1, hr1⟩ : ∃ zz, zz = (Ev.mkNot m a).1 := ⟨_, rfl⟩
  obtain ⟨m1, hm1⟩ : ∃ zz, zz = (Ev.mkNot m a).2 := ⟨_, rfl⟩
  have X1 := Lib.hid hr1
  have Y1 := Lib.hid hm1
  simp only [← hr1, ← hm1] at h1 nw R1 J1_a J1_b ⊢
  have J1_r1 := Lib.hid nw
  have H1 := Lib.hid h1
  clear cd nw h1 fr1 hr1 hm1 F0 H0 R0 J0_a J0_b
  go_wp2_with fail
  go_at_call 82
  refine (mtwo_any c m1 l 3 r1 b _ H1.out J1_r1.out J1_b.out (R1.out.less (by omega))).mono ?_
  rintro e w2 ⟨rfl, h2, fr2⟩
  have F2 := Lib.hid (F1.out.trans fr2)
  have cd := Ev.two_code m1 3 r1 b
  have R2 := Lib.hid (R1.out.more cd (by omega))
  have J2_a := Lib.hid (InP.more J1_a.out cd.2)
  have J2_b := Lib.hid (InP.more J1_b.out cd.2)
  have J2_r1 := Lib.hid (InP.more J1_r1.out cd.2)
  have nw := new_two m1 3 r1 b
  obtain ⟨r2, hr2⟩ : ∃ zz, zz = (Ev.mkTwo m1 3 r1 b).1 := ⟨_, rfl⟩
  obtain ⟨m2, hm2⟩ : ∃ zz, zz = (Ev.mkTwo m1 3 r1 b).2 := ⟨_, rfl⟩
  have X2 := Lib.hid hr2
  have Y2 := Lib.hid hm2
  simp only [← hr2, ← hm2] at h2 nw R2 J2_a J2_b J2_r1 ⊢
  have J2_r2 := Lib.hid nw
  have H2 := Lib.hid h2
  clear cd nw h2 fr2 hr2 hm2 F1 H1 R1 J1_a J1_b J1_r1
  go_wp2_with fail
  go_at_call 82
  refine (mtwo_any c m2 l 4 r1 b _ H2.out J2_r1.out J2_b.out (R2.out.less (by omega))).mono ?_
  rintro e w3 ⟨rfl, h3, fr3⟩
  have F3 := Lib.hid (F2.out.trans fr3)
  have cd := Ev.two_code m2 4 r1 b
  have R3 := Lib.hid (R2.out.more cd (by omega))
  have J3_a := Lib.hid (InP.more J2_a.out cd.2)
  have J3_b := Lib.hid (InP.more J2_b.out cd.2)
  have J3_r1 := Lib.hid (InP.more J2_r1.out cd.2)
  have J3_r2 := Lib.hid (InP.more J2_r2.out cd.2)
  have nw := new_two m2 4 r1 b
  obtain ⟨r3, hr3⟩ : ∃ zz, zz = (Ev.mkTwo m2 4 r1 b).1 := ⟨_, rfl⟩
  obtain ⟨m3, hm3⟩ : ∃ zz, zz = (Ev.mkTwo m2 4 r1 b).2 := ⟨_, rfl⟩
  have X3 := Lib.hid hr3
  have Y3 := Lib.hid hm3
  simp only [← hr3, ← hm3] at h3 nw R3 J3_a J3_b J3_r1 J3_r2 ⊢
  have J3_r3 := Lib.hid nw
  have H3 := Lib.hid h3
  clear cd nw h3 fr3 hr3 hm3 F2 H2 R2 J2_a J2_b J2_r1 J2_r2
  go_wp2_with fail
  go_at_call 82
  refine (mtwo_any c m3 l 2 a b _ H3.out J3_a.out J3_b.out (R3.out.less (by omega))).mono ?_
  rintro e w4 ⟨rfl, h4, fr4⟩
  have F4 := Lib.hid (F3.out.trans fr4)
  have cd := Ev.two_code m3 2 a b
  have R4 := Lib.hid (R3.out.more cd (by omega))
  have J4_a := Lib.hid (InP.more J3_a.out cd.2)
  have J4_b := Lib.hid (InP.more J3_b.out cd.2)
  have J4_r1 := Lib.hid (InP.more J3_r1.out cd.2)
  have J4_r2 := Lib.hid (InP.more J3_r2.out cd.2)
  have J4_r3 := Lib.hid (InP.more J3_r3.out cd.2)
  have nw := new_two m3 2 a b
  obtain ⟨r4, hr4⟩ : ∃ zz, zz = (Ev.mkTwo m3 2 a b).1 := ⟨_, rfl⟩
  obtain ⟨m4, hm4⟩ : ∃ zz, zz = (Ev.mkTwo m3 2 a b).2 := ⟨_, rfl⟩
  have X4 := Lib.hid hr4
  have Y4 := Lib.hid hm4
  simp only [← hr4, ← hm4] at h4 nw R4 J4_a J4_b J4_r1 J4_r2 J4_r3 ⊢
  have J4_r4 := Lib.hid nw
  have H4 := Lib.hid h4
  clear cd nw h4 fr4 hr4 hm4 F3 H3 R3 J3_a J3_b J3_r1 J3_r2 J3_r3
  go_wp2_with fail
  go_at_call 82
  refine (mtwo_any c m4 l 3 r3 r4 _ H4.out J4_r3.out J4_r4.out (R4.out.less (by omega))).mono ?_
  rintro e w5 ⟨rfl, h5, fr5⟩
  have F5 := Lib.hid (F4.out.trans fr5)
  have cd := Ev.two_code m4 3 r3 r4
  have R5 := Lib.hid (R4.out.more cd (by omega))
  have J5_a := Lib.hid (InP.more J4_a.out cd.2)
  have J5_b := Lib.hid (InP.more J4_b.out cd.2)
  have J5_r1 := Lib.hid (InP.more J4_r1.out cd.2)
  have J5_r2 := Lib.hid (InP.more J4_r2.out cd.2)
  have J5_r3 := Lib.hid (InP.more J4_r3.out cd.2)
  have J5_r4 := Lib.hid (InP.more J4_r4.out cd.2)
  have nw := new_two m4 3 r3 r4
  obtain ⟨r5, hr5⟩ : ∃ zz, zz = (Ev.mkTwo m4 3 r3 r4).1 := ⟨_, rfl⟩
  obtain ⟨m5, hm5⟩ : ∃ zz, zz = (Ev.mkTwo m4 3 r3 r4).2 := ⟨_, rfl⟩
  have X5 := Lib.hid hr5
  have Y5 := Lib.hid hm5
  simp only [← hr5, ← hm5] at h5 nw R5 J5_a J5_b J5_r1 J5_r2 J5_r3 J5_r4 ⊢
  have J5_r5 := Lib.hid nw
  have H5 := Lib.hid h5
  clear cd nw h5 fr5 hr5 hm5 F4 H4 R4 J4_a J4_b J4_r1 J4_r2 J4_r3 J4_r4
  go_wp2_with fail
  go_at_call 82
  refine (mtwo_any c m5 l 4 r2 r5 _ H5.out J5_r2.out J5_r5.out (R5.out.less (by omega))).mono ?_
  rintro e w6 ⟨rfl, h6, fr6⟩
  have F6 := Lib.hid (F5.out.trans fr6)
  have cd := Ev.two_code m5 4 r2 r5
  have R6 := Lib.hid (R5.out.more cd (by omega))
  have J6_a := Lib.hid (InP.more J5_a.out cd.2)
  have J6_b := Lib.hid (InP.more J5_b.out cd.2)
  have J6_r1 := Lib.hid (InP.more J5_r1.out cd.2)
  have J6_r2 := Lib.hid (InP.more J5_r2.out cd.2)
  have J6_r3 := Lib.hid (InP.more J5_r3.out cd.2)
  have J6_r4 := Lib.hid (InP.more J5_r4.out cd.2)
  have J6_r5 := Lib.hid (InP.more J5_r5.out cd.2)
  have nw := new_two m5 4 r2 r5
  obtain ⟨r6, hr6⟩ : ∃ zz, zz = (Ev.mkTwo m5 4 r2 r5).1 := ⟨_, rfl⟩
  obtain ⟨m6, hm6⟩ : ∃ zz, zz = (Ev.mkTwo m5 4 r2 r5).2 := ⟨_, rfl⟩
  have X6 := Lib.hid hr6
  have Y6 := Lib.hid hm6
  simp only [← hr6, ← hm6] at h6 nw R6 J6_a J6_b J6_r1 J6_r2 J6_r3 J6_r4 J6_r5 ⊢
  have J6_r6 := Lib.hid nw
  have H6 := Lib.hid h6
  clear cd nw h6 fr6 hr6 hm6 F5 H5 R5 J5_a J5_b J5_r1 J5_r2 J5_r3 J5_r4 J5_r5
  go_wp2_with fail
  go_at_call 84
  refine (mnum_any c m6 l 31 _ H6.out  (R6.out.less (by omega))).mono ?_
  rintro e w7 ⟨rfl, h7, fr7⟩
  have F7 := Lib.hid (F6.out.trans fr7)
  have cd := Ev.num_code m6 31
  have R7 := Lib.hid (R6.out.more cd (by omega))
  have J7_a := Lib.hid (InP.more J6_a.out cd.2)
  have J7_b := Lib.hid (InP.more J6_b.out cd.2)
  have J7_r1 := Lib.hid (InP.more J6_r1.out cd.2)
  have J7_r2 := Lib.hid (InP.more J6_r2.out cd.2)
  have J7_r3 := Lib.hid (InP.more J6_r3.out cd.2)
  have J7_r4 := Lib.hid (InP.more J6_r4.out cd.2)
  have J7_r5 := Lib.hid (InP.more J6_r5.out cd.2)
  have J7_r6 := Lib.hid (InP.more J6_r6.out cd.2)
  have nw := new_num m6 31
  obtain ⟨r7, hr7⟩ : ∃ zz, zz = (Ev.mkNum m6 31).1 := ⟨_, rfl⟩
  obtain ⟨m7, hm7⟩ : ∃ zz, zz = (Ev.mkNum m6 31).2 := ⟨_, rfl⟩
  have X7 := Lib.hid hr7
  have Y7 := Lib.hid hm7
  simp only [← hr7, ← hm7] at h7 nw R7 J7_a J7_b J7_r1 J7_r2 J7_r3 J7_r4 J7_r5 J7_r6 ⊢
  have J7_r7 := Lib.hid nw
  have H7 := Lib.hid h7
  clear cd nw h7 fr7 hr7 hm7 F6 H6 R6 J6_a J6_b J6_r1 J6_r2 J6_r3 J6_r4 J6_r5 J6_r6
  go_wp2_with fail
  go_at_call 82
  refine (mtwo_any c m7 l 7 r6 r7 _ H7.out J7_r6.out J7_r7.out (R7.out.less (by omega))).mono ?_
  rintro e w8 ⟨rfl, h8, fr8⟩
  have F8 := Lib.hid (F7.out.trans fr8)
  have cd := Ev.two_code m7 7 r6 r7
  have R8 := Lib.hid (R7.out.more cd (by omega))
  have J8_a := Lib.hid (InP.more J7_a.out cd.2)
  have J8_b := Lib.hid (InP.more J7_b.out cd.2)
  have J8_r1 := Lib.hid (InP.more J7_r1.out cd.2)
  have J8_r2 := Lib.hid (InP.more J7_r2.out cd.2)
  have J8_r3 := Lib.hid (InP.more J7_r3.out cd.2)
  have J8_r4 := Lib.hid (InP.more J7_r4.out cd.2)
  have J8_r5 := Lib.hid (InP.more J7_r5.out cd.2)
  have J8_r6 := Lib.hid (InP.more J7_r6.out cd.2)
  have J8_r7 := Lib.hid (InP.more J7_r7.out cd.2)
  have nw := new_two m7 7 r6 r7
  obtain ⟨r8, hr8⟩ : ∃ zz, zz = (Ev.mkTwo m7 7 r6 r7).1 := ⟨_, rfl⟩
  obtain ⟨m8, hm8⟩ : ∃ zz, zz = (Ev.mkTwo m7 7 r6 r7).2 := ⟨_, rfl⟩
  have X8 := Lib.hid hr8
  have Y8 := Lib.hid hm8
  simp only [← hr8, ← hm8] at h8 nw R8 J8_a J8_b J8_r1 J8_r2 J8_r3 J8_r4 J8_r5 J8_r6 J8_r7 ⊢
  have J8_r8 := Lib.hid nw
  have H8 := Lib.hid h8
  clear cd nw h8 fr8 hr8 hm8 F7 H7 R7 J7_a J7_b J7_r1 J7_r2 J7_r3 J7_r4 J7_r5 J7_r6 J7_r7
  go_wp2_with fail
  go_ret
  have hfin : res = (r8, m8) := by
    rw [X8.out, Y8.out]
    rw [X7.out, Y7.out]
    rw [X6.out, Y6.out]
    rw [X5.out, Y5.out]
    rw [X4.out, Y4.out]
    rw [X3.out, Y3.out]
    rw [X2.out, Y2.out]
    rw [X1.out, Y1.out]
    exact HRES.out
  rw [hfin]
  exact ⟨rfl, H8.out, F8.out⟩
set_option maxHeartbeats 1600000 in
theorem mbit_any (c : MkC) (m : Ev.Mk) (l : List Int) (a n : Int) (w : World) (h : MkIn w c m l) (ha : Ev.InP m.secret a) (hr : Room m 4) :
    Calls Try.prog 94 #[.pointer (some ⟨c.mb, 0, none⟩), .int .i64 a, .int .i64 n] w fun e w' => e = .returned (.int .i64 (Ev.mkBit m a n).1) ∧ MkIn w' c (Ev.mkBit m a n).2 l ∧ MkFr c w w' := by
  obtain ⟨res, hres⟩ : ∃ r, r = Ev.mkBit m a n := ⟨_, rfl⟩
  rw [← hres]
  have HRES := Lib.hid hres
  clear hres
  have R0 := Lib.hid hr
  have H0 := Lib.hid h
  have F0 := Lib.hid (MkFr.refl c w)
  have J0_a := Lib.hid ha
  clear h hr ha
  go_enter Try.func94, Try.ntmps94
  go_wp2_with fail
  go_at_call 84
  refine (mnum_any c m l n _ H0.out  (R0.out.less (by omega))).mono ?_
  rintro e w1 ⟨rfl, h1, fr1⟩
  have F1 := Lib.hid (F0.out.trans fr1)
  have cd := Ev.num_code m n
  have R1 := Lib.hid (R0.out.more cd (by omega))
  have J1_a := Lib.hid (InP.more J0_a.out cd.2)
  have nw := new_num m n
  obtain ⟨r1, hr1⟩ : ∃ zz, zz = (Ev.mkNum m n).1 := ⟨_, rfl⟩
  obtain ⟨m1, hm1⟩ : ∃ zz, zz = (Ev.mkNum m n).2 := ⟨_, rfl⟩
  have X1 := Lib.hid hr1
  have Y1 := Lib.hid hm1
  simp only [← hr1, ← hm1] at h1 nw R1 J1_a ⊢
  have J1_r1 := Lib.hid nw
  have H1 := Lib.hid h1
  clear cd nw h1 fr1 hr1 hm1 F0 H0 R0 J0_a
  go_wp2_with fail
  go_at_call 82
  refine (mtwo_any c m1 l 7 a r1 _ H1.out J1_a.out J1_r1.out (R1.out.less (by omega))).mono ?_
  rintro e w2 ⟨rfl, h2, fr2⟩
  have F2 := Lib.hid (F1.out.trans fr2)
  have cd := Ev.two_code m1 7 a r1
  have R2 := Lib.hid (R1.out.more cd (by omega))
  have J2_a := Lib.hid (InP.more J1_a.out cd.2)
  have J2_r1 := Lib.hid (InP.more J1_r1.out cd.2)
  have nw := new_two m1 7 a r1
  obtain ⟨r2, hr2⟩ : ∃ zz, zz = (Ev.mkTwo m1 7 a r1).1 := ⟨_, rfl⟩
  obtain ⟨m2, hm2⟩ : ∃ zz, zz = (Ev.mkTwo m1 7 a r1).2 := ⟨_, rfl⟩
  have X2 := Lib.hid hr2
  have Y2 := Lib.hid hm2
  simp only [← hr2, ← hm2] at h2 nw R2 J2_a J2_r1 ⊢
  have J2_r2 := Lib.hid nw
  have H2 := Lib.hid h2
  clear cd nw h2 fr2 hr2 hm2 F1 H1 R1 J1_a J1_r1
  go_wp2_with fail
  go_at_call 84
  refine (mnum_any c m2 l 1 _ H2.out  (R2.out.less (by omega))).mono ?_
  rintro e w3 ⟨rfl, h3, fr3⟩
  have F3 := Lib.hid (F2.out.trans fr3)
  have cd := Ev.num_code m2 1
  have R3 := Lib.hid (R2.out.more cd (by omega))
  have J3_a := Lib.hid (InP.more J2_a.out cd.2)
  have J3_r1 := Lib.hid (InP.more J2_r1.out cd.2)
  have J3_r2 := Lib.hid (InP.more J2_r2.out cd.2)
  have nw := new_num m2 1
  obtain ⟨r3, hr3⟩ : ∃ zz, zz = (Ev.mkNum m2 1).1 := ⟨_, rfl⟩
  obtain ⟨m3, hm3⟩ : ∃ zz, zz = (Ev.mkNum m2 1).2 := ⟨_, rfl⟩
  have X3 := Lib.hid hr3
  have Y3 := Lib.hid hm3
  simp only [← hr3, ← hm3] at h3 nw R3 J3_a J3_r1 J3_r2 ⊢
  have J3_r3 := Lib.hid nw
  have H3 := Lib.hid h3
  clear cd nw h3 fr3 hr3 hm3 F2 H2 R2 J2_a J2_r1 J2_r2
  go_wp2_with fail
  go_at_call 82
  refine (mtwo_any c m3 l 3 r2 r3 _ H3.out J3_r2.out J3_r3.out (R3.out.less (by omega))).mono ?_
  rintro e w4 ⟨rfl, h4, fr4⟩
  have F4 := Lib.hid (F3.out.trans fr4)
  have cd := Ev.two_code m3 3 r2 r3
  have R4 := Lib.hid (R3.out.more cd (by omega))
  have J4_a := Lib.hid (InP.more J3_a.out cd.2)
  have J4_r1 := Lib.hid (InP.more J3_r1.out cd.2)
  have J4_r2 := Lib.hid (InP.more J3_r2.out cd.2)
  have J4_r3 := Lib.hid (InP.more J3_r3.out cd.2)
  have nw := new_two m3 3 r2 r3
  obtain ⟨r4, hr4⟩ : ∃ zz, zz = (Ev.mkTwo m3 3 r2 r3).1 := ⟨_, rfl⟩
  obtain ⟨m4, hm4⟩ : ∃ zz, zz = (Ev.mkTwo m3 3 r2 r3).2 := ⟨_, rfl⟩
  have X4 := Lib.hid hr4
  have Y4 := Lib.hid hm4
  simp only [← hr4, ← hm4] at h4 nw R4 J4_a J4_r1 J4_r2 J4_r3 ⊢
  have J4_r4 := Lib.hid nw
  have H4 := Lib.hid h4
  clear cd nw h4 fr4 hr4 hm4 F3 H3 R3 J3_a J3_r1 J3_r2 J3_r3
  go_wp2_with fail
  go_ret
  have hfin : res = (r4, m4) := by
    rw [X4.out, Y4.out]
    rw [X3.out, Y3.out]
    rw [X2.out, Y2.out]
    rw [X1.out, Y1.out]
    exact HRES.out
  rw [hfin]
  exact ⟨rfl, H4.out, F4.out⟩
end Go.Proofs.Ytljcgcllhcdleaa
