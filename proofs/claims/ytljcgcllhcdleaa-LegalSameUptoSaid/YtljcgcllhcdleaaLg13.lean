import Derived.Test.YtljcgcllhcdleaaLg12
/- legal's maker: its methods that loop. -/
namespace Go.Proofs.Ytljcgcllhcdleaa
open Go.RowKit
set_option linter.unusedSimpArgs false
set_option linter.unusedVariables false
theorem new_pair {s : List Bool} {x : Int × Ev.Mk} {r : Int} {m : Ev.Mk} (h : x = (r, m)) (hx : Ev.InP x.2.secret x.1) : Ev.InP m.secret r := by subst h; exact hx
theorem new_mulTo (m : Ev.Mk) (a b : Int) : ∀ k, Ev.InP (Ev.mkMulTo m a b k).2.secret (Ev.mkMulTo m a b k).1
  | 0 => new_num _ _
  | k + 1 => new_two _ _ _ _
theorem new_shTo (m : Ev.Mk) (op a b : Int) (ha : Ev.InP m.secret a) : ∀ k, Ev.InP (Ev.mkShTo m op a b k).2.secret (Ev.mkShTo m op a b k).1
  | 0 => ha
  | k + 1 => new_sel _ _ _ _
theorem new_divTo (m : Ev.Mk) (a b : Int) : ∀ k, Ev.InP (Ev.mkDivTo m a b k).m.secret (Ev.mkDivTo m a b k).q ∧ Ev.InP (Ev.mkDivTo m a b k).m.secret (Ev.mkDivTo m a b k).r
  | 0 => ⟨InP.more (new_num _ _) (Ev.num_code _ _).2, new_num _ _⟩
  | k + 1 => ⟨new_two _ _ _ _, InP.more (InP.more (InP.more (new_two _ _ _ _) (Ev.num_code _ _).2) (Ev.two_code _ _ _ _).2) (Ev.two_code _ _ _ _).2⟩
set_option maxHeartbeats 3200000 in
theorem mmul_any (c : MkC) (m : Ev.Mk) (l : List Int) (a b : Int) (w : World) (h : MkIn w c m l) (ha : Ev.InP m.secret a) (hb : Ev.InP m.secret b) (hr : Room m 321) :
    Calls Try.prog 78 #[.pointer (some ⟨c.mb, 0, none⟩), .int .i64 a, .int .i64 b] w fun e w' => e = .returned (.int .i64 (Ev.mkMulTo m a b 32).1) ∧ MkIn w' c (Ev.mkMulTo m a b 32).2 l ∧ MkFr c w w' := by
  have HC := Lib.hid (Ev.mulTo_code m a b)
  have HNW := Lib.hid (new_mulTo m a b)
  have HR := Lib.hid hr
  have HA := Lib.hid ha
  have HB := Lib.hid hb
  have H0 := Lib.hid h
  clear h hr ha hb
  go_enter Try.func78, Try.ntmps78
  go_wp2_with fail
  go_at_call 84
  refine (mnum_any c m l 0 _ H0.out (HR.out.less (by omega))).mono ?_
  rintro e w1 ⟨rfl, h1, fr1⟩
  have HM1 := Lib.hid h1
  have HF1 := Lib.hid fr1
  clear h1 fr1
  go_wp2_with fail
  go_loopw [7, 12] (fun s kk wr => ∃ k : Nat, k ≤ 32 ∧ kk = .int .i64 (k : Int) ∧ s = .int .i64 (Ev.mkMulTo m a b k).1 ∧ Hid (MkIn wr c (Ev.mkMulTo m a b k).2 l) ∧ Hid (MkFr c w wr)) (fun _ kk _ => 32 - (intOf kk).toNat)
  case atStart => exact ⟨0, by omega, rfl, rfl, HM1, HF1⟩
  case round =>
    obtain ⟨k, hk, rfl, rfl, HM, F0⟩ := hrel
    by_cases hlt : k < 32
    · have cd := HC.out k
      have R0 : Hid (Room (Ev.mkMulTo m a b k).2 10) := Lib.hid (by have := HR.out; unfold Room at *; omega)
      have J0_a := Lib.hid (InP.more HA.out (cd.2.trans (Nat.add_assoc _ _ _)))
      have J0_b := Lib.hid (InP.more HB.out (cd.2.trans (Nat.add_assoc _ _ _)))
      have J0_s := Lib.hid (HNW.out k)
      obtain ⟨s, hs⟩ : ∃ zz, zz = (Ev.mkMulTo m a b k).1 := ⟨_, rfl⟩
      obtain ⟨m0, hm0⟩ : ∃ zz, zz = (Ev.mkMulTo m a b k).2 := ⟨_, rfl⟩
      have X0 := Lib.hid hs
      have Y0 := Lib.hid hm0
      have H0 := HM
      simp only [← hs, ← hm0] at H0 R0 J0_a J0_b J0_s ⊢
      clear hs hm0 HM cd
      go_wp2_with fail
      go_at_call 84
      refine (mnum_any c m0 l (k : Int) _ H0.out  (R0.out.less (by omega))).mono ?_
      rintro e w1 ⟨rfl, h1, fr1⟩
      have F1 := Lib.hid (F0.out.trans fr1)
      have cd := Ev.num_code m0 (k : Int)
      have R1 := Lib.hid (R0.out.more cd (by omega))
      have J1_a := Lib.hid (InP.more J0_a.out cd.2)
      have J1_b := Lib.hid (InP.more J0_b.out cd.2)
      have J1_s := Lib.hid (InP.more J0_s.out cd.2)
      have nw := new_num m0 (k : Int)
      obtain ⟨r1, hr1⟩ : ∃ zz, zz = (Ev.mkNum m0 (k : Int)).1 := ⟨_, rfl⟩
      obtain ⟨m1, hm1⟩ : ∃ zz, zz = (Ev.mkNum m0 (k : Int)).2 := ⟨_, rfl⟩
      have X1 := Lib.hid hr1
      have Y1 := Lib.hid hm1
      simp only [← hr1, ← hm1] at h1 nw R1 J1_a J1_b J1_s ⊢
      have J1_r1 := Lib.hid nw
      have H1 := Lib.hid h1
      clear cd nw h1 fr1 hr1 hm1 F0 H0 R0 J0_a J0_b J0_s
      go_wp2_with fail
      go_at_call 82
      refine (mtwo_any c m1 l 6 a r1 _ H1.out J1_a.out J1_r1.out (R1.out.less (by omega))).mono ?_
      rintro e w2 ⟨rfl, h2, fr2⟩
      have F2 := Lib.hid (F1.out.trans fr2)
      have cd := Ev.two_code m1 6 a r1
      have R2 := Lib.hid (R1.out.more cd (by omega))
      have J2_a := Lib.hid (InP.more J1_a.out cd.2)
      have J2_b := Lib.hid (InP.more J1_b.out cd.2)
      have J2_s := Lib.hid (InP.more J1_s.out cd.2)
      have J2_r1 := Lib.hid (InP.more J1_r1.out cd.2)
      have nw := new_two m1 6 a r1
      obtain ⟨r2, hr2⟩ : ∃ zz, zz = (Ev.mkTwo m1 6 a r1).1 := ⟨_, rfl⟩
      obtain ⟨m2, hm2⟩ : ∃ zz, zz = (Ev.mkTwo m1 6 a r1).2 := ⟨_, rfl⟩
      have X2 := Lib.hid hr2
      have Y2 := Lib.hid hm2
      simp only [← hr2, ← hm2] at h2 nw R2 J2_a J2_b J2_s J2_r1 ⊢
      have J2_r2 := Lib.hid nw
      have H2 := Lib.hid h2
      clear cd nw h2 fr2 hr2 hm2 F1 H1 R1 J1_a J1_b J1_s J1_r1
      go_wp2_with fail
      go_at_call 94
      refine (mbit_any c m2 l b (k : Int) _ H2.out J2_b.out (R2.out.less (by omega))).mono ?_
      rintro e w3 ⟨rfl, h3, fr3⟩
      have F3 := Lib.hid (F2.out.trans fr3)
      have cd := Ev.bit_code m2 b (k : Int)
      have R3 := Lib.hid (R2.out.more cd (by omega))
      have J3_a := Lib.hid (InP.more J2_a.out cd.2)
      have J3_b := Lib.hid (InP.more J2_b.out cd.2)
      have J3_s := Lib.hid (InP.more J2_s.out cd.2)
      have J3_r1 := Lib.hid (InP.more J2_r1.out cd.2)
      have J3_r2 := Lib.hid (InP.more J2_r2.out cd.2)
      have nw := new_bit m2 b (k : Int)
      obtain ⟨r3, hr3⟩ : ∃ zz, zz = (Ev.mkBit m2 b (k : Int)).1 := ⟨_, rfl⟩
      obtain ⟨m3, hm3⟩ : ∃ zz, zz = (Ev.mkBit m2 b (k : Int)).2 := ⟨_, rfl⟩
      have X3 := Lib.hid hr3
      have Y3 := Lib.hid hm3
      simp only [← hr3, ← hm3] at h3 nw R3 J3_a J3_b J3_s J3_r1 J3_r2 ⊢
      have J3_r3 := Lib.hid nw
      have H3 := Lib.hid h3
      clear cd nw h3 fr3 hr3 hm3 F2 H2 R2 J2_a J2_b J2_s J2_r1 J2_r2
      go_wp2_with fail
      go_at_call 86
      refine (mmask_any c m3 l r3 _ H3.out J3_r3.out (R3.out.less (by omega))).mono ?_
      rintro e w4 ⟨rfl, h4, fr4⟩
      have F4 := Lib.hid (F3.out.trans fr4)
      have cd := Ev.mask_code m3 r3
      have R4 := Lib.hid (R3.out.more cd (by omega))
      have J4_a := Lib.hid (InP.more J3_a.out cd.2)
      have J4_b := Lib.hid (InP.more J3_b.out cd.2)
      have J4_s := Lib.hid (InP.more J3_s.out cd.2)
      have J4_r1 := Lib.hid (InP.more J3_r1.out cd.2)
      have J4_r2 := Lib.hid (InP.more J3_r2.out cd.2)
      have J4_r3 := Lib.hid (InP.more J3_r3.out cd.2)
      have nw := new_mask m3 r3
      obtain ⟨r4, hr4⟩ : ∃ zz, zz = (Ev.mkMask m3 r3).1 := ⟨_, rfl⟩
      obtain ⟨m4, hm4⟩ : ∃ zz, zz = (Ev.mkMask m3 r3).2 := ⟨_, rfl⟩
      have X4 := Lib.hid hr4
      have Y4 := Lib.hid hm4
      simp only [← hr4, ← hm4] at h4 nw R4 J4_a J4_b J4_s J4_r1 J4_r2 J4_r3 ⊢
      have J4_r4 := Lib.hid nw
      have H4 := Lib.hid h4
      clear cd nw h4 fr4 hr4 hm4 F3 H3 R3 J3_a J3_b J3_s J3_r1 J3_r2 J3_r3
      go_wp2_with fail
      go_at_call 82
      refine (mtwo_any c m4 l 3 r2 r4 _ H4.out J4_r2.out J4_r4.out (R4.out.less (by omega))).mono ?_
      rintro e w5 ⟨rfl, h5, fr5⟩
      have F5 := Lib.hid (F4.out.trans fr5)
      have cd := Ev.two_code m4 3 r2 r4
      have R5 := Lib.hid (R4.out.more cd (by omega))
      have J5_a := Lib.hid (InP.more J4_a.out cd.2)
      have J5_b := Lib.hid (InP.more J4_b.out cd.2)
      have J5_s := Lib.hid (InP.more J4_s.out cd.2)
      have J5_r1 := Lib.hid (InP.more J4_r1.out cd.2)
      have J5_r2 := Lib.hid (InP.more J4_r2.out cd.2)
      have J5_r3 := Lib.hid (InP.more J4_r3.out cd.2)
      have J5_r4 := Lib.hid (InP.more J4_r4.out cd.2)
      have nw := new_two m4 3 r2 r4
      obtain ⟨r5, hr5⟩ : ∃ zz, zz = (Ev.mkTwo m4 3 r2 r4).1 := ⟨_, rfl⟩
      obtain ⟨m5, hm5⟩ : ∃ zz, zz = (Ev.mkTwo m4 3 r2 r4).2 := ⟨_, rfl⟩
      have X5 := Lib.hid hr5
      have Y5 := Lib.hid hm5
      simp only [← hr5, ← hm5] at h5 nw R5 J5_a J5_b J5_s J5_r1 J5_r2 J5_r3 J5_r4 ⊢
      have J5_r5 := Lib.hid nw
      have H5 := Lib.hid h5
      clear cd nw h5 fr5 hr5 hm5 F4 H4 R4 J4_a J4_b J4_s J4_r1 J4_r2 J4_r3 J4_r4
      go_wp2_with fail
      go_at_call 82
      refine (mtwo_any c m5 l 1 s r5 _ H5.out J5_s.out J5_r5.out (R5.out.less (by omega))).mono ?_
      rintro e w6 ⟨rfl, h6, fr6⟩
      have F6 := Lib.hid (F5.out.trans fr6)
      have cd := Ev.two_code m5 1 s r5
      have R6 := Lib.hid (R5.out.more cd (by omega))
      have J6_a := Lib.hid (InP.more J5_a.out cd.2)
      have J6_b := Lib.hid (InP.more J5_b.out cd.2)
      have J6_s := Lib.hid (InP.more J5_s.out cd.2)
      have J6_r1 := Lib.hid (InP.more J5_r1.out cd.2)
      have J6_r2 := Lib.hid (InP.more J5_r2.out cd.2)
      have J6_r3 := Lib.hid (InP.more J5_r3.out cd.2)
      have J6_r4 := Lib.hid (InP.more J5_r4.out cd.2)
      have J6_r5 := Lib.hid (InP.more J5_r5.out cd.2)
      have nw := new_two m5 1 s r5
      obtain ⟨r6, hr6⟩ : ∃ zz, zz = (Ev.mkTwo m5 1 s r5).1 := ⟨_, rfl⟩
      obtain ⟨m6, hm6⟩ : ∃ zz, zz = (Ev.mkTwo m5 1 s r5).2 := ⟨_, rfl⟩
      have X6 := Lib.hid hr6
      have Y6 := Lib.hid hm6
      simp only [← hr6, ← hm6] at h6 nw R6 J6_a J6_b J6_s J6_r1 J6_r2 J6_r3 J6_r4 J6_r5 ⊢
      have J6_r6 := Lib.hid nw
      have H6 := Lib.hid h6
      clear cd nw h6 fr6 hr6 hm6 F5 H5 R5 J5_a J5_b J5_s J5_r1 J5_r2 J5_r3 J5_r4 J5_r5
      go_wp2_with fail
      have hfin : Ev.mkMulTo m a b (k + 1) = (r6, m6) := by
        show Ev.mkMulStep a b (Ev.mkMulTo m a b k) k = _
        have e0 : Ev.mkMulTo m a b k = (s, m0) := by rw [X0.out, Y0.out]
        rw [e0]
        rw [X6.out, Y6.out]
        rw [X5.out, Y5.out]
        rw [X4.out, Y4.out]
        rw [X3.out, Y3.out]
        rw [X2.out, Y2.out]
        rw [X1.out, Y1.out]
        rfl
      go_roundw
      case rel => exact ⟨k + 1, by omega, by go_num, by rw [hfin], by rw [hfin]; exact H6, F6⟩
      case measure => simp [intOf]; omega
    · obtain rfl : k = 32 := by omega
      go_wp2_with fail
      go_ret
      exact ⟨rfl, HM.out, F0.out⟩
set_option maxHeartbeats 3200000 in
theorem mshift_any (c : MkC) (m : Ev.Mk) (l : List Int) (op a b : Int) (w : World) (h : MkIn w c m l) (ha : Ev.InP m.secret a) (hb : Ev.InP m.secret b) (hr : Room m 65) :
    Calls Try.prog 80 #[.pointer (some ⟨c.mb, 0, none⟩), .int .i64 op, .int .i64 a, .int .i64 b] w fun e w' => e = .returned (.int .i64 (Ev.mkShTo m op a b 5).1) ∧ MkIn w' c (Ev.mkShTo m op a b 5).2 l ∧ MkFr c w w' := by
  have HC := Lib.hid (Ev.shTo_code m op a b)
  have HNW := Lib.hid (new_shTo m op a b ha)
  have HR := Lib.hid hr
  have HB := Lib.hid hb
  have H0 := Lib.hid h
  clear h hr ha hb
  go_enter Try.func80, Try.ntmps80
  go_wp2_with fail
  go_loopw [2, 11] (fun s kk wr => ∃ k : Nat, k ≤ 5 ∧ kk = .int .i64 (k : Int) ∧ s = .int .i64 (Ev.mkShTo m op a b k).1 ∧ Hid (MkIn wr c (Ev.mkShTo m op a b k).2 l) ∧ Hid (MkFr c w wr)) (fun _ kk _ => 5 - (intOf kk).toNat)
  case atStart => exact ⟨0, by omega, rfl, rfl, H0, Lib.hid (MkFr.refl c w)⟩
  case round =>
    obtain ⟨k, hk, rfl, rfl, HM, F0⟩ := hrel
    by_cases hlt : k < 5
    · have cd := HC.out k
      have R0 : Hid (Room (Ev.mkShTo m op a b k).2 13) := Lib.hid (by have := HR.out; unfold Room at *; omega)
      have J0_b := Lib.hid (InP.more HB.out cd.2)
      have J0_s := Lib.hid (HNW.out k)
      obtain ⟨s, hs⟩ : ∃ zz, zz = (Ev.mkShTo m op a b k).1 := ⟨_, rfl⟩
      obtain ⟨m0, hm0⟩ : ∃ zz, zz = (Ev.mkShTo m op a b k).2 := ⟨_, rfl⟩
      have X0 := Lib.hid hs
      have Y0 := Lib.hid hm0
      have H0 := HM
      simp only [← hs, ← hm0] at H0 R0 J0_b J0_s ⊢
      clear hs hm0 HM cd
      have hw : wrap64 ((2 : Int) ^ k) = ((2 ^ k : Nat) : Int) := by rcases (show k = 0 ∨ k = 1 ∨ k = 2 ∨ k = 3 ∨ k = 4 by omega) with h | h | h | h | h <;> subst h <;> simp [wrap64]
      have HW := Lib.hid hw
      clear hw
      go_wp2_with fail
      rw [HW.out]
      go_at_call 84
      refine (mnum_any c m0 l ((2 ^ k : Nat) : Int) _ H0.out  (R0.out.less (by omega))).mono ?_
      rintro e w1 ⟨rfl, h1, fr1⟩
      have F1 := Lib.hid (F0.out.trans fr1)
      have cd := Ev.num_code m0 ((2 ^ k : Nat) : Int)
      have R1 := Lib.hid (R0.out.more cd (by omega))
      have J1_b := Lib.hid (InP.more J0_b.out cd.2)
      have J1_s := Lib.hid (InP.more J0_s.out cd.2)
      have nw := new_num m0 ((2 ^ k : Nat) : Int)
      obtain ⟨r1, hr1⟩ : ∃ zz, zz = (Ev.mkNum m0 ((2 ^ k : Nat) : Int)).1 := ⟨_, rfl⟩
      obtain ⟨m1, hm1⟩ : ∃ zz, zz = (Ev.mkNum m0 ((2 ^ k : Nat) : Int)).2 := ⟨_, rfl⟩
      have X1 := Lib.hid hr1
      have Y1 := Lib.hid hm1
      simp only [← hr1, ← hm1] at h1 nw R1 J1_b J1_s ⊢
      have J1_r1 := Lib.hid nw
      have H1 := Lib.hid h1
      clear cd nw h1 fr1 hr1 hm1 F0 H0 R0 J0_b J0_s
      go_wp2_with fail
      go_at_call 82
      refine (mtwo_any c m1 l op s r1 _ H1.out J1_s.out J1_r1.out (R1.out.less (by omega))).mono ?_
      rintro e w2 ⟨rfl, h2, fr2⟩
      have F2 := Lib.hid (F1.out.trans fr2)
      have cd := Ev.two_code m1 op s r1
      have R2 := Lib.hid (R1.out.more cd (by omega))
      have J2_b := Lib.hid (InP.more J1_b.out cd.2)
      have J2_s := Lib.hid (InP.more J1_s.out cd.2)
      have J2_r1 := Lib.hid (InP.more J1_r1.out cd.2)
      have nw := new_two m1 op s r1
      obtain ⟨r2, hr2⟩ : ∃ zz, zz = (Ev.mkTwo m1 op s r1).1 := ⟨_, rfl⟩
      obtain ⟨m2, hm2⟩ : ∃ zz, zz = (Ev.mkTwo m1 op s r1).2 := ⟨_, rfl⟩
      have X2 := Lib.hid hr2
      have Y2 := Lib.hid hm2
      simp only [← hr2, ← hm2] at h2 nw R2 J2_b J2_s J2_r1 ⊢
      have J2_r2 := Lib.hid nw
      have H2 := Lib.hid h2
      clear cd nw h2 fr2 hr2 hm2 F1 H1 R1 J1_b J1_s J1_r1
      go_wp2_with fail
      go_at_call 94
      refine (mbit_any c m2 l b (k : Int) _ H2.out J2_b.out (R2.out.less (by omega))).mono ?_
      rintro e w3 ⟨rfl, h3, fr3⟩
      have F3 := Lib.hid (F2.out.trans fr3)
      have cd := Ev.bit_code m2 b (k : Int)
      have R3 := Lib.hid (R2.out.more cd (by omega))
      have J3_b := Lib.hid (InP.more J2_b.out cd.2)
      have J3_s := Lib.hid (InP.more J2_s.out cd.2)
      have J3_r1 := Lib.hid (InP.more J2_r1.out cd.2)
      have J3_r2 := Lib.hid (InP.more J2_r2.out cd.2)
      have nw := new_bit m2 b (k : Int)
      obtain ⟨r3, hr3⟩ : ∃ zz, zz = (Ev.mkBit m2 b (k : Int)).1 := ⟨_, rfl⟩
      obtain ⟨m3, hm3⟩ : ∃ zz, zz = (Ev.mkBit m2 b (k : Int)).2 := ⟨_, rfl⟩
      have X3 := Lib.hid hr3
      have Y3 := Lib.hid hm3
      simp only [← hr3, ← hm3] at h3 nw R3 J3_b J3_s J3_r1 J3_r2 ⊢
      have J3_r3 := Lib.hid nw
      have H3 := Lib.hid h3
      clear cd nw h3 fr3 hr3 hm3 F2 H2 R2 J2_b J2_s J2_r1 J2_r2
      go_wp2_with fail
      go_at_call 86
      refine (mmask_any c m3 l r3 _ H3.out J3_r3.out (R3.out.less (by omega))).mono ?_
      rintro e w4 ⟨rfl, h4, fr4⟩
      have F4 := Lib.hid (F3.out.trans fr4)
      have cd := Ev.mask_code m3 r3
      have R4 := Lib.hid (R3.out.more cd (by omega))
      have J4_b := Lib.hid (InP.more J3_b.out cd.2)
      have J4_s := Lib.hid (InP.more J3_s.out cd.2)
      have J4_r1 := Lib.hid (InP.more J3_r1.out cd.2)
      have J4_r2 := Lib.hid (InP.more J3_r2.out cd.2)
      have J4_r3 := Lib.hid (InP.more J3_r3.out cd.2)
      have nw := new_mask m3 r3
      obtain ⟨r4, hr4⟩ : ∃ zz, zz = (Ev.mkMask m3 r3).1 := ⟨_, rfl⟩
      obtain ⟨m4, hm4⟩ : ∃ zz, zz = (Ev.mkMask m3 r3).2 := ⟨_, rfl⟩
      have X4 := Lib.hid hr4
      have Y4 := Lib.hid hm4
      simp only [← hr4, ← hm4] at h4 nw R4 J4_b J4_s J4_r1 J4_r2 J4_r3 ⊢
      have J4_r4 := Lib.hid nw
      have H4 := Lib.hid h4
      clear cd nw h4 fr4 hr4 hm4 F3 H3 R3 J3_b J3_s J3_r1 J3_r2 J3_r3
      go_wp2_with fail
      go_at_call 85
      refine (msel_any c m4 l r4 r2 s _ H4.out J4_r4.out J4_r2.out J4_s.out (R4.out.less (by omega))).mono ?_
      rintro e w5 ⟨rfl, h5, fr5⟩
      have F5 := Lib.hid (F4.out.trans fr5)
      have cd := Ev.sel_code m4 r4 r2 s
      have R5 := Lib.hid (R4.out.more cd (by omega))
      have J5_b := Lib.hid (InP.more J4_b.out cd.2)
      have J5_s := Lib.hid (InP.more J4_s.out cd.2)
      have J5_r1 := Lib.hid (InP.more J4_r1.out cd.2)
      have J5_r2 := Lib.hid (InP.more J4_r2.out cd.2)
      have J5_r3 := Lib.hid (InP.more J4_r3.out cd.2)
      have J5_r4 := Lib.hid (InP.more J4_r4.out cd.2)
      have nw := new_sel m4 r4 r2 s
      obtain ⟨r5, hr5⟩ : ∃ zz, zz = (Ev.mkSel m4 r4 r2 s).1 := ⟨_, rfl⟩
      obtain ⟨m5, hm5⟩ : ∃ zz, zz = (Ev.mkSel m4 r4 r2 s).2 := ⟨_, rfl⟩
      have X5 := Lib.hid hr5
      have Y5 := Lib.hid hm5
      simp only [← hr5, ← hm5] at h5 nw R5 J5_b J5_s J5_r1 J5_r2 J5_r3 J5_r4 ⊢
      have J5_r5 := Lib.hid nw
      have H5 := Lib.hid h5
      clear cd nw h5 fr5 hr5 hm5 F4 H4 R4 J4_b J4_s J4_r1 J4_r2 J4_r3 J4_r4
      go_wp2_with fail
      have hfin : Ev.mkShTo m op a b (k + 1) = (r5, m5) := by
        show Ev.mkShStep op b (Ev.mkShTo m op a b k) k = _
        have e0 : Ev.mkShTo m op a b k = (s, m0) := by rw [X0.out, Y0.out]
        rw [e0]
        rw [X5.out, Y5.out]
        rw [X4.out, Y4.out]
        rw [X3.out, Y3.out]
        rw [X2.out, Y2.out]
        rw [X1.out, Y1.out]
        rfl
      go_roundw
      case rel => exact ⟨k + 1, by omega, by go_num, by rw [hfin], by rw [hfin]; exact H5, F5⟩
      case measure => simp [intOf]; omega
    · obtain rfl : k = 5 := by omega
      go_wp2_with fail
      go_ret
      exact ⟨rfl, HM.out, F0.out⟩
set_option maxHeartbeats 6400000 in
theorem mdiv_any (c : MkC) (m : Ev.Mk) (l : List Int) (a b : Int) (w : World) (h : MkIn w c m l) (ha : Ev.InP m.secret a) (hb : Ev.InP m.secret b) (hr : Room m 962) :
    Calls Try.prog 79 #[.pointer (some ⟨c.mb, 0, none⟩), .int .i64 a, .int .i64 b] w fun e w' => e = .returned (.tuple #[.int .i64 (Ev.mkDivTo m a b 32).q, .int .i64 (Ev.mkDivTo m a b 32).r]) ∧ MkIn w' c (Ev.mkDivTo m a b 32).m l ∧ MkFr c w w' := by
  have HC := Lib.hid (Ev.divTo_code m a b)
  have HNW := Lib.hid (new_divTo m a b)
  have HR := Lib.hid hr
  have HA := Lib.hid ha
  have HB := Lib.hid hb
  have H0 := Lib.hid h
  clear h hr ha hb
  go_enter Try.func79, Try.ntmps79
  go_wp2_with fail
  go_at_call 84
  refine (mnum_any c m l 0 _ H0.out (HR.out.less (by omega))).mono ?_
  rintro e w1 ⟨rfl, h1, fr1⟩
  have HM1 := Lib.hid h1
  have HF1 := Lib.hid fr1
  clear h1 fr1
  go_wp2_with fail
  go_at_call 84
  refine (mnum_any c _ l 0 _ HM1.out ((HR.out.more (Ev.num_code m 0) (by omega)).less (by omega))).mono ?_
  rintro e w2 ⟨rfl, h2, fr2⟩
  have HM2 := Lib.hid h2
  have HF2 := Lib.hid (HF1.out.trans fr2)
  clear h2 fr2 HM1 HF1
  go_wp2_with fail
  go_loopw [8, 9, 10] (fun q r kk wr => ∃ (n : Nat) (z : Int), n ≤ 32 ∧ z = 31 - (n : Int) ∧ kk = .int .i64 z ∧ q = .int .i64 (Ev.mkDivTo m a b n).q ∧ r = .int .i64 (Ev.mkDivTo m a b n).r ∧ Hid (MkIn wr c (Ev.mkDivTo m a b n).m l) ∧ Hid (MkFr c w wr)) (fun _ _ kk _ => (intOf kk + 1).toNat)
  case atStart => exact ⟨0, 31, by omega, by omega, rfl, rfl, rfl, HM2, HF2⟩
  case round =>
    obtain ⟨n, z, hn, hz, rfl, rfl, rfl, HM, F0⟩ := hrel
    by_cases hlt : n < 32
    · obtain ⟨k, hk⟩ : ∃ k : Nat, n + k = 31 := ⟨31 - n, by omega⟩
      obtain rfl : z = (k : Int) := by omega
      have HZ := Lib.hid hz
      have HK := Lib.hid hk
      have hk31 : k < 32 := by omega
      clear hz hk
      have cd := HC.out n
      have R0 : Hid (Room (Ev.mkDivTo m a b n).m 30) := Lib.hid (by have := HR.out; unfold Room at *; omega)
      have J0_a := Lib.hid (InP.more HA.out (cd.2.trans (Nat.add_assoc _ _ _)))
      have J0_b := Lib.hid (InP.more HB.out (cd.2.trans (Nat.add_assoc _ _ _)))
      have J0_q := Lib.hid (HNW.out n).1
      have J0_r := Lib.hid (HNW.out n).2
      obtain ⟨q, hq⟩ : ∃ zz, zz = (Ev.mkDivTo m a b n).q := ⟨_, rfl⟩
      obtain ⟨r, hr⟩ : ∃ zz, zz = (Ev.mkDivTo m a b n).r := ⟨_, rfl⟩
      obtain ⟨m0, hm0⟩ : ∃ zz, zz = (Ev.mkDivTo m a b n).m := ⟨_, rfl⟩
      have X0 := Lib.hid hq
      have V0 := Lib.hid hr
      have Y0 := Lib.hid hm0
      have H0 := HM
      simp only [← hq, ← hr, ← hm0] at H0 R0 J0_a J0_b J0_q J0_r ⊢
      clear hq hr hm0 HM cd
      go_wp2_with fail
      go_at_call 94
      refine (mbit_any c m0 l r 31 _ H0.out J0_r.out (R0.out.less (by omega))).mono ?_
      rintro e w1 ⟨rfl, h1, fr1⟩
      have F1 := Lib.hid (F0.out.trans fr1)
      have cd := Ev.bit_code m0 r 31
      have R1 := Lib.hid (R0.out.more cd (by omega))
      have J1_a := Lib.hid (InP.more J0_a.out cd.2)
      have J1_b := Lib.hid (InP.more J0_b.out cd.2)
      have J1_q := Lib.hid (InP.more J0_q.out cd.2)
      have J1_r := Lib.hid (InP.more J0_r.out cd.2)
      have nw := new_bit m0 r 31
      obtain ⟨r1, hr1⟩ : ∃ zz, zz = (Ev.mkBit m0 r 31).1 := ⟨_, rfl⟩
      obtain ⟨m1, hm1⟩ : ∃ zz, zz = (Ev.mkBit m0 r 31).2 := ⟨_, rfl⟩
      have X1 := Lib.hid hr1
      have Y1 := Lib.hid hm1
      simp only [← hr1, ← hm1] at h1 nw R1 J1_a J1_b J1_q J1_r ⊢
      have J1_r1 := Lib.hid nw
      have H1 := Lib.hid h1
      clear cd nw h1 fr1 hr1 hm1 F0 H0 R0 J0_a J0_b J0_q J0_r
      go_wp2_with fail
      go_at_call 84
      refine (mnum_any c m1 l 1 _ H1.out  (R1.out.less (by omega))).mono ?_
      rintro e w2 ⟨rfl, h2, fr2⟩
      have F2 := Lib.hid (F1.out.trans fr2)
      have cd := Ev.num_code m1 1
      have R2 := Lib.hid (R1.out.more cd (by omega))
      have J2_a := Lib.hid (InP.more J1_a.out cd.2)
      have J2_b := Lib.hid (InP.more J1_b.out cd.2)
      have J2_q := Lib.hid (InP.more J1_q.out cd.2)
      have J2_r := Lib.hid (InP.more J1_r.out cd.2)
      have J2_r1 := Lib.hid (InP.more J1_r1.out cd.2)
      have nw := new_num m1 1
      obtain ⟨r2, hr2⟩ : ∃ zz, zz = (Ev.mkNum m1 1).1 := ⟨_, rfl⟩
      obtain ⟨m2, hm2⟩ : ∃ zz, zz = (Ev.mkNum m1 1).2 := ⟨_, rfl⟩
      have X2 := Lib.hid hr2
      have Y2 := Lib.hid hm2
      simp only [← hr2, ← hm2] at h2 nw R2 J2_a J2_b J2_q J2_r J2_r1 ⊢
      have J2_r2 := Lib.hid nw
      have H2 := Lib.hid h2
      clear cd nw h2 fr2 hr2 hm2 F1 H1 R1 J1_a J1_b J1_q J1_r J1_r1
      go_wp2_with fail
      go_at_call 82
      refine (mtwo_any c m2 l 6 r r2 _ H2.out J2_r.out J2_r2.out (R2.out.less (by omega))).mono ?_
      rintro e w3 ⟨rfl, h3, fr3⟩
      have F3 := Lib.hid (F2.out.trans fr3)
      have cd := Ev.two_code m2 6 r r2
      have R3 := Lib.hid (R2.out.more cd (by omega))
      have J3_a := Lib.hid (InP.more J2_a.out cd.2)
      have J3_b := Lib.hid (InP.more J2_b.out cd.2)
      have J3_q := Lib.hid (InP.more J2_q.out cd.2)
      have J3_r := Lib.hid (InP.more J2_r.out cd.2)
      have J3_r1 := Lib.hid (InP.more J2_r1.out cd.2)
      have J3_r2 := Lib.hid (InP.more J2_r2.out cd.2)
      have nw := new_two m2 6 r r2
      obtain ⟨r3, hr3⟩ : ∃ zz, zz = (Ev.mkTwo m2 6 r r2).1 := ⟨_, rfl⟩
      obtain ⟨m3, hm3⟩ : ∃ zz, zz = (Ev.mkTwo m2 6 r r2).2 := ⟨_, rfl⟩
      have X3 := Lib.hid hr3
      have Y3 := Lib.hid hm3
      simp only [← hr3, ← hm3] at h3 nw R3 J3_a J3_b J3_q J3_r J3_r1 J3_r2 ⊢
      have J3_r3 := Lib.hid nw
      have H3 := Lib.hid h3
      clear cd nw h3 fr3 hr3 hm3 F2 H2 R2 J2_a J2_b J2_q J2_r J2_r1 J2_r2
      go_wp2_with fail
      go_at_call 94
      refine (mbit_any c m3 l a (k : Int) _ H3.out J3_a.out (R3.out.less (by omega))).mono ?_
      rintro e w4 ⟨rfl, h4, fr4⟩
      have F4 := Lib.hid (F3.out.trans fr4)
      have cd := Ev.bit_code m3 a (k : Int)
      have R4 := Lib.hid (R3.out.more cd (by omega))
      have J4_a := Lib.hid (InP.more J3_a.out cd.2)
      have J4_b := Lib.hid (InP.more J3_b.out cd.2)
      have J4_q := Lib.hid (InP.more J3_q.out cd.2)
      have J4_r := Lib.hid (InP.more J3_r.out cd.2)
      have J4_r1 := Lib.hid (InP.more J3_r1.out cd.2)
      have J4_r2 := Lib.hid (InP.more J3_r2.out cd.2)
      have J4_r3 := Lib.hid (InP.more J3_r3.out cd.2)
      have nw := new_bit m3 a (k : Int)
      obtain ⟨r4, hr4⟩ : ∃ zz, zz = (Ev.mkBit m3 a (k : Int)).1 := ⟨_, rfl⟩
      obtain ⟨m4, hm4⟩ : ∃ zz, zz = (Ev.mkBit m3 a (k : Int)).2 := ⟨_, rfl⟩
      have X4 := Lib.hid hr4
      have Y4 := Lib.hid hm4
      simp only [← hr4, ← hm4] at h4 nw R4 J4_a J4_b J4_q J4_r J4_r1 J4_r2 J4_r3 ⊢
      have J4_r4 := Lib.hid nw
      have H4 := Lib.hid h4
      clear cd nw h4 fr4 hr4 hm4 F3 H3 R3 J3_a J3_b J3_q J3_r J3_r1 J3_r2 J3_r3
      go_wp2_with fail
      go_at_call 82
      refine (mtwo_any c m4 l 4 r3 r4 _ H4.out J4_r3.out J4_r4.out (R4.out.less (by omega))).mono ?_
      rintro e w5 ⟨rfl, h5, fr5⟩
      have F5 := Lib.hid (F4.out.trans fr5)
      have cd := Ev.two_code m4 4 r3 r4
      have R5 := Lib.hid (R4.out.more cd (by omega))
      have J5_a := Lib.hid (InP.more J4_a.out cd.2)
      have J5_b := Lib.hid (InP.more J4_b.out cd.2)
      have J5_q := Lib.hid (InP.more J4_q.out cd.2)
      have J5_r := Lib.hid (InP.more J4_r.out cd.2)
      have J5_r1 := Lib.hid (InP.more J4_r1.out cd.2)
      have J5_r2 := Lib.hid (InP.more J4_r2.out cd.2)
      have J5_r3 := Lib.hid (InP.more J4_r3.out cd.2)
      have J5_r4 := Lib.hid (InP.more J4_r4.out cd.2)
      have nw := new_two m4 4 r3 r4
      obtain ⟨r5, hr5⟩ : ∃ zz, zz = (Ev.mkTwo m4 4 r3 r4).1 := ⟨_, rfl⟩
      obtain ⟨m5, hm5⟩ : ∃ zz, zz = (Ev.mkTwo m4 4 r3 r4).2 := ⟨_, rfl⟩
      have X5 := Lib.hid hr5
      have Y5 := Lib.hid hm5
      simp only [← hr5, ← hm5] at h5 nw R5 J5_a J5_b J5_q J5_r J5_r1 J5_r2 J5_r3 J5_r4 ⊢
      have J5_r5 := Lib.hid nw
      have H5 := Lib.hid h5
      clear cd nw h5 fr5 hr5 hm5 F4 H4 R4 J4_a J4_b J4_q J4_r J4_r1 J4_r2 J4_r3 J4_r4
      go_wp2_with fail
      go_at_call 81
      refine (mless_any c m5 l r5 b _ H5.out J5_r5.out J5_b.out (R5.out.less (by omega))).mono ?_
      rintro e w6 ⟨rfl, h6, fr6⟩
      have F6 := Lib.hid (F5.out.trans fr6)
      have cd := Ev.less_code m5 r5 b
      have R6 := Lib.hid (R5.out.more cd (by omega))
      have J6_a := Lib.hid (InP.more J5_a.out cd.2)
      have J6_b := Lib.hid (InP.more J5_b.out cd.2)
      have J6_q := Lib.hid (InP.more J5_q.out cd.2)
      have J6_r := Lib.hid (InP.more J5_r.out cd.2)
      have J6_r1 := Lib.hid (InP.more J5_r1.out cd.2)
      have J6_r2 := Lib.hid (InP.more J5_r2.out cd.2)
      have J6_r3 := Lib.hid (InP.more J5_r3.out cd.2)
      have J6_r4 := Lib.hid (InP.more J5_r4.out cd.2)
      have J6_r5 := Lib.hid (InP.more J5_r5.out cd.2)
      have nw := new_less m5 r5 b
      obtain ⟨r6, hr6⟩ : ∃ zz, zz = (Ev.mkLess m5 r5 b).1 := ⟨_, rfl⟩
      obtain ⟨m6, hm6⟩ : ∃ zz, zz = (Ev.mkLess m5 r5 b).2 := ⟨_, rfl⟩
      have X6 := Lib.hid hr6
      have Y6 := Lib.hid hm6
      simp only [← hr6, ← hm6] at h6 nw R6 J6_a J6_b J6_q J6_r J6_r1 J6_r2 J6_r3 J6_r4 J6_r5 ⊢
      have J6_r6 := Lib.hid nw
      have H6 := Lib.hid h6
      clear cd nw h6 fr6 hr6 hm6 F5 H5 R5 J5_a J5_b J5_q J5_r J5_r1 J5_r2 J5_r3 J5_r4 J5_r5
      go_wp2_with fail
      go_at_call 84
      refine (mnum_any c m6 l 1 _ H6.out  (R6.out.less (by omega))).mono ?_
      rintro e w7 ⟨rfl, h7, fr7⟩
      have F7 := Lib.hid (F6.out.trans fr7)
      have cd := Ev.num_code m6 1
      have R7 := Lib.hid (R6.out.more cd (by omega))
      have J7_a := Lib.hid (InP.more J6_a.out cd.2)
      have J7_b := Lib.hid (InP.more J6_b.out cd.2)
      have J7_q := Lib.hid (InP.more J6_q.out cd.2)
      have J7_r := Lib.hid (InP.more J6_r.out cd.2)
      have J7_r1 := Lib.hid (InP.more J6_r1.out cd.2)
      have J7_r2 := Lib.hid (InP.more J6_r2.out cd.2)
      have J7_r3 := Lib.hid (InP.more J6_r3.out cd.2)
      have J7_r4 := Lib.hid (InP.more J6_r4.out cd.2)
      have J7_r5 := Lib.hid (InP.more J6_r5.out cd.2)
      have J7_r6 := Lib.hid (InP.more J6_r6.out cd.2)
      have nw := new_num m6 1
      obtain ⟨r7, hr7⟩ : ∃ zz, zz = (Ev.mkNum m6 1).1 := ⟨_, rfl⟩
      obtain ⟨m7, hm7⟩ : ∃ zz, zz = (Ev.mkNum m6 1).2 := ⟨_, rfl⟩
      have X7 := Lib.hid hr7
      have Y7 := Lib.hid hm7
      simp only [← hr7, ← hm7] at h7 nw R7 J7_a J7_b J7_q J7_r J7_r1 J7_r2 J7_r3 J7_r4 J7_r5 J7_r6 ⊢
      have J7_r7 := Lib.hid nw
      have H7 := Lib.hid h7
      clear cd nw h7 fr7 hr7 hm7 F6 H6 R6 J6_a J6_b J6_q J6_r J6_r1 J6_r2 J6_r3 J6_r4 J6_r5 J6_r6
      go_wp2_with fail
      go_at_call 82
      refine (mtwo_any c m7 l 5 r6 r7 _ H7.out J7_r6.out J7_r7.out (R7.out.less (by omega))).mono ?_
      rintro e w8 ⟨rfl, h8, fr8⟩
      have F8 := Lib.hid (F7.out.trans fr8)
      have cd := Ev.two_code m7 5 r6 r7
      have R8 := Lib.hid (R7.out.more cd (by omega))
      have J8_a := Lib.hid (InP.more J7_a.out cd.2)
      have J8_b := Lib.hid (InP.more J7_b.out cd.2)
      have J8_q := Lib.hid (InP.more J7_q.out cd.2)
      have J8_r := Lib.hid (InP.more J7_r.out cd.2)
      have J8_r1 := Lib.hid (InP.more J7_r1.out cd.2)
      have J8_r2 := Lib.hid (InP.more J7_r2.out cd.2)
      have J8_r3 := Lib.hid (InP.more J7_r3.out cd.2)
      have J8_r4 := Lib.hid (InP.more J7_r4.out cd.2)
      have J8_r5 := Lib.hid (InP.more J7_r5.out cd.2)
      have J8_r6 := Lib.hid (InP.more J7_r6.out cd.2)
      have J8_r7 := Lib.hid (InP.more J7_r7.out cd.2)
      have nw := new_two m7 5 r6 r7
      obtain ⟨r8, hr8⟩ : ∃ zz, zz = (Ev.mkTwo m7 5 r6 r7).1 := ⟨_, rfl⟩
      obtain ⟨m8, hm8⟩ : ∃ zz, zz = (Ev.mkTwo m7 5 r6 r7).2 := ⟨_, rfl⟩
      have X8 := Lib.hid hr8
      have Y8 := Lib.hid hm8
      simp only [← hr8, ← hm8] at h8 nw R8 J8_a J8_b J8_q J8_r J8_r1 J8_r2 J8_r3 J8_r4 J8_r5 J8_r6 J8_r7 ⊢
      have J8_r8 := Lib.hid nw
      have H8 := Lib.hid h8
      clear cd nw h8 fr8 hr8 hm8 F7 H7 R7 J7_a J7_b J7_q J7_r J7_r1 J7_r2 J7_r3 J7_r4 J7_r5 J7_r6 J7_r7
      go_wp2_with fail
      go_at_call 82
      refine (mtwo_any c m8 l 4 r1 r8 _ H8.out J8_r1.out J8_r8.out (R8.out.less (by omega))).mono ?_
      rintro e w9 ⟨rfl, h9, fr9⟩
      have F9 := Lib.hid (F8.out.trans fr9)
      have cd := Ev.two_code m8 4 r1 r8
      have R9 := Lib.hid (R8.out.more cd (by omega))
      have J9_a := Lib.hid (InP.more J8_a.out cd.2)
      have J9_b := Lib.hid (InP.more J8_b.out cd.2)
      have J9_q := Lib.hid (InP.more J8_q.out cd.2)
      have J9_r := Lib.hid (InP.more J8_r.out cd.2)
      have J9_r1 := Lib.hid (InP.more J8_r1.out cd.2)
      have J9_r2 := Lib.hid (InP.more J8_r2.out cd.2)
      have J9_r3 := Lib.hid (InP.more J8_r3.out cd.2)
      have J9_r4 := Lib.hid (InP.more J8_r4.out cd.2)
      have J9_r5 := Lib.hid (InP.more J8_r5.out cd.2)
      have J9_r6 := Lib.hid (InP.more J8_r6.out cd.2)
      have J9_r7 := Lib.hid (InP.more J8_r7.out cd.2)
      have J9_r8 := Lib.hid (InP.more J8_r8.out cd.2)
      have nw := new_two m8 4 r1 r8
      obtain ⟨r9, hr9⟩ : ∃ zz, zz = (Ev.mkTwo m8 4 r1 r8).1 := ⟨_, rfl⟩
      obtain ⟨m9, hm9⟩ : ∃ zz, zz = (Ev.mkTwo m8 4 r1 r8).2 := ⟨_, rfl⟩
      have X9 := Lib.hid hr9
      have Y9 := Lib.hid hm9
      simp only [← hr9, ← hm9] at h9 nw R9 J9_a J9_b J9_q J9_r J9_r1 J9_r2 J9_r3 J9_r4 J9_r5 J9_r6 J9_r7 J9_r8 ⊢
      have J9_r9 := Lib.hid nw
      have H9 := Lib.hid h9
      clear cd nw h9 fr9 hr9 hm9 F8 H8 R8 J8_a J8_b J8_q J8_r J8_r1 J8_r2 J8_r3 J8_r4 J8_r5 J8_r6 J8_r7 J8_r8
      go_wp2_with fail
      go_at_call 86
      refine (mmask_any c m9 l r9 _ H9.out J9_r9.out (R9.out.less (by omega))).mono ?_
      rintro e w10 ⟨rfl, h10, fr10⟩
      have F10 := Lib.hid (F9.out.trans fr10)
      have cd := Ev.mask_code m9 r9
      have R10 := Lib.hid (R9.out.more cd (by omega))
      have J10_a := Lib.hid (InP.more J9_a.out cd.2)
      have J10_b := Lib.hid (InP.more J9_b.out cd.2)
      have J10_q := Lib.hid (InP.more J9_q.out cd.2)
      have J10_r := Lib.hid (InP.more J9_r.out cd.2)
      have J10_r1 := Lib.hid (InP.more J9_r1.out cd.2)
      have J10_r2 := Lib.hid (InP.more J9_r2.out cd.2)
      have J10_r3 := Lib.hid (InP.more J9_r3.out cd.2)
      have J10_r4 := Lib.hid (InP.more J9_r4.out cd.2)
      have J10_r5 := Lib.hid (InP.more J9_r5.out cd.2)
      have J10_r6 := Lib.hid (InP.more J9_r6.out cd.2)
      have J10_r7 := Lib.hid (InP.more J9_r7.out cd.2)
      have J10_r8 := Lib.hid (InP.more J9_r8.out cd.2)
      have J10_r9 := Lib.hid (InP.more J9_r9.out cd.2)
      have nw := new_mask m9 r9
      obtain ⟨r10, hr10⟩ : ∃ zz, zz = (Ev.mkMask m9 r9).1 := ⟨_, rfl⟩
      obtain ⟨m10, hm10⟩ : ∃ zz, zz = (Ev.mkMask m9 r9).2 := ⟨_, rfl⟩
      have X10 := Lib.hid hr10
      have Y10 := Lib.hid hm10
      simp only [← hr10, ← hm10] at h10 nw R10 J10_a J10_b J10_q J10_r J10_r1 J10_r2 J10_r3 J10_r4 J10_r5 J10_r6 J10_r7 J10_r8 J10_r9 ⊢
      have J10_r10 := Lib.hid nw
      have H10 := Lib.hid h10
      clear cd nw h10 fr10 hr10 hm10 F9 H9 R9 J9_a J9_b J9_q J9_r J9_r1 J9_r2 J9_r3 J9_r4 J9_r5 J9_r6 J9_r7 J9_r8 J9_r9
      go_wp2_with fail
      go_at_call 82
      refine (mtwo_any c m10 l 3 b r10 _ H10.out J10_b.out J10_r10.out (R10.out.less (by omega))).mono ?_
      rintro e w11 ⟨rfl, h11, fr11⟩
      have F11 := Lib.hid (F10.out.trans fr11)
      have cd := Ev.two_code m10 3 b r10
      have R11 := Lib.hid (R10.out.more cd (by omega))
      have J11_a := Lib.hid (InP.more J10_a.out cd.2)
      have J11_b := Lib.hid (InP.more J10_b.out cd.2)
      have J11_q := Lib.hid (InP.more J10_q.out cd.2)
      have J11_r := Lib.hid (InP.more J10_r.out cd.2)
      have J11_r1 := Lib.hid (InP.more J10_r1.out cd.2)
      have J11_r2 := Lib.hid (InP.more J10_r2.out cd.2)
      have J11_r3 := Lib.hid (InP.more J10_r3.out cd.2)
      have J11_r4 := Lib.hid (InP.more J10_r4.out cd.2)
      have J11_r5 := Lib.hid (InP.more J10_r5.out cd.2)
      have J11_r6 := Lib.hid (InP.more J10_r6.out cd.2)
      have J11_r7 := Lib.hid (InP.more J10_r7.out cd.2)
      have J11_r8 := Lib.hid (InP.more J10_r8.out cd.2)
      have J11_r9 := Lib.hid (InP.more J10_r9.out cd.2)
      have J11_r10 := Lib.hid (InP.more J10_r10.out cd.2)
      have nw := new_two m10 3 b r10
      obtain ⟨r11, hr11⟩ : ∃ zz, zz = (Ev.mkTwo m10 3 b r10).1 := ⟨_, rfl⟩
      obtain ⟨m11, hm11⟩ : ∃ zz, zz = (Ev.mkTwo m10 3 b r10).2 := ⟨_, rfl⟩
      have X11 := Lib.hid hr11
      have Y11 := Lib.hid hm11
      simp only [← hr11, ← hm11] at h11 nw R11 J11_a J11_b J11_q J11_r J11_r1 J11_r2 J11_r3 J11_r4 J11_r5 J11_r6 J11_r7 J11_r8 J11_r9 J11_r10 ⊢
      have J11_r11 := Lib.hid nw
      have H11 := Lib.hid h11
      clear cd nw h11 fr11 hr11 hm11 F10 H10 R10 J10_a J10_b J10_q J10_r J10_r1 J10_r2 J10_r3 J10_r4 J10_r5 J10_r6 J10_r7 J10_r8 J10_r9 J10_r10
      go_wp2_with fail
      go_at_call 82
      refine (mtwo_any c m11 l 2 r5 r11 _ H11.out J11_r5.out J11_r11.out (R11.out.less (by omega))).mono ?_
      rintro e w12 ⟨rfl, h12, fr12⟩
      have F12 := Lib.hid (F11.out.trans fr12)
      have cd := Ev.two_code m11 2 r5 r11
      have R12 := Lib.hid (R11.out.more cd (by omega))
      have J12_a := Lib.hid (InP.more J11_a.out cd.2)
      have J12_b := Lib.hid (InP.more J11_b.out cd.2)
      have J12_q := Lib.hid (InP.more J11_q.out cd.2)
      have J12_r := Lib.hid (InP.more J11_r.out cd.2)
      have J12_r1 := Lib.hid (InP.more J11_r1.out cd.2)
      have J12_r2 := Lib.hid (InP.more J11_r2.out cd.2)
      have J12_r3 := Lib.hid (InP.more J11_r3.out cd.2)
      have J12_r4 := Lib.hid (InP.more J11_r4.out cd.2)
      have J12_r5 := Lib.hid (InP.more J11_r5.out cd.2)
      have J12_r6 := Lib.hid (InP.more J11_r6.out cd.2)
      have J12_r7 := Lib.hid (InP.more J11_r7.out cd.2)
      have J12_r8 := Lib.hid (InP.more J11_r8.out cd.2)
      have J12_r9 := Lib.hid (InP.more J11_r9.out cd.2)
      have J12_r10 := Lib.hid (InP.more J11_r10.out cd.2)
      have J12_r11 := Lib.hid (InP.more J11_r11.out cd.2)
      have nw := new_two m11 2 r5 r11
      obtain ⟨r12, hr12⟩ : ∃ zz, zz = (Ev.mkTwo m11 2 r5 r11).1 := ⟨_, rfl⟩
      obtain ⟨m12, hm12⟩ : ∃ zz, zz = (Ev.mkTwo m11 2 r5 r11).2 := ⟨_, rfl⟩
      have X12 := Lib.hid hr12
      have Y12 := Lib.hid hm12
      simp only [← hr12, ← hm12] at h12 nw R12 J12_a J12_b J12_q J12_r J12_r1 J12_r2 J12_r3 J12_r4 J12_r5 J12_r6 J12_r7 J12_r8 J12_r9 J12_r10 J12_r11 ⊢
      have J12_r12 := Lib.hid nw
      have H12 := Lib.hid h12
      clear cd nw h12 fr12 hr12 hm12 F11 H11 R11 J11_a J11_b J11_q J11_r J11_r1 J11_r2 J11_r3 J11_r4 J11_r5 J11_r6 J11_r7 J11_r8 J11_r9 J11_r10 J11_r11
      go_wp2_with fail
      go_at_call 84
      refine (mnum_any c m12 l (k : Int) _ H12.out  (R12.out.less (by omega))).mono ?_
      rintro e w13 ⟨rfl, h13, fr13⟩
      have F13 := Lib.hid (F12.out.trans fr13)
      have cd := Ev.num_code m12 (k : Int)
      have R13 := Lib.hid (R12.out.more cd (by omega))
      have J13_a := Lib.hid (InP.more J12_a.out cd.2)
      have J13_b := Lib.hid (InP.more J12_b.out cd.2)
      have J13_q := Lib.hid (InP.more J12_q.out cd.2)
      have J13_r := Lib.hid (InP.more J12_r.out cd.2)
      have J13_r1 := Lib.hid (InP.more J12_r1.out cd.2)
      have J13_r2 := Lib.hid (InP.more J12_r2.out cd.2)
      have J13_r3 := Lib.hid (InP.more J12_r3.out cd.2)
      have J13_r4 := Lib.hid (InP.more J12_r4.out cd.2)
      have J13_r5 := Lib.hid (InP.more J12_r5.out cd.2)
      have J13_r6 := Lib.hid (InP.more J12_r6.out cd.2)
      have J13_r7 := Lib.hid (InP.more J12_r7.out cd.2)
      have J13_r8 := Lib.hid (InP.more J12_r8.out cd.2)
      have J13_r9 := Lib.hid (InP.more J12_r9.out cd.2)
      have J13_r10 := Lib.hid (InP.more J12_r10.out cd.2)
      have J13_r11 := Lib.hid (InP.more J12_r11.out cd.2)
      have J13_r12 := Lib.hid (InP.more J12_r12.out cd.2)
      have nw := new_num m12 (k : Int)
      obtain ⟨r13, hr13⟩ : ∃ zz, zz = (Ev.mkNum m12 (k : Int)).1 := ⟨_, rfl⟩
      obtain ⟨m13, hm13⟩ : ∃ zz, zz = (Ev.mkNum m12 (k : Int)).2 := ⟨_, rfl⟩
      have X13 := Lib.hid hr13
      have Y13 := Lib.hid hm13
      simp only [← hr13, ← hm13] at h13 nw R13 J13_a J13_b J13_q J13_r J13_r1 J13_r2 J13_r3 J13_r4 J13_r5 J13_r6 J13_r7 J13_r8 J13_r9 J13_r10 J13_r11 J13_r12 ⊢
      have J13_r13 := Lib.hid nw
      have H13 := Lib.hid h13
      clear cd nw h13 fr13 hr13 hm13 F12 H12 R12 J12_a J12_b J12_q J12_r J12_r1 J12_r2 J12_r3 J12_r4 J12_r5 J12_r6 J12_r7 J12_r8 J12_r9 J12_r10 J12_r11 J12_r12
      go_wp2_with fail
      go_at_call 82
      refine (mtwo_any c m13 l 6 r9 r13 _ H13.out J13_r9.out J13_r13.out (R13.out.less (by omega))).mono ?_
      rintro e w14 ⟨rfl, h14, fr14⟩
      have F14 := Lib.hid (F13.out.trans fr14)
      have cd := Ev.two_code m13 6 r9 r13
      have R14 := Lib.hid (R13.out.more cd (by omega))
      have J14_a := Lib.hid (InP.more J13_a.out cd.2)
      have J14_b := Lib.hid (InP.more J13_b.out cd.2)
      have J14_q := Lib.hid (InP.more J13_q.out cd.2)
      have J14_r := Lib.hid (InP.more J13_r.out cd.2)
      have J14_r1 := Lib.hid (InP.more J13_r1.out cd.2)
      have J14_r2 := Lib.hid (InP.more J13_r2.out cd.2)
      have J14_r3 := Lib.hid (InP.more J13_r3.out cd.2)
      have J14_r4 := Lib.hid (InP.more J13_r4.out cd.2)
      have J14_r5 := Lib.hid (InP.more J13_r5.out cd.2)
      have J14_r6 := Lib.hid (InP.more J13_r6.out cd.2)
      have J14_r7 := Lib.hid (InP.more J13_r7.out cd.2)
      have J14_r8 := Lib.hid (InP.more J13_r8.out cd.2)
      have J14_r9 := Lib.hid (InP.more J13_r9.out cd.2)
      have J14_r10 := Lib.hid (InP.more J13_r10.out cd.2)
      have J14_r11 := Lib.hid (InP.more J13_r11.out cd.2)
      have J14_r12 := Lib.hid (InP.more J13_r12.out cd.2)
      have J14_r13 := Lib.hid (InP.more J13_r13.out cd.2)
      have nw := new_two m13 6 r9 r13
      obtain ⟨r14, hr14⟩ : ∃ zz, zz = (Ev.mkTwo m13 6 r9 r13).1 := ⟨_, rfl⟩
      obtain ⟨m14, hm14⟩ : ∃ zz, zz = (Ev.mkTwo m13 6 r9 r13).2 := ⟨_, rfl⟩
      have X14 := Lib.hid hr14
      have Y14 := Lib.hid hm14
      simp only [← hr14, ← hm14] at h14 nw R14 J14_a J14_b J14_q J14_r J14_r1 J14_r2 J14_r3 J14_r4 J14_r5 J14_r6 J14_r7 J14_r8 J14_r9 J14_r10 J14_r11 J14_r12 J14_r13 ⊢
      have J14_r14 := Lib.hid nw
      have H14 := Lib.hid h14
      clear cd nw h14 fr14 hr14 hm14 F13 H13 R13 J13_a J13_b J13_q J13_r J13_r1 J13_r2 J13_r3 J13_r4 J13_r5 J13_r6 J13_r7 J13_r8 J13_r9 J13_r10 J13_r11 J13_r12 J13_r13
      go_wp2_with fail
      go_at_call 82
      refine (mtwo_any c m14 l 4 q r14 _ H14.out J14_q.out J14_r14.out (R14.out.less (by omega))).mono ?_
      rintro e w15 ⟨rfl, h15, fr15⟩
      have F15 := Lib.hid (F14.out.trans fr15)
      have cd := Ev.two_code m14 4 q r14
      have R15 := Lib.hid (R14.out.more cd (by omega))
      have J15_a := Lib.hid (InP.more J14_a.out cd.2)
      have J15_b := Lib.hid (InP.more J14_b.out cd.2)
      have J15_q := Lib.hid (InP.more J14_q.out cd.2)
      have J15_r := Lib.hid (InP.more J14_r.out cd.2)
      have J15_r1 := Lib.hid (InP.more J14_r1.out cd.2)
      have J15_r2 := Lib.hid (InP.more J14_r2.out cd.2)
      have J15_r3 := Lib.hid (InP.more J14_r3.out cd.2)
      have J15_r4 := Lib.hid (InP.more J14_r4.out cd.2)
      have J15_r5 := Lib.hid (InP.more J14_r5.out cd.2)
      have J15_r6 := Lib.hid (InP.more J14_r6.out cd.2)
      have J15_r7 := Lib.hid (InP.more J14_r7.out cd.2)
      have J15_r8 := Lib.hid (InP.more J14_r8.out cd.2)
      have J15_r9 := Lib.hid (InP.more J14_r9.out cd.2)
      have J15_r10 := Lib.hid (InP.more J14_r10.out cd.2)
      have J15_r11 := Lib.hid (InP.more J14_r11.out cd.2)
      have J15_r12 := Lib.hid (InP.more J14_r12.out cd.2)
      have J15_r13 := Lib.hid (InP.more J14_r13.out cd.2)
      have J15_r14 := Lib.hid (InP.more J14_r14.out cd.2)
      have nw := new_two m14 4 q r14
      obtain ⟨r15, hr15⟩ : ∃ zz, zz = (Ev.mkTwo m14 4 q r14).1 := ⟨_, rfl⟩
      obtain ⟨m15, hm15⟩ : ∃ zz, zz = (Ev.mkTwo m14 4 q r14).2 := ⟨_, rfl⟩
      have X15 := Lib.hid hr15
      have Y15 := Lib.hid hm15
      simp only [← hr15, ← hm15] at h15 nw R15 J15_a J15_b J15_q J15_r J15_r1 J15_r2 J15_r3 J15_r4 J15_r5 J15_r6 J15_r7 J15_r8 J15_r9 J15_r10 J15_r11 J15_r12 J15_r13 J15_r14 ⊢
      have J15_r15 := Lib.hid nw
      have H15 := Lib.hid h15
      clear cd nw h15 fr15 hr15 hm15 F14 H14 R14 J14_a J14_b J14_q J14_r J14_r1 J14_r2 J14_r3 J14_r4 J14_r5 J14_r6 J14_r7 J14_r8 J14_r9 J14_r10 J14_r11 J14_r12 J14_r13 J14_r14
      go_wp2_with fail
      have hfin : Ev.mkDivTo m a b (n + 1) = ⟨r15, r12, m15⟩ := by
        show Ev.mkDivStep a b (Ev.mkDivTo m a b n) (31 - n) = _
        have e0 : Ev.mkDivTo m a b n = ⟨q, r, m0⟩ := by rw [X0.out, V0.out, Y0.out]
        have e1 : 31 - n = k := by have := HK.out; omega
        rw [e0, e1]
        rw [X15.out, Y15.out]
        rw [X14.out, Y14.out]
        rw [X13.out, Y13.out]
        rw [X12.out, Y12.out]
        rw [X11.out, Y11.out]
        rw [X10.out, Y10.out]
        rw [X9.out, Y9.out]
        rw [X8.out, Y8.out]
        rw [X7.out, Y7.out]
        rw [X6.out, Y6.out]
        rw [X5.out, Y5.out]
        rw [X4.out, Y4.out]
        rw [X3.out, Y3.out]
        rw [X2.out, Y2.out]
        rw [X1.out, Y1.out]
        rfl
      go_roundw
      case rel => exact ⟨n + 1, _, by omega, by have := HZ.out; omega, rfl, by rw [hfin], by rw [hfin], by rw [hfin]; exact H15, F15⟩
      case measure => simp [intOf]
    · obtain rfl : n = 32 := by omega
      obtain rfl : z = -1 := by omega
      clear hz
      go_wp2_with fail
      go_ret2
      exact ⟨rfl, HM.out, F0.out⟩
end Go.Proofs.Ytljcgcllhcdleaa
