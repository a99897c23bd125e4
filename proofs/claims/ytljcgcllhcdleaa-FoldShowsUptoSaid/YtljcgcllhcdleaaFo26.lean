import Derived.Test.YtljcgcllhcdleaaFo25
import Derived.Deep.DeepCutAuto
/- Chapter 7, the reference: one instruction of the machine. -/
namespace Go.Proofs.Ytljcgcllhcdleaa
open Go.RowKit
set_option linter.unusedSimpArgs false
set_option linter.unusedVariables false
set_option maxRecDepth 20000 in
set_option maxHeartbeats 3200000 in
theorem do_two (i : Ev.Instr) (k : Nat) (s : Ev.St) (bv mb : Nat) (va : Value) (vs : List Value) (hi : Nat) (w : World) (hM : MAt w bv mb va vs hi s) (hk : k ≤ 1099511627776) (h : i.op ≤ 12) (ha : inR s.v.length i.a) (hb : inR s.v.length i.b) (hd : inR s.v.length i.d) :
    Calls Try.prog 58 #[.pointer (some ⟨mb, 0, none⟩), .agg #[.int .i64 i.op, .int .i64 i.d, .int .i64 i.a, .int .i64 i.b, .int .i64 i.c, .int .i64 i.imm], .int .i64 (k : Int)] w fun e w' => e = .returned (.int .i64 ((k : Int) + 1)) ∧ MAt w' bv mb va vs hi (Ev.step i k s).1 ∧ Sets bv hi w w' := by
  have hbm := hM.bm
  have hmh := hM.mh
  have hle := hM.le
  have sB : w.heap.size < (w.alloc (.cells #[.int .i64 i.op, .int .i64 i.d, .int .i64 i.a, .int .i64 i.b, .int .i64 i.c, .int .i64 i.imm] 39)).heap.size := by simp
  have BB := Lib.hid (show Below w.heap.size w (w.alloc (.cells #[.int .i64 i.op, .int .i64 i.d, .int .i64 i.a, .int .i64 i.b, .int .i64 i.c, .int .i64 i.imm] 39)) by (repeat' first | with_reducible (first | exact Below.refl _ _ | assumption | refine Below.alloc ?_ ?_ _ | refine below_drewN ?_ _ | refine Below.drew ?_ | refine Below.setCell ?_ ?_ _ | refine Below.trans ?_ (Below.mono (by with_reducible assumption) ?_)) | go_size))
  have n0 : (w.alloc (.cells #[.int .i64 i.op, .int .i64 i.d, .int .i64 i.a, .int .i64 i.b, .int .i64 i.c, .int .i64 i.imm] 39)).cell? ⟨w.heap.size, 0, none⟩ = some (.int .i64 i.op) := by go_simp
  have n1 : (w.alloc (.cells #[.int .i64 i.op, .int .i64 i.d, .int .i64 i.a, .int .i64 i.b, .int .i64 i.c, .int .i64 i.imm] 39)).cell? ⟨w.heap.size, 1, none⟩ = some (.int .i64 i.d) := by go_simp
  have n2 : (w.alloc (.cells #[.int .i64 i.op, .int .i64 i.d, .int .i64 i.a, .int .i64 i.b, .int .i64 i.c, .int .i64 i.imm] 39)).cell? ⟨w.heap.size, 2, none⟩ = some (.int .i64 i.a) := by go_simp
  have n3 : (w.alloc (.cells #[.int .i64 i.op, .int .i64 i.d, .int .i64 i.a, .int .i64 i.b, .int .i64 i.c, .int .i64 i.imm] 39)).cell? ⟨w.heap.size, 3, none⟩ = some (.int .i64 i.b) := by go_simp
  have n4 : (w.alloc (.cells #[.int .i64 i.op, .int .i64 i.d, .int .i64 i.a, .int .i64 i.b, .int .i64 i.c, .int .i64 i.imm] 39)).cell? ⟨w.heap.size, 4, none⟩ = some (.int .i64 i.c) := by go_simp
  have n5 : (w.alloc (.cells #[.int .i64 i.op, .int .i64 i.d, .int .i64 i.a, .int .i64 i.b, .int .i64 i.c, .int .i64 i.imm] 39)).cell? ⟨w.heap.size, 5, none⟩ = some (.int .i64 i.imm) := by go_simp
  obtain ⟨wB, hwB⟩ : ∃ wB, w.alloc (.cells #[.int .i64 i.op, .int .i64 i.d, .int .i64 i.a, .int .i64 i.b, .int .i64 i.c, .int .i64 i.imm] 39) = wB := ⟨_, rfl⟩
  have HM := Lib.hid (hM.stays BB.out)
  have HWB := Lib.hid hwB
  rw [hwB] at sB BB n0 n1 n2 n3 n4 n5 HM
  clear hM hwB
  have m0 := HM.out.m0
  have m1 := HM.out.m1
  have m2 := HM.out.m2
  have lm := HM.out.loose
  have cd := HM.out.cell hd
  have fd := HM.out.vloose i.d.toNat
  have hd0 := hd.1
  have hd1 := hd.2
  clear hd
  have ca := HM.out.cell ha
  have ha0 := ha.1
  have ha1 := ha.2
  clear ha
  have cb := HM.out.cell hb
  have hb0 := hb.1
  have hb1 := hb.2
  clear hb
  have HSP := Lib.hid (@Ev.step_two i k s h)
  have C2 := Lib.hid (fun w => refTwo_any i.op (Ev.val s.v i.a) (Ev.val s.v i.b) w)
  generalize Ev.two i.op (Ev.val s.v i.a) (Ev.val s.v i.b) = x at *
  generalize Ev.twoErr i.op = xe at *
  have HOP := Lib.hid h
  clear h
  go_enter Try.func58, Try.ntmps58
  go_upto_region 1 with fail
  rw [HWB.out]
  have h := HOP.out
  have lmb : mb < wB.heap.size := by omega
  have lbv : bv < wB.heap.size := by omega
  go_wp2_with fail
  refine wp_region_chain (fun w' => Below (wB).heap.size (wB) w') (by kernel_rfl) (by kernel_rfl) (by (repeat' first | with_reducible (first | exact Below.refl _ _ | assumption | refine Below.alloc ?_ ?_ _ | refine below_drewN ?_ _ | refine Below.drew ?_ | refine Below.setCell ?_ ?_ _ | refine Below.trans ?_ (Below.mono (by with_reducible assumption) ?_)) | go_size)) ?_
  repeat (
    apply chain_cons
    case h =>
      refine fun w9 hb9 => ?_
      have hB9 : Below wB.heap.size wB w9 := by (repeat' first | with_reducible (first | exact Below.refl _ _ | assumption | refine Below.alloc ?_ ?_ _ | refine below_drewN ?_ _ | refine Below.drew ?_ | refine Below.setCell ?_ ?_ _ | refine Below.trans ?_ (Below.mono (by with_reducible assumption) ?_)) | go_size)
      obtain ⟨kc9, kf9, s9⟩ := bfacts hb9
      obtain ⟨kd9, kg9, _⟩ := bfacts hB9
      go_wp2_with fail
      (try (go_at_call 87; refine (C2.out _).mono ?_; rintro _ _ ⟨rfl, hb8⟩; go_wp2_with fail))
      refine settled_intro (S := fun w' => Below (wB).heap.size (wB) w') ?_
      (repeat' first | with_reducible (first | exact Below.refl _ _ | assumption | refine Below.alloc ?_ ?_ _ | refine below_drewN ?_ _ | refine Below.drew ?_ | refine Below.setCell ?_ ?_ _ | refine Below.trans ?_ (Below.mono (by with_reducible assumption) ?_)) | go_size)
    case hp => first | rfl | (simp only [*]; done) | (simp only [*]; rfl))
  refine chain.nil ?_
  refine fun w1 hb1 => ?_
  have B1 : Below wB.heap.size wB w1 := by (repeat' first | with_reducible (first | exact Below.refl _ _ | assumption | refine Below.alloc ?_ ?_ _ | refine below_drewN ?_ _ | refine Below.drew ?_ | refine Below.setCell ?_ ?_ _ | refine Below.trans ?_ (Below.mono (by with_reducible assumption) ?_)) | go_size)
  obtain ⟨kc1, kf1, s1⟩ := bfacts hb1
  obtain ⟨kd1, kg1, _⟩ := bfacts B1
  (try simp only [World.size_alloc, World.size_setCell, World.size_drew, World.heap_drewN, Nat.add_one_le_iff] at s1)
  clear hb1
  have hb1 := B1
  clear B1
  have B1 : Hid (Below wB.heap.size wB w1) := hb1
  (try have z1 : wB.heap.size < w1.heap.size := by omega)
  (try dsimp only)
  clear kc1 kf1
  go_wp2_with fail
  refine wp_region_store (fun w' => w' = (w1).drew) (fun w' => w' = (w1).drew.setCell ⟨bv, i.d.toNat, none⟩ (.int .i64 x)) 8 [] (by kernel_rfl) (by kernel_rfl) (by kernel_rfl) (by kernel_rfl) rfl ?_
  apply chainS_mid (by rfl)
  case h => (rintro w9 rfl; go_wp2_with fail; (try (fail; go_wp2_with fail)); refine settled_intro (S := fun w' => w' = (w1).drew) ?_; rfl)
  case h1 => (intro hk; exact absurd hk (by decide))
  case hp => first | rfl | (simp only [*]; done) | (simp only [*]; rfl)
  apply chainS_mid (by rfl)
  case h => (rintro w9 rfl; go_wp2_with fail; (try (fail; go_wp2_with fail)); refine settled_intro (S := fun w' => w' = (w1).drew) ?_; rfl)
  case h1 => (intro hk; exact absurd hk (by decide))
  case hp => first | rfl | (simp only [*]; done) | (simp only [*]; rfl)
  apply chainS_mid (by rfl)
  case h => (rintro w9 rfl; go_wp2_with fail; (try (fail; go_wp2_with fail)); refine settled_intro (S := fun w' => w' = (w1).drew) ?_; rfl)
  case h1 => (intro hk; exact absurd hk (by decide))
  case hp => first | rfl | (simp only [*]; done) | (simp only [*]; rfl)
  apply chainS_mid (by rfl)
  case h => (rintro w9 rfl; go_wp2_with fail; (try (fail; go_wp2_with fail)); refine settled_intro (S := fun w' => w' = (w1).drew) ?_; rfl)
  case h1 => (intro hk; exact absurd hk (by decide))
  case hp => first | rfl | (simp only [*]; done) | (simp only [*]; rfl)
  apply chainS_mid (by rfl)
  case h => (rintro w9 rfl; go_wp2_with fail; (try (fail; go_wp2_with fail)); refine settled_intro (S := fun w' => w' = (w1).drew) ?_; rfl)
  case h1 => (intro hk; exact absurd hk (by decide))
  case hp => first | rfl | (simp only [*]; done) | (simp only [*]; rfl)
  apply chainS_mid (by rfl)
  case h => (rintro w9 rfl; go_wp2_with fail; (try (fail; go_wp2_with fail)); refine settled_intro (S := fun w' => w' = (w1).drew) ?_; rfl)
  case h1 => (intro hk; exact absurd hk (by decide))
  case hp => first | rfl | (simp only [*]; done) | (simp only [*]; rfl)
  apply chainS_mid (by rfl)
  case h => (rintro w9 rfl; go_wp2_with fail; (try (fail; go_wp2_with fail)); refine settled_intro (S := fun w' => w' = (w1).drew) ?_; rfl)
  case h1 => (intro hk; exact absurd hk (by decide))
  case hp => first | rfl | (simp only [*]; done) | (simp only [*]; rfl)
  apply chainS_mid (by rfl)
  case h => (rintro w9 rfl; go_wp2_with fail; (try (fail; go_wp2_with fail)); refine settled_intro (S := fun w' => w' = (w1).drew) ?_; rfl)
  case h1 => (intro hk; exact absurd hk (by decide))
  case hp => first | rfl | (simp only [*]; done) | (simp only [*]; rfl)
  apply chainS_store (by rfl)
  case h => (rintro w9 rfl; go_wp2_with fail; refine settled_intro (S := fun w' => w' = (w1).drew.setCell ⟨bv, i.d.toNat, none⟩ (.int .i64 x)) ?_; rfl)
  case hp => first | rfl | (simp only [*]; done) | (simp only [*]; rfl)
  refine chainS.nil ?_
  rintro _ rfl
  (try dsimp only)
  go_wp2
  go_ret
  refine ⟨by push_cast; rfl, ?_, ?_⟩
  · rw [HSP.out]
    exact (HM.out.stays (B1.out.drew)).setV _ _
  · exact .set ((Sets.here.more BB.out).more B1.out |>.drewN 1) (Nat.le_refl _) (by omega)
set_option maxRecDepth 20000 in
set_option maxHeartbeats 3200000 in
theorem do_sel (i : Ev.Instr) (k : Nat) (s : Ev.St) (bv mb : Nat) (va : Value) (vs : List Value) (hi : Nat) (w : World) (hM : MAt w bv mb va vs hi s) (hk : k ≤ 1099511627776) (h : i.op = 13) (ha : inR s.v.length i.a) (hb : inR s.v.length i.b) (hc : inR s.v.length i.c) (hd : inR s.v.length i.d) :
    Calls Try.prog 58 #[.pointer (some ⟨mb, 0, none⟩), .agg #[.int .i64 i.op, .int .i64 i.d, .int .i64 i.a, .int .i64 i.b, .int .i64 i.c, .int .i64 i.imm], .int .i64 (k : Int)] w fun e w' => e = .returned (.int .i64 ((k : Int) + 1)) ∧ MAt w' bv mb va vs hi (Ev.step i k s).1 ∧ Sets bv hi w w' := by
  have hbm := hM.bm
  have hmh := hM.mh
  have hle := hM.le
  have sB : w.heap.size < (w.alloc (.cells #[.int .i64 i.op, .int .i64 i.d, .int .i64 i.a, .int .i64 i.b, .int .i64 i.c, .int .i64 i.imm] 39)).heap.size := by simp
  have BB := Lib.hid (show Below w.heap.size w (w.alloc (.cells #[.int .i64 i.op, .int .i64 i.d, .int .i64 i.a, .int .i64 i.b, .int .i64 i.c, .int .i64 i.imm] 39)) by (repeat' first | with_reducible (first | exact Below.refl _ _ | assumption | refine Below.alloc ?_ ?_ _ | refine below_drewN ?_ _ | refine Below.drew ?_ | refine Below.setCell ?_ ?_ _ | refine Below.trans ?_ (Below.mono (by with_reducible assumption) ?_)) | go_size))
  have n0 : (w.alloc (.cells #[.int .i64 i.op, .int .i64 i.d, .int .i64 i.a, .int .i64 i.b, .int .i64 i.c, .int .i64 i.imm] 39)).cell? ⟨w.heap.size, 0, none⟩ = some (.int .i64 i.op) := by go_simp
  have n1 : (w.alloc (.cells #[.int .i64 i.op, .int .i64 i.d, .int .i64 i.a, .int .i64 i.b, .int .i64 i.c, .int .i64 i.imm] 39)).cell? ⟨w.heap.size, 1, none⟩ = some (.int .i64 i.d) := by go_simp
  have n2 : (w.alloc (.cells #[.int .i64 i.op, .int .i64 i.d, .int .i64 i.a, .int .i64 i.b, .int .i64 i.c, .int .i64 i.imm] 39)).cell? ⟨w.heap.size, 2, none⟩ = some (.int .i64 i.a) := by go_simp
  have n3 : (w.alloc (.cells #[.int .i64 i.op, .int .i64 i.d, .int .i64 i.a, .int .i64 i.b, .int .i64 i.c, .int .i64 i.imm] 39)).cell? ⟨w.heap.size, 3, none⟩ = some (.int .i64 i.b) := by go_simp
  have n4 : (w.alloc (.cells #[.int .i64 i.op, .int .i64 i.d, .int .i64 i.a, .int .i64 i.b, .int .i64 i.c, .int .i64 i.imm] 39)).cell? ⟨w.heap.size, 4, none⟩ = some (.int .i64 i.c) := by go_simp
  have n5 : (w.alloc (.cells #[.int .i64 i.op, .int .i64 i.d, .int .i64 i.a, .int .i64 i.b, .int .i64 i.c, .int .i64 i.imm] 39)).cell? ⟨w.heap.size, 5, none⟩ = some (.int .i64 i.imm) := by go_simp
  obtain ⟨wB, hwB⟩ : ∃ wB, w.alloc (.cells #[.int .i64 i.op, .int .i64 i.d, .int .i64 i.a, .int .i64 i.b, .int .i64 i.c, .int .i64 i.imm] 39) = wB := ⟨_, rfl⟩
  have HM := Lib.hid (hM.stays BB.out)
  have HWB := Lib.hid hwB
  rw [hwB] at sB BB n0 n1 n2 n3 n4 n5 HM
  clear hM hwB
  have m0 := HM.out.m0
  have m1 := HM.out.m1
  have m2 := HM.out.m2
  have lm := HM.out.loose
  have cd := HM.out.cell hd
  have fd := HM.out.vloose i.d.toNat
  have hd0 := hd.1
  have hd1 := hd.2
  clear hd
  have ca := HM.out.cell ha
  have ha0 := ha.1
  have ha1 := ha.2
  clear ha
  have cb := HM.out.cell hb
  have hb0 := hb.1
  have hb1 := hb.2
  clear hb
  have cc := HM.out.cell hc
  have hc0 := hc.1
  have hc1 := hc.2
  clear hc
  have HSP := Lib.hid (@Ev.step_sel i k s h)
  have C2 := Lib.hid (fun w => refSel_same (Ev.val s.v i.a) (Ev.val s.v i.b) (Ev.val s.v i.c) w)
  generalize Ev.sel (Ev.val s.v i.a) (Ev.val s.v i.b) (Ev.val s.v i.c) = x at *
  have HOP := Lib.hid h
  clear h
  go_enter Try.func58, Try.ntmps58
  go_upto_region 1 with fail
  rw [HWB.out]
  have h := HOP.out
  go_wp2_with fail
  refine wp_region_store (fun w' => w' = (wB).drew) (fun w' => w' = (wB).drew.setCell ⟨bv, i.d.toNat, none⟩ (.int .i64 x)) 32 [] (by kernel_rfl) (by kernel_rfl) (by kernel_rfl) (by kernel_rfl) rfl ?_
  apply chainS_mid (by rfl)
  case h => (rintro w9 rfl; go_wp2_with fail; (try ((go_at_call 88; refine (C2.out _).mono ?_; rintro _ _ ⟨rfl, rfl⟩); go_wp2_with fail)); refine settled_intro (S := fun w' => w' = (wB).drew) ?_; rfl)
  case h1 => (intro hk; exact absurd hk (by decide))
  case hp => first | rfl | (simp only [*]; done) | (simp only [*]; rfl)
  apply chainS_mid (by rfl)
  case h => (rintro w9 rfl; go_wp2_with fail; (try ((go_at_call 88; refine (C2.out _).mono ?_; rintro _ _ ⟨rfl, rfl⟩); go_wp2_with fail)); refine settled_intro (S := fun w' => w' = (wB).drew) ?_; rfl)
  case h1 => (intro hk; exact absurd hk (by decide))
  case hp => first | rfl | (simp only [*]; done) | (simp only [*]; rfl)
  apply chainS_mid (by rfl)
  case h => (rintro w9 rfl; go_wp2_with fail; (try ((go_at_call 88; refine (C2.out _).mono ?_; rintro _ _ ⟨rfl, rfl⟩); go_wp2_with fail)); refine settled_intro (S := fun w' => w' = (wB).drew) ?_; rfl)
  case h1 => (intro hk; exact absurd hk (by decide))
  case hp => first | rfl | (simp only [*]; done) | (simp only [*]; rfl)
  apply chainS_mid (by rfl)
  case h => (rintro w9 rfl; go_wp2_with fail; (try ((go_at_call 88; refine (C2.out _).mono ?_; rintro _ _ ⟨rfl, rfl⟩); go_wp2_with fail)); refine settled_intro (S := fun w' => w' = (wB).drew) ?_; rfl)
  case h1 => (intro hk; exact absurd hk (by decide))
  case hp => first | rfl | (simp only [*]; done) | (simp only [*]; rfl)
  apply chainS_mid (by rfl)
  case h => (rintro w9 rfl; go_wp2_with fail; (try ((go_at_call 88; refine (C2.out _).mono ?_; rintro _ _ ⟨rfl, rfl⟩); go_wp2_with fail)); refine settled_intro (S := fun w' => w' = (wB).drew) ?_; rfl)
  case h1 => (intro hk; exact absurd hk (by decide))
  case hp => first | rfl | (simp only [*]; done) | (simp only [*]; rfl)
  apply chainS_mid (by rfl)
  case h => (rintro w9 rfl; go_wp2_with fail; (try ((go_at_call 88; refine (C2.out _).mono ?_; rintro _ _ ⟨rfl, rfl⟩); go_wp2_with fail)); refine settled_intro (S := fun w' => w' = (wB).drew) ?_; rfl)
  case h1 => (intro hk; exact absurd hk (by decide))
  case hp => first | rfl | (simp only [*]; done) | (simp only [*]; rfl)
  apply chainS_mid (by rfl)
  case h => (rintro w9 rfl; go_wp2_with fail; (try ((go_at_call 88; refine (C2.out _).mono ?_; rintro _ _ ⟨rfl, rfl⟩); go_wp2_with fail)); refine settled_intro (S := fun w' => w' = (wB).drew) ?_; rfl)
  case h1 => (intro hk; exact absurd hk (by decide))
  case hp => first | rfl | (simp only [*]; done) | (simp only [*]; rfl)
  apply chainS_mid (by rfl)
  case h => (rintro w9 rfl; go_wp2_with fail; (try ((go_at_call 88; refine (C2.out _).mono ?_; rintro _ _ ⟨rfl, rfl⟩); go_wp2_with fail)); refine settled_intro (S := fun w' => w' = (wB).drew) ?_; rfl)
  case h1 => (intro hk; exact absurd hk (by decide))
  case hp => first | rfl | (simp only [*]; done) | (simp only [*]; rfl)
  apply chainS_mid (by rfl)
  case h => (rintro w9 rfl; go_wp2_with fail; (try ((go_at_call 88; refine (C2.out _).mono ?_; rintro _ _ ⟨rfl, rfl⟩); go_wp2_with fail)); refine settled_intro (S := fun w' => w' = (wB).drew) ?_; rfl)
  case h1 => (intro hk; exact absurd hk (by decide))
  case hp => first | rfl | (simp only [*]; done) | (simp only [*]; rfl)
  apply chainS_mid (by rfl)
  case h => (rintro w9 rfl; go_wp2_with fail; (try ((go_at_call 88; refine (C2.out _).mono ?_; rintro _ _ ⟨rfl, rfl⟩); go_wp2_with fail)); refine settled_intro (S := fun w' => w' = (wB).drew) ?_; rfl)
  case h1 => (intro hk; exact absurd hk (by decide))
  case hp => first | rfl | (simp only [*]; done) | (simp only [*]; rfl)
  apply chainS_mid (by rfl)
  case h => (rintro w9 rfl; go_wp2_with fail; (try ((go_at_call 88; refine (C2.out _).mono ?_; rintro _ _ ⟨rfl, rfl⟩); go_wp2_with fail)); refine settled_intro (S := fun w' => w' = (wB).drew) ?_; rfl)
  case h1 => (intro hk; exact absurd hk (by decide))
  case hp => first | rfl | (simp only [*]; done) | (simp only [*]; rfl)
  apply chainS_mid (by rfl)
  case h => (rintro w9 rfl; go_wp2_with fail; (try ((go_at_call 88; refine (C2.out _).mono ?_; rintro _ _ ⟨rfl, rfl⟩); go_wp2_with fail)); refine settled_intro (S := fun w' => w' = (wB).drew) ?_; rfl)
  case h1 => (intro hk; exact absurd hk (by decide))
  case hp => first | rfl | (simp only [*]; done) | (simp only [*]; rfl)
  apply chainS_mid (by rfl)
  case h => (rintro w9 rfl; go_wp2_with fail; (try ((go_at_call 88; refine (C2.out _).mono ?_; rintro _ _ ⟨rfl, rfl⟩); go_wp2_with fail)); refine settled_intro (S := fun w' => w' = (wB).drew) ?_; rfl)
  case h1 => (intro hk; exact absurd hk (by decide))
  case hp => first | rfl | (simp only [*]; done) | (simp only [*]; rfl)
  apply chainS_mid (by rfl)
  case h => (rintro w9 rfl; go_wp2_with fail; (try ((go_at_call 88; refine (C2.out _).mono ?_; rintro _ _ ⟨rfl, rfl⟩); go_wp2_with fail)); refine settled_intro (S := fun w' => w' = (wB).drew) ?_; rfl)
  case h1 => (intro hk; exact absurd hk (by decide))
  case hp => first | rfl | (simp only [*]; done) | (simp only [*]; rfl)
  apply chainS_mid (by rfl)
  case h => (rintro w9 rfl; go_wp2_with fail; (try ((go_at_call 88; refine (C2.out _).mono ?_; rintro _ _ ⟨rfl, rfl⟩); go_wp2_with fail)); refine settled_intro (S := fun w' => w' = (wB).drew) ?_; rfl)
  case h1 => (intro hk; exact absurd hk (by decide))
  case hp => first | rfl | (simp only [*]; done) | (simp only [*]; rfl)
  apply chainS_mid (by rfl)
  case h => (rintro w9 rfl; go_wp2_with fail; (try ((go_at_call 88; refine (C2.out _).mono ?_; rintro _ _ ⟨rfl, rfl⟩); go_wp2_with fail)); refine settled_intro (S := fun w' => w' = (wB).drew) ?_; rfl)
  case h1 => (intro hk; exact absurd hk (by decide))
  case hp => first | rfl | (simp only [*]; done) | (simp only [*]; rfl)
  apply chainS_mid (by rfl)
  case h => (rintro w9 rfl; go_wp2_with fail; (try ((go_at_call 88; refine (C2.out _).mono ?_; rintro _ _ ⟨rfl, rfl⟩); go_wp2_with fail)); refine settled_intro (S := fun w' => w' = (wB).drew) ?_; rfl)
  case h1 => (intro hk; exact absurd hk (by decide))
  case hp => first | rfl | (simp only [*]; done) | (simp only [*]; rfl)
  apply chainS_mid (by rfl)
  case h => (rintro w9 rfl; go_wp2_with fail; (try ((go_at_call 88; refine (C2.out _).mono ?_; rintro _ _ ⟨rfl, rfl⟩); go_wp2_with fail)); refine settled_intro (S := fun w' => w' = (wB).drew) ?_; rfl)
  case h1 => (intro hk; exact absurd hk (by decide))
  case hp => first | rfl | (simp only [*]; done) | (simp only [*]; rfl)
  apply chainS_mid (by rfl)
  case h => (rintro w9 rfl; go_wp2_with fail; (try ((go_at_call 88; refine (C2.out _).mono ?_; rintro _ _ ⟨rfl, rfl⟩); go_wp2_with fail)); refine settled_intro (S := fun w' => w' = (wB).drew) ?_; rfl)
  case h1 => (intro hk; exact absurd hk (by decide))
  case hp => first | rfl | (simp only [*]; done) | (simp only [*]; rfl)
  apply chainS_mid (by rfl)
  case h => (rintro w9 rfl; go_wp2_with fail; (try ((go_at_call 88; refine (C2.out _).mono ?_; rintro _ _ ⟨rfl, rfl⟩); go_wp2_with fail)); refine settled_intro (S := fun w' => w' = (wB).drew) ?_; rfl)
  case h1 => (intro hk; exact absurd hk (by decide))
  case hp => first | rfl | (simp only [*]; done) | (simp only [*]; rfl)
  apply chainS_mid (by rfl)
  case h => (rintro w9 rfl; go_wp2_with fail; (try ((go_at_call 88; refine (C2.out _).mono ?_; rintro _ _ ⟨rfl, rfl⟩); go_wp2_with fail)); refine settled_intro (S := fun w' => w' = (wB).drew) ?_; rfl)
  case h1 => (intro hk; exact absurd hk (by decide))
  case hp => first | rfl | (simp only [*]; done) | (simp only [*]; rfl)
  apply chainS_mid (by rfl)
  case h => (rintro w9 rfl; go_wp2_with fail; (try ((go_at_call 88; refine (C2.out _).mono ?_; rintro _ _ ⟨rfl, rfl⟩); go_wp2_with fail)); refine settled_intro (S := fun w' => w' = (wB).drew) ?_; rfl)
  case h1 => (intro hk; exact absurd hk (by decide))
  case hp => first | rfl | (simp only [*]; done) | (simp only [*]; rfl)
  apply chainS_mid (by rfl)
  case h => (rintro w9 rfl; go_wp2_with fail; (try ((go_at_call 88; refine (C2.out _).mono ?_; rintro _ _ ⟨rfl, rfl⟩); go_wp2_with fail)); refine settled_intro (S := fun w' => w' = (wB).drew) ?_; rfl)
  case h1 => (intro hk; exact absurd hk (by decide))
  case hp => first | rfl | (simp only [*]; done) | (simp only [*]; rfl)
  apply chainS_mid (by rfl)
  case h => (rintro w9 rfl; go_wp2_with fail; (try ((go_at_call 88; refine (C2.out _).mono ?_; rintro _ _ ⟨rfl, rfl⟩); go_wp2_with fail)); refine settled_intro (S := fun w' => w' = (wB).drew) ?_; rfl)
  case h1 => (intro hk; exact absurd hk (by decide))
  case hp => first | rfl | (simp only [*]; done) | (simp only [*]; rfl)
  apply chainS_mid (by rfl)
  case h => (rintro w9 rfl; go_wp2_with fail; (try ((go_at_call 88; refine (C2.out _).mono ?_; rintro _ _ ⟨rfl, rfl⟩); go_wp2_with fail)); refine settled_intro (S := fun w' => w' = (wB).drew) ?_; rfl)
  case h1 => (intro hk; exact absurd hk (by decide))
  case hp => first | rfl | (simp only [*]; done) | (simp only [*]; rfl)
  apply chainS_mid (by rfl)
  case h => (rintro w9 rfl; go_wp2_with fail; (try ((go_at_call 88; refine (C2.out _).mono ?_; rintro _ _ ⟨rfl, rfl⟩); go_wp2_with fail)); refine settled_intro (S := fun w' => w' = (wB).drew) ?_; rfl)
  case h1 => (intro hk; exact absurd hk (by decide))
  case hp => first | rfl | (simp only [*]; done) | (simp only [*]; rfl)
  apply chainS_mid (by rfl)
  case h => (rintro w9 rfl; go_wp2_with fail; (try ((go_at_call 88; refine (C2.out _).mono ?_; rintro _ _ ⟨rfl, rfl⟩); go_wp2_with fail)); refine settled_intro (S := fun w' => w' = (wB).drew) ?_; rfl)
  case h1 => (intro hk; exact absurd hk (by decide))
  case hp => first | rfl | (simp only [*]; done) | (simp only [*]; rfl)
  apply chainS_mid (by rfl)
  case h => (rintro w9 rfl; go_wp2_with fail; (try ((go_at_call 88; refine (C2.out _).mono ?_; rintro _ _ ⟨rfl, rfl⟩); go_wp2_with fail)); refine settled_intro (S := fun w' => w' = (wB).drew) ?_; rfl)
  case h1 => (intro hk; exact absurd hk (by decide))
  case hp => first | rfl | (simp only [*]; done) | (simp only [*]; rfl)
  apply chainS_mid (by rfl)
  case h => (rintro w9 rfl; go_wp2_with fail; (try ((go_at_call 88; refine (C2.out _).mono ?_; rintro _ _ ⟨rfl, rfl⟩); go_wp2_with fail)); refine settled_intro (S := fun w' => w' = (wB).drew) ?_; rfl)
  case h1 => (intro hk; exact absurd hk (by decide))
  case hp => first | rfl | (simp only [*]; done) | (simp only [*]; rfl)
  apply chainS_mid (by rfl)
  case h => (rintro w9 rfl; go_wp2_with fail; (try ((go_at_call 88; refine (C2.out _).mono ?_; rintro _ _ ⟨rfl, rfl⟩); go_wp2_with fail)); refine settled_intro (S := fun w' => w' = (wB).drew) ?_; rfl)
  case h1 => (intro hk; exact absurd hk (by decide))
  case hp => first | rfl | (simp only [*]; done) | (simp only [*]; rfl)
  apply chainS_mid (by rfl)
  case h => (rintro w9 rfl; go_wp2_with fail; (try ((go_at_call 88; refine (C2.out _).mono ?_; rintro _ _ ⟨rfl, rfl⟩); go_wp2_with fail)); refine settled_intro (S := fun w' => w' = (wB).drew) ?_; rfl)
  case h1 => (intro hk; exact absurd hk (by decide))
  case hp => first | rfl | (simp only [*]; done) | (simp only [*]; rfl)
  apply chainS_mid (by rfl)
  case h => (rintro w9 rfl; go_wp2_with fail; (try ((go_at_call 88; refine (C2.out _).mono ?_; rintro _ _ ⟨rfl, rfl⟩); go_wp2_with fail)); refine settled_intro (S := fun w' => w' = (wB).drew) ?_; rfl)
  case h1 => (intro hk; exact absurd hk (by decide))
  case hp => first | rfl | (simp only [*]; done) | (simp only [*]; rfl)
  apply chainS_store (by rfl)
  case h => (rintro w9 rfl; go_wp2_with fail; refine settled_intro (S := fun w' => w' = (wB).drew.setCell ⟨bv, i.d.toNat, none⟩ (.int .i64 x)) ?_; rfl)
  case hp => first | rfl | (simp only [*]; done) | (simp only [*]; rfl)
  refine chainS.nil ?_
  rintro _ rfl
  (try dsimp only)
  go_wp2
  go_ret
  refine ⟨by push_cast; rfl, ?_, ?_⟩
  · rw [HSP.out]
    exact (HM.out.stays (Below.refl _ _).drew).setV _ _
  · exact .set ((Sets.here.more BB.out).drewN 1) (Nat.le_refl _) (by omega)
set_option maxRecDepth 20000 in
set_option maxHeartbeats 3200000 in
theorem do_const (i : Ev.Instr) (k : Nat) (s : Ev.St) (bv mb : Nat) (va : Value) (vs : List Value) (hi : Nat) (w : World) (hM : MAt w bv mb va vs hi s) (hk : k ≤ 1099511627776) (h : i.op = 14) (hd : inR s.v.length i.d) :
    Calls Try.prog 58 #[.pointer (some ⟨mb, 0, none⟩), .agg #[.int .i64 i.op, .int .i64 i.d, .int .i64 i.a, .int .i64 i.b, .int .i64 i.c, .int .i64 i.imm], .int .i64 (k : Int)] w fun e w' => e = .returned (.int .i64 ((k : Int) + 1)) ∧ MAt w' bv mb va vs hi (Ev.step i k s).1 ∧ Sets bv hi w w' := by
  have hbm := hM.bm
  have hmh := hM.mh
  have hle := hM.le
  have sB : w.heap.size < (w.alloc (.cells #[.int .i64 i.op, .int .i64 i.d, .int .i64 i.a, .int .i64 i.b, .int .i64 i.c, .int .i64 i.imm] 39)).heap.size := by simp
  have BB := Lib.hid (show Below w.heap.size w (w.alloc (.cells #[.int .i64 i.op, .int .i64 i.d, .int .i64 i.a, .int .i64 i.b, .int .i64 i.c, .int .i64 i.imm] 39)) by (repeat' first | with_reducible (first | exact Below.refl _ _ | assumption | refine Below.alloc ?_ ?_ _ | refine below_drewN ?_ _ | refine Below.drew ?_ | refine Below.setCell ?_ ?_ _ | refine Below.trans ?_ (Below.mono (by with_reducible assumption) ?_)) | go_size))
  have n0 : (w.alloc (.cells #[.int .i64 i.op, .int .i64 i.d, .int .i64 i.a, .int .i64 i.b, .int .i64 i.c, .int .i64 i.imm] 39)).cell? ⟨w.heap.size, 0, none⟩ = some (.int .i64 i.op) := by go_simp
  have n1 : (w.alloc (.cells #[.int .i64 i.op, .int .i64 i.d, .int .i64 i.a, .int .i64 i.b, .int .i64 i.c, .int .i64 i.imm] 39)).cell? ⟨w.heap.size, 1, none⟩ = some (.int .i64 i.d) := by go_simp
  have n2 : (w.alloc (.cells #[.int .i64 i.op, .int .i64 i.d, .int .i64 i.a, .int .i64 i.b, .int .i64 i.c, .int .i64 i.imm] 39)).cell? ⟨w.heap.size, 2, none⟩ = some (.int .i64 i.a) := by go_simp
  have n3 : (w.alloc (.cells #[.int .i64 i.op, .int .i64 i.d, .int .i64 i.a, .int .i64 i.b, .int .i64 i.c, .int .i64 i.imm] 39)).cell? ⟨w.heap.size, 3, none⟩ = some (.int .i64 i.b) := by go_simp
  have n4 : (w.alloc (.cells #[.int .i64 i.op, .int .i64 i.d, .int .i64 i.a, .int .i64 i.b, .int .i64 i.c, .int .i64 i.imm] 39)).cell? ⟨w.heap.size, 4, none⟩ = some (.int .i64 i.c) := by go_simp
  have n5 : (w.alloc (.cells #[.int .i64 i.op, .int .i64 i.d, .int .i64 i.a, .int .i64 i.b, .int .i64 i.c, .int .i64 i.imm] 39)).cell? ⟨w.heap.size, 5, none⟩ = some (.int .i64 i.imm) := by go_simp
  obtain ⟨wB, hwB⟩ : ∃ wB, w.alloc (.cells #[.int .i64 i.op, .int .i64 i.d, .int .i64 i.a, .int .i64 i.b, .int .i64 i.c, .int .i64 i.imm] 39) = wB := ⟨_, rfl⟩
  have HM := Lib.hid (hM.stays BB.out)
  have HWB := Lib.hid hwB
  rw [hwB] at sB BB n0 n1 n2 n3 n4 n5 HM
  clear hM hwB
  have m0 := HM.out.m0
  have m1 := HM.out.m1
  have m2 := HM.out.m2
  have lm := HM.out.loose
  have cd := HM.out.cell hd
  have fd := HM.out.vloose i.d.toNat
  have hd0 := hd.1
  have hd1 := hd.2
  clear hd
  have HSP := Lib.hid (@Ev.step_const i k s h)
  have HOP := Lib.hid h
  clear h
  go_enter Try.func58, Try.ntmps58
  go_upto_region 1 with fail
  rw [HWB.out]
  have h := HOP.out
  go_wp2_with fail
  refine wp_region_store (fun w' => w' = (wB).drew) (fun w' => w' = (wB).drew.setCell ⟨bv, i.d.toNat, none⟩ (.int .i64 i.imm)) 9 [] (by kernel_rfl) (by kernel_rfl) (by kernel_rfl) (by kernel_rfl) rfl ?_
  apply chainS_mid (by rfl)
  case h => (rintro w9 rfl; go_wp2_with fail; (try (fail; go_wp2_with fail)); refine settled_intro (S := fun w' => w' = (wB).drew) ?_; rfl)
  case h1 => (intro hk; exact absurd hk (by decide))
  case hp => first | rfl | (simp only [*]; done) | (simp only [*]; rfl)
  apply chainS_mid (by rfl)
  case h => (rintro w9 rfl; go_wp2_with fail; (try (fail; go_wp2_with fail)); refine settled_intro (S := fun w' => w' = (wB).drew) ?_; rfl)
  case h1 => (intro hk; exact absurd hk (by decide))
  case hp => first | rfl | (simp only [*]; done) | (simp only [*]; rfl)
  apply chainS_mid (by rfl)
  case h => (rintro w9 rfl; go_wp2_with fail; (try (fail; go_wp2_with fail)); refine settled_intro (S := fun w' => w' = (wB).drew) ?_; rfl)
  case h1 => (intro hk; exact absurd hk (by decide))
  case hp => first | rfl | (simp only [*]; done) | (simp only [*]; rfl)
  apply chainS_mid (by rfl)
  case h => (rintro w9 rfl; go_wp2_with fail; (try (fail; go_wp2_with fail)); refine settled_intro (S := fun w' => w' = (wB).drew) ?_; rfl)
  case h1 => (intro hk; exact absurd hk (by decide))
  case hp => first | rfl | (simp only [*]; done) | (simp only [*]; rfl)
  apply chainS_mid (by rfl)
  case h => (rintro w9 rfl; go_wp2_with fail; (try (fail; go_wp2_with fail)); refine settled_intro (S := fun w' => w' = (wB).drew) ?_; rfl)
  case h1 => (intro hk; exact absurd hk (by decide))
  case hp => first | rfl | (simp only [*]; done) | (simp only [*]; rfl)
  apply chainS_mid (by rfl)
  case h => (rintro w9 rfl; go_wp2_with fail; (try (fail; go_wp2_with fail)); refine settled_intro (S := fun w' => w' = (wB).drew) ?_; rfl)
  case h1 => (intro hk; exact absurd hk (by decide))
  case hp => first | rfl | (simp only [*]; done) | (simp only [*]; rfl)
  apply chainS_mid (by rfl)
  case h => (rintro w9 rfl; go_wp2_with fail; (try (fail; go_wp2_with fail)); refine settled_intro (S := fun w' => w' = (wB).drew) ?_; rfl)
  case h1 => (intro hk; exact absurd hk (by decide))
  case hp => first | rfl | (simp only [*]; done) | (simp only [*]; rfl)
  apply chainS_mid (by rfl)
  case h => (rintro w9 rfl; go_wp2_with fail; (try (fail; go_wp2_with fail)); refine settled_intro (S := fun w' => w' = (wB).drew) ?_; rfl)
  case h1 => (intro hk; exact absurd hk (by decide))
  case hp => first | rfl | (simp only [*]; done) | (simp only [*]; rfl)
  apply chainS_mid (by rfl)
  case h => (rintro w9 rfl; go_wp2_with fail; (try (fail; go_wp2_with fail)); refine settled_intro (S := fun w' => w' = (wB).drew) ?_; rfl)
  case h1 => (intro hk; exact absurd hk (by decide))
  case hp => first | rfl | (simp only [*]; done) | (simp only [*]; rfl)
  apply chainS_store (by rfl)
  case h => (rintro w9 rfl; go_wp2_with fail; refine settled_intro (S := fun w' => w' = (wB).drew.setCell ⟨bv, i.d.toNat, none⟩ (.int .i64 i.imm)) ?_; rfl)
  case hp => first | rfl | (simp only [*]; done) | (simp only [*]; rfl)
  refine chainS.nil ?_
  rintro _ rfl
  (try dsimp only)
  go_wp2
  go_ret
  refine ⟨by push_cast; rfl, ?_, ?_⟩
  · rw [HSP.out]
    exact (HM.out.stays (Below.refl _ _).drew).setV _ _
  · exact .set ((Sets.here.more BB.out).drewN 1) (Nat.le_refl _) (by omega)
set_option maxRecDepth 20000 in
set_option maxHeartbeats 3200000 in
theorem do_move (i : Ev.Instr) (k : Nat) (s : Ev.St) (bv mb : Nat) (va : Value) (vs : List Value) (hi : Nat) (w : World) (hM : MAt w bv mb va vs hi s) (hk : k ≤ 1099511627776) (h : i.op = 15) (ha : inR s.v.length i.a) (hd : inR s.v.length i.d) :
    Calls Try.prog 58 #[.pointer (some ⟨mb, 0, none⟩), .agg #[.int .i64 i.op, .int .i64 i.d, .int .i64 i.a, .int .i64 i.b, .int .i64 i.c, .int .i64 i.imm], .int .i64 (k : Int)] w fun e w' => e = .returned (.int .i64 ((k : Int) + 1)) ∧ MAt w' bv mb va vs hi (Ev.step i k s).1 ∧ Sets bv hi w w' := by
  have hbm := hM.bm
  have hmh := hM.mh
  have hle := hM.le
  have sB : w.heap.size < (w.alloc (.cells #[.int .i64 i.op, .int .i64 i.d, .int .i64 i.a, .int .i64 i.b, .int .i64 i.c, .int .i64 i.imm] 39)).heap.size := by simp
  have BB := Lib.hid (show Below w.heap.size w (w.alloc (.cells #[.int .i64 i.op, .int .i64 i.d, .int .i64 i.a, .int .i64 i.b, .int .i64 i.c, .int .i64 i.imm] 39)) by (repeat' first | with_reducible (first | exact Below.refl _ _ | assumption | refine Below.alloc ?_ ?_ _ | refine below_drewN ?_ _ | refine Below.drew ?_ | refine Below.setCell ?_ ?_ _ | refine Below.trans ?_ (Below.mono (by with_reducible assumption) ?_)) | go_size))
  have n0 : (w.alloc (.cells #[.int .i64 i.op, .int .i64 i.d, .int .i64 i.a, .int .i64 i.b, .int .i64 i.c, .int .i64 i.imm] 39)).cell? ⟨w.heap.size, 0, none⟩ = some (.int .i64 i.op) := by go_simp
  have n1 : (w.alloc (.cells #[.int .i64 i.op, .int .i64 i.d, .int .i64 i.a, .int .i64 i.b, .int .i64 i.c, .int .i64 i.imm] 39)).cell? ⟨w.heap.size, 1, none⟩ = some (.int .i64 i.d) := by go_simp
  have n2 : (w.alloc (.cells #[.int .i64 i.op, .int .i64 i.d, .int .i64 i.a, .int .i64 i.b, .int .i64 i.c, .int .i64 i.imm] 39)).cell? ⟨w.heap.size, 2, none⟩ = some (.int .i64 i.a) := by go_simp
  have n3 : (w.alloc (.cells #[.int .i64 i.op, .int .i64 i.d, .int .i64 i.a, .int .i64 i.b, .int .i64 i.c, .int .i64 i.imm] 39)).cell? ⟨w.heap.size, 3, none⟩ = some (.int .i64 i.b) := by go_simp
  have n4 : (w.alloc (.cells #[.int .i64 i.op, .int .i64 i.d, .int .i64 i.a, .int .i64 i.b, .int .i64 i.c, .int .i64 i.imm] 39)).cell? ⟨w.heap.size, 4, none⟩ = some (.int .i64 i.c) := by go_simp
  have n5 : (w.alloc (.cells #[.int .i64 i.op, .int .i64 i.d, .int .i64 i.a, .int .i64 i.b, .int .i64 i.c, .int .i64 i.imm] 39)).cell? ⟨w.heap.size, 5, none⟩ = some (.int .i64 i.imm) := by go_simp
  obtain ⟨wB, hwB⟩ : ∃ wB, w.alloc (.cells #[.int .i64 i.op, .int .i64 i.d, .int .i64 i.a, .int .i64 i.b, .int .i64 i.c, .int .i64 i.imm] 39) = wB := ⟨_, rfl⟩
  have HM := Lib.hid (hM.stays BB.out)
  have HWB := Lib.hid hwB
  rw [hwB] at sB BB n0 n1 n2 n3 n4 n5 HM
  clear hM hwB
  have m0 := HM.out.m0
  have m1 := HM.out.m1
  have m2 := HM.out.m2
  have lm := HM.out.loose
  have cd := HM.out.cell hd
  have fd := HM.out.vloose i.d.toNat
  have hd0 := hd.1
  have hd1 := hd.2
  clear hd
  have ca := HM.out.cell ha
  have ha0 := ha.1
  have ha1 := ha.2
  clear ha
  have HSP := Lib.hid (@Ev.step_move i k s h)
  generalize Ev.val s.v i.a = x at *
  have HOP := Lib.hid h
  clear h
  go_enter Try.func58, Try.ntmps58
  go_upto_region 1 with fail
  rw [HWB.out]
  have h := HOP.out
  go_wp2_with fail
  refine wp_region_store (fun w' => w' = (wB).drew) (fun w' => w' = (wB).drew.setCell ⟨bv, i.d.toNat, none⟩ (.int .i64 x)) 15 [] (by kernel_rfl) (by kernel_rfl) (by kernel_rfl) (by kernel_rfl) rfl ?_
  apply chainS_mid (by rfl)
  case h => (rintro w9 rfl; go_wp2_with fail; (try (fail; go_wp2_with fail)); refine settled_intro (S := fun w' => w' = (wB).drew) ?_; rfl)
  case h1 => (intro hk; exact absurd hk (by decide))
  case hp => first | rfl | (simp only [*]; done) | (simp only [*]; rfl)
  apply chainS_mid (by rfl)
  case h => (rintro w9 rfl; go_wp2_with fail; (try (fail; go_wp2_with fail)); refine settled_intro (S := fun w' => w' = (wB).drew) ?_; rfl)
  case h1 => (intro hk; exact absurd hk (by decide))
  case hp => first | rfl | (simp only [*]; done) | (simp only [*]; rfl)
  apply chainS_mid (by rfl)
  case h => (rintro w9 rfl; go_wp2_with fail; (try (fail; go_wp2_with fail)); refine settled_intro (S := fun w' => w' = (wB).drew) ?_; rfl)
  case h1 => (intro hk; exact absurd hk (by decide))
  case hp => first | rfl | (simp only [*]; done) | (simp only [*]; rfl)
  apply chainS_mid (by rfl)
  case h => (rintro w9 rfl; go_wp2_with fail; (try (fail; go_wp2_with fail)); refine settled_intro (S := fun w' => w' = (wB).drew) ?_; rfl)
  case h1 => (intro hk; exact absurd hk (by decide))
  case hp => first | rfl | (simp only [*]; done) | (simp only [*]; rfl)
  apply chainS_mid (by rfl)
  case h => (rintro w9 rfl; go_wp2_with fail; (try (fail; go_wp2_with fail)); refine settled_intro (S := fun w' => w' = (wB).drew) ?_; rfl)
  case h1 => (intro hk; exact absurd hk (by decide))
  case hp => first | rfl | (simp only [*]; done) | (simp only [*]; rfl)
  apply chainS_mid (by rfl)
  case h => (rintro w9 rfl; go_wp2_with fail; (try (fail; go_wp2_with fail)); refine settled_intro (S := fun w' => w' = (wB).drew) ?_; rfl)
  case h1 => (intro hk; exact absurd hk (by decide))
  case hp => first | rfl | (simp only [*]; done) | (simp only [*]; rfl)
  apply chainS_mid (by rfl)
  case h => (rintro w9 rfl; go_wp2_with fail; (try (fail; go_wp2_with fail)); refine settled_intro (S := fun w' => w' = (wB).drew) ?_; rfl)
  case h1 => (intro hk; exact absurd hk (by decide))
  case hp => first | rfl | (simp only [*]; done) | (simp only [*]; rfl)
  apply chainS_mid (by rfl)
  case h => (rintro w9 rfl; go_wp2_with fail; (try (fail; go_wp2_with fail)); refine settled_intro (S := fun w' => w' = (wB).drew) ?_; rfl)
  case h1 => (intro hk; exact absurd hk (by decide))
  case hp => first | rfl | (simp only [*]; done) | (simp only [*]; rfl)
  apply chainS_mid (by rfl)
  case h => (rintro w9 rfl; go_wp2_with fail; (try (fail; go_wp2_with fail)); refine settled_intro (S := fun w' => w' = (wB).drew) ?_; rfl)
  case h1 => (intro hk; exact absurd hk (by decide))
  case hp => first | rfl | (simp only [*]; done) | (simp only [*]; rfl)
  apply chainS_mid (by rfl)
  case h => (rintro w9 rfl; go_wp2_with fail; (try (fail; go_wp2_with fail)); refine settled_intro (S := fun w' => w' = (wB).drew) ?_; rfl)
  case h1 => (intro hk; exact absurd hk (by decide))
  case hp => first | rfl | (simp only [*]; done) | (simp only [*]; rfl)
  apply chainS_mid (by rfl)
  case h => (rintro w9 rfl; go_wp2_with fail; (try (fail; go_wp2_with fail)); refine settled_intro (S := fun w' => w' = (wB).drew) ?_; rfl)
  case h1 => (intro hk; exact absurd hk (by decide))
  case hp => first | rfl | (simp only [*]; done) | (simp only [*]; rfl)
  apply chainS_mid (by rfl)
  case h => (rintro w9 rfl; go_wp2_with fail; (try (fail; go_wp2_with fail)); refine settled_intro (S := fun w' => w' = (wB).drew) ?_; rfl)
  case h1 => (intro hk; exact absurd hk (by decide))
  case hp => first | rfl | (simp only [*]; done) | (simp only [*]; rfl)
  apply chainS_mid (by rfl)
  case h => (rintro w9 rfl; go_wp2_with fail; (try (fail; go_wp2_with fail)); refine settled_intro (S := fun w' => w' = (wB).drew) ?_; rfl)
  case h1 => (intro hk; exact absurd hk (by decide))
  case hp => first | rfl | (simp only [*]; done) | (simp only [*]; rfl)
  apply chainS_mid (by rfl)
  case h => (rintro w9 rfl; go_wp2_with fail; (try (fail; go_wp2_with fail)); refine settled_intro (S := fun w' => w' = (wB).drew) ?_; rfl)
  case h1 => (intro hk; exact absurd hk (by decide))
  case hp => first | rfl | (simp only [*]; done) | (simp only [*]; rfl)
  apply chainS_mid (by rfl)
  case h => (rintro w9 rfl; go_wp2_with fail; (try (fail; go_wp2_with fail)); refine settled_intro (S := fun w' => w' = (wB).drew) ?_; rfl)
  case h1 => (intro hk; exact absurd hk (by decide))
  case hp => first | rfl | (simp only [*]; done) | (simp only [*]; rfl)
  apply chainS_store (by rfl)
  case h => (rintro w9 rfl; go_wp2_with fail; refine settled_intro (S := fun w' => w' = (wB).drew.setCell ⟨bv, i.d.toNat, none⟩ (.int .i64 x)) ?_; rfl)
  case hp => first | rfl | (simp only [*]; done) | (simp only [*]; rfl)
  refine chainS.nil ?_
  rintro _ rfl
  (try dsimp only)
  go_wp2
  go_ret
  refine ⟨by push_cast; rfl, ?_, ?_⟩
  · rw [HSP.out]
    exact (HM.out.stays (Below.refl _ _).drew).setV _ _
  · exact .set ((Sets.here.more BB.out).drewN 1) (Nat.le_refl _) (by omega)
set_option maxRecDepth 20000 in
set_option maxHeartbeats 3200000 in
theorem do_load_in (i : Ev.Instr) (k : Nat) (s : Ev.St) (bv mb : Nat) (va : Value) (vs : List Value) (hi : Nat) (w : World) (hM : MAt w bv mb va vs hi s) (hk : k ≤ 1099511627776) (h : i.op = 16) (ha : inR s.v.length i.a) (hd : inR s.v.length i.d) (hb0 : 0 ≤ i.b) (hb1 : i.b < (s.arrs.length : Int)) (hv : 0 ≤ Ev.val s.v i.a) (hn : Ev.val s.v i.a < (s.arrs.getD i.b.toNat []).length) :
    Calls Try.prog 58 #[.pointer (some ⟨mb, 0, none⟩), .agg #[.int .i64 i.op, .int .i64 i.d, .int .i64 i.a, .int .i64 i.b, .int .i64 i.c, .int .i64 i.imm], .int .i64 (k : Int)] w fun e w' => e = .returned (.int .i64 ((k : Int) + 1)) ∧ MAt w' bv mb va vs hi (Ev.step i k s).1 ∧ Sets bv hi w w' := by
  have hbm := hM.bm
  have hmh := hM.mh
  have hle := hM.le
  have sB : w.heap.size < (w.alloc (.cells #[.int .i64 i.op, .int .i64 i.d, .int .i64 i.a, .int .i64 i.b, .int .i64 i.c, .int .i64 i.imm] 39)).heap.size := by simp
  have BB := Lib.hid (show Below w.heap.size w (w.alloc (.cells #[.int .i64 i.op, .int .i64 i.d, .int .i64 i.a, .int .i64 i.b, .int .i64 i.c, .int .i64 i.imm] 39)) by (repeat' first | with_reducible (first | exact Below.refl _ _ | assumption | refine Below.alloc ?_ ?_ _ | refine below_drewN ?_ _ | refine Below.drew ?_ | refine Below.setCell ?_ ?_ _ | refine Below.trans ?_ (Below.mono (by with_reducible assumption) ?_)) | go_size))
  have n0 : (w.alloc (.cells #[.int .i64 i.op, .int .i64 i.d, .int .i64 i.a, .int .i64 i.b, .int .i64 i.c, .int .i64 i.imm] 39)).cell? ⟨w.heap.size, 0, none⟩ = some (.int .i64 i.op) := by go_simp
  have n1 : (w.alloc (.cells #[.int .i64 i.op, .int .i64 i.d, .int .i64 i.a, .int .i64 i.b, .int .i64 i.c, .int .i64 i.imm] 39)).cell? ⟨w.heap.size, 1, none⟩ = some (.int .i64 i.d) := by go_simp
  have n2 : (w.alloc (.cells #[.int .i64 i.op, .int .i64 i.d, .int .i64 i.a, .int .i64 i.b, .int .i64 i.c, .int .i64 i.imm] 39)).cell? ⟨w.heap.size, 2, none⟩ = some (.int .i64 i.a) := by go_simp
  have n3 : (w.alloc (.cells #[.int .i64 i.op, .int .i64 i.d, .int .i64 i.a, .int .i64 i.b, .int .i64 i.c, .int .i64 i.imm] 39)).cell? ⟨w.heap.size, 3, none⟩ = some (.int .i64 i.b) := by go_simp
  have n4 : (w.alloc (.cells #[.int .i64 i.op, .int .i64 i.d, .int .i64 i.a, .int .i64 i.b, .int .i64 i.c, .int .i64 i.imm] 39)).cell? ⟨w.heap.size, 4, none⟩ = some (.int .i64 i.c) := by go_simp
  have n5 : (w.alloc (.cells #[.int .i64 i.op, .int .i64 i.d, .int .i64 i.a, .int .i64 i.b, .int .i64 i.c, .int .i64 i.imm] 39)).cell? ⟨w.heap.size, 5, none⟩ = some (.int .i64 i.imm) := by go_simp
  obtain ⟨wB, hwB⟩ : ∃ wB, w.alloc (.cells #[.int .i64 i.op, .int .i64 i.d, .int .i64 i.a, .int .i64 i.b, .int .i64 i.c, .int .i64 i.imm] 39) = wB := ⟨_, rfl⟩
  have HM := Lib.hid (hM.stays BB.out)
  have HWB := Lib.hid hwB
  rw [hwB] at sB BB n0 n1 n2 n3 n4 n5 HM
  clear hM hwB
  have m0 := HM.out.m0
  have m1 := HM.out.m1
  have m2 := HM.out.m2
  have lm := HM.out.loose
  have cd := HM.out.cell hd
  have fd := HM.out.vloose i.d.toNat
  have hd0 := hd.1
  have hd1 := hd.2
  clear hd
  have ca := HM.out.cell ha
  have ha0 := ha.1
  have ha1 := ha.2
  clear ha
  have HSP := Lib.hid (@Ev.step_load i k s h)
  obtain ⟨a, ha'⟩ : ∃ a, s.arrs[i.b.toNat]? = some a := ⟨_, List.getElem?_eq_getElem (by omega)⟩
  obtain ⟨bo, co, A, ca', e1, e2, e3, e4, e5, e6, e7, e8, e9, e10, e11⟩ := Arrs.at_ HM.out.arrs ha'
  subst e1
  have hne2 : bo ≠ bv := by omega
  have E11 := Lib.hid e11
  have E8 := Lib.hid e8
  have HA' := Lib.hid ha'
  clear e8 e11 ha'
  rw [List.getD_eq_getElem?_getD, HA'.out] at hn
  simp only [Option.getD_some] at hn
  have hA : Ev.arrAt s.arrs i.b (Ev.val s.v i.a) = if Ev.val s.v i.a < a.length then Ev.val a (Ev.val s.v i.a) else 0 := by
    unfold Ev.arrAt
    rw [List.getD_eq_getElem?_getD, HA'.out]
    rfl
  rw [if_pos hn] at hA
  obtain ⟨g', rfl, f1, f2, f3, f4⟩ := E11.out (by omega)
  have f5 : wB.cell? ⟨g', (Ev.val s.v i.a).toNat, none⟩ = some (.int .i64 (Ev.val a (Ev.val s.v i.a))) := f4 _ _ (by
    have hnn : (Ev.val s.v i.a).toNat < a.length := by omega
    generalize Ev.val s.v i.a = n at hnn
    unfold Ev.val
    rw [List.getD_eq_getElem?_getD, List.getElem?_eq_getElem hnn]
    rfl)
  have f6 := f3 (Ev.val s.v i.a).toNat
  have hne3 : g' ≠ bv := by omega
  clear f3 f4
  have HA := Lib.hid hA
  clear hA
  generalize Ev.val a (Ev.val s.v i.a) = x at *
  generalize Ev.val s.v i.a = n at *
  have HOP := Lib.hid h
  clear h
  go_enter Try.func58, Try.ntmps58
  go_upto_region 1 with fail
  rw [HWB.out]
  have h := HOP.out
  go_wp2_with fail
  go_quiet (fail)
  generalize nq = nA at *
  go_wp2_with fail
  refine wp_region_store (fun w' => w' = (wB.drewN nA).drew) (fun w' => w' = (wB.drewN nA).drew.setCell ⟨bv, i.d.toNat, none⟩ (.int .i64 0)) 7 [] (by kernel_rfl) (by kernel_rfl) (by kernel_rfl) (by kernel_rfl) rfl ?_
  apply chainS_mid (by rfl)
  case h => (rintro w9 rfl; go_wp2_with fail; (try (fail; go_wp2_with fail)); refine settled_intro (S := fun w' => w' = (wB.drewN nA).drew) ?_; rfl)
  case h1 => (intro hk; exact absurd hk (by decide))
  case hp => first | rfl | (simp only [*]; done) | (simp only [*]; rfl)
  apply chainS_mid (by rfl)
  case h => (rintro w9 rfl; go_wp2_with fail; (try (fail; go_wp2_with fail)); refine settled_intro (S := fun w' => w' = (wB.drewN nA).drew) ?_; rfl)
  case h1 => (intro hk; exact absurd hk (by decide))
  case hp => first | rfl | (simp only [*]; done) | (simp only [*]; rfl)
  apply chainS_mid (by rfl)
  case h => (rintro w9 rfl; go_wp2_with fail; (try (fail; go_wp2_with fail)); refine settled_intro (S := fun w' => w' = (wB.drewN nA).drew) ?_; rfl)
  case h1 => (intro hk; exact absurd hk (by decide))
  case hp => first | rfl | (simp only [*]; done) | (simp only [*]; rfl)
  apply chainS_mid (by rfl)
  case h => (rintro w9 rfl; go_wp2_with fail; (try (fail; go_wp2_with fail)); refine settled_intro (S := fun w' => w' = (wB.drewN nA).drew) ?_; rfl)
  case h1 => (intro hk; exact absurd hk (by decide))
  case hp => first | rfl | (simp only [*]; done) | (simp only [*]; rfl)
  apply chainS_mid (by rfl)
  case h => (rintro w9 rfl; go_wp2_with fail; (try (fail; go_wp2_with fail)); refine settled_intro (S := fun w' => w' = (wB.drewN nA).drew) ?_; rfl)
  case h1 => (intro hk; exact absurd hk (by decide))
  case hp => first | rfl | (simp only [*]; done) | (simp only [*]; rfl)
  apply chainS_mid (by rfl)
  case h => (rintro w9 rfl; go_wp2_with fail; (try (fail; go_wp2_with fail)); refine settled_intro (S := fun w' => w' = (wB.drewN nA).drew) ?_; rfl)
  case h1 => (intro hk; exact absurd hk (by decide))
  case hp => first | rfl | (simp only [*]; done) | (simp only [*]; rfl)
  apply chainS_mid (by rfl)
  case h => (rintro w9 rfl; go_wp2_with fail; (try (fail; go_wp2_with fail)); refine settled_intro (S := fun w' => w' = (wB.drewN nA).drew) ?_; rfl)
  case h1 => (intro hk; exact absurd hk (by decide))
  case hp => first | rfl | (simp only [*]; done) | (simp only [*]; rfl)
  apply chainS_store (by rfl)
  case h => (rintro w9 rfl; go_wp2_with fail; refine settled_intro (S := fun w' => w' = (wB.drewN nA).drew.setCell ⟨bv, i.d.toNat, none⟩ (.int .i64 0)) ?_; rfl)
  case hp => first | rfl | (simp only [*]; done) | (simp only [*]; rfl)
  refine chainS.nil ?_
  rintro _ rfl
  (try dsimp only)
  go_wp2_with fail
  go_quiet (fail)
  go_wp2_with fail
  refine wp_region_store (fun w' => w' = (((wB.drewN (nA + 1)).setCell ⟨bv, i.d.toNat, none⟩ (.int .i64 0)).drewN nq).drew) (fun w' => w' = (((wB.drewN (nA + 1)).setCell ⟨bv, i.d.toNat, none⟩ (.int .i64 0)).drewN nq).drew.setCell ⟨bv, i.d.toNat, none⟩ (.int .i64 x)) 18 [] (by kernel_rfl) (by kernel_rfl) (by kernel_rfl) (by kernel_rfl) rfl ?_
  apply chainS_mid (by rfl)
  case h => (rintro w9 rfl; go_wp2_with fail; (try (fail; go_wp2_with fail)); refine settled_intro (S := fun w' => w' = (((wB.drewN (nA + 1)).setCell ⟨bv, i.d.toNat, none⟩ (.int .i64 0)).drewN nq).drew) ?_; rfl)
  case h1 => (intro hk; exact absurd hk (by decide))
  case hp => first | rfl | (simp only [*]; done) | (simp only [*]; rfl)
  apply chainS_mid (by rfl)
  case h => (rintro w9 rfl; go_wp2_with fail; (try (fail; go_wp2_with fail)); refine settled_intro (S := fun w' => w' = (((wB.drewN (nA + 1)).setCell ⟨bv, i.d.toNat, none⟩ (.int .i64 0)).drewN nq).drew) ?_; rfl)
  case h1 => (intro hk; exact absurd hk (by decide))
  case hp => first | rfl | (simp only [*]; done) | (simp only [*]; rfl)
  apply chainS_mid (by rfl)
  case h => (rintro w9 rfl; go_wp2_with fail; (try (fail; go_wp2_with fail)); refine settled_intro (S := fun w' => w' = (((wB.drewN (nA + 1)).setCell ⟨bv, i.d.toNat, none⟩ (.int .i64 0)).drewN nq).drew) ?_; rfl)
  case h1 => (intro hk; exact absurd hk (by decide))
  case hp => first | rfl | (simp only [*]; done) | (simp only [*]; rfl)
  apply chainS_mid (by rfl)
  case h => (rintro w9 rfl; go_wp2_with fail; (try (fail; go_wp2_with fail)); refine settled_intro (S := fun w' => w' = (((wB.drewN (nA + 1)).setCell ⟨bv, i.d.toNat, none⟩ (.int .i64 0)).drewN nq).drew) ?_; rfl)
  case h1 => (intro hk; exact absurd hk (by decide))
  case hp => first | rfl | (simp only [*]; done) | (simp only [*]; rfl)
  apply chainS_mid (by rfl)
  case h => (rintro w9 rfl; go_wp2_with fail; (try (fail; go_wp2_with fail)); refine settled_intro (S := fun w' => w' = (((wB.drewN (nA + 1)).setCell ⟨bv, i.d.toNat, none⟩ (.int .i64 0)).drewN nq).drew) ?_; rfl)
  case h1 => (intro hk; exact absurd hk (by decide))
  case hp => first | rfl | (simp only [*]; done) | (simp only [*]; rfl)
  apply chainS_mid (by rfl)
  case h => (rintro w9 rfl; go_wp2_with fail; (try (fail; go_wp2_with fail)); refine settled_intro (S := fun w' => w' = (((wB.drewN (nA + 1)).setCell ⟨bv, i.d.toNat, none⟩ (.int .i64 0)).drewN nq).drew) ?_; rfl)
  case h1 => (intro hk; exact absurd hk (by decide))
  case hp => first | rfl | (simp only [*]; done) | (simp only [*]; rfl)
  apply chainS_mid (by rfl)
  case h => (rintro w9 rfl; go_wp2_with fail; (try (fail; go_wp2_with fail)); refine settled_intro (S := fun w' => w' = (((wB.drewN (nA + 1)).setCell ⟨bv, i.d.toNat, none⟩ (.int .i64 0)).drewN nq).drew) ?_; rfl)
  case h1 => (intro hk; exact absurd hk (by decide))
  case hp => first | rfl | (simp only [*]; done) | (simp only [*]; rfl)
  apply chainS_mid (by rfl)
  case h => (rintro w9 rfl; go_wp2_with fail; (try (fail; go_wp2_with fail)); refine settled_intro (S := fun w' => w' = (((wB.drewN (nA + 1)).setCell ⟨bv, i.d.toNat, none⟩ (.int .i64 0)).drewN nq).drew) ?_; rfl)
  case h1 => (intro hk; exact absurd hk (by decide))
  case hp => first | rfl | (simp only [*]; done) | (simp only [*]; rfl)
  apply chainS_mid (by rfl)
  case h => (rintro w9 rfl; go_wp2_with fail; (try (fail; go_wp2_with fail)); refine settled_intro (S := fun w' => w' = (((wB.drewN (nA + 1)).setCell ⟨bv, i.d.toNat, none⟩ (.int .i64 0)).drewN nq).drew) ?_; rfl)
  case h1 => (intro hk; exact absurd hk (by decide))
  case hp => first | rfl | (simp only [*]; done) | (simp only [*]; rfl)
  apply chainS_mid (by rfl)
  case h => (rintro w9 rfl; go_wp2_with fail; (try (fail; go_wp2_with fail)); refine settled_intro (S := fun w' => w' = (((wB.drewN (nA + 1)).setCell ⟨bv, i.d.toNat, none⟩ (.int .i64 0)).drewN nq).drew) ?_; rfl)
  case h1 => (intro hk; exact absurd hk (by decide))
  case hp => first | rfl | (simp only [*]; done) | (simp only [*]; rfl)
  apply chainS_mid (by rfl)
  case h => (rintro w9 rfl; go_wp2_with fail; (try (fail; go_wp2_with fail)); refine settled_intro (S := fun w' => w' = (((wB.drewN (nA + 1)).setCell ⟨bv, i.d.toNat, none⟩ (.int .i64 0)).drewN nq).drew) ?_; rfl)
  case h1 => (intro hk; exact absurd hk (by decide))
  case hp => first | rfl | (simp only [*]; done) | (simp only [*]; rfl)
  apply chainS_mid (by rfl)
  case h => (rintro w9 rfl; go_wp2_with fail; (try (fail; go_wp2_with fail)); refine settled_intro (S := fun w' => w' = (((wB.drewN (nA + 1)).setCell ⟨bv, i.d.toNat, none⟩ (.int .i64 0)).drewN nq).drew) ?_; rfl)
  case h1 => (intro hk; exact absurd hk (by decide))
  case hp => first | rfl | (simp only [*]; done) | (simp only [*]; rfl)
  apply chainS_mid (by rfl)
  case h => (rintro w9 rfl; go_wp2_with fail; (try (fail; go_wp2_with fail)); refine settled_intro (S := fun w' => w' = (((wB.drewN (nA + 1)).setCell ⟨bv, i.d.toNat, none⟩ (.int .i64 0)).drewN nq).drew) ?_; rfl)
  case h1 => (intro hk; exact absurd hk (by decide))
  case hp => first | rfl | (simp only [*]; done) | (simp only [*]; rfl)
  apply chainS_mid (by rfl)
  case h => (rintro w9 rfl; go_wp2_with fail; (try (fail; go_wp2_with fail)); refine settled_intro (S := fun w' => w' = (((wB.drewN (nA + 1)).setCell ⟨bv, i.d.toNat, none⟩ (.int .i64 0)).drewN nq).drew) ?_; rfl)
  case h1 => (intro hk; exact absurd hk (by decide))
  case hp => first | rfl | (simp only [*]; done) | (simp only [*]; rfl)
  apply chainS_mid (by rfl)
  case h => (rintro w9 rfl; go_wp2_with fail; (try (fail; go_wp2_with fail)); refine settled_intro (S := fun w' => w' = (((wB.drewN (nA + 1)).setCell ⟨bv, i.d.toNat, none⟩ (.int .i64 0)).drewN nq).drew) ?_; rfl)
  case h1 => (intro hk; exact absurd hk (by decide))
  case hp => first | rfl | (simp only [*]; done) | (simp only [*]; rfl)
  apply chainS_mid (by rfl)
  case h => (rintro w9 rfl; go_wp2_with fail; (try (fail; go_wp2_with fail)); refine settled_intro (S := fun w' => w' = (((wB.drewN (nA + 1)).setCell ⟨bv, i.d.toNat, none⟩ (.int .i64 0)).drewN nq).drew) ?_; rfl)
  case h1 => (intro hk; exact absurd hk (by decide))
  case hp => first | rfl | (simp only [*]; done) | (simp only [*]; rfl)
  apply chainS_mid (by rfl)
  case h => (rintro w9 rfl; go_wp2_with fail; (try (fail; go_wp2_with fail)); refine settled_intro (S := fun w' => w' = (((wB.drewN (nA + 1)).setCell ⟨bv, i.d.toNat, none⟩ (.int .i64 0)).drewN nq).drew) ?_; rfl)
  case h1 => (intro hk; exact absurd hk (by decide))
  case hp => first | rfl | (simp only [*]; done) | (simp only [*]; rfl)
  apply chainS_mid (by rfl)
  case h => (rintro w9 rfl; go_wp2_with fail; (try (fail; go_wp2_with fail)); refine settled_intro (S := fun w' => w' = (((wB.drewN (nA + 1)).setCell ⟨bv, i.d.toNat, none⟩ (.int .i64 0)).drewN nq).drew) ?_; rfl)
  case h1 => (intro hk; exact absurd hk (by decide))
  case hp => first | rfl | (simp only [*]; done) | (simp only [*]; rfl)
  apply chainS_store (by rfl)
  case h => (rintro w9 rfl; go_wp2_with fail; refine settled_intro (S := fun w' => w' = (((wB.drewN (nA + 1)).setCell ⟨bv, i.d.toNat, none⟩ (.int .i64 0)).drewN nq).drew.setCell ⟨bv, i.d.toNat, none⟩ (.int .i64 x)) ?_; rfl)
  case hp => first | rfl | (simp only [*]; done) | (simp only [*]; rfl)
  refine chainS.nil ?_
  rintro _ rfl
  (try dsimp only)
  go_wp2
  go_ret
  refine ⟨by push_cast; rfl, ?_, ?_⟩
  · have HSe := HSP.out
    rw [HA.out] at HSe
    rw [HSe]
    have hm := (((HM.out.stays (below_drewN (Below.refl _ _) (nA + 1))).setV i.d.toNat 0).stays (below_drewN (Below.refl _ _) (nq + 1))).setV i.d.toNat x
    simp only [List.set_set] at hm
    exact hm
  · exact .set ((Sets.set ((Sets.here.more BB.out).drewN _) (Nat.le_refl _) (by omega)).drewN _) (Nat.le_refl _) (by omega)
set_option maxRecDepth 20000 in
set_option maxHeartbeats 3200000 in
theorem do_load_out (i : Ev.Instr) (k : Nat) (s : Ev.St) (bv mb : Nat) (va : Value) (vs : List Value) (hi : Nat) (w : World) (hM : MAt w bv mb va vs hi s) (hk : k ≤ 1099511627776) (h : i.op = 16) (ha : inR s.v.length i.a) (hd : inR s.v.length i.d) (hb0 : 0 ≤ i.b) (hb1 : i.b < (s.arrs.length : Int)) (hv : 0 ≤ Ev.val s.v i.a) (hn : ¬ Ev.val s.v i.a < (s.arrs.getD i.b.toNat []).length) :
    Calls Try.prog 58 #[.pointer (some ⟨mb, 0, none⟩), .agg #[.int .i64 i.op, .int .i64 i.d, .int .i64 i.a, .int .i64 i.b, .int .i64 i.c, .int .i64 i.imm], .int .i64 (k : Int)] w fun e w' => e = .returned (.int .i64 ((k : Int) + 1)) ∧ MAt w' bv mb va vs hi (Ev.step i k s).1 ∧ Sets bv hi w w' := by
  have hbm := hM.bm
  have hmh := hM.mh
  have hle := hM.le
  have sB : w.heap.size < (w.alloc (.cells #[.int .i64 i.op, .int .i64 i.d, .int .i64 i.a, .int .i64 i.b, .int .i64 i.c, .int .i64 i.imm] 39)).heap.size := by simp
  have BB := Lib.hid (show Below w.heap.size w (w.alloc (.cells #[.int .i64 i.op, .int .i64 i.d, .int .i64 i.a, .int .i64 i.b, .int .i64 i.c, .int .i64 i.imm] 39)) by (repeat' first | with_reducible (first | exact Below.refl _ _ | assumption | refine Below.alloc ?_ ?_ _ | refine below_drewN ?_ _ | refine Below.drew ?_ | refine Below.setCell ?_ ?_ _ | refine Below.trans ?_ (Below.mono (by with_reducible assumption) ?_)) | go_size))
  have n0 : (w.alloc (.cells #[.int .i64 i.op, .int .i64 i.d, .int .i64 i.a, .int .i64 i.b, .int .i64 i.c, .int .i64 i.imm] 39)).cell? ⟨w.heap.size, 0, none⟩ = some (.int .i64 i.op) := by go_simp
  have n1 : (w.alloc (.cells #[.int .i64 i.op, .int .i64 i.d, .int .i64 i.a, .int .i64 i.b, .int .i64 i.c, .int .i64 i.imm] 39)).cell? ⟨w.heap.size, 1, none⟩ = some (.int .i64 i.d) := by go_simp
  have n2 : (w.alloc (.cells #[.int .i64 i.op, .int .i64 i.d, .int .i64 i.a, .int .i64 i.b, .int .i64 i.c, .int .i64 i.imm] 39)).cell? ⟨w.heap.size, 2, none⟩ = some (.int .i64 i.a) := by go_simp
  have n3 : (w.alloc (.cells #[.int .i64 i.op, .int .i64 i.d, .int .i64 i.a, .int .i64 i.b, .int .i64 i.c, .int .i64 i.imm] 39)).cell? ⟨w.heap.size, 3, none⟩ = some (.int .i64 i.b) := by go_simp
  have n4 : (w.alloc (.cells #[.int .i64 i.op, .int .i64 i.d, .int .i64 i.a, .int .i64 i.b, .int .i64 i.c, .int .i64 i.imm] 39)).cell? ⟨w.heap.size, 4, none⟩ = some (.int .i64 i.c) := by go_simp
  have n5 : (w.alloc (.cells #[.int .i64 i.op, .int .i64 i.d, .int .i64 i.a, .int .i64 i.b, .int .i64 i.c, .int .i64 i.imm] 39)).cell? ⟨w.heap.size, 5, none⟩ = some (.int .i64 i.imm) := by go_simp
  obtain ⟨wB, hwB⟩ : ∃ wB, w.alloc (.cells #[.int .i64 i.op, .int .i64 i.d, .int .i64 i.a, .int .i64 i.b, .int .i64 i.c, .int .i64 i.imm] 39) = wB := ⟨_, rfl⟩
  have HM := Lib.hid (hM.stays BB.out)
  have HWB := Lib.hid hwB
  rw [hwB] at sB BB n0 n1 n2 n3 n4 n5 HM
  clear hM hwB
  have m0 := HM.out.m0
  have m1 := HM.out.m1
  have m2 := HM.out.m2
  have lm := HM.out.loose
  have cd := HM.out.cell hd
  have fd := HM.out.vloose i.d.toNat
  have hd0 := hd.1
  have hd1 := hd.2
  clear hd
  have ca := HM.out.cell ha
  have ha0 := ha.1
  have ha1 := ha.2
  clear ha
  have HSP := Lib.hid (@Ev.step_load i k s h)
  obtain ⟨a, ha'⟩ : ∃ a, s.arrs[i.b.toNat]? = some a := ⟨_, List.getElem?_eq_getElem (by omega)⟩
  obtain ⟨bo, co, A, ca', e1, e2, e3, e4, e5, e6, e7, e8, e9, e10, e11⟩ := Arrs.at_ HM.out.arrs ha'
  subst e1
  have hne2 : bo ≠ bv := by omega
  have E11 := Lib.hid e11
  have E8 := Lib.hid e8
  have HA' := Lib.hid ha'
  clear e8 e11 ha'
  rw [List.getD_eq_getElem?_getD, HA'.out] at hn
  simp only [Option.getD_some] at hn
  have hA : Ev.arrAt s.arrs i.b (Ev.val s.v i.a) = if Ev.val s.v i.a < a.length then Ev.val a (Ev.val s.v i.a) else 0 := by
    unfold Ev.arrAt
    rw [List.getD_eq_getElem?_getD, HA'.out]
    rfl
  rw [if_neg hn] at hA
  have HA := Lib.hid hA
  clear hA
  generalize Ev.val s.v i.a = n at *
  have HOP := Lib.hid h
  clear h
  go_enter Try.func58, Try.ntmps58
  go_upto_region 1 with fail
  rw [HWB.out]
  have h := HOP.out
  go_wp2_with fail
  go_quiet (fail)
  generalize nq = nA at *
  go_wp2_with fail
  refine wp_region_store (fun w' => w' = (wB.drewN nA).drew) (fun w' => w' = (wB.drewN nA).drew.setCell ⟨bv, i.d.toNat, none⟩ (.int .i64 0)) 7 [] (by kernel_rfl) (by kernel_rfl) (by kernel_rfl) (by kernel_rfl) rfl ?_
  apply chainS_mid (by rfl)
  case h => (rintro w9 rfl; go_wp2_with fail; (try (fail; go_wp2_with fail)); refine settled_intro (S := fun w' => w' = (wB.drewN nA).drew) ?_; rfl)
  case h1 => (intro hk; exact absurd hk (by decide))
  case hp => first | rfl | (simp only [*]; done) | (simp only [*]; rfl)
  apply chainS_mid (by rfl)
  case h => (rintro w9 rfl; go_wp2_with fail; (try (fail; go_wp2_with fail)); refine settled_intro (S := fun w' => w' = (wB.drewN nA).drew) ?_; rfl)
  case h1 => (intro hk; exact absurd hk (by decide))
  case hp => first | rfl | (simp only [*]; done) | (simp only [*]; rfl)
  apply chainS_mid (by rfl)
  case h => (rintro w9 rfl; go_wp2_with fail; (try (fail; go_wp2_with fail)); refine settled_intro (S := fun w' => w' = (wB.drewN nA).drew) ?_; rfl)
  case h1 => (intro hk; exact absurd hk (by decide))
  case hp => first | rfl | (simp only [*]; done) | (simp only [*]; rfl)
  apply chainS_mid (by rfl)
  case h => (rintro w9 rfl; go_wp2_with fail; (try (fail; go_wp2_with fail)); refine settled_intro (S := fun w' => w' = (wB.drewN nA).drew) ?_; rfl)
  case h1 => (intro hk; exact absurd hk (by decide))
  case hp => first | rfl | (simp only [*]; done) | (simp only [*]; rfl)
  apply chainS_mid (by rfl)
  case h => (rintro w9 rfl; go_wp2_with fail; (try (fail; go_wp2_with fail)); refine settled_intro (S := fun w' => w' = (wB.drewN nA).drew) ?_; rfl)
  case h1 => (intro hk; exact absurd hk (by decide))
  case hp => first | rfl | (simp only [*]; done) | (simp only [*]; rfl)
  apply chainS_mid (by rfl)
  case h => (rintro w9 rfl; go_wp2_with fail; (try (fail; go_wp2_with fail)); refine settled_intro (S := fun w' => w' = (wB.drewN nA).drew) ?_; rfl)
  case h1 => (intro hk; exact absurd hk (by decide))
  case hp => first | rfl | (simp only [*]; done) | (simp only [*]; rfl)
  apply chainS_mid (by rfl)
  case h => (rintro w9 rfl; go_wp2_with fail; (try (fail; go_wp2_with fail)); refine settled_intro (S := fun w' => w' = (wB.drewN nA).drew) ?_; rfl)
  case h1 => (intro hk; exact absurd hk (by decide))
  case hp => first | rfl | (simp only [*]; done) | (simp only [*]; rfl)
  apply chainS_store (by rfl)
  case h => (rintro w9 rfl; go_wp2_with fail; refine settled_intro (S := fun w' => w' = (wB.drewN nA).drew.setCell ⟨bv, i.d.toNat, none⟩ (.int .i64 0)) ?_; rfl)
  case hp => first | rfl | (simp only [*]; done) | (simp only [*]; rfl)
  refine chainS.nil ?_
  rintro _ rfl
  (try dsimp only)
  go_wp2_with fail
  go_quiet (fail)
  go_wp2_with fail
  go_ret
  refine ⟨by push_cast; rfl, ?_, ?_⟩
  · have HSe := HSP.out
    rw [HA.out] at HSe
    rw [HSe]
    exact ((HM.out.stays (below_drewN (Below.refl _ _) _)).setV _ _).stays (below_drewN (Below.refl _ _) _)
  · exact (Sets.set ((Sets.here.more BB.out).drewN _) (Nat.le_refl _) (by omega)).drewN _
set_option maxRecDepth 20000 in
set_option maxHeartbeats 3200000 in
theorem do_store_in (i : Ev.Instr) (k : Nat) (s : Ev.St) (bv mb : Nat) (va : Value) (vs : List Value) (hi : Nat) (w : World) (hM : MAt w bv mb va vs hi s) (hk : k ≤ 1099511627776) (h : i.op = 17) (ha : inR s.v.length i.a) (hd : inR s.v.length i.d) (hb0 : 0 ≤ i.b) (hb1 : i.b < (s.arrs.length : Int)) (hv : 0 ≤ Ev.val s.v i.a) (hn : Ev.val s.v i.a < (s.arrs.getD i.b.toNat []).length) :
    Calls Try.prog 58 #[.pointer (some ⟨mb, 0, none⟩), .agg #[.int .i64 i.op, .int .i64 i.d, .int .i64 i.a, .int .i64 i.b, .int .i64 i.c, .int .i64 i.imm], .int .i64 (k : Int)] w fun e w' => e = .returned (.int .i64 ((k : Int) + 1)) ∧ MAt w' bv mb va vs hi (Ev.step i k s).1 ∧ Sets bv hi w w' := by
  have hbm := hM.bm
  have hmh := hM.mh
  have hle := hM.le
  have sB : w.heap.size < (w.alloc (.cells #[.int .i64 i.op, .int .i64 i.d, .int .i64 i.a, .int .i64 i.b, .int .i64 i.c, .int .i64 i.imm] 39)).heap.size := by simp
  have BB := Lib.hid (show Below w.heap.size w (w.alloc (.cells #[.int .i64 i.op, .int .i64 i.d, .int .i64 i.a, .int .i64 i.b, .int .i64 i.c, .int .i64 i.imm] 39)) by (repeat' first | with_reducible (first | exact Below.refl _ _ | assumption | refine Below.alloc ?_ ?_ _ | refine below_drewN ?_ _ | refine Below.drew ?_ | refine Below.setCell ?_ ?_ _ | refine Below.trans ?_ (Below.mono (by with_reducible assumption) ?_)) | go_size))
  have n0 : (w.alloc (.cells #[.int .i64 i.op, .int .i64 i.d, .int .i64 i.a, .int .i64 i.b, .int .i64 i.c, .int .i64 i.imm] 39)).cell? ⟨w.heap.size, 0, none⟩ = some (.int .i64 i.op) := by go_simp
  have n1 : (w.alloc (.cells #[.int .i64 i.op, .int .i64 i.d, .int .i64 i.a, .int .i64 i.b, .int .i64 i.c, .int .i64 i.imm] 39)).cell? ⟨w.heap.size, 1, none⟩ = some (.int .i64 i.d) := by go_simp
  have n2 : (w.alloc (.cells #[.int .i64 i.op, .int .i64 i.d, .int .i64 i.a, .int .i64 i.b, .int .i64 i.c, .int .i64 i.imm] 39)).cell? ⟨w.heap.size, 2, none⟩ = some (.int .i64 i.a) := by go_simp
  have n3 : (w.alloc (.cells #[.int .i64 i.op, .int .i64 i.d, .int .i64 i.a, .int .i64 i.b, .int .i64 i.c, .int .i64 i.imm] 39)).cell? ⟨w.heap.size, 3, none⟩ = some (.int .i64 i.b) := by go_simp
  have n4 : (w.alloc (.cells #[.int .i64 i.op, .int .i64 i.d, .int .i64 i.a, .int .i64 i.b, .int .i64 i.c, .int .i64 i.imm] 39)).cell? ⟨w.heap.size, 4, none⟩ = some (.int .i64 i.c) := by go_simp
  have n5 : (w.alloc (.cells #[.int .i64 i.op, .int .i64 i.d, .int .i64 i.a, .int .i64 i.b, .int .i64 i.c, .int .i64 i.imm] 39)).cell? ⟨w.heap.size, 5, none⟩ = some (.int .i64 i.imm) := by go_simp
  obtain ⟨wB, hwB⟩ : ∃ wB, w.alloc (.cells #[.int .i64 i.op, .int .i64 i.d, .int .i64 i.a, .int .i64 i.b, .int .i64 i.c, .int .i64 i.imm] 39) = wB := ⟨_, rfl⟩
  have HM := Lib.hid (hM.stays BB.out)
  have HWB := Lib.hid hwB
  rw [hwB] at sB BB n0 n1 n2 n3 n4 n5 HM
  clear hM hwB
  have m0 := HM.out.m0
  have m1 := HM.out.m1
  have m2 := HM.out.m2
  have lm := HM.out.loose
  have ca := HM.out.cell ha
  have ha0 := ha.1
  have ha1 := ha.2
  clear ha
  have cd := HM.out.cell hd
  have hd0 := hd.1
  have hd1 := hd.2
  clear hd
  obtain ⟨a, ha'⟩ : ∃ a, s.arrs[i.b.toNat]? = some a := ⟨_, List.getElem?_eq_getElem (by omega)⟩
  obtain ⟨bo, co, A, ca', e1, e2, e3, e4, e5, e6, e7, e8, e9, e10, e11⟩ := Arrs.at_ HM.out.arrs ha'
  subst e1
  have hne2 : bo ≠ bv := by omega
  have E11 := Lib.hid e11
  have E8 := Lib.hid e8
  have HA' := Lib.hid ha'
  clear e8 e11 ha'
  rw [List.getD_eq_getElem?_getD, HA'.out] at hn
  simp only [Option.getD_some] at hn
  have HSP := Lib.hid (@Ev.step_store_in i k s h a HA'.out hn)
  obtain ⟨g', rfl, f1, f2, f3, f4⟩ := E11.out (by omega)
  have f5 : wB.cell? ⟨g', (Ev.val s.v i.a).toNat, none⟩ = some (.int .i64 (Ev.val a (Ev.val s.v i.a))) := f4 _ _ (by
    have hnn : (Ev.val s.v i.a).toNat < a.length := by omega
    generalize Ev.val s.v i.a = n at hnn
    unfold Ev.val
    rw [List.getD_eq_getElem?_getD, List.getElem?_eq_getElem hnn]
    rfl)
  have f6 := f3 (Ev.val s.v i.a).toNat
  have hne3 : g' ≠ bv := by omega
  clear f3 f4
  have hg3 := HM.out.his _ _ g' E8.out rfl
  generalize Ev.val a (Ev.val s.v i.a) = y at *
  generalize Ev.val s.v i.d = x at *
  generalize Ev.val s.v i.a = n at *
  have HOP := Lib.hid h
  clear h
  go_enter Try.func58, Try.ntmps58
  go_upto_region 1 with fail
  rw [HWB.out]
  have h := HOP.out
  go_wp2_with fail
  go_quiet (fail)
  generalize nq = nA at *
  go_wp2_with fail
  go_quiet (fail)
  go_wp2_with fail
  rw [World.drewN_drewN]
  refine wp_region_store (fun w' => w' = (wB.drewN (nA + nq)).drew) (fun w' => w' = (wB.drewN (nA + nq)).drew.setCell ⟨g', n.toNat, none⟩ (.int .i64 x)) 18 [] (by kernel_rfl) (by kernel_rfl) (by kernel_rfl) (by kernel_rfl) rfl ?_
  apply chainS_mid (by rfl)
  case h => (rintro w9 rfl; go_wp2_with fail; (try (fail; go_wp2_with fail)); refine settled_intro (S := fun w' => w' = (wB.drewN (nA + nq)).drew) ?_; rfl)
  case h1 => (intro hk; exact absurd hk (by decide))
  case hp => first | rfl | (simp only [*]; done) | (simp only [*]; rfl)
  apply chainS_mid (by rfl)
  case h => (rintro w9 rfl; go_wp2_with fail; (try (fail; go_wp2_with fail)); refine settled_intro (S := fun w' => w' = (wB.drewN (nA + nq)).drew) ?_; rfl)
  case h1 => (intro hk; exact absurd hk (by decide))
  case hp => first | rfl | (simp only [*]; done) | (simp only [*]; rfl)
  apply chainS_mid (by rfl)
  case h => (rintro w9 rfl; go_wp2_with fail; (try (fail; go_wp2_with fail)); refine settled_intro (S := fun w' => w' = (wB.drewN (nA + nq)).drew) ?_; rfl)
  case h1 => (intro hk; exact absurd hk (by decide))
  case hp => first | rfl | (simp only [*]; done) | (simp only [*]; rfl)
  apply chainS_mid (by rfl)
  case h => (rintro w9 rfl; go_wp2_with fail; (try (fail; go_wp2_with fail)); refine settled_intro (S := fun w' => w' = (wB.drewN (nA + nq)).drew) ?_; rfl)
  case h1 => (intro hk; exact absurd hk (by decide))
  case hp => first | rfl | (simp only [*]; done) | (simp only [*]; rfl)
  apply chainS_mid (by rfl)
  case h => (rintro w9 rfl; go_wp2_with fail; (try (fail; go_wp2_with fail)); refine settled_intro (S := fun w' => w' = (wB.drewN (nA + nq)).drew) ?_; rfl)
  case h1 => (intro hk; exact absurd hk (by decide))
  case hp => first | rfl | (simp only [*]; done) | (simp only [*]; rfl)
  apply chainS_mid (by rfl)
  case h => (rintro w9 rfl; go_wp2_with fail; (try (fail; go_wp2_with fail)); refine settled_intro (S := fun w' => w' = (wB.drewN (nA + nq)).drew) ?_; rfl)
  case h1 => (intro hk; exact absurd hk (by decide))
  case hp => first | rfl | (simp only [*]; done) | (simp only [*]; rfl)
  apply chainS_mid (by rfl)
  case h => (rintro w9 rfl; go_wp2_with fail; (try (fail; go_wp2_with fail)); refine settled_intro (S := fun w' => w' = (wB.drewN (nA + nq)).drew) ?_; rfl)
  case h1 => (intro hk; exact absurd hk (by decide))
  case hp => first | rfl | (simp only [*]; done) | (simp only [*]; rfl)
  apply chainS_mid (by rfl)
  case h => (rintro w9 rfl; go_wp2_with fail; (try (fail; go_wp2_with fail)); refine settled_intro (S := fun w' => w' = (wB.drewN (nA + nq)).drew) ?_; rfl)
  case h1 => (intro hk; exact absurd hk (by decide))
  case hp => first | rfl | (simp only [*]; done) | (simp only [*]; rfl)
  apply chainS_mid (by rfl)
  case h => (rintro w9 rfl; go_wp2_with fail; (try (fail; go_wp2_with fail)); refine settled_intro (S := fun w' => w' = (wB.drewN (nA + nq)).drew) ?_; rfl)
  case h1 => (intro hk; exact absurd hk (by decide))
  case hp => first | rfl | (simp only [*]; done) | (simp only [*]; rfl)
  apply chainS_mid (by rfl)
  case h => (rintro w9 rfl; go_wp2_with fail; (try (fail; go_wp2_with fail)); refine settled_intro (S := fun w' => w' = (wB.drewN (nA + nq)).drew) ?_; rfl)
  case h1 => (intro hk; exact absurd hk (by decide))
  case hp => first | rfl | (simp only [*]; done) | (simp only [*]; rfl)
  apply chainS_mid (by rfl)
  case h => (rintro w9 rfl; go_wp2_with fail; (try (fail; go_wp2_with fail)); refine settled_intro (S := fun w' => w' = (wB.drewN (nA + nq)).drew) ?_; rfl)
  case h1 => (intro hk; exact absurd hk (by decide))
  case hp => first | rfl | (simp only [*]; done) | (simp only [*]; rfl)
  apply chainS_mid (by rfl)
  case h => (rintro w9 rfl; go_wp2_with fail; (try (fail; go_wp2_with fail)); refine settled_intro (S := fun w' => w' = (wB.drewN (nA + nq)).drew) ?_; rfl)
  case h1 => (intro hk; exact absurd hk (by decide))
  case hp => first | rfl | (simp only [*]; done) | (simp only [*]; rfl)
  apply chainS_mid (by rfl)
  case h => (rintro w9 rfl; go_wp2_with fail; (try (fail; go_wp2_with fail)); refine settled_intro (S := fun w' => w' = (wB.drewN (nA + nq)).drew) ?_; rfl)
  case h1 => (intro hk; exact absurd hk (by decide))
  case hp => first | rfl | (simp only [*]; done) | (simp only [*]; rfl)
  apply chainS_mid (by rfl)
  case h => (rintro w9 rfl; go_wp2_with fail; (try (fail; go_wp2_with fail)); refine settled_intro (S := fun w' => w' = (wB.drewN (nA + nq)).drew) ?_; rfl)
  case h1 => (intro hk; exact absurd hk (by decide))
  case hp => first | rfl | (simp only [*]; done) | (simp only [*]; rfl)
  apply chainS_mid (by rfl)
  case h => (rintro w9 rfl; go_wp2_with fail; (try (fail; go_wp2_with fail)); refine settled_intro (S := fun w' => w' = (wB.drewN (nA + nq)).drew) ?_; rfl)
  case h1 => (intro hk; exact absurd hk (by decide))
  case hp => first | rfl | (simp only [*]; done) | (simp only [*]; rfl)
  apply chainS_mid (by rfl)
  case h => (rintro w9 rfl; go_wp2_with fail; (try (fail; go_wp2_with fail)); refine settled_intro (S := fun w' => w' = (wB.drewN (nA + nq)).drew) ?_; rfl)
  case h1 => (intro hk; exact absurd hk (by decide))
  case hp => first | rfl | (simp only [*]; done) | (simp only [*]; rfl)
  apply chainS_mid (by rfl)
  case h => (rintro w9 rfl; go_wp2_with fail; (try (fail; go_wp2_with fail)); refine settled_intro (S := fun w' => w' = (wB.drewN (nA + nq)).drew) ?_; rfl)
  case h1 => (intro hk; exact absurd hk (by decide))
  case hp => first | rfl | (simp only [*]; done) | (simp only [*]; rfl)
  apply chainS_mid (by rfl)
  case h => (rintro w9 rfl; go_wp2_with fail; (try (fail; go_wp2_with fail)); refine settled_intro (S := fun w' => w' = (wB.drewN (nA + nq)).drew) ?_; rfl)
  case h1 => (intro hk; exact absurd hk (by decide))
  case hp => first | rfl | (simp only [*]; done) | (simp only [*]; rfl)
  apply chainS_store (by rfl)
  case h => (rintro w9 rfl; go_wp2_with fail; refine settled_intro (S := fun w' => w' = (wB.drewN (nA + nq)).drew.setCell ⟨g', n.toNat, none⟩ (.int .i64 x)) ?_; rfl)
  case hp => first | rfl | (simp only [*]; done) | (simp only [*]; rfl)
  refine chainS.nil ?_
  rintro _ rfl
  (try dsimp only)
  go_wp2
  go_ret
  refine ⟨by push_cast; rfl, ?_, ?_⟩
  · rw [HSP.out]
    exact (HM.out.stays (below_drewN (Below.refl _ _) _)).setA HA'.out E8.out _ _
  · exact .set ((Sets.here.more BB.out).drewN _) (by omega) hg3
set_option maxRecDepth 20000 in
set_option maxHeartbeats 3200000 in
theorem do_store_out (i : Ev.Instr) (k : Nat) (s : Ev.St) (bv mb : Nat) (va : Value) (vs : List Value) (hi : Nat) (w : World) (hM : MAt w bv mb va vs hi s) (hk : k ≤ 1099511627776) (h : i.op = 17) (ha : inR s.v.length i.a) (hd : inR s.v.length i.d) (hb0 : 0 ≤ i.b) (hb1 : i.b < (s.arrs.length : Int)) (hv : 0 ≤ Ev.val s.v i.a) (hn : ¬ Ev.val s.v i.a < (s.arrs.getD i.b.toNat []).length) :
    Calls Try.prog 58 #[.pointer (some ⟨mb, 0, none⟩), .agg #[.int .i64 i.op, .int .i64 i.d, .int .i64 i.a, .int .i64 i.b, .int .i64 i.c, .int .i64 i.imm], .int .i64 (k : Int)] w fun e w' => e = .returned (.int .i64 ((k : Int) + 1)) ∧ MAt w' bv mb va vs hi (Ev.step i k s).1 ∧ Sets bv hi w w' := by
  have hbm := hM.bm
  have hmh := hM.mh
  have hle := hM.le
  have sB : w.heap.size < (w.alloc (.cells #[.int .i64 i.op, .int .i64 i.d, .int .i64 i.a, .int .i64 i.b, .int .i64 i.c, .int .i64 i.imm] 39)).heap.size := by simp
  have BB := Lib.hid (show Below w.heap.size w (w.alloc (.cells #[.int .i64 i.op, .int .i64 i.d, .int .i64 i.a, .int .i64 i.b, .int .i64 i.c, .int .i64 i.imm] 39)) by (repeat' first | with_reducible (first | exact Below.refl _ _ | assumption | refine Below.alloc ?_ ?_ _ | refine below_drewN ?_ _ | refine Below.drew ?_ | refine Below.setCell ?_ ?_ _ | refine Below.trans ?_ (Below.mono (by with_reducible assumption) ?_)) | go_size))
  have n0 : (w.alloc (.cells #[.int .i64 i.op, .int .i64 i.d, .int .i64 i.a, .int .i64 i.b, .int .i64 i.c, .int .i64 i.imm] 39)).cell? ⟨w.heap.size, 0, none⟩ = some (.int .i64 i.op) := by go_simp
  have n1 : (w.alloc (.cells #[.int .i64 i.op, .int .i64 i.d, .int .i64 i.a, .int .i64 i.b, .int .i64 i.c, .int .i64 i.imm] 39)).cell? ⟨w.heap.size, 1, none⟩ = some (.int .i64 i.d) := by go_simp
  have n2 : (w.alloc (.cells #[.int .i64 i.op, .int .i64 i.d, .int .i64 i.a, .int .i64 i.b, .int .i64 i.c, .int .i64 i.imm] 39)).cell? ⟨w.heap.size, 2, none⟩ = some (.int .i64 i.a) := by go_simp
  have n3 : (w.alloc (.cells #[.int .i64 i.op, .int .i64 i.d, .int .i64 i.a, .int .i64 i.b, .int .i64 i.c, .int .i64 i.imm] 39)).cell? ⟨w.heap.size, 3, none⟩ = some (.int .i64 i.b) := by go_simp
  have n4 : (w.alloc (.cells #[.int .i64 i.op, .int .i64 i.d, .int .i64 i.a, .int .i64 i.b, .int .i64 i.c, .int .i64 i.imm] 39)).cell? ⟨w.heap.size, 4, none⟩ = some (.int .i64 i.c) := by go_simp
  have n5 : (w.alloc (.cells #[.int .i64 i.op, .int .i64 i.d, .int .i64 i.a, .int .i64 i.b, .int .i64 i.c, .int .i64 i.imm] 39)).cell? ⟨w.heap.size, 5, none⟩ = some (.int .i64 i.imm) := by go_simp
  obtain ⟨wB, hwB⟩ : ∃ wB, w.alloc (.cells #[.int .i64 i.op, .int .i64 i.d, .int .i64 i.a, .int .i64 i.b, .int .i64 i.c, .int .i64 i.imm] 39) = wB := ⟨_, rfl⟩
  have HM := Lib.hid (hM.stays BB.out)
  have HWB := Lib.hid hwB
  rw [hwB] at sB BB n0 n1 n2 n3 n4 n5 HM
  clear hM hwB
  have m0 := HM.out.m0
  have m1 := HM.out.m1
  have m2 := HM.out.m2
  have lm := HM.out.loose
  have ca := HM.out.cell ha
  have ha0 := ha.1
  have ha1 := ha.2
  clear ha
  have cd := HM.out.cell hd
  have hd0 := hd.1
  have hd1 := hd.2
  clear hd
  obtain ⟨a, ha'⟩ : ∃ a, s.arrs[i.b.toNat]? = some a := ⟨_, List.getElem?_eq_getElem (by omega)⟩
  obtain ⟨bo, co, A, ca', e1, e2, e3, e4, e5, e6, e7, e8, e9, e10, e11⟩ := Arrs.at_ HM.out.arrs ha'
  subst e1
  have hne2 : bo ≠ bv := by omega
  have E11 := Lib.hid e11
  have E8 := Lib.hid e8
  have HA' := Lib.hid ha'
  clear e8 e11 ha'
  rw [List.getD_eq_getElem?_getD, HA'.out] at hn
  simp only [Option.getD_some] at hn
  have HSP := Lib.hid (@Ev.step_store_out i k s h a HA'.out hn)
  generalize Ev.val s.v i.a = n at *
  have HOP := Lib.hid h
  clear h
  go_enter Try.func58, Try.ntmps58
  go_upto_region 1 with fail
  rw [HWB.out]
  have h := HOP.out
  go_wp2_with fail
  go_quiet (fail)
  generalize nq = nA at *
  go_wp2_with fail
  go_quiet (fail)
  go_wp2_with fail
  go_ret
  refine ⟨by push_cast; rfl, ?_, ?_⟩
  · rw [HSP.out]
    exact HM.out.stays (below_drewN (Below.refl _ _) _)
  · exact (Sets.here.more BB.out).drewN _
set_option maxRecDepth 20000 in
set_option maxHeartbeats 3200000 in
theorem do_jump (i : Ev.Instr) (k : Nat) (s : Ev.St) (bv mb : Nat) (va : Value) (vs : List Value) (hi : Nat) (w : World) (hM : MAt w bv mb va vs hi s) (hk : k ≤ 1099511627776) (h : i.op = 18) (hj : 0 ≤ i.imm) :
    Calls Try.prog 58 #[.pointer (some ⟨mb, 0, none⟩), .agg #[.int .i64 i.op, .int .i64 i.d, .int .i64 i.a, .int .i64 i.b, .int .i64 i.c, .int .i64 i.imm], .int .i64 (k : Int)] w fun e w' => e = .returned (.int .i64 i.imm) ∧ MAt w' bv mb va vs hi (Ev.step i k s).1 ∧ Sets bv hi w w' := by
  have hbm := hM.bm
  have hmh := hM.mh
  have hle := hM.le
  have sB : w.heap.size < (w.alloc (.cells #[.int .i64 i.op, .int .i64 i.d, .int .i64 i.a, .int .i64 i.b, .int .i64 i.c, .int .i64 i.imm] 39)).heap.size := by simp
  have BB := Lib.hid (show Below w.heap.size w (w.alloc (.cells #[.int .i64 i.op, .int .i64 i.d, .int .i64 i.a, .int .i64 i.b, .int .i64 i.c, .int .i64 i.imm] 39)) by (repeat' first | with_reducible (first | exact Below.refl _ _ | assumption | refine Below.alloc ?_ ?_ _ | refine below_drewN ?_ _ | refine Below.drew ?_ | refine Below.setCell ?_ ?_ _ | refine Below.trans ?_ (Below.mono (by with_reducible assumption) ?_)) | go_size))
  have n0 : (w.alloc (.cells #[.int .i64 i.op, .int .i64 i.d, .int .i64 i.a, .int .i64 i.b, .int .i64 i.c, .int .i64 i.imm] 39)).cell? ⟨w.heap.size, 0, none⟩ = some (.int .i64 i.op) := by go_simp
  have n1 : (w.alloc (.cells #[.int .i64 i.op, .int .i64 i.d, .int .i64 i.a, .int .i64 i.b, .int .i64 i.c, .int .i64 i.imm] 39)).cell? ⟨w.heap.size, 1, none⟩ = some (.int .i64 i.d) := by go_simp
  have n2 : (w.alloc (.cells #[.int .i64 i.op, .int .i64 i.d, .int .i64 i.a, .int .i64 i.b, .int .i64 i.c, .int .i64 i.imm] 39)).cell? ⟨w.heap.size, 2, none⟩ = some (.int .i64 i.a) := by go_simp
  have n3 : (w.alloc (.cells #[.int .i64 i.op, .int .i64 i.d, .int .i64 i.a, .int .i64 i.b, .int .i64 i.c, .int .i64 i.imm] 39)).cell? ⟨w.heap.size, 3, none⟩ = some (.int .i64 i.b) := by go_simp
  have n4 : (w.alloc (.cells #[.int .i64 i.op, .int .i64 i.d, .int .i64 i.a, .int .i64 i.b, .int .i64 i.c, .int .i64 i.imm] 39)).cell? ⟨w.heap.size, 4, none⟩ = some (.int .i64 i.c) := by go_simp
  have n5 : (w.alloc (.cells #[.int .i64 i.op, .int .i64 i.d, .int .i64 i.a, .int .i64 i.b, .int .i64 i.c, .int .i64 i.imm] 39)).cell? ⟨w.heap.size, 5, none⟩ = some (.int .i64 i.imm) := by go_simp
  obtain ⟨wB, hwB⟩ : ∃ wB, w.alloc (.cells #[.int .i64 i.op, .int .i64 i.d, .int .i64 i.a, .int .i64 i.b, .int .i64 i.c, .int .i64 i.imm] 39) = wB := ⟨_, rfl⟩
  have HM := Lib.hid (hM.stays BB.out)
  have HWB := Lib.hid hwB
  rw [hwB] at sB BB n0 n1 n2 n3 n4 n5 HM
  clear hM hwB
  have m0 := HM.out.m0
  have m1 := HM.out.m1
  have m2 := HM.out.m2
  have lm := HM.out.loose
  have HSP := Lib.hid (@Ev.step_jump i k s h)
  have HOP := Lib.hid h
  clear h
  go_enter Try.func58, Try.ntmps58
  go_upto_region 1 with fail
  rw [HWB.out]
  have h := HOP.out
  go_wp2
  go_ret
  refine ⟨rfl, ?_, ?_⟩
  · rw [HSP.out]
    exact HM.out
  · exact Sets.here.more BB.out
set_option maxRecDepth 20000 in
set_option maxHeartbeats 3200000 in
theorem do_zero_yes (i : Ev.Instr) (k : Nat) (s : Ev.St) (bv mb : Nat) (va : Value) (vs : List Value) (hi : Nat) (w : World) (hM : MAt w bv mb va vs hi s) (hk : k ≤ 1099511627776) (h : i.op = 19) (ha : inR s.v.length i.a) (hj : 0 ≤ i.imm) (h0 : Ev.val s.v i.a = 0) :
    Calls Try.prog 58 #[.pointer (some ⟨mb, 0, none⟩), .agg #[.int .i64 i.op, .int .i64 i.d, .int .i64 i.a, .int .i64 i.b, .int .i64 i.c, .int .i64 i.imm], .int .i64 (k : Int)] w fun e w' => e = .returned (.int .i64 i.imm) ∧ MAt w' bv mb va vs hi (Ev.step i k s).1 ∧ Sets bv hi w w' := by
  have hbm := hM.bm
  have hmh := hM.mh
  have hle := hM.le
  have sB : w.heap.size < (w.alloc (.cells #[.int .i64 i.op, .int .i64 i.d, .int .i64 i.a, .int .i64 i.b, .int .i64 i.c, .int .i64 i.imm] 39)).heap.size := by simp
  have BB := Lib.hid (show Below w.heap.size w (w.alloc (.cells #[.int .i64 i.op, .int .i64 i.d, .int .i64 i.a, .int .i64 i.b, .int .i64 i.c, .int .i64 i.imm] 39)) by (repeat' first | with_reducible (first | exact Below.refl _ _ | assumption | refine Below.alloc ?_ ?_ _ | refine below_drewN ?_ _ | refine Below.drew ?_ | refine Below.setCell ?_ ?_ _ | refine Below.trans ?_ (Below.mono (by with_reducible assumption) ?_)) | go_size))
  have n0 : (w.alloc (.cells #[.int .i64 i.op, .int .i64 i.d, .int .i64 i.a, .int .i64 i.b, .int .i64 i.c, .int .i64 i.imm] 39)).cell? ⟨w.heap.size, 0, none⟩ = some (.int .i64 i.op) := by go_simp
  have n1 : (w.alloc (.cells #[.int .i64 i.op, .int .i64 i.d, .int .i64 i.a, .int .i64 i.b, .int .i64 i.c, .int .i64 i.imm] 39)).cell? ⟨w.heap.size, 1, none⟩ = some (.int .i64 i.d) := by go_simp
  have n2 : (w.alloc (.cells #[.int .i64 i.op, .int .i64 i.d, .int .i64 i.a, .int .i64 i.b, .int .i64 i.c, .int .i64 i.imm] 39)).cell? ⟨w.heap.size, 2, none⟩ = some (.int .i64 i.a) := by go_simp
  have n3 : (w.alloc (.cells #[.int .i64 i.op, .int .i64 i.d, .int .i64 i.a, .int .i64 i.b, .int .i64 i.c, .int .i64 i.imm] 39)).cell? ⟨w.heap.size, 3, none⟩ = some (.int .i64 i.b) := by go_simp
  have n4 : (w.alloc (.cells #[.int .i64 i.op, .int .i64 i.d, .int .i64 i.a, .int .i64 i.b, .int .i64 i.c, .int .i64 i.imm] 39)).cell? ⟨w.heap.size, 4, none⟩ = some (.int .i64 i.c) := by go_simp
  have n5 : (w.alloc (.cells #[.int .i64 i.op, .int .i64 i.d, .int .i64 i.a, .int .i64 i.b, .int .i64 i.c, .int .i64 i.imm] 39)).cell? ⟨w.heap.size, 5, none⟩ = some (.int .i64 i.imm) := by go_simp
  obtain ⟨wB, hwB⟩ : ∃ wB, w.alloc (.cells #[.int .i64 i.op, .int .i64 i.d, .int .i64 i.a, .int .i64 i.b, .int .i64 i.c, .int .i64 i.imm] 39) = wB := ⟨_, rfl⟩
  have HM := Lib.hid (hM.stays BB.out)
  have HWB := Lib.hid hwB
  rw [hwB] at sB BB n0 n1 n2 n3 n4 n5 HM
  clear hM hwB
  have m0 := HM.out.m0
  have m1 := HM.out.m1
  have m2 := HM.out.m2
  have lm := HM.out.loose
  have ca := HM.out.cell ha
  have ha0 := ha.1
  have ha1 := ha.2
  clear ha
  have HSP := Lib.hid (@Ev.step_zero_yes i k s h h0)
  rw [h0] at ca
  clear h0
  have g19 : (i.op == 19) = true := by simpa using h
  have HOP := Lib.hid h
  clear h
  go_enter Try.func58, Try.ntmps58
  go_upto_region 1 with fail
  rw [HWB.out]
  have h := HOP.out
  go_wp2_with fail
  go_quiet (fail)
  go_wp2
  go_ret
  refine ⟨rfl, ?_, ?_⟩
  · rw [HSP.out]
    exact HM.out.stays (below_drewN (Below.refl _ _) _)
  · exact (Sets.here.more BB.out).drewN _
set_option maxRecDepth 20000 in
set_option maxHeartbeats 3200000 in
theorem do_zero_no (i : Ev.Instr) (k : Nat) (s : Ev.St) (bv mb : Nat) (va : Value) (vs : List Value) (hi : Nat) (w : World) (hM : MAt w bv mb va vs hi s) (hk : k ≤ 1099511627776) (h : i.op = 19) (ha : inR s.v.length i.a) (hj : 0 ≤ i.imm) (h0 : ¬ Ev.val s.v i.a = 0) :
    Calls Try.prog 58 #[.pointer (some ⟨mb, 0, none⟩), .agg #[.int .i64 i.op, .int .i64 i.d, .int .i64 i.a, .int .i64 i.b, .int .i64 i.c, .int .i64 i.imm], .int .i64 (k : Int)] w fun e w' => e = .returned (.int .i64 ((k : Int) + 1)) ∧ MAt w' bv mb va vs hi (Ev.step i k s).1 ∧ Sets bv hi w w' := by
  have hbm := hM.bm
  have hmh := hM.mh
  have hle := hM.le
  have sB : w.heap.size < (w.alloc (.cells #[.int .i64 i.op, .int .i64 i.d, .int .i64 i.a, .int .i64 i.b, .int .i64 i.c, .int .i64 i.imm] 39)).heap.size := by simp
  have BB := Lib.hid (show Below w.heap.size w (w.alloc (.cells #[.int .i64 i.op, .int .i64 i.d, .int .i64 i.a, .int .i64 i.b, .int .i64 i.c, .int .i64 i.imm] 39)) by (repeat' first | with_reducible (first | exact Below.refl _ _ | assumption | refine Below.alloc ?_ ?_ _ | refine below_drewN ?_ _ | refine Below.drew ?_ | refine Below.setCell ?_ ?_ _ | refine Below.trans ?_ (Below.mono (by with_reducible assumption) ?_)) | go_size))
  have n0 : (w.alloc (.cells #[.int .i64 i.op, .int .i64 i.d, .int .i64 i.a, .int .i64 i.b, .int .i64 i.c, .int .i64 i.imm] 39)).cell? ⟨w.heap.size, 0, none⟩ = some (.int .i64 i.op) := by go_simp
  have n1 : (w.alloc (.cells #[.int .i64 i.op, .int .i64 i.d, .int .i64 i.a, .int .i64 i.b, .int .i64 i.c, .int .i64 i.imm] 39)).cell? ⟨w.heap.size, 1, none⟩ = some (.int .i64 i.d) := by go_simp
  have n2 : (w.alloc (.cells #[.int .i64 i.op, .int .i64 i.d, .int .i64 i.a, .int .i64 i.b, .int .i64 i.c, .int .i64 i.imm] 39)).cell? ⟨w.heap.size, 2, none⟩ = some (.int .i64 i.a) := by go_simp
  have n3 : (w.alloc (.cells #[.int .i64 i.op, .int .i64 i.d, .int .i64 i.a, .int .i64 i.b, .int .i64 i.c, .int .i64 i.imm] 39)).cell? ⟨w.heap.size, 3, none⟩ = some (.int .i64 i.b) := by go_simp
  have n4 : (w.alloc (.cells #[.int .i64 i.op, .int .i64 i.d, .int .i64 i.a, .int .i64 i.b, .int .i64 i.c, .int .i64 i.imm] 39)).cell? ⟨w.heap.size, 4, none⟩ = some (.int .i64 i.c) := by go_simp
  have n5 : (w.alloc (.cells #[.int .i64 i.op, .int .i64 i.d, .int .i64 i.a, .int .i64 i.b, .int .i64 i.c, .int .i64 i.imm] 39)).cell? ⟨w.heap.size, 5, none⟩ = some (.int .i64 i.imm) := by go_simp
  obtain ⟨wB, hwB⟩ : ∃ wB, w.alloc (.cells #[.int .i64 i.op, .int .i64 i.d, .int .i64 i.a, .int .i64 i.b, .int .i64 i.c, .int .i64 i.imm] 39) = wB := ⟨_, rfl⟩
  have HM := Lib.hid (hM.stays BB.out)
  have HWB := Lib.hid hwB
  rw [hwB] at sB BB n0 n1 n2 n3 n4 n5 HM
  clear hM hwB
  have m0 := HM.out.m0
  have m1 := HM.out.m1
  have m2 := HM.out.m2
  have lm := HM.out.loose
  have ca := HM.out.cell ha
  have ha0 := ha.1
  have ha1 := ha.2
  clear ha
  have HSP := Lib.hid (@Ev.step_zero_no i k s h h0)
  generalize Ev.val s.v i.a = n at *
  have h00 : (n == 0) = false := by simpa using h0
  clear h0
  have g19 : (i.op == 19) = true := by simpa using h
  have HOP := Lib.hid h
  clear h
  go_enter Try.func58, Try.ntmps58
  go_upto_region 1 with fail
  rw [HWB.out]
  have h := HOP.out
  go_wp2_with fail
  go_quiet (fail)
  go_wp2
  go_ret
  refine ⟨by push_cast; rfl, ?_, ?_⟩
  · rw [HSP.out]
    exact HM.out.stays (below_drewN (Below.refl _ _) _)
  · exact (Sets.here.more BB.out).drewN _
set_option maxRecDepth 20000 in
set_option maxHeartbeats 3200000 in
theorem do_end (i : Ev.Instr) (k : Nat) (s : Ev.St) (bv mb : Nat) (va : Value) (vs : List Value) (hi : Nat) (w : World) (hM : MAt w bv mb va vs hi s) (hk : k ≤ 1099511627776) (h : i.op = 20 ∨ i.op = 21) :
    Calls Try.prog 58 #[.pointer (some ⟨mb, 0, none⟩), .agg #[.int .i64 i.op, .int .i64 i.d, .int .i64 i.a, .int .i64 i.b, .int .i64 i.c, .int .i64 i.imm], .int .i64 (k : Int)] w fun e w' => e = .returned (.int .i64 (-1)) ∧ MAt w' bv mb va vs hi (Ev.step i k s).1 ∧ Sets bv hi w w' := by
  have hbm := hM.bm
  have hmh := hM.mh
  have hle := hM.le
  have sB : w.heap.size < (w.alloc (.cells #[.int .i64 i.op, .int .i64 i.d, .int .i64 i.a, .int .i64 i.b, .int .i64 i.c, .int .i64 i.imm] 39)).heap.size := by simp
  have BB := Lib.hid (show Below w.heap.size w (w.alloc (.cells #[.int .i64 i.op, .int .i64 i.d, .int .i64 i.a, .int .i64 i.b, .int .i64 i.c, .int .i64 i.imm] 39)) by (repeat' first | with_reducible (first | exact Below.refl _ _ | assumption | refine Below.alloc ?_ ?_ _ | refine below_drewN ?_ _ | refine Below.drew ?_ | refine Below.setCell ?_ ?_ _ | refine Below.trans ?_ (Below.mono (by with_reducible assumption) ?_)) | go_size))
  have n0 : (w.alloc (.cells #[.int .i64 i.op, .int .i64 i.d, .int .i64 i.a, .int .i64 i.b, .int .i64 i.c, .int .i64 i.imm] 39)).cell? ⟨w.heap.size, 0, none⟩ = some (.int .i64 i.op) := by go_simp
  have n1 : (w.alloc (.cells #[.int .i64 i.op, .int .i64 i.d, .int .i64 i.a, .int .i64 i.b, .int .i64 i.c, .int .i64 i.imm] 39)).cell? ⟨w.heap.size, 1, none⟩ = some (.int .i64 i.d) := by go_simp
  have n2 : (w.alloc (.cells #[.int .i64 i.op, .int .i64 i.d, .int .i64 i.a, .int .i64 i.b, .int .i64 i.c, .int .i64 i.imm] 39)).cell? ⟨w.heap.size, 2, none⟩ = some (.int .i64 i.a) := by go_simp
  have n3 : (w.alloc (.cells #[.int .i64 i.op, .int .i64 i.d, .int .i64 i.a, .int .i64 i.b, .int .i64 i.c, .int .i64 i.imm] 39)).cell? ⟨w.heap.size, 3, none⟩ = some (.int .i64 i.b) := by go_simp
  have n4 : (w.alloc (.cells #[.int .i64 i.op, .int .i64 i.d, .int .i64 i.a, .int .i64 i.b, .int .i64 i.c, .int .i64 i.imm] 39)).cell? ⟨w.heap.size, 4, none⟩ = some (.int .i64 i.c) := by go_simp
  have n5 : (w.alloc (.cells #[.int .i64 i.op, .int .i64 i.d, .int .i64 i.a, .int .i64 i.b, .int .i64 i.c, .int .i64 i.imm] 39)).cell? ⟨w.heap.size, 5, none⟩ = some (.int .i64 i.imm) := by go_simp
  obtain ⟨wB, hwB⟩ : ∃ wB, w.alloc (.cells #[.int .i64 i.op, .int .i64 i.d, .int .i64 i.a, .int .i64 i.b, .int .i64 i.c, .int .i64 i.imm] 39) = wB := ⟨_, rfl⟩
  have HM := Lib.hid (hM.stays BB.out)
  have HWB := Lib.hid hwB
  rw [hwB] at sB BB n0 n1 n2 n3 n4 n5 HM
  clear hM hwB
  have m0 := HM.out.m0
  have m1 := HM.out.m1
  have m2 := HM.out.m2
  have lm := HM.out.loose
  have HSP := Lib.hid (@Ev.step_end i k s h)
  have HOP := Lib.hid h
  clear h
  go_enter Try.func58, Try.ntmps58
  go_upto_region 1 with fail
  rw [HWB.out]
  have h := HOP.out
  have g19 : (i.op == 19) = false := by simp; omega
  rcases h with h | h
  all_goals
    go_wp2_with fail
    go_quiet (fail)
    go_wp2
    go_ret
    refine ⟨rfl, ?_, ?_⟩
    · rw [HSP.out]
      exact HM.out.stays (below_drewN (Below.refl _ _) _)
    · exact (Sets.here.more BB.out).drewN _
end Go.Proofs.Ytljcgcllhcdleaa
