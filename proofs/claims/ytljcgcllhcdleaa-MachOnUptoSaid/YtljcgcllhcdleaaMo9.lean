import Derived.Test.YtljcgcllhcdleaaMo8
import Derived.Deep.DeepCutAuto
/- Chapter 11: what an instruction of the machine does that makes something, or stores. -/
namespace Go.Proofs.Ytljcgcllhcdleaa
open Go.RowKit
set_option linter.unusedSimpArgs false
set_option linter.unusedVariables false
set_option maxRecDepth 20000 in
set_option maxHeartbeats 3200000 in
theorem does_two (i : Ev.Instr) (k : Nat) (m : Ev.Mc) (lo mb : Nat) (va : Value) (vs : List Value) (vl : Value) (w : World) (hM : MacAt w lo mb va vs vl m) (h : i.op ≤ 12) (ha : inR 120 i.a) (hb : inR 120 i.b) (hd : inR 120 i.d) :
    Calls Try.prog 93 #[.pointer (some ⟨mb, 0, none⟩), .agg #[.int .i64 i.op, .int .i64 i.d, .int .i64 i.a, .int .i64 i.b, .int .i64 i.c, .int .i64 i.imm]] w fun e w' => e = .returned (.tuple #[]) ∧ MacAt w' lo mb va vs vl { m with s := (Ev.step i k m.s).1 } ∧ Sets lo (mb + 1) w w' := by
  have hlm := hM.lm
  have sB : w.heap.size < (w.alloc (.cells #[.int .i64 i.op, .int .i64 i.d, .int .i64 i.a, .int .i64 i.b, .int .i64 i.c, .int .i64 i.imm] 39)).heap.size := by simp
  have BB := Lib.hid (show Below w.heap.size w (w.alloc (.cells #[.int .i64 i.op, .int .i64 i.d, .int .i64 i.a, .int .i64 i.b, .int .i64 i.c, .int .i64 i.imm] 39)) by (repeat' first | with_reducible (first | exact Below.refl _ _ | assumption | refine Below.alloc ?_ ?_ _ | refine below_drewN ?_ _ | refine Below.drew ?_ | refine Below.setCell ?_ ?_ _ | refine Below.trans ?_ (Below.mono (by with_reducible assumption) ?_)) | go_size))
  have n0 : (w.alloc (.cells #[.int .i64 i.op, .int .i64 i.d, .int .i64 i.a, .int .i64 i.b, .int .i64 i.c, .int .i64 i.imm] 39)).cell? ⟨w.heap.size, 0, none⟩ = some (.int .i64 i.op) := by go_simp
  have n1 : (w.alloc (.cells #[.int .i64 i.op, .int .i64 i.d, .int .i64 i.a, .int .i64 i.b, .int .i64 i.c, .int .i64 i.imm] 39)).cell? ⟨w.heap.size, 1, none⟩ = some (.int .i64 i.d) := by go_simp
  have n2 : (w.alloc (.cells #[.int .i64 i.op, .int .i64 i.d, .int .i64 i.a, .int .i64 i.b, .int .i64 i.c, .int .i64 i.imm] 39)).cell? ⟨w.heap.size, 2, none⟩ = some (.int .i64 i.a) := by go_simp
  have n3 : (w.alloc (.cells #[.int .i64 i.op, .int .i64 i.d, .int .i64 i.a, .int .i64 i.b, .int .i64 i.c, .int .i64 i.imm] 39)).cell? ⟨w.heap.size, 3, none⟩ = some (.int .i64 i.b) := by go_simp
  have n4 : (w.alloc (.cells #[.int .i64 i.op, .int .i64 i.d, .int .i64 i.a, .int .i64 i.b, .int .i64 i.c, .int .i64 i.imm] 39)).cell? ⟨w.heap.size, 4, none⟩ = some (.int .i64 i.c) := by go_simp
  have n5 : (w.alloc (.cells #[.int .i64 i.op, .int .i64 i.d, .int .i64 i.a, .int .i64 i.b, .int .i64 i.c, .int .i64 i.imm] 39)).cell? ⟨w.heap.size, 5, none⟩ = some (.int .i64 i.imm) := by go_simp
  obtain ⟨wB, hwB⟩ : ∃ wB, w.alloc (.cells #[.int .i64 i.op, .int .i64 i.d, .int .i64 i.a, .int .i64 i.b, .int .i64 i.c, .int .i64 i.imm] 39) = wB := ⟨_, rfl⟩
  have HM := Lib.hid (hM.stays BB.out)
  have HWB := Lib.hid hwB
  have lmb := hM.lt
  rw [hwB] at sB BB n0 n1 n2 n3 n4 n5 HM
  clear hM hwB
  replace lmb : mb < wB.heap.size := by omega
  have c120 := HM.out.cva
  have lml := HM.out.loose
  have cd := HM.out.cell hd
  have hd0 := hd.1
  have hd1 := hd.2
  clear hd
  have ca := HM.out.cell ha
  have ha0 := ha.1
  have ha1 := ha.2
  clear ha
  have cb := HM.out.cell hb
  have hb0 := hb.1
  have hb1 := hb.2
  clear hb
  have HSP := Lib.hid (@Ev.step_two i k m.s h)
  have C2 := Lib.hid (fun w => two_same i.op (Ev.val m.s.v i.a) (Ev.val m.s.v i.b) w)
  generalize Ev.two i.op (Ev.val m.s.v i.a) (Ev.val m.s.v i.b) = x at *
  generalize Ev.twoErr i.op = xe at *
  have HOP := Lib.hid h
  clear h
  go_enter Try.func93, Try.ntmps93
  go_upto_region 1 with fail
  rw [HWB.out]
  have h := HOP.out
  go_wp2_with fail
  refine wp_region_store (fun w' => w' = (wB).drew) (fun w' => w' = (wB).drew.setCell ⟨mb, i.d.toNat, none⟩ (.int .i64 x)) 23 [20, 21] (by kernel_rfl) (by kernel_rfl) (by kernel_rfl) (by kernel_rfl) rfl ?_
  apply chainS_mid (by rfl)
  case h => (rintro w9 rfl; go_wp2_with fail; (try ((go_at_call 72; refine (C2.out _).mono ?_; rintro _ _ ⟨rfl, rfl⟩); go_wp2_with fail)); refine settled_intro (S := fun w' => w' = (wB).drew) ?_; rfl)
  case h1 => (intro hk; exact absurd hk (by decide))
  case hp => first | rfl | (simp only [*]; done) | (simp only [*]; rfl)
  apply chainS_mid (by rfl)
  case h => (rintro w9 rfl; go_wp2_with fail; (try ((go_at_call 72; refine (C2.out _).mono ?_; rintro _ _ ⟨rfl, rfl⟩); go_wp2_with fail)); refine settled_intro (S := fun w' => w' = (wB).drew) ?_; rfl)
  case h1 => (intro hk; exact absurd hk (by decide))
  case hp => first | rfl | (simp only [*]; done) | (simp only [*]; rfl)
  apply chainS_mid (by rfl)
  case h => (rintro w9 rfl; go_wp2_with fail; (try ((go_at_call 72; refine (C2.out _).mono ?_; rintro _ _ ⟨rfl, rfl⟩); go_wp2_with fail)); refine settled_intro (S := fun w' => w' = (wB).drew) ?_; rfl)
  case h1 => (intro hk; exact absurd hk (by decide))
  case hp => first | rfl | (simp only [*]; done) | (simp only [*]; rfl)
  apply chainS_mid (by rfl)
  case h => (rintro w9 rfl; go_wp2_with fail; (try ((go_at_call 72; refine (C2.out _).mono ?_; rintro _ _ ⟨rfl, rfl⟩); go_wp2_with fail)); refine settled_intro (S := fun w' => w' = (wB).drew) ?_; rfl)
  case h1 => (intro hk; exact absurd hk (by decide))
  case hp => first | rfl | (simp only [*]; done) | (simp only [*]; rfl)
  apply chainS_mid (by rfl)
  case h => (rintro w9 rfl; go_wp2_with fail; (try ((go_at_call 72; refine (C2.out _).mono ?_; rintro _ _ ⟨rfl, rfl⟩); go_wp2_with fail)); refine settled_intro (S := fun w' => w' = (wB).drew) ?_; rfl)
  case h1 => (intro hk; exact absurd hk (by decide))
  case hp => first | rfl | (simp only [*]; done) | (simp only [*]; rfl)
  apply chainS_mid (by rfl)
  case h => (rintro w9 rfl; go_wp2_with fail; (try ((go_at_call 72; refine (C2.out _).mono ?_; rintro _ _ ⟨rfl, rfl⟩); go_wp2_with fail)); refine settled_intro (S := fun w' => w' = (wB).drew) ?_; rfl)
  case h1 => (intro hk; exact absurd hk (by decide))
  case hp => first | rfl | (simp only [*]; done) | (simp only [*]; rfl)
  apply chainS_mid (by rfl)
  case h => (rintro w9 rfl; go_wp2_with fail; (try ((go_at_call 72; refine (C2.out _).mono ?_; rintro _ _ ⟨rfl, rfl⟩); go_wp2_with fail)); refine settled_intro (S := fun w' => w' = (wB).drew) ?_; rfl)
  case h1 => (intro hk; exact absurd hk (by decide))
  case hp => first | rfl | (simp only [*]; done) | (simp only [*]; rfl)
  apply chainS_mid (by rfl)
  case h => (rintro w9 rfl; go_wp2_with fail; (try ((go_at_call 72; refine (C2.out _).mono ?_; rintro _ _ ⟨rfl, rfl⟩); go_wp2_with fail)); refine settled_intro (S := fun w' => w' = (wB).drew) ?_; rfl)
  case h1 => (intro hk; exact absurd hk (by decide))
  case hp => first | rfl | (simp only [*]; done) | (simp only [*]; rfl)
  apply chainS_mid (by rfl)
  case h => (rintro w9 rfl; go_wp2_with fail; (try ((go_at_call 72; refine (C2.out _).mono ?_; rintro _ _ ⟨rfl, rfl⟩); go_wp2_with fail)); refine settled_intro (S := fun w' => w' = (wB).drew) ?_; rfl)
  case h1 => (intro hk; exact absurd hk (by decide))
  case hp => first | rfl | (simp only [*]; done) | (simp only [*]; rfl)
  apply chainS_mid (by rfl)
  case h => (rintro w9 rfl; go_wp2_with fail; (try ((go_at_call 72; refine (C2.out _).mono ?_; rintro _ _ ⟨rfl, rfl⟩); go_wp2_with fail)); refine settled_intro (S := fun w' => w' = (wB).drew) ?_; rfl)
  case h1 => (intro hk; exact absurd hk (by decide))
  case hp => first | rfl | (simp only [*]; done) | (simp only [*]; rfl)
  apply chainS_mid (by rfl)
  case h => (rintro w9 rfl; go_wp2_with fail; (try ((go_at_call 72; refine (C2.out _).mono ?_; rintro _ _ ⟨rfl, rfl⟩); go_wp2_with fail)); refine settled_intro (S := fun w' => w' = (wB).drew) ?_; rfl)
  case h1 => (intro hk; exact absurd hk (by decide))
  case hp => first | rfl | (simp only [*]; done) | (simp only [*]; rfl)
  apply chainS_mid (by rfl)
  case h => (rintro w9 rfl; go_wp2_with fail; (try ((go_at_call 72; refine (C2.out _).mono ?_; rintro _ _ ⟨rfl, rfl⟩); go_wp2_with fail)); refine settled_intro (S := fun w' => w' = (wB).drew) ?_; rfl)
  case h1 => (intro hk; exact absurd hk (by decide))
  case hp => first | rfl | (simp only [*]; done) | (simp only [*]; rfl)
  apply chainS_mid (by rfl)
  case h => (rintro w9 rfl; go_wp2_with fail; (try ((go_at_call 72; refine (C2.out _).mono ?_; rintro _ _ ⟨rfl, rfl⟩); go_wp2_with fail)); refine settled_intro (S := fun w' => w' = (wB).drew) ?_; rfl)
  case h1 => (intro hk; exact absurd hk (by decide))
  case hp => first | rfl | (simp only [*]; done) | (simp only [*]; rfl)
  apply chainS_mid (by rfl)
  case h => (rintro w9 rfl; go_wp2_with fail; (try ((go_at_call 72; refine (C2.out _).mono ?_; rintro _ _ ⟨rfl, rfl⟩); go_wp2_with fail)); refine settled_intro (S := fun w' => w' = (wB).drew) ?_; rfl)
  case h1 => (intro hk; exact absurd hk (by decide))
  case hp => first | rfl | (simp only [*]; done) | (simp only [*]; rfl)
  apply chainS_mid (by rfl)
  case h => (rintro w9 rfl; go_wp2_with fail; (try ((go_at_call 72; refine (C2.out _).mono ?_; rintro _ _ ⟨rfl, rfl⟩); go_wp2_with fail)); refine settled_intro (S := fun w' => w' = (wB).drew) ?_; rfl)
  case h1 => (intro hk; exact absurd hk (by decide))
  case hp => first | rfl | (simp only [*]; done) | (simp only [*]; rfl)
  apply chainS_mid (by rfl)
  case h => (rintro w9 rfl; go_wp2_with fail; (try ((go_at_call 72; refine (C2.out _).mono ?_; rintro _ _ ⟨rfl, rfl⟩); go_wp2_with fail)); refine settled_intro (S := fun w' => w' = (wB).drew) ?_; rfl)
  case h1 => (intro hk; exact absurd hk (by decide))
  case hp => first | rfl | (simp only [*]; done) | (simp only [*]; rfl)
  apply chainS_mid (by rfl)
  case h => (rintro w9 rfl; go_wp2_with fail; (try ((go_at_call 72; refine (C2.out _).mono ?_; rintro _ _ ⟨rfl, rfl⟩); go_wp2_with fail)); refine settled_intro (S := fun w' => w' = (wB).drew) ?_; rfl)
  case h1 => (intro hk; exact absurd hk (by decide))
  case hp => first | rfl | (simp only [*]; done) | (simp only [*]; rfl)
  apply chainS_mid (by rfl)
  case h => (rintro w9 rfl; go_wp2_with fail; (try ((go_at_call 72; refine (C2.out _).mono ?_; rintro _ _ ⟨rfl, rfl⟩); go_wp2_with fail)); refine settled_intro (S := fun w' => w' = (wB).drew) ?_; rfl)
  case h1 => (intro hk; exact absurd hk (by decide))
  case hp => first | rfl | (simp only [*]; done) | (simp only [*]; rfl)
  apply chainS_mid (by rfl)
  case h => (rintro w9 rfl; go_wp2_with fail; (try ((go_at_call 72; refine (C2.out _).mono ?_; rintro _ _ ⟨rfl, rfl⟩); go_wp2_with fail)); refine settled_intro (S := fun w' => w' = (wB).drew) ?_; rfl)
  case h1 => (intro hk; exact absurd hk (by decide))
  case hp => first | rfl | (simp only [*]; done) | (simp only [*]; rfl)
  apply chainS_mid (by rfl)
  case h => (rintro w9 rfl; go_wp2_with fail; (try ((go_at_call 72; refine (C2.out _).mono ?_; rintro _ _ ⟨rfl, rfl⟩); go_wp2_with fail)); refine settled_intro (S := fun w' => w' = (wB).drew) ?_; rfl)
  case h1 => (intro hk; exact absurd hk (by decide))
  case hp => first | rfl | (simp only [*]; done) | (simp only [*]; rfl)
  apply chainS_mid (by rfl)
  case h => (rintro w9 rfl; go_wp2_with fail; (try ((go_at_call 72; refine (C2.out _).mono ?_; rintro _ _ ⟨rfl, rfl⟩); go_wp2_with fail)); refine settled_intro (S := fun w' => w' = (wB).drew) ?_; rfl)
  case h1 => (intro _; rintro w9 rfl; go_wp2_with fail; refine settled_intro (S := fun w' => w' = (wB).drew.setCell ⟨mb, i.d.toNat, none⟩ (.int .i64 x)) ?_; rfl)
  case hp => first | rfl | (simp only [*]; done) | (simp only [*]; rfl)
  apply chainS_mid (by rfl)
  case h => (rintro w9 rfl; go_wp2_with fail; (try ((go_at_call 72; refine (C2.out _).mono ?_; rintro _ _ ⟨rfl, rfl⟩); go_wp2_with fail)); refine settled_intro (S := fun w' => w' = (wB).drew) ?_; rfl)
  case h1 => (intro _; rintro w9 rfl; go_wp2_with fail; refine settled_intro (S := fun w' => w' = (wB).drew.setCell ⟨mb, i.d.toNat, none⟩ (.int .i64 x)) ?_; rfl)
  case hp => first | rfl | (simp only [*]; done) | (simp only [*]; rfl)
  apply chainS_mid (by rfl)
  case h => (rintro w9 rfl; go_wp2_with fail; (try ((go_at_call 72; refine (C2.out _).mono ?_; rintro _ _ ⟨rfl, rfl⟩); go_wp2_with fail)); refine settled_intro (S := fun w' => w' = (wB).drew) ?_; rfl)
  case h1 => (intro hk; exact absurd hk (by decide))
  case hp => first | rfl | (simp only [*]; done) | (simp only [*]; rfl)
  apply chainS_store (by rfl)
  case h => (rintro w9 rfl; go_wp2_with fail; refine settled_intro (S := fun w' => w' = (wB).drew.setCell ⟨mb, i.d.toNat, none⟩ (.int .i64 x)) ?_; rfl)
  case hp => first | rfl | (simp only [*]; done) | (simp only [*]; rfl)
  refine chainS.nil ?_
  rintro _ rfl
  (try dsimp only)
  go_wp2
  go_end0
  refine ⟨rfl, ?_, ?_⟩
  · rw [HSP.out]
    exact (HM.out.stays (Below.refl _ _).drew).setV (by omega) _
  · exact .set ((Sets.here.more BB.out).drewN 1) hlm (Nat.lt_succ_self _)
set_option maxRecDepth 20000 in
set_option maxHeartbeats 3200000 in
theorem does_sel (i : Ev.Instr) (k : Nat) (m : Ev.Mc) (lo mb : Nat) (va : Value) (vs : List Value) (vl : Value) (w : World) (hM : MacAt w lo mb va vs vl m) (h : i.op = 13) (ha : inR 120 i.a) (hb : inR 120 i.b) (hc : inR 120 i.c) (hd : inR 120 i.d) :
    Calls Try.prog 93 #[.pointer (some ⟨mb, 0, none⟩), .agg #[.int .i64 i.op, .int .i64 i.d, .int .i64 i.a, .int .i64 i.b, .int .i64 i.c, .int .i64 i.imm]] w fun e w' => e = .returned (.tuple #[]) ∧ MacAt w' lo mb va vs vl { m with s := (Ev.step i k m.s).1 } ∧ Sets lo (mb + 1) w w' := by
  have hlm := hM.lm
  have sB : w.heap.size < (w.alloc (.cells #[.int .i64 i.op, .int .i64 i.d, .int .i64 i.a, .int .i64 i.b, .int .i64 i.c, .int .i64 i.imm] 39)).heap.size := by simp
  have BB := Lib.hid (show Below w.heap.size w (w.alloc (.cells #[.int .i64 i.op, .int .i64 i.d, .int .i64 i.a, .int .i64 i.b, .int .i64 i.c, .int .i64 i.imm] 39)) by (repeat' first | with_reducible (first | exact Below.refl _ _ | assumption | refine Below.alloc ?_ ?_ _ | refine below_drewN ?_ _ | refine Below.drew ?_ | refine Below.setCell ?_ ?_ _ | refine Below.trans ?_ (Below.mono (by with_reducible assumption) ?_)) | go_size))
  have n0 : (w.alloc (.cells #[.int .i64 i.op, .int .i64 i.d, .int .i64 i.a, .int .i64 i.b, .int .i64 i.c, .int .i64 i.imm] 39)).cell? ⟨w.heap.size, 0, none⟩ = some (.int .i64 i.op) := by go_simp
  have n1 : (w.alloc (.cells #[.int .i64 i.op, .int .i64 i.d, .int .i64 i.a, .int .i64 i.b, .int .i64 i.c, .int .i64 i.imm] 39)).cell? ⟨w.heap.size, 1, none⟩ = some (.int .i64 i.d) := by go_simp
  have n2 : (w.alloc (.cells #[.int .i64 i.op, .int .i64 i.d, .int .i64 i.a, .int .i64 i.b, .int .i64 i.c, .int .i64 i.imm] 39)).cell? ⟨w.heap.size, 2, none⟩ = some (.int .i64 i.a) := by go_simp
  have n3 : (w.alloc (.cells #[.int .i64 i.op, .int .i64 i.d, .int .i64 i.a, .int .i64 i.b, .int .i64 i.c, .int .i64 i.imm] 39)).cell? ⟨w.heap.size, 3, none⟩ = some (.int .i64 i.b) := by go_simp
  have n4 : (w.alloc (.cells #[.int .i64 i.op, .int .i64 i.d, .int .i64 i.a, .int .i64 i.b, .int .i64 i.c, .int .i64 i.imm] 39)).cell? ⟨w.heap.size, 4, none⟩ = some (.int .i64 i.c) := by go_simp
  have n5 : (w.alloc (.cells #[.int .i64 i.op, .int .i64 i.d, .int .i64 i.a, .int .i64 i.b, .int .i64 i.c, .int .i64 i.imm] 39)).cell? ⟨w.heap.size, 5, none⟩ = some (.int .i64 i.imm) := by go_simp
  obtain ⟨wB, hwB⟩ : ∃ wB, w.alloc (.cells #[.int .i64 i.op, .int .i64 i.d, .int .i64 i.a, .int .i64 i.b, .int .i64 i.c, .int .i64 i.imm] 39) = wB := ⟨_, rfl⟩
  have HM := Lib.hid (hM.stays BB.out)
  have HWB := Lib.hid hwB
  have lmb := hM.lt
  rw [hwB] at sB BB n0 n1 n2 n3 n4 n5 HM
  clear hM hwB
  replace lmb : mb < wB.heap.size := by omega
  have c120 := HM.out.cva
  have lml := HM.out.loose
  have cd := HM.out.cell hd
  have hd0 := hd.1
  have hd1 := hd.2
  clear hd
  have ca := HM.out.cell ha
  have ha0 := ha.1
  have ha1 := ha.2
  clear ha
  have cb := HM.out.cell hb
  have hb0 := hb.1
  have hb1 := hb.2
  clear hb
  have cc := HM.out.cell hc
  have hc0 := hc.1
  have hc1 := hc.2
  clear hc
  have HSP := Lib.hid (@Ev.step_sel i k m.s h)
  have C2 := Lib.hid (fun w => sel_same (Ev.val m.s.v i.a) (Ev.val m.s.v i.b) (Ev.val m.s.v i.c) w)
  generalize Ev.sel (Ev.val m.s.v i.a) (Ev.val m.s.v i.b) (Ev.val m.s.v i.c) = x at *
  have HOP := Lib.hid h
  clear h
  go_enter Try.func93, Try.ntmps93
  go_upto_region 1 with fail
  rw [HWB.out]
  have h := HOP.out
  go_wp2_with fail
  refine wp_region_store (fun w' => w' = (wB).drew) (fun w' => w' = (wB).drew.setCell ⟨mb, i.d.toNat, none⟩ (.int .i64 x)) 24 [22] (by kernel_rfl) (by kernel_rfl) (by kernel_rfl) (by kernel_rfl) rfl ?_
  apply chainS_mid (by rfl)
  case h => (rintro w9 rfl; go_wp2_with fail; (try ((go_at_call 73; refine (C2.out _).mono ?_; rintro _ _ ⟨rfl, rfl⟩); go_wp2_with fail)); refine settled_intro (S := fun w' => w' = (wB).drew) ?_; rfl)
  case h1 => (intro hk; exact absurd hk (by decide))
  case hp => first | rfl | (simp only [*]; done) | (simp only [*]; rfl)
  apply chainS_mid (by rfl)
  case h => (rintro w9 rfl; go_wp2_with fail; (try ((go_at_call 73; refine (C2.out _).mono ?_; rintro _ _ ⟨rfl, rfl⟩); go_wp2_with fail)); refine settled_intro (S := fun w' => w' = (wB).drew) ?_; rfl)
  case h1 => (intro hk; exact absurd hk (by decide))
  case hp => first | rfl | (simp only [*]; done) | (simp only [*]; rfl)
  apply chainS_mid (by rfl)
  case h => (rintro w9 rfl; go_wp2_with fail; (try ((go_at_call 73; refine (C2.out _).mono ?_; rintro _ _ ⟨rfl, rfl⟩); go_wp2_with fail)); refine settled_intro (S := fun w' => w' = (wB).drew) ?_; rfl)
  case h1 => (intro hk; exact absurd hk (by decide))
  case hp => first | rfl | (simp only [*]; done) | (simp only [*]; rfl)
  apply chainS_mid (by rfl)
  case h => (rintro w9 rfl; go_wp2_with fail; (try ((go_at_call 73; refine (C2.out _).mono ?_; rintro _ _ ⟨rfl, rfl⟩); go_wp2_with fail)); refine settled_intro (S := fun w' => w' = (wB).drew) ?_; rfl)
  case h1 => (intro hk; exact absurd hk (by decide))
  case hp => first | rfl | (simp only [*]; done) | (simp only [*]; rfl)
  apply chainS_mid (by rfl)
  case h => (rintro w9 rfl; go_wp2_with fail; (try ((go_at_call 73; refine (C2.out _).mono ?_; rintro _ _ ⟨rfl, rfl⟩); go_wp2_with fail)); refine settled_intro (S := fun w' => w' = (wB).drew) ?_; rfl)
  case h1 => (intro hk; exact absurd hk (by decide))
  case hp => first | rfl | (simp only [*]; done) | (simp only [*]; rfl)
  apply chainS_mid (by rfl)
  case h => (rintro w9 rfl; go_wp2_with fail; (try ((go_at_call 73; refine (C2.out _).mono ?_; rintro _ _ ⟨rfl, rfl⟩); go_wp2_with fail)); refine settled_intro (S := fun w' => w' = (wB).drew) ?_; rfl)
  case h1 => (intro hk; exact absurd hk (by decide))
  case hp => first | rfl | (simp only [*]; done) | (simp only [*]; rfl)
  apply chainS_mid (by rfl)
  case h => (rintro w9 rfl; go_wp2_with fail; (try ((go_at_call 73; refine (C2.out _).mono ?_; rintro _ _ ⟨rfl, rfl⟩); go_wp2_with fail)); refine settled_intro (S := fun w' => w' = (wB).drew) ?_; rfl)
  case h1 => (intro hk; exact absurd hk (by decide))
  case hp => first | rfl | (simp only [*]; done) | (simp only [*]; rfl)
  apply chainS_mid (by rfl)
  case h => (rintro w9 rfl; go_wp2_with fail; (try ((go_at_call 73; refine (C2.out _).mono ?_; rintro _ _ ⟨rfl, rfl⟩); go_wp2_with fail)); refine settled_intro (S := fun w' => w' = (wB).drew) ?_; rfl)
  case h1 => (intro hk; exact absurd hk (by decide))
  case hp => first | rfl | (simp only [*]; done) | (simp only [*]; rfl)
  apply chainS_mid (by rfl)
  case h => (rintro w9 rfl; go_wp2_with fail; (try ((go_at_call 73; refine (C2.out _).mono ?_; rintro _ _ ⟨rfl, rfl⟩); go_wp2_with fail)); refine settled_intro (S := fun w' => w' = (wB).drew) ?_; rfl)
  case h1 => (intro hk; exact absurd hk (by decide))
  case hp => first | rfl | (simp only [*]; done) | (simp only [*]; rfl)
  apply chainS_mid (by rfl)
  case h => (rintro w9 rfl; go_wp2_with fail; (try ((go_at_call 73; refine (C2.out _).mono ?_; rintro _ _ ⟨rfl, rfl⟩); go_wp2_with fail)); refine settled_intro (S := fun w' => w' = (wB).drew) ?_; rfl)
  case h1 => (intro hk; exact absurd hk (by decide))
  case hp => first | rfl | (simp only [*]; done) | (simp only [*]; rfl)
  apply chainS_mid (by rfl)
  case h => (rintro w9 rfl; go_wp2_with fail; (try ((go_at_call 73; refine (C2.out _).mono ?_; rintro _ _ ⟨rfl, rfl⟩); go_wp2_with fail)); refine settled_intro (S := fun w' => w' = (wB).drew) ?_; rfl)
  case h1 => (intro hk; exact absurd hk (by decide))
  case hp => first | rfl | (simp only [*]; done) | (simp only [*]; rfl)
  apply chainS_mid (by rfl)
  case h => (rintro w9 rfl; go_wp2_with fail; (try ((go_at_call 73; refine (C2.out _).mono ?_; rintro _ _ ⟨rfl, rfl⟩); go_wp2_with fail)); refine settled_intro (S := fun w' => w' = (wB).drew) ?_; rfl)
  case h1 => (intro hk; exact absurd hk (by decide))
  case hp => first | rfl | (simp only [*]; done) | (simp only [*]; rfl)
  apply chainS_mid (by rfl)
  case h => (rintro w9 rfl; go_wp2_with fail; (try ((go_at_call 73; refine (C2.out _).mono ?_; rintro _ _ ⟨rfl, rfl⟩); go_wp2_with fail)); refine settled_intro (S := fun w' => w' = (wB).drew) ?_; rfl)
  case h1 => (intro hk; exact absurd hk (by decide))
  case hp => first | rfl | (simp only [*]; done) | (simp only [*]; rfl)
  apply chainS_mid (by rfl)
  case h => (rintro w9 rfl; go_wp2_with fail; (try ((go_at_call 73; refine (C2.out _).mono ?_; rintro _ _ ⟨rfl, rfl⟩); go_wp2_with fail)); refine settled_intro (S := fun w' => w' = (wB).drew) ?_; rfl)
  case h1 => (intro hk; exact absurd hk (by decide))
  case hp => first | rfl | (simp only [*]; done) | (simp only [*]; rfl)
  apply chainS_mid (by rfl)
  case h => (rintro w9 rfl; go_wp2_with fail; (try ((go_at_call 73; refine (C2.out _).mono ?_; rintro _ _ ⟨rfl, rfl⟩); go_wp2_with fail)); refine settled_intro (S := fun w' => w' = (wB).drew) ?_; rfl)
  case h1 => (intro hk; exact absurd hk (by decide))
  case hp => first | rfl | (simp only [*]; done) | (simp only [*]; rfl)
  apply chainS_mid (by rfl)
  case h => (rintro w9 rfl; go_wp2_with fail; (try ((go_at_call 73; refine (C2.out _).mono ?_; rintro _ _ ⟨rfl, rfl⟩); go_wp2_with fail)); refine settled_intro (S := fun w' => w' = (wB).drew) ?_; rfl)
  case h1 => (intro hk; exact absurd hk (by decide))
  case hp => first | rfl | (simp only [*]; done) | (simp only [*]; rfl)
  apply chainS_mid (by rfl)
  case h => (rintro w9 rfl; go_wp2_with fail; (try ((go_at_call 73; refine (C2.out _).mono ?_; rintro _ _ ⟨rfl, rfl⟩); go_wp2_with fail)); refine settled_intro (S := fun w' => w' = (wB).drew) ?_; rfl)
  case h1 => (intro hk; exact absurd hk (by decide))
  case hp => first | rfl | (simp only [*]; done) | (simp only [*]; rfl)
  apply chainS_mid (by rfl)
  case h => (rintro w9 rfl; go_wp2_with fail; (try ((go_at_call 73; refine (C2.out _).mono ?_; rintro _ _ ⟨rfl, rfl⟩); go_wp2_with fail)); refine settled_intro (S := fun w' => w' = (wB).drew) ?_; rfl)
  case h1 => (intro hk; exact absurd hk (by decide))
  case hp => first | rfl | (simp only [*]; done) | (simp only [*]; rfl)
  apply chainS_mid (by rfl)
  case h => (rintro w9 rfl; go_wp2_with fail; (try ((go_at_call 73; refine (C2.out _).mono ?_; rintro _ _ ⟨rfl, rfl⟩); go_wp2_with fail)); refine settled_intro (S := fun w' => w' = (wB).drew) ?_; rfl)
  case h1 => (intro hk; exact absurd hk (by decide))
  case hp => first | rfl | (simp only [*]; done) | (simp only [*]; rfl)
  apply chainS_mid (by rfl)
  case h => (rintro w9 rfl; go_wp2_with fail; (try ((go_at_call 73; refine (C2.out _).mono ?_; rintro _ _ ⟨rfl, rfl⟩); go_wp2_with fail)); refine settled_intro (S := fun w' => w' = (wB).drew) ?_; rfl)
  case h1 => (intro hk; exact absurd hk (by decide))
  case hp => first | rfl | (simp only [*]; done) | (simp only [*]; rfl)
  apply chainS_mid (by rfl)
  case h => (rintro w9 rfl; go_wp2_with fail; (try ((go_at_call 73; refine (C2.out _).mono ?_; rintro _ _ ⟨rfl, rfl⟩); go_wp2_with fail)); refine settled_intro (S := fun w' => w' = (wB).drew) ?_; rfl)
  case h1 => (intro hk; exact absurd hk (by decide))
  case hp => first | rfl | (simp only [*]; done) | (simp only [*]; rfl)
  apply chainS_mid (by rfl)
  case h => (rintro w9 rfl; go_wp2_with fail; (try ((go_at_call 73; refine (C2.out _).mono ?_; rintro _ _ ⟨rfl, rfl⟩); go_wp2_with fail)); refine settled_intro (S := fun w' => w' = (wB).drew) ?_; rfl)
  case h1 => (intro hk; exact absurd hk (by decide))
  case hp => first | rfl | (simp only [*]; done) | (simp only [*]; rfl)
  apply chainS_mid (by rfl)
  case h => (rintro w9 rfl; go_wp2_with fail; (try ((go_at_call 73; refine (C2.out _).mono ?_; rintro _ _ ⟨rfl, rfl⟩); go_wp2_with fail)); refine settled_intro (S := fun w' => w' = (wB).drew) ?_; rfl)
  case h1 => (intro _; rintro w9 rfl; go_wp2_with fail; refine settled_intro (S := fun w' => w' = (wB).drew.setCell ⟨mb, i.d.toNat, none⟩ (.int .i64 x)) ?_; rfl)
  case hp => first | rfl | (simp only [*]; done) | (simp only [*]; rfl)
  apply chainS_mid (by rfl)
  case h => (rintro w9 rfl; go_wp2_with fail; (try ((go_at_call 73; refine (C2.out _).mono ?_; rintro _ _ ⟨rfl, rfl⟩); go_wp2_with fail)); refine settled_intro (S := fun w' => w' = (wB).drew) ?_; rfl)
  case h1 => (intro hk; exact absurd hk (by decide))
  case hp => first | rfl | (simp only [*]; done) | (simp only [*]; rfl)
  apply chainS_store (by rfl)
  case h => (rintro w9 rfl; go_wp2_with fail; refine settled_intro (S := fun w' => w' = (wB).drew.setCell ⟨mb, i.d.toNat, none⟩ (.int .i64 x)) ?_; rfl)
  case hp => first | rfl | (simp only [*]; done) | (simp only [*]; rfl)
  refine chainS.nil ?_
  rintro _ rfl
  (try dsimp only)
  go_wp2
  go_end0
  refine ⟨rfl, ?_, ?_⟩
  · rw [HSP.out]
    exact (HM.out.stays (Below.refl _ _).drew).setV (by omega) _
  · exact .set ((Sets.here.more BB.out).drewN 1) hlm (Nat.lt_succ_self _)
set_option maxRecDepth 20000 in
set_option maxHeartbeats 3200000 in
theorem does_const (i : Ev.Instr) (k : Nat) (m : Ev.Mc) (lo mb : Nat) (va : Value) (vs : List Value) (vl : Value) (w : World) (hM : MacAt w lo mb va vs vl m) (h : i.op = 14) (hd : inR 120 i.d) :
    Calls Try.prog 93 #[.pointer (some ⟨mb, 0, none⟩), .agg #[.int .i64 i.op, .int .i64 i.d, .int .i64 i.a, .int .i64 i.b, .int .i64 i.c, .int .i64 i.imm]] w fun e w' => e = .returned (.tuple #[]) ∧ MacAt w' lo mb va vs vl { m with s := (Ev.step i k m.s).1 } ∧ Sets lo (mb + 1) w w' := by
  have hlm := hM.lm
  have sB : w.heap.size < (w.alloc (.cells #[.int .i64 i.op, .int .i64 i.d, .int .i64 i.a, .int .i64 i.b, .int .i64 i.c, .int .i64 i.imm] 39)).heap.size := by simp
  have BB := Lib.hid (show Below w.heap.size w (w.alloc (.cells #[.int .i64 i.op, .int .i64 i.d, .int .i64 i.a, .int .i64 i.b, .int .i64 i.c, .int .i64 i.imm] 39)) by (repeat' first | with_reducible (first | exact Below.refl _ _ | assumption | refine Below.alloc ?_ ?_ _ | refine below_drewN ?_ _ | refine Below.drew ?_ | refine Below.setCell ?_ ?_ _ | refine Below.trans ?_ (Below.mono (by with_reducible assumption) ?_)) | go_size))
  have n0 : (w.alloc (.cells #[.int .i64 i.op, .int .i64 i.d, .int .i64 i.a, .int .i64 i.b, .int .i64 i.c, .int .i64 i.imm] 39)).cell? ⟨w.heap.size, 0, none⟩ = some (.int .i64 i.op) := by go_simp
  have n1 : (w.alloc (.cells #[.int .i64 i.op, .int .i64 i.d, .int .i64 i.a, .int .i64 i.b, .int .i64 i.c, .int .i64 i.imm] 39)).cell? ⟨w.heap.size, 1, none⟩ = some (.int .i64 i.d) := by go_simp
  have n2 : (w.alloc (.cells #[.int .i64 i.op, .int .i64 i.d, .int .i64 i.a, .int .i64 i.b, .int .i64 i.c, .int .i64 i.imm] 39)).cell? ⟨w.heap.size, 2, none⟩ = some (.int .i64 i.a) := by go_simp
  have n3 : (w.alloc (.cells #[.int .i64 i.op, .int .i64 i.d, .int .i64 i.a, .int .i64 i.b, .int .i64 i.c, .int .i64 i.imm] 39)).cell? ⟨w.heap.size, 3, none⟩ = some (.int .i64 i.b) := by go_simp
  have n4 : (w.alloc (.cells #[.int .i64 i.op, .int .i64 i.d, .int .i64 i.a, .int .i64 i.b, .int .i64 i.c, .int .i64 i.imm] 39)).cell? ⟨w.heap.size, 4, none⟩ = some (.int .i64 i.c) := by go_simp
  have n5 : (w.alloc (.cells #[.int .i64 i.op, .int .i64 i.d, .int .i64 i.a, .int .i64 i.b, .int .i64 i.c, .int .i64 i.imm] 39)).cell? ⟨w.heap.size, 5, none⟩ = some (.int .i64 i.imm) := by go_simp
  obtain ⟨wB, hwB⟩ : ∃ wB, w.alloc (.cells #[.int .i64 i.op, .int .i64 i.d, .int .i64 i.a, .int .i64 i.b, .int .i64 i.c, .int .i64 i.imm] 39) = wB := ⟨_, rfl⟩
  have HM := Lib.hid (hM.stays BB.out)
  have HWB := Lib.hid hwB
  have lmb := hM.lt
  rw [hwB] at sB BB n0 n1 n2 n3 n4 n5 HM
  clear hM hwB
  replace lmb : mb < wB.heap.size := by omega
  have c120 := HM.out.cva
  have lml := HM.out.loose
  have cd := HM.out.cell hd
  have hd0 := hd.1
  have hd1 := hd.2
  clear hd
  have HSP := Lib.hid (@Ev.step_const i k m.s h)
  have HOP := Lib.hid h
  clear h
  go_enter Try.func93, Try.ntmps93
  go_upto_region 1 with fail
  rw [HWB.out]
  have h := HOP.out
  go_wp2_with fail
  refine wp_region_store (fun w' => w' = (wB).drew) (fun w' => w' = (wB).drew.setCell ⟨mb, i.d.toNat, none⟩ (.int .i64 i.imm)) 7 [5] (by kernel_rfl) (by kernel_rfl) (by kernel_rfl) (by kernel_rfl) rfl ?_
  apply chainS_mid (by rfl)
  case h => (rintro w9 rfl; go_wp2_with fail; (try (fail; go_wp2_with fail)); refine settled_intro (S := fun w' => w' = (wB).drew) ?_; rfl)
  case h1 => (intro hk; exact absurd hk (by decide))
  case hp => first | rfl | (simp only [*]; done) | (simp only [*]; rfl)
  apply chainS_mid (by rfl)
  case h => (rintro w9 rfl; go_wp2_with fail; (try (fail; go_wp2_with fail)); refine settled_intro (S := fun w' => w' = (wB).drew) ?_; rfl)
  case h1 => (intro hk; exact absurd hk (by decide))
  case hp => first | rfl | (simp only [*]; done) | (simp only [*]; rfl)
  apply chainS_mid (by rfl)
  case h => (rintro w9 rfl; go_wp2_with fail; (try (fail; go_wp2_with fail)); refine settled_intro (S := fun w' => w' = (wB).drew) ?_; rfl)
  case h1 => (intro hk; exact absurd hk (by decide))
  case hp => first | rfl | (simp only [*]; done) | (simp only [*]; rfl)
  apply chainS_mid (by rfl)
  case h => (rintro w9 rfl; go_wp2_with fail; (try (fail; go_wp2_with fail)); refine settled_intro (S := fun w' => w' = (wB).drew) ?_; rfl)
  case h1 => (intro hk; exact absurd hk (by decide))
  case hp => first | rfl | (simp only [*]; done) | (simp only [*]; rfl)
  apply chainS_mid (by rfl)
  case h => (rintro w9 rfl; go_wp2_with fail; (try (fail; go_wp2_with fail)); refine settled_intro (S := fun w' => w' = (wB).drew) ?_; rfl)
  case h1 => (intro hk; exact absurd hk (by decide))
  case hp => first | rfl | (simp only [*]; done) | (simp only [*]; rfl)
  apply chainS_mid (by rfl)
  case h => (rintro w9 rfl; go_wp2_with fail; (try (fail; go_wp2_with fail)); refine settled_intro (S := fun w' => w' = (wB).drew) ?_; rfl)
  case h1 => (intro _; rintro w9 rfl; go_wp2_with fail; refine settled_intro (S := fun w' => w' = (wB).drew.setCell ⟨mb, i.d.toNat, none⟩ (.int .i64 i.imm)) ?_; rfl)
  case hp => first | rfl | (simp only [*]; done) | (simp only [*]; rfl)
  apply chainS_mid (by rfl)
  case h => (rintro w9 rfl; go_wp2_with fail; (try (fail; go_wp2_with fail)); refine settled_intro (S := fun w' => w' = (wB).drew) ?_; rfl)
  case h1 => (intro hk; exact absurd hk (by decide))
  case hp => first | rfl | (simp only [*]; done) | (simp only [*]; rfl)
  apply chainS_store (by rfl)
  case h => (rintro w9 rfl; go_wp2_with fail; refine settled_intro (S := fun w' => w' = (wB).drew.setCell ⟨mb, i.d.toNat, none⟩ (.int .i64 i.imm)) ?_; rfl)
  case hp => first | rfl | (simp only [*]; done) | (simp only [*]; rfl)
  refine chainS.nil ?_
  rintro _ rfl
  (try dsimp only)
  go_wp2
  go_end0
  refine ⟨rfl, ?_, ?_⟩
  · rw [HSP.out]
    exact (HM.out.stays (Below.refl _ _).drew).setV (by omega) _
  · exact .set ((Sets.here.more BB.out).drewN 1) hlm (Nat.lt_succ_self _)
set_option maxRecDepth 20000 in
set_option maxHeartbeats 3200000 in
theorem does_move (i : Ev.Instr) (k : Nat) (m : Ev.Mc) (lo mb : Nat) (va : Value) (vs : List Value) (vl : Value) (w : World) (hM : MacAt w lo mb va vs vl m) (h : i.op = 15) (ha : inR 120 i.a) (hd : inR 120 i.d) :
    Calls Try.prog 93 #[.pointer (some ⟨mb, 0, none⟩), .agg #[.int .i64 i.op, .int .i64 i.d, .int .i64 i.a, .int .i64 i.b, .int .i64 i.c, .int .i64 i.imm]] w fun e w' => e = .returned (.tuple #[]) ∧ MacAt w' lo mb va vs vl { m with s := (Ev.step i k m.s).1 } ∧ Sets lo (mb + 1) w w' := by
  have hlm := hM.lm
  have sB : w.heap.size < (w.alloc (.cells #[.int .i64 i.op, .int .i64 i.d, .int .i64 i.a, .int .i64 i.b, .int .i64 i.c, .int .i64 i.imm] 39)).heap.size := by simp
  have BB := Lib.hid (show Below w.heap.size w (w.alloc (.cells #[.int .i64 i.op, .int .i64 i.d, .int .i64 i.a, .int .i64 i.b, .int .i64 i.c, .int .i64 i.imm] 39)) by (repeat' first | with_reducible (first | exact Below.refl _ _ | assumption | refine Below.alloc ?_ ?_ _ | refine below_drewN ?_ _ | refine Below.drew ?_ | refine Below.setCell ?_ ?_ _ | refine Below.trans ?_ (Below.mono (by with_reducible assumption) ?_)) | go_size))
  have n0 : (w.alloc (.cells #[.int .i64 i.op, .int .i64 i.d, .int .i64 i.a, .int .i64 i.b, .int .i64 i.c, .int .i64 i.imm] 39)).cell? ⟨w.heap.size, 0, none⟩ = some (.int .i64 i.op) := by go_simp
  have n1 : (w.alloc (.cells #[.int .i64 i.op, .int .i64 i.d, .int .i64 i.a, .int .i64 i.b, .int .i64 i.c, .int .i64 i.imm] 39)).cell? ⟨w.heap.size, 1, none⟩ = some (.int .i64 i.d) := by go_simp
  have n2 : (w.alloc (.cells #[.int .i64 i.op, .int .i64 i.d, .int .i64 i.a, .int .i64 i.b, .int .i64 i.c, .int .i64 i.imm] 39)).cell? ⟨w.heap.size, 2, none⟩ = some (.int .i64 i.a) := by go_simp
  have n3 : (w.alloc (.cells #[.int .i64 i.op, .int .i64 i.d, .int .i64 i.a, .int .i64 i.b, .int .i64 i.c, .int .i64 i.imm] 39)).cell? ⟨w.heap.size, 3, none⟩ = some (.int .i64 i.b) := by go_simp
  have n4 : (w.alloc (.cells #[.int .i64 i.op, .int .i64 i.d, .int .i64 i.a, .int .i64 i.b, .int .i64 i.c, .int .i64 i.imm] 39)).cell? ⟨w.heap.size, 4, none⟩ = some (.int .i64 i.c) := by go_simp
  have n5 : (w.alloc (.cells #[.int .i64 i.op, .int .i64 i.d, .int .i64 i.a, .int .i64 i.b, .int .i64 i.c, .int .i64 i.imm] 39)).cell? ⟨w.heap.size, 5, none⟩ = some (.int .i64 i.imm) := by go_simp
  obtain ⟨wB, hwB⟩ : ∃ wB, w.alloc (.cells #[.int .i64 i.op, .int .i64 i.d, .int .i64 i.a, .int .i64 i.b, .int .i64 i.c, .int .i64 i.imm] 39) = wB := ⟨_, rfl⟩
  have HM := Lib.hid (hM.stays BB.out)
  have HWB := Lib.hid hwB
  have lmb := hM.lt
  rw [hwB] at sB BB n0 n1 n2 n3 n4 n5 HM
  clear hM hwB
  replace lmb : mb < wB.heap.size := by omega
  have c120 := HM.out.cva
  have lml := HM.out.loose
  have cd := HM.out.cell hd
  have hd0 := hd.1
  have hd1 := hd.2
  clear hd
  have ca := HM.out.cell ha
  have ha0 := ha.1
  have ha1 := ha.2
  clear ha
  have HSP := Lib.hid (@Ev.step_move i k m.s h)
  generalize Ev.val m.s.v i.a = x at *
  have HOP := Lib.hid h
  clear h
  go_enter Try.func93, Try.ntmps93
  go_upto_region 1 with fail
  rw [HWB.out]
  have h := HOP.out
  go_wp2_with fail
  refine wp_region_store (fun w' => w' = (wB).drew) (fun w' => w' = (wB).drew.setCell ⟨mb, i.d.toNat, none⟩ (.int .i64 x)) 11 [9] (by kernel_rfl) (by kernel_rfl) (by kernel_rfl) (by kernel_rfl) rfl ?_
  apply chainS_mid (by rfl)
  case h => (rintro w9 rfl; go_wp2_with fail; (try (fail; go_wp2_with fail)); refine settled_intro (S := fun w' => w' = (wB).drew) ?_; rfl)
  case h1 => (intro hk; exact absurd hk (by decide))
  case hp => first | rfl | (simp only [*]; done) | (simp only [*]; rfl)
  apply chainS_mid (by rfl)
  case h => (rintro w9 rfl; go_wp2_with fail; (try (fail; go_wp2_with fail)); refine settled_intro (S := fun w' => w' = (wB).drew) ?_; rfl)
  case h1 => (intro hk; exact absurd hk (by decide))
  case hp => first | rfl | (simp only [*]; done) | (simp only [*]; rfl)
  apply chainS_mid (by rfl)
  case h => (rintro w9 rfl; go_wp2_with fail; (try (fail; go_wp2_with fail)); refine settled_intro (S := fun w' => w' = (wB).drew) ?_; rfl)
  case h1 => (intro hk; exact absurd hk (by decide))
  case hp => first | rfl | (simp only [*]; done) | (simp only [*]; rfl)
  apply chainS_mid (by rfl)
  case h => (rintro w9 rfl; go_wp2_with fail; (try (fail; go_wp2_with fail)); refine settled_intro (S := fun w' => w' = (wB).drew) ?_; rfl)
  case h1 => (intro hk; exact absurd hk (by decide))
  case hp => first | rfl | (simp only [*]; done) | (simp only [*]; rfl)
  apply chainS_mid (by rfl)
  case h => (rintro w9 rfl; go_wp2_with fail; (try (fail; go_wp2_with fail)); refine settled_intro (S := fun w' => w' = (wB).drew) ?_; rfl)
  case h1 => (intro hk; exact absurd hk (by decide))
  case hp => first | rfl | (simp only [*]; done) | (simp only [*]; rfl)
  apply chainS_mid (by rfl)
  case h => (rintro w9 rfl; go_wp2_with fail; (try (fail; go_wp2_with fail)); refine settled_intro (S := fun w' => w' = (wB).drew) ?_; rfl)
  case h1 => (intro hk; exact absurd hk (by decide))
  case hp => first | rfl | (simp only [*]; done) | (simp only [*]; rfl)
  apply chainS_mid (by rfl)
  case h => (rintro w9 rfl; go_wp2_with fail; (try (fail; go_wp2_with fail)); refine settled_intro (S := fun w' => w' = (wB).drew) ?_; rfl)
  case h1 => (intro hk; exact absurd hk (by decide))
  case hp => first | rfl | (simp only [*]; done) | (simp only [*]; rfl)
  apply chainS_mid (by rfl)
  case h => (rintro w9 rfl; go_wp2_with fail; (try (fail; go_wp2_with fail)); refine settled_intro (S := fun w' => w' = (wB).drew) ?_; rfl)
  case h1 => (intro hk; exact absurd hk (by decide))
  case hp => first | rfl | (simp only [*]; done) | (simp only [*]; rfl)
  apply chainS_mid (by rfl)
  case h => (rintro w9 rfl; go_wp2_with fail; (try (fail; go_wp2_with fail)); refine settled_intro (S := fun w' => w' = (wB).drew) ?_; rfl)
  case h1 => (intro hk; exact absurd hk (by decide))
  case hp => first | rfl | (simp only [*]; done) | (simp only [*]; rfl)
  apply chainS_mid (by rfl)
  case h => (rintro w9 rfl; go_wp2_with fail; (try (fail; go_wp2_with fail)); refine settled_intro (S := fun w' => w' = (wB).drew) ?_; rfl)
  case h1 => (intro _; rintro w9 rfl; go_wp2_with fail; refine settled_intro (S := fun w' => w' = (wB).drew.setCell ⟨mb, i.d.toNat, none⟩ (.int .i64 x)) ?_; rfl)
  case hp => first | rfl | (simp only [*]; done) | (simp only [*]; rfl)
  apply chainS_mid (by rfl)
  case h => (rintro w9 rfl; go_wp2_with fail; (try (fail; go_wp2_with fail)); refine settled_intro (S := fun w' => w' = (wB).drew) ?_; rfl)
  case h1 => (intro hk; exact absurd hk (by decide))
  case hp => first | rfl | (simp only [*]; done) | (simp only [*]; rfl)
  apply chainS_store (by rfl)
  case h => (rintro w9 rfl; go_wp2_with fail; refine settled_intro (S := fun w' => w' = (wB).drew.setCell ⟨mb, i.d.toNat, none⟩ (.int .i64 x)) ?_; rfl)
  case hp => first | rfl | (simp only [*]; done) | (simp only [*]; rfl)
  refine chainS.nil ?_
  rintro _ rfl
  (try dsimp only)
  go_wp2
  go_end0
  refine ⟨rfl, ?_, ?_⟩
  · rw [HSP.out]
    exact (HM.out.stays (Below.refl _ _).drew).setV (by omega) _
  · exact .set ((Sets.here.more BB.out).drewN 1) hlm (Nat.lt_succ_self _)
set_option maxRecDepth 20000 in
set_option maxHeartbeats 3200000 in
theorem does_load_in (i : Ev.Instr) (k : Nat) (m : Ev.Mc) (lo mb : Nat) (va : Value) (vs : List Value) (vl : Value) (w : World) (hM : MacAt w lo mb va vs vl m) (h : i.op = 16) (ha : inR 120 i.a) (hd : inR 120 i.d) (hb0 : 0 ≤ i.b) (hb1 : i.b < (m.s.arrs.length : Int)) (hv : 0 ≤ Ev.val m.s.v i.a) (hn : Ev.val m.s.v i.a < (m.s.arrs.getD i.b.toNat []).length) :
    Calls Try.prog 93 #[.pointer (some ⟨mb, 0, none⟩), .agg #[.int .i64 i.op, .int .i64 i.d, .int .i64 i.a, .int .i64 i.b, .int .i64 i.c, .int .i64 i.imm]] w fun e w' => e = .returned (.tuple #[]) ∧ MacAt w' lo mb va vs vl { m with s := (Ev.step i k m.s).1 } ∧ Sets lo (mb + 1) w w' := by
  have hlm := hM.lm
  have sB : w.heap.size < (w.alloc (.cells #[.int .i64 i.op, .int .i64 i.d, .int .i64 i.a, .int .i64 i.b, .int .i64 i.c, .int .i64 i.imm] 39)).heap.size := by simp
  have BB := Lib.hid (show Below w.heap.size w (w.alloc (.cells #[.int .i64 i.op, .int .i64 i.d, .int .i64 i.a, .int .i64 i.b, .int .i64 i.c, .int .i64 i.imm] 39)) by (repeat' first | with_reducible (first | exact Below.refl _ _ | assumption | refine Below.alloc ?_ ?_ _ | refine below_drewN ?_ _ | refine Below.drew ?_ | refine Below.setCell ?_ ?_ _ | refine Below.trans ?_ (Below.mono (by with_reducible assumption) ?_)) | go_size))
  have n0 : (w.alloc (.cells #[.int .i64 i.op, .int .i64 i.d, .int .i64 i.a, .int .i64 i.b, .int .i64 i.c, .int .i64 i.imm] 39)).cell? ⟨w.heap.size, 0, none⟩ = some (.int .i64 i.op) := by go_simp
  have n1 : (w.alloc (.cells #[.int .i64 i.op, .int .i64 i.d, .int .i64 i.a, .int .i64 i.b, .int .i64 i.c, .int .i64 i.imm] 39)).cell? ⟨w.heap.size, 1, none⟩ = some (.int .i64 i.d) := by go_simp
  have n2 : (w.alloc (.cells #[.int .i64 i.op, .int .i64 i.d, .int .i64 i.a, .int .i64 i.b, .int .i64 i.c, .int .i64 i.imm] 39)).cell? ⟨w.heap.size, 2, none⟩ = some (.int .i64 i.a) := by go_simp
  have n3 : (w.alloc (.cells #[.int .i64 i.op, .int .i64 i.d, .int .i64 i.a, .int .i64 i.b, .int .i64 i.c, .int .i64 i.imm] 39)).cell? ⟨w.heap.size, 3, none⟩ = some (.int .i64 i.b) := by go_simp
  have n4 : (w.alloc (.cells #[.int .i64 i.op, .int .i64 i.d, .int .i64 i.a, .int .i64 i.b, .int .i64 i.c, .int .i64 i.imm] 39)).cell? ⟨w.heap.size, 4, none⟩ = some (.int .i64 i.c) := by go_simp
  have n5 : (w.alloc (.cells #[.int .i64 i.op, .int .i64 i.d, .int .i64 i.a, .int .i64 i.b, .int .i64 i.c, .int .i64 i.imm] 39)).cell? ⟨w.heap.size, 5, none⟩ = some (.int .i64 i.imm) := by go_simp
  obtain ⟨wB, hwB⟩ : ∃ wB, w.alloc (.cells #[.int .i64 i.op, .int .i64 i.d, .int .i64 i.a, .int .i64 i.b, .int .i64 i.c, .int .i64 i.imm] 39) = wB := ⟨_, rfl⟩
  have HM := Lib.hid (hM.stays BB.out)
  have HWB := Lib.hid hwB
  have lmb := hM.lt
  rw [hwB] at sB BB n0 n1 n2 n3 n4 n5 HM
  clear hM hwB
  replace lmb : mb < wB.heap.size := by omega
  have c120 := HM.out.cva
  have lml := HM.out.loose
  have cd := HM.out.cell hd
  have hd0 := hd.1
  have hd1 := hd.2
  clear hd
  have ca := HM.out.cell ha
  have ha0 := ha.1
  have ha1 := ha.2
  clear ha
  have HSP := Lib.hid (@Ev.step_load i k m.s h)
  obtain ⟨a, ha'⟩ : ∃ a, m.s.arrs[i.b.toNat]? = some a := ⟨_, List.getElem?_eq_getElem (by omega)⟩
  obtain ⟨bo, co, A, ca', e1, e2, e3, e4, e5, e6, e7, e8, e9, e10, e11⟩ := Arrs.at_ HM.out.arrs ha'
  subst e1
  have hne2 : bo ≠ mb := by have := HM.out.hio bo rfl; omega
  have E11 := Lib.hid e11
  have E8 := Lib.hid e8
  have HA' := Lib.hid ha'
  clear e8 e11 ha'
  rw [List.getD_eq_getElem?_getD, HA'.out] at hn
  simp only [Option.getD_some] at hn
  have hA : Ev.arrAt m.s.arrs i.b (Ev.val m.s.v i.a) = if Ev.val m.s.v i.a < a.length then Ev.val a (Ev.val m.s.v i.a) else 0 := by
    unfold Ev.arrAt
    rw [List.getD_eq_getElem?_getD, HA'.out]
    rfl
  rw [if_pos hn] at hA
  obtain ⟨g', rfl, f1, f2, f3, f4⟩ := E11.out (by omega)
  have f5 : wB.cell? ⟨g', (Ev.val m.s.v i.a).toNat, none⟩ = some (.int .i64 (Ev.val a (Ev.val m.s.v i.a))) := f4 _ _ (by
    have hnn : (Ev.val m.s.v i.a).toNat < a.length := by omega
    generalize Ev.val m.s.v i.a = n at hnn
    unfold Ev.val
    rw [List.getD_eq_getElem?_getD, List.getElem?_eq_getElem hnn]
    rfl)
  have f6 := f3 (Ev.val m.s.v i.a).toNat
  have hne3 : g' ≠ mb := by have := HM.out.his _ _ g' E8.out rfl; omega
  clear f3 f4
  have HA := Lib.hid hA
  clear hA
  generalize Ev.val a (Ev.val m.s.v i.a) = x at *
  generalize Ev.val m.s.v i.a = n at *
  have HOP := Lib.hid h
  clear h
  go_enter Try.func93, Try.ntmps93
  go_upto_region 1 with fail
  rw [HWB.out]
  have h := HOP.out
  go_wp2_with fail
  go_quiet (fail)
  generalize nq = nA at *
  go_wp2_with fail
  go_quiet (fail)
  generalize nq = nB at *
  go_wp2_with fail
  go_quiet (fail)
  go_wp2_with fail
  rw [World.drewN_drewN, World.drewN_drewN]
  refine wp_region_store (fun w' => w' = (wB.drewN (nA + (nB + nq))).drew) (fun w' => w' = (wB.drewN (nA + (nB + nq))).drew.setCell ⟨mb, i.d.toNat, none⟩ (.int .i64 x)) 6 [4] (by kernel_rfl) (by kernel_rfl) (by kernel_rfl) (by kernel_rfl) rfl ?_
  apply chainS_mid (by rfl)
  case h => (rintro w9 rfl; go_wp2_with fail; (try (fail; go_wp2_with fail)); refine settled_intro (S := fun w' => w' = (wB.drewN (nA + (nB + nq))).drew) ?_; rfl)
  case h1 => (intro hk; exact absurd hk (by decide))
  case hp => first | rfl | (simp only [*]; done) | (simp only [*]; rfl)
  apply chainS_mid (by rfl)
  case h => (rintro w9 rfl; go_wp2_with fail; (try (fail; go_wp2_with fail)); refine settled_intro (S := fun w' => w' = (wB.drewN (nA + (nB + nq))).drew) ?_; rfl)
  case h1 => (intro hk; exact absurd hk (by decide))
  case hp => first | rfl | (simp only [*]; done) | (simp only [*]; rfl)
  apply chainS_mid (by rfl)
  case h => (rintro w9 rfl; go_wp2_with fail; (try (fail; go_wp2_with fail)); refine settled_intro (S := fun w' => w' = (wB.drewN (nA + (nB + nq))).drew) ?_; rfl)
  case h1 => (intro hk; exact absurd hk (by decide))
  case hp => first | rfl | (simp only [*]; done) | (simp only [*]; rfl)
  apply chainS_mid (by rfl)
  case h => (rintro w9 rfl; go_wp2_with fail; (try (fail; go_wp2_with fail)); refine settled_intro (S := fun w' => w' = (wB.drewN (nA + (nB + nq))).drew) ?_; rfl)
  case h1 => (intro hk; exact absurd hk (by decide))
  case hp => first | rfl | (simp only [*]; done) | (simp only [*]; rfl)
  apply chainS_mid (by rfl)
  case h => (rintro w9 rfl; go_wp2_with fail; (try (fail; go_wp2_with fail)); refine settled_intro (S := fun w' => w' = (wB.drewN (nA + (nB + nq))).drew) ?_; rfl)
  case h1 => (intro _; rintro w9 rfl; go_wp2_with fail; refine settled_intro (S := fun w' => w' = (wB.drewN (nA + (nB + nq))).drew.setCell ⟨mb, i.d.toNat, none⟩ (.int .i64 x)) ?_; rfl)
  case hp => first | rfl | (simp only [*]; done) | (simp only [*]; rfl)
  apply chainS_mid (by rfl)
  case h => (rintro w9 rfl; go_wp2_with fail; (try (fail; go_wp2_with fail)); refine settled_intro (S := fun w' => w' = (wB.drewN (nA + (nB + nq))).drew) ?_; rfl)
  case h1 => (intro hk; exact absurd hk (by decide))
  case hp => first | rfl | (simp only [*]; done) | (simp only [*]; rfl)
  apply chainS_store (by rfl)
  case h => (rintro w9 rfl; go_wp2_with fail; refine settled_intro (S := fun w' => w' = (wB.drewN (nA + (nB + nq))).drew.setCell ⟨mb, i.d.toNat, none⟩ (.int .i64 x)) ?_; rfl)
  case hp => first | rfl | (simp only [*]; done) | (simp only [*]; rfl)
  refine chainS.nil ?_
  rintro _ rfl
  (try dsimp only)
  go_wp2
  go_end0
  refine ⟨rfl, ?_, ?_⟩
  · have HSe := HSP.out
    rw [HA.out] at HSe
    rw [HSe]
    exact ((HM.out.stays (below_drewN (Below.refl _ _) _)).stays (Below.refl _ _).drew).setV (by omega) _
  · exact .set (((Sets.here.more BB.out).drewN _).drewN 1) hlm (Nat.lt_succ_self _)
set_option maxRecDepth 20000 in
set_option maxHeartbeats 3200000 in
theorem does_load_out (i : Ev.Instr) (k : Nat) (m : Ev.Mc) (lo mb : Nat) (va : Value) (vs : List Value) (vl : Value) (w : World) (hM : MacAt w lo mb va vs vl m) (h : i.op = 16) (ha : inR 120 i.a) (hd : inR 120 i.d) (hb0 : 0 ≤ i.b) (hb1 : i.b < (m.s.arrs.length : Int)) (hv : 0 ≤ Ev.val m.s.v i.a) (hn : ¬ Ev.val m.s.v i.a < (m.s.arrs.getD i.b.toNat []).length) :
    Calls Try.prog 93 #[.pointer (some ⟨mb, 0, none⟩), .agg #[.int .i64 i.op, .int .i64 i.d, .int .i64 i.a, .int .i64 i.b, .int .i64 i.c, .int .i64 i.imm]] w fun e w' => e = .returned (.tuple #[]) ∧ MacAt w' lo mb va vs vl { m with s := (Ev.step i k m.s).1 } ∧ Sets lo (mb + 1) w w' := by
  have hlm := hM.lm
  have sB : w.heap.size < (w.alloc (.cells #[.int .i64 i.op, .int .i64 i.d, .int .i64 i.a, .int .i64 i.b, .int .i64 i.c, .int .i64 i.imm] 39)).heap.size := by simp
  have BB := Lib.hid (show Below w.heap.size w (w.alloc (.cells #[.int .i64 i.op, .int .i64 i.d, .int .i64 i.a, .int .i64 i.b, .int .i64 i.c, .int .i64 i.imm] 39)) by (repeat' first | with_reducible (first | exact Below.refl _ _ | assumption | refine Below.alloc ?_ ?_ _ | refine below_drewN ?_ _ | refine Below.drew ?_ | refine Below.setCell ?_ ?_ _ | refine Below.trans ?_ (Below.mono (by with_reducible assumption) ?_)) | go_size))
  have n0 : (w.alloc (.cells #[.int .i64 i.op, .int .i64 i.d, .int .i64 i.a, .int .i64 i.b, .int .i64 i.c, .int .i64 i.imm] 39)).cell? ⟨w.heap.size, 0, none⟩ = some (.int .i64 i.op) := by go_simp
  have n1 : (w.alloc (.cells #[.int .i64 i.op, .int .i64 i.d, .int .i64 i.a, .int .i64 i.b, .int .i64 i.c, .int .i64 i.imm] 39)).cell? ⟨w.heap.size, 1, none⟩ = some (.int .i64 i.d) := by go_simp
  have n2 : (w.alloc (.cells #[.int .i64 i.op, .int .i64 i.d, .int .i64 i.a, .int .i64 i.b, .int .i64 i.c, .int .i64 i.imm] 39)).cell? ⟨w.heap.size, 2, none⟩ = some (.int .i64 i.a) := by go_simp
  have n3 : (w.alloc (.cells #[.int .i64 i.op, .int .i64 i.d, .int .i64 i.a, .int .i64 i.b, .int .i64 i.c, .int .i64 i.imm] 39)).cell? ⟨w.heap.size, 3, none⟩ = some (.int .i64 i.b) := by go_simp
  have n4 : (w.alloc (.cells #[.int .i64 i.op, .int .i64 i.d, .int .i64 i.a, .int .i64 i.b, .int .i64 i.c, .int .i64 i.imm] 39)).cell? ⟨w.heap.size, 4, none⟩ = some (.int .i64 i.c) := by go_simp
  have n5 : (w.alloc (.cells #[.int .i64 i.op, .int .i64 i.d, .int .i64 i.a, .int .i64 i.b, .int .i64 i.c, .int .i64 i.imm] 39)).cell? ⟨w.heap.size, 5, none⟩ = some (.int .i64 i.imm) := by go_simp
  obtain ⟨wB, hwB⟩ : ∃ wB, w.alloc (.cells #[.int .i64 i.op, .int .i64 i.d, .int .i64 i.a, .int .i64 i.b, .int .i64 i.c, .int .i64 i.imm] 39) = wB := ⟨_, rfl⟩
  have HM := Lib.hid (hM.stays BB.out)
  have HWB := Lib.hid hwB
  have lmb := hM.lt
  rw [hwB] at sB BB n0 n1 n2 n3 n4 n5 HM
  clear hM hwB
  replace lmb : mb < wB.heap.size := by omega
  have c120 := HM.out.cva
  have lml := HM.out.loose
  have cd := HM.out.cell hd
  have hd0 := hd.1
  have hd1 := hd.2
  clear hd
  have ca := HM.out.cell ha
  have ha0 := ha.1
  have ha1 := ha.2
  clear ha
  have HSP := Lib.hid (@Ev.step_load i k m.s h)
  obtain ⟨a, ha'⟩ : ∃ a, m.s.arrs[i.b.toNat]? = some a := ⟨_, List.getElem?_eq_getElem (by omega)⟩
  obtain ⟨bo, co, A, ca', e1, e2, e3, e4, e5, e6, e7, e8, e9, e10, e11⟩ := Arrs.at_ HM.out.arrs ha'
  subst e1
  have hne2 : bo ≠ mb := by have := HM.out.hio bo rfl; omega
  have E11 := Lib.hid e11
  have E8 := Lib.hid e8
  have HA' := Lib.hid ha'
  clear e8 e11 ha'
  rw [List.getD_eq_getElem?_getD, HA'.out] at hn
  simp only [Option.getD_some] at hn
  have hA : Ev.arrAt m.s.arrs i.b (Ev.val m.s.v i.a) = if Ev.val m.s.v i.a < a.length then Ev.val a (Ev.val m.s.v i.a) else 0 := by
    unfold Ev.arrAt
    rw [List.getD_eq_getElem?_getD, HA'.out]
    rfl
  rw [if_neg hn] at hA
  have HA := Lib.hid hA
  clear hA
  generalize Ev.val m.s.v i.a = n at *
  have HOP := Lib.hid h
  clear h
  go_enter Try.func93, Try.ntmps93
  go_upto_region 1 with fail
  rw [HWB.out]
  have h := HOP.out
  go_wp2_with fail
  go_quiet (fail)
  generalize nq = nA at *
  go_wp2_with fail
  go_quiet (fail)
  go_wp2_with fail
  rw [World.drewN_drewN]
  refine wp_region_store (fun w' => w' = (wB.drewN (nA + nq)).drew) (fun w' => w' = (wB.drewN (nA + nq)).drew.setCell ⟨mb, i.d.toNat, none⟩ (.int .i64 0)) 6 [4] (by kernel_rfl) (by kernel_rfl) (by kernel_rfl) (by kernel_rfl) rfl ?_
  apply chainS_mid (by rfl)
  case h => (rintro w9 rfl; go_wp2_with fail; (try (fail; go_wp2_with fail)); refine settled_intro (S := fun w' => w' = (wB.drewN (nA + nq)).drew) ?_; rfl)
  case h1 => (intro hk; exact absurd hk (by decide))
  case hp => first | rfl | (simp only [*]; done) | (simp only [*]; rfl)
  apply chainS_mid (by rfl)
  case h => (rintro w9 rfl; go_wp2_with fail; (try (fail; go_wp2_with fail)); refine settled_intro (S := fun w' => w' = (wB.drewN (nA + nq)).drew) ?_; rfl)
  case h1 => (intro hk; exact absurd hk (by decide))
  case hp => first | rfl | (simp only [*]; done) | (simp only [*]; rfl)
  apply chainS_mid (by rfl)
  case h => (rintro w9 rfl; go_wp2_with fail; (try (fail; go_wp2_with fail)); refine settled_intro (S := fun w' => w' = (wB.drewN (nA + nq)).drew) ?_; rfl)
  case h1 => (intro hk; exact absurd hk (by decide))
  case hp => first | rfl | (simp only [*]; done) | (simp only [*]; rfl)
  apply chainS_mid (by rfl)
  case h => (rintro w9 rfl; go_wp2_with fail; (try (fail; go_wp2_with fail)); refine settled_intro (S := fun w' => w' = (wB.drewN (nA + nq)).drew) ?_; rfl)
  case h1 => (intro hk; exact absurd hk (by decide))
  case hp => first | rfl | (simp only [*]; done) | (simp only [*]; rfl)
  apply chainS_mid (by rfl)
  case h => (rintro w9 rfl; go_wp2_with fail; (try (fail; go_wp2_with fail)); refine settled_intro (S := fun w' => w' = (wB.drewN (nA + nq)).drew) ?_; rfl)
  case h1 => (intro _; rintro w9 rfl; go_wp2_with fail; refine settled_intro (S := fun w' => w' = (wB.drewN (nA + nq)).drew.setCell ⟨mb, i.d.toNat, none⟩ (.int .i64 0)) ?_; rfl)
  case hp => first | rfl | (simp only [*]; done) | (simp only [*]; rfl)
  apply chainS_mid (by rfl)
  case h => (rintro w9 rfl; go_wp2_with fail; (try (fail; go_wp2_with fail)); refine settled_intro (S := fun w' => w' = (wB.drewN (nA + nq)).drew) ?_; rfl)
  case h1 => (intro hk; exact absurd hk (by decide))
  case hp => first | rfl | (simp only [*]; done) | (simp only [*]; rfl)
  apply chainS_store (by rfl)
  case h => (rintro w9 rfl; go_wp2_with fail; refine settled_intro (S := fun w' => w' = (wB.drewN (nA + nq)).drew.setCell ⟨mb, i.d.toNat, none⟩ (.int .i64 0)) ?_; rfl)
  case hp => first | rfl | (simp only [*]; done) | (simp only [*]; rfl)
  refine chainS.nil ?_
  rintro _ rfl
  (try dsimp only)
  go_wp2
  go_end0
  refine ⟨rfl, ?_, ?_⟩
  · have HSe := HSP.out
    rw [HA.out] at HSe
    rw [HSe]
    exact ((HM.out.stays (below_drewN (Below.refl _ _) _)).stays (Below.refl _ _).drew).setV (by omega) _
  · exact .set (((Sets.here.more BB.out).drewN _).drewN 1) hlm (Nat.lt_succ_self _)
set_option maxRecDepth 20000 in
set_option maxHeartbeats 3200000 in
theorem does_store_in (i : Ev.Instr) (k : Nat) (m : Ev.Mc) (lo mb : Nat) (va : Value) (vs : List Value) (vl : Value) (w : World) (hM : MacAt w lo mb va vs vl m) (h : i.op = 17) (ha : inR 120 i.a) (hd : inR 120 i.d) (hb0 : 0 ≤ i.b) (hb1 : i.b < (m.s.arrs.length : Int)) (hv : 0 ≤ Ev.val m.s.v i.a) (hn : Ev.val m.s.v i.a < (m.s.arrs.getD i.b.toNat []).length) :
    Calls Try.prog 93 #[.pointer (some ⟨mb, 0, none⟩), .agg #[.int .i64 i.op, .int .i64 i.d, .int .i64 i.a, .int .i64 i.b, .int .i64 i.c, .int .i64 i.imm]] w fun e w' => e = .returned (.tuple #[]) ∧ MacAt w' lo mb va vs vl { m with s := (Ev.step i k m.s).1 } ∧ Sets lo (mb + 1) w w' := by
  have hlm := hM.lm
  have sB : w.heap.size < (w.alloc (.cells #[.int .i64 i.op, .int .i64 i.d, .int .i64 i.a, .int .i64 i.b, .int .i64 i.c, .int .i64 i.imm] 39)).heap.size := by simp
  have BB := Lib.hid (show Below w.heap.size w (w.alloc (.cells #[.int .i64 i.op, .int .i64 i.d, .int .i64 i.a, .int .i64 i.b, .int .i64 i.c, .int .i64 i.imm] 39)) by (repeat' first | with_reducible (first | exact Below.refl _ _ | assumption | refine Below.alloc ?_ ?_ _ | refine below_drewN ?_ _ | refine Below.drew ?_ | refine Below.setCell ?_ ?_ _ | refine Below.trans ?_ (Below.mono (by with_reducible assumption) ?_)) | go_size))
  have n0 : (w.alloc (.cells #[.int .i64 i.op, .int .i64 i.d, .int .i64 i.a, .int .i64 i.b, .int .i64 i.c, .int .i64 i.imm] 39)).cell? ⟨w.heap.size, 0, none⟩ = some (.int .i64 i.op) := by go_simp
  have n1 : (w.alloc (.cells #[.int .i64 i.op, .int .i64 i.d, .int .i64 i.a, .int .i64 i.b, .int .i64 i.c, .int .i64 i.imm] 39)).cell? ⟨w.heap.size, 1, none⟩ = some (.int .i64 i.d) := by go_simp
  have n2 : (w.alloc (.cells #[.int .i64 i.op, .int .i64 i.d, .int .i64 i.a, .int .i64 i.b, .int .i64 i.c, .int .i64 i.imm] 39)).cell? ⟨w.heap.size, 2, none⟩ = some (.int .i64 i.a) := by go_simp
  have n3 : (w.alloc (.cells #[.int .i64 i.op, .int .i64 i.d, .int .i64 i.a, .int .i64 i.b, .int .i64 i.c, .int .i64 i.imm] 39)).cell? ⟨w.heap.size, 3, none⟩ = some (.int .i64 i.b) := by go_simp
  have n4 : (w.alloc (.cells #[.int .i64 i.op, .int .i64 i.d, .int .i64 i.a, .int .i64 i.b, .int .i64 i.c, .int .i64 i.imm] 39)).cell? ⟨w.heap.size, 4, none⟩ = some (.int .i64 i.c) := by go_simp
  have n5 : (w.alloc (.cells #[.int .i64 i.op, .int .i64 i.d, .int .i64 i.a, .int .i64 i.b, .int .i64 i.c, .int .i64 i.imm] 39)).cell? ⟨w.heap.size, 5, none⟩ = some (.int .i64 i.imm) := by go_simp
  obtain ⟨wB, hwB⟩ : ∃ wB, w.alloc (.cells #[.int .i64 i.op, .int .i64 i.d, .int .i64 i.a, .int .i64 i.b, .int .i64 i.c, .int .i64 i.imm] 39) = wB := ⟨_, rfl⟩
  have HM := Lib.hid (hM.stays BB.out)
  have HWB := Lib.hid hwB
  have lmb := hM.lt
  rw [hwB] at sB BB n0 n1 n2 n3 n4 n5 HM
  clear hM hwB
  replace lmb : mb < wB.heap.size := by omega
  have c120 := HM.out.cva
  have lml := HM.out.loose
  have ca := HM.out.cell ha
  have ha0 := ha.1
  have ha1 := ha.2
  clear ha
  have cd := HM.out.cell hd
  have hd0 := hd.1
  have hd1 := hd.2
  clear hd
  obtain ⟨a, ha'⟩ : ∃ a, m.s.arrs[i.b.toNat]? = some a := ⟨_, List.getElem?_eq_getElem (by omega)⟩
  obtain ⟨bo, co, A, ca', e1, e2, e3, e4, e5, e6, e7, e8, e9, e10, e11⟩ := Arrs.at_ HM.out.arrs ha'
  subst e1
  have hne2 : bo ≠ mb := by have := HM.out.hio bo rfl; omega
  have E11 := Lib.hid e11
  have E8 := Lib.hid e8
  have HA' := Lib.hid ha'
  clear e8 e11 ha'
  rw [List.getD_eq_getElem?_getD, HA'.out] at hn
  simp only [Option.getD_some] at hn
  have HSP := Lib.hid (@Ev.step_store_in i k m.s h a HA'.out hn)
  obtain ⟨g', rfl, f1, f2, f3, f4⟩ := E11.out (by omega)
  have f5 : wB.cell? ⟨g', (Ev.val m.s.v i.a).toNat, none⟩ = some (.int .i64 (Ev.val a (Ev.val m.s.v i.a))) := f4 _ _ (by
    have hnn : (Ev.val m.s.v i.a).toNat < a.length := by omega
    generalize Ev.val m.s.v i.a = n at hnn
    unfold Ev.val
    rw [List.getD_eq_getElem?_getD, List.getElem?_eq_getElem hnn]
    rfl)
  have f6 := f3 (Ev.val m.s.v i.a).toNat
  have hne3 : g' ≠ mb := by have := HM.out.his _ _ g' E8.out rfl; omega
  clear f3 f4
  have hg3 := HM.out.his _ _ g' E8.out rfl
  generalize Ev.val a (Ev.val m.s.v i.a) = y at *
  generalize Ev.val m.s.v i.d = x at *
  generalize Ev.val m.s.v i.a = n at *
  have HOP := Lib.hid h
  clear h
  go_enter Try.func93, Try.ntmps93
  go_upto_region 1 with fail
  rw [HWB.out]
  have h := HOP.out
  go_wp2_with fail
  go_quiet (fail)
  generalize nq = nA at *
  go_wp2_with fail
  go_quiet (fail)
  go_wp2_with fail
  rw [World.drewN_drewN]
  refine wp_region_store (fun w' => w' = (wB.drewN (nA + nq)).drew) (fun w' => w' = (wB.drewN (nA + nq)).drew.setCell ⟨g', n.toNat, none⟩ (.int .i64 x)) 14 [] (by kernel_rfl) (by kernel_rfl) (by kernel_rfl) (by kernel_rfl) rfl ?_
  apply chainS_mid (by rfl)
  case h => (rintro w9 rfl; go_wp2_with fail; (try (fail; go_wp2_with fail)); refine settled_intro (S := fun w' => w' = (wB.drewN (nA + nq)).drew) ?_; rfl)
  case h1 => (intro hk; exact absurd hk (by decide))
  case hp => first | rfl | (simp only [*]; done) | (simp only [*]; rfl)
  apply chainS_mid (by rfl)
  case h => (rintro w9 rfl; go_wp2_with fail; (try (fail; go_wp2_with fail)); refine settled_intro (S := fun w' => w' = (wB.drewN (nA + nq)).drew) ?_; rfl)
  case h1 => (intro hk; exact absurd hk (by decide))
  case hp => first | rfl | (simp only [*]; done) | (simp only [*]; rfl)
  apply chainS_mid (by rfl)
  case h => (rintro w9 rfl; go_wp2_with fail; (try (fail; go_wp2_with fail)); refine settled_intro (S := fun w' => w' = (wB.drewN (nA + nq)).drew) ?_; rfl)
  case h1 => (intro hk; exact absurd hk (by decide))
  case hp => first | rfl | (simp only [*]; done) | (simp only [*]; rfl)
  apply chainS_mid (by rfl)
  case h => (rintro w9 rfl; go_wp2_with fail; (try (fail; go_wp2_with fail)); refine settled_intro (S := fun w' => w' = (wB.drewN (nA + nq)).drew) ?_; rfl)
  case h1 => (intro hk; exact absurd hk (by decide))
  case hp => first | rfl | (simp only [*]; done) | (simp only [*]; rfl)
  apply chainS_mid (by rfl)
  case h => (rintro w9 rfl; go_wp2_with fail; (try (fail; go_wp2_with fail)); refine settled_intro (S := fun w' => w' = (wB.drewN (nA + nq)).drew) ?_; rfl)
  case h1 => (intro hk; exact absurd hk (by decide))
  case hp => first | rfl | (simp only [*]; done) | (simp only [*]; rfl)
  apply chainS_mid (by rfl)
  case h => (rintro w9 rfl; go_wp2_with fail; (try (fail; go_wp2_with fail)); refine settled_intro (S := fun w' => w' = (wB.drewN (nA + nq)).drew) ?_; rfl)
  case h1 => (intro hk; exact absurd hk (by decide))
  case hp => first | rfl | (simp only [*]; done) | (simp only [*]; rfl)
  apply chainS_mid (by rfl)
  case h => (rintro w9 rfl; go_wp2_with fail; (try (fail; go_wp2_with fail)); refine settled_intro (S := fun w' => w' = (wB.drewN (nA + nq)).drew) ?_; rfl)
  case h1 => (intro hk; exact absurd hk (by decide))
  case hp => first | rfl | (simp only [*]; done) | (simp only [*]; rfl)
  apply chainS_mid (by rfl)
  case h => (rintro w9 rfl; go_wp2_with fail; (try (fail; go_wp2_with fail)); refine settled_intro (S := fun w' => w' = (wB.drewN (nA + nq)).drew) ?_; rfl)
  case h1 => (intro hk; exact absurd hk (by decide))
  case hp => first | rfl | (simp only [*]; done) | (simp only [*]; rfl)
  apply chainS_mid (by rfl)
  case h => (rintro w9 rfl; go_wp2_with fail; (try (fail; go_wp2_with fail)); refine settled_intro (S := fun w' => w' = (wB.drewN (nA + nq)).drew) ?_; rfl)
  case h1 => (intro hk; exact absurd hk (by decide))
  case hp => first | rfl | (simp only [*]; done) | (simp only [*]; rfl)
  apply chainS_mid (by rfl)
  case h => (rintro w9 rfl; go_wp2_with fail; (try (fail; go_wp2_with fail)); refine settled_intro (S := fun w' => w' = (wB.drewN (nA + nq)).drew) ?_; rfl)
  case h1 => (intro hk; exact absurd hk (by decide))
  case hp => first | rfl | (simp only [*]; done) | (simp only [*]; rfl)
  apply chainS_mid (by rfl)
  case h => (rintro w9 rfl; go_wp2_with fail; (try (fail; go_wp2_with fail)); refine settled_intro (S := fun w' => w' = (wB.drewN (nA + nq)).drew) ?_; rfl)
  case h1 => (intro hk; exact absurd hk (by decide))
  case hp => first | rfl | (simp only [*]; done) | (simp only [*]; rfl)
  apply chainS_mid (by rfl)
  case h => (rintro w9 rfl; go_wp2_with fail; (try (fail; go_wp2_with fail)); refine settled_intro (S := fun w' => w' = (wB.drewN (nA + nq)).drew) ?_; rfl)
  case h1 => (intro hk; exact absurd hk (by decide))
  case hp => first | rfl | (simp only [*]; done) | (simp only [*]; rfl)
  apply chainS_mid (by rfl)
  case h => (rintro w9 rfl; go_wp2_with fail; (try (fail; go_wp2_with fail)); refine settled_intro (S := fun w' => w' = (wB.drewN (nA + nq)).drew) ?_; rfl)
  case h1 => (intro hk; exact absurd hk (by decide))
  case hp => first | rfl | (simp only [*]; done) | (simp only [*]; rfl)
  apply chainS_mid (by rfl)
  case h => (rintro w9 rfl; go_wp2_with fail; (try (fail; go_wp2_with fail)); refine settled_intro (S := fun w' => w' = (wB.drewN (nA + nq)).drew) ?_; rfl)
  case h1 => (intro hk; exact absurd hk (by decide))
  case hp => first | rfl | (simp only [*]; done) | (simp only [*]; rfl)
  apply chainS_store (by rfl)
  case h => (rintro w9 rfl; go_wp2_with fail; refine settled_intro (S := fun w' => w' = (wB.drewN (nA + nq)).drew.setCell ⟨g', n.toNat, none⟩ (.int .i64 x)) ?_; rfl)
  case hp => first | rfl | (simp only [*]; done) | (simp only [*]; rfl)
  refine chainS.nil ?_
  rintro _ rfl
  (try dsimp only)
  go_wp2
  go_end0
  refine ⟨rfl, ?_, ?_⟩
  · rw [HSP.out]
    exact ((HM.out.stays (below_drewN (Below.refl _ _) _)).stays (Below.refl _ _).drew).setA HA'.out E8.out _ _
  · exact .set (((Sets.here.more BB.out).drewN _).drewN 1) (by omega) (by omega)
set_option maxRecDepth 20000 in
set_option maxHeartbeats 3200000 in
theorem does_store_out (i : Ev.Instr) (k : Nat) (m : Ev.Mc) (lo mb : Nat) (va : Value) (vs : List Value) (vl : Value) (w : World) (hM : MacAt w lo mb va vs vl m) (h : i.op = 17) (ha : inR 120 i.a) (hd : inR 120 i.d) (hb0 : 0 ≤ i.b) (hb1 : i.b < (m.s.arrs.length : Int)) (hv : 0 ≤ Ev.val m.s.v i.a) (hn : ¬ Ev.val m.s.v i.a < (m.s.arrs.getD i.b.toNat []).length) :
    Calls Try.prog 93 #[.pointer (some ⟨mb, 0, none⟩), .agg #[.int .i64 i.op, .int .i64 i.d, .int .i64 i.a, .int .i64 i.b, .int .i64 i.c, .int .i64 i.imm]] w fun e w' => e = .returned (.tuple #[]) ∧ MacAt w' lo mb va vs vl { m with s := (Ev.step i k m.s).1 } ∧ Sets lo (mb + 1) w w' := by
  have hlm := hM.lm
  have sB : w.heap.size < (w.alloc (.cells #[.int .i64 i.op, .int .i64 i.d, .int .i64 i.a, .int .i64 i.b, .int .i64 i.c, .int .i64 i.imm] 39)).heap.size := by simp
  have BB := Lib.hid (show Below w.heap.size w (w.alloc (.cells #[.int .i64 i.op, .int .i64 i.d, .int .i64 i.a, .int .i64 i.b, .int .i64 i.c, .int .i64 i.imm] 39)) by (repeat' first | with_reducible (first | exact Below.refl _ _ | assumption | refine Below.alloc ?_ ?_ _ | refine below_drewN ?_ _ | refine Below.drew ?_ | refine Below.setCell ?_ ?_ _ | refine Below.trans ?_ (Below.mono (by with_reducible assumption) ?_)) | go_size))
  have n0 : (w.alloc (.cells #[.int .i64 i.op, .int .i64 i.d, .int .i64 i.a, .int .i64 i.b, .int .i64 i.c, .int .i64 i.imm] 39)).cell? ⟨w.heap.size, 0, none⟩ = some (.int .i64 i.op) := by go_simp
  have n1 : (w.alloc (.cells #[.int .i64 i.op, .int .i64 i.d, .int .i64 i.a, .int .i64 i.b, .int .i64 i.c, .int .i64 i.imm] 39)).cell? ⟨w.heap.size, 1, none⟩ = some (.int .i64 i.d) := by go_simp
  have n2 : (w.alloc (.cells #[.int .i64 i.op, .int .i64 i.d, .int .i64 i.a, .int .i64 i.b, .int .i64 i.c, .int .i64 i.imm] 39)).cell? ⟨w.heap.size, 2, none⟩ = some (.int .i64 i.a) := by go_simp
  have n3 : (w.alloc (.cells #[.int .i64 i.op, .int .i64 i.d, .int .i64 i.a, .int .i64 i.b, .int .i64 i.c, .int .i64 i.imm] 39)).cell? ⟨w.heap.size, 3, none⟩ = some (.int .i64 i.b) := by go_simp
  have n4 : (w.alloc (.cells #[.int .i64 i.op, .int .i64 i.d, .int .i64 i.a, .int .i64 i.b, .int .i64 i.c, .int .i64 i.imm] 39)).cell? ⟨w.heap.size, 4, none⟩ = some (.int .i64 i.c) := by go_simp
  have n5 : (w.alloc (.cells #[.int .i64 i.op, .int .i64 i.d, .int .i64 i.a, .int .i64 i.b, .int .i64 i.c, .int .i64 i.imm] 39)).cell? ⟨w.heap.size, 5, none⟩ = some (.int .i64 i.imm) := by go_simp
  obtain ⟨wB, hwB⟩ : ∃ wB, w.alloc (.cells #[.int .i64 i.op, .int .i64 i.d, .int .i64 i.a, .int .i64 i.b, .int .i64 i.c, .int .i64 i.imm] 39) = wB := ⟨_, rfl⟩
  have HM := Lib.hid (hM.stays BB.out)
  have HWB := Lib.hid hwB
  have lmb := hM.lt
  rw [hwB] at sB BB n0 n1 n2 n3 n4 n5 HM
  clear hM hwB
  replace lmb : mb < wB.heap.size := by omega
  have c120 := HM.out.cva
  have lml := HM.out.loose
  have ca := HM.out.cell ha
  have ha0 := ha.1
  have ha1 := ha.2
  clear ha
  have cd := HM.out.cell hd
  have hd0 := hd.1
  have hd1 := hd.2
  clear hd
  obtain ⟨a, ha'⟩ : ∃ a, m.s.arrs[i.b.toNat]? = some a := ⟨_, List.getElem?_eq_getElem (by omega)⟩
  obtain ⟨bo, co, A, ca', e1, e2, e3, e4, e5, e6, e7, e8, e9, e10, e11⟩ := Arrs.at_ HM.out.arrs ha'
  subst e1
  have hne2 : bo ≠ mb := by have := HM.out.hio bo rfl; omega
  have E11 := Lib.hid e11
  have E8 := Lib.hid e8
  have HA' := Lib.hid ha'
  clear e8 e11 ha'
  rw [List.getD_eq_getElem?_getD, HA'.out] at hn
  simp only [Option.getD_some] at hn
  have HSP := Lib.hid (@Ev.step_store_out i k m.s h a HA'.out hn)
  generalize Ev.val m.s.v i.a = n at *
  have HOP := Lib.hid h
  clear h
  go_enter Try.func93, Try.ntmps93
  go_upto_region 1 with fail
  rw [HWB.out]
  have h := HOP.out
  go_wp2_with fail
  go_quiet (fail)
  generalize nq = nA at *
  go_wp2_with fail
  go_quiet (fail)
  go_wp2_with fail
  go_end0
  refine ⟨rfl, ?_, ?_⟩
  · rw [HSP.out]
    exact (HM.out.stays (below_drewN (Below.refl _ _) _)).stays (below_drewN (Below.refl _ _) _)
  · exact ((Sets.here.more BB.out).drewN _).drewN _
theorem does_any (na : Nat) (i : Ev.Instr) (k : Nat) (m : Ev.Mc) (lo mb : Nat) (va : Value) (vs : List Value) (vl : Value) (w : World) (hM : MacAt w lo mb va vs vl m) (h17 : i.op ≤ 17) (hi : Ev.Ok na i) (hF : Ev.FineM na m.s) :
    Calls Try.prog 93 #[.pointer (some ⟨mb, 0, none⟩), .agg #[.int .i64 i.op, .int .i64 i.d, .int .i64 i.a, .int .i64 i.b, .int .i64 i.c, .int .i64 i.imm]] w fun e w' => e = .returned (.tuple #[]) ∧ MacAt w' lo mb va vs vl { m with s := (Ev.step i k m.s).1 } ∧ Sets lo (mb + 1) w w' := by
  have hop := hi.op
  have rd : ∀ p ∈ Ev.reads i, inR 120 p := hi.reads
  have mk : inR 120 i.d := hi.d
  have va0 := (hF.val i.a).1
  have ar : i.op = 16 ∨ i.op = 17 → 0 ≤ i.b ∧ i.b < (m.s.arrs.length : Int) := fun h => by rw [hF.alen]; exact hi.arr h
  rcases (show i.op ≤ 12 ∨ i.op = 13 ∨ i.op = 14 ∨ i.op = 15 ∨ i.op = 16 ∨ i.op = 17 by omega) with h | h | h | h | h | h
  · have er : Ev.reads i = [i.a, i.b] := by unfold Ev.reads; rw [if_pos (by omega)]
    exact does_two i k m lo mb va vs vl w hM h (rd _ (by rw [er]; simp)) (rd _ (by rw [er]; simp)) mk
  · have er : Ev.reads i = [i.a, i.b, i.c] := by unfold Ev.reads; rw [if_neg (by omega), if_pos h]
    exact does_sel i k m lo mb va vs vl w hM h (rd _ (by rw [er]; simp)) (rd _ (by rw [er]; simp)) (rd _ (by rw [er]; simp)) mk
  · exact does_const i k m lo mb va vs vl w hM h mk
  · have er : Ev.reads i = [i.a] := by unfold Ev.reads; rw [if_neg (by omega), if_neg (by omega), if_neg (by omega), if_pos (by omega)]
    exact does_move i k m lo mb va vs vl w hM h (rd _ (by rw [er]; simp)) mk
  · have er : Ev.reads i = [i.a] := by unfold Ev.reads; rw [if_neg (by omega), if_neg (by omega), if_neg (by omega), if_pos (by omega)]
    obtain ⟨b0, b1⟩ := ar (.inl h)
    by_cases hn : Ev.val m.s.v i.a < (m.s.arrs.getD i.b.toNat []).length
    · exact does_load_in i k m lo mb va vs vl w hM h (rd _ (by rw [er]; simp)) mk b0 b1 va0 hn
    · exact does_load_out i k m lo mb va vs vl w hM h (rd _ (by rw [er]; simp)) mk b0 b1 va0 hn
  · have er : Ev.reads i = [i.a, i.d] := by unfold Ev.reads; rw [if_neg (by omega), if_neg (by omega), if_pos h]
    obtain ⟨b0, b1⟩ := ar (.inr h)
    by_cases hn : Ev.val m.s.v i.a < (m.s.arrs.getD i.b.toNat []).length
    · exact does_store_in i k m lo mb va vs vl w hM h (rd _ (by rw [er]; simp)) (rd _ (by rw [er]; simp)) b0 b1 va0 hn
    · exact does_store_out i k m lo mb va vs vl w hM h (rd _ (by rw [er]; simp)) (rd _ (by rw [er]; simp)) b0 b1 va0 hn
end Go.Proofs.Ytljcgcllhcdleaa
