import Derived.Test.YtljcgcllhcdleaaMo9
/- Chapter 11: one instruction of the machine. -/
namespace Ev
theorem mc_on {i : Instr} {m : Mc} {s' : St} {k : Nat} (h : step i m.pc m.s = (s', some k)) : mcStep i m = ({ m with s := s', pc := k }, false) := by
  unfold mcStep; rw [h]
theorem mc_ret {i : Instr} {m : Mc} (h : i.op = 20) : mcStep i m = ({ m with pc := m.pc + 1, wd := val m.s.v i.a }, true) := by
  unfold mcStep; rw [step_end (.inl h), ]; dsimp only; rw [if_neg (by omega)]
theorem mc_trap {i : Instr} {m : Mc} (h : i.op = 21) : mcStep i m = ({ m with pc := m.pc + 1, tr := true }, true) := by
  unfold mcStep; rw [step_end (.inr h)]; dsimp only; rw [if_pos h]
end Ev
namespace Go.Proofs.Ytljcgcllhcdleaa
open Go.RowKit
set_option linter.unusedSimpArgs false
set_option linter.unusedVariables false
theorem and_one (x : Int) (h0 : 0 ≤ x) (h1 : x ≤ 4294967295) : bits BinOp.and IntKind.i64 x 1 = x % 2 := by
  obtain ⟨y, rfl⟩ := Int.eq_ofNat_of_zero_le h0
  have e : y &&& 1 = y % 2 := Nat.and_one_is_mod y
  have e2 : (18446744073709551616 : Int).toNat = 18446744073709551616 := rfl
  have e1 : ((y : Int) % 18446744073709551616).toNat = y := by omega
  unfold bits
  simp only [IntKind.bits]
  show IntKind.i64.wrap (((((y : Int) % 18446744073709551616).toNat &&& ((1 : Int) % 18446744073709551616).toNat : Nat)) : Int) = _
  rw [e1, show ((1 : Int) % 18446744073709551616).toNat = 1 from rfl, e, IntKind.wrap_i64]
  omega
set_option maxRecDepth 20000 in
set_option maxHeartbeats 3200000 in
theorem step_jump (i : Ev.Instr) (m : Ev.Mc) (lo mb : Nat) (va : Value) (vs : List Value) (vl : Value) (w : World) (hM : MacAt w lo mb va vs vl m) (hk : m.pc ≤ 1099511627776) (h : i.op = 18) (hj : 0 ≤ i.imm) :
    Calls Try.prog 77 #[.pointer (some ⟨mb, 0, none⟩), .agg #[.int .i64 i.op, .int .i64 i.d, .int .i64 i.a, .int .i64 i.b, .int .i64 i.c, .int .i64 i.imm]] w fun e w' => e = .returned (.bool (Ev.mcStep i m).2) ∧ MacAt w' lo mb va vs vl (Ev.mcStep i m).1 ∧ Sets lo (mb + 1) w w' := by
  have hlm := hM.lm
  have sB : w.heap.size < (w.alloc (.cells #[.int .i64 i.op, .int .i64 i.d, .int .i64 i.a, .int .i64 i.b, .int .i64 i.c, .int .i64 i.imm] 39)).heap.size := by simp
  have BB := Lib.hid (show Below w.heap.size w (w.alloc (.cells #[.int .i64 i.op, .int .i64 i.d, .int .i64 i.a, .int .i64 i.b, .int .i64 i.c, .int .i64 i.imm] 39)) by (repeat' first | with_reducible (first | exact Below.refl _ _ | assumption | refine Below.alloc ?_ ?_ _ | refine below_drewN ?_ _ | refine Below.drew ?_ | refine Below.setCell ?_ ?_ _ | refine Below.trans ?_ (Below.mono (by with_reducible assumption) ?_)) | go_size))
  have n0 : (w.alloc (.cells #[.int .i64 i.op, .int .i64 i.d, .int .i64 i.a, .int .i64 i.b, .int .i64 i.c, .int .i64 i.imm] 39)).cell? ⟨w.heap.size, 0, none⟩ = some (.int .i64 i.op) := by go_simp
  have n1 : (w.alloc (.cells #[.int .i64 i.op, .int .i64 i.d, .int .i64 i.a, .int .i64 i.b, .int .i64 i.c, .int .i64 i.imm] 39)).cell? ⟨w.heap.size, 1, none⟩ = some (.int .i64 i.d) := by go_simp
  have n2 : (w.alloc (.cells #[.int .i64 i.op, .int .i64 i.d, .int .i64 i.a, .int .i64 i.b, .int .i64 i.c, .int .i64 i.imm] 39)).cell? ⟨w.heap.size, 2, none⟩ = some (.int .i64 i.a) := by go_simp
  have n3 : (w.alloc (.cells #[.int .i64 i.op, .int .i64 i.d, .int .i64 i.a, .int .i64 i.b, .int .i64 i.c, .int .i64 i.imm] 39)).cell? ⟨w.heap.size, 3, none⟩ = some (.int .i64 i.b) := by go_simp
  have n4 : (w.alloc (.cells #[.int .i64 i.op, .int .i64 i.d, .int .i64 i.a, .int .i64 i.b, .int .i64 i.c, .int .i64 i.imm] 39)).cell? ⟨w.heap.size, 4, none⟩ = some (.int .i64 i.c) := by go_simp
  have n5 : (w.alloc (.cells #[.int .i64 i.op, .int .i64 i.d, .int .i64 i.a, .int .i64 i.b, .int .i64 i.c, .int .i64 i.imm] 39)).cell? ⟨w.heap.size, 5, none⟩ = some (.int .i64 i.imm) := by go_simp
  obtain ⟨wB, hwB⟩ : ∃ wB, w.alloc (.cells #[.int .i64 i.op, .int .i64 i.d, .int .i64 i.a, .int .i64 i.b, .int .i64 i.c, .int .i64 i.imm] 39) = wB := ⟨_, rfl⟩
  have HM0 := Lib.hid (hM.stays BB.out)
  have HWB := Lib.hid hwB
  have lmb := hM.lt
  have hne : mb ≠ w.heap.size := by omega
  rw [hwB] at sB BB n0 n1 n2 n3 n4 n5 HM0
  clear hM hwB
  replace lmb : mb < wB.heap.size := by omega
  have c122 := HM0.out.cpc
  have f122 := HM0.out.loose 122
  have HSP := Lib.hid (Ev.mc_on (@Ev.step_jump i m.pc m.s h))
  have HOP := Lib.hid h
  clear h
  go_enter Try.func77, Try.ntmps77
  go_upto_region 1 with fail
  rw [HWB.out]
  go_upto_region 2 with fail
  have HM := Lib.hid (HM0.out.setPc (m.pc + 1) (x := (m.pc : Int) + 1) (by push_cast; rfl))
  have BS : Hid (Sets lo (mb + 1) w (wB.setCell ⟨mb, 122, none⟩ (.int .i64 ((m.pc : Int) + 1)))) := .set (Sets.here.more BB.out) hlm (Nat.lt_succ_self _)
  have zC : (wB.setCell ⟨mb, 122, none⟩ (.int .i64 ((m.pc : Int) + 1))).heap.size = wB.heap.size := by simp
  replace n0 : (wB.setCell ⟨mb, 122, none⟩ (.int .i64 ((m.pc : Int) + 1))).cell? ⟨w.heap.size, 0, none⟩ = some (.int .i64 i.op) := (World.cell?_setCell_other _ _ _ _ (by intro e; injection e with e; omega)).trans n0
  replace n1 : (wB.setCell ⟨mb, 122, none⟩ (.int .i64 ((m.pc : Int) + 1))).cell? ⟨w.heap.size, 1, none⟩ = some (.int .i64 i.d) := (World.cell?_setCell_other _ _ _ _ (by intro e; injection e with e; omega)).trans n1
  replace n2 : (wB.setCell ⟨mb, 122, none⟩ (.int .i64 ((m.pc : Int) + 1))).cell? ⟨w.heap.size, 2, none⟩ = some (.int .i64 i.a) := (World.cell?_setCell_other _ _ _ _ (by intro e; injection e with e; omega)).trans n2
  replace n3 : (wB.setCell ⟨mb, 122, none⟩ (.int .i64 ((m.pc : Int) + 1))).cell? ⟨w.heap.size, 3, none⟩ = some (.int .i64 i.b) := (World.cell?_setCell_other _ _ _ _ (by intro e; injection e with e; omega)).trans n3
  replace n4 : (wB.setCell ⟨mb, 122, none⟩ (.int .i64 ((m.pc : Int) + 1))).cell? ⟨w.heap.size, 4, none⟩ = some (.int .i64 i.c) := (World.cell?_setCell_other _ _ _ _ (by intro e; injection e with e; omega)).trans n4
  replace n5 : (wB.setCell ⟨mb, 122, none⟩ (.int .i64 ((m.pc : Int) + 1))).cell? ⟨w.heap.size, 5, none⟩ = some (.int .i64 i.imm) := (World.cell?_setCell_other _ _ _ _ (by intro e; injection e with e; omega)).trans n5
  obtain ⟨wC, hwC⟩ : ∃ wC, wB.setCell ⟨mb, 122, none⟩ (.int .i64 ((m.pc : Int) + 1)) = wC := ⟨_, rfl⟩
  rw [hwC] at HM BS n0 n1 n2 n3 n4 n5 zC ⊢
  replace lmb : mb < wC.heap.size := by omega
  replace sB : w.heap.size < wC.heap.size := by omega
  clear hwC zC c122 f122 HM0 BB
  have c121 := HM.out.cmode
  have c122 := HM.out.cpc
  have c123 := HM.out.cwd
  have c124 := HM.out.ctr
  have lml := HM.out.loose
  have h := HOP.out
  go_wp2
  go_ret
  refine ⟨by rw [HSP.out]; rfl, ?_, ?_⟩
  · rw [HSP.out]
    exact HM.out.setPc i.imm.toNat (by omega)
  · exact .set BS.out hlm (Nat.lt_succ_self _)
set_option maxRecDepth 20000 in
set_option maxHeartbeats 3200000 in
theorem step_zero_yes (i : Ev.Instr) (m : Ev.Mc) (lo mb : Nat) (va : Value) (vs : List Value) (vl : Value) (w : World) (hM : MacAt w lo mb va vs vl m) (hk : m.pc ≤ 1099511627776) (h : i.op = 19) (ha : inR 120 i.a) (hj : 0 ≤ i.imm) (h0 : Ev.val m.s.v i.a = 0) :
    Calls Try.prog 77 #[.pointer (some ⟨mb, 0, none⟩), .agg #[.int .i64 i.op, .int .i64 i.d, .int .i64 i.a, .int .i64 i.b, .int .i64 i.c, .int .i64 i.imm]] w fun e w' => e = .returned (.bool (Ev.mcStep i m).2) ∧ MacAt w' lo mb va vs vl (Ev.mcStep i m).1 ∧ Sets lo (mb + 1) w w' := by
  have hlm := hM.lm
  have sB : w.heap.size < (w.alloc (.cells #[.int .i64 i.op, .int .i64 i.d, .int .i64 i.a, .int .i64 i.b, .int .i64 i.c, .int .i64 i.imm] 39)).heap.size := by simp
  have BB := Lib.hid (show Below w.heap.size w (w.alloc (.cells #[.int .i64 i.op, .int .i64 i.d, .int .i64 i.a, .int .i64 i.b, .int .i64 i.c, .int .i64 i.imm] 39)) by (repeat' first | with_reducible (first | exact Below.refl _ _ | assumption | refine Below.alloc ?_ ?_ _ | refine below_drewN ?_ _ | refine Below.drew ?_ | refine Below.setCell ?_ ?_ _ | refine Below.trans ?_ (Below.mono (by with_reducible assumption) ?_)) | go_size))
  have n0 : (w.alloc (.cells #[.int .i64 i.op, .int .i64 i.d, .int .i64 i.a, .int .i64 i.b, .int .i64 i.c, .int .i64 i.imm] 39)).cell? ⟨w.heap.size, 0, none⟩ = some (.int .i64 i.op) := by go_simp
  have n1 : (w.alloc (.cells #[.int .i64 i.op, .int .i64 i.d, .int .i64 i.a, .int .i64 i.b, .int .i64 i.c, .int .i64 i.imm] 39)).cell? ⟨w.heap.size, 1, none⟩ = some (.int .i64 i.d) := by go_simp
  have n2 : (w.alloc (.cells #[.int .i64 i.op, .int .i64 i.d, .int .i64 i.a, .int .i64 i.b, .int .i64 i.c, .int .i64 i.imm] 39)).cell? ⟨w.heap.size, 2, none⟩ = some (.int .i64 i.a) := by go_simp
  have n3 : (w.alloc (.cells #[.int .i64 i.op, .int .i64 i.d, .int .i64 i.a, .int .i64 i.b, .int .i64 i.c, .int .i64 i.imm] 39)).cell? ⟨w.heap.size, 3, none⟩ = some (.int .i64 i.b) := by go_simp
  have n4 : (w.alloc (.cells #[.int .i64 i.op, .int .i64 i.d, .int .i64 i.a, .int .i64 i.b, .int .i64 i.c, .int .i64 i.imm] 39)).cell? ⟨w.heap.size, 4, none⟩ = some (.int .i64 i.c) := by go_simp
  have n5 : (w.alloc (.cells #[.int .i64 i.op, .int .i64 i.d, .int .i64 i.a, .int .i64 i.b, .int .i64 i.c, .int .i64 i.imm] 39)).cell? ⟨w.heap.size, 5, none⟩ = some (.int .i64 i.imm) := by go_simp
  obtain ⟨wB, hwB⟩ : ∃ wB, w.alloc (.cells #[.int .i64 i.op, .int .i64 i.d, .int .i64 i.a, .int .i64 i.b, .int .i64 i.c, .int .i64 i.imm] 39) = wB := ⟨_, rfl⟩
  have HM0 := Lib.hid (hM.stays BB.out)
  have HWB := Lib.hid hwB
  have lmb := hM.lt
  have hne : mb ≠ w.heap.size := by omega
  rw [hwB] at sB BB n0 n1 n2 n3 n4 n5 HM0
  clear hM hwB
  replace lmb : mb < wB.heap.size := by omega
  have c122 := HM0.out.cpc
  have f122 := HM0.out.loose 122
  have HSP := Lib.hid (Ev.mc_on (@Ev.step_zero_yes i m.pc m.s h h0))
  have H0 := Lib.hid h0
  clear h0
  have HOP := Lib.hid h
  clear h
  go_enter Try.func77, Try.ntmps77
  go_upto_region 1 with fail
  rw [HWB.out]
  go_upto_region 2 with fail
  have HM := Lib.hid (HM0.out.setPc (m.pc + 1) (x := (m.pc : Int) + 1) (by push_cast; rfl))
  have BS : Hid (Sets lo (mb + 1) w (wB.setCell ⟨mb, 122, none⟩ (.int .i64 ((m.pc : Int) + 1)))) := .set (Sets.here.more BB.out) hlm (Nat.lt_succ_self _)
  have zC : (wB.setCell ⟨mb, 122, none⟩ (.int .i64 ((m.pc : Int) + 1))).heap.size = wB.heap.size := by simp
  replace n0 : (wB.setCell ⟨mb, 122, none⟩ (.int .i64 ((m.pc : Int) + 1))).cell? ⟨w.heap.size, 0, none⟩ = some (.int .i64 i.op) := (World.cell?_setCell_other _ _ _ _ (by intro e; injection e with e; omega)).trans n0
  replace n1 : (wB.setCell ⟨mb, 122, none⟩ (.int .i64 ((m.pc : Int) + 1))).cell? ⟨w.heap.size, 1, none⟩ = some (.int .i64 i.d) := (World.cell?_setCell_other _ _ _ _ (by intro e; injection e with e; omega)).trans n1
  replace n2 : (wB.setCell ⟨mb, 122, none⟩ (.int .i64 ((m.pc : Int) + 1))).cell? ⟨w.heap.size, 2, none⟩ = some (.int .i64 i.a) := (World.cell?_setCell_other _ _ _ _ (by intro e; injection e with e; omega)).trans n2
  replace n3 : (wB.setCell ⟨mb, 122, none⟩ (.int .i64 ((m.pc : Int) + 1))).cell? ⟨w.heap.size, 3, none⟩ = some (.int .i64 i.b) := (World.cell?_setCell_other _ _ _ _ (by intro e; injection e with e; omega)).trans n3
  replace n4 : (wB.setCell ⟨mb, 122, none⟩ (.int .i64 ((m.pc : Int) + 1))).cell? ⟨w.heap.size, 4, none⟩ = some (.int .i64 i.c) := (World.cell?_setCell_other _ _ _ _ (by intro e; injection e with e; omega)).trans n4
  replace n5 : (wB.setCell ⟨mb, 122, none⟩ (.int .i64 ((m.pc : Int) + 1))).cell? ⟨w.heap.size, 5, none⟩ = some (.int .i64 i.imm) := (World.cell?_setCell_other _ _ _ _ (by intro e; injection e with e; omega)).trans n5
  obtain ⟨wC, hwC⟩ : ∃ wC, wB.setCell ⟨mb, 122, none⟩ (.int .i64 ((m.pc : Int) + 1)) = wC := ⟨_, rfl⟩
  rw [hwC] at HM BS n0 n1 n2 n3 n4 n5 zC ⊢
  replace lmb : mb < wC.heap.size := by omega
  replace sB : w.heap.size < wC.heap.size := by omega
  clear hwC zC c122 f122 HM0 BB
  have c121 := HM.out.cmode
  have c122 := HM.out.cpc
  have c123 := HM.out.cwd
  have c124 := HM.out.ctr
  have lml := HM.out.loose
  have ca := HM.out.cell ha
  have ha0 := ha.1
  have ha1 := ha.2
  clear ha
  have h := HOP.out
  have h0 := H0.out
  rw [h0] at ca
  clear h0
  go_wp2_with fail
  go_quiet (fail)
  go_wp2
  go_ret
  refine ⟨by rw [HSP.out]; rfl, ?_, ?_⟩
  · rw [HSP.out]
    exact (HM.out.stays (below_drewN (Below.refl _ _) _)).setPc i.imm.toNat (by omega)
  · exact .set (BS.out.drewN _) hlm (Nat.lt_succ_self _)
set_option maxRecDepth 20000 in
set_option maxHeartbeats 3200000 in
theorem step_zero_no (i : Ev.Instr) (m : Ev.Mc) (lo mb : Nat) (va : Value) (vs : List Value) (vl : Value) (w : World) (hM : MacAt w lo mb va vs vl m) (hk : m.pc ≤ 1099511627776) (h : i.op = 19) (ha : inR 120 i.a) (hj : 0 ≤ i.imm) (h0 : ¬ Ev.val m.s.v i.a = 0) :
    Calls Try.prog 77 #[.pointer (some ⟨mb, 0, none⟩), .agg #[.int .i64 i.op, .int .i64 i.d, .int .i64 i.a, .int .i64 i.b, .int .i64 i.c, .int .i64 i.imm]] w fun e w' => e = .returned (.bool (Ev.mcStep i m).2) ∧ MacAt w' lo mb va vs vl (Ev.mcStep i m).1 ∧ Sets lo (mb + 1) w w' := by
  have hlm := hM.lm
  have sB : w.heap.size < (w.alloc (.cells #[.int .i64 i.op, .int .i64 i.d, .int .i64 i.a, .int .i64 i.b, .int .i64 i.c, .int .i64 i.imm] 39)).heap.size := by simp
  have BB := Lib.hid (show Below w.heap.size w (w.alloc (.cells #[.int .i64 i.op, .int .i64 i.d, .int .i64 i.a, .int .i64 i.b, .int .i64 i.c, .int .i64 i.imm] 39)) by (repeat' first | with_reducible (first | exact Below.refl _ _ | assumption | refine Below.alloc ?_ ?_ _ | refine below_drewN ?_ _ | refine Below.drew ?_ | refine Below.setCell ?_ ?_ _ | refine Below.trans ?_ (Below.mono (by with_reducible assumption) ?_)) | go_size))
  have n0 : (w.alloc (.cells #[.int .i64 i.op, .int .i64 i.d, .int .i64 i.a, .int .i64 i.b, .int .i64 i.c, .int .i64 i.imm] 39)).cell? ⟨w.heap.size, 0, none⟩ = some (.int .i64 i.op) := by go_simp
  have n1 : (w.alloc (.cells #[.int .i64 i.op, .int .i64 i.d, .int .i64 i.a, .int .i64 i.b, .int .i64 i.c, .int .i64 i.imm] 39)).cell? ⟨w.heap.size, 1, none⟩ = some (.int .i64 i.d) := by go_simp
  have n2 : (w.alloc (.cells #[.int .i64 i.op, .int .i64 i.d, .int .i64 i.a, .int .i64 i.b, .int .i64 i.c, .int .i64 i.imm] 39)).cell? ⟨w.heap.size, 2, none⟩ = some (.int .i64 i.a) := by go_simp
  have n3 : (w.alloc (.cells #[.int .i64 i.op, .int .i64 i.d, .int .i64 i.a, .int .i64 i.b, .int .i64 i.c, .int .i64 i.imm] 39)).cell? ⟨w.heap.size, 3, none⟩ = some (.int .i64 i.b) := by go_simp
  have n4 : (w.alloc (.cells #[.int .i64 i.op, .int .i64 i.d, .int .i64 i.a, .int .i64 i.b, .int .i64 i.c, .int .i64 i.imm] 39)).cell? ⟨w.heap.size, 4, none⟩ = some (.int .i64 i.c) := by go_simp
  have n5 : (w.alloc (.cells #[.int .i64 i.op, .int .i64 i.d, .int .i64 i.a, .int .i64 i.b, .int .i64 i.c, .int .i64 i.imm] 39)).cell? ⟨w.heap.size, 5, none⟩ = some (.int .i64 i.imm) := by go_simp
  obtain ⟨wB, hwB⟩ : ∃ wB, w.alloc (.cells #[.int .i64 i.op, .int .i64 i.d, .int .i64 i.a, .int .i64 i.b, .int .i64 i.c, .int .i64 i.imm] 39) = wB := ⟨_, rfl⟩
  have HM0 := Lib.hid (hM.stays BB.out)
  have HWB := Lib.hid hwB
  have lmb := hM.lt
  have hne : mb ≠ w.heap.size := by omega
  rw [hwB] at sB BB n0 n1 n2 n3 n4 n5 HM0
  clear hM hwB
  replace lmb : mb < wB.heap.size := by omega
  have c122 := HM0.out.cpc
  have f122 := HM0.out.loose 122
  have HSP := Lib.hid (Ev.mc_on (@Ev.step_zero_no i m.pc m.s h h0))
  have H0 := Lib.hid h0
  clear h0
  have HOP := Lib.hid h
  clear h
  go_enter Try.func77, Try.ntmps77
  go_upto_region 1 with fail
  rw [HWB.out]
  go_upto_region 2 with fail
  have HM := Lib.hid (HM0.out.setPc (m.pc + 1) (x := (m.pc : Int) + 1) (by push_cast; rfl))
  have BS : Hid (Sets lo (mb + 1) w (wB.setCell ⟨mb, 122, none⟩ (.int .i64 ((m.pc : Int) + 1)))) := .set (Sets.here.more BB.out) hlm (Nat.lt_succ_self _)
  have zC : (wB.setCell ⟨mb, 122, none⟩ (.int .i64 ((m.pc : Int) + 1))).heap.size = wB.heap.size := by simp
  replace n0 : (wB.setCell ⟨mb, 122, none⟩ (.int .i64 ((m.pc : Int) + 1))).cell? ⟨w.heap.size, 0, none⟩ = some (.int .i64 i.op) := (World.cell?_setCell_other _ _ _ _ (by intro e; injection e with e; omega)).trans n0
  replace n1 : (wB.setCell ⟨mb, 122, none⟩ (.int .i64 ((m.pc : Int) + 1))).cell? ⟨w.heap.size, 1, none⟩ = some (.int .i64 i.d) := (World.cell?_setCell_other _ _ _ _ (by intro e; injection e with e; omega)).trans n1
  replace n2 : (wB.setCell ⟨mb, 122, none⟩ (.int .i64 ((m.pc : Int) + 1))).cell? ⟨w.heap.size, 2, none⟩ = some (.int .i64 i.a) := (World.cell?_setCell_other _ _ _ _ (by intro e; injection e with e; omega)).trans n2
  replace n3 : (wB.setCell ⟨mb, 122, none⟩ (.int .i64 ((m.pc : Int) + 1))).cell? ⟨w.heap.size, 3, none⟩ = some (.int .i64 i.b) := (World.cell?_setCell_other _ _ _ _ (by intro e; injection e with e; omega)).trans n3
  replace n4 : (wB.setCell ⟨mb, 122, none⟩ (.int .i64 ((m.pc : Int) + 1))).cell? ⟨w.heap.size, 4, none⟩ = some (.int .i64 i.c) := (World.cell?_setCell_other _ _ _ _ (by intro e; injection e with e; omega)).trans n4
  replace n5 : (wB.setCell ⟨mb, 122, none⟩ (.int .i64 ((m.pc : Int) + 1))).cell? ⟨w.heap.size, 5, none⟩ = some (.int .i64 i.imm) := (World.cell?_setCell_other _ _ _ _ (by intro e; injection e with e; omega)).trans n5
  obtain ⟨wC, hwC⟩ : ∃ wC, wB.setCell ⟨mb, 122, none⟩ (.int .i64 ((m.pc : Int) + 1)) = wC := ⟨_, rfl⟩
  rw [hwC] at HM BS n0 n1 n2 n3 n4 n5 zC ⊢
  replace lmb : mb < wC.heap.size := by omega
  replace sB : w.heap.size < wC.heap.size := by omega
  clear hwC zC c122 f122 HM0 BB
  have c121 := HM.out.cmode
  have c122 := HM.out.cpc
  have c123 := HM.out.cwd
  have c124 := HM.out.ctr
  have lml := HM.out.loose
  have ca := HM.out.cell ha
  have ha0 := ha.1
  have ha1 := ha.2
  clear ha
  have h := HOP.out
  have h0 := H0.out
  generalize Ev.val m.s.v i.a = n at *
  have h00 : (n == 0) = false := by simpa using h0
  clear h0
  go_wp2_with fail
  go_quiet (fail)
  go_wp2
  go_ret
  refine ⟨by rw [HSP.out]; rfl, ?_, ?_⟩
  · rw [HSP.out]
    exact HM.out.stays (below_drewN (Below.refl _ _) _)
  · exact BS.out.drewN _
set_option maxRecDepth 20000 in
set_option maxHeartbeats 3200000 in
theorem step_ret (i : Ev.Instr) (m : Ev.Mc) (lo mb : Nat) (va : Value) (vs : List Value) (vl : Value) (w : World) (hM : MacAt w lo mb va vs vl m) (hk : m.pc ≤ 1099511627776) (h : i.op = 20) (ha : inR 120 i.a) :
    Calls Try.prog 77 #[.pointer (some ⟨mb, 0, none⟩), .agg #[.int .i64 i.op, .int .i64 i.d, .int .i64 i.a, .int .i64 i.b, .int .i64 i.c, .int .i64 i.imm]] w fun e w' => e = .returned (.bool (Ev.mcStep i m).2) ∧ MacAt w' lo mb va vs vl (Ev.mcStep i m).1 ∧ Sets lo (mb + 1) w w' := by
  have hlm := hM.lm
  have sB : w.heap.size < (w.alloc (.cells #[.int .i64 i.op, .int .i64 i.d, .int .i64 i.a, .int .i64 i.b, .int .i64 i.c, .int .i64 i.imm] 39)).heap.size := by simp
  have BB := Lib.hid (show Below w.heap.size w (w.alloc (.cells #[.int .i64 i.op, .int .i64 i.d, .int .i64 i.a, .int .i64 i.b, .int .i64 i.c, .int .i64 i.imm] 39)) by (repeat' first | with_reducible (first | exact Below.refl _ _ | assumption | refine Below.alloc ?_ ?_ _ | refine below_drewN ?_ _ | refine Below.drew ?_ | refine Below.setCell ?_ ?_ _ | refine Below.trans ?_ (Below.mono (by with_reducible assumption) ?_)) | go_size))
  have n0 : (w.alloc (.cells #[.int .i64 i.op, .int .i64 i.d, .int .i64 i.a, .int .i64 i.b, .int .i64 i.c, .int .i64 i.imm] 39)).cell? ⟨w.heap.size, 0, none⟩ = some (.int .i64 i.op) := by go_simp
  have n1 : (w.alloc (.cells #[.int .i64 i.op, .int .i64 i.d, .int .i64 i.a, .int .i64 i.b, .int .i64 i.c, .int .i64 i.imm] 39)).cell? ⟨w.heap.size, 1, none⟩ = some (.int .i64 i.d) := by go_simp
  have n2 : (w.alloc (.cells #[.int .i64 i.op, .int .i64 i.d, .int .i64 i.a, .int .i64 i.b, .int .i64 i.c, .int .i64 i.imm] 39)).cell? ⟨w.heap.size, 2, none⟩ = some (.int .i64 i.a) := by go_simp
  have n3 : (w.alloc (.cells #[.int .i64 i.op, .int .i64 i.d, .int .i64 i.a, .int .i64 i.b, .int .i64 i.c, .int .i64 i.imm] 39)).cell? ⟨w.heap.size, 3, none⟩ = some (.int .i64 i.b) := by go_simp
  have n4 : (w.alloc (.cells #[.int .i64 i.op, .int .i64 i.d, .int .i64 i.a, .int .i64 i.b, .int .i64 i.c, .int .i64 i.imm] 39)).cell? ⟨w.heap.size, 4, none⟩ = some (.int .i64 i.c) := by go_simp
  have n5 : (w.alloc (.cells #[.int .i64 i.op, .int .i64 i.d, .int .i64 i.a, .int .i64 i.b, .int .i64 i.c, .int .i64 i.imm] 39)).cell? ⟨w.heap.size, 5, none⟩ = some (.int .i64 i.imm) := by go_simp
  obtain ⟨wB, hwB⟩ : ∃ wB, w.alloc (.cells #[.int .i64 i.op, .int .i64 i.d, .int .i64 i.a, .int .i64 i.b, .int .i64 i.c, .int .i64 i.imm] 39) = wB := ⟨_, rfl⟩
  have HM0 := Lib.hid (hM.stays BB.out)
  have HWB := Lib.hid hwB
  have lmb := hM.lt
  have hne : mb ≠ w.heap.size := by omega
  rw [hwB] at sB BB n0 n1 n2 n3 n4 n5 HM0
  clear hM hwB
  replace lmb : mb < wB.heap.size := by omega
  have c122 := HM0.out.cpc
  have f122 := HM0.out.loose 122
  have HSP := Lib.hid (@Ev.mc_ret i m h)
  have HOP := Lib.hid h
  clear h
  go_enter Try.func77, Try.ntmps77
  go_upto_region 1 with fail
  rw [HWB.out]
  go_upto_region 2 with fail
  have HM := Lib.hid (HM0.out.setPc (m.pc + 1) (x := (m.pc : Int) + 1) (by push_cast; rfl))
  have BS : Hid (Sets lo (mb + 1) w (wB.setCell ⟨mb, 122, none⟩ (.int .i64 ((m.pc : Int) + 1)))) := .set (Sets.here.more BB.out) hlm (Nat.lt_succ_self _)
  have zC : (wB.setCell ⟨mb, 122, none⟩ (.int .i64 ((m.pc : Int) + 1))).heap.size = wB.heap.size := by simp
  replace n0 : (wB.setCell ⟨mb, 122, none⟩ (.int .i64 ((m.pc : Int) + 1))).cell? ⟨w.heap.size, 0, none⟩ = some (.int .i64 i.op) := (World.cell?_setCell_other _ _ _ _ (by intro e; injection e with e; omega)).trans n0
  replace n1 : (wB.setCell ⟨mb, 122, none⟩ (.int .i64 ((m.pc : Int) + 1))).cell? ⟨w.heap.size, 1, none⟩ = some (.int .i64 i.d) := (World.cell?_setCell_other _ _ _ _ (by intro e; injection e with e; omega)).trans n1
  replace n2 : (wB.setCell ⟨mb, 122, none⟩ (.int .i64 ((m.pc : Int) + 1))).cell? ⟨w.heap.size, 2, none⟩ = some (.int .i64 i.a) := (World.cell?_setCell_other _ _ _ _ (by intro e; injection e with e; omega)).trans n2
  replace n3 : (wB.setCell ⟨mb, 122, none⟩ (.int .i64 ((m.pc : Int) + 1))).cell? ⟨w.heap.size, 3, none⟩ = some (.int .i64 i.b) := (World.cell?_setCell_other _ _ _ _ (by intro e; injection e with e; omega)).trans n3
  replace n4 : (wB.setCell ⟨mb, 122, none⟩ (.int .i64 ((m.pc : Int) + 1))).cell? ⟨w.heap.size, 4, none⟩ = some (.int .i64 i.c) := (World.cell?_setCell_other _ _ _ _ (by intro e; injection e with e; omega)).trans n4
  replace n5 : (wB.setCell ⟨mb, 122, none⟩ (.int .i64 ((m.pc : Int) + 1))).cell? ⟨w.heap.size, 5, none⟩ = some (.int .i64 i.imm) := (World.cell?_setCell_other _ _ _ _ (by intro e; injection e with e; omega)).trans n5
  obtain ⟨wC, hwC⟩ : ∃ wC, wB.setCell ⟨mb, 122, none⟩ (.int .i64 ((m.pc : Int) + 1)) = wC := ⟨_, rfl⟩
  rw [hwC] at HM BS n0 n1 n2 n3 n4 n5 zC ⊢
  replace lmb : mb < wC.heap.size := by omega
  replace sB : w.heap.size < wC.heap.size := by omega
  clear hwC zC c122 f122 HM0 BB
  have c121 := HM.out.cmode
  have c122 := HM.out.cpc
  have c123 := HM.out.cwd
  have c124 := HM.out.ctr
  have lml := HM.out.loose
  have ca := HM.out.cell ha
  have ha0 := ha.1
  have ha1 := ha.2
  clear ha
  have h := HOP.out
  generalize Ev.val m.s.v i.a = x at *
  go_wp2_with fail
  refine wp_region_store (fun w' => w' = (wC).drew) (fun w' => w' = (wC).drew.setCell ⟨mb, 123, none⟩ (.int .i64 x)) 12 [8, 9, 10] (by kernel_rfl) (by kernel_rfl) (by kernel_rfl) (by kernel_rfl) rfl ?_
  apply chainS_mid (by rfl)
  case h => (rintro w9 rfl; go_wp2_with fail; (try (fail; go_wp2_with fail)); refine settled_intro (S := fun w' => w' = (wC).drew) ?_; rfl)
  case h1 => (intro hk; exact absurd hk (by decide))
  case hp => first | rfl | (simp only [*]; done) | (simp only [*]; rfl)
  apply chainS_mid (by rfl)
  case h => (rintro w9 rfl; go_wp2_with fail; (try (fail; go_wp2_with fail)); refine settled_intro (S := fun w' => w' = (wC).drew) ?_; rfl)
  case h1 => (intro hk; exact absurd hk (by decide))
  case hp => first | rfl | (simp only [*]; done) | (simp only [*]; rfl)
  apply chainS_mid (by rfl)
  case h => (rintro w9 rfl; go_wp2_with fail; (try (fail; go_wp2_with fail)); refine settled_intro (S := fun w' => w' = (wC).drew) ?_; rfl)
  case h1 => (intro hk; exact absurd hk (by decide))
  case hp => first | rfl | (simp only [*]; done) | (simp only [*]; rfl)
  apply chainS_mid (by rfl)
  case h => (rintro w9 rfl; go_wp2_with fail; (try (fail; go_wp2_with fail)); refine settled_intro (S := fun w' => w' = (wC).drew) ?_; rfl)
  case h1 => (intro hk; exact absurd hk (by decide))
  case hp => first | rfl | (simp only [*]; done) | (simp only [*]; rfl)
  apply chainS_mid (by rfl)
  case h => (rintro w9 rfl; go_wp2_with fail; (try (fail; go_wp2_with fail)); refine settled_intro (S := fun w' => w' = (wC).drew) ?_; rfl)
  case h1 => (intro hk; exact absurd hk (by decide))
  case hp => first | rfl | (simp only [*]; done) | (simp only [*]; rfl)
  apply chainS_mid (by rfl)
  case h => (rintro w9 rfl; go_wp2_with fail; (try (fail; go_wp2_with fail)); refine settled_intro (S := fun w' => w' = (wC).drew) ?_; rfl)
  case h1 => (intro hk; exact absurd hk (by decide))
  case hp => first | rfl | (simp only [*]; done) | (simp only [*]; rfl)
  apply chainS_mid (by rfl)
  case h => (rintro w9 rfl; go_wp2_with fail; (try (fail; go_wp2_with fail)); refine settled_intro (S := fun w' => w' = (wC).drew) ?_; rfl)
  case h1 => (intro hk; exact absurd hk (by decide))
  case hp => first | rfl | (simp only [*]; done) | (simp only [*]; rfl)
  apply chainS_mid (by rfl)
  case h => (rintro w9 rfl; go_wp2_with fail; (try (fail; go_wp2_with fail)); refine settled_intro (S := fun w' => w' = (wC).drew) ?_; rfl)
  case h1 => (intro hk; exact absurd hk (by decide))
  case hp => first | rfl | (simp only [*]; done) | (simp only [*]; rfl)
  apply chainS_mid (by rfl)
  case h => (rintro w9 rfl; go_wp2_with fail; (try (fail; go_wp2_with fail)); refine settled_intro (S := fun w' => w' = (wC).drew) ?_; rfl)
  case h1 => (intro _; rintro w9 rfl; go_wp2_with fail; refine settled_intro (S := fun w' => w' = (wC).drew.setCell ⟨mb, 123, none⟩ (.int .i64 x)) ?_; rfl)
  case hp => first | rfl | (simp only [*]; done) | (simp only [*]; rfl)
  apply chainS_mid (by rfl)
  case h => (rintro w9 rfl; go_wp2_with fail; (try (fail; go_wp2_with fail)); refine settled_intro (S := fun w' => w' = (wC).drew) ?_; rfl)
  case h1 => (intro _; rintro w9 rfl; go_wp2_with fail; refine settled_intro (S := fun w' => w' = (wC).drew.setCell ⟨mb, 123, none⟩ (.int .i64 x)) ?_; rfl)
  case hp => first | rfl | (simp only [*]; done) | (simp only [*]; rfl)
  apply chainS_mid (by rfl)
  case h => (rintro w9 rfl; go_wp2_with fail; (try (fail; go_wp2_with fail)); refine settled_intro (S := fun w' => w' = (wC).drew) ?_; rfl)
  case h1 => (intro _; rintro w9 rfl; go_wp2_with fail; refine settled_intro (S := fun w' => w' = (wC).drew.setCell ⟨mb, 123, none⟩ (.int .i64 x)) ?_; rfl)
  case hp => first | rfl | (simp only [*]; done) | (simp only [*]; rfl)
  apply chainS_mid (by rfl)
  case h => (rintro w9 rfl; go_wp2_with fail; (try (fail; go_wp2_with fail)); refine settled_intro (S := fun w' => w' = (wC).drew) ?_; rfl)
  case h1 => (intro hk; exact absurd hk (by decide))
  case hp => first | rfl | (simp only [*]; done) | (simp only [*]; rfl)
  apply chainS_store (by rfl)
  case h => (rintro w9 rfl; go_wp2_with fail; refine settled_intro (S := fun w' => w' = (wC).drew.setCell ⟨mb, 123, none⟩ (.int .i64 x)) ?_; rfl)
  case hp => first | rfl | (simp only [*]; done) | (simp only [*]; rfl)
  refine chainS.nil ?_
  rintro _ rfl
  (try dsimp only)
  go_wp2
  go_ret
  refine ⟨by rw [HSP.out]; rfl, ?_, ?_⟩
  · rw [HSP.out]
    exact (HM.out.stays (Below.refl _ _).drew).setWd x
  · exact .set (BS.out.drewN 1) hlm (Nat.lt_succ_self _)
set_option maxRecDepth 20000 in
set_option maxHeartbeats 3200000 in
theorem step_trap (i : Ev.Instr) (m : Ev.Mc) (lo mb : Nat) (va : Value) (vs : List Value) (vl : Value) (w : World) (hM : MacAt w lo mb va vs vl m) (hk : m.pc ≤ 1099511627776) (h : i.op = 21) :
    Calls Try.prog 77 #[.pointer (some ⟨mb, 0, none⟩), .agg #[.int .i64 i.op, .int .i64 i.d, .int .i64 i.a, .int .i64 i.b, .int .i64 i.c, .int .i64 i.imm]] w fun e w' => e = .returned (.bool (Ev.mcStep i m).2) ∧ MacAt w' lo mb va vs vl (Ev.mcStep i m).1 ∧ Sets lo (mb + 1) w w' := by
  have hlm := hM.lm
  have sB : w.heap.size < (w.alloc (.cells #[.int .i64 i.op, .int .i64 i.d, .int .i64 i.a, .int .i64 i.b, .int .i64 i.c, .int .i64 i.imm] 39)).heap.size := by simp
  have BB := Lib.hid (show Below w.heap.size w (w.alloc (.cells #[.int .i64 i.op, .int .i64 i.d, .int .i64 i.a, .int .i64 i.b, .int .i64 i.c, .int .i64 i.imm] 39)) by (repeat' first | with_reducible (first | exact Below.refl _ _ | assumption | refine Below.alloc ?_ ?_ _ | refine below_drewN ?_ _ | refine Below.drew ?_ | refine Below.setCell ?_ ?_ _ | refine Below.trans ?_ (Below.mono (by with_reducible assumption) ?_)) | go_size))
  have n0 : (w.alloc (.cells #[.int .i64 i.op, .int .i64 i.d, .int .i64 i.a, .int .i64 i.b, .int .i64 i.c, .int .i64 i.imm] 39)).cell? ⟨w.heap.size, 0, none⟩ = some (.int .i64 i.op) := by go_simp
  have n1 : (w.alloc (.cells #[.int .i64 i.op, .int .i64 i.d, .int .i64 i.a, .int .i64 i.b, .int .i64 i.c, .int .i64 i.imm] 39)).cell? ⟨w.heap.size, 1, none⟩ = some (.int .i64 i.d) := by go_simp
  have n2 : (w.alloc (.cells #[.int .i64 i.op, .int .i64 i.d, .int .i64 i.a, .int .i64 i.b, .int .i64 i.c, .int .i64 i.imm] 39)).cell? ⟨w.heap.size, 2, none⟩ = some (.int .i64 i.a) := by go_simp
  have n3 : (w.alloc (.cells #[.int .i64 i.op, .int .i64 i.d, .int .i64 i.a, .int .i64 i.b, .int .i64 i.c, .int .i64 i.imm] 39)).cell? ⟨w.heap.size, 3, none⟩ = some (.int .i64 i.b) := by go_simp
  have n4 : (w.alloc (.cells #[.int .i64 i.op, .int .i64 i.d, .int .i64 i.a, .int .i64 i.b, .int .i64 i.c, .int .i64 i.imm] 39)).cell? ⟨w.heap.size, 4, none⟩ = some (.int .i64 i.c) := by go_simp
  have n5 : (w.alloc (.cells #[.int .i64 i.op, .int .i64 i.d, .int .i64 i.a, .int .i64 i.b, .int .i64 i.c, .int .i64 i.imm] 39)).cell? ⟨w.heap.size, 5, none⟩ = some (.int .i64 i.imm) := by go_simp
  obtain ⟨wB, hwB⟩ : ∃ wB, w.alloc (.cells #[.int .i64 i.op, .int .i64 i.d, .int .i64 i.a, .int .i64 i.b, .int .i64 i.c, .int .i64 i.imm] 39) = wB := ⟨_, rfl⟩
  have HM0 := Lib.hid (hM.stays BB.out)
  have HWB := Lib.hid hwB
  have lmb := hM.lt
  have hne : mb ≠ w.heap.size := by omega
  rw [hwB] at sB BB n0 n1 n2 n3 n4 n5 HM0
  clear hM hwB
  replace lmb : mb < wB.heap.size := by omega
  have c122 := HM0.out.cpc
  have f122 := HM0.out.loose 122
  have HSP := Lib.hid (@Ev.mc_trap i m h)
  have HOP := Lib.hid h
  clear h
  go_enter Try.func77, Try.ntmps77
  go_upto_region 1 with fail
  rw [HWB.out]
  go_upto_region 2 with fail
  have HM := Lib.hid (HM0.out.setPc (m.pc + 1) (x := (m.pc : Int) + 1) (by push_cast; rfl))
  have BS : Hid (Sets lo (mb + 1) w (wB.setCell ⟨mb, 122, none⟩ (.int .i64 ((m.pc : Int) + 1)))) := .set (Sets.here.more BB.out) hlm (Nat.lt_succ_self _)
  have zC : (wB.setCell ⟨mb, 122, none⟩ (.int .i64 ((m.pc : Int) + 1))).heap.size = wB.heap.size := by simp
  replace n0 : (wB.setCell ⟨mb, 122, none⟩ (.int .i64 ((m.pc : Int) + 1))).cell? ⟨w.heap.size, 0, none⟩ = some (.int .i64 i.op) := (World.cell?_setCell_other _ _ _ _ (by intro e; injection e with e; omega)).trans n0
  replace n1 : (wB.setCell ⟨mb, 122, none⟩ (.int .i64 ((m.pc : Int) + 1))).cell? ⟨w.heap.size, 1, none⟩ = some (.int .i64 i.d) := (World.cell?_setCell_other _ _ _ _ (by intro e; injection e with e; omega)).trans n1
  replace n2 : (wB.setCell ⟨mb, 122, none⟩ (.int .i64 ((m.pc : Int) + 1))).cell? ⟨w.heap.size, 2, none⟩ = some (.int .i64 i.a) := (World.cell?_setCell_other _ _ _ _ (by intro e; injection e with e; omega)).trans n2
  replace n3 : (wB.setCell ⟨mb, 122, none⟩ (.int .i64 ((m.pc : Int) + 1))).cell? ⟨w.heap.size, 3, none⟩ = some (.int .i64 i.b) := (World.cell?_setCell_other _ _ _ _ (by intro e; injection e with e; omega)).trans n3
  replace n4 : (wB.setCell ⟨mb, 122, none⟩ (.int .i64 ((m.pc : Int) + 1))).cell? ⟨w.heap.size, 4, none⟩ = some (.int .i64 i.c) := (World.cell?_setCell_other _ _ _ _ (by intro e; injection e with e; omega)).trans n4
  replace n5 : (wB.setCell ⟨mb, 122, none⟩ (.int .i64 ((m.pc : Int) + 1))).cell? ⟨w.heap.size, 5, none⟩ = some (.int .i64 i.imm) := (World.cell?_setCell_other _ _ _ _ (by intro e; injection e with e; omega)).trans n5
  obtain ⟨wC, hwC⟩ : ∃ wC, wB.setCell ⟨mb, 122, none⟩ (.int .i64 ((m.pc : Int) + 1)) = wC := ⟨_, rfl⟩
  rw [hwC] at HM BS n0 n1 n2 n3 n4 n5 zC ⊢
  replace lmb : mb < wC.heap.size := by omega
  replace sB : w.heap.size < wC.heap.size := by omega
  clear hwC zC c122 f122 HM0 BB
  have c121 := HM.out.cmode
  have c122 := HM.out.cpc
  have c123 := HM.out.cwd
  have c124 := HM.out.ctr
  have lml := HM.out.loose
  have h := HOP.out
  go_wp2
  go_ret
  refine ⟨by rw [HSP.out]; rfl, ?_, ?_⟩
  · rw [HSP.out]
    exact HM.out.setTr true
  · exact .set BS.out hlm (Nat.lt_succ_self _)
set_option maxRecDepth 20000 in
set_option maxHeartbeats 3200000 in
theorem step_back (i : Ev.Instr) (m : Ev.Mc) (lo mb : Nat) (va : Value) (vs : List Value) (vl : Value) (w : World) (hM : MacAt w lo mb va vs vl m) (hk : m.pc ≤ 1099511627776) (h : i.op = 23) (ha : inR 120 i.a) (hx : Ev.Wd (Ev.val m.s.v i.a)) :
    Calls Try.prog 77 #[.pointer (some ⟨mb, 0, none⟩), .agg #[.int .i64 i.op, .int .i64 i.d, .int .i64 i.a, .int .i64 i.b, .int .i64 i.c, .int .i64 i.imm]] w fun e w' => e = .returned (.bool (Ev.mcStep i m).2) ∧ MacAt w' lo mb va vs vl (Ev.mcStep i m).1 ∧ Sets lo (mb + 1) w w' := by
  have hlm := hM.lm
  have sB : w.heap.size < (w.alloc (.cells #[.int .i64 i.op, .int .i64 i.d, .int .i64 i.a, .int .i64 i.b, .int .i64 i.c, .int .i64 i.imm] 39)).heap.size := by simp
  have BB := Lib.hid (show Below w.heap.size w (w.alloc (.cells #[.int .i64 i.op, .int .i64 i.d, .int .i64 i.a, .int .i64 i.b, .int .i64 i.c, .int .i64 i.imm] 39)) by (repeat' first | with_reducible (first | exact Below.refl _ _ | assumption | refine Below.alloc ?_ ?_ _ | refine below_drewN ?_ _ | refine Below.drew ?_ | refine Below.setCell ?_ ?_ _ | refine Below.trans ?_ (Below.mono (by with_reducible assumption) ?_)) | go_size))
  have n0 : (w.alloc (.cells #[.int .i64 i.op, .int .i64 i.d, .int .i64 i.a, .int .i64 i.b, .int .i64 i.c, .int .i64 i.imm] 39)).cell? ⟨w.heap.size, 0, none⟩ = some (.int .i64 i.op) := by go_simp
  have n1 : (w.alloc (.cells #[.int .i64 i.op, .int .i64 i.d, .int .i64 i.a, .int .i64 i.b, .int .i64 i.c, .int .i64 i.imm] 39)).cell? ⟨w.heap.size, 1, none⟩ = some (.int .i64 i.d) := by go_simp
  have n2 : (w.alloc (.cells #[.int .i64 i.op, .int .i64 i.d, .int .i64 i.a, .int .i64 i.b, .int .i64 i.c, .int .i64 i.imm] 39)).cell? ⟨w.heap.size, 2, none⟩ = some (.int .i64 i.a) := by go_simp
  have n3 : (w.alloc (.cells #[.int .i64 i.op, .int .i64 i.d, .int .i64 i.a, .int .i64 i.b, .int .i64 i.c, .int .i64 i.imm] 39)).cell? ⟨w.heap.size, 3, none⟩ = some (.int .i64 i.b) := by go_simp
  have n4 : (w.alloc (.cells #[.int .i64 i.op, .int .i64 i.d, .int .i64 i.a, .int .i64 i.b, .int .i64 i.c, .int .i64 i.imm] 39)).cell? ⟨w.heap.size, 4, none⟩ = some (.int .i64 i.c) := by go_simp
  have n5 : (w.alloc (.cells #[.int .i64 i.op, .int .i64 i.d, .int .i64 i.a, .int .i64 i.b, .int .i64 i.c, .int .i64 i.imm] 39)).cell? ⟨w.heap.size, 5, none⟩ = some (.int .i64 i.imm) := by go_simp
  obtain ⟨wB, hwB⟩ : ∃ wB, w.alloc (.cells #[.int .i64 i.op, .int .i64 i.d, .int .i64 i.a, .int .i64 i.b, .int .i64 i.c, .int .i64 i.imm] 39) = wB := ⟨_, rfl⟩
  have HM0 := Lib.hid (hM.stays BB.out)
  have HWB := Lib.hid hwB
  have lmb := hM.lt
  have hne : mb ≠ w.heap.size := by omega
  rw [hwB] at sB BB n0 n1 n2 n3 n4 n5 HM0
  clear hM hwB
  replace lmb : mb < wB.heap.size := by omega
  have c122 := HM0.out.cpc
  have f122 := HM0.out.loose 122
  have HSP := Lib.hid (Ev.mc_on (@Ev.step_back i m.pc m.s h))
  have hx2 := and_one _ hx.1 hx.2
  have HX := Lib.hid hx2
  clear hx hx2
  have HOP := Lib.hid h
  clear h
  go_enter Try.func77, Try.ntmps77
  go_upto_region 1 with fail
  rw [HWB.out]
  go_upto_region 2 with fail
  have HM := Lib.hid (HM0.out.setPc (m.pc + 1) (x := (m.pc : Int) + 1) (by push_cast; rfl))
  have BS : Hid (Sets lo (mb + 1) w (wB.setCell ⟨mb, 122, none⟩ (.int .i64 ((m.pc : Int) + 1)))) := .set (Sets.here.more BB.out) hlm (Nat.lt_succ_self _)
  have zC : (wB.setCell ⟨mb, 122, none⟩ (.int .i64 ((m.pc : Int) + 1))).heap.size = wB.heap.size := by simp
  replace n0 : (wB.setCell ⟨mb, 122, none⟩ (.int .i64 ((m.pc : Int) + 1))).cell? ⟨w.heap.size, 0, none⟩ = some (.int .i64 i.op) := (World.cell?_setCell_other _ _ _ _ (by intro e; injection e with e; omega)).trans n0
  replace n1 : (wB.setCell ⟨mb, 122, none⟩ (.int .i64 ((m.pc : Int) + 1))).cell? ⟨w.heap.size, 1, none⟩ = some (.int .i64 i.d) := (World.cell?_setCell_other _ _ _ _ (by intro e; injection e with e; omega)).trans n1
  replace n2 : (wB.setCell ⟨mb, 122, none⟩ (.int .i64 ((m.pc : Int) + 1))).cell? ⟨w.heap.size, 2, none⟩ = some (.int .i64 i.a) := (World.cell?_setCell_other _ _ _ _ (by intro e; injection e with e; omega)).trans n2
  replace n3 : (wB.setCell ⟨mb, 122, none⟩ (.int .i64 ((m.pc : Int) + 1))).cell? ⟨w.heap.size, 3, none⟩ = some (.int .i64 i.b) := (World.cell?_setCell_other _ _ _ _ (by intro e; injection e with e; omega)).trans n3
  replace n4 : (wB.setCell ⟨mb, 122, none⟩ (.int .i64 ((m.pc : Int) + 1))).cell? ⟨w.heap.size, 4, none⟩ = some (.int .i64 i.c) := (World.cell?_setCell_other _ _ _ _ (by intro e; injection e with e; omega)).trans n4
  replace n5 : (wB.setCell ⟨mb, 122, none⟩ (.int .i64 ((m.pc : Int) + 1))).cell? ⟨w.heap.size, 5, none⟩ = some (.int .i64 i.imm) := (World.cell?_setCell_other _ _ _ _ (by intro e; injection e with e; omega)).trans n5
  obtain ⟨wC, hwC⟩ : ∃ wC, wB.setCell ⟨mb, 122, none⟩ (.int .i64 ((m.pc : Int) + 1)) = wC := ⟨_, rfl⟩
  rw [hwC] at HM BS n0 n1 n2 n3 n4 n5 zC ⊢
  replace lmb : mb < wC.heap.size := by omega
  replace sB : w.heap.size < wC.heap.size := by omega
  clear hwC zC c122 f122 HM0 BB
  have c121 := HM.out.cmode
  have c122 := HM.out.cpc
  have c123 := HM.out.cwd
  have c124 := HM.out.ctr
  have lml := HM.out.loose
  have ca := HM.out.cell ha
  have ha0 := ha.1
  have ha1 := ha.2
  clear ha
  have h := HOP.out
  have hx2 := HX.out
  generalize Ev.val m.s.v i.a = x at *
  generalize x % 2 = z at *
  go_wp2_with fail
  refine wp_region_store (fun w' => w' = (wC).drew) (fun w' => w' = (wC).drew.setCell ⟨mb, 121, none⟩ (.int .i64 z)) 11 [9] (by kernel_rfl) (by kernel_rfl) (by kernel_rfl) (by kernel_rfl) rfl ?_
  apply chainS_mid (by rfl)
  case h => (rintro w9 rfl; go_wp2_with fail; (try (fail; go_wp2_with fail)); refine settled_intro (S := fun w' => w' = (wC).drew) ?_; rfl)
  case h1 => (intro hk; exact absurd hk (by decide))
  case hp => first | rfl | (simp only [*]; done) | (simp only [*]; rfl)
  apply chainS_mid (by rfl)
  case h => (rintro w9 rfl; go_wp2_with fail; (try (fail; go_wp2_with fail)); refine settled_intro (S := fun w' => w' = (wC).drew) ?_; rfl)
  case h1 => (intro hk; exact absurd hk (by decide))
  case hp => first | rfl | (simp only [*]; done) | (simp only [*]; rfl)
  apply chainS_mid (by rfl)
  case h => (rintro w9 rfl; go_wp2_with fail; (try (fail; go_wp2_with fail)); refine settled_intro (S := fun w' => w' = (wC).drew) ?_; rfl)
  case h1 => (intro hk; exact absurd hk (by decide))
  case hp => first | rfl | (simp only [*]; done) | (simp only [*]; rfl)
  apply chainS_mid (by rfl)
  case h => (rintro w9 rfl; go_wp2_with fail; (try (fail; go_wp2_with fail)); refine settled_intro (S := fun w' => w' = (wC).drew) ?_; rfl)
  case h1 => (intro hk; exact absurd hk (by decide))
  case hp => first | rfl | (simp only [*]; done) | (simp only [*]; rfl)
  apply chainS_mid (by rfl)
  case h => (rintro w9 rfl; go_wp2_with fail; (try (fail; go_wp2_with fail)); refine settled_intro (S := fun w' => w' = (wC).drew) ?_; rfl)
  case h1 => (intro hk; exact absurd hk (by decide))
  case hp => first | rfl | (simp only [*]; done) | (simp only [*]; rfl)
  apply chainS_mid (by rfl)
  case h => (rintro w9 rfl; go_wp2_with fail; (try (fail; go_wp2_with fail)); refine settled_intro (S := fun w' => w' = (wC).drew) ?_; rfl)
  case h1 => (intro hk; exact absurd hk (by decide))
  case hp => first | rfl | (simp only [*]; done) | (simp only [*]; rfl)
  apply chainS_mid (by rfl)
  case h => (rintro w9 rfl; go_wp2_with fail; (try (fail; go_wp2_with fail)); refine settled_intro (S := fun w' => w' = (wC).drew) ?_; rfl)
  case h1 => (intro hk; exact absurd hk (by decide))
  case hp => first | rfl | (simp only [*]; done) | (simp only [*]; rfl)
  apply chainS_mid (by rfl)
  case h => (rintro w9 rfl; go_wp2_with fail; (try (fail; go_wp2_with fail)); refine settled_intro (S := fun w' => w' = (wC).drew) ?_; rfl)
  case h1 => (intro hk; exact absurd hk (by decide))
  case hp => first | rfl | (simp only [*]; done) | (simp only [*]; rfl)
  apply chainS_mid (by rfl)
  case h => (rintro w9 rfl; go_wp2_with fail; (try (fail; go_wp2_with fail)); refine settled_intro (S := fun w' => w' = (wC).drew) ?_; rfl)
  case h1 => (intro hk; exact absurd hk (by decide))
  case hp => first | rfl | (simp only [*]; done) | (simp only [*]; rfl)
  apply chainS_mid (by rfl)
  case h => (rintro w9 rfl; go_wp2_with fail; (try (fail; go_wp2_with fail)); refine settled_intro (S := fun w' => w' = (wC).drew) ?_; rfl)
  case h1 => (intro _; rintro w9 rfl; go_wp2_with fail; refine settled_intro (S := fun w' => w' = (wC).drew.setCell ⟨mb, 121, none⟩ (.int .i64 z)) ?_; rfl)
  case hp => first | rfl | (simp only [*]; done) | (simp only [*]; rfl)
  apply chainS_mid (by rfl)
  case h => (rintro w9 rfl; go_wp2_with fail; (try (fail; go_wp2_with fail)); refine settled_intro (S := fun w' => w' = (wC).drew) ?_; rfl)
  case h1 => (intro hk; exact absurd hk (by decide))
  case hp => first | rfl | (simp only [*]; done) | (simp only [*]; rfl)
  apply chainS_store (by rfl)
  case h => (rintro w9 rfl; go_wp2_with fail; refine settled_intro (S := fun w' => w' = (wC).drew.setCell ⟨mb, 121, none⟩ (.int .i64 z)) ?_; rfl)
  case hp => first | rfl | (simp only [*]; done) | (simp only [*]; rfl)
  refine chainS.nil ?_
  rintro _ rfl
  (try dsimp only)
  go_wp2
  go_ret
  refine ⟨by rw [HSP.out]; rfl, ?_, ?_⟩
  · rw [HSP.out]
    exact (HM.out.stays (Below.refl _ _).drew).setMode z
  · exact .set (BS.out.drewN 1) hlm (Nat.lt_succ_self _)
set_option maxRecDepth 20000 in
set_option maxHeartbeats 3200000 in
theorem step_on (i : Ev.Instr) (m : Ev.Mc) (lo mb : Nat) (va : Value) (vs : List Value) (vl : Value) (w : World) (hM : MacAt w lo mb va vs vl m) (hk : m.pc ≤ 1099511627776) (h : i.op = 22) (hd : inR 120 i.d) :
    Calls Try.prog 77 #[.pointer (some ⟨mb, 0, none⟩), .agg #[.int .i64 i.op, .int .i64 i.d, .int .i64 i.a, .int .i64 i.b, .int .i64 i.c, .int .i64 i.imm]] w fun e w' => e = .returned (.bool (Ev.mcStep i m).2) ∧ MacAt w' lo mb va vs vl (Ev.mcStep i m).1 ∧ Sets lo (mb + 1) w w' := by
  have hlm := hM.lm
  have sB : w.heap.size < (w.alloc (.cells #[.int .i64 i.op, .int .i64 i.d, .int .i64 i.a, .int .i64 i.b, .int .i64 i.c, .int .i64 i.imm] 39)).heap.size := by simp
  have BB := Lib.hid (show Below w.heap.size w (w.alloc (.cells #[.int .i64 i.op, .int .i64 i.d, .int .i64 i.a, .int .i64 i.b, .int .i64 i.c, .int .i64 i.imm] 39)) by (repeat' first | with_reducible (first | exact Below.refl _ _ | assumption | refine Below.alloc ?_ ?_ _ | refine below_drewN ?_ _ | refine Below.drew ?_ | refine Below.setCell ?_ ?_ _ | refine Below.trans ?_ (Below.mono (by with_reducible assumption) ?_)) | go_size))
  have n0 : (w.alloc (.cells #[.int .i64 i.op, .int .i64 i.d, .int .i64 i.a, .int .i64 i.b, .int .i64 i.c, .int .i64 i.imm] 39)).cell? ⟨w.heap.size, 0, none⟩ = some (.int .i64 i.op) := by go_simp
  have n1 : (w.alloc (.cells #[.int .i64 i.op, .int .i64 i.d, .int .i64 i.a, .int .i64 i.b, .int .i64 i.c, .int .i64 i.imm] 39)).cell? ⟨w.heap.size, 1, none⟩ = some (.int .i64 i.d) := by go_simp
  have n2 : (w.alloc (.cells #[.int .i64 i.op, .int .i64 i.d, .int .i64 i.a, .int .i64 i.b, .int .i64 i.c, .int .i64 i.imm] 39)).cell? ⟨w.heap.size, 2, none⟩ = some (.int .i64 i.a) := by go_simp
  have n3 : (w.alloc (.cells #[.int .i64 i.op, .int .i64 i.d, .int .i64 i.a, .int .i64 i.b, .int .i64 i.c, .int .i64 i.imm] 39)).cell? ⟨w.heap.size, 3, none⟩ = some (.int .i64 i.b) := by go_simp
  have n4 : (w.alloc (.cells #[.int .i64 i.op, .int .i64 i.d, .int .i64 i.a, .int .i64 i.b, .int .i64 i.c, .int .i64 i.imm] 39)).cell? ⟨w.heap.size, 4, none⟩ = some (.int .i64 i.c) := by go_simp
  have n5 : (w.alloc (.cells #[.int .i64 i.op, .int .i64 i.d, .int .i64 i.a, .int .i64 i.b, .int .i64 i.c, .int .i64 i.imm] 39)).cell? ⟨w.heap.size, 5, none⟩ = some (.int .i64 i.imm) := by go_simp
  obtain ⟨wB, hwB⟩ : ∃ wB, w.alloc (.cells #[.int .i64 i.op, .int .i64 i.d, .int .i64 i.a, .int .i64 i.b, .int .i64 i.c, .int .i64 i.imm] 39) = wB := ⟨_, rfl⟩
  have HM0 := Lib.hid (hM.stays BB.out)
  have HWB := Lib.hid hwB
  have lmb := hM.lt
  have hne : mb ≠ w.heap.size := by omega
  rw [hwB] at sB BB n0 n1 n2 n3 n4 n5 HM0
  clear hM hwB
  replace lmb : mb < wB.heap.size := by omega
  have c122 := HM0.out.cpc
  have f122 := HM0.out.loose 122
  have HSP := Lib.hid (Ev.mc_on (@Ev.step_on2 i m.pc m.s h))
  have HOP := Lib.hid h
  clear h
  go_enter Try.func77, Try.ntmps77
  go_upto_region 1 with fail
  rw [HWB.out]
  go_upto_region 2 with fail
  have HM := Lib.hid (HM0.out.setPc (m.pc + 1) (x := (m.pc : Int) + 1) (by push_cast; rfl))
  have BS : Hid (Sets lo (mb + 1) w (wB.setCell ⟨mb, 122, none⟩ (.int .i64 ((m.pc : Int) + 1)))) := .set (Sets.here.more BB.out) hlm (Nat.lt_succ_self _)
  have zC : (wB.setCell ⟨mb, 122, none⟩ (.int .i64 ((m.pc : Int) + 1))).heap.size = wB.heap.size := by simp
  replace n0 : (wB.setCell ⟨mb, 122, none⟩ (.int .i64 ((m.pc : Int) + 1))).cell? ⟨w.heap.size, 0, none⟩ = some (.int .i64 i.op) := (World.cell?_setCell_other _ _ _ _ (by intro e; injection e with e; omega)).trans n0
  replace n1 : (wB.setCell ⟨mb, 122, none⟩ (.int .i64 ((m.pc : Int) + 1))).cell? ⟨w.heap.size, 1, none⟩ = some (.int .i64 i.d) := (World.cell?_setCell_other _ _ _ _ (by intro e; injection e with e; omega)).trans n1
  replace n2 : (wB.setCell ⟨mb, 122, none⟩ (.int .i64 ((m.pc : Int) + 1))).cell? ⟨w.heap.size, 2, none⟩ = some (.int .i64 i.a) := (World.cell?_setCell_other _ _ _ _ (by intro e; injection e with e; omega)).trans n2
  replace n3 : (wB.setCell ⟨mb, 122, none⟩ (.int .i64 ((m.pc : Int) + 1))).cell? ⟨w.heap.size, 3, none⟩ = some (.int .i64 i.b) := (World.cell?_setCell_other _ _ _ _ (by intro e; injection e with e; omega)).trans n3
  replace n4 : (wB.setCell ⟨mb, 122, none⟩ (.int .i64 ((m.pc : Int) + 1))).cell? ⟨w.heap.size, 4, none⟩ = some (.int .i64 i.c) := (World.cell?_setCell_other _ _ _ _ (by intro e; injection e with e; omega)).trans n4
  replace n5 : (wB.setCell ⟨mb, 122, none⟩ (.int .i64 ((m.pc : Int) + 1))).cell? ⟨w.heap.size, 5, none⟩ = some (.int .i64 i.imm) := (World.cell?_setCell_other _ _ _ _ (by intro e; injection e with e; omega)).trans n5
  obtain ⟨wC, hwC⟩ : ∃ wC, wB.setCell ⟨mb, 122, none⟩ (.int .i64 ((m.pc : Int) + 1)) = wC := ⟨_, rfl⟩
  rw [hwC] at HM BS n0 n1 n2 n3 n4 n5 zC ⊢
  replace lmb : mb < wC.heap.size := by omega
  replace sB : w.heap.size < wC.heap.size := by omega
  clear hwC zC c122 f122 HM0 BB
  have c121 := HM.out.cmode
  have c122 := HM.out.cpc
  have c123 := HM.out.cwd
  have c124 := HM.out.ctr
  have lml := HM.out.loose
  have cd := HM.out.cell hd
  have hd0 := hd.1
  have hd1 := hd.2
  clear hd
  have h := HOP.out
  go_wp2_with fail
  have hdm : i.d.toNat ≠ 121 := by omega
  go_region
  all_goals
    go_wp2
    go_ret
    refine ⟨by rw [HSP.out]; rfl, ?_, ?_⟩
    · rw [HSP.out]
      first
      | exact ((HM.out.setV (p := i.d.toNat) (by omega) m.s.mode).setMode 1).stays (Below.refl _ _).drew
      | exact ((HM.out.setMode 1).setV (p := i.d.toNat) (by omega) m.s.mode).stays (Below.refl _ _).drew
    · exact ((BS.out.set hlm (Nat.lt_succ_self _)).set hlm (Nat.lt_succ_self _)).drewN 1
end Go.Proofs.Ytljcgcllhcdleaa
