import Derived.Test.YtljcgcllhcdleaaLg13
import Derived.Test.YtljcgcllhcdleaaLg14
/- legal's maker: an instruction done otherwise. -/
namespace Go.Proofs.Ytljcgcllhcdleaa
open Go.RowKit
set_option linter.unusedSimpArgs false
set_option linter.unusedVariables false
theorem MkIn.guardNew {w : World} {c : MkC} {m : Ev.Mk} {l : List Int} (h : MkIn w c m l) (o : Obj) : MkIn (w.alloc o) { c with K := fun b => c.K b ∨ b = w.heap.size } m l := by
  obtain ⟨vc, vs, vx, h⟩ := h
  have h' := h.stays ((Below.refl w.heap.size w).alloc (Nat.le_refl _) o)
  have hlt := h.lt
  exact ⟨vc, vs, vx, h'.guard (by simp) (by omega) (fun e => by have := own_lt h.code e; omega) (fun e => by have := own_lt h.sec e; omega) (fun e => by have := own_lt h.ats e; omega)⟩
theorem MkFr.outAlloc {w w' : World} {c : MkC} {m : Ev.Mk} {l : List Int} (h : MkIn w c m l) (o : Obj) (f : MkFr { c with K := fun b => c.K b ∨ b = w.heap.size } (w.alloc o) w') : MkFr c w w' := by
  obtain ⟨vc, vs, vx, h⟩ := h
  have hlt := h.lt
  have h1 := h.h1
  refine ⟨((Below.refl c.lo w).alloc (by omega) o).trans f.below, fun b hb => (f.keep b (.inl hb)).trans (heap_alloc_old w o (h.klt b hb))⟩
set_option maxRecDepth 8000 in
set_option maxHeartbeats 3200000 in
theorem mother_mul (c : MkC) (m : Ev.Mk) (l : List Int) (i : Ev.Instr) (w : World) (h : MkIn w c m l) (hop : i.op = 8) (ha : Ev.InP m.secret i.a) (hb : Ev.InP m.secret i.b) (hr : Room m 963) :
    Calls Try.prog 55 #[.pointer (some ⟨c.mb, 0, none⟩), .agg #[.int .i64 i.op, .int .i64 i.d, .int .i64 i.a, .int .i64 i.b, .int .i64 i.c, .int .i64 i.imm]] w fun e w' => ∃ m', e = .returned (.bool true) ∧ Ev.mkOther m i = some m' ∧ MkIn w' c m' l ∧ MkFr c w w' := by
  have HW := Lib.hid h
  have HX : Hid (MkIn (w.alloc (.cells #[.int .i64 i.op, .int .i64 i.d, .int .i64 i.a, .int .i64 i.b, .int .i64 i.c, .int .i64 i.imm] 39)) { c with K := fun b => c.K b ∨ b = w.heap.size } m l) := Lib.hid (h.guardNew (.cells #[.int .i64 i.op, .int .i64 i.d, .int .i64 i.a, .int .i64 i.b, .int .i64 i.c, .int .i64 i.imm] 39))
  have HB : Hid ((w.alloc (.cells #[.int .i64 i.op, .int .i64 i.d, .int .i64 i.a, .int .i64 i.b, .int .i64 i.c, .int .i64 i.imm] 39)).heap[w.heap.size]? = some (.cells #[.int .i64 i.op, .int .i64 i.d, .int .i64 i.a, .int .i64 i.b, .int .i64 i.c, .int .i64 i.imm] 39 (0, 0))) := Lib.hid (heap_alloc_new w _)
  have HO : Hid (∀ u, MkFr { c with K := fun b => c.K b ∨ b = w.heap.size } (w.alloc (.cells #[.int .i64 i.op, .int .i64 i.d, .int .i64 i.a, .int .i64 i.b, .int .i64 i.c, .int .i64 i.imm] 39)) u → MkFr c w u) := Lib.hid (fun u hu => MkFr.outAlloc h _ hu)
  have R0 := Lib.hid hr
  have HOP := Lib.hid hop
  have J0_ia := Lib.hid ha
  have J0_ib := Lib.hid hb
  clear h hr hop ha hb
  go_enter Try.func55, Try.ntmps55
  go_upto_region 2 with fail
  obtain ⟨wA, hwA⟩ : ∃ wA, w.alloc (.cells #[.int .i64 i.op, .int .i64 i.d, .int .i64 i.a, .int .i64 i.b, .int .i64 i.c, .int .i64 i.imm] 39) = wA := ⟨_, rfl⟩
  rw [hwA] at HX HB HO
  (try rw [hwA])
  clear hwA
  obtain ⟨c1, hc1⟩ : ∃ c1 : MkC, { c with K := fun b => c.K b ∨ b = w.heap.size } = c1 := ⟨_, rfl⟩
  have hmb : c.mb = c1.mb := by rw [← hc1]
  have HK1 : Hid (∀ b, c.K b → c1.K b) := Lib.hid (fun b hb => by rw [← hc1]; exact .inl hb)
  have HC1 := Lib.hid hc1
  have hB : c1.K w.heap.size := by rw [← hc1]; exact .inr rfl
  rw [hc1] at HX HO
  have HBX : Hid (∀ u, MkFr c1 wA u → u.heap[w.heap.size]? = some (.cells #[.int .i64 i.op, .int .i64 i.d, .int .i64 i.a, .int .i64 i.b, .int .i64 i.c, .int .i64 i.imm] 39 (0, 0))) := Lib.hid (fun u hu => (hu.keep _ hB).trans HB.out)
  rw [hmb]
  clear hc1 hmb hB
  generalize w.heap.size = B0 at *
  have H0 := HX
  have F0 := Lib.hid (MkFr.refl c1 wA)
  have bx := HB.out
  have n0 : wA.cell? ⟨B0, 0, none⟩ = some (.int .i64 i.op) := (cell_of_block bx 0).trans rfl
  have n2 : wA.cell? ⟨B0, 2, none⟩ = some (.int .i64 i.a) := (cell_of_block bx 2).trans rfl
  have n3 : wA.cell? ⟨B0, 3, none⟩ = some (.int .i64 i.b) := (cell_of_block bx 3).trans rfl
  have n4 : wA.cell? ⟨B0, 4, none⟩ = some (.int .i64 i.c) := (cell_of_block bx 4).trans rfl
  clear bx
  have g8 : (i.op == 8) = true := by rw [HOP.out]; rfl
  go_wp2_with fail
  go_at_call 78
  refine (mmul_any c1 m l i.a i.b _ H0.out J0_ia.out J0_ib.out (R0.out.less (by omega))).mono ?_
  rintro e w1 ⟨rfl, h1, fr1⟩
  have F1 := Lib.hid fr1
  have cd := Ev.mulTo_code m i.a i.b 32
  have R1 : Hid (Room (Ev.mkMulTo m i.a i.b 32).2 1) := Lib.hid (by have := R0.out; unfold Room at *; omega)
  generalize hx : Ev.mkMulTo m i.a i.b 32 = X at *
  obtain ⟨r, m1⟩ := X
  dsimp only at h1 R1
  have HXX := Lib.hid hx
  have H1 := Lib.hid h1
  clear cd hx h1 fr1 F0 H0 n2 n3 n4 n0 J0_ia J0_ib
  have bx := HBX.out _ F1.out
  have nd : w1.cell? ⟨B0, 1, none⟩ = some (.int .i64 i.d) := (cell_of_block bx 1).trans rfl
  clear bx
  go_wp2_with fail
  go_at_call 54
  refine (put_any c1 m1 l ⟨15, i.d, r, 0, 0, 0⟩ _ H1.out (by have := R1.out.1; omega)).mono ?_
  rintro e w30 ⟨rfl, h30, fr30⟩
  have H30 := Lib.hid h30
  have F30 := Lib.hid (F1.out.trans fr30)
  clear h30 fr30 nd
  go_wp2_with fail
  go_ret
  refine ⟨m1.put ⟨15, i.d, r, 0, 0, 0⟩, rfl, ?_, ?_, HO.out _ F30.out⟩
  · show (Ev.mkOut m i).map _ = _
    rw [(show Ev.mkOut m i = some (r, m1) from by unfold Ev.mkOut; rw [if_pos (by have := HOP.out; omega), HXX.out])]
    rfl
  · have := H30.out.weak HK1.out
    rw [← HC1.out] at this
    exact this
set_option maxRecDepth 8000 in
set_option maxHeartbeats 3200000 in
theorem mother_div (c : MkC) (m : Ev.Mk) (l : List Int) (i : Ev.Instr) (w : World) (h : MkIn w c m l) (hop : i.op = 9) (ha : Ev.InP m.secret i.a) (hb : Ev.InP m.secret i.b) (hr : Room m 963) :
    Calls Try.prog 55 #[.pointer (some ⟨c.mb, 0, none⟩), .agg #[.int .i64 i.op, .int .i64 i.d, .int .i64 i.a, .int .i64 i.b, .int .i64 i.c, .int .i64 i.imm]] w fun e w' => ∃ m', e = .returned (.bool true) ∧ Ev.mkOther m i = some m' ∧ MkIn w' c m' l ∧ MkFr c w w' := by
  have HW := Lib.hid h
  have HX : Hid (MkIn (w.alloc (.cells #[.int .i64 i.op, .int .i64 i.d, .int .i64 i.a, .int .i64 i.b, .int .i64 i.c, .int .i64 i.imm] 39)) { c with K := fun b => c.K b ∨ b = w.heap.size } m l) := Lib.hid (h.guardNew (.cells #[.int .i64 i.op, .int .i64 i.d, .int .i64 i.a, .int .i64 i.b, .int .i64 i.c, .int .i64 i.imm] 39))
  have HB : Hid ((w.alloc (.cells #[.int .i64 i.op, .int .i64 i.d, .int .i64 i.a, .int .i64 i.b, .int .i64 i.c, .int .i64 i.imm] 39)).heap[w.heap.size]? = some (.cells #[.int .i64 i.op, .int .i64 i.d, .int .i64 i.a, .int .i64 i.b, .int .i64 i.c, .int .i64 i.imm] 39 (0, 0))) := Lib.hid (heap_alloc_new w _)
  have HO : Hid (∀ u, MkFr { c with K := fun b => c.K b ∨ b = w.heap.size } (w.alloc (.cells #[.int .i64 i.op, .int .i64 i.d, .int .i64 i.a, .int .i64 i.b, .int .i64 i.c, .int .i64 i.imm] 39)) u → MkFr c w u) := Lib.hid (fun u hu => MkFr.outAlloc h _ hu)
  have R0 := Lib.hid hr
  have HOP := Lib.hid hop
  have J0_ia := Lib.hid ha
  have J0_ib := Lib.hid hb
  clear h hr hop ha hb
  go_enter Try.func55, Try.ntmps55
  go_upto_region 2 with fail
  obtain ⟨wA, hwA⟩ : ∃ wA, w.alloc (.cells #[.int .i64 i.op, .int .i64 i.d, .int .i64 i.a, .int .i64 i.b, .int .i64 i.c, .int .i64 i.imm] 39) = wA := ⟨_, rfl⟩
  rw [hwA] at HX HB HO
  (try rw [hwA])
  clear hwA
  obtain ⟨c1, hc1⟩ : ∃ c1 : MkC, { c with K := fun b => c.K b ∨ b = w.heap.size } = c1 := ⟨_, rfl⟩
  have hmb : c.mb = c1.mb := by rw [← hc1]
  have HK1 : Hid (∀ b, c.K b → c1.K b) := Lib.hid (fun b hb => by rw [← hc1]; exact .inl hb)
  have HC1 := Lib.hid hc1
  have hB : c1.K w.heap.size := by rw [← hc1]; exact .inr rfl
  rw [hc1] at HX HO
  have HBX : Hid (∀ u, MkFr c1 wA u → u.heap[w.heap.size]? = some (.cells #[.int .i64 i.op, .int .i64 i.d, .int .i64 i.a, .int .i64 i.b, .int .i64 i.c, .int .i64 i.imm] 39 (0, 0))) := Lib.hid (fun u hu => (hu.keep _ hB).trans HB.out)
  rw [hmb]
  clear hc1 hmb hB
  generalize w.heap.size = B0 at *
  have H0 := HX
  have F0 := Lib.hid (MkFr.refl c1 wA)
  have bx := HB.out
  have n0 : wA.cell? ⟨B0, 0, none⟩ = some (.int .i64 i.op) := (cell_of_block bx 0).trans rfl
  have n2 : wA.cell? ⟨B0, 2, none⟩ = some (.int .i64 i.a) := (cell_of_block bx 2).trans rfl
  have n3 : wA.cell? ⟨B0, 3, none⟩ = some (.int .i64 i.b) := (cell_of_block bx 3).trans rfl
  have n4 : wA.cell? ⟨B0, 4, none⟩ = some (.int .i64 i.c) := (cell_of_block bx 4).trans rfl
  clear bx
  have g8 : (i.op == 8) = false := by rw [HOP.out]; rfl
  have g9 : (i.op == 9) = true := by rw [HOP.out]; rfl
  go_wp2_with fail
  go_at_call 79
  refine (mdiv_any c1 m l i.a i.b _ H0.out J0_ia.out J0_ib.out (R0.out.less (by omega))).mono ?_
  rintro e w1 ⟨rfl, h1, fr1⟩
  have F1 := Lib.hid fr1
  have cd := Ev.divTo_code m i.a i.b 32
  have R1 : Hid (Room (Ev.mkDivTo m i.a i.b 32).m 1) := Lib.hid (by have := R0.out; unfold Room at *; omega)
  generalize hx : Ev.mkDivTo m i.a i.b 32 = X at *
  obtain ⟨q, r, m1⟩ := X
  dsimp only at h1 R1
  have HXX := Lib.hid hx
  have H1 := Lib.hid h1
  clear cd hx h1 fr1 F0 H0 n2 n3 n4 n0 J0_ia J0_ib
  have bx := HBX.out _ F1.out
  have nd : w1.cell? ⟨B0, 1, none⟩ = some (.int .i64 i.d) := (cell_of_block bx 1).trans rfl
  clear bx
  go_wp2_with fail
  go_at_call 54
  refine (put_any c1 m1 l ⟨15, i.d, q, 0, 0, 0⟩ _ H1.out (by have := R1.out.1; omega)).mono ?_
  rintro e w30 ⟨rfl, h30, fr30⟩
  have H30 := Lib.hid h30
  have F30 := Lib.hid (F1.out.trans fr30)
  clear h30 fr30 nd
  go_wp2_with fail
  go_ret
  refine ⟨m1.put ⟨15, i.d, q, 0, 0, 0⟩, rfl, ?_, ?_, HO.out _ F30.out⟩
  · show (Ev.mkOut m i).map _ = _
    rw [(show Ev.mkOut m i = some (q, m1) from by unfold Ev.mkOut; rw [if_neg (by have := HOP.out; omega), if_pos (by have := HOP.out; omega), HXX.out])]
    rfl
  · have := H30.out.weak HK1.out
    rw [← HC1.out] at this
    exact this
set_option maxRecDepth 8000 in
set_option maxHeartbeats 3200000 in
theorem mother_rem (c : MkC) (m : Ev.Mk) (l : List Int) (i : Ev.Instr) (w : World) (h : MkIn w c m l) (hop : i.op = 10) (ha : Ev.InP m.secret i.a) (hb : Ev.InP m.secret i.b) (hr : Room m 963) :
    Calls Try.prog 55 #[.pointer (some ⟨c.mb, 0, none⟩), .agg #[.int .i64 i.op, .int .i64 i.d, .int .i64 i.a, .int .i64 i.b, .int .i64 i.c, .int .i64 i.imm]] w fun e w' => ∃ m', e = .returned (.bool true) ∧ Ev.mkOther m i = some m' ∧ MkIn w' c m' l ∧ MkFr c w w' := by
  have HW := Lib.hid h
  have HX : Hid (MkIn (w.alloc (.cells #[.int .i64 i.op, .int .i64 i.d, .int .i64 i.a, .int .i64 i.b, .int .i64 i.c, .int .i64 i.imm] 39)) { c with K := fun b => c.K b ∨ b = w.heap.size } m l) := Lib.hid (h.guardNew (.cells #[.int .i64 i.op, .int .i64 i.d, .int .i64 i.a, .int .i64 i.b, .int .i64 i.c, .int .i64 i.imm] 39))
  have HB : Hid ((w.alloc (.cells #[.int .i64 i.op, .int .i64 i.d, .int .i64 i.a, .int .i64 i.b, .int .i64 i.c, .int .i64 i.imm] 39)).heap[w.heap.size]? = some (.cells #[.int .i64 i.op, .int .i64 i.d, .int .i64 i.a, .int .i64 i.b, .int .i64 i.c, .int .i64 i.imm] 39 (0, 0))) := Lib.hid (heap_alloc_new w _)
  have HO : Hid (∀ u, MkFr { c with K := fun b => c.K b ∨ b = w.heap.size } (w.alloc (.cells #[.int .i64 i.op, .int .i64 i.d, .int .i64 i.a, .int .i64 i.b, .int .i64 i.c, .int .i64 i.imm] 39)) u → MkFr c w u) := Lib.hid (fun u hu => MkFr.outAlloc h _ hu)
  have R0 := Lib.hid hr
  have HOP := Lib.hid hop
  have J0_ia := Lib.hid ha
  have J0_ib := Lib.hid hb
  clear h hr hop ha hb
  go_enter Try.func55, Try.ntmps55
  go_upto_region 2 with fail
  obtain ⟨wA, hwA⟩ : ∃ wA, w.alloc (.cells #[.int .i64 i.op, .int .i64 i.d, .int .i64 i.a, .int .i64 i.b, .int .i64 i.c, .int .i64 i.imm] 39) = wA := ⟨_, rfl⟩
  rw [hwA] at HX HB HO
  (try rw [hwA])
  clear hwA
  obtain ⟨c1, hc1⟩ : ∃ c1 : MkC, { c with K := fun b => c.K b ∨ b = w.heap.size } = c1 := ⟨_, rfl⟩
  have hmb : c.mb = c1.mb := by rw [← hc1]
  have HK1 : Hid (∀ b, c.K b → c1.K b) := Lib.hid (fun b hb => by rw [← hc1]; exact .inl hb)
  have HC1 := Lib.hid hc1
  have hB : c1.K w.heap.size := by rw [← hc1]; exact .inr rfl
  rw [hc1] at HX HO
  have HBX : Hid (∀ u, MkFr c1 wA u → u.heap[w.heap.size]? = some (.cells #[.int .i64 i.op, .int .i64 i.d, .int .i64 i.a, .int .i64 i.b, .int .i64 i.c, .int .i64 i.imm] 39 (0, 0))) := Lib.hid (fun u hu => (hu.keep _ hB).trans HB.out)
  rw [hmb]
  clear hc1 hmb hB
  generalize w.heap.size = B0 at *
  have H0 := HX
  have F0 := Lib.hid (MkFr.refl c1 wA)
  have bx := HB.out
  have n0 : wA.cell? ⟨B0, 0, none⟩ = some (.int .i64 i.op) := (cell_of_block bx 0).trans rfl
  have n2 : wA.cell? ⟨B0, 2, none⟩ = some (.int .i64 i.a) := (cell_of_block bx 2).trans rfl
  have n3 : wA.cell? ⟨B0, 3, none⟩ = some (.int .i64 i.b) := (cell_of_block bx 3).trans rfl
  have n4 : wA.cell? ⟨B0, 4, none⟩ = some (.int .i64 i.c) := (cell_of_block bx 4).trans rfl
  clear bx
  have g8 : (i.op == 8) = false := by rw [HOP.out]; rfl
  have g9 : (i.op == 9) = false := by rw [HOP.out]; rfl
  have g10 : (i.op == 10) = true := by rw [HOP.out]; rfl
  go_wp2_with fail
  go_at_call 79
  refine (mdiv_any c1 m l i.a i.b _ H0.out J0_ia.out J0_ib.out (R0.out.less (by omega))).mono ?_
  rintro e w1 ⟨rfl, h1, fr1⟩
  have F1 := Lib.hid fr1
  have cd := Ev.divTo_code m i.a i.b 32
  have R1 : Hid (Room (Ev.mkDivTo m i.a i.b 32).m 1) := Lib.hid (by have := R0.out; unfold Room at *; omega)
  generalize hx : Ev.mkDivTo m i.a i.b 32 = X at *
  obtain ⟨q, r, m1⟩ := X
  dsimp only at h1 R1
  have HXX := Lib.hid hx
  have H1 := Lib.hid h1
  clear cd hx h1 fr1 F0 H0 n2 n3 n4 n0 J0_ia J0_ib
  have bx := HBX.out _ F1.out
  have nd : w1.cell? ⟨B0, 1, none⟩ = some (.int .i64 i.d) := (cell_of_block bx 1).trans rfl
  clear bx
  go_wp2_with fail
  go_at_call 54
  refine (put_any c1 m1 l ⟨15, i.d, r, 0, 0, 0⟩ _ H1.out (by have := R1.out.1; omega)).mono ?_
  rintro e w30 ⟨rfl, h30, fr30⟩
  have H30 := Lib.hid h30
  have F30 := Lib.hid (F1.out.trans fr30)
  clear h30 fr30 nd
  go_wp2_with fail
  go_ret
  refine ⟨m1.put ⟨15, i.d, r, 0, 0, 0⟩, rfl, ?_, ?_, HO.out _ F30.out⟩
  · show (Ev.mkOut m i).map _ = _
    rw [(show Ev.mkOut m i = some (r, m1) from by unfold Ev.mkOut; rw [if_neg (by have := HOP.out; omega), if_neg (by have := HOP.out; omega), if_pos (by have := HOP.out; omega), HXX.out])]
    rfl
  · have := H30.out.weak HK1.out
    rw [← HC1.out] at this
    exact this
set_option maxRecDepth 8000 in
set_option maxHeartbeats 3200000 in
theorem mother_sh6 (c : MkC) (m : Ev.Mk) (l : List Int) (i : Ev.Instr) (w : World) (h : MkIn w c m l) (hop : i.op = 6) (ha : Ev.InP m.secret i.a) (hb : Ev.InP m.secret i.b) (hr : Room m 963) :
    Calls Try.prog 55 #[.pointer (some ⟨c.mb, 0, none⟩), .agg #[.int .i64 i.op, .int .i64 i.d, .int .i64 i.a, .int .i64 i.b, .int .i64 i.c, .int .i64 i.imm]] w fun e w' => ∃ m', e = .returned (.bool true) ∧ Ev.mkOther m i = some m' ∧ MkIn w' c m' l ∧ MkFr c w w' := by
  have HW := Lib.hid h
  have HX : Hid (MkIn (w.alloc (.cells #[.int .i64 i.op, .int .i64 i.d, .int .i64 i.a, .int .i64 i.b, .int .i64 i.c, .int .i64 i.imm] 39)) { c with K := fun b => c.K b ∨ b = w.heap.size } m l) := Lib.hid (h.guardNew (.cells #[.int .i64 i.op, .int .i64 i.d, .int .i64 i.a, .int .i64 i.b, .int .i64 i.c, .int .i64 i.imm] 39))
  have HB : Hid ((w.alloc (.cells #[.int .i64 i.op, .int .i64 i.d, .int .i64 i.a, .int .i64 i.b, .int .i64 i.c, .int .i64 i.imm] 39)).heap[w.heap.size]? = some (.cells #[.int .i64 i.op, .int .i64 i.d, .int .i64 i.a, .int .i64 i.b, .int .i64 i.c, .int .i64 i.imm] 39 (0, 0))) := Lib.hid (heap_alloc_new w _)
  have HO : Hid (∀ u, MkFr { c with K := fun b => c.K b ∨ b = w.heap.size } (w.alloc (.cells #[.int .i64 i.op, .int .i64 i.d, .int .i64 i.a, .int .i64 i.b, .int .i64 i.c, .int .i64 i.imm] 39)) u → MkFr c w u) := Lib.hid (fun u hu => MkFr.outAlloc h _ hu)
  have R0 := Lib.hid hr
  have HOP := Lib.hid hop
  have J0_ia := Lib.hid ha
  have J0_ib := Lib.hid hb
  clear h hr hop ha hb
  go_enter Try.func55, Try.ntmps55
  go_upto_region 2 with fail
  obtain ⟨wA, hwA⟩ : ∃ wA, w.alloc (.cells #[.int .i64 i.op, .int .i64 i.d, .int .i64 i.a, .int .i64 i.b, .int .i64 i.c, .int .i64 i.imm] 39) = wA := ⟨_, rfl⟩
  rw [hwA] at HX HB HO
  (try rw [hwA])
  clear hwA
  obtain ⟨c1, hc1⟩ : ∃ c1 : MkC, { c with K := fun b => c.K b ∨ b = w.heap.size } = c1 := ⟨_, rfl⟩
  have hmb : c.mb = c1.mb := by rw [← hc1]
  have HK1 : Hid (∀ b, c.K b → c1.K b) := Lib.hid (fun b hb => by rw [← hc1]; exact .inl hb)
  have HC1 := Lib.hid hc1
  have hB : c1.K w.heap.size := by rw [← hc1]; exact .inr rfl
  rw [hc1] at HX HO
  have HBX : Hid (∀ u, MkFr c1 wA u → u.heap[w.heap.size]? = some (.cells #[.int .i64 i.op, .int .i64 i.d, .int .i64 i.a, .int .i64 i.b, .int .i64 i.c, .int .i64 i.imm] 39 (0, 0))) := Lib.hid (fun u hu => (hu.keep _ hB).trans HB.out)
  rw [hmb]
  clear hc1 hmb hB
  generalize w.heap.size = B0 at *
  have H0 := HX
  have F0 := Lib.hid (MkFr.refl c1 wA)
  have bx := HB.out
  have n0 : wA.cell? ⟨B0, 0, none⟩ = some (.int .i64 i.op) := (cell_of_block bx 0).trans rfl
  have n2 : wA.cell? ⟨B0, 2, none⟩ = some (.int .i64 i.a) := (cell_of_block bx 2).trans rfl
  have n3 : wA.cell? ⟨B0, 3, none⟩ = some (.int .i64 i.b) := (cell_of_block bx 3).trans rfl
  have n4 : wA.cell? ⟨B0, 4, none⟩ = some (.int .i64 i.c) := (cell_of_block bx 4).trans rfl
  clear bx
  have g8 : (i.op == 8) = false := by rw [HOP.out]; rfl
  have g9 : (i.op == 9) = false := by rw [HOP.out]; rfl
  have g10 : (i.op == 10) = false := by rw [HOP.out]; rfl
  have g6 : (i.op == 6) = true := by rw [HOP.out]; rfl
  go_wp2_with fail
  go_at_call 80
  refine (mshift_any c1 m l i.op i.a i.b _ H0.out J0_ia.out J0_ib.out (R0.out.less (by omega))).mono ?_
  rintro e w1 ⟨rfl, h1, fr1⟩
  have F1 := Lib.hid fr1
  have cd := Ev.shTo_code m i.op i.a i.b 5
  have R1 : Hid (Room (Ev.mkShTo m i.op i.a i.b 5).2 1) := Lib.hid (by have := R0.out; unfold Room at *; omega)
  generalize hx : Ev.mkShTo m i.op i.a i.b 5 = X at *
  obtain ⟨r, m1⟩ := X
  dsimp only at h1 R1
  have HXX := Lib.hid hx
  have H1 := Lib.hid h1
  clear cd hx h1 fr1 F0 H0 n2 n3 n4 n0 J0_ia J0_ib
  have bx := HBX.out _ F1.out
  have nd : w1.cell? ⟨B0, 1, none⟩ = some (.int .i64 i.d) := (cell_of_block bx 1).trans rfl
  clear bx
  go_wp2_with fail
  go_at_call 54
  refine (put_any c1 m1 l ⟨15, i.d, r, 0, 0, 0⟩ _ H1.out (by have := R1.out.1; omega)).mono ?_
  rintro e w30 ⟨rfl, h30, fr30⟩
  have H30 := Lib.hid h30
  have F30 := Lib.hid (F1.out.trans fr30)
  clear h30 fr30 nd
  go_wp2_with fail
  go_ret
  refine ⟨m1.put ⟨15, i.d, r, 0, 0, 0⟩, rfl, ?_, ?_, HO.out _ F30.out⟩
  · show (Ev.mkOut m i).map _ = _
    rw [(show Ev.mkOut m i = some (r, m1) from by unfold Ev.mkOut; rw [if_neg (by have := HOP.out; omega), if_neg (by have := HOP.out; omega), if_neg (by have := HOP.out; omega), if_pos (by have := HOP.out; omega), HXX.out])]
    rfl
  · have := H30.out.weak HK1.out
    rw [← HC1.out] at this
    exact this
set_option maxRecDepth 8000 in
set_option maxHeartbeats 3200000 in
theorem mother_sh7 (c : MkC) (m : Ev.Mk) (l : List Int) (i : Ev.Instr) (w : World) (h : MkIn w c m l) (hop : i.op = 7) (ha : Ev.InP m.secret i.a) (hb : Ev.InP m.secret i.b) (hr : Room m 963) :
    Calls Try.prog 55 #[.pointer (some ⟨c.mb, 0, none⟩), .agg #[.int .i64 i.op, .int .i64 i.d, .int .i64 i.a, .int .i64 i.b, .int .i64 i.c, .int .i64 i.imm]] w fun e w' => ∃ m', e = .returned (.bool true) ∧ Ev.mkOther m i = some m' ∧ MkIn w' c m' l ∧ MkFr c w w' := by
  have HW := Lib.hid h
  have HX : Hid (MkIn (w.alloc (.cells #[.int .i64 i.op, .int .i64 i.d, .int .i64 i.a, .int .i64 i.b, .int .i64 i.c, .int .i64 i.imm] 39)) { c with K := fun b => c.K b ∨ b = w.heap.size } m l) := Lib.hid (h.guardNew (.cells #[.int .i64 i.op, .int .i64 i.d, .int .i64 i.a, .int .i64 i.b, .int .i64 i.c, .int .i64 i.imm] 39))
  have HB : Hid ((w.alloc (.cells #[.int .i64 i.op, .int .i64 i.d, .int .i64 i.a, .int .i64 i.b, .int .i64 i.c, .int .i64 i.imm] 39)).heap[w.heap.size]? = some (.cells #[.int .i64 i.op, .int .i64 i.d, .int .i64 i.a, .int .i64 i.b, .int .i64 i.c, .int .i64 i.imm] 39 (0, 0))) := Lib.hid (heap_alloc_new w _)
  have HO : Hid (∀ u, MkFr { c with K := fun b => c.K b ∨ b = w.heap.size } (w.alloc (.cells #[.int .i64 i.op, .int .i64 i.d, .int .i64 i.a, .int .i64 i.b, .int .i64 i.c, .int .i64 i.imm] 39)) u → MkFr c w u) := Lib.hid (fun u hu => MkFr.outAlloc h _ hu)
  have R0 := Lib.hid hr
  have HOP := Lib.hid hop
  have J0_ia := Lib.hid ha
  have J0_ib := Lib.hid hb
  clear h hr hop ha hb
  go_enter Try.func55, Try.ntmps55
  go_upto_region 2 with fail
  obtain ⟨wA, hwA⟩ : ∃ wA, w.alloc (.cells #[.int .i64 i.op, .int .i64 i.d, .int .i64 i.a, .int .i64 i.b, .int .i64 i.c, .int .i64 i.imm] 39) = wA := ⟨_, rfl⟩
  rw [hwA] at HX HB HO
  (try rw [hwA])
  clear hwA
  obtain ⟨c1, hc1⟩ : ∃ c1 : MkC, { c with K := fun b => c.K b ∨ b = w.heap.size } = c1 := ⟨_, rfl⟩
  have hmb : c.mb = c1.mb := by rw [← hc1]
  have HK1 : Hid (∀ b, c.K b → c1.K b) := Lib.hid (fun b hb => by rw [← hc1]; exact .inl hb)
  have HC1 := Lib.hid hc1
  have hB : c1.K w.heap.size := by rw [← hc1]; exact .inr rfl
  rw [hc1] at HX HO
  have HBX : Hid (∀ u, MkFr c1 wA u → u.heap[w.heap.size]? = some (.cells #[.int .i64 i.op, .int .i64 i.d, .int .i64 i.a, .int .i64 i.b, .int .i64 i.c, .int .i64 i.imm] 39 (0, 0))) := Lib.hid (fun u hu => (hu.keep _ hB).trans HB.out)
  rw [hmb]
  clear hc1 hmb hB
  generalize w.heap.size = B0 at *
  have H0 := HX
  have F0 := Lib.hid (MkFr.refl c1 wA)
  have bx := HB.out
  have n0 : wA.cell? ⟨B0, 0, none⟩ = some (.int .i64 i.op) := (cell_of_block bx 0).trans rfl
  have n2 : wA.cell? ⟨B0, 2, none⟩ = some (.int .i64 i.a) := (cell_of_block bx 2).trans rfl
  have n3 : wA.cell? ⟨B0, 3, none⟩ = some (.int .i64 i.b) := (cell_of_block bx 3).trans rfl
  have n4 : wA.cell? ⟨B0, 4, none⟩ = some (.int .i64 i.c) := (cell_of_block bx 4).trans rfl
  clear bx
  have g8 : (i.op == 8) = false := by rw [HOP.out]; rfl
  have g9 : (i.op == 9) = false := by rw [HOP.out]; rfl
  have g10 : (i.op == 10) = false := by rw [HOP.out]; rfl
  have g6 : (i.op == 6) = false := by rw [HOP.out]; rfl
  have g7 : (i.op == 7) = true := by rw [HOP.out]; rfl
  go_wp2_with fail
  go_at_call 80
  refine (mshift_any c1 m l i.op i.a i.b _ H0.out J0_ia.out J0_ib.out (R0.out.less (by omega))).mono ?_
  rintro e w1 ⟨rfl, h1, fr1⟩
  have F1 := Lib.hid fr1
  have cd := Ev.shTo_code m i.op i.a i.b 5
  have R1 : Hid (Room (Ev.mkShTo m i.op i.a i.b 5).2 1) := Lib.hid (by have := R0.out; unfold Room at *; omega)
  generalize hx : Ev.mkShTo m i.op i.a i.b 5 = X at *
  obtain ⟨r, m1⟩ := X
  dsimp only at h1 R1
  have HXX := Lib.hid hx
  have H1 := Lib.hid h1
  clear cd hx h1 fr1 F0 H0 n2 n3 n4 n0 J0_ia J0_ib
  have bx := HBX.out _ F1.out
  have nd : w1.cell? ⟨B0, 1, none⟩ = some (.int .i64 i.d) := (cell_of_block bx 1).trans rfl
  clear bx
  go_wp2_with fail
  go_at_call 54
  refine (put_any c1 m1 l ⟨15, i.d, r, 0, 0, 0⟩ _ H1.out (by have := R1.out.1; omega)).mono ?_
  rintro e w30 ⟨rfl, h30, fr30⟩
  have H30 := Lib.hid h30
  have F30 := Lib.hid (F1.out.trans fr30)
  clear h30 fr30 nd
  go_wp2_with fail
  go_ret
  refine ⟨m1.put ⟨15, i.d, r, 0, 0, 0⟩, rfl, ?_, ?_, HO.out _ F30.out⟩
  · show (Ev.mkOut m i).map _ = _
    rw [(show Ev.mkOut m i = some (r, m1) from by unfold Ev.mkOut; rw [if_neg (by have := HOP.out; omega), if_neg (by have := HOP.out; omega), if_neg (by have := HOP.out; omega), if_pos (by have := HOP.out; omega), HXX.out])]
    rfl
  · have := H30.out.weak HK1.out
    rw [← HC1.out] at this
    exact this
set_option maxRecDepth 8000 in
set_option maxHeartbeats 3200000 in
theorem mother_less (c : MkC) (m : Ev.Mk) (l : List Int) (i : Ev.Instr) (w : World) (h : MkIn w c m l) (hop : i.op = 11) (ha : Ev.InP m.secret i.a) (hb : Ev.InP m.secret i.b) (hr : Room m 963) :
    Calls Try.prog 55 #[.pointer (some ⟨c.mb, 0, none⟩), .agg #[.int .i64 i.op, .int .i64 i.d, .int .i64 i.a, .int .i64 i.b, .int .i64 i.c, .int .i64 i.imm]] w fun e w' => ∃ m', e = .returned (.bool true) ∧ Ev.mkOther m i = some m' ∧ MkIn w' c m' l ∧ MkFr c w w' := by
  have HW := Lib.hid h
  have HX : Hid (MkIn (w.alloc (.cells #[.int .i64 i.op, .int .i64 i.d, .int .i64 i.a, .int .i64 i.b, .int .i64 i.c, .int .i64 i.imm] 39)) { c with K := fun b => c.K b ∨ b = w.heap.size } m l) := Lib.hid (h.guardNew (.cells #[.int .i64 i.op, .int .i64 i.d, .int .i64 i.a, .int .i64 i.b, .int .i64 i.c, .int .i64 i.imm] 39))
  have HB : Hid ((w.alloc (.cells #[.int .i64 i.op, .int .i64 i.d, .int .i64 i.a, .int .i64 i.b, .int .i64 i.c, .int .i64 i.imm] 39)).heap[w.heap.size]? = some (.cells #[.int .i64 i.op, .int .i64 i.d, .int .i64 i.a, .int .i64 i.b, .int .i64 i.c, .int .i64 i.imm] 39 (0, 0))) := Lib.hid (heap_alloc_new w _)
  have HO : Hid (∀ u, MkFr { c with K := fun b => c.K b ∨ b = w.heap.size } (w.alloc (.cells #[.int .i64 i.op, .int .i64 i.d, .int .i64 i.a, .int .i64 i.b, .int .i64 i.c, .int .i64 i.imm] 39)) u → MkFr c w u) := Lib.hid (fun u hu => MkFr.outAlloc h _ hu)
  have R0 := Lib.hid hr
  have HOP := Lib.hid hop
  have J0_ia := Lib.hid ha
  have J0_ib := Lib.hid hb
  clear h hr hop ha hb
  go_enter Try.func55, Try.ntmps55
  go_upto_region 2 with fail
  obtain ⟨wA, hwA⟩ : ∃ wA, w.alloc (.cells #[.int .i64 i.op, .int .i64 i.d, .int .i64 i.a, .int .i64 i.b, .int .i64 i.c, .int .i64 i.imm] 39) = wA := ⟨_, rfl⟩
  rw [hwA] at HX HB HO
  (try rw [hwA])
  clear hwA
  obtain ⟨c1, hc1⟩ : ∃ c1 : MkC, { c with K := fun b => c.K b ∨ b = w.heap.size } = c1 := ⟨_, rfl⟩
  have hmb : c.mb = c1.mb := by rw [← hc1]
  have HK1 : Hid (∀ b, c.K b → c1.K b) := Lib.hid (fun b hb => by rw [← hc1]; exact .inl hb)
  have HC1 := Lib.hid hc1
  have hB : c1.K w.heap.size := by rw [← hc1]; exact .inr rfl
  rw [hc1] at HX HO
  have HBX : Hid (∀ u, MkFr c1 wA u → u.heap[w.heap.size]? = some (.cells #[.int .i64 i.op, .int .i64 i.d, .int .i64 i.a, .int .i64 i.b, .int .i64 i.c, .int .i64 i.imm] 39 (0, 0))) := Lib.hid (fun u hu => (hu.keep _ hB).trans HB.out)
  rw [hmb]
  clear hc1 hmb hB
  generalize w.heap.size = B0 at *
  have H0 := HX
  have F0 := Lib.hid (MkFr.refl c1 wA)
  have bx := HB.out
  have n0 : wA.cell? ⟨B0, 0, none⟩ = some (.int .i64 i.op) := (cell_of_block bx 0).trans rfl
  have n2 : wA.cell? ⟨B0, 2, none⟩ = some (.int .i64 i.a) := (cell_of_block bx 2).trans rfl
  have n3 : wA.cell? ⟨B0, 3, none⟩ = some (.int .i64 i.b) := (cell_of_block bx 3).trans rfl
  have n4 : wA.cell? ⟨B0, 4, none⟩ = some (.int .i64 i.c) := (cell_of_block bx 4).trans rfl
  clear bx
  have g8 : (i.op == 8) = false := by rw [HOP.out]; rfl
  have g9 : (i.op == 9) = false := by rw [HOP.out]; rfl
  have g10 : (i.op == 10) = false := by rw [HOP.out]; rfl
  have g6 : (i.op == 6) = false := by rw [HOP.out]; rfl
  have g7 : (i.op == 7) = false := by rw [HOP.out]; rfl
  have g11 : (i.op == 11) = true := by rw [HOP.out]; rfl
  go_wp2_with fail
  go_at_call 81
  refine (mless_any c1 m l i.a i.b _ H0.out J0_ia.out J0_ib.out (R0.out.less (by omega))).mono ?_
  rintro e w1 ⟨rfl, h1, fr1⟩
  have F1 := Lib.hid fr1
  have cd := Ev.less_code m i.a i.b
  have R1 : Hid (Room (Ev.mkLess m i.a i.b).2 1) := Lib.hid (by have := R0.out; unfold Room at *; omega)
  generalize hx : Ev.mkLess m i.a i.b = X at *
  obtain ⟨r, m1⟩ := X
  dsimp only at h1 R1
  have HXX := Lib.hid hx
  have H1 := Lib.hid h1
  clear cd hx h1 fr1 F0 H0 n2 n3 n4 n0 J0_ia J0_ib
  have bx := HBX.out _ F1.out
  have nd : w1.cell? ⟨B0, 1, none⟩ = some (.int .i64 i.d) := (cell_of_block bx 1).trans rfl
  clear bx
  go_wp2_with fail
  go_at_call 54
  refine (put_any c1 m1 l ⟨15, i.d, r, 0, 0, 0⟩ _ H1.out (by have := R1.out.1; omega)).mono ?_
  rintro e w30 ⟨rfl, h30, fr30⟩
  have H30 := Lib.hid h30
  have F30 := Lib.hid (F1.out.trans fr30)
  clear h30 fr30 nd
  go_wp2_with fail
  go_ret
  refine ⟨m1.put ⟨15, i.d, r, 0, 0, 0⟩, rfl, ?_, ?_, HO.out _ F30.out⟩
  · show (Ev.mkOut m i).map _ = _
    rw [(show Ev.mkOut m i = some (r, m1) from by unfold Ev.mkOut; rw [if_neg (by have := HOP.out; omega), if_neg (by have := HOP.out; omega), if_neg (by have := HOP.out; omega), if_neg (by have := HOP.out; omega), if_pos (by have := HOP.out; omega), HXX.out])]
    rfl
  · have := H30.out.weak HK1.out
    rw [← HC1.out] at this
    exact this
set_option maxRecDepth 8000 in
set_option maxHeartbeats 3200000 in
theorem mother_same (c : MkC) (m : Ev.Mk) (l : List Int) (i : Ev.Instr) (w : World) (h : MkIn w c m l) (hop : i.op = 12) (ha : Ev.InP m.secret i.a) (hb : Ev.InP m.secret i.b) (hr : Room m 963) :
    Calls Try.prog 55 #[.pointer (some ⟨c.mb, 0, none⟩), .agg #[.int .i64 i.op, .int .i64 i.d, .int .i64 i.a, .int .i64 i.b, .int .i64 i.c, .int .i64 i.imm]] w fun e w' => ∃ m', e = .returned (.bool true) ∧ Ev.mkOther m i = some m' ∧ MkIn w' c m' l ∧ MkFr c w w' := by
  have HW := Lib.hid h
  have HX : Hid (MkIn (w.alloc (.cells #[.int .i64 i.op, .int .i64 i.d, .int .i64 i.a, .int .i64 i.b, .int .i64 i.c, .int .i64 i.imm] 39)) { c with K := fun b => c.K b ∨ b = w.heap.size } m l) := Lib.hid (h.guardNew (.cells #[.int .i64 i.op, .int .i64 i.d, .int .i64 i.a, .int .i64 i.b, .int .i64 i.c, .int .i64 i.imm] 39))
  have HB : Hid ((w.alloc (.cells #[.int .i64 i.op, .int .i64 i.d, .int .i64 i.a, .int .i64 i.b, .int .i64 i.c, .int .i64 i.imm] 39)).heap[w.heap.size]? = some (.cells #[.int .i64 i.op, .int .i64 i.d, .int .i64 i.a, .int .i64 i.b, .int .i64 i.c, .int .i64 i.imm] 39 (0, 0))) := Lib.hid (heap_alloc_new w _)
  have HO : Hid (∀ u, MkFr { c with K := fun b => c.K b ∨ b = w.heap.size } (w.alloc (.cells #[.int .i64 i.op, .int .i64 i.d, .int .i64 i.a, .int .i64 i.b, .int .i64 i.c, .int .i64 i.imm] 39)) u → MkFr c w u) := Lib.hid (fun u hu => MkFr.outAlloc h _ hu)
  have R0 := Lib.hid hr
  have HOP := Lib.hid hop
  have J0_ia := Lib.hid ha
  have J0_ib := Lib.hid hb
  clear h hr hop ha hb
  go_enter Try.func55, Try.ntmps55
  go_upto_region 2 with fail
  obtain ⟨wA, hwA⟩ : ∃ wA, w.alloc (.cells #[.int .i64 i.op, .int .i64 i.d, .int .i64 i.a, .int .i64 i.b, .int .i64 i.c, .int .i64 i.imm] 39) = wA := ⟨_, rfl⟩
  rw [hwA] at HX HB HO
  (try rw [hwA])
  clear hwA
  obtain ⟨c1, hc1⟩ : ∃ c1 : MkC, { c with K := fun b => c.K b ∨ b = w.heap.size } = c1 := ⟨_, rfl⟩
  have hmb : c.mb = c1.mb := by rw [← hc1]
  have HK1 : Hid (∀ b, c.K b → c1.K b) := Lib.hid (fun b hb => by rw [← hc1]; exact .inl hb)
  have HC1 := Lib.hid hc1
  have hB : c1.K w.heap.size := by rw [← hc1]; exact .inr rfl
  rw [hc1] at HX HO
  have HBX : Hid (∀ u, MkFr c1 wA u → u.heap[w.heap.size]? = some (.cells #[.int .i64 i.op, .int .i64 i.d, .int .i64 i.a, .int .i64 i.b, .int .i64 i.c, .int .i64 i.imm] 39 (0, 0))) := Lib.hid (fun u hu => (hu.keep _ hB).trans HB.out)
  rw [hmb]
  clear hc1 hmb hB
  generalize w.heap.size = B0 at *
  have H0 := HX
  have F0 := Lib.hid (MkFr.refl c1 wA)
  have bx := HB.out
  have n0 : wA.cell? ⟨B0, 0, none⟩ = some (.int .i64 i.op) := (cell_of_block bx 0).trans rfl
  have n2 : wA.cell? ⟨B0, 2, none⟩ = some (.int .i64 i.a) := (cell_of_block bx 2).trans rfl
  have n3 : wA.cell? ⟨B0, 3, none⟩ = some (.int .i64 i.b) := (cell_of_block bx 3).trans rfl
  have n4 : wA.cell? ⟨B0, 4, none⟩ = some (.int .i64 i.c) := (cell_of_block bx 4).trans rfl
  clear bx
  have g8 : (i.op == 8) = false := by rw [HOP.out]; rfl
  have g9 : (i.op == 9) = false := by rw [HOP.out]; rfl
  have g10 : (i.op == 10) = false := by rw [HOP.out]; rfl
  have g6 : (i.op == 6) = false := by rw [HOP.out]; rfl
  have g7 : (i.op == 7) = false := by rw [HOP.out]; rfl
  have g11 : (i.op == 11) = false := by rw [HOP.out]; rfl
  have g12 : (i.op == 12) = true := by rw [HOP.out]; rfl
  go_wp2_with fail
  go_at_call 82
  refine (mtwo_any c1 m l 5 i.a i.b _ H0.out J0_ia.out J0_ib.out (R0.out.less (by omega))).mono ?_
  rintro e w1 ⟨rfl, h1, fr1⟩
  have F1 := Lib.hid (F0.out.trans fr1)
  have cd := Ev.two_code m 5 i.a i.b
  have R1 := Lib.hid (R0.out.more cd (by omega))
  have nw := new_two m 5 i.a i.b
  obtain ⟨r1, hr1⟩ : ∃ zz, zz = (Ev.mkTwo m 5 i.a i.b).1 := ⟨_, rfl⟩
  obtain ⟨m1, hm1⟩ : ∃ zz, zz = (Ev.mkTwo m 5 i.a i.b).2 := ⟨_, rfl⟩
  have X1 := Lib.hid hr1
  have Y1 := Lib.hid hm1
  simp only [← hr1, ← hm1] at h1 nw R1  ⊢
  have J1_r1 := Lib.hid nw
  have H1 := Lib.hid h1
  clear cd nw h1 fr1 hr1 hm1 F0 H0 R0 
  go_wp2_with fail
  go_at_call 83
  refine (msome_any c1 m1 l r1 _ H1.out J1_r1.out (R1.out.less (by omega))).mono ?_
  rintro e w2 ⟨rfl, h2, fr2⟩
  have F2 := Lib.hid (F1.out.trans fr2)
  have cd := Ev.some_code m1 r1
  have R2 := Lib.hid (R1.out.more cd (by omega))
  have J2_r1 := Lib.hid (InP.more J1_r1.out cd.2)
  have nw := new_some m1 r1
  obtain ⟨r2, hr2⟩ : ∃ zz, zz = (Ev.mkSome m1 r1).1 := ⟨_, rfl⟩
  obtain ⟨m2, hm2⟩ : ∃ zz, zz = (Ev.mkSome m1 r1).2 := ⟨_, rfl⟩
  have X2 := Lib.hid hr2
  have Y2 := Lib.hid hm2
  simp only [← hr2, ← hm2] at h2 nw R2 J2_r1 ⊢
  have J2_r2 := Lib.hid nw
  have H2 := Lib.hid h2
  clear cd nw h2 fr2 hr2 hm2 F1 H1 R1 J1_r1
  go_wp2_with fail
  go_at_call 84
  refine (mnum_any c1 m2 l 1 _ H2.out  (R2.out.less (by omega))).mono ?_
  rintro e w3 ⟨rfl, h3, fr3⟩
  have F3 := Lib.hid (F2.out.trans fr3)
  have cd := Ev.num_code m2 1
  have R3 := Lib.hid (R2.out.more cd (by omega))
  have J3_r1 := Lib.hid (InP.more J2_r1.out cd.2)
  have J3_r2 := Lib.hid (InP.more J2_r2.out cd.2)
  have nw := new_num m2 1
  obtain ⟨r3, hr3⟩ : ∃ zz, zz = (Ev.mkNum m2 1).1 := ⟨_, rfl⟩
  obtain ⟨m3, hm3⟩ : ∃ zz, zz = (Ev.mkNum m2 1).2 := ⟨_, rfl⟩
  have X3 := Lib.hid hr3
  have Y3 := Lib.hid hm3
  simp only [← hr3, ← hm3] at h3 nw R3 J3_r1 J3_r2 ⊢
  have J3_r3 := Lib.hid nw
  have H3 := Lib.hid h3
  clear cd nw h3 fr3 hr3 hm3 F2 H2 R2 J2_r1 J2_r2
  go_wp2_with fail
  go_at_call 82
  refine (mtwo_any c1 m3 l 5 r2 r3 _ H3.out J3_r2.out J3_r3.out (R3.out.less (by omega))).mono ?_
  rintro e w4 ⟨rfl, h4, fr4⟩
  have F4 := Lib.hid (F3.out.trans fr4)
  have cd := Ev.two_code m3 5 r2 r3
  have R4 := Lib.hid (R3.out.more cd (by omega))
  have J4_r1 := Lib.hid (InP.more J3_r1.out cd.2)
  have J4_r2 := Lib.hid (InP.more J3_r2.out cd.2)
  have J4_r3 := Lib.hid (InP.more J3_r3.out cd.2)
  have nw := new_two m3 5 r2 r3
  obtain ⟨r4, hr4⟩ : ∃ zz, zz = (Ev.mkTwo m3 5 r2 r3).1 := ⟨_, rfl⟩
  obtain ⟨m4, hm4⟩ : ∃ zz, zz = (Ev.mkTwo m3 5 r2 r3).2 := ⟨_, rfl⟩
  have X4 := Lib.hid hr4
  have Y4 := Lib.hid hm4
  simp only [← hr4, ← hm4] at h4 nw R4 J4_r1 J4_r2 J4_r3 ⊢
  have J4_r4 := Lib.hid nw
  have H4 := Lib.hid h4
  clear cd nw h4 fr4 hr4 hm4 F3 H3 R3 J3_r1 J3_r2 J3_r3
  clear n2 n3 n4 n0 J0_ia J0_ib
  have bx := HBX.out _ F4.out
  have nd : w4.cell? ⟨B0, 1, none⟩ = some (.int .i64 i.d) := (cell_of_block bx 1).trans rfl
  clear bx
  go_wp2_with fail
  go_at_call 54
  refine (put_any c1 m4 l ⟨15, i.d, r4, 0, 0, 0⟩ _ H4.out (by have := R4.out.1; omega)).mono ?_
  rintro e w30 ⟨rfl, h30, fr30⟩
  have H30 := Lib.hid h30
  have F30 := Lib.hid (F4.out.trans fr30)
  clear h30 fr30 nd
  go_wp2_with fail
  go_ret
  refine ⟨m4.put ⟨15, i.d, r4, 0, 0, 0⟩, rfl, ?_, ?_, HO.out _ F30.out⟩
  · show (Ev.mkOut m i).map _ = _
    rw [(show Ev.mkOut m i = some (r4, m4) from by unfold Ev.mkOut; rw [if_neg (by have := HOP.out; omega), if_neg (by have := HOP.out; omega), if_neg (by have := HOP.out; omega), if_neg (by have := HOP.out; omega), if_neg (by have := HOP.out; omega), if_pos HOP.out, X4.out, Y4.out, X3.out, Y3.out, X2.out, Y2.out, X1.out, Y1.out])]
    rfl
  · have := H30.out.weak HK1.out
    rw [← HC1.out] at this
    exact this
set_option maxRecDepth 8000 in
set_option maxHeartbeats 3200000 in
theorem mother_sel (c : MkC) (m : Ev.Mk) (l : List Int) (i : Ev.Instr) (w : World) (h : MkIn w c m l) (hop : i.op = 13) (ha : Ev.InP m.secret i.a) (hb : Ev.InP m.secret i.b) (hcc : Ev.InP m.secret i.c) (hr : Room m 963) :
    Calls Try.prog 55 #[.pointer (some ⟨c.mb, 0, none⟩), .agg #[.int .i64 i.op, .int .i64 i.d, .int .i64 i.a, .int .i64 i.b, .int .i64 i.c, .int .i64 i.imm]] w fun e w' => ∃ m', e = .returned (.bool true) ∧ Ev.mkOther m i = some m' ∧ MkIn w' c m' l ∧ MkFr c w w' := by
  have HW := Lib.hid h
  have HX : Hid (MkIn (w.alloc (.cells #[.int .i64 i.op, .int .i64 i.d, .int .i64 i.a, .int .i64 i.b, .int .i64 i.c, .int .i64 i.imm] 39)) { c with K := fun b => c.K b ∨ b = w.heap.size } m l) := Lib.hid (h.guardNew (.cells #[.int .i64 i.op, .int .i64 i.d, .int .i64 i.a, .int .i64 i.b, .int .i64 i.c, .int .i64 i.imm] 39))
  have HB : Hid ((w.alloc (.cells #[.int .i64 i.op, .int .i64 i.d, .int .i64 i.a, .int .i64 i.b, .int .i64 i.c, .int .i64 i.imm] 39)).heap[w.heap.size]? = some (.cells #[.int .i64 i.op, .int .i64 i.d, .int .i64 i.a, .int .i64 i.b, .int .i64 i.c, .int .i64 i.imm] 39 (0, 0))) := Lib.hid (heap_alloc_new w _)
  have HO : Hid (∀ u, MkFr { c with K := fun b => c.K b ∨ b = w.heap.size } (w.alloc (.cells #[.int .i64 i.op, .int .i64 i.d, .int .i64 i.a, .int .i64 i.b, .int .i64 i.c, .int .i64 i.imm] 39)) u → MkFr c w u) := Lib.hid (fun u hu => MkFr.outAlloc h _ hu)
  have R0 := Lib.hid hr
  have HOP := Lib.hid hop
  have J0_ia := Lib.hid ha
  have J0_ib := Lib.hid hb
  have J0_ic := Lib.hid hcc
  clear h hr hop ha hb hcc
  go_enter Try.func55, Try.ntmps55
  go_upto_region 2 with fail
  obtain ⟨wA, hwA⟩ : ∃ wA, w.alloc (.cells #[.int .i64 i.op, .int .i64 i.d, .int .i64 i.a, .int .i64 i.b, .int .i64 i.c, .int .i64 i.imm] 39) = wA := ⟨_, rfl⟩
  rw [hwA] at HX HB HO
  (try rw [hwA])
  clear hwA
  obtain ⟨c1, hc1⟩ : ∃ c1 : MkC, { c with K := fun b => c.K b ∨ b = w.heap.size } = c1 := ⟨_, rfl⟩
  have hmb : c.mb = c1.mb := by rw [← hc1]
  have HK1 : Hid (∀ b, c.K b → c1.K b) := Lib.hid (fun b hb => by rw [← hc1]; exact .inl hb)
  have HC1 := Lib.hid hc1
  have hB : c1.K w.heap.size := by rw [← hc1]; exact .inr rfl
  rw [hc1] at HX HO
  have HBX : Hid (∀ u, MkFr c1 wA u → u.heap[w.heap.size]? = some (.cells #[.int .i64 i.op, .int .i64 i.d, .int .i64 i.a, .int .i64 i.b, .int .i64 i.c, .int .i64 i.imm] 39 (0, 0))) := Lib.hid (fun u hu => (hu.keep _ hB).trans HB.out)
  rw [hmb]
  clear hc1 hmb hB
  generalize w.heap.size = B0 at *
  have H0 := HX
  have F0 := Lib.hid (MkFr.refl c1 wA)
  have bx := HB.out
  have n0 : wA.cell? ⟨B0, 0, none⟩ = some (.int .i64 i.op) := (cell_of_block bx 0).trans rfl
  have n2 : wA.cell? ⟨B0, 2, none⟩ = some (.int .i64 i.a) := (cell_of_block bx 2).trans rfl
  have n3 : wA.cell? ⟨B0, 3, none⟩ = some (.int .i64 i.b) := (cell_of_block bx 3).trans rfl
  have n4 : wA.cell? ⟨B0, 4, none⟩ = some (.int .i64 i.c) := (cell_of_block bx 4).trans rfl
  clear bx
  have g8 : (i.op == 8) = false := by rw [HOP.out]; rfl
  have g9 : (i.op == 9) = false := by rw [HOP.out]; rfl
  have g10 : (i.op == 10) = false := by rw [HOP.out]; rfl
  have g6 : (i.op == 6) = false := by rw [HOP.out]; rfl
  have g7 : (i.op == 7) = false := by rw [HOP.out]; rfl
  have g11 : (i.op == 11) = false := by rw [HOP.out]; rfl
  have g12 : (i.op == 12) = false := by rw [HOP.out]; rfl
  have g13 : (i.op == 13) = true := by rw [HOP.out]; rfl
  go_upto_region 18 with fail
  have H0' : Hid (MkIn wA.drew c1 m l) := Lib.hid (H0.out.stays (Below.refl _ _).drew)
  have F0' : Hid (MkFr c1 wA wA.drew) := Lib.hid F0.out.drew
  clear H0 F0 n0 n2 n3 n4
  refine wp_region_trail (fun w' => w'.heap[B0]? = some (.cells #[.int .i64 i.op, .int .i64 i.d, .int .i64 i.a, .int .i64 i.b, .int .i64 i.c, .int .i64 i.imm] 39 (0, 0))) [(0, true), (1, true), (2, true), (3, true), (4, true), (7, true), (8, true), (9, true), (10, true), (5, false), (6, false), (11, false), (12, true)] (by kernel_rfl) (by kernel_rfl) (by kernel_rfl) (by decide) (HBX.out _ F0'.out) ?_
  apply trail_light
  case hi => (simp only [List.getElem?_toArray, List.getElem?_cons_zero, List.getElem?_cons_succ]; exact rfl)
  case hl => first | exact light_no (by rfl) | ((first | apply light_plain rfl | apply light_yes (by rfl)); intro w9 hS9; skip; first | (exact exec_load rfl rfl (by first | exact ldi9 | exact ldt9)) | (go_simp; try rfl))
  case hQ => exact fun _ _ _ h => h
  (try simp only [Act.put, List.setIfInBounds_toArray, List.set_cons_zero, List.set_cons_succ])
  apply trail_light
  case hi => (simp only [List.getElem?_toArray, List.getElem?_cons_zero, List.getElem?_cons_succ]; exact rfl)
  case hl => first | exact light_no (by rfl) | ((first | apply light_plain rfl | apply light_yes (by rfl)); intro w9 hS9; skip; first | (exact exec_load rfl rfl (by first | exact ldi9 | exact ldt9)) | (go_simp; try rfl))
  case hQ => exact fun _ _ _ h => h
  (try simp only [Act.put, List.setIfInBounds_toArray, List.set_cons_zero, List.set_cons_succ])
  apply trail_light
  case hi => (simp only [List.getElem?_toArray, List.getElem?_cons_zero, List.getElem?_cons_succ]; exact rfl)
  case hl => first | exact light_no (by rfl) | ((first | apply light_plain rfl | apply light_yes (by rfl)); intro w9 hS9; skip; first | (exact exec_load rfl rfl (by first | exact ldi9 | exact ldt9)) | (go_simp; try rfl))
  case hQ => exact fun _ _ _ h => h
  (try simp only [Act.put, List.setIfInBounds_toArray, List.set_cons_zero, List.set_cons_succ])
  apply trail_light
  case hi => (simp only [List.getElem?_toArray, List.getElem?_cons_zero, List.getElem?_cons_succ]; exact rfl)
  case hl => first | exact light_no (by rfl) | ((first | apply light_plain rfl | apply light_yes (by rfl)); intro w9 hS9; have n2 : w9.cell? ⟨B0, 2, none⟩ = some (.int .i64 i.a) := (cell_of_block hS9 2).trans rfl; have n3 : w9.cell? ⟨B0, 3, none⟩ = some (.int .i64 i.b) := (cell_of_block hS9 3).trans rfl; have n4 : w9.cell? ⟨B0, 4, none⟩ = some (.int .i64 i.c) := (cell_of_block hS9 4).trans rfl; first | (exact exec_load rfl rfl (by first | exact ldi9 | exact ldt9)) | (go_simp; try rfl))
  case hQ => exact fun _ _ _ h => h
  (try simp only [Act.put, List.setIfInBounds_toArray, List.set_cons_zero, List.set_cons_succ])
  apply trail_light
  case hi => (simp only [List.getElem?_toArray, List.getElem?_cons_zero, List.getElem?_cons_succ]; exact rfl)
  case hl => first | exact light_no (by rfl) | ((first | apply light_plain rfl | apply light_yes (by rfl)); intro w9 hS9; have n2 : w9.cell? ⟨B0, 2, none⟩ = some (.int .i64 i.a) := (cell_of_block hS9 2).trans rfl; have n3 : w9.cell? ⟨B0, 3, none⟩ = some (.int .i64 i.b) := (cell_of_block hS9 3).trans rfl; have n4 : w9.cell? ⟨B0, 4, none⟩ = some (.int .i64 i.c) := (cell_of_block hS9 4).trans rfl; first | (exact exec_load rfl rfl (by first | exact ldi9 | exact ldt9)) | (go_simp; try rfl))
  case hQ => exact fun _ _ _ h => h
  (try simp only [Act.put, List.setIfInBounds_toArray, List.set_cons_zero, List.set_cons_succ])
  apply trail_light
  case hi => (simp only [List.getElem?_toArray, List.getElem?_cons_zero, List.getElem?_cons_succ]; exact rfl)
  case hl => first | exact light_no (by rfl) | ((first | apply light_plain rfl | apply light_yes (by rfl)); intro w9 hS9; have n2 : w9.cell? ⟨B0, 2, none⟩ = some (.int .i64 i.a) := (cell_of_block hS9 2).trans rfl; have n3 : w9.cell? ⟨B0, 3, none⟩ = some (.int .i64 i.b) := (cell_of_block hS9 3).trans rfl; have n4 : w9.cell? ⟨B0, 4, none⟩ = some (.int .i64 i.c) := (cell_of_block hS9 4).trans rfl; first | (exact exec_load rfl rfl (by first | exact ldi9 | exact ldt9)) | (go_simp; try rfl))
  case hQ => exact fun _ _ _ h => h
  (try simp only [Act.put, List.setIfInBounds_toArray, List.set_cons_zero, List.set_cons_succ])
  apply trail_light
  case hi => (simp only [List.getElem?_toArray, List.getElem?_cons_zero, List.getElem?_cons_succ]; exact rfl)
  case hl => first | exact light_no (by rfl) | ((first | apply light_plain rfl | apply light_yes (by rfl)); intro w9 hS9; have n2 : w9.cell? ⟨B0, 2, none⟩ = some (.int .i64 i.a) := (cell_of_block hS9 2).trans rfl; have n3 : w9.cell? ⟨B0, 3, none⟩ = some (.int .i64 i.b) := (cell_of_block hS9 3).trans rfl; have n4 : w9.cell? ⟨B0, 4, none⟩ = some (.int .i64 i.c) := (cell_of_block hS9 4).trans rfl; first | (exact exec_load rfl rfl (by first | exact ldi9 | exact ldt9)) | (go_simp; try rfl))
  case hQ => exact fun _ _ _ h => h
  (try simp only [Act.put, List.setIfInBounds_toArray, List.set_cons_zero, List.set_cons_succ])
  apply trail_light
  case hi => (simp only [List.getElem?_toArray, List.getElem?_cons_zero, List.getElem?_cons_succ]; exact rfl)
  case hl => first | exact light_no (by rfl) | ((first | apply light_plain rfl | apply light_yes (by rfl)); intro w9 hS9; have n2 : w9.cell? ⟨B0, 2, none⟩ = some (.int .i64 i.a) := (cell_of_block hS9 2).trans rfl; have n3 : w9.cell? ⟨B0, 3, none⟩ = some (.int .i64 i.b) := (cell_of_block hS9 3).trans rfl; have n4 : w9.cell? ⟨B0, 4, none⟩ = some (.int .i64 i.c) := (cell_of_block hS9 4).trans rfl; first | (exact exec_load rfl rfl (by first | exact ldi9 | exact ldt9)) | (go_simp; try rfl))
  case hQ => exact fun _ _ _ h => h
  (try simp only [Act.put, List.setIfInBounds_toArray, List.set_cons_zero, List.set_cons_succ])
  apply trail_light
  case hi => (simp only [List.getElem?_toArray, List.getElem?_cons_zero, List.getElem?_cons_succ]; exact rfl)
  case hl => first | exact light_no (by rfl) | ((first | apply light_plain rfl | apply light_yes (by rfl)); intro w9 hS9; have n2 : w9.cell? ⟨B0, 2, none⟩ = some (.int .i64 i.a) := (cell_of_block hS9 2).trans rfl; have n3 : w9.cell? ⟨B0, 3, none⟩ = some (.int .i64 i.b) := (cell_of_block hS9 3).trans rfl; have n4 : w9.cell? ⟨B0, 4, none⟩ = some (.int .i64 i.c) := (cell_of_block hS9 4).trans rfl; first | (exact exec_load rfl rfl (by first | exact ldi9 | exact ldt9)) | (go_simp; try rfl))
  case hQ => exact fun _ _ _ h => h
  (try simp only [Act.put, List.setIfInBounds_toArray, List.set_cons_zero, List.set_cons_succ])
  apply trail_heavy
  case hi => (simp only [List.getElem?_toArray, List.getElem?_cons_zero, List.getElem?_cons_succ]; exact rfl)
  go_wp2_with (first | (go_at_call 83; refine (msome_any c1 m l i.a _ H0'.out J0_ia.out (R0.out.less (by omega))).mono ?_; rintro e w1 ⟨rfl, h1, fr1⟩; have H1 := Lib.hid h1; have F1 := Lib.hid (F0'.out.trans fr1); clear h1 fr1) | (go_at_call 86; refine (mmask_any c1 _ l _ _ H1.out (new_some _ _) ((R0.out.more (Ev.some_code m i.a) (by omega)).less (by omega))).mono ?_; rintro e w2 ⟨rfl, h2, fr2⟩; have H2 := Lib.hid h2; have F2 := Lib.hid (F1.out.trans fr2); clear h2 fr2) | (go_at_call 85; refine (msel_any c1 _ l _ _ _ _ H2.out (new_mask _ _) (InP.more J0_ib.out ((Ev.mask_code _ _).2.trans (by rw [(Ev.some_code m i.a).2, Nat.add_assoc]))) (InP.more J0_ic.out ((Ev.mask_code _ _).2.trans (by rw [(Ev.some_code m i.a).2, Nat.add_assoc]))) (((R0.out.more (Ev.some_code m i.a) (by omega)).more (Ev.mask_code _ _) (by omega)).less (by omega))).mono ?_; rintro e w3 ⟨rfl, h3, fr3⟩; have H3 := Lib.hid h3; have F3 := Lib.hid (F2.out.trans fr3); clear h3 fr3))
  refine ⟨by (first | exact HBX.out _ F3.out | exact HBX.out _ F2.out | exact HBX.out _ F1.out), ?_⟩
  apply trail_heavy
  case hi => (simp only [List.getElem?_toArray, List.getElem?_cons_zero, List.getElem?_cons_succ]; exact rfl)
  go_wp2_with (first | (go_at_call 83; refine (msome_any c1 m l i.a _ H0'.out J0_ia.out (R0.out.less (by omega))).mono ?_; rintro e w1 ⟨rfl, h1, fr1⟩; have H1 := Lib.hid h1; have F1 := Lib.hid (F0'.out.trans fr1); clear h1 fr1) | (go_at_call 86; refine (mmask_any c1 _ l _ _ H1.out (new_some _ _) ((R0.out.more (Ev.some_code m i.a) (by omega)).less (by omega))).mono ?_; rintro e w2 ⟨rfl, h2, fr2⟩; have H2 := Lib.hid h2; have F2 := Lib.hid (F1.out.trans fr2); clear h2 fr2) | (go_at_call 85; refine (msel_any c1 _ l _ _ _ _ H2.out (new_mask _ _) (InP.more J0_ib.out ((Ev.mask_code _ _).2.trans (by rw [(Ev.some_code m i.a).2, Nat.add_assoc]))) (InP.more J0_ic.out ((Ev.mask_code _ _).2.trans (by rw [(Ev.some_code m i.a).2, Nat.add_assoc]))) (((R0.out.more (Ev.some_code m i.a) (by omega)).more (Ev.mask_code _ _) (by omega)).less (by omega))).mono ?_; rintro e w3 ⟨rfl, h3, fr3⟩; have H3 := Lib.hid h3; have F3 := Lib.hid (F2.out.trans fr3); clear h3 fr3))
  refine ⟨by (first | exact HBX.out _ F3.out | exact HBX.out _ F2.out | exact HBX.out _ F1.out), ?_⟩
  apply trail_heavy
  case hi => (simp only [List.getElem?_toArray, List.getElem?_cons_zero, List.getElem?_cons_succ]; exact rfl)
  go_wp2_with (first | (go_at_call 83; refine (msome_any c1 m l i.a _ H0'.out J0_ia.out (R0.out.less (by omega))).mono ?_; rintro e w1 ⟨rfl, h1, fr1⟩; have H1 := Lib.hid h1; have F1 := Lib.hid (F0'.out.trans fr1); clear h1 fr1) | (go_at_call 86; refine (mmask_any c1 _ l _ _ H1.out (new_some _ _) ((R0.out.more (Ev.some_code m i.a) (by omega)).less (by omega))).mono ?_; rintro e w2 ⟨rfl, h2, fr2⟩; have H2 := Lib.hid h2; have F2 := Lib.hid (F1.out.trans fr2); clear h2 fr2) | (go_at_call 85; refine (msel_any c1 _ l _ _ _ _ H2.out (new_mask _ _) (InP.more J0_ib.out ((Ev.mask_code _ _).2.trans (by rw [(Ev.some_code m i.a).2, Nat.add_assoc]))) (InP.more J0_ic.out ((Ev.mask_code _ _).2.trans (by rw [(Ev.some_code m i.a).2, Nat.add_assoc]))) (((R0.out.more (Ev.some_code m i.a) (by omega)).more (Ev.mask_code _ _) (by omega)).less (by omega))).mono ?_; rintro e w3 ⟨rfl, h3, fr3⟩; have H3 := Lib.hid h3; have F3 := Lib.hid (F2.out.trans fr3); clear h3 fr3))
  refine ⟨by (first | exact HBX.out _ F3.out | exact HBX.out _ F2.out | exact HBX.out _ F1.out), ?_⟩
  apply trail_light
  case hi => (simp only [List.getElem?_toArray, List.getElem?_cons_zero, List.getElem?_cons_succ]; exact rfl)
  case hl => first | exact light_no (by rfl) | ((first | apply light_plain rfl | apply light_yes (by rfl)); intro w9 hS9; skip; first | (exact exec_load rfl rfl (by first | exact ldi9 | exact ldt9)) | (go_simp; try rfl))
  case hQ => exact fun _ _ _ h => h
  (try simp only [Act.put, List.setIfInBounds_toArray, List.set_cons_zero, List.set_cons_succ])
  refine trail_nil ?_
  (try dsimp only)
  have R3 : Hid (Room (Ev.mkSel (Ev.mkMask (Ev.mkSome m i.a).2 (Ev.mkSome m i.a).1).2 (Ev.mkMask (Ev.mkSome m i.a).2 (Ev.mkSome m i.a).1).1 i.b i.c).2 1) := Lib.hid (by
    have c1 := Ev.some_code m i.a
    have c2 := Ev.mask_code (Ev.mkSome m i.a).2 (Ev.mkSome m i.a).1
    have c3 := Ev.sel_code (Ev.mkMask (Ev.mkSome m i.a).2 (Ev.mkSome m i.a).1).2 (Ev.mkMask (Ev.mkSome m i.a).2 (Ev.mkSome m i.a).1).1 i.b i.c
    have := R0.out
    unfold Room at *
    omega)
  generalize hx : Ev.mkSel (Ev.mkMask (Ev.mkSome m i.a).2 (Ev.mkSome m i.a).1).2 (Ev.mkMask (Ev.mkSome m i.a).2 (Ev.mkSome m i.a).1).1 i.b i.c = X at *
  obtain ⟨r, m3⟩ := X
  dsimp only at R3
  have HXX := Lib.hid hx
  clear hx
  have bx := HBX.out _ F3.out
  have nd : w3.cell? ⟨B0, 1, none⟩ = some (.int .i64 i.d) := (cell_of_block bx 1).trans rfl
  clear bx
  go_wp2_with fail
  go_at_call 54
  refine (put_any c1 m3 l ⟨15, i.d, r, 0, 0, 0⟩ _ H3.out (by have := R3.out.1; omega)).mono ?_
  rintro e w30 ⟨rfl, h30, fr30⟩
  have H30 := Lib.hid h30
  have F30 := Lib.hid (F3.out.trans fr30)
  clear h30 fr30 nd
  go_wp2_with fail
  go_ret
  refine ⟨m3.put ⟨15, i.d, r, 0, 0, 0⟩, rfl, ?_, ?_, HO.out _ F30.out⟩
  · show (Ev.mkOut m i).map _ = _
    rw [(show Ev.mkOut m i = some (r, m3) from by unfold Ev.mkOut; rw [if_neg (by have := HOP.out; omega), if_neg (by have := HOP.out; omega), if_neg (by have := HOP.out; omega), if_neg (by have := HOP.out; omega), if_neg (by have := HOP.out; omega), if_neg (by have := HOP.out; omega), if_pos HOP.out, HXX.out])]
    rfl
  · have := H30.out.weak HK1.out
    rw [← HC1.out] at this
    exact this
set_option maxRecDepth 8000 in
set_option maxHeartbeats 3200000 in
theorem mother_none (c : MkC) (m : Ev.Mk) (l : List Int) (i : Ev.Instr) (w : World) (h : MkIn w c m l) (hop : ¬ (6 ≤ i.op ∧ i.op ≤ 13)) (hr : Room m 963) :
    Calls Try.prog 55 #[.pointer (some ⟨c.mb, 0, none⟩), .agg #[.int .i64 i.op, .int .i64 i.d, .int .i64 i.a, .int .i64 i.b, .int .i64 i.c, .int .i64 i.imm]] w fun e w' => ∃ m', e = .returned (.bool false) ∧ Ev.mkOther m i = none ∧ m' = m ∧ MkIn w' c m' l ∧ MkFr c w w' := by
  have HW := Lib.hid h
  have HX : Hid (MkIn (w.alloc (.cells #[.int .i64 i.op, .int .i64 i.d, .int .i64 i.a, .int .i64 i.b, .int .i64 i.c, .int .i64 i.imm] 39)) { c with K := fun b => c.K b ∨ b = w.heap.size } m l) := Lib.hid (h.guardNew (.cells #[.int .i64 i.op, .int .i64 i.d, .int .i64 i.a, .int .i64 i.b, .int .i64 i.c, .int .i64 i.imm] 39))
  have HB : Hid ((w.alloc (.cells #[.int .i64 i.op, .int .i64 i.d, .int .i64 i.a, .int .i64 i.b, .int .i64 i.c, .int .i64 i.imm] 39)).heap[w.heap.size]? = some (.cells #[.int .i64 i.op, .int .i64 i.d, .int .i64 i.a, .int .i64 i.b, .int .i64 i.c, .int .i64 i.imm] 39 (0, 0))) := Lib.hid (heap_alloc_new w _)
  have HO : Hid (∀ u, MkFr { c with K := fun b => c.K b ∨ b = w.heap.size } (w.alloc (.cells #[.int .i64 i.op, .int .i64 i.d, .int .i64 i.a, .int .i64 i.b, .int .i64 i.c, .int .i64 i.imm] 39)) u → MkFr c w u) := Lib.hid (fun u hu => MkFr.outAlloc h _ hu)
  have R0 := Lib.hid hr
  have HOP := Lib.hid hop
  clear h hr hop
  go_enter Try.func55, Try.ntmps55
  go_upto_region 2 with fail
  obtain ⟨wA, hwA⟩ : ∃ wA, w.alloc (.cells #[.int .i64 i.op, .int .i64 i.d, .int .i64 i.a, .int .i64 i.b, .int .i64 i.c, .int .i64 i.imm] 39) = wA := ⟨_, rfl⟩
  rw [hwA] at HX HB HO
  (try rw [hwA])
  clear hwA
  obtain ⟨c1, hc1⟩ : ∃ c1 : MkC, { c with K := fun b => c.K b ∨ b = w.heap.size } = c1 := ⟨_, rfl⟩
  have hmb : c.mb = c1.mb := by rw [← hc1]
  have HK1 : Hid (∀ b, c.K b → c1.K b) := Lib.hid (fun b hb => by rw [← hc1]; exact .inl hb)
  have HC1 := Lib.hid hc1
  have hB : c1.K w.heap.size := by rw [← hc1]; exact .inr rfl
  rw [hc1] at HX HO
  have HBX : Hid (∀ u, MkFr c1 wA u → u.heap[w.heap.size]? = some (.cells #[.int .i64 i.op, .int .i64 i.d, .int .i64 i.a, .int .i64 i.b, .int .i64 i.c, .int .i64 i.imm] 39 (0, 0))) := Lib.hid (fun u hu => (hu.keep _ hB).trans HB.out)
  rw [hmb]
  clear hc1 hmb hB
  generalize w.heap.size = B0 at *
  have H0 := HX
  have F0 := Lib.hid (MkFr.refl c1 wA)
  have bx := HB.out
  have n0 : wA.cell? ⟨B0, 0, none⟩ = some (.int .i64 i.op) := (cell_of_block bx 0).trans rfl
  have n2 : wA.cell? ⟨B0, 2, none⟩ = some (.int .i64 i.a) := (cell_of_block bx 2).trans rfl
  have n3 : wA.cell? ⟨B0, 3, none⟩ = some (.int .i64 i.b) := (cell_of_block bx 3).trans rfl
  have n4 : wA.cell? ⟨B0, 4, none⟩ = some (.int .i64 i.c) := (cell_of_block bx 4).trans rfl
  clear bx
  have g8 : (i.op == 8) = false := beq_eq_false_iff_ne.2 (by have := HOP.out; omega)
  have g9 : (i.op == 9) = false := beq_eq_false_iff_ne.2 (by have := HOP.out; omega)
  have g10 : (i.op == 10) = false := beq_eq_false_iff_ne.2 (by have := HOP.out; omega)
  have g6 : (i.op == 6) = false := beq_eq_false_iff_ne.2 (by have := HOP.out; omega)
  have g7 : (i.op == 7) = false := beq_eq_false_iff_ne.2 (by have := HOP.out; omega)
  have g11 : (i.op == 11) = false := beq_eq_false_iff_ne.2 (by have := HOP.out; omega)
  have g12 : (i.op == 12) = false := beq_eq_false_iff_ne.2 (by have := HOP.out; omega)
  have g13 : (i.op == 13) = false := beq_eq_false_iff_ne.2 (by have := HOP.out; omega)
  go_wp2_with fail
  go_ret
  refine ⟨m, rfl, ?_, rfl, ?_, HO.out _ F0.out⟩
  · show (Ev.mkOut m i).map _ = _
    have e : Ev.mkOut m i = none := by
      cases hq : Ev.mkOut m i with
      | none => rfl
      | some q => exact absurd (Ev.out_some hq) HOP.out
    rw [e]
    rfl
  · have := H0.out.weak HK1.out
    rw [← HC1.out] at this
    exact this
theorem mother_any (c : MkC) (m : Ev.Mk) (l : List Int) (i : Ev.Instr) (w : World) (h : MkIn w c m l) (hrd : ∀ p ∈ Ev.reads i, Ev.InP m.secret p) (hr : Room m 963) :
    Calls Try.prog 55 #[.pointer (some ⟨c.mb, 0, none⟩), .agg #[.int .i64 i.op, .int .i64 i.d, .int .i64 i.a, .int .i64 i.b, .int .i64 i.c, .int .i64 i.imm]] w fun e w' => ∃ m', e = .returned (.bool (Ev.mkOther m i).isSome) ∧ (Ev.mkOther m i).getD m = m' ∧ MkIn w' c m' l ∧ MkFr c w w' := by
  by_cases hop : 6 ≤ i.op ∧ i.op ≤ 13
  · have ra : i.a ∈ Ev.reads i := by unfold Ev.reads; split <;> (try split) <;> first | simp | omega
    have rb : i.b ∈ Ev.reads i := by unfold Ev.reads; split <;> (try split) <;> first | simp | omega
    have fin : ∀ {P : Ending → World → Prop}, (Calls Try.prog 55 #[.pointer (some ⟨c.mb, 0, none⟩), .agg #[.int .i64 i.op, .int .i64 i.d, .int .i64 i.a, .int .i64 i.b, .int .i64 i.c, .int .i64 i.imm]] w fun e w' => ∃ m', e = .returned (.bool true) ∧ Ev.mkOther m i = some m' ∧ MkIn w' c m' l ∧ MkFr c w w') → Calls Try.prog 55 #[.pointer (some ⟨c.mb, 0, none⟩), .agg #[.int .i64 i.op, .int .i64 i.d, .int .i64 i.a, .int .i64 i.b, .int .i64 i.c, .int .i64 i.imm]] w fun e w' => ∃ m', e = .returned (.bool (Ev.mkOther m i).isSome) ∧ (Ev.mkOther m i).getD m = m' ∧ MkIn w' c m' l ∧ MkFr c w w' := fun {P} hC => hC.mono fun e w' ⟨m', h1, h2, h3, h4⟩ => ⟨m', by rw [h1, h2]; rfl, by rw [h2]; rfl, h3, h4⟩
    rcases (show i.op = 8 ∨ i.op = 9 ∨ i.op = 10 ∨ i.op = 6 ∨ i.op = 7 ∨ i.op = 11 ∨ i.op = 12 ∨ i.op = 13 by omega) with g | g | g | g | g | g | g | g
    · exact fin (P := fun _ _ => True) (mother_mul c m l i w h g (hrd _ ra) (hrd _ rb) hr)
    · exact fin (P := fun _ _ => True) (mother_div c m l i w h g (hrd _ ra) (hrd _ rb) hr)
    · exact fin (P := fun _ _ => True) (mother_rem c m l i w h g (hrd _ ra) (hrd _ rb) hr)
    · exact fin (P := fun _ _ => True) (mother_sh6 c m l i w h g (hrd _ ra) (hrd _ rb) hr)
    · exact fin (P := fun _ _ => True) (mother_sh7 c m l i w h g (hrd _ ra) (hrd _ rb) hr)
    · exact fin (P := fun _ _ => True) (mother_less c m l i w h g (hrd _ ra) (hrd _ rb) hr)
    · exact fin (P := fun _ _ => True) (mother_same c m l i w h g (hrd _ ra) (hrd _ rb) hr)
    · exact fin (P := fun _ _ => True) (mother_sel c m l i w h g (hrd _ ra) (hrd _ rb) (hrd _ (by unfold Ev.reads; rw [if_neg (by omega), if_pos g]; simp)) hr)
  · exact (mother_none c m l i w h hop hr).mono fun e w' ⟨m', h1, h2, h5, h3, h4⟩ => ⟨m', by rw [h1, h2]; rfl, by rw [h2]; exact h5.symm, h3, h4⟩
end Go.Proofs.Ytljcgcllhcdleaa
