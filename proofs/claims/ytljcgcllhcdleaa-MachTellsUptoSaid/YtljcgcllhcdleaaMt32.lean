import Derived.Test.YtljcgcllhcdleaaMt31
import Derived.Test.YtljcgcllhcdleaaMt7
import Derived.Test.YtljcgcllhcdleaaMt18
import Derived.Deep.DeepCutAuto
/- Chapter 7, the reference: the instructions that change the mode; any instruction of an image's machine. -/
namespace Go.Proofs.Ytljcgcllhcdleaa
open Go.RowKit
set_option linter.unusedSimpArgs false
set_option linter.unusedVariables false
set_option maxRecDepth 20000 in
set_option maxHeartbeats 3200000 in
theorem do_on (i : Ev.Instr) (k : Nat) (s : Ev.St) (bv mb : Nat) (va : Value) (vs : List Value) (hi : Nat) (w : World) (hM : MAt w bv mb va vs hi s) (hk : k ≤ 1099511627776) (h : i.op = 22) (hd : inR s.v.length i.d) :
    Calls Try.prog 58 #[.pointer (some ⟨mb, 0, none⟩), .agg #[.int .i64 i.op, .int .i64 i.d, .int .i64 i.a, .int .i64 i.b, .int .i64 i.c, .int .i64 i.imm], .int .i64 (k : Int)] w fun e w' => e = .returned (.int .i64 ((k : Int) + 1)) ∧ MAt w' bv mb va vs hi (Ev.step i k s).1 ∧ Sets bv hi w w' := by
  have hbm := hM.bm
  have hmh := hM.mh
  have hle := hM.le
  have sB : w.heap.size < (w.alloc (.cells #[.int .i64 i.op, .int .i64 i.d, .int .i64 i.a, .int .i64 i.b, .int .i64 i.c, .int .i64 i.imm] 39)).heap.size := by simp
  have BB := Lib.hid (show Below w.heap.size w (w.alloc (.cells #[.int .i64 i.op, .int .i64 i.d, .int .i64 i.a, .int .i64 i.b, .int .i64 i.c, .int .i64 i.imm] 39)) by (repeat' (first | (with_reducible exact Below.refl _ _) | (with_reducible assumption) | (with_reducible refine Below.alloc ?_ ?_ _) | (with_reducible refine below_drewN ?_ _) | (with_reducible refine Below.drew ?_) | (with_reducible refine Below.setCell ?_ ?_ _) | (with_reducible refine Below.trans ?_ (Below.mono (by with_reducible assumption) ?_)) | go_size)))
  have n0 : (w.alloc (.cells #[.int .i64 i.op, .int .i64 i.d, .int .i64 i.a, .int .i64 i.b, .int .i64 i.c, .int .i64 i.imm] 39)).cell? ⟨w.heap.size, 0, none⟩ = some (.int .i64 i.op) := by go_simp
  have n1 : (w.alloc (.cells #[.int .i64 i.op, .int .i64 i.d, .int .i64 i.a, .int .i64 i.b, .int .i64 i.c, .int .i64 i.imm] 39)).cell? ⟨w.heap.size, 1, none⟩ = some (.int .i64 i.d) := by go_simp
  have n2 : (w.alloc (.cells #[.int .i64 i.op, .int .i64 i.d, .int .i64 i.a, .int .i64 i.b, .int .i64 i.c, .int .i64 i.imm] 39)).cell? ⟨w.heap.size, 2, none⟩ = some (.int .i64 i.a) := by go_simp
  have n3 : (w.alloc (.cells #[.int .i64 i.op, .int .i64 i.d, .int .i64 i.a, .int .i64 i.b, .int .i64 i.c, .int .i64 i.imm] 39)).cell? ⟨w.heap.size, 3, none⟩ = some (.int .i64 i.b) := by go_simp
  have n4 : (w.alloc (.cells #[.int .i64 i.op, .int .i64 i.d, .int .i64 i.a, .int .i64 i.b, .int .i64 i.c, .int .i64 i.imm] 39)).cell? ⟨w.heap.size, 4, none⟩ = some (.int .i64 i.c) := by go_simp
  have n5 : (w.alloc (.cells #[.int .i64 i.op, .int .i64 i.d, .int .i64 i.a, .int .i64 i.b, .int .i64 i.c, .int .i64 i.imm] 39)).cell? ⟨w.heap.size, 5, none⟩ = some (.int .i64 i.imm) := by go_simp
  obtain ⟨wB, hwB⟩ : ∃ wB, w.alloc (.cells #[.int .i64 i.op, .int .i64 i.d, .int .i64 i.a, .int .i64 i.b, .int .i64 i.c, .int .i64 i.imm] 39) = wB := ⟨_, rfl⟩
  have HM := Lib.hid (hM.stays BB.out)
  have HWB := Lib.hid hwB
  rw [hwB] at sB BB n0 n1 n2 n3 n4 n5 HM
  clear hM hwB
  have m0 := HM.out.m0
  have m1 := HM.out.m1
  have m2 := HM.out.m2
  have lm := HM.out.loose
  have cd := HM.out.cell hd
  have fd := HM.out.vloose i.d.toNat
  have hd0 := hd.1
  have hd1 := hd.2
  clear hd
  have HSP := Lib.hid (@Ev.step_on2 i k s h)
  have HOP := Lib.hid h
  clear h
  go_enter Try.func58, Try.ntmps58
  go_upto_region 1 with fail
  rw [HWB.out]
  have h := HOP.out
  have g19 : (i.op == 19) = false := by rw [h]; rfl
  have lmb : mb < wB.heap.size := by omega
  have lbv : bv < wB.heap.size := by omega
  go_wp2_with fail
  go_quiet (fail)
  go_wp2_with fail
  have hdm : bv ≠ mb := by omega
  have hdm2 : mb ≠ bv := by omega
  have fd' : (wB.drewN nq).frozen? ⟨bv, i.d.toNat, none⟩ = false := fd
  go_region
  all_goals
    go_wp2
    go_ret
    refine ⟨by push_cast; rfl, ?_, ?_⟩
    · rw [HSP.out]
      first
      | exact (((HM.out.stays (below_drewN (Below.refl _ _) nq)).stays (Below.refl _ _).drew).setV i.d.toNat s.mode).setMode 1
      | exact (((HM.out.stays (below_drewN (Below.refl _ _) nq)).stays (Below.refl _ _).drew).setMode 1).setV i.d.toNat s.mode
    · first
      | exact .set (.set (((Sets.here.more BB.out).drewN nq).drewN 1) (by omega) (by omega)) (by omega) (by omega)
set_option maxRecDepth 20000 in
set_option maxHeartbeats 3200000 in
theorem do_back (i : Ev.Instr) (k : Nat) (s : Ev.St) (bv mb : Nat) (va : Value) (vs : List Value) (hi : Nat) (w : World) (hM : MAt w bv mb va vs hi s) (hk : k ≤ 1099511627776) (h : i.op = 23) (ha : inR s.v.length i.a) (hx : Ev.Wd (Ev.val s.v i.a)) :
    Calls Try.prog 58 #[.pointer (some ⟨mb, 0, none⟩), .agg #[.int .i64 i.op, .int .i64 i.d, .int .i64 i.a, .int .i64 i.b, .int .i64 i.c, .int .i64 i.imm], .int .i64 (k : Int)] w fun e w' => e = .returned (.int .i64 ((k : Int) + 1)) ∧ MAt w' bv mb va vs hi (Ev.step i k s).1 ∧ Sets bv hi w w' := by
  have hbm := hM.bm
  have hmh := hM.mh
  have hle := hM.le
  have sB : w.heap.size < (w.alloc (.cells #[.int .i64 i.op, .int .i64 i.d, .int .i64 i.a, .int .i64 i.b, .int .i64 i.c, .int .i64 i.imm] 39)).heap.size := by simp
  have BB := Lib.hid (show Below w.heap.size w (w.alloc (.cells #[.int .i64 i.op, .int .i64 i.d, .int .i64 i.a, .int .i64 i.b, .int .i64 i.c, .int .i64 i.imm] 39)) by (repeat' (first | (with_reducible exact Below.refl _ _) | (with_reducible assumption) | (with_reducible refine Below.alloc ?_ ?_ _) | (with_reducible refine below_drewN ?_ _) | (with_reducible refine Below.drew ?_) | (with_reducible refine Below.setCell ?_ ?_ _) | (with_reducible refine Below.trans ?_ (Below.mono (by with_reducible assumption) ?_)) | go_size)))
  have n0 : (w.alloc (.cells #[.int .i64 i.op, .int .i64 i.d, .int .i64 i.a, .int .i64 i.b, .int .i64 i.c, .int .i64 i.imm] 39)).cell? ⟨w.heap.size, 0, none⟩ = some (.int .i64 i.op) := by go_simp
  have n1 : (w.alloc (.cells #[.int .i64 i.op, .int .i64 i.d, .int .i64 i.a, .int .i64 i.b, .int .i64 i.c, .int .i64 i.imm] 39)).cell? ⟨w.heap.size, 1, none⟩ = some (.int .i64 i.d) := by go_simp
  have n2 : (w.alloc (.cells #[.int .i64 i.op, .int .i64 i.d, .int .i64 i.a, .int .i64 i.b, .int .i64 i.c, .int .i64 i.imm] 39)).cell? ⟨w.heap.size, 2, none⟩ = some (.int .i64 i.a) := by go_simp
  have n3 : (w.alloc (.cells #[.int .i64 i.op, .int .i64 i.d, .int .i64 i.a, .int .i64 i.b, .int .i64 i.c, .int .i64 i.imm] 39)).cell? ⟨w.heap.size, 3, none⟩ = some (.int .i64 i.b) := by go_simp
  have n4 : (w.alloc (.cells #[.int .i64 i.op, .int .i64 i.d, .int .i64 i.a, .int .i64 i.b, .int .i64 i.c, .int .i64 i.imm] 39)).cell? ⟨w.heap.size, 4, none⟩ = some (.int .i64 i.c) := by go_simp
  have n5 : (w.alloc (.cells #[.int .i64 i.op, .int .i64 i.d, .int .i64 i.a, .int .i64 i.b, .int .i64 i.c, .int .i64 i.imm] 39)).cell? ⟨w.heap.size, 5, none⟩ = some (.int .i64 i.imm) := by go_simp
  obtain ⟨wB, hwB⟩ : ∃ wB, w.alloc (.cells #[.int .i64 i.op, .int .i64 i.d, .int .i64 i.a, .int .i64 i.b, .int .i64 i.c, .int .i64 i.imm] 39) = wB := ⟨_, rfl⟩
  have HM := Lib.hid (hM.stays BB.out)
  have HWB := Lib.hid hwB
  rw [hwB] at sB BB n0 n1 n2 n3 n4 n5 HM
  clear hM hwB
  have m0 := HM.out.m0
  have m1 := HM.out.m1
  have m2 := HM.out.m2
  have lm := HM.out.loose
  have ca := HM.out.cell ha
  have ha0 := ha.1
  have ha1 := ha.2
  clear ha
  have HSP := Lib.hid (@Ev.step_back i k s h)
  have hx0 := hx.1
  clear hx
  have HOP := Lib.hid h
  clear h
  go_enter Try.func58, Try.ntmps58
  go_upto_region 1 with fail
  rw [HWB.out]
  have h := HOP.out
  have g19 : (i.op == 19) = false := by rw [h]; rfl
  have lmb : mb < wB.heap.size := by omega
  have lbv : bv < wB.heap.size := by omega
  have hx2 : (Ev.val s.v i.a).tmod 2 = Ev.val s.v i.a % 2 := Int.tmod_eq_emod_of_nonneg hx0
  generalize Ev.val s.v i.a = x at *
  go_wp2_with fail
  go_quiet (fail)
  go_wp2_with fail
  refine wp_region_store (fun w' => w' = (wB.drewN nq).drew) (fun w' => w' = (wB.drewN nq).drew.setCell ⟨mb, 2, none⟩ (.int .i64 (x % 2))) 12 [10] (by kernel_rfl) (by kernel_rfl) (by kernel_rfl) (by kernel_rfl) rfl ?_
  apply chainS_mid (by rfl)
  case h => (rintro w9 rfl; go_wp2_with fail; (try (fail; go_wp2_with fail)); refine settled_intro (S := fun w' => w' = (wB.drewN nq).drew) ?_; rfl)
  case h1 => (intro hk; exact absurd hk (by decide))
  case hp => first | rfl | (simp only [*]; done) | (simp only [*]; rfl)
  apply chainS_mid (by rfl)
  case h => (rintro w9 rfl; go_wp2_with fail; (try (fail; go_wp2_with fail)); refine settled_intro (S := fun w' => w' = (wB.drewN nq).drew) ?_; rfl)
  case h1 => (intro hk; exact absurd hk (by decide))
  case hp => first | rfl | (simp only [*]; done) | (simp only [*]; rfl)
  apply chainS_mid (by rfl)
  case h => (rintro w9 rfl; go_wp2_with fail; (try (fail; go_wp2_with fail)); refine settled_intro (S := fun w' => w' = (wB.drewN nq).drew) ?_; rfl)
  case h1 => (intro hk; exact absurd hk (by decide))
  case hp => first | rfl | (simp only [*]; done) | (simp only [*]; rfl)
  apply chainS_mid (by rfl)
  case h => (rintro w9 rfl; go_wp2_with fail; (try (fail; go_wp2_with fail)); refine settled_intro (S := fun w' => w' = (wB.drewN nq).drew) ?_; rfl)
  case h1 => (intro hk; exact absurd hk (by decide))
  case hp => first | rfl | (simp only [*]; done) | (simp only [*]; rfl)
  apply chainS_mid (by rfl)
  case h => (rintro w9 rfl; go_wp2_with fail; (try (fail; go_wp2_with fail)); refine settled_intro (S := fun w' => w' = (wB.drewN nq).drew) ?_; rfl)
  case h1 => (intro hk; exact absurd hk (by decide))
  case hp => first | rfl | (simp only [*]; done) | (simp only [*]; rfl)
  apply chainS_mid (by rfl)
  case h => (rintro w9 rfl; go_wp2_with fail; (try (fail; go_wp2_with fail)); refine settled_intro (S := fun w' => w' = (wB.drewN nq).drew) ?_; rfl)
  case h1 => (intro hk; exact absurd hk (by decide))
  case hp => first | rfl | (simp only [*]; done) | (simp only [*]; rfl)
  apply chainS_mid (by rfl)
  case h => (rintro w9 rfl; go_wp2_with fail; (try (fail; go_wp2_with fail)); refine settled_intro (S := fun w' => w' = (wB.drewN nq).drew) ?_; rfl)
  case h1 => (intro hk; exact absurd hk (by decide))
  case hp => first | rfl | (simp only [*]; done) | (simp only [*]; rfl)
  apply chainS_mid (by rfl)
  case h => (rintro w9 rfl; go_wp2_with fail; (try (fail; go_wp2_with fail)); refine settled_intro (S := fun w' => w' = (wB.drewN nq).drew) ?_; rfl)
  case h1 => (intro hk; exact absurd hk (by decide))
  case hp => first | rfl | (simp only [*]; done) | (simp only [*]; rfl)
  apply chainS_mid (by rfl)
  case h => (rintro w9 rfl; go_wp2_with fail; (try (fail; go_wp2_with fail)); refine settled_intro (S := fun w' => w' = (wB.drewN nq).drew) ?_; rfl)
  case h1 => (intro hk; exact absurd hk (by decide))
  case hp => first | rfl | (simp only [*]; done) | (simp only [*]; rfl)
  apply chainS_mid (by rfl)
  case h => (rintro w9 rfl; go_wp2_with fail; (try (fail; go_wp2_with fail)); refine settled_intro (S := fun w' => w' = (wB.drewN nq).drew) ?_; rfl)
  case h1 => (intro hk; exact absurd hk (by decide))
  case hp => first | rfl | (simp only [*]; done) | (simp only [*]; rfl)
  apply chainS_mid (by rfl)
  case h => (rintro w9 rfl; go_wp2_with fail; (try (fail; go_wp2_with fail)); refine settled_intro (S := fun w' => w' = (wB.drewN nq).drew) ?_; rfl)
  case h1 => (intro _; rintro w9 rfl; go_wp2_with fail; refine settled_intro (S := fun w' => w' = (wB.drewN nq).drew.setCell ⟨mb, 2, none⟩ (.int .i64 (x % 2))) ?_; rfl)
  case hp => first | rfl | (simp only [*]; done) | (simp only [*]; rfl)
  apply chainS_mid (by rfl)
  case h => (rintro w9 rfl; go_wp2_with fail; (try (fail; go_wp2_with fail)); refine settled_intro (S := fun w' => w' = (wB.drewN nq).drew) ?_; rfl)
  case h1 => (intro hk; exact absurd hk (by decide))
  case hp => first | rfl | (simp only [*]; done) | (simp only [*]; rfl)
  apply chainS_store (by rfl)
  case h => (rintro w9 rfl; go_wp2_with fail; refine settled_intro (S := fun w' => w' = (wB.drewN nq).drew.setCell ⟨mb, 2, none⟩ (.int .i64 (x % 2))) ?_; rfl)
  case hp => first | rfl | (simp only [*]; done) | (simp only [*]; rfl)
  refine chainS.nil ?_
  rintro _ rfl
  (try dsimp only)
  go_wp2
  go_ret
  refine ⟨by push_cast; rfl, ?_, ?_⟩
  · rw [HSP.out]
    exact ((HM.out.stays (below_drewN (Below.refl _ _) nq)).stays (Below.refl _ _).drew).setMode (x % 2)
  · exact .set (((Sets.here.more BB.out).drewN nq).drewN 1) (by omega) (by omega)
theorem do_anyM (na : Nat) (i : Ev.Instr) (k : Nat) (s : Ev.St) (bv mb : Nat) (va : Value) (vs : List Value) (hi : Nat) (w : World) (hM : MAt w bv mb va vs hi s) (hk : k ≤ 1099511627776) (hs : Ev.Ok na i) (hF : Ev.FineM na s) :
    Calls Try.prog 58 #[.pointer (some ⟨mb, 0, none⟩), .agg #[.int .i64 i.op, .int .i64 i.d, .int .i64 i.a, .int .i64 i.b, .int .i64 i.c, .int .i64 i.imm], .int .i64 (k : Int)] w fun e w' => e = .returned (.int .i64 (nextOf (Ev.step i k s).2)) ∧ MAt w' bv mb va vs hi (Ev.step i k s).1 ∧ Sets bv hi w w' := by
  have hop := hs.op
  have rd : ∀ p ∈ Ev.reads i, inR s.v.length p := fun p hp => by rw [hF.len]; exact hs.reads p hp
  have mk : inR s.v.length i.d := by rw [hF.len]; exact hs.d
  have va0 := (hF.val i.a).1
  have ar : i.op = 16 ∨ i.op = 17 → 0 ≤ i.b ∧ i.b < (s.arrs.length : Int) := fun h => by rw [hF.alen]; exact hs.arr h
  rcases (show i.op ≤ 12 ∨ i.op = 13 ∨ i.op = 14 ∨ i.op = 15 ∨ i.op = 16 ∨ i.op = 17 ∨ i.op = 18 ∨ i.op = 19 ∨ (i.op = 20 ∨ i.op = 21) ∨ i.op = 22 ∨ i.op = 23 by omega) with h | h | h | h | h | h | h | h | h | h | h
  · have er : Ev.reads i = [i.a, i.b] := by unfold Ev.reads; rw [if_pos (by omega)]
    have := do_two i k s bv mb va vs hi w hM hk h (rd _ (by rw [er]; simp)) (rd _ (by rw [er]; simp)) mk
    rw [Ev.step_two h] at this ⊢
    exact this
  · have er : Ev.reads i = [i.a, i.b, i.c] := by unfold Ev.reads; rw [if_neg (by omega), if_pos h]
    have := do_sel i k s bv mb va vs hi w hM hk h (rd _ (by rw [er]; simp)) (rd _ (by rw [er]; simp)) (rd _ (by rw [er]; simp)) mk
    rw [Ev.step_sel h] at this ⊢
    exact this
  · have := do_const i k s bv mb va vs hi w hM hk h mk
    rw [Ev.step_const h] at this ⊢
    exact this
  · have er : Ev.reads i = [i.a] := by unfold Ev.reads; rw [if_neg (by omega), if_neg (by omega), if_neg (by omega), if_pos (by omega)]
    have := do_move i k s bv mb va vs hi w hM hk h (rd _ (by rw [er]; simp)) mk
    rw [Ev.step_move h] at this ⊢
    exact this
  · have er : Ev.reads i = [i.a] := by unfold Ev.reads; rw [if_neg (by omega), if_neg (by omega), if_neg (by omega), if_pos (by omega)]
    obtain ⟨b0, b1⟩ := ar (.inl h)
    by_cases hn : Ev.val s.v i.a < (s.arrs.getD i.b.toNat []).length
    · have := do_load_in i k s bv mb va vs hi w hM hk h (rd _ (by rw [er]; simp)) mk b0 b1 va0 hn
      rw [Ev.step_load h] at this ⊢
      exact this
    · have := do_load_out i k s bv mb va vs hi w hM hk h (rd _ (by rw [er]; simp)) mk b0 b1 va0 hn
      rw [Ev.step_load h] at this ⊢
      exact this
  · have er : Ev.reads i = [i.a, i.d] := by unfold Ev.reads; rw [if_neg (by omega), if_neg (by omega), if_pos h]
    obtain ⟨b0, b1⟩ := ar (.inr h)
    have hst : (Ev.step i k s).2 = some (k + 1) := by unfold Ev.step; rw [if_neg (by omega), if_neg (by omega), if_neg (by omega), if_neg (by omega), if_neg (by omega), if_pos h]
    rw [hst]
    by_cases hn : Ev.val s.v i.a < (s.arrs.getD i.b.toNat []).length
    · exact do_store_in i k s bv mb va vs hi w hM hk h (rd _ (by rw [er]; simp)) (rd _ (by rw [er]; simp)) b0 b1 va0 hn
    · exact do_store_out i k s bv mb va vs hi w hM hk h (rd _ (by rw [er]; simp)) (rd _ (by rw [er]; simp)) b0 b1 va0 hn
  · have hj := hs.imm.1
    have := do_jump i k s bv mb va vs hi w hM hk h (by omega)
    rw [Ev.step_jump h] at this ⊢
    rw [show nextOf (s, some i.imm.toNat).2 = i.imm by show ((i.imm.toNat : Nat) : Int) = i.imm; omega]
    exact this
  · have hj := hs.imm.1
    have er : Ev.reads i = [i.a] := by unfold Ev.reads; rw [if_neg (by omega), if_neg (by omega), if_neg (by omega), if_pos (by omega)]
    by_cases h0 : Ev.val s.v i.a = 0
    · have := do_zero_yes i k s bv mb va vs hi w hM hk h (rd _ (by rw [er]; simp)) (by omega) h0
      rw [Ev.step_zero_yes h h0] at this ⊢
      rw [show nextOf (s, some i.imm.toNat).2 = i.imm by show ((i.imm.toNat : Nat) : Int) = i.imm; omega]
      exact this
    · have := do_zero_no i k s bv mb va vs hi w hM hk h (rd _ (by rw [er]; simp)) (by omega) h0
      rw [Ev.step_zero_no h h0] at this ⊢
      exact this
  · have := do_end i k s bv mb va vs hi w hM hk h
    rw [Ev.step_end h] at this ⊢
    exact this
  · have := do_on i k s bv mb va vs hi w hM hk h mk
    rw [Ev.step_on2 h] at this ⊢
    exact this
  · have := do_back i k s bv mb va vs hi w hM hk h (by rw [hF.len]; exact hs.back h) (hF.val i.a)
    rw [Ev.step_back h] at this ⊢
    exact this
end Go.Proofs.Ytljcgcllhcdleaa
