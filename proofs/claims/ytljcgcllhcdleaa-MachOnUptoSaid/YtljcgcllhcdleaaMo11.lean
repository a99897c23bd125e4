import Derived.Test.YtljcgcllhcdleaaMo10
import Derived.Test.YtljcgcllhcdleaaMo6
import Derived.Test.YtljcgcllhcdleaaProg
import Derived.WalkSpells
import Derived.WalkLawsBesides
import Derived.Handy
import Derived.Lib.Hide
import Derived.BigQuiet
import Derived.BigRegion
import Derived.StillTailTactics
import Derived.Deep.QuietTactic
import Derived.Test.YtljcgcllhcdleaaMo3
import Derived.Deep.RegionHeld3
import Derived.RegionCalls
/- Chapter 11: any instruction of the machine. -/
namespace Ev
theorem mc_any {i : Instr} {m : Mc} (h : i.op ≤ 17) : mcStep i m = ({ m with s := (step i m.pc m.s).1, pc := m.pc + 1 }, false) := by
  have e : (step i m.pc m.s).2 = some (m.pc + 1) := by
    unfold step
    by_cases h1 : i.op ≤ 12
    · rw [if_pos h1]
    rw [if_neg h1]
    by_cases h2 : i.op = 13
    · rw [if_pos h2]
    rw [if_neg h2]
    by_cases h3 : i.op = 14
    · rw [if_pos h3]
    rw [if_neg h3]
    by_cases h4 : i.op = 15
    · rw [if_pos h4]
    rw [if_neg h4]
    by_cases h5 : i.op = 16
    · rw [if_pos h5]
    rw [if_neg h5, if_pos (by omega)]
  exact mc_on (by rw [← e])
end Ev
namespace Go.Proofs.Ytljcgcllhcdleaa
open Go.RowKit
set_option linter.unusedSimpArgs false
set_option linter.unusedVariables false
theorem Sets.trans {lo hi : Nat} {w W U : World} (h : Sets lo hi w W) (h2 : Sets lo hi W U) : Sets lo hi w U := by
  induction h2 with
  | here => exact h
  | more _ hb ih => exact ih.more hb
  | set _ h3 h4 ih => exact ih.set h3 h4
set_option maxRecDepth 20000 in
set_option maxHeartbeats 3200000 in
theorem step_does (i : Ev.Instr) (m : Ev.Mc) (lo mb : Nat) (va : Value) (vs : List Value) (vl : Value) (w : World) (hM : MacAt w lo mb va vs vl m) (hk : m.pc ≤ 1099511627776) (h : i.op ≤ 17) (h1 : 1 ≤ i.op) (hD : ∀ w1, MacAt w1 lo mb va vs vl { m with pc := m.pc + 1 } → Calls Try.prog 93 #[.pointer (some ⟨mb, 0, none⟩), .agg #[.int .i64 i.op, .int .i64 i.d, .int .i64 i.a, .int .i64 i.b, .int .i64 i.c, .int .i64 i.imm]] w1 fun e w2 => e = .returned (.tuple #[]) ∧ MacAt w2 lo mb va vs vl { m with s := (Ev.step i m.pc m.s).1, pc := m.pc + 1 } ∧ Sets lo (mb + 1) w1 w2) :
    Calls Try.prog 77 #[.pointer (some ⟨mb, 0, none⟩), .agg #[.int .i64 i.op, .int .i64 i.d, .int .i64 i.a, .int .i64 i.b, .int .i64 i.c, .int .i64 i.imm]] w fun e w' => e = .returned (.bool (Ev.mcStep i m).2) ∧ MacAt w' lo mb va vs vl (Ev.mcStep i m).1 ∧ Sets lo (mb + 1) w w' := by
  have hlm := hM.lm
  have sB : w.heap.size < (w.alloc (.cells #[.int .i64 i.op, .int .i64 i.d, .int .i64 i.a, .int .i64 i.b, .int .i64 i.c, .int .i64 i.imm] 39)).heap.size := by simp
  have BB := Lib.hid (show Below w.heap.size w (w.alloc (.cells #[.int .i64 i.op, .int .i64 i.d, .int .i64 i.a, .int .i64 i.b, .int .i64 i.c, .int .i64 i.imm] 39)) by (repeat' first | with_reducible (first | exact Below.refl _ _ | assumption | refine Below.alloc ?_ ?_ _ | refine below_drewN ?_ _ | refine Below.drew ?_ | refine Below.setCell ?_ ?_ _ | refine Below.trans ?_ (Below.mono (by with_reducible assumption) ?_)) | go_size))
  have n0 : (w.alloc (.cells #[.int .i64 i.op, .int .i64 i.d, .int .i64 i.a, .int .i64 i.b, .int .i64 i.c, .int .i64 i.imm] 39)).cell? ⟨w.heap.size, 0, none⟩ = some (.int .i64 i.op) := by go_simp
  have n1 : (w.alloc (.cells #[.int .i64 i.op, .int .i64 i.d, .int .i64 i.a, .int .i64 i.b, .int .i64 i.c, .int .i64 i.imm] 39)).cell? ⟨w.heap.size, 1, none⟩ = some (.int .i64 i.d) := by go_simp
  have n2 : (w.alloc (.cells #[.int .i64 i.op, .int .i64 i.d, .int .i64 i.a, .int .i64 i.b, .int .i64 i.c, .int .i64 i.imm] 39)).cell? ⟨w.heap.size, 2, none⟩ = some (.int .i64 i.a) := by go_simp
  have n3 : (w.alloc (.cells #[.int .i64 i.op, .int .i64 i.d, .int .i64 i.a, .int .i64 i.b, .int .i64 i.c, .int .i64 i.imm] 39)).cell? ⟨w.heap.size, 3, none⟩ = some (.int .i64 i.b) := by go_simp
  have n4 : (w.alloc (.cells #[.int .i64 i.op, .int .i64 i.d, .int .i64 i.a, .int .i64 i.b, .int .i64 i.c, .int .i64 i.imm] 39)).cell? ⟨w.heap.size, 4, none⟩ = some (.int .i64 i.c) := by go_simp
  have n5 : (w.alloc (.cells #[.int .i64 i.op, .int .i64 i.d, .int .i64 i.a, .int .i64 i.b, .int .i64 i.c, .int .i64 i.imm] 39)).cell? ⟨w.heap.size, 5, none⟩ = some (.int .i64 i.imm) := by go_simp
  obtain ⟨wB, hwB⟩ : ∃ wB, w.alloc (.cells #[.int .i64 i.op, .int .i64 i.d, .int .i64 i.a, .int .i64 i.b, .int .i64 i.c, .int .i64 i.imm] 39) = wB := ⟨_, rfl⟩
  have HM0 := Lib.hid (hM.stays BB.out)
  have HWB := Lib.hid hwB
  have lmb := hM.lt
  have hne : mb ≠ w.heap.size := by omega
  rw [hwB] at sB BB n0 n1 n2 n3 n4 n5 HM0
  clear hM hwB
  replace lmb : mb < wB.heap.size := by omega
  have c122 := HM0.out.cpc
  have f122 := HM0.out.loose 122
  have HSP := Lib.hid (@Ev.mc_any i m h)
  have HD := Lib.hid hD
  clear hD
  have HOP := Lib.hid h
  clear h
  go_enter Try.func77, Try.ntmps77
  go_upto_region 1 with fail
  rw [HWB.out]
  go_upto_region 2 with fail
  have HM := Lib.hid (HM0.out.setPc (m.pc + 1) (x := (m.pc : Int) + 1) (by push_cast; rfl))
  have BS : Hid (Sets lo (mb + 1) w (wB.setCell ⟨mb, 122, none⟩ (.int .i64 ((m.pc : Int) + 1)))) := .set (Sets.here.more BB.out) hlm (Nat.lt_succ_self _)
  have zC : (wB.setCell ⟨mb, 122, none⟩ (.int .i64 ((m.pc : Int) + 1))).heap.size = wB.heap.size := by simp
  replace n0 : (wB.setCell ⟨mb, 122, none⟩ (.int .i64 ((m.pc : Int) + 1))).cell? ⟨w.heap.size, 0, none⟩ = some (.int .i64 i.op) := (World.cell?_setCell_other _ _ _ _ (by intro e; injection e with e; omega)).trans n0
  replace n1 : (wB.setCell ⟨mb, 122, none⟩ (.int .i64 ((m.pc : Int) + 1))).cell? ⟨w.heap.size, 1, none⟩ = some (.int .i64 i.d) := (World.cell?_setCell_other _ _ _ _ (by intro e; injection e with e; omega)).trans n1
  replace n2 : (wB.setCell ⟨mb, 122, none⟩ (.int .i64 ((m.pc : Int) + 1))).cell? ⟨w.heap.size, 2, none⟩ = some (.int .i64 i.a) := (World.cell?_setCell_other _ _ _ _ (by intro e; injection e with e; omega)).trans n2
  replace n3 : (wB.setCell ⟨mb, 122, none⟩ (.int .i64 ((m.pc : Int) + 1))).cell? ⟨w.heap.size, 3, none⟩ = some (.int .i64 i.b) := (World.cell?_setCell_other _ _ _ _ (by intro e; injection e with e; omega)).trans n3
  replace n4 : (wB.setCell ⟨mb, 122, none⟩ (.int .i64 ((m.pc : Int) + 1))).cell? ⟨w.heap.size, 4, none⟩ = some (.int .i64 i.c) := (World.cell?_setCell_other _ _ _ _ (by intro e; injection e with e; omega)).trans n4
  replace n5 : (wB.setCell ⟨mb, 122, none⟩ (.int .i64 ((m.pc : Int) + 1))).cell? ⟨w.heap.size, 5, none⟩ = some (.int .i64 i.imm) := (World.cell?_setCell_other _ _ _ _ (by intro e; injection e with e; omega)).trans n5
  obtain ⟨wC, hwC⟩ : ∃ wC, wB.setCell ⟨mb, 122, none⟩ (.int .i64 ((m.pc : Int) + 1)) = wC := ⟨_, rfl⟩
  rw [hwC] at HM BS n0 n1 n2 n3 n4 n5 zC ⊢
  replace lmb : mb < wC.heap.size := by omega
  replace sB : w.heap.size < wC.heap.size := by omega
  clear hwC zC c122 f122 HM0 BB
  have c121 := HM.out.cmode
  have c122 := HM.out.cpc
  have c123 := HM.out.cwd
  have c124 := HM.out.ctr
  have lml := HM.out.loose
  have h := HOP.out
  go_wp2_with (go_at_call 93; refine (HD.out _ HM.out).mono ?_; rintro e w4 ⟨rfl, hM4, hS4⟩)
  go_ret
  refine ⟨by rw [HSP.out]; rfl, ?_, ?_⟩
  · rw [HSP.out]
    exact hM4
  · exact BS.out.trans hS4
--end
theorem step_any (na : Nat) (i : Ev.Instr) (m : Ev.Mc) (lo mb : Nat) (va : Value) (vs : List Value) (vl : Value) (w : World) (hM : MacAt w lo mb va vs vl m) (hk : m.pc ≤ 1099511627776) (hi : Ev.Ok na i) (hF : Ev.FineM na m.s) :
    Calls Try.prog 77 #[.pointer (some ⟨mb, 0, none⟩), .agg #[.int .i64 i.op, .int .i64 i.d, .int .i64 i.a, .int .i64 i.b, .int .i64 i.c, .int .i64 i.imm]] w fun e w' => e = .returned (.bool (Ev.mcStep i m).2) ∧ MacAt w' lo mb va vs vl (Ev.mcStep i m).1 ∧ Sets lo (mb + 1) w w' := by
  have hop := hi.op
  have im := hi.imm.1
  have rd : i.op = 19 ∨ i.op = 20 → inR 120 i.a := fun h => hi.reads i.a (by unfold Ev.reads; rw [if_neg (by omega), if_neg (by omega), if_neg (by omega), if_pos (by omega)]; simp)
  rcases (show i.op ≤ 17 ∨ i.op = 18 ∨ i.op = 19 ∨ i.op = 20 ∨ i.op = 21 ∨ i.op = 22 ∨ i.op = 23 by omega) with h | h | h | h | h | h | h
  · exact step_does i m lo mb va vs vl w hM hk h hop.1 (fun w1 h1 => does_any na i m.pc { m with pc := m.pc + 1 } lo mb va vs vl w1 h1 h hi hF)
  · exact step_jump i m lo mb va vs vl w hM hk h im
  · by_cases h0 : Ev.val m.s.v i.a = 0
    · exact step_zero_yes i m lo mb va vs vl w hM hk h (rd (.inl h)) im h0
    · exact step_zero_no i m lo mb va vs vl w hM hk h (rd (.inl h)) im h0
  · exact step_ret i m lo mb va vs vl w hM hk h (rd (.inr h))
  · exact step_trap i m lo mb va vs vl w hM hk h
  · exact step_on i m lo mb va vs vl w hM hk h hi.d
  · exact step_back i m lo mb va vs vl w hM hk h (hi.back h) (hF.val i.a)
end Go.Proofs.Ytljcgcllhcdleaa
/- Chapter 11, plain: the machine's rounds. -/
namespace Ev
def wv (ws : List Int) (k : Nat) : List Int := 0 :: (ws.take k ++ List.replicate (119 - k) 0)
theorem wv_len {ws : List Int} {k : Nat} (h : k ≤ ws.length) (h2 : ws.length ≤ 119) : (wv ws k).length = 120 := by unfold wv; simp; omega
theorem wv_zero (ws : List Int) : wv ws 0 = List.replicate 120 0 := by unfold wv; rfl
theorem wv_set {ws : List Int} {k : Nat} (h : k < ws.length) (h2 : ws.length ≤ 119) {x : Int} (hx : ws[k]? = some x) : (wv ws k).set (1 + k) x = wv ws (k + 1) := by
  unfold wv
  rw [show 1 + k = k + 1 by omega, List.set_cons_succ, List.take_add_one, hx]
  congr 1
  have hl : (ws.take k).length = k := by rw [List.length_take]; omega
  rw [List.set_append_right (h := by omega), hl, Nat.sub_self]
  rw [show 119 - k = (119 - (k + 1)) + 1 by omega, List.replicate_succ, List.set_cons_zero]
  simp
theorem wv_full {ws : List Int} (h2 : ws.length ≤ 119) : wv ws ws.length = (0 :: ws ++ List.replicate (119 - ws.length) 0).take 120 := by
  unfold wv
  rw [List.take_length, List.take_of_length_le (by simp; omega)]
  rfl
theorem start_fineM {g : Given} {mode : Int} {na : Nat} (h1 : g.words.length ≤ 119) (h2 : ∀ x ∈ g.words, Wd x) (h3 : g.arrays.length = na) (h4 : ∀ a ∈ g.arrays, ∀ x ∈ a, Wd x) (hm : mode = 0 ∨ mode = 1) : FineM na (start120 g mode) := by
  refine ⟨by unfold start120; simp; omega, fun x hx => ?_, h3, h4, hm⟩
  unfold start120 at hx
  have hx := List.mem_of_mem_take hx
  rcases List.mem_append.1 hx with h | h
  · rcases List.mem_cons.1 h with rfl | h
    · exact ⟨by decide, by decide⟩
    · exact h2 x h
  · rw [List.mem_replicate] at h
    rw [h.2]
    exact ⟨by decide, by decide⟩
theorem mcRun_fuel {l : List Instr} {t : List Int} {most : Int} {n : Nat} {m : Mc} {lk : List Leak} (h : most ≤ m.st) : mcRun l t most (n + 1) m lk = ranErr 12 := by rw [mcRun, if_pos h]
theorem mcRun_out {l : List Instr} {t : List Int} {most : Int} {n : Nat} {m : Mc} {lk : List Leak} (h : ¬ most ≤ m.st) (h2 : l.length ≤ m.pc) : mcRun l t most (n + 1) m lk = ranErr 8 := by rw [mcRun, if_neg h, if_pos h2]
theorem mcRun_end {l : List Instr} {t : List Int} {most : Int} {n : Nat} {m : Mc} {lk : List Leak} {i : Instr} (h : ¬ most ≤ m.st) (hi : l[m.pc]? = some i) (he : (mcStep i { m with st := m.st + 1 }).2 = true) :
    mcRun l t most (n + 1) m lk = ranOf (mcStep i { m with st := m.st + 1 }).1 (lk ++ [leak t i m.pc m.s (m.s.mode == 0)]) := by
  have e : l.getD m.pc default = i := by rw [List.getD_eq_getElem?_getD, hi]; rfl
  have hlt := (List.getElem?_eq_some_iff.1 hi).1
  rw [mcRun, if_neg h, if_neg (by omega), e, if_pos he]
theorem mcRun_on {l : List Instr} {t : List Int} {most : Int} {n : Nat} {m : Mc} {lk : List Leak} {i : Instr} (h : ¬ most ≤ m.st) (hi : l[m.pc]? = some i) (he : (mcStep i { m with st := m.st + 1 }).2 = false) :
    mcRun l t most (n + 1) m lk = mcRun l t most n (mcStep i { m with st := m.st + 1 }).1 (lk ++ [leak t i m.pc m.s (m.s.mode == 0)]) := by
  have e : l.getD m.pc default = i := by rw [List.getD_eq_getElem?_getD, hi]; rfl
  have hlt := (List.getElem?_eq_some_iff.1 hi).1
  rw [mcRun, if_neg h, if_neg (by omega), e, if_neg (by simp [he])]
theorem step_pc {i : Instr} {k k' : Nat} {s s' : St} (h : step i k s = (s', some k')) : k' = k + 1 ∨ k' = i.imm.toNat := by
  have h2 : (step i k s).2 = some k' := by rw [h]
  clear h
  unfold step at h2
  by_cases c0 : i.op ≤ 12
  · rw [if_pos c0] at h2
    simp at h2
    omega
  rw [if_neg c0] at h2
  by_cases c1 : i.op = 13
  · rw [if_pos c1] at h2
    simp at h2
    omega
  rw [if_neg c1] at h2
  by_cases c2 : i.op = 14
  · rw [if_pos c2] at h2
    simp at h2
    omega
  rw [if_neg c2] at h2
  by_cases c3 : i.op = 15
  · rw [if_pos c3] at h2
    simp at h2
    omega
  rw [if_neg c3] at h2
  by_cases c4 : i.op = 16
  · rw [if_pos c4] at h2
    simp at h2
    omega
  rw [if_neg c4] at h2
  by_cases c5 : i.op = 17
  · rw [if_pos c5] at h2
    simp at h2
    omega
  rw [if_neg c5] at h2
  by_cases c6 : i.op = 18
  · rw [if_pos c6] at h2
    simp at h2
    omega
  rw [if_neg c6] at h2
  by_cases c7 : i.op = 19
  · rw [if_pos c7] at h2
    simp at h2
    split at h2 <;> omega
  rw [if_neg c7] at h2
  by_cases c8 : i.op = 20 ∨ i.op = 21
  · rw [if_pos c8] at h2
    simp at h2
  rw [if_neg c8] at h2
  by_cases c9 : i.op = 22
  · rw [if_pos c9] at h2
    simp at h2
    omega
  rw [if_neg c9] at h2
  by_cases c10 : i.op = 23
  · rw [if_pos c10] at h2
    simp at h2
    omega
  rw [if_neg c10] at h2
  simp at h2
  omega
theorem mcStep_st (i : Instr) (m : Mc) : (mcStep i m).1.st = m.st := by
  unfold mcStep
  split
  · split <;> rfl
  · rfl
theorem mcStep_fine {na : Nat} {i : Instr} {m : Mc} (h : FineM na m.s) (hi : Ok na i) : FineM na (mcStep i m).1.s := by
  unfold mcStep
  have h2 := h.step hi (k := m.pc)
  split
  · split <;> exact h
  · rename_i s' k he
    rw [he] at h2
    exact h2
theorem mcStep_pc {na : Nat} {i : Instr} {m : Mc} (hi : Ok na i) {N : Nat} (h : m.pc + 1 ≤ N) (h2 : 4294967295 ≤ N) : (mcStep i m).1.pc ≤ N := by
  have := hi.imm
  unfold mcStep
  split
  · split <;> (show m.pc + 1 ≤ _; omega)
  · rename_i s' k he
    rcases step_pc he with h1 | h1
    · show k ≤ _; omega
    · show k ≤ _; omega
theorem load_len (b : List Int) (na : Nat) : (load b na).length ≤ b.length := by
  unfold load
  split
  · simp
  · rw [instrs_len]; omega
end Ev
namespace Go.Proofs.Ytljcgcllhcdleaa
open Go.RowKit
theorem seenIn_mach {t : List Int} (ht : Ev.wrong t = 0) {i : Ev.Instr} {na : Nat} (hi : Ev.Ok na i) (al : Bool) : SeenIn i 120 (whichOf t i.op al) := by
  have h1 := hi.op.1
  have hr : ∀ p ∈ Ev.reads i, inR 120 p := hi.reads
  cases al with
  | false => exact seenIn_right ht h1 hr
  | true =>
    have h19 : i.op = 19 → inR 120 i.a := fun h => hr _ (by unfold Ev.reads; rw [if_neg (by omega), if_neg (by omega), if_neg (by omega), if_pos (by omega)]; simp)
    have hw : whichOf t i.op true = Ev.all i.op := by unfold whichOf; rw [if_pos rfl]
    rw [hw]
    have b0 : ∀ k, k < 3 → Ev.hasBit 0 k = true → False := by decide
    have b1 : ∀ k, k < 3 → Ev.hasBit 1 k = true → k = 0 := by decide
    have b3 : ∀ k, k < 3 → Ev.hasBit 3 k = true → k = 0 ∨ k = 1 := by decide
    have hb : 0 ≤ Ev.all i.op ∧ Ev.all i.op ≤ 7 := by
      unfold Ev.all
      repeat' split
      all_goals omega
    refine ⟨hb, fun k hk hbit => ?_, h19⟩
    by_cases c1 : i.op ≤ 12
    · have e : Ev.all i.op = 3 := by unfold Ev.all; rw [if_pos (by omega)]
      have er : Ev.reads i = [i.a, i.b] := by unfold Ev.reads; rw [if_pos (by omega)]
      rw [e] at hbit
      refine ⟨fun h => by omega, fun _ _ => ?_⟩
      rcases b3 k hk hbit with rfl | rfl
      · exact hr _ (by rw [er]; simp [placeOf])
      · exact hr _ (by rw [er]; simp [placeOf])
    by_cases c2 : i.op = 13
    · have er : Ev.reads i = [i.a, i.b, i.c] := by unfold Ev.reads; rw [if_neg (by omega), if_pos c2]
      refine ⟨fun h => by omega, fun _ _ => ?_⟩
      rcases (show k = 0 ∨ k = 1 ∨ k = 2 by omega) with rfl | rfl | rfl <;> exact hr _ (by rw [er]; simp [placeOf])
    by_cases c3 : i.op = 17
    · have e : Ev.all i.op = 3 := by unfold Ev.all; rw [if_neg (by omega), if_neg (by omega), if_neg (by omega), if_neg (by omega), if_pos (by omega)]
      have er : Ev.reads i = [i.a, i.d] := by unfold Ev.reads; rw [if_neg (by omega), if_neg (by omega), if_pos c3]
      rw [e] at hbit
      refine ⟨fun h => hr _ (by rw [er]; simp), fun h _ => ?_⟩
      rcases b3 k hk hbit with rfl | rfl
      · exact hr _ (by rw [er]; simp [placeOf])
      · exact absurd ⟨c3, rfl⟩ h
    by_cases c4 : i.op = 15 ∨ i.op = 16
    · have er : Ev.reads i = [i.a] := by unfold Ev.reads; rw [if_neg (by omega), if_neg (by omega), if_neg (by omega), if_pos (by omega)]
      rcases c4 with c4 | c4
      · have e : Ev.all i.op = 1 := by unfold Ev.all; rw [if_neg (by omega), if_neg (by omega), if_pos (by omega)]
        rw [e] at hbit
        have := b1 k hk hbit
        subst this
        exact ⟨fun h => by omega, fun _ _ => hr _ (by rw [er]; simp [placeOf])⟩
      · have e : Ev.all i.op = 3 := by unfold Ev.all; rw [if_neg (by omega), if_neg (by omega), if_neg (by omega), if_pos (by omega)]
        rw [e] at hbit
        refine ⟨fun h => by omega, fun _ h => ?_⟩
        rcases b3 k hk hbit with rfl | rfl
        · exact hr _ (by rw [er]; simp [placeOf])
        · exact absurd ⟨c4, rfl⟩ h
    · have e : Ev.all i.op = 0 := by unfold Ev.all; rw [if_neg (by omega), if_neg (by omega), if_neg (by omega), if_neg (by omega), if_neg (by omega)]
      rw [e] at hbit
      exact absurd hbit (fun h => b0 k hk h)
end Go.Proofs.Ytljcgcllhcdleaa
namespace Go.Proofs.Ytljcgcllhcdleaa
open Go.RowKit
set_option linter.unusedSimpArgs false
set_option linter.unusedVariables false

theorem wraps_i64_32 (n : Int) (h₀ : 0 ≤ n) (h₁ : n < 2 ^ 32) : IntKind.i64.wrap n = n := by rw [IntKind.wrap_i64]; omega
theorem join4 (b4 b5 b6 b7 : Int) (h4 : 0 ≤ b4) (h4' : b4 ≤ 255) (h5 : 0 ≤ b5) (h5' : b5 ≤ 255) (h6 : 0 ≤ b6) (h6' : b6 ≤ 255) (h7 : 0 ≤ b7) (h7' : b7 ≤ 255) :
    bits BinOp.or IntKind.i64 (bits BinOp.or IntKind.i64 (bits BinOp.or IntKind.i64 (b4 * 16777216) (b5 * 65536)) (b6 * 256)) b7 = Ev.ofBe b4 b5 b6 b7 := by
  rw [bits_join .i64 32 (by decide) wraps_i64_32 24 (b4 * 16777216) (b5 * 65536) (by omega) (by omega) (by omega) (by omega) (by omega) (by omega),
    bits_join .i64 32 (by decide) wraps_i64_32 16 (b4 * 16777216 + b5 * 65536) (b6 * 256) (by omega) (by omega) (by omega) (by omega) (by omega) (by omega),
    bits_join .i64 32 (by decide) wraps_i64_32 8 (b4 * 16777216 + b5 * 65536 + b6 * 256) b7 (by omega) (by omega) (by omega) (by omega) (by omega) (by omega)]
  rfl
theorem parse_kind {b0 b1 b2 b3 b4 b5 b6 b7 : Int} (h : b0 < 1 ∨ 23 < b0) : Ev.parseErr [b0, b1, b2, b3, b4, b5, b6, b7] = 1 ∧ Ev.parseOf [b0, b1, b2, b3, b4, b5, b6, b7] = ⟨0, 0, 0, 0, 0, 0⟩ := by
  have e : Ev.parseErr [b0, b1, b2, b3, b4, b5, b6, b7] = 1 := by simp only [Ev.parseErr]; rw [if_pos h]
  exact ⟨e, by unfold Ev.parseOf; rw [e]; rfl⟩
theorem parse_range {b0 b1 b2 b3 b4 b5 b6 b7 : Int} (h : b0 = 13) (k : 255 < Ev.ofBe b4 b5 b6 b7) : Ev.parseErr [b0, b1, b2, b3, b4, b5, b6, b7] = 3 ∧ Ev.parseOf [b0, b1, b2, b3, b4, b5, b6, b7] = ⟨0, 0, 0, 0, 0, 0⟩ := by
  have e : Ev.parseErr [b0, b1, b2, b3, b4, b5, b6, b7] = 3 := by simp only [Ev.parseErr]; rw [if_neg (by omega), if_pos ⟨h, k⟩]
  exact ⟨e, by unfold Ev.parseOf; rw [e]; rfl⟩
theorem parse_sel {b0 b1 b2 b3 b4 b5 b6 b7 : Int} (h : b0 = 13) (k : Ev.ofBe b4 b5 b6 b7 ≤ 255) : Ev.parseErr [b0, b1, b2, b3, b4, b5, b6, b7] = 0 ∧ Ev.parseOf [b0, b1, b2, b3, b4, b5, b6, b7] = ⟨b0, b1, b2, b3, Ev.ofBe b4 b5 b6 b7, 0⟩ := by
  have e : Ev.parseErr [b0, b1, b2, b3, b4, b5, b6, b7] = 0 := by simp only [Ev.parseErr]; rw [if_neg (by omega), if_neg (by omega)]
  exact ⟨e, by unfold Ev.parseOf; rw [e, if_neg (by decide)]; simp only [h, if_true]⟩
theorem parse_imm {b0 b1 b2 b3 b4 b5 b6 b7 : Int} (h : b0 ≠ 13) (k : ¬ (b0 < 1 ∨ 23 < b0)) : Ev.parseErr [b0, b1, b2, b3, b4, b5, b6, b7] = 0 ∧ Ev.parseOf [b0, b1, b2, b3, b4, b5, b6, b7] = ⟨b0, b1, b2, b3, 0, Ev.ofBe b4 b5 b6 b7⟩ := by
  have e : Ev.parseErr [b0, b1, b2, b3, b4, b5, b6, b7] = 0 := by simp only [Ev.parseErr]; rw [if_neg k, if_neg (by omega)]
  exact ⟨e, by unfold Ev.parseOf; rw [e, if_neg (by decide)]; simp only [h, if_false]⟩

set_option maxHeartbeats 1000000 in
theorem parse_eight (b0 b1 b2 b3 b4 b5 b6 b7 : Int) (bk o c : Nat) (w : World) (h0 : 0 ≤ b0) (h0' : b0 ≤ 255) (h1 : 0 ≤ b1) (h1' : b1 ≤ 255) (h2 : 0 ≤ b2) (h2' : b2 ≤ 255) (h3 : 0 ≤ b3) (h3' : b3 ≤ 255)
    (h4 : 0 ≤ b4) (h4' : b4 ≤ 255) (h5 : 0 ≤ b5) (h5' : b5 ≤ 255) (h6 : 0 ≤ b6) (h6' : b6 ≤ 255) (h7 : 0 ≤ b7) (h7' : b7 ≤ 255)
    (c0 : w.cell? ⟨bk, o, none⟩ = some (.int .u8 b0)) (c1 : w.cell? ⟨bk, o + 1, none⟩ = some (.int .u8 b1)) (c2 : w.cell? ⟨bk, o + 2, none⟩ = some (.int .u8 b2)) (c3 : w.cell? ⟨bk, o + 3, none⟩ = some (.int .u8 b3))
    (c4 : w.cell? ⟨bk, o + 4, none⟩ = some (.int .u8 b4)) (c5 : w.cell? ⟨bk, o + 5, none⟩ = some (.int .u8 b5)) (c6 : w.cell? ⟨bk, o + 6, none⟩ = some (.int .u8 b6)) (c7 : w.cell? ⟨bk, o + 7, none⟩ = some (.int .u8 b7)) :
    Calls Try.prog 75 #[.slice (some ⟨bk, o, none⟩) 8 c] w fun e w' => e = .returned (.tuple #[.agg #[.int .i64 (Ev.parseOf [b0, b1, b2, b3, b4, b5, b6, b7]).op, .int .i64 (Ev.parseOf [b0, b1, b2, b3, b4, b5, b6, b7]).d, .int .i64 (Ev.parseOf [b0, b1, b2, b3, b4, b5, b6, b7]).a, .int .i64 (Ev.parseOf [b0, b1, b2, b3, b4, b5, b6, b7]).b, .int .i64 (Ev.parseOf [b0, b1, b2, b3, b4, b5, b6, b7]).c, .int .i64 (Ev.parseOf [b0, b1, b2, b3, b4, b5, b6, b7]).imm], .int .i64 (Ev.parseErr [b0, b1, b2, b3, b4, b5, b6, b7])]) ∧ Below w.heap.size w w' := by
  have lt := World.block_lt_of_cell? w _ c0
  simp only at lt
  have hj := join4 b4 b5 b6 b7 h4 h4' h5 h5' h6 h6' h7 h7'
  have hn0 : 0 ≤ Ev.ofBe b4 b5 b6 b7 := by unfold Ev.ofBe; omega
  have hk1 := @parse_kind b0 b1 b2 b3 b4 b5 b6 b7
  have hk2 := @parse_range b0 b1 b2 b3 b4 b5 b6 b7
  have hk3 := @parse_sel b0 b1 b2 b3 b4 b5 b6 b7
  have hk4 := @parse_imm b0 b1 b2 b3 b4 b5 b6 b7
  generalize Ev.ofBe b4 b5 b6 b7 = n at *
  generalize Ev.parseErr [b0, b1, b2, b3, b4, b5, b6, b7] = er at *
  generalize Ev.parseOf [b0, b1, b2, b3, b4, b5, b6, b7] = ins at *
  have HK := Lib.hid (And.intro hk1 (And.intro hk2 (And.intro hk3 hk4)))
  clear hk1 hk2 hk3 hk4
  go_enter Try.func75, Try.ntmps75
  go_wp2
  go_region
  go_wp2
  go_quiet (fail)
  go_wp2
  all_goals
    go_returns
    (try simp only [bne_iff_ne, ne_eq, bne_eq_false_iff_eq, beq_iff_eq, beq_eq_false_iff_ne] at *)
    refine ⟨?_, by (repeat' first | with_reducible (first | exact Below.refl _ _ | assumption | refine Below.alloc ?_ ?_ _ | refine below_drewN ?_ _ | refine Below.drew ?_ | refine Below.setCell ?_ ?_ _ | refine Below.trans ?_ (Below.mono (by with_reducible assumption) ?_)) | go_size)⟩
    obtain ⟨hk1, hk2, hk3, hk4⟩ := HK.out
    first
    | (have e1 : b0 < 1 ∨ 23 < b0 := by omega
       obtain ⟨rfl, rfl⟩ := hk1 e1; rfl)
    | (have e1 : b0 = 13 := by omega
       have e2 : 255 < n := by omega
       obtain ⟨rfl, rfl⟩ := hk2 e1 e2; rfl)
    | (have e1 : b0 = 13 := by omega
       have e2 : n ≤ 255 := by omega
       obtain ⟨rfl, rfl⟩ := hk3 e1 e2; first | rfl | (rw [e1]))
    | (have e1 : ¬ b0 = 13 := by omega
       have e2 : ¬ (b0 < 1 ∨ 23 < b0) := by omega
       obtain ⟨rfl, rfl⟩ := hk4 e1 e2; rfl)
    | skip
  all_goals trace_state
end Go.Proofs.Ytljcgcllhcdleaa
namespace Go.Proofs.Ytljcgcllhcdleaa
open Go.RowKit
set_option linter.unusedSimpArgs false
set_option linter.unusedVariables false

set_option maxHeartbeats 1000000 in
theorem refParse_eight (b0 b1 b2 b3 b4 b5 b6 b7 : Int) (bk o c : Nat) (w : World) (hc8 : 8 ≤ c) (h0 : 0 ≤ b0) (h0' : b0 ≤ 255) (h1 : 0 ≤ b1) (h1' : b1 ≤ 255) (h2 : 0 ≤ b2) (h2' : b2 ≤ 255) (h3 : 0 ≤ b3) (h3' : b3 ≤ 255)
    (h4 : 0 ≤ b4) (h4' : b4 ≤ 255) (h5 : 0 ≤ b5) (h5' : b5 ≤ 255) (h6 : 0 ≤ b6) (h6' : b6 ≤ 255) (h7 : 0 ≤ b7) (h7' : b7 ≤ 255)
    (c0 : w.cell? ⟨bk, o, none⟩ = some (.int .u8 b0)) (c1 : w.cell? ⟨bk, o + 1, none⟩ = some (.int .u8 b1)) (c2 : w.cell? ⟨bk, o + 2, none⟩ = some (.int .u8 b2)) (c3 : w.cell? ⟨bk, o + 3, none⟩ = some (.int .u8 b3))
    (c4 : w.cell? ⟨bk, o + 4, none⟩ = some (.int .u8 b4)) (c5 : w.cell? ⟨bk, o + 5, none⟩ = some (.int .u8 b5)) (c6 : w.cell? ⟨bk, o + 6, none⟩ = some (.int .u8 b6)) (c7 : w.cell? ⟨bk, o + 7, none⟩ = some (.int .u8 b7)) :
    Calls Try.prog 76 #[.slice (some ⟨bk, o, none⟩) 8 c] w fun e w' => e = .returned (.tuple #[.agg #[.int .i64 (Ev.parseOf [b0, b1, b2, b3, b4, b5, b6, b7]).op, .int .i64 (Ev.parseOf [b0, b1, b2, b3, b4, b5, b6, b7]).d, .int .i64 (Ev.parseOf [b0, b1, b2, b3, b4, b5, b6, b7]).a, .int .i64 (Ev.parseOf [b0, b1, b2, b3, b4, b5, b6, b7]).b, .int .i64 (Ev.parseOf [b0, b1, b2, b3, b4, b5, b6, b7]).c, .int .i64 (Ev.parseOf [b0, b1, b2, b3, b4, b5, b6, b7]).imm], .int .i64 (Ev.parseErr [b0, b1, b2, b3, b4, b5, b6, b7])]) ∧ Below w.heap.size w w' := by
  have lt := World.block_lt_of_cell? w _ c0
  simp only at lt
  have hj1 : Ev.ofBe b4 b5 b6 b7 ≤ ((b4 * 256 + b5) * 256 + b6) * 256 + b7 := by unfold Ev.ofBe; omega
  have hj2 : ((b4 * 256 + b5) * 256 + b6) * 256 + b7 ≤ Ev.ofBe b4 b5 b6 b7 := by unfold Ev.ofBe; omega
  have hn0 : 0 ≤ Ev.ofBe b4 b5 b6 b7 := by unfold Ev.ofBe; omega
  have hk1 := @parse_kind b0 b1 b2 b3 b4 b5 b6 b7
  have hk2 := @parse_range b0 b1 b2 b3 b4 b5 b6 b7
  have hk3 := @parse_sel b0 b1 b2 b3 b4 b5 b6 b7
  have hk4 := @parse_imm b0 b1 b2 b3 b4 b5 b6 b7
  generalize Ev.ofBe b4 b5 b6 b7 = n at *
  generalize Ev.parseErr [b0, b1, b2, b3, b4, b5, b6, b7] = er at *
  generalize Ev.parseOf [b0, b1, b2, b3, b4, b5, b6, b7] = ins at *
  have HK := Lib.hid (And.intro hk1 (And.intro hk2 (And.intro hk3 hk4)))
  clear hk1 hk2 hk3 hk4
  go_enter Try.func76, Try.ntmps76
  go_wp2
  any_goals (go_rounds 5)
  any_goals (go_region; go_wp2)
  all_goals
    go_returns
    (try simp only [bne_iff_ne, ne_eq, bne_eq_false_iff_eq, beq_iff_eq, beq_eq_false_iff_ne] at *)
    refine ⟨?_, by (repeat' first | with_reducible (first | exact Below.refl _ _ | assumption | refine Below.alloc ?_ ?_ _ | refine below_drewN ?_ _ | refine Below.drew ?_ | refine Below.setCell ?_ ?_ _ | refine Below.trans ?_ (Below.mono (by with_reducible assumption) ?_)) | go_size)⟩
    have e3 : (((b4 * 256 + b5) * 256 + b6) * 256 + b7) = n := by omega
    obtain ⟨hk1, hk2, hk3, hk4⟩ := HK.out
    first
    | (have e1 : b0 < 1 ∨ 23 < b0 := by omega
       obtain ⟨rfl, rfl⟩ := hk1 e1; rfl)
    | (have e1 : b0 = 13 := by omega
       have e2 : 255 < n := by omega
       obtain ⟨rfl, rfl⟩ := hk2 e1 e2; rfl)
    | (have e1 : b0 = 13 := by omega
       have e2 : n ≤ 255 := by omega
       obtain ⟨rfl, rfl⟩ := hk3 e1 e2; first | rfl | (rw [e1, e3]) | (rw [e3]))
    | (have e1 : ¬ b0 = 13 := by omega
       have e2 : ¬ (b0 < 1 ∨ 23 < b0) := by omega
       obtain ⟨rfl, rfl⟩ := hk4 e1 e2; first | rfl | (rw [e3]))

theorem eight {b : List Int} (h : b.length = 8) : ∃ b0 b1 b2 b3 b4 b5 b6 b7, b = [b0, b1, b2, b3, b4, b5, b6, b7] := by
  match b, h with
  | [b0, b1, b2, b3, b4, b5, b6, b7], _ => exact ⟨_, _, _, _, _, _, _, _, rfl⟩
theorem not_eight {b : List Int} (h : b.length ≠ 8) : Ev.parseErr b = 2 ∧ Ev.parseOf b = ⟨0, 0, 0, 0, 0, 0⟩ := by
  have e : Ev.parseErr b = 2 := by
    unfold Ev.parseErr
    split
    · exact absurd rfl h
    · rfl
  exact ⟨e, by unfold Ev.parseOf; rw [e]; rfl⟩

set_option maxHeartbeats 1000000 in
theorem parse_any (b : List Int) (v : Value) (w : World) (h : RBytes w w.heap.size v b) (hb : ∀ x ∈ b, 0 ≤ x ∧ x ≤ 255) :
    Calls Try.prog 75 #[v] w fun e w' => e = .returned (.tuple #[.agg #[.int .i64 (Ev.parseOf b).op, .int .i64 (Ev.parseOf b).d, .int .i64 (Ev.parseOf b).a, .int .i64 (Ev.parseOf b).b, .int .i64 (Ev.parseOf b).c, .int .i64 (Ev.parseOf b).imm], .int .i64 (Ev.parseErr b)]) ∧ Below w.heap.size w w' := by
  by_cases h8 : b.length = 8
  · obtain ⟨b0, b1, b2, b3, b4, b5, b6, b7, rfl⟩ := eight h8
    obtain ⟨_, A, c, rfl, hc, _, _, hx⟩ := h
    obtain ⟨bk, o, rfl, _, hcell⟩ := hx (by simp)
    simp only [List.mem_cons, List.not_mem_nil, or_false, forall_eq_or_imp, forall_eq] at hb
    obtain ⟨⟨x0, y0⟩, ⟨x1, y1⟩, ⟨x2, y2⟩, ⟨x3, y3⟩, ⟨x4, y4⟩, ⟨x5, y5⟩, ⟨x6, y6⟩, ⟨x7, y7⟩⟩ := hb
    exact parse_eight b0 b1 b2 b3 b4 b5 b6 b7 bk o c w x0 y0 x1 y1 x2 y2 x3 y3 x4 y4 x5 y5 x6 y6 x7 y7 (hcell 0 _ rfl) (hcell 1 _ rfl) (hcell 2 _ rfl) (hcell 3 _ rfl) (hcell 4 _ rfl) (hcell 5 _ rfl) (hcell 6 _ rfl) (hcell 7 _ rfl)
  · obtain ⟨e1, e2⟩ := not_eight h8
    rw [e1, e2]
    obtain ⟨_, A, c, rfl, _⟩ := h
    have hne : (((b.length : Nat) : Int) != 8) = true := by rw [bne_iff_ne]; omega
    clear e1 e2 h8 hb
    go_enter Try.func75, Try.ntmps75
    go_wp2
    go_returns
    exact ⟨rfl, by (repeat' first | with_reducible (first | exact Below.refl _ _ | assumption | refine Below.alloc ?_ ?_ _ | refine below_drewN ?_ _ | refine Below.drew ?_ | refine Below.setCell ?_ ?_ _ | refine Below.trans ?_ (Below.mono (by with_reducible assumption) ?_)) | go_size)⟩

set_option maxHeartbeats 1000000 in
theorem refParse_any (b : List Int) (v : Value) (w : World) (h : RBytes w w.heap.size v b) (hb : ∀ x ∈ b, 0 ≤ x ∧ x ≤ 255) :
    Calls Try.prog 76 #[v] w fun e w' => e = .returned (.tuple #[.agg #[.int .i64 (Ev.parseOf b).op, .int .i64 (Ev.parseOf b).d, .int .i64 (Ev.parseOf b).a, .int .i64 (Ev.parseOf b).b, .int .i64 (Ev.parseOf b).c, .int .i64 (Ev.parseOf b).imm], .int .i64 (Ev.parseErr b)]) ∧ Below w.heap.size w w' := by
  by_cases h8 : b.length = 8
  · obtain ⟨b0, b1, b2, b3, b4, b5, b6, b7, rfl⟩ := eight h8
    obtain ⟨_, A, c, rfl, hc, _, _, hx⟩ := h
    obtain ⟨bk, o, rfl, _, hcell⟩ := hx (by simp)
    simp only [List.mem_cons, List.not_mem_nil, or_false, forall_eq_or_imp, forall_eq] at hb
    obtain ⟨⟨x0, y0⟩, ⟨x1, y1⟩, ⟨x2, y2⟩, ⟨x3, y3⟩, ⟨x4, y4⟩, ⟨x5, y5⟩, ⟨x6, y6⟩, ⟨x7, y7⟩⟩ := hb
    exact refParse_eight b0 b1 b2 b3 b4 b5 b6 b7 bk o c w hc x0 y0 x1 y1 x2 y2 x3 y3 x4 y4 x5 y5 x6 y6 x7 y7 (hcell 0 _ rfl) (hcell 1 _ rfl) (hcell 2 _ rfl) (hcell 3 _ rfl) (hcell 4 _ rfl) (hcell 5 _ rfl) (hcell 6 _ rfl) (hcell 7 _ rfl)
  · obtain ⟨e1, e2⟩ := not_eight h8
    rw [e1, e2]
    obtain ⟨_, A, c, rfl, _⟩ := h
    have hne : (((b.length : Nat) : Int) != 8) = true := by rw [bne_iff_ne]; omega
    clear e1 e2 h8 hb
    go_enter Try.func76, Try.ntmps76
    go_wp2
    go_returns
    exact ⟨rfl, by (repeat' first | with_reducible (first | exact Below.refl _ _ | assumption | refine Below.alloc ?_ ?_ _ | refine below_drewN ?_ _ | refine Below.drew ?_ | refine Below.setCell ?_ ?_ _ | refine Below.trans ?_ (Below.mono (by with_reducible assumption) ?_)) | go_size)⟩
end Go.Proofs.Ytljcgcllhcdleaa
/- Chapter 7, the reference: what an instruction reads, by a text. -/
namespace Go.Proofs.Ytljcgcllhcdleaa
open Go.RowKit
set_option linter.unusedSimpArgs false
set_option linter.unusedVariables false
/-- which of A, B, C, D an op reads, and whether it makes D -/
def form (op : Int) : ByteArray :=
  if 1 ≤ op ∧ op ≤ 12 then ⟨#[65, 66, 109]⟩ else if op = 13 then ⟨#[65, 66, 67, 109]⟩ else if op = 14 then ⟨#[109]⟩
  else if op = 15 ∨ op = 16 then ⟨#[65, 109]⟩ else if op = 17 then ⟨#[65, 68]⟩ else if op = 19 ∨ op = 20 then ⟨#[65]⟩ else ⟨#[]⟩
theorem form_cases (op : Int) : ((1 ≤ op ∧ op ≤ 12) ∧ form op = ⟨#[65, 66, 109]⟩) ∨ (op = 13 ∧ form op = ⟨#[65, 66, 67, 109]⟩) ∨ (op = 14 ∧ form op = ⟨#[109]⟩) ∨ ((op = 15 ∨ op = 16) ∧ form op = ⟨#[65, 109]⟩) ∨
    (op = 17 ∧ form op = ⟨#[65, 68]⟩) ∨ ((op = 19 ∨ op = 20) ∧ form op = ⟨#[65]⟩) ∨ ((op < 1 ∨ op = 18 ∨ 20 < op) ∧ form op = ⟨#[]⟩) := by
  unfold form
  by_cases h1 : 1 ≤ op ∧ op ≤ 12
  · exact .inl ⟨h1, if_pos h1⟩
  · rw [if_neg h1]
    by_cases h2 : op = 13
    · exact .inr (.inl ⟨h2, if_pos h2⟩)
    · rw [if_neg h2]
      by_cases h3 : op = 14
      · exact .inr (.inr (.inl ⟨h3, if_pos h3⟩))
      · rw [if_neg h3]
        by_cases h4 : op = 15 ∨ op = 16
        · exact .inr (.inr (.inr (.inl ⟨h4, if_pos h4⟩)))
        · rw [if_neg h4]
          by_cases h5 : op = 17
          · exact .inr (.inr (.inr (.inr (.inl ⟨h5, if_pos h5⟩))))
          · rw [if_neg h5]
            by_cases h6 : op = 19 ∨ op = 20
            · exact .inr (.inr (.inr (.inr (.inr (.inl ⟨h6, if_pos h6⟩)))))
            · exact .inr (.inr (.inr (.inr (.inr (.inr ⟨by omega, if_neg h6⟩)))))

set_option maxHeartbeats 800000 in
theorem form_any (op : Int) (w : World) :
    Calls Try.prog 64 #[.int .i64 op] w fun e w' => e = .returned (.string (form op)) ∧ Below w.heap.size w w' := by
  have H := Lib.hid (form_cases op)
  generalize form op = s at *
  go_enter Try.func64, Try.ntmps64
  go_wp2
  all_goals
    go_ret
    (try simp only [beq_iff_eq, beq_eq_false_iff_ne] at *)
    refine ⟨?_, by (repeat' first | with_reducible (first | exact Below.refl _ _ | assumption | refine Below.alloc ?_ ?_ _ | refine below_drewN ?_ _ | refine Below.drew ?_ | refine Below.setCell ?_ ?_ _ | refine Below.trans ?_ (Below.mono (by with_reducible assumption) ?_)) | go_size)⟩
    rcases H.out with ⟨h, rfl⟩ | ⟨h, rfl⟩ | ⟨h, rfl⟩ | ⟨h, rfl⟩ | ⟨h, rfl⟩ | ⟨h, rfl⟩ | ⟨h, rfl⟩ <;> first | rfl | (exfalso; omega)

set_option maxHeartbeats 800000 in
theorem refMakes_any (i : Ev.Instr) (w : World) :
    Calls Try.prog 30 #[.agg #[.int .i64 i.op, .int .i64 i.d, .int .i64 i.a, .int .i64 i.b, .int .i64 i.c, .int .i64 i.imm]] w fun e w' => e = .returned (.bool (Ev.makes i)) ∧ Below w.heap.size w w' := by
  have hm : ∀ b, ((1 ≤ i.op ∧ i.op ≤ 16) ↔ b = true) → Ev.makes i = b := fun b h => by
    unfold Ev.makes
    cases b <;> simp at h ⊢ <;> omega
  generalize Ev.makes i = mk at *
  have HM := Lib.hid hm
  clear hm
  rcases form_cases i.op with ⟨h, hf⟩ | ⟨h, hf⟩ | ⟨h, hf⟩ | ⟨h, hf⟩ | ⟨h, hf⟩ | ⟨h, hf⟩ | ⟨h, hf⟩
  all_goals
    have hc := form_any i.op
    rw [hf] at hc
    have HC := Lib.hid hc
    have HH := Lib.hid h
    clear hc hf h
    go_enter Try.func30, Try.ntmps30
    go_wp2_with fail
    refine (HC.out _).mono ?_
    rintro e w1 ⟨rfl, hb1⟩
    obtain ⟨kc1, kf1, s1⟩ := bfacts hb1
    (try simp only [World.size_alloc, World.size_setCell, World.size_drew, World.heap_drewN, Nat.add_one_le_iff] at s1)
    (try have z1 : w.heap.size < w1.heap.size := by omega)
    have B1 : Hid (Below w.heap.size w w1) := by (show Below _ _ _); (repeat' first | with_reducible (first | exact Below.refl _ _ | assumption | refine Below.alloc ?_ ?_ _ | refine below_drewN ?_ _ | refine Below.drew ?_ | refine Below.setCell ?_ ?_ _ | refine Below.trans ?_ (Below.mono (by with_reducible assumption) ?_)) | go_size)
    obtain ⟨kd1, kg1, _⟩ := bfacts B1.out
    go_wp2_with fail
    try go_ret
  all_goals
    have h := HH.out
    first
    | (have e := HM.out true (by constructor <;> intro _ <;> first | rfl | omega)
       exact ⟨by rw [e]; rfl, by (repeat' first | with_reducible (first | exact Below.refl _ _ | assumption | refine Below.alloc ?_ ?_ _ | refine below_drewN ?_ _ | refine Below.drew ?_ | refine Below.setCell ?_ ?_ _ | refine Below.trans ?_ (Below.mono (by with_reducible assumption) ?_)) | go_size)⟩)
    | (have e := HM.out false (by constructor <;> intro _ <;> first | (exfalso; omega) | contradiction)
       exact ⟨by rw [e]; rfl, by (repeat' first | with_reducible (first | exact Below.refl _ _ | assumption | refine Below.alloc ?_ ?_ _ | refine below_drewN ?_ _ | refine Below.drew ?_ | refine Below.setCell ?_ ?_ _ | refine Below.trans ?_ (Below.mono (by with_reducible assumption) ?_)) | go_size)⟩)
    | skip
  all_goals trace_state
end Go.Proofs.Ytljcgcllhcdleaa
