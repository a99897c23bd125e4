import Derived.Test.YtljcgcllhcdleaaProg
import Derived.Test.YtljcgcllhcdleaaFo1
import Derived.Maps.OwnOps
import Derived.Test.YtljcgcllhcdleaaFo2
import Derived.Deep.DeepCutAuto
import Derived.Test.YtljcgcllhcdleaaFo13
import Derived.Test.YtljcgcllhcdleaaFo5
import Derived.Test.YtljcgcllhcdleaaFo10
import Derived.Test.YtljcgcllhcdleaaFo14
/- The literal map[bool]int{true: 1, false: 0}, made and asked in one statement. -/
namespace Go.Proofs.Ytljcgcllhcdleaa
open Go.RowKit
set_option linter.unusedSectionVars false
def ent1 : MapEntry := { key := .bool true, val := .int .i64 1, born := 0 }
def ent2 : MapEntry := { key := .bool false, val := .int .i64 0, born := 1 }
theorem heap_set_new (w : World) (o o' : Obj) : ({ w.alloc o with heap := (w.alloc o).heap.setIfInBounds w.heap.size o' } : World) = w.alloc o' := by
  simp only [World.alloc]
  congr 1
  apply Array.ext_getElem?
  intro i
  simp only [Array.getElem?_setIfInBounds, Array.size_push, Array.getElem?_push]
  split
  · rename_i h; subst h; simp
  · rename_i h; simp [Ne.symm h]
section
variable (P : Program) (t : TypeId) (kt et : TypeId) (ht : P.underlying t = some (.map kt et)) (hk : P.underlying kt = some .bool)
include ht hk
theorem find_nil (x : Value) (w : World) : (Instr.findKey kt x []).run P w = .ok none w := by
  simp [Instr.findKey, run_underlying hk, Instr.findNow]
theorem find_one (w : World) : (Instr.findKey kt (.bool false) [ent1]).run P w = .ok none w := by
  simp [Instr.findKey, run_underlying hk, Instr.findNow, ent1, Instr.sameNow]
theorem find_two (w : World) (x : Bool) : (Instr.findKey kt (.bool x) [ent1, ent2]).run P w = .ok (some (if x then (0, .int .i64 1) else (1, .int .i64 0))) w := by
  cases x <;> simp [Instr.findKey, run_underlying hk, Instr.findNow, ent1, ent2, Instr.sameNow]
theorem chk (em x : Bool) (w : World) : (Instr.checkKey em 10000 kt (.bool x)).run P w = .ok () w := (Maps.bool_keyed hk).check w em (Maps.keyOf_bool_mk hk x)
theorem ins_one (w : World) : (Instr.mapUpdate t (.map (some w.heap.size)) (.bool true) (.int .i64 1)).run P (w.alloc (.map #[] 0)) = .ok () (w.alloc (.map #[ent1] 1)) := by
  have h0 : (w.alloc (.map #[] 0)).heap[w.heap.size]? = some (.map #[] 0) := heap_alloc_new w _
  have hs : ChangeMaps.setBlock (w.alloc (.map #[] 0)) w.heap.size (.map #[ent1] 1) = w.alloc (.map #[ent1] 1) := heap_set_new w _ _
  have hf := find_nil P t kt et ht hk (.bool true) (w.alloc (.map #[] 0))
  have hc := chk P t kt et ht hk false true (w.alloc (.map #[] 0))
  simp [Instr.mapUpdate, run_underlying ht, MapKept.run_getObj_map h0, hc, hf, MapKept.run_setObj_map _ h0, Result.andThen]
  exact hs
theorem ins_two (w : World) : (Instr.mapUpdate t (.map (some w.heap.size)) (.bool false) (.int .i64 0)).run P (w.alloc (.map #[ent1] 1)) = .ok () (w.alloc (.map #[ent1, ent2] 2)) := by
  have h0 : (w.alloc (.map #[ent1] 1)).heap[w.heap.size]? = some (.map #[ent1] 1) := heap_alloc_new w _
  have hs : ChangeMaps.setBlock (w.alloc (.map #[ent1] 1)) w.heap.size (.map #[ent1, ent2] 2) = w.alloc (.map #[ent1, ent2] 2) := heap_set_new w _ _
  have hf := find_one P t kt et ht hk (w.alloc (.map #[ent1] 1))
  have hc := chk P t kt et ht hk false false (w.alloc (.map #[ent1] 1))
  simp [Instr.mapUpdate, run_underlying ht, MapKept.run_getObj_map h0, hc, hf, MapKept.run_setObj_map _ h0, Result.andThen]
  exact hs
theorem look_two (w : World) (x : Bool) : (Instr.lookup t (.map (some w.heap.size)) (.bool x) false).run P (w.alloc (.map #[ent1, ent2] 2)) = .ok (.int .i64 (if x then 1 else 0)) (w.alloc (.map #[ent1, ent2] 2)) := by
  have h0 : (w.alloc (.map #[ent1, ent2] 2)).heap[w.heap.size]? = some (.map #[ent1, ent2] 2) := heap_alloc_new w _
  have hf := find_two P t kt et ht hk (w.alloc (.map #[ent1, ent2] 2)) x
  have hc := chk P t kt et ht hk false x (w.alloc (.map #[ent1, ent2] 2))
  simp [Instr.lookup, run_underlying ht, MapKept.run_getObj_map h0, hc, hf, Result.andThen]
  cases x <;> rfl
end
end Go.Proofs.Ytljcgcllhcdleaa
/- Chapter 1, the reference: what is made of two words. -/
namespace Go.Proofs.Ytljcgcllhcdleaa
open Go.RowKit
set_option linter.unusedSimpArgs false
set_option linter.unusedVariables false
theorem tmod_bounds (a : Int) : -4294967296 < a.tmod 4294967296 ∧ a.tmod 4294967296 < 4294967296 := by
  constructor
  · have := Int.lt_tmod_of_pos a (show (0 : Int) < 4294967296 by decide); omega
  · exact Int.tmod_lt_of_pos a (by decide)
theorem tmod_low (a : Int) : (a.tmod 4294967296 + 4294967296) % 4294967296 = ((Ev.low a : Nat) : Int) := by
  unfold Ev.low
  have h : a.tmod 4294967296 % 4294967296 = a % 4294967296 := by
    have := Int.tmod_add_mul_tdiv a 4294967296
    omega
  omega

theorem wraps63 (n : Int) (h₀ : 0 ≤ n) (h₁ : n < 2 ^ 63) : IntKind.i64.wrap n = n := by rw [IntKind.wrap_i64]; omega
theorem i64_and_nat {a b : Nat} (ha : a < 4294967296) (hb : b < 4294967296) : bits .and .i64 (a : Int) (b : Int) = ((a &&& b : Nat) : Int) :=
  (bits_nat .i64 63 (by decide) wraps63 a b (by omega) (by omega)).1
theorem i64_or_nat {a b : Nat} (ha : a < 4294967296) (hb : b < 4294967296) : bits .or .i64 (a : Int) (b : Int) = ((a ||| b : Nat) : Int) :=
  (bits_nat .i64 63 (by decide) wraps63 a b (by omega) (by omega)).2
theorem i64_xor_nat {a b : Nat} (ha : a < 4294967296) (hb : b < 4294967296) : bits .xor .i64 (a : Int) (b : Int) = ((a ^^^ b : Nat) : Int) := by
  have hx := Ev.xor_lt ha hb
  have ha' : a % 2 ^ IntKind.i64.bits = a := Nat.mod_eq_of_lt (Nat.lt_of_lt_of_le ha (by decide))
  have hb' : b % 2 ^ IntKind.i64.bits = b := Nat.mod_eq_of_lt (Nat.lt_of_lt_of_le hb (by decide))
  simp only [bits, BitVec.ofInt_natCast, BitVec.toNat_xor, BitVec.toNat_ofNat, ha', hb']
  generalize a ^^^ b = z at *
  exact wraps63 _ (by omega) (by omega)
theorem pow_sub {y : Nat} (hy : y % 32 < 32) : ∃ p : Nat, wrap64 ((2 : Int) ^ (32 - y % 32)) = (p : Int) ∧ 1 ≤ p ∧ p ≤ 4294967296 ∧ Hid (p = 2 ^ (32 - y % 32)) := by
  have h1 : 1 ≤ 2 ^ (32 - y % 32) := Nat.one_le_two_pow
  have h2 : 2 ^ (32 - y % 32) ≤ 2 ^ 32 := Nat.pow_le_pow_right (by decide) (by omega)
  have e : (2 : Int) ^ (32 - y % 32) = ((2 ^ (32 - y % 32) : Nat) : Int) := by rw [Int.natCast_pow]; rfl
  refine ⟨2 ^ (32 - y % 32), ?_, h1, by simpa using h2, rfl⟩
  rw [e]
  generalize 2 ^ (32 - y % 32) = z at *
  exact IntWalk.wrap64_in _ ⟨by omega, by omega⟩
theorem shl_split {x k : Nat} (hk : k < 32) : x % 2 ^ (32 - k) * 2 ^ k = Ev.wshl x k := by
  unfold Ev.wshl
  have e : (4294967296 : Nat) = 2 ^ (32 - k) * 2 ^ k := by
    rw [← Nat.pow_add]
    have : 32 - k + k = 32 := by omega
    rw [this]
  rw [e, Nat.mul_mod_mul_right]
theorem shl_end {x y p : Nat} (hy : y % 32 < 32) (hp : Hid (p = 2 ^ (32 - y % 32))) : wrap64 ((x : Int) % (p : Int) * 2 ^ (y % 32)) = ((Ev.wshl x (y % 32) : Nat) : Int) := by
  rw [hp.out]
  have e : (x : Int) % ((2 ^ (32 - y % 32) : Nat) : Int) * 2 ^ (y % 32) = ((Ev.wshl x (y % 32) : Nat) : Int) := by
    rw [← shl_split hy, Int.natCast_mul, Int.natCast_emod, Int.natCast_pow (2) (y % 32)]
    rfl
  rw [e]
  have : Ev.wshl x (y % 32) < 4294967296 := Nat.mod_lt _ (by decide)
  generalize Ev.wshl x (y % 32) = z at *
  exact IntWalk.wrap64_in _ ⟨by omega, by omega⟩
theorem wrap_quo {x y : Nat} (h : x < 4294967296) : wrap64 ((x : Int) / (y : Int)) = (x : Int) / (y : Int) := by
  have hle : x / y ≤ x := Nat.div_le_self _ _
  rw [← Int.natCast_ediv]
  generalize x / y = z at *
  exact IntWalk.wrap64_in _ ⟨by omega, by omega⟩
theorem mul_split {x y : Nat} (hx : x < 4294967296) (hy : y < 4294967296) :
    (wrap64 (wrap64 ((x : Int) % 65536 * y) + wrap64 ((wrap64 ((x : Int) / 65536 * ((y : Int) % 65536))).tmod 65536 * 65536))).tmod 4294967296 = (x : Int) * y % 4294967296 := by
  have h1 : x % 65536 * y ≤ 65535 * 4294967295 := Nat.mul_le_mul (by omega) (by omega)
  have h2 : x / 65536 * (y % 65536) ≤ 65535 * 65535 := Nat.mul_le_mul (by omega) (by omega)
  have e1 : (x : Int) % 65536 * y = ((x % 65536 * y : Nat) : Int) := by rw [Int.natCast_mul, Int.natCast_emod]; rfl
  have e2 : (x : Int) / 65536 * ((y : Int) % 65536) = ((x / 65536 * (y % 65536) : Nat) : Int) := by rw [Int.natCast_mul, Int.natCast_emod, Int.natCast_ediv]; rfl
  have e3 : ((x * y : Nat) : Int) = (x : Int) * y := Int.natCast_mul x y
  have e4 : x * y = x % 65536 * y + 65536 * (x / 65536 * (y % 65536)) + 4294967296 * (x / 65536 * (y / 65536)) := by
    have a := Nat.div_add_mod x 65536
    have b := Nat.div_add_mod y 65536
    have c : x / 65536 * y = x / 65536 * (y % 65536) + 65536 * (x / 65536 * (y / 65536)) := by
      conv => lhs; rw [← b]
      rw [Nat.mul_add, Nat.mul_left_comm]; omega
    conv => lhs; rw [← a]
    rw [Nat.add_mul, Nat.mul_assoc, c, Nat.mul_add]
    omega
  rw [e1, e2, ← e3, e4]
  generalize x % 65536 * y = p at *
  generalize x / 65536 * (y % 65536) = q at *
  generalize x / 65536 * (y / 65536) = r at *
  rw [IntWalk.wrap64_in (p : Int) ⟨by omega, by omega⟩, IntWalk.wrap64_in (q : Int) ⟨by omega, by omega⟩]
  have t : (q : Int).tmod 65536 = (q : Int) % 65536 := Int.tmod_eq_emod_of_nonneg (by omega)
  rw [t, IntWalk.wrap64_in ((q : Int) % 65536 * 65536) ⟨by omega, by omega⟩, IntWalk.wrap64_in ((p : Int) + (q : Int) % 65536 * 65536) ⟨by omega, by omega⟩, Int.tmod_eq_emod_of_nonneg (by omega)]
  omega

set_option maxHeartbeats 4000000 in
theorem refTwo_any (op a b : Int) (w : World) :
    Calls Try.prog 87 #[.int .i64 op, .int .i64 a, .int .i64 b] w fun e w' => e = .returned (.tuple #[.int .i64 (Ev.two op a b), .int .i64 (Ev.twoErr op)]) ∧ Below w.heap.size w w' := by
  obtain ⟨a1, a2⟩ := tmod_bounds a
  obtain ⟨b1, b2⟩ := tmod_bounds b
  have ha := tmod_low a
  have hb := tmod_low b
  have ha' : a.tmod 4294967296 % 4294967296 = ((Ev.low a : Nat) : Int) := by omega
  have hb' : b.tmod 4294967296 % 4294967296 = ((Ev.low b : Nat) : Int) := by omega
  have la := Ev.low_lt a
  have lb := Ev.low_lt b
  unfold Ev.two
  generalize Ev.low a = x at *
  generalize Ev.low b = y at *
  have hy : y % 32 < 32 := Nat.mod_lt _ (by decide)
  have q1 := i64_and_nat la lb
  have q2 := i64_or_nat la lb
  have q3 := i64_xor_nat la lb
  obtain ⟨p, q5, q6, q7, HP⟩ := pow_sub hy
  have hmm := @run_makeMap Try.prog
  rcases op_cases op with rfl | rfl | rfl | rfl | rfl | rfl | rfl | rfl | rfl | rfl | rfl | rfl | h
  rotate_left 12
  · rw [twoN_bad _ _ h, twoErr_bad h]
    clear q1 q2 q3 q5
    go_enter Try.func87, Try.ntmps87
    go_wp2
    go_quiet (fail)
    go_wp2
    all_goals (go_ret2; exact ⟨rfl, by (repeat' first | with_reducible (first | exact Below.refl _ _ | assumption | refine Below.alloc ?_ ?_ _ | refine below_drewN ?_ _ | refine Below.drew ?_ | refine Below.setCell ?_ ?_ _ | refine Below.trans ?_ (Below.mono (by with_reducible assumption) ?_)) | go_size)⟩)
  rotate_left 10
  iterate 2
    · have m1 : ∀ n, (Instr.mapUpdate 141 (.map (some w.heap.size)) (.bool true) (.int .i64 1)).run Try.prog ((w.alloc (.map #[] 0)).drewN n) = .ok () ((w.alloc (.map #[ent1] 1)).drewN n) := fun n => ins_one Try.prog 141 4 3 Try.underlying141 Try.underlying4 (w.drewN n)
      have m2 : ∀ n, (Instr.mapUpdate 141 (.map (some w.heap.size)) (.bool false) (.int .i64 0)).run Try.prog ((w.alloc (.map #[ent1] 1)).drewN n) = .ok () ((w.alloc (.map #[ent1, ent2] 2)).drewN n) := fun n => ins_two Try.prog 141 4 3 Try.underlying141 Try.underlying4 (w.drewN n)
      have m3 : ∀ n x, (Instr.lookup 141 (.map (some w.heap.size)) (.bool x) false).run Try.prog ((w.alloc (.map #[ent1, ent2] 2)).drewN n) = .ok (.int .i64 (if x then 1 else 0)) ((w.alloc (.map #[ent1, ent2] 2)).drewN n) := fun n x => look_two Try.prog 141 4 3 Try.underlying141 Try.underlying4 (w.drewN n) x
      go_enter Try.func87, Try.ntmps87
      go_wp2
      go_quiet (fail)
      go_upto_region 31 with fail
      go_step
      iterate 3 go_step
      refine wpList_insert_run rfl _ _ _ _ rfl _ _ _ rfl rfl rfl _ (m1 _) ?_
      simp only [Act.put]
      refine wpList_insert_run rfl _ _ _ _ rfl _ _ _ rfl rfl rfl _ (m2 _) ?_
      simp only [Act.put]
      go_wp2_with (at_lookup; refine wpList_lookup_run rfl _ _ _ _ rfl _ _ _ rfl rfl _ (m3 _ _) ?_)
      all_goals
        go_ret2
        refine ⟨congrArg Ending.returned (congrArg Value.tuple ?_), by (repeat' first | with_reducible (first | exact Below.refl _ _ | assumption | refine Below.alloc ?_ ?_ _ | refine below_drewN ?_ _ | refine Below.drew ?_ | refine Below.setCell ?_ ?_ _ | refine Below.trans ?_ (Below.mono (by with_reducible assumption) ?_)) | go_size)⟩
        (try simp only [beq_iff_eq, beq_eq_false_iff_ne] at *)
        simp [Ev.twoErr, Ev.twoN]
        try (split <;> omega)
  rotate_left 8
  iterate 2
    rcases Nat.eq_zero_or_pos y with rfl | hpos
    · go_enter Try.func87, Try.ntmps87
      go_wp2
      go_quiet (fail)
      go_wp2
      all_goals (go_ret2; refine ⟨congrArg Ending.returned (congrArg Value.tuple ?_), by (repeat' first | with_reducible (first | exact Below.refl _ _ | assumption | refine Below.alloc ?_ ?_ _ | refine below_drewN ?_ _ | refine Below.drew ?_ | refine Below.setCell ?_ ?_ _ | refine Below.trans ?_ (Below.mono (by with_reducible assumption) ?_)) | go_size)⟩)
      all_goals simp [Ev.twoErr, Ev.twoN]
      all_goals omega
    · have hne : y ≠ 0 := by omega
      go_enter Try.func87, Try.ntmps87
      go_wp2
      go_quiet (fail)
      go_wp2
      all_goals go_ret2
      all_goals (refine ⟨congrArg Ending.returned (congrArg Value.tuple ?_), by (repeat' first | with_reducible (first | exact Below.refl _ _ | assumption | refine Below.alloc ?_ ?_ _ | refine below_drewN ?_ _ | refine Below.drew ?_ | refine Below.setCell ?_ ?_ _ | refine Below.trans ?_ (Below.mono (by with_reducible assumption) ?_)) | go_size)⟩)
      all_goals simp [Ev.twoErr, Ev.twoN, hne]
      all_goals exact wrap_quo la
  all_goals
    go_enter Try.func87, Try.ntmps87
    go_wp2
    go_quiet (fail)
    go_wp2
  all_goals (try go_ret2)
  all_goals (try (refine ⟨congrArg Ending.returned (congrArg Value.tuple ?_), by (repeat' first | with_reducible (first | exact Below.refl _ _ | assumption | refine Below.alloc ?_ ?_ _ | refine below_drewN ?_ _ | refine Below.drew ?_ | refine Below.setCell ?_ ?_ _ | refine Below.trans ?_ (Below.mono (by with_reducible assumption) ?_)) | go_size)⟩))
  all_goals (try simp [Ev.twoErr, Ev.twoN])
  all_goals (try (first | omega | (unfold Ev.wadd; omega) | (unfold Ev.wsub; omega) | (exact cast_shr _ _) | (exact shl_end hy HP) | (exact mul_split la lb) | (split <;> omega)))
end Go.Proofs.Ytljcgcllhcdleaa
/- Chapter 7, the reference: the machine in memory. -/
namespace Go.Proofs.Ytljcgcllhcdleaa
open Go.RowKit
set_option linter.unusedSimpArgs false
set_option linter.unusedVariables false
theorem Arrs.aside {w : World} {lo : Nat} {v : Value} {l : List (List Int)} {vs : List Value} (h : Arrs w lo v l vs) {q o : Nat} {c : Value} (hq : q < lo) : Arrs (w.setCell ⟨q, o, none⟩ c) lo v l vs :=
  ⟨ownsRow_setCell_below h.outer hq _, h.len, fun k u a hu ha => ownsRow_setCell_below (h.row k u a hu ha) hq _, h.apart, h.out⟩
/-- only what lies below hi is changed, cell by cell, and no block below lo -/
inductive Sets (lo hi : Nat) (w : World) : World → Prop
  | here : Sets lo hi w w
  | more {W W' : World} : Sets lo hi w W → Below W.heap.size W W' → Sets lo hi w W'
  | set {W : World} {b j : Nat} {c : Value} : Sets lo hi w W → lo ≤ b → b < hi → Sets lo hi w (W.setCell ⟨b, j, none⟩ c)
theorem Sets.size {lo hi : Nat} {w W : World} (h : Sets lo hi w W) : w.heap.size ≤ W.heap.size := by
  induction h with
  | here => exact Nat.le_refl _
  | more _ h ih => exact Nat.le_trans ih h.size
  | set _ _ _ ih => simpa using ih
theorem Sets.keeps {lo hi : Nat} {w W : World} (h : Sets lo hi w W) (hl : lo ≤ w.heap.size) : Below lo w W := by
  induction h with
  | here => exact Below.refl _ _
  | more h1 h2 ih => exact ih.trans (h2.mono (Nat.le_trans hl h1.size))
  | set _ h2 _ ih => exact ih.setCell h2 _
theorem Sets.drewN {lo hi : Nat} {w W : World} (h : Sets lo hi w W) (n : Nat) : Sets lo hi w (W.drewN n) := h.more (below_drewN (Below.refl _ _) n)
theorem Leaks.sets {lo hi hi' : Nat} {w W : World} {v : Value} {l : List Ev.Leak} {us : List Value} (hs : Sets lo hi w W) (h : Leaks w hi' v l us) (hh : hi ≤ hi') : Leaks W hi' v l us := by
  induction hs with
  | here => exact h
  | more _ hb ih => exact ih.stays hb
  | set _ _ h3 ih => exact ih.aside _ _ _ (by omega)
/-- the machine: its struct in block mb, its places in block bv, its arrays behind these, all below hi -/
structure MAt (w : World) (bv mb : Nat) (va : Value) (vs : List Value) (hi : Nat) (s : Ev.St) : Prop where
  v : w.ownsRow bv 3 1 (.slice (some ⟨bv, 0, none⟩) s.v.length s.v.length) s.v.length (s.v.map (Value.int .i64))
  arrs : Arrs w (mb + 1) va s.arrs vs
  m0 : w.cell? ⟨mb, 0, none⟩ = some (.slice (some ⟨bv, 0, none⟩) s.v.length s.v.length)
  m1 : w.cell? ⟨mb, 1, none⟩ = some va
  m2 : w.cell? ⟨mb, 2, none⟩ = some (.int .i64 s.mode)
  loose : ∀ j, w.frozen? ⟨mb, j, none⟩ = false
  bm : bv < mb
  mh : mb < hi
  hio : ∀ b, va.ownBlock = some b → b < hi
  his : ∀ (k : Nat) u b, vs[k]? = some u → u.ownBlock = some b → b < hi
  le : hi ≤ w.heap.size
section
variable {w w' : World} {bv mb hi : Nat} {va : Value} {vs : List Value} {s : Ev.St}
theorem MAt.stays (h : MAt w bv mb va vs hi s) (hb : Below w.heap.size w w') : MAt w' bv mb va vs hi s := by
  have hm := h.mh
  have hl := h.le
  have c := fun o => hb.cell (p := ⟨mb, o, none⟩) (by show mb < _; omega)
  exact ⟨owns_below h.v hb, ⟨owns_below h.arrs.outer hb, h.arrs.len, fun k u a hu ha => owns_below (h.arrs.row k u a hu ha) hb, h.arrs.apart, h.arrs.out⟩, (c 0).trans h.m0, (c 1).trans h.m1, (c 2).trans h.m2,
    fun j => (hb.frozen (p := ⟨mb, j, none⟩) (by show mb < _; omega)).trans (h.loose j), h.bm, h.mh, h.hio, h.his, Nat.le_trans h.le hb.size⟩
theorem MAt.cell (h : MAt w bv mb va vs hi s) {p : Int} (hp : inR s.v.length p) : w.cell? ⟨bv, p.toNat, none⟩ = some (.int .i64 (Ev.val s.v p)) := by
  unfold inR at hp
  rw [h.v.cellAt p.toNat (by omega)]
  rw [List.getElem?_map]
  unfold Ev.val
  rw [List.getD_eq_getElem?_getD, List.getElem?_eq_getElem (by omega)]
  rfl
theorem MAt.vloose (h : MAt w bv mb va vs hi s) (j : Nat) : w.frozen? ⟨bv, j, none⟩ = false := h.v.frozenAt j
theorem MAt.setV (h : MAt w bv mb va vs hi s) (j : Nat) (x : Int) : MAt (w.setCell ⟨bv, j, none⟩ (.int .i64 x)) bv mb va vs hi { s with v := s.v.set j x } := by
  obtain ⟨h1, h2⟩ := h.v.stored j (.int .i64 x)
  have hbm := h.bm
  have ne : ∀ o, (⟨bv, j, none⟩ : Addr) ≠ ⟨mb, o, none⟩ := fun o e => by injection e with e; omega
  refine ⟨?_, h.arrs.aside (by omega), ?_, ?_, ?_, ?_, h.bm, h.mh, h.hio, h.his, by simpa using h.le⟩
  · simp only [List.length_set, map_set_int]
    exact h1
  · simp only [List.length_set]
    have := h.m0
    go_simp
  · have := h.m1
    go_simp
  · have := h.m2
    go_simp
  · intro o
    have := h.loose o
    go_simp
theorem MAt.setMode (h : MAt w bv mb va vs hi s) (x : Int) : MAt (w.setCell ⟨mb, 2, none⟩ (.int .i64 x)) bv mb va vs hi { s with mode := x } := by
  have hbm := h.bm
  refine ⟨ownsRow_setCell_other h.v (by simp [Value.ownBlock]; omega) _, h.arrs.aside (by omega), ?_, ?_, ?_, ?_, h.bm, h.mh, h.hio, h.his, by simpa using h.le⟩
  · have := h.m0
    go_simp
  · have := h.m1
    go_simp
  · have := h.m2
    go_simp
  · intro o
    have := h.loose o
    go_simp
theorem MAt.setA (h : MAt w bv mb va vs hi s) {k g : Nat} {a : List Int} {ca : Nat} (hk : s.arrs[k]? = some a) (hu : vs[k]? = some (.slice (some ⟨g, 0, none⟩) a.length ca)) (j : Nat) (x : Int) :
    MAt (w.setCell ⟨g, j, none⟩ (.int .i64 x)) bv mb va vs hi { s with arrs := s.arrs.set k (a.set j x) } := by
  have hr := h.arrs.row k _ a hu hk
  obtain ⟨h1, h2⟩ := hr.stored j (.int .i64 x)
  have hgb := (hr.lt g rfl).1
  have hbm := h.bm
  refine ⟨ownsRow_setCell_other h.v (by simp [Value.ownBlock]; omega) _, ⟨ownsRow_setCell_other h.arrs.outer (h.arrs.out k _ g hu rfl) _, by simpa using h.arrs.len, fun k' u b hu' hb => ?_, h.arrs.apart, h.arrs.out⟩, ?_, ?_, ?_, ?_, h.bm, h.mh, h.hio, h.his, by simpa using h.le⟩
  · by_cases hkk : k' = k
    · subst hkk
      rw [hu] at hu'
      injection hu' with hu'
      subst hu'
      have hb' : b = a.set j x := by
        simp only [List.getElem?_set] at hb
        split at hb
        · split at hb
          · exact (Option.some.inj hb).symm
          · cases hb
        · rename_i hne; exact absurd trivial hne
      subst hb'
      rw [List.length_set, map_set_int]
      exact h1
    · have hb' : s.arrs[k']? = some b := by
        simp only [List.getElem?_set] at hb
        rw [if_neg (fun e => hkk e.symm)] at hb
        exact hb
      refine ownsRow_setCell_other (h.arrs.row k' u b hu' hb') ?_ _
      intro e
      exact hkk (h.arrs.apart k' k u _ g hu' hu e rfl)
  · have := h.m0
    go_simp
  · have := h.m1
    go_simp
  · have := h.m2
    go_simp
  · intro o
    have := h.loose o
    go_simp
end
set_option maxHeartbeats 400000 in
theorem low_same (a : Int) (w : World) :
    Calls Try.prog 56 #[.int .i64 a] w fun e w' => e = .returned (.int .i64 ((Ev.low a : Nat) : Int)) ∧ w' = w := by
  have ha := u32_low a
  have la := Ev.low_lt a
  generalize Ev.low a = x at *
  go_enter Try.func56, Try.ntmps56
  go_wp2
  go_ret
  exact ⟨rfl, rfl⟩
set_option maxHeartbeats 400000 in
theorem refSel_same (a b c : Int) (w : World) :
    Calls Try.prog 88 #[.int .i64 a, .int .i64 b, .int .i64 c] w fun e w' => e = .returned (.int .i64 (Ev.sel a b c)) ∧ w' = w := by
  have la := Lib.hid (fun a w => low_same a w)
  have s1 := Lib.hid (@sel_yes a b c)
  have s2 := Lib.hid (@sel_no a b c)
  go_enter Try.func88, Try.ntmps88
  go_wp2_with (refine (la.out _ _).mono ?_; rintro _ _ ⟨rfl, rfl⟩)
  all_goals
    go_ret
    (try simp only [bne_iff_ne, ne_eq, bne_eq_false_iff_eq, beq_iff_eq, beq_eq_false_iff_ne] at *)
    refine ⟨?_, by first | rfl | trivial⟩
    first
    | (have h0 : ¬ (((Ev.low a : Nat) : Int) = 0) := by omega
       rw [s1.out h0]; rfl)
    | (have h0 : (((Ev.low a : Nat) : Int) = 0) := by omega
       rw [s2.out h0]; rfl)
end Go.Proofs.Ytljcgcllhcdleaa
