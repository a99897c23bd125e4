import Derived.Test.YtpbflgemhcaooaaDoorTwo
import Derived.Test.YtpbflgemhcaooaaDoorMapLit
import Derived.Test.YtpbflgemhcaooaaDoorLaws
import Derived.Deep.DeepCutAuto
/- Chapter 1, the reference: what is made of two words. -/
namespace Go.Proofs.YtpbflgemhcaooaaDoor
open Go.RowKit
set_option linter.unusedSimpArgs false
set_option linter.unusedVariables false
theorem tmod_bounds (a : Int) : -4294967296 < a.tmod 4294967296 ∧ a.tmod 4294967296 < 4294967296 := by
  constructor
  · have := Int.lt_tmod_of_pos a (show (0 : Int) < 4294967296 by decide); omega
  · exact Int.tmod_lt_of_pos a (by decide)
theorem tmod_low (a : Int) : (a.tmod 4294967296 + 4294967296) % 4294967296 = ((Ev.low a : Nat) : Int) := by
  unfold Ev.low
  have h : a.tmod 4294967296 % 4294967296 = a % 4294967296 := by
    have := Int.tmod_add_mul_tdiv a 4294967296
    omega
  omega

theorem wraps63 (n : Int) (h₀ : 0 ≤ n) (h₁ : n < 2 ^ 63) : IntKind.i64.wrap n = n := by rw [IntKind.wrap_i64]; omega
theorem i64_and_nat {a b : Nat} (ha : a < 4294967296) (hb : b < 4294967296) : bits .and .i64 (a : Int) (b : Int) = ((a &&& b : Nat) : Int) :=
  (bits_nat .i64 63 (by decide) wraps63 a b (by omega) (by omega)).1
theorem i64_or_nat {a b : Nat} (ha : a < 4294967296) (hb : b < 4294967296) : bits .or .i64 (a : Int) (b : Int) = ((a ||| b : Nat) : Int) :=
  (bits_nat .i64 63 (by decide) wraps63 a b (by omega) (by omega)).2
theorem i64_xor_nat {a b : Nat} (ha : a < 4294967296) (hb : b < 4294967296) : bits .xor .i64 (a : Int) (b : Int) = ((a ^^^ b : Nat) : Int) := by
  have hx := Ev.xor_lt ha hb
  have ha' : a % 2 ^ IntKind.i64.bits = a := Nat.mod_eq_of_lt (Nat.lt_of_lt_of_le ha (by decide))
  have hb' : b % 2 ^ IntKind.i64.bits = b := Nat.mod_eq_of_lt (Nat.lt_of_lt_of_le hb (by decide))
  simp only [bits, BitVec.ofInt_natCast, BitVec.toNat_xor, BitVec.toNat_ofNat, ha', hb']
  generalize a ^^^ b = z at *
  exact wraps63 _ (by omega) (by omega)
theorem pow_sub {y : Nat} (hy : y % 32 < 32) : ∃ p : Nat, wrap64 ((2 : Int) ^ (32 - y % 32)) = (p : Int) ∧ 1 ≤ p ∧ p ≤ 4294967296 ∧ Hid (p = 2 ^ (32 - y % 32)) := by
  have h1 : 1 ≤ 2 ^ (32 - y % 32) := Nat.one_le_two_pow
  have h2 : 2 ^ (32 - y % 32) ≤ 2 ^ 32 := Nat.pow_le_pow_right (by decide) (by omega)
  have e : (2 : Int) ^ (32 - y % 32) = ((2 ^ (32 - y % 32) : Nat) : Int) := by rw [Int.natCast_pow]; rfl
  refine ⟨2 ^ (32 - y % 32), ?_, h1, by simpa using h2, rfl⟩
  rw [e]
  generalize 2 ^ (32 - y % 32) = z at *
  exact IntWalk.wrap64_in _ ⟨by omega, by omega⟩
theorem shl_split {x k : Nat} (hk : k < 32) : x % 2 ^ (32 - k) * 2 ^ k = Ev.wshl x k := by
  unfold Ev.wshl
  have e : (4294967296 : Nat) = 2 ^ (32 - k) * 2 ^ k := by
    rw [← Nat.pow_add]
    have : 32 - k + k = 32 := by omega
    rw [this]
  rw [e, Nat.mul_mod_mul_right]
theorem shl_end {x y p : Nat} (hy : y % 32 < 32) (hp : Hid (p = 2 ^ (32 - y % 32))) : wrap64 ((x : Int) % (p : Int) * 2 ^ (y % 32)) = ((Ev.wshl x (y % 32) : Nat) : Int) := by
  rw [hp.out]
  have e : (x : Int) % ((2 ^ (32 - y % 32) : Nat) : Int) * 2 ^ (y % 32) = ((Ev.wshl x (y % 32) : Nat) : Int) := by
    rw [← shl_split hy, Int.natCast_mul, Int.natCast_emod, Int.natCast_pow (2) (y % 32)]
    rfl
  rw [e]
  have : Ev.wshl x (y % 32) < 4294967296 := Nat.mod_lt _ (by decide)
  generalize Ev.wshl x (y % 32) = z at *
  exact IntWalk.wrap64_in _ ⟨by omega, by omega⟩
theorem wrap_quo {x y : Nat} (h : x < 4294967296) : wrap64 ((x : Int) / (y : Int)) = (x : Int) / (y : Int) := by
  have hle : x / y ≤ x := Nat.div_le_self _ _
  rw [← Int.natCast_ediv]
  generalize x / y = z at *
  exact IntWalk.wrap64_in _ ⟨by omega, by omega⟩
theorem mul_split {x y : Nat} (hx : x < 4294967296) (hy : y < 4294967296) :
    (wrap64 (wrap64 ((x : Int) % 65536 * y) + wrap64 ((wrap64 ((x : Int) / 65536 * ((y : Int) % 65536))).tmod 65536 * 65536))).tmod 4294967296 = (x : Int) * y % 4294967296 := by
  have h1 : x % 65536 * y ≤ 65535 * 4294967295 := Nat.mul_le_mul (by omega) (by omega)
  have h2 : x / 65536 * (y % 65536) ≤ 65535 * 65535 := Nat.mul_le_mul (by omega) (by omega)
  have e1 : (x : Int) % 65536 * y = ((x % 65536 * y : Nat) : Int) := by rw [Int.natCast_mul, Int.natCast_emod]; rfl
  have e2 : (x : Int) / 65536 * ((y : Int) % 65536) = ((x / 65536 * (y % 65536) : Nat) : Int) := by rw [Int.natCast_mul, Int.natCast_emod, Int.natCast_ediv]; rfl
  have e3 : ((x * y : Nat) : Int) = (x : Int) * y := Int.natCast_mul x y
  have e4 : x * y = x % 65536 * y + 65536 * (x / 65536 * (y % 65536)) + 4294967296 * (x / 65536 * (y / 65536)) := by
    have a := Nat.div_add_mod x 65536
    have b := Nat.div_add_mod y 65536
    have c : x / 65536 * y = x / 65536 * (y % 65536) + 65536 * (x / 65536 * (y / 65536)) := by
      conv => lhs; rw [← b]
      rw [Nat.mul_add, Nat.mul_left_comm]; omega
    conv => lhs; rw [← a]
    rw [Nat.add_mul, Nat.mul_assoc, c, Nat.mul_add]
    omega
  rw [e1, e2, ← e3, e4]
  generalize x % 65536 * y = p at *
  generalize x / 65536 * (y % 65536) = q at *
  generalize x / 65536 * (y / 65536) = r at *
  rw [IntWalk.wrap64_in (p : Int) ⟨by omega, by omega⟩, IntWalk.wrap64_in (q : Int) ⟨by omega, by omega⟩]
  have t : (q : Int).tmod 65536 = (q : Int) % 65536 := Int.tmod_eq_emod_of_nonneg (by omega)
  rw [t, IntWalk.wrap64_in ((q : Int) % 65536 * 65536) ⟨by omega, by omega⟩, IntWalk.wrap64_in ((p : Int) + (q : Int) % 65536 * 65536) ⟨by omega, by omega⟩, Int.tmod_eq_emod_of_nonneg (by omega)]
  omega

set_option maxHeartbeats 4000000 in
theorem refTwo_any (op a b : Int) (w : World) :
    Calls Tryd.prog 96 #[.int .i64 op, .int .i64 a, .int .i64 b] w fun e w' => e = .returned (.tuple #[.int .i64 (Ev.two op a b), .int .i64 (Ev.twoErr op)]) ∧ Below w.heap.size w w' := by
  obtain ⟨a1, a2⟩ := tmod_bounds a
  obtain ⟨b1, b2⟩ := tmod_bounds b
  have ha := tmod_low a
  have hb := tmod_low b
  have ha' : a.tmod 4294967296 % 4294967296 = ((Ev.low a : Nat) : Int) := by omega
  have hb' : b.tmod 4294967296 % 4294967296 = ((Ev.low b : Nat) : Int) := by omega
  have la := Ev.low_lt a
  have lb := Ev.low_lt b
  unfold Ev.two
  generalize Ev.low a = x at *
  generalize Ev.low b = y at *
  have hy : y % 32 < 32 := Nat.mod_lt _ (by decide)
  have q1 := i64_and_nat la lb
  have q2 := i64_or_nat la lb
  have q3 := i64_xor_nat la lb
  obtain ⟨p, q5, q6, q7, HP⟩ := pow_sub hy
  have hmm := @run_makeMap Tryd.prog
  rcases op_cases op with rfl | rfl | rfl | rfl | rfl | rfl | rfl | rfl | rfl | rfl | rfl | rfl | h
  rotate_left 12
  · rw [twoN_bad _ _ h, twoErr_bad h]
    clear q1 q2 q3 q5
    go_enter Tryd.func96, Tryd.ntmps96
    go_wp2
    go_quiet (fail)
    go_wp2
    all_goals (go_ret2; exact ⟨rfl, by (repeat' first | with_reducible (first | exact Below.refl _ _ | assumption | refine Below.alloc ?_ ?_ _ | refine below_drewN ?_ _ | refine Below.drew ?_ | refine Below.setCell ?_ ?_ _ | refine Below.trans ?_ (Below.mono (by with_reducible assumption) ?_)) | go_size)⟩)
  rotate_left 10
  iterate 2
    · have m1 : ∀ n, (Instr.mapUpdate 192 (.map (some w.heap.size)) (.bool true) (.int .i64 1)).run Tryd.prog ((w.alloc (.map #[] 0)).drewN n) = .ok () ((w.alloc (.map #[ent1] 1)).drewN n) := fun n => ins_one Tryd.prog 192 4 3 Tryd.underlying192 Tryd.underlying4 (w.drewN n)
      have m2 : ∀ n, (Instr.mapUpdate 192 (.map (some w.heap.size)) (.bool false) (.int .i64 0)).run Tryd.prog ((w.alloc (.map #[ent1] 1)).drewN n) = .ok () ((w.alloc (.map #[ent1, ent2] 2)).drewN n) := fun n => ins_two Tryd.prog 192 4 3 Tryd.underlying192 Tryd.underlying4 (w.drewN n)
      have m3 : ∀ n x, (Instr.lookup 192 (.map (some w.heap.size)) (.bool x) false).run Tryd.prog ((w.alloc (.map #[ent1, ent2] 2)).drewN n) = .ok (.int .i64 (if x then 1 else 0)) ((w.alloc (.map #[ent1, ent2] 2)).drewN n) := fun n x => look_two Tryd.prog 192 4 3 Tryd.underlying192 Tryd.underlying4 (w.drewN n) x
      go_enter Tryd.func96, Tryd.ntmps96
      go_wp2
      go_quiet (fail)
      go_upto_region 31 with fail
      go_step
      iterate 3 go_step
      refine wpList_insert_run rfl _ _ _ _ rfl _ _ _ rfl rfl rfl _ (m1 _) ?_
      simp only [Act.put]
      refine wpList_insert_run rfl _ _ _ _ rfl _ _ _ rfl rfl rfl _ (m2 _) ?_
      simp only [Act.put]
      go_wp2_with (at_lookup; refine wpList_lookup_run rfl _ _ _ _ rfl _ _ _ rfl rfl _ (m3 _ _) ?_)
      all_goals
        go_ret2
        refine ⟨congrArg Ending.returned (congrArg Value.tuple ?_), by (repeat' first | with_reducible (first | exact Below.refl _ _ | assumption | refine Below.alloc ?_ ?_ _ | refine below_drewN ?_ _ | refine Below.drew ?_ | refine Below.setCell ?_ ?_ _ | refine Below.trans ?_ (Below.mono (by with_reducible assumption) ?_)) | go_size)⟩
        (try simp only [beq_iff_eq, beq_eq_false_iff_ne] at *)
        simp [Ev.twoErr, Ev.twoN]
        try (split <;> omega)
  rotate_left 8
  iterate 2
    rcases Nat.eq_zero_or_pos y with rfl | hpos
    · go_enter Tryd.func96, Tryd.ntmps96
      go_wp2
      go_quiet (fail)
      go_wp2
      all_goals (go_ret2; refine ⟨congrArg Ending.returned (congrArg Value.tuple ?_), by (repeat' first | with_reducible (first | exact Below.refl _ _ | assumption | refine Below.alloc ?_ ?_ _ | refine below_drewN ?_ _ | refine Below.drew ?_ | refine Below.setCell ?_ ?_ _ | refine Below.trans ?_ (Below.mono (by with_reducible assumption) ?_)) | go_size)⟩)
      all_goals simp [Ev.twoErr, Ev.twoN]
      all_goals omega
    · have hne : y ≠ 0 := by omega
      go_enter Tryd.func96, Tryd.ntmps96
      go_wp2
      go_quiet (fail)
      go_wp2
      all_goals go_ret2
      all_goals (refine ⟨congrArg Ending.returned (congrArg Value.tuple ?_), by (repeat' first | with_reducible (first | exact Below.refl _ _ | assumption | refine Below.alloc ?_ ?_ _ | refine below_drewN ?_ _ | refine Below.drew ?_ | refine Below.setCell ?_ ?_ _ | refine Below.trans ?_ (Below.mono (by with_reducible assumption) ?_)) | go_size)⟩)
      all_goals simp [Ev.twoErr, Ev.twoN, hne]
      all_goals exact wrap_quo la
  all_goals
    go_enter Tryd.func96, Tryd.ntmps96
    go_wp2
    go_quiet (fail)
    go_wp2
  all_goals (try go_ret2)
  all_goals (try (refine ⟨congrArg Ending.returned (congrArg Value.tuple ?_), by (repeat' first | with_reducible (first | exact Below.refl _ _ | assumption | refine Below.alloc ?_ ?_ _ | refine below_drewN ?_ _ | refine Below.drew ?_ | refine Below.setCell ?_ ?_ _ | refine Below.trans ?_ (Below.mono (by with_reducible assumption) ?_)) | go_size)⟩))
  all_goals (try simp [Ev.twoErr, Ev.twoN])
  all_goals (try (first | omega | (unfold Ev.wadd; omega) | (unfold Ev.wsub; omega) | (exact cast_shr _ _) | (exact shl_end hy HP) | (exact mul_split la lb) | (split <;> omega)))
end Go.Proofs.YtpbflgemhcaooaaDoor
