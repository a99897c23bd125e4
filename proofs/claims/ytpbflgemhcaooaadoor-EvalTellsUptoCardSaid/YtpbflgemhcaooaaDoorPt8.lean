import Derived.WalkKit
import Derived.Deep.Draws
import Derived.Test.YtpbflgemhcaooaaDoorPt1
import Derived.Test.YtpbflgemhcaooaaDoorProg
import Derived.WalkSpells
import Derived.WalkLawsBesides
import Derived.Handy
import Derived.Lib.Hide
import Derived.BigQuiet
import Derived.Deep.QuietTactic
import Derived.Deep.DeepCutAuto
import Derived.OrdersHeld
import Derived.Deep.RegionHeld
/- How values in memory read as plain data. -/
namespace Go.Proofs.YtpbflgemhcaooaaDoor
open Go.RowKit

/-- the slice value v: n elements of 'size' cells each, their cells xs, in a block below B -/
def SL (w : World) (B size : Nat) (v : Value) (n : Nat) (xs : List Value) : Prop :=
  xs.length = n * size ∧ ∃ (A : Option Addr) (c : Nat), v = .slice A n c ∧ n ≤ c ∧ c ≤ maxLen ∧ (A = none → c = 0) ∧
    (0 < n → ∃ b o, A = some ⟨b, o, none⟩ ∧ b < B ∧ ∀ j u, xs[j]? = some u → w.cell? ⟨b, o + j, none⟩ = some u)

section
variable {w w' : World} {B B' size n : Nat} {v : Value} {xs : List Value}
theorem SL.nil_ (w : World) (B size : Nat) : SL w B size (.slice none 0 0) 0 [] :=
  ⟨by simp, none, 0, rfl, Nat.le_refl _, by simp [maxLen], fun _ => rfl, fun h => absurd h (by omega)⟩
theorem SL.below (h : SL w B size v n xs) (hb : Below B w w') : SL w' B size v n xs := by
  obtain ⟨h1, A, c, h2, h3, h4, h5, h6⟩ := h
  refine ⟨h1, A, c, h2, h3, h4, h5, fun hn => ?_⟩
  obtain ⟨b, o, e, hlt, hc⟩ := h6 hn
  exact ⟨b, o, e, hlt, fun j u hu => (hb.cell (p := ⟨b, o + j, none⟩) hlt).trans (hc j u hu)⟩
theorem SL.more (h : SL w B size v n xs) (hB : B ≤ B') : SL w B' size v n xs := by
  obtain ⟨h1, A, c, h2, h3, h4, h5, h6⟩ := h
  refine ⟨h1, A, c, h2, h3, h4, h5, fun hn => ?_⟩
  obtain ⟨b, o, e, hlt, hc⟩ := h6 hn
  exact ⟨b, o, e, by omega, hc⟩
/-- a new block, whole -/
theorem SL.new (w : World) (cs : List Value) (t : TypeId) (k : Nat) (hl : cs.length = n * size) (hm : n ≤ maxLen)
    (hw : w.heap[k]? = some (.cells cs.toArray t)) (hk : k < B) : SL w B size (.slice (some ⟨k, 0, none⟩) n n) n cs := by
  refine ⟨hl, _, _, rfl, Nat.le_refl _, hm, (fun h => by cases h), fun hn => ⟨k, 0, rfl, hk, fun j u hu => ?_⟩⟩
  simp [World.cell?, hw, hu]
end

def RInts (w : World) (B : Nat) (v : Value) (l : List Int) : Prop := SL w B 1 v l.length (l.map (Value.int .i64))
def RBools (w : World) (B : Nat) (v : Value) (l : List Bool) : Prop := SL w B 1 v l.length (l.map Value.bool)
def cellsI (i : Ev.Instr) : List Value := [.int .i64 i.op, .int .i64 i.d, .int .i64 i.a, .int .i64 i.b, .int .i64 i.c, .int .i64 i.imm]
def RCode (w : World) (B : Nat) (v : Value) (l : List Ev.Instr) : Prop := SL w B 6 v l.length (l.flatMap cellsI)
def cellsV (x : Ev.Vr) : List Value := [.string ⟨x.name.toArray⟩, .bool x.secret, .int .i64 x.size]
def RVars (w : World) (B : Nat) (v : Value) (l : List Ev.Vr) : Prop := SL w B 3 v l.length (l.flatMap cellsV)
theorem RInts.lit {W : World} {k n : Nat} {cs : Array Value} {t : TypeId} {l : List Int} (hk : k = W.heap.size) (hn : n = l.length) (hc : cs.toList = l.map (Value.int .i64)) (hm : n ≤ maxLen) :
    RInts (W.alloc (.cells cs t)) (W.alloc (.cells cs t)).heap.size (.slice (some ⟨k, 0, none⟩) n n) l := by
  subst hk hn
  obtain ⟨c⟩ := cs
  simp only at hc
  subst hc
  exact SL.new _ _ t _ (by simp) hm (heap_alloc_new W _) (by simp)
def RBytes (w : World) (B : Nat) (v : Value) (l : List Int) : Prop := SL w B 1 v l.length (l.map (Value.int .u8))
theorem RBytes.lit {W : World} {k n : Nat} {cs : Array Value} {t : TypeId} {l : List Int} (hk : k = W.heap.size) (hn : n = l.length) (hc : cs.toList = l.map (Value.int .u8)) (hm : n ≤ maxLen) :
    RBytes (W.alloc (.cells cs t)) (W.alloc (.cells cs t)).heap.size (.slice (some ⟨k, 0, none⟩) n n) l := by
  subst hk hn
  obtain ⟨c⟩ := cs
  simp only at hc
  subst hc
  exact SL.new _ _ t _ (by simp) hm (heap_alloc_new W _) (by simp)
theorem RBytes.str {P : Program} {w : World} {B : Nat} {v : Value} {l : List Int} (h : RBytes w B v l) (src e : TypeId) (hs : P.underlying src = some (.slice e)) (he : P.underlying e = some (.int .u8)) (dst : TypeId) (hd : P.underlying dst = some .string) :
    (convert src dst v).run P w = .ok (.string (strOfNums l)) w := by
  obtain ⟨hl, A, c, rfl, h1, h2, h3, h4⟩ := h
  by_cases h0 : l.length = 0
  · have : l = [] := List.eq_nil_of_length_eq_zero h0
    subst this
    cases A with
    | none => exact run_convert_bytes_nil w src e hs he _ _ dst hd
    | some a =>
      rw [run_convert_bytes_string w src dst e _ _ c hs he hd]
      have : (loadCells a 0).run P w = .ok #[] w := by
        have := run_loadCells_list (P := P) w a [] (fun j v hj => by simp at hj)
        simpa using this
      show (Conv.bytesToString (.slice (some a) 0 c)).run P w = _
      rw [run_bytesToString w a 0 c [] (by simpa using this)]
      rfl
  · obtain ⟨b, o, rfl, _, hc⟩ := h4 (by omega)
    exact run_convert_bytes_arg w src e hs he b o l.length c l rfl (fun i hi => hc i _ (by simp [List.getD, hi])) dst hd
theorem SL.at_ {w w' : World} {B size n : Nat} {v : Value} {xs : List Value} (h : SL w B size v n xs) (hb : Below w.heap.size w w') (hB : B ≤ w.heap.size) : SL w' w'.heap.size size v n xs := ((h.more hB).below hb).more hb.size
theorem RInts.nil_ {W : World} {B : Nat} {l : List Int} (h : l = []) : RInts W B (.slice none 0 0) l := by subst h; exact SL.nil_ _ _ _
end Go.Proofs.YtpbflgemhcaooaaDoor
/- Small laws on memory that every walk uses. -/
namespace Go.Proofs.YtpbflgemhcaooaaDoor
open Go.RowKit
/-- behind a call: what lay there reads as it did -/
theorem bcell {B : Nat} {W w1 : World} (hb : Below B W w1) : (∀ b o, b < B → w1.cell? ⟨b, o, none⟩ = W.cell? ⟨b, o, none⟩) ∧ (∀ b o, b < B → w1.frozen? ⟨b, o, none⟩ = W.frozen? ⟨b, o, none⟩) :=
  ⟨fun b o h => hb.cell (p := ⟨b, o, none⟩) h, fun b o h => hb.frozen (p := ⟨b, o, none⟩) h⟩
theorem bfacts {B : Nat} {W w1 : World} (hb : Below B W w1) : (∀ b o, b < B → w1.cell? ⟨b, o, none⟩ = W.cell? ⟨b, o, none⟩) ∧ (∀ b o, b < B → w1.frozen? ⟨b, o, none⟩ = W.frozen? ⟨b, o, none⟩) ∧ W.heap.size ≤ w1.heap.size :=
  ⟨fun b o h => hb.cell (p := ⟨b, o, none⟩) h, fun b o h => hb.frozen (p := ⟨b, o, none⟩) h, hb.size⟩
end Go.Proofs.YtpbflgemhcaooaaDoor
/- An operation on a map, taken by what its run is known to be. -/
namespace Go.Proofs.YtpbflgemhcaooaaDoor
open Go.RowKit
section
variable {P : Program} {w : World} {ops : Array Oper} {rest : List Oper} {o : Oper} {a : Act} {Q : Exit → Act → World → Prop}
theorem wpList_insert_run (hg : o.guard = none) (m x v : Operand) (t : TypeId) (hop : o.op = Op.insert t m x v) (mv xv vv : Value) (hm : a.eval m = mv) (hx : a.eval x = xv) (hv : a.eval v = vv) (w' : World)
    (hrun : (Instr.mapUpdate t mv xv vv).run P w = .ok () w') (hK : wpList P ops Q rest (a.put o.dst undef) w') : wpList P ops Q (o :: rest) a w := by
  refine wpList_plain hg fun K' hK' => ?_
  unfold Oper.wp
  simp [execOp, hop, hm, hx, hv, hrun, Result.andThen]
  exact hK' _ _ hK
theorem wpList_update_run (hg : o.guard = none) (m x v : Operand) (t : TypeId) (hop : o.op = Op.mapUpdate t m x v) (mv xv vv : Value) (hm : a.eval m = mv) (hx : a.eval x = xv) (hv : a.eval v = vv) (w' : World)
    (hrun : (Instr.mapUpdate t mv xv vv).run P w = .ok () w') (hK : wpList P ops Q rest (a.put o.dst undef) w') : wpList P ops Q (o :: rest) a w := by
  refine wpList_plain hg fun K' hK' => ?_
  unfold Oper.wp
  simp [execOp, hop, hm, hx, hv, hrun, Result.andThen]
  exact hK' _ _ hK
theorem wpList_lookup_run (hg : o.guard = none) (m x : Operand) (t : TypeId) (ok : Bool) (hop : o.op = Op.lookup t m x ok) (mv xv r : Value) (hm : a.eval m = mv) (hx : a.eval x = xv) (w' : World)
    (hrun : (Instr.lookup t mv xv ok).run P w = .ok r w') (hK : wpList P ops Q rest (a.put o.dst r) w') : wpList P ops Q (o :: rest) a w := by
  refine wpList_plain hg fun K' hK' => ?_
  unfold Oper.wp
  simp [execOp, hop, hm, hx, hrun, Result.andThen]
  exact hK' _ _ hK
end
end Go.Proofs.YtpbflgemhcaooaaDoor
/- Chapter 1: what is made of two words. -/
namespace Go.Proofs.YtpbflgemhcaooaaDoor
open Go.RowKit
set_option linter.unusedSimpArgs false
set_option linter.unusedVariables false
theorem op_cases (op : Int) : op = 1 ∨ op = 2 ∨ op = 3 ∨ op = 4 ∨ op = 5 ∨ op = 6 ∨ op = 7 ∨ op = 8 ∨ op = 9 ∨ op = 10 ∨ op = 11 ∨ op = 12 ∨ (op < 1 ∨ 12 < op) := by omega
theorem u32_low (a : Int) : IntKind.u32.wrap a = ((Ev.low a : Nat) : Int) := by rw [IntKind.wrap_u32]; unfold Ev.low; omega

theorem cast_shl (x k : Nat) : (x : Int) * 2 ^ k % 4294967296 = ((Ev.wshl x k : Nat) : Int) := by
  unfold Ev.wshl
  rw [Int.natCast_emod, Int.natCast_mul, Int.natCast_pow]
  rfl
theorem cast_shr (x k : Nat) : (x : Int) / 2 ^ k = ((x / 2 ^ k : Nat) : Int) := by
  rw [Int.natCast_ediv, Int.natCast_pow]
  rfl
theorem wrap_shr {x k : Nat} (h : x < 4294967296) : wrap64 ((x : Int) / 2 ^ k) = ((Ev.wshr x k : Nat) : Int) := by
  have hle : x / 2 ^ k ≤ x := Nat.div_le_self _ _
  rw [cast_shr]
  unfold Ev.wshr
  generalize x / 2 ^ k = z at *
  exact IntWalk.wrap64_in _ ⟨by omega, by omega⟩
theorem wrap_div {x y : Nat} (h : x < 4294967296) : (x : Int) / (y : Int) % 4294967296 = ((x / y : Nat) : Int) := by
  have hle : x / y ≤ x := Nat.div_le_self _ _
  rw [← Int.natCast_ediv]
  generalize x / y = z at *
  omega
theorem wrap_mod {x y : Nat} (h : x < 4294967296) : wrap64 ((x : Int) % (y : Int)) = ((x % y : Nat) : Int) := by
  have hle : x % y ≤ x := Nat.mod_le _ _
  rw [← Int.natCast_emod]
  generalize x % y = z at *
  exact IntWalk.wrap64_in _ ⟨by omega, by omega⟩
theorem twoN_bad {op : Int} (x y : Nat) (h : op < 1 ∨ 12 < op) : Ev.twoN op x y = 0 := by
  unfold Ev.twoN
  rw [if_neg (show ¬ op = 1 by omega), if_neg (show ¬ op = 2 by omega), if_neg (show ¬ op = 3 by omega), if_neg (show ¬ op = 4 by omega), if_neg (show ¬ op = 5 by omega), if_neg (show ¬ op = 6 by omega), if_neg (show ¬ op = 7 by omega), if_neg (show ¬ op = 8 by omega), if_neg (show ¬ op = 9 by omega), if_neg (show ¬ op = 10 by omega), if_neg (show ¬ op = 11 by omega), if_neg (show ¬ op = 12 by omega)]
theorem twoErr_bad {op : Int} (h : op < 1 ∨ 12 < op) : Ev.twoErr op = 1 := by unfold Ev.twoErr; rw [if_neg (by omega)]

set_option maxHeartbeats 4000000 in
theorem two_any (op a b : Int) (w : World) :
    Calls Tryd.prog 139 #[.int .i64 op, .int .i64 a, .int .i64 b] w fun e w' => e = .returned (.tuple #[.int .i64 (Ev.two op a b), .int .i64 (Ev.twoErr op)]) ∧ Below w.heap.size w w' := by
  have ha := u32_low a
  have hb := u32_low b
  have la := Ev.low_lt a
  have lb := Ev.low_lt b
  unfold Ev.two
  generalize Ev.low a = x at *
  generalize Ev.low b = y at *
  have hy : y % 32 < 32 := Nat.mod_lt _ (by decide)
  have q1 := u32_and_nat x y la lb
  have q2 := u32_or_nat x y la lb
  have q3 := u32_xor_nat x y la lb
  have l1 : x &&& y < 4294967296 := Ev.and_lt la
  have l2 : x ||| y < 4294967296 := Ev.or_lt la lb
  have l3 : x ^^^ y < 4294967296 := Ev.xor_lt la lb
  have q4 : bits BinOp.and IntKind.u32 (y : Int) 31 = ((y % 32 : Nat) : Int) := by
    have := u32_and_nat y 31 lb (by decide)
    have e := Nat.and_two_pow_sub_one_eq_mod y 5
    simp at e
    rw [e] at this
    exact this
  generalize hz1 : x &&& y = z1 at *
  generalize hz2 : x ||| y = z2 at *
  generalize hz3 : x ^^^ y = z3 at *
  have HZ := Lib.hid (And.intro hz1 (And.intro hz2 hz3))
  clear hz1 hz2 hz3
  rcases op_cases op with rfl | rfl | rfl | rfl | rfl | rfl | rfl | rfl | rfl | rfl | rfl | rfl | h
  rotate_left 12
  · rw [twoN_bad _ _ h, twoErr_bad h]
    clear HZ q1 q2 q3 q4
    go_enter Tryd.func139, Tryd.ntmps139
    go_wp2
    all_goals (go_ret2; exact ⟨rfl, by (repeat' first | with_reducible (first | exact Below.refl _ _ | assumption | refine Below.alloc ?_ ?_ _ | refine below_drewN ?_ _ | refine Below.drew ?_ | refine Below.setCell ?_ ?_ _ | refine Below.trans ?_ (Below.mono (by with_reducible assumption) ?_)) | go_size)⟩)
  all_goals
    go_enter Tryd.func139, Tryd.ntmps139
    go_wp2
  all_goals (try go_ret2)
  all_goals (try (refine ⟨congrArg Ending.returned (congrArg Value.tuple ?_), by (repeat' first | with_reducible (first | exact Below.refl _ _ | assumption | refine Below.alloc ?_ ?_ _ | refine below_drewN ?_ _ | refine Below.drew ?_ | refine Below.setCell ?_ ?_ _ | refine Below.trans ?_ (Below.mono (by with_reducible assumption) ?_)) | go_size)⟩))
  all_goals (try simp [Ev.twoErr, Ev.twoN])
  all_goals (try (obtain ⟨rfl, rfl, rfl⟩ := HZ.out))
  all_goals (try (first | omega | (unfold Ev.wadd; omega) | (unfold Ev.wsub; omega) | (split <;> omega)))
  all_goals
    first
    | exact cast_shl _ _
    | exact wrap_shr la
    | (have h0 : 0 < y := by assumption
       rw [if_neg (by omega)]
       exact wrap_div la)
    | (have h0 : 0 < y := by assumption
       rw [if_neg (by omega)]
       exact wrap_mod la)
    | (have h0 : ((x : Int) == (y : Int)) = true := by assumption
       rw [beq_iff_eq] at h0
       rw [if_pos (by omega)]; rfl)
    | (have h0 : ((x : Int) == (y : Int)) = false := by assumption
       rw [beq_eq_false_iff_ne] at h0
       rw [if_neg (by omega)]; rfl)
end Go.Proofs.YtpbflgemhcaooaaDoor
/- Chapter 1: Is, Sel, and the reference's. -/
namespace Go.Proofs.YtpbflgemhcaooaaDoor
open Go.RowKit
set_option linter.unusedSimpArgs false
set_option linter.unusedVariables false

set_option maxHeartbeats 400000 in
theorem isWord_any (n : Int) (w : World) :
    Calls Tryd.prog 80 #[.int .i64 n] w fun e w' => e = .returned (.bool (Ev.isWord n)) ∧ Below w.heap.size w w' := by
  go_enter Tryd.func80, Tryd.ntmps80
  go_wp2
  all_goals (go_ret; refine ⟨?_, by (repeat' first | with_reducible (first | exact Below.refl _ _ | assumption | refine Below.alloc ?_ ?_ _ | refine below_drewN ?_ _ | refine Below.drew ?_ | refine Below.setCell ?_ ?_ _ | refine Below.trans ?_ (Below.mono (by with_reducible assumption) ?_)) | go_size)⟩; simp [Ev.isWord]; try omega)

theorem sel_yes {a : Int} (b c : Int) (h : ((Ev.low a : Nat) : Int) ≠ 0) : Ev.sel a b c = ((Ev.low b : Nat) : Int) := by unfold Ev.sel; rw [if_neg (by omega)]
theorem sel_no {a : Int} (b c : Int) (h : ((Ev.low a : Nat) : Int) = 0) : Ev.sel a b c = ((Ev.low c : Nat) : Int) := by unfold Ev.sel; rw [if_pos (by omega)]
set_option maxHeartbeats 400000 in
theorem sel_any (a b c : Int) (w : World) :
    Calls Tryd.prog 140 #[.int .i64 a, .int .i64 b, .int .i64 c] w fun e w' => e = .returned (.int .i64 (Ev.sel a b c)) ∧ Below w.heap.size w w' := by
  have ha := u32_low a
  have hb := u32_low b
  have hc := u32_low c
  have lb := Ev.low_lt b
  have lc := Ev.low_lt c
  have s1 := Lib.hid (@sel_yes a b c)
  have s2 := Lib.hid (@sel_no a b c)
  generalize Ev.low a = x at *
  generalize Ev.low b = y at *
  generalize Ev.low c = z at *
  generalize Ev.sel a b c = r at *
  go_enter Tryd.func140, Tryd.ntmps140
  go_wp2
  all_goals
    go_ret
    (try simp only [bne_iff_ne, ne_eq, bne_eq_false_iff_eq, beq_iff_eq, beq_eq_false_iff_ne] at *)
    refine ⟨?_, by (repeat' first | with_reducible (first | exact Below.refl _ _ | assumption | refine Below.alloc ?_ ?_ _ | refine below_drewN ?_ _ | refine Below.drew ?_ | refine Below.setCell ?_ ?_ _ | refine Below.trans ?_ (Below.mono (by with_reducible assumption) ?_)) | go_size)⟩
    first
    | (have h0 : ¬ ((x : Int) = 0) := by omega
       rw [s1.out h0]; rfl)
    | (have h0 : ((x : Int) = 0) := by omega
       rw [s2.out h0]; rfl)

set_option maxHeartbeats 400000 in
theorem low_any (a : Int) (w : World) :
    Calls Tryd.prog 68 #[.int .i64 a] w fun e w' => e = .returned (.int .i64 ((Ev.low a : Nat) : Int)) ∧ Below w.heap.size w w' := by
  have ha := u32_low a
  have la := Ev.low_lt a
  generalize Ev.low a = x at *
  go_enter Tryd.func68, Tryd.ntmps68
  go_wp2
  go_ret
  exact ⟨rfl, by (repeat' first | with_reducible (first | exact Below.refl _ _ | assumption | refine Below.alloc ?_ ?_ _ | refine below_drewN ?_ _ | refine Below.drew ?_ | refine Below.setCell ?_ ?_ _ | refine Below.trans ?_ (Below.mono (by with_reducible assumption) ?_)) | go_size)⟩

set_option maxHeartbeats 400000 in
theorem refSel_any (a b c : Int) (w : World) :
    Calls Tryd.prog 97 #[.int .i64 a, .int .i64 b, .int .i64 c] w fun e w' => e = .returned (.int .i64 (Ev.sel a b c)) ∧ Below w.heap.size w w' := by
  have y1 := Lib.hid (@sel_yes a b c)
  have y2 := Lib.hid (@sel_no a b c)
  generalize hr : Ev.sel a b c = r at *
  clear hr
  by_cases h : ((Ev.low a : Nat) : Int) = 0
  · have h1 : (((Ev.low a : Nat) : Int) == 0) = true := by simpa using h
    go_enter Tryd.func97, Tryd.ntmps97
    go_wp2_with fail
    refine (low_any a _).mono ?_
    rintro e w1 ⟨rfl, hb1⟩
    obtain ⟨kc1, kf1, s1⟩ := bfacts hb1
    (try simp only [World.size_alloc, World.size_setCell, World.size_drew, World.heap_drewN, Nat.add_one_le_iff] at s1)
    (try have z1 : w.heap.size < w1.heap.size := by omega)
    have B1 : Hid (Below w.heap.size w w1) := by (show Below _ _ _); (repeat' first | with_reducible (first | exact Below.refl _ _ | assumption | refine Below.alloc ?_ ?_ _ | refine below_drewN ?_ _ | refine Below.drew ?_ | refine Below.setCell ?_ ?_ _ | refine Below.trans ?_ (Below.mono (by with_reducible assumption) ?_)) | go_size)
    obtain ⟨kd1, kg1, _⟩ := bfacts B1.out
    go_wp2_with fail
    refine (low_any c _).mono ?_
    rintro e w2 ⟨rfl, hb2⟩
    obtain ⟨kc2, kf2, s2⟩ := bfacts hb2
    (try simp only [World.size_alloc, World.size_setCell, World.size_drew, World.heap_drewN, Nat.add_one_le_iff] at s2)
    (try have z2 : w.heap.size < w2.heap.size := by omega)
    have B2 : Hid (Below w.heap.size w w2) := by (show Below _ _ _); (repeat' first | with_reducible (first | exact Below.refl _ _ | assumption | refine Below.alloc ?_ ?_ _ | refine below_drewN ?_ _ | refine Below.drew ?_ | refine Below.setCell ?_ ?_ _ | refine Below.trans ?_ (Below.mono (by with_reducible assumption) ?_)) | go_size)
    obtain ⟨kd2, kg2, _⟩ := bfacts B2.out
    go_wp2_with fail
    go_ret
    exact ⟨by rw [y2.out h]; rfl, by (repeat' first | with_reducible (first | exact Below.refl _ _ | assumption | refine Below.alloc ?_ ?_ _ | refine below_drewN ?_ _ | refine Below.drew ?_ | refine Below.setCell ?_ ?_ _ | refine Below.trans ?_ (Below.mono (by with_reducible assumption) ?_)) | go_size)⟩
  · have h1 : (((Ev.low a : Nat) : Int) == 0) = false := by simpa using h
    go_enter Tryd.func97, Tryd.ntmps97
    go_wp2_with fail
    refine (low_any a _).mono ?_
    rintro e w1 ⟨rfl, hb1⟩
    obtain ⟨kc1, kf1, s1⟩ := bfacts hb1
    (try simp only [World.size_alloc, World.size_setCell, World.size_drew, World.heap_drewN, Nat.add_one_le_iff] at s1)
    (try have z1 : w.heap.size < w1.heap.size := by omega)
    have B1 : Hid (Below w.heap.size w w1) := by (show Below _ _ _); (repeat' first | with_reducible (first | exact Below.refl _ _ | assumption | refine Below.alloc ?_ ?_ _ | refine below_drewN ?_ _ | refine Below.drew ?_ | refine Below.setCell ?_ ?_ _ | refine Below.trans ?_ (Below.mono (by with_reducible assumption) ?_)) | go_size)
    obtain ⟨kd1, kg1, _⟩ := bfacts B1.out
    go_wp2_with fail
    refine (low_any b _).mono ?_
    rintro e w2 ⟨rfl, hb2⟩
    obtain ⟨kc2, kf2, s2⟩ := bfacts hb2
    (try simp only [World.size_alloc, World.size_setCell, World.size_drew, World.heap_drewN, Nat.add_one_le_iff] at s2)
    (try have z2 : w.heap.size < w2.heap.size := by omega)
    have B2 : Hid (Below w.heap.size w w2) := by (show Below _ _ _); (repeat' first | with_reducible (first | exact Below.refl _ _ | assumption | refine Below.alloc ?_ ?_ _ | refine below_drewN ?_ _ | refine Below.drew ?_ | refine Below.setCell ?_ ?_ _ | refine Below.trans ?_ (Below.mono (by with_reducible assumption) ?_)) | go_size)
    obtain ⟨kd2, kg2, _⟩ := bfacts B2.out
    go_wp2_with fail
    go_ret
    exact ⟨by rw [y1.out h]; rfl, by (repeat' first | with_reducible (first | exact Below.refl _ _ | assumption | refine Below.alloc ?_ ?_ _ | refine below_drewN ?_ _ | refine Below.drew ?_ | refine Below.setCell ?_ ?_ _ | refine Below.trans ?_ (Below.mono (by with_reducible assumption) ?_)) | go_size)⟩
end Go.Proofs.YtpbflgemhcaooaaDoor
/- A drawn region whose operations leave the same values in whatever order: it is walked once, in the order of its text. -/
namespace Go.Proofs.YtpbflgemhcaooaaDoor
open Go.RowKit

/-- every operation waits for those whose slots it looks at; no slot is written twice; the text's order is one of those that may be -/
def orderly (ops : Array Oper) : Bool :=
  Region.noSelect ops && (List.range ops.size).all fun j => match ops[j]? with
    | none => true
    | some oj => oj.after.all (fun e => !Region.binds .any e || decide (e.on < j)) && (List.range ops.size).all fun i => match ops[i]? with
      | none => true
      | some oi => match oi.dst with
        | none => true
        | some d => (i == j || oj.dst != some d) && (!(oj.looksAt ops).contains d || oj.after.any (fun e => e.on == i && Region.binds .any e))

theorem orderly_spec {ops : Array Oper} (h : orderly ops = true) {j : Nat} {oj : Oper} (hj : ops[j]? = some oj) :
    (∀ e ∈ oj.after, Region.binds .any e = true → e.on < j) ∧ ∀ i oi d, ops[i]? = some oi → oi.dst = some d → (i ≠ j → oj.dst ≠ some d) ∧ (d ∈ oj.looksAt ops → ∃ e ∈ oj.after, e.on = i ∧ Region.binds .any e = true) := by
  unfold orderly at h
  rw [Bool.and_eq_true, List.all_eq_true] at h
  have h1 := h.2 j (by rw [List.mem_range]; exact (Array.getElem?_eq_some_iff.1 hj).1)
  simp only [hj, Bool.and_eq_true, Array.all_eq_true_iff_forall_mem, List.all_eq_true, Bool.or_eq_true, Bool.not_eq_true', decide_eq_true_eq] at h1
  refine ⟨fun e he hb => (h1.1 e he).resolve_left (by simp [hb]), fun i oi d hi hd => ?_⟩
  have h2 := h1.2 i (by rw [List.mem_range]; exact (Array.getElem?_eq_some_iff.1 hi).1)
  simp only [hi, hd, Bool.and_eq_true, Bool.or_eq_true, beq_iff_eq, bne_iff_ne, ne_eq, Bool.not_eq_true'] at h2
  refine ⟨fun hne => h2.1.resolve_left hne, fun hm => ?_⟩
  rcases h2.2 with h3 | h3
  · rw [List.contains_eq_mem] at h3
    exact absurd hm (by simpa using h3)
  · obtain ⟨e, he, hb⟩ := Array.any_eq_true'.1 h3
    exact ⟨e, he, by simpa using hb⟩

/-- what an operation does hangs on the slots that it looks at -/
theorem look_congr {ops : Array Oper} (o : Oper) (hs : ∀ cs b, o.op ≠ .select cs b) (a b : Act) (h : ∀ t ∈ o.looksAt ops, a.tmps[t]? = b.tmps[t]?) :
    execOp a.eval o = execOp b.eval o ∧ Region.wanted o (yielded ops a.tmps) = Region.wanted o (yielded ops b.tmps) := by
  constructor
  · refine execOp_congr o hs fun x hx => ?_
    cases x with
    | tmp t =>
      have := h t (by
        unfold Oper.looksAt
        rw [List.mem_append, List.mem_filterMap]
        exact .inl ⟨.tmp t, by simpa using hx, rfl⟩)
      simp [Act.eval, Array.getD_eq_getD_getElem?, this]
    | _ => rfl
  · unfold Region.wanted
    cases hg : o.guard with
    | none => rfl
    | some gw =>
      obtain ⟨g, want⟩ := gw
      have hy : yielded ops a.tmps g = yielded ops b.tmps g := by
        unfold yielded
        cases ht : (ops[g]?).bind (·.dst) with
        | none => rfl
        | some t =>
          have := h t (by simp [Oper.looksAt, hg, ht])
          simp [this]
      simp only [hy]

section
variable {P : Program} {ops : Array Oper} {S : World → Prop}

/-- the way out: a1, and a right world -/
def settled (S : World → Prop) (a1 : Act) : Exit → Act → World → Prop := fun e a' w' => e = .normal ∧ a' = a1 ∧ S w'
theorem settled_intro {a1 : Act} {w : World} (h : S w) : settled S a1 .normal a1 w := ⟨rfl, rfl, h⟩

/-- one operation, from every world that is right, leaves what is to be left, and a right world -/
def does1 (P : Program) (ops : Array Oper) (S : World → Prop) (o : Oper) (a a1 : Act) : Prop :=
  ∀ w, S w → wpList P ops (settled S a1) [o] a w

/-- the acts of the text's order -/
inductive chain (P : Program) (ops : Array Oper) (S : World → Prop) (K : Act → Prop) : List Oper → Act → Prop
  | nil {a : Act} : K a → chain P ops S K [] a
  | cons {o : Oper} {rest : List Oper} {a : Act} (v : Value) : does1 P ops S o a (a.put o.dst v) → chain P ops S K rest (a.put o.dst v) → chain P ops S K (o :: rest) a

theorem chain_cons {K : Act → Prop} {o : Oper} {rest : List Oper} {a a1 : Act} (h : does1 P ops S o a a1) (hp : a1 = a.put o.dst (a1.eval (.tmp (o.dst.getD 0)))) (hr : chain P ops S K rest a1) : chain P ops S K (o :: rest) a := by
  refine .cons (a1.eval (.tmp (o.dst.getD 0))) ?_ ?_
  · rw [← hp]; exact h
  · rw [← hp]; exact hr

/-- the acts: after k operations -/
def actAt (l : List Oper) (F : Nat → Value) (a : Act) : Nat → Act
  | 0 => a
  | k + 1 => match l[k]? with
    | none => actAt l F a k
    | some o => (actAt l F a k).put o.dst (F k)

theorem actAt_cons (o : Oper) (l : List Oper) (F : Nat → Value) (a : Act) : ∀ k, actAt (o :: l) F a (k + 1) = actAt l (fun i => F (i + 1)) (a.put o.dst (F 0)) k
  | 0 => by simp [actAt]
  | k + 1 => by
    have ih := actAt_cons o l F a k
    show (match (o :: l)[k + 1]? with | none => actAt (o :: l) F a (k + 1) | some o' => (actAt (o :: l) F a (k + 1)).put o'.dst (F (k + 1))) = _
    rw [ih]
    simp [actAt]

theorem chain_acts {K : Act → Prop} : ∀ (l : List Oper) (a : Act), chain P ops S K l a → ∃ F : Nat → Value, K (actAt l F a l.length) ∧ ∀ k o, l[k]? = some o → does1 P ops S o (actAt l F a k) (actAt l F a (k + 1))
  | [], a, .nil h => ⟨fun _ => undef, h, fun k o hk => by simp at hk⟩
  | o :: l, a, .cons v h1 h2 => by
    obtain ⟨F, hK, hF⟩ := chain_acts l (a.put o.dst v) h2
    refine ⟨fun i => match i with | 0 => v | i + 1 => F i, ?_, fun k o' hk => ?_⟩
    · rw [List.length_cons, actAt_cons]
      exact hK
    · cases k with
      | zero =>
        simp at hk
        subst hk
        simpa [actAt] using h1
      | succ k =>
        have := hF k o' (by simpa using hk)
        rw [actAt_cons, actAt_cons]
        exact this

theorem put_size (a : Act) (x : Option Tmp) (v : Value) : (a.put x v).tmps.size = a.tmps.size := by cases x <;> simp [Act.put]
theorem put_defers' (a : Act) (x : Option Tmp) (v : Value) : (a.put x v).defers = a.defers := by cases x <;> rfl
theorem put_other (a : Act) (x : Option Tmp) (v : Value) (t : Tmp) (h : x ≠ some t) : (a.put x v).tmps[t]? = a.tmps[t]? := by
  cases x with
  | none => rfl
  | some d => exact Array.getElem?_setIfInBounds_ne (fun e => h (by rw [e]))
theorem put_same {a b : Act} {x : Option Tmp} {v u : Value} (h : a.put x u = a.put x v) (hs : a.tmps.size = b.tmps.size) : b.put x u = b.put x v := by
  cases x with
  | none => rfl
  | some d =>
    rcases Nat.lt_or_ge d a.tmps.size with hd | hd
    · have h1 := congrArg (fun z : Act => z.tmps[d]?) h
      simp only [Act.put, Array.getElem?_setIfInBounds_self_of_lt hd, Option.some.injEq] at h1
      rw [h1]
    · have hb : b.tmps.size ≤ d := by omega
      simp [Act.put, Array.setIfInBounds_eq_of_size_le hb]
theorem put_at {a b : Act} {d : Tmp} {v : Value} (hs : a.tmps.size = b.tmps.size) : (a.put (some d) v).tmps[d]? = (b.put (some d) v).tmps[d]? := by
  simp [Act.put, hs, Array.getElem?_setIfInBounds]

theorem actAt_size (l : List Oper) (F : Nat → Value) (a : Act) : ∀ k, (actAt l F a k).tmps.size = a.tmps.size
  | 0 => rfl
  | k + 1 => by
    unfold actAt
    cases l[k]? <;> simp [put_size, actAt_size l F a k]
theorem actAt_defers (l : List Oper) (F : Nat → Value) (a : Act) : ∀ k, (actAt l F a k).defers = a.defers
  | 0 => rfl
  | k + 1 => by
    unfold actAt
    cases l[k]? <;> simp [put_defers', actAt_defers l F a k]
/-- a slot that nobody writes between -/
theorem actAt_still (l : List Oper) (F : Nat → Value) (a : Act) (t : Tmp) (k : Nat) : ∀ n, (∀ i o, k ≤ i → i < k + n → l[i]? = some o → o.dst ≠ some t) → (actAt l F a (k + n)).tmps[t]? = (actAt l F a k).tmps[t]?
  | 0, _ => rfl
  | n + 1, h => by
    rw [← Nat.add_assoc]
    have ih := actAt_still l F a t k n (fun i o h1 h2 h3 => h i o h1 (by omega) h3)
    show (match l[k + n]? with | none => actAt l F a (k + n) | some o => (actAt l F a (k + n)).put o.dst (F (k + n))).tmps[t]? = _
    cases ho : l[k + n]? with
    | none => exact ih
    | some o => rw [← ih]; exact put_other _ _ _ _ (h (k + n) o (by omega) (by omega) ho)

/-- where the walk stands: what is listed has its value; the rest is as it was -/
structure Stands (l : List Oper) (F : Nat → Value) (a0 : Act) (listed : Array Bool) (a : Act) : Prop where
  defers : a.defers = a0.defers
  size : a.tmps.size = a0.tmps.size
  yes : ∀ i o t, l[i]? = some o → o.dst = some t → listed.getD i true = true → a.tmps[t]? = (actAt l F a0 l.length).tmps[t]?
  no : ∀ t, (∀ i o, l[i]? = some o → o.dst = some t → listed.getD i true = false) → a.tmps[t]? = a0.tmps[t]?

theorem exists_least {p : Nat → Bool} : ∀ n, p n = true → ∃ m, m ≤ n ∧ p m = true ∧ ∀ k, k < m → p k = false
  | n, h => by
    induction n using Nat.strongRecOn with
    | ind n ih =>
      by_cases hx : ∃ k, k < n ∧ p k = true
      · obtain ⟨k, hk, hp⟩ := hx
        obtain ⟨m, hm, h1, h2⟩ := ih k hk hp
        exact ⟨m, by omega, h1, h2⟩
      · exact ⟨n, Nat.le_refl _, h, fun k hk => by
          cases hp : p k with
          | false => rfl
          | true => exact absurd ⟨k, hk, hp⟩ hx⟩

theorem ready_none {listed : Array Bool} (ho : orderly ops = true) (h : Region.ready .any ops listed = []) (hs : listed.size = ops.size) : ∀ i, i < ops.size → listed.getD i true = true := by
  intro i hi
  cases hx : listed.getD i true with
  | true => rfl
  | false =>
    exfalso
    obtain ⟨m, hm, h1, h2⟩ := exists_least (p := fun k => !listed.getD k true) i (by simp only [hx]; rfl)
    have hml : m < ops.size := by omega
    have hrd : m ∈ Region.ready .any ops listed := by
      rw [mem_ready]
      refine ⟨by simpa using h1, ops[m], by simp [hml], fun e he hb => ?_⟩
      have hlt := (orderly_spec ho (j := m) (oj := ops[m]) (by simp [hml])).1 e he hb
      have h3 := h2 e.on hlt
      have hel : e.on < listed.size := by omega
      simp [hel] at h3 ⊢
      exact h3
    rw [h] at hrd
    cases hrd

variable {Q : Exit → Act → World → Prop}
theorem does1_wpOp {j : Nat} {o : Oper} {A A1 a : Act} {K : Act → World → Prop} {v : Value} (hj : ops[j]? = some o) (hs : ∀ cs b, o.op ≠ .select cs b)
    (h : does1 P ops S o A A1) (hA : A1 = A.put o.dst v) (hlook : ∀ t ∈ o.looksAt ops, A.tmps[t]? = a.tmps[t]?) (hsz : A.tmps.size = a.tmps.size) {w : World} (hS : S w)
    (hK : ∀ w', S w' → K (a.put o.dst v) w') : wpOp P ops Q j K a w := by
  obtain ⟨he, hw⟩ := look_congr o hs A a hlook
  have h1 := h w hS
  unfold wpOp
  simp only [hj]
  unfold wpList at h1
  rw [hw] at h1
  split
  · rename_i hwt
    rw [if_pos hwt] at h1
    refine .inl ?_
    rcases h1 with h1 | ⟨_, a', w', h1, _⟩
    case inr => cases h1
    unfold Oper.wp at *
    rw [he] at h1
    have fin : ∀ u w', wpList P ops (settled S A1) [] (A.put o.dst u) w' → K (a.put o.dst u) w' := fun u w' h2 => by
      obtain ⟨_, h3, h4⟩ := h2
      rw [hA] at h3
      rw [put_same h3 hsz]
      exact hK w' h4
    generalize (execOp a.eval o).run P w = r at *
    cases r with
    | ok n w' =>
      cases n <;> simp only [Oper.upon] at h1 ⊢
      case value u => exact fin u w' h1
      case skip => exact fin undef w' h1
      case defer d =>
        obtain ⟨_, h3, _⟩ := h1
        rw [hA] at h3
        have := congrArg Act.defers h3
        rw [put_defers', put_defers'] at this
        exact absurd (congrArg List.length this) (by simp)
      case enter f args =>
        refine Calls.mono h1 fun e w'' he => ?_
        cases e with
        | returned u => exact fin u w'' he
        | panicked c => exact absurd he.1 (by simp)
        | outgrown => obtain ⟨a', w', h2, _⟩ := he; cases h2
      case row row args => exact Rows.mono h1 fun u w'' he => fin u w'' he
    | halt x w' =>
      cases x <;> simp only [Oper.upon] at h1 ⊢
      case panic u => exact absurd h1.1 (by simp)
  · rename_i hwt
    rw [if_neg hwt] at h1
    obtain ⟨_, h3, h4⟩ := h1
    rw [hA] at h3
    rw [put_same h3 hsz]
    exact hK w h4

theorem wpAny_chain {l : List Oper} {F : Nat → Value} {a0 : Act} (ho : orderly l.toArray = true)
    (hF : ∀ k o, l[k]? = some o → does1 P l.toArray S o (actAt l F a0 k) (actAt l F a0 (k + 1)))
    (hK : ∀ w, S w → Q .normal (actAt l F a0 l.length) w) :
    ∀ (fuel : Nat) (listed : Array Bool) (a : Act) (w : World), listed.size = l.length → (listed.toList.countP (· == false)) = fuel → Stands l F a0 listed a → S w → wpAny P .any l.toArray Q fuel listed a w := by
  have hsel := Region.noSelect_spec (ops := l.toArray) (by unfold orderly at ho; exact (Bool.and_eq_true _ _ ▸ ho).1)
  have wr : ∀ (i j : Nat) (o o' : Oper) (t : Tmp), l[i]? = some o → l[j]? = some o' → o.dst = some t → o'.dst = some t → i = j := fun i j o o' t hi hj h1 h2 => by
    rcases Nat.lt_trichotomy i j with h | h | h
    · exact absurd h2 (((orderly_spec ho (j := j) (oj := o') (by simpa using hj)).2 i o t (by simpa using hi) h1).1 (by omega))
    · exact h
    · exact absurd h2 (((orderly_spec ho (j := j) (oj := o') (by simpa using hj)).2 i o t (by simpa using hi) h1).1 (by omega))
  have done : ∀ (listed : Array Bool) (a : Act) (w : World), listed.size = l.length → (∀ i, i < l.length → listed.getD i true = true) → Stands l F a0 listed a → S w → Q .normal a w := fun listed a w hsz hall hst hS => by
    have : a = actAt l F a0 l.length := by
      have e1 : a.tmps = (actAt l F a0 l.length).tmps := by
        have pt : ∀ t : Nat, a.tmps[t]? = (actAt l F a0 l.length).tmps[t]? := fun t => by
          by_cases hx : ∃ (i : Nat) (o : Oper), l[i]? = some o ∧ o.dst = some t
          · obtain ⟨i, o, hi, hd⟩ := hx
            exact hst.yes i o t hi hd (hall i (List.getElem?_eq_some_iff.1 hi).1)
          · have h1 := hst.no t (fun i o hi hd => absurd ⟨i, o, hi, hd⟩ hx)
            have h2 := actAt_still l F a0 t 0 l.length (fun i o _ _ hi hd => hx ⟨i, o, hi, hd⟩)
            rw [Nat.zero_add] at h2
            rw [h1, h2]
            rfl
        apply Array.ext_getElem?
        intro t
        exact pt t
      have e2 : a.defers = (actAt l F a0 l.length).defers := by rw [hst.defers, actAt_defers]
      cases a
      simp only at e1 e2
      rw [e1, e2]
    rw [this]
    exact hK w hS
  intro fuel
  induction fuel with
  | zero =>
    intro listed a w hsz hc hst hS
    have hall : ∀ i, i < l.length → listed.getD i true = true := fun i hi => by
      rw [List.countP_eq_zero] at hc
      have hil : i < listed.size := by omega
      have := hc listed[i] (by simp)
      simp [hil] at this ⊢
      exact this
    refine ⟨?_, done listed a w hsz hall hst hS⟩
    cases hr : Region.ready .any l.toArray listed with
    | nil => rfl
    | cons x xs =>
      have hm : x ∈ Region.ready .any l.toArray listed := by rw [hr]; exact List.mem_cons_self
      obtain ⟨h1, o, h2, _⟩ := mem_ready.1 hm
      rw [hall x (by have := (Array.getElem?_eq_some_iff.1 h2).1; simpa using this)] at h1
      cases h1
  | succ fuel ih =>
    intro listed a w hsz hc hst hS
    refine ⟨fun hr => done listed a w hsz (fun i hi => ready_none ho hr (by simpa using hsz) i (by simpa using hi)) hst hS, fun j hj => ?_⟩
    obtain ⟨hjun, oj, hoj, hdeps⟩ := mem_ready.1 hj
    have hlj : l[j]? = some oj := by simpa using hoj
    have hjl : j < l.length := (List.getElem?_eq_some_iff.1 hlj).1
    have hA : actAt l F a0 (j + 1) = (actAt l F a0 j).put oj.dst (F j) := by
      show (match l[j]? with | none => _ | some o => _) = _
      rw [hlj]
    obtain ⟨hlt, hsp⟩ := orderly_spec ho hoj
    have still : ∀ (i : Nat) (o : Oper) (t : Tmp), l[i]? = some o → o.dst = some t → ∀ k, i < k → k ≤ l.length → (actAt l F a0 l.length).tmps[t]? = (actAt l F a0 k).tmps[t]? := fun i o t hi hd k hk hkl => by
      have := actAt_still l F a0 t k (l.length - k) (fun i' o' h1 _ h3 h4 => by have := wr i i' o o' t hi h3 hd h4; omega)
      rw [← this, show k + (l.length - k) = l.length from by omega]
    refine does1_wpOp hoj (fun cs b => hsel j oj cs b hoj) (hF j oj hlj) hA (fun t ht => ?_) (by rw [actAt_size, hst.size]) hS (fun w' hS' => ?_)
    · by_cases hx : ∃ (i : Nat) (o : Oper), l[i]? = some o ∧ o.dst = some t
      · obtain ⟨i, o, hi, hd⟩ := hx
        obtain ⟨e, he, heq, hb⟩ := (hsp i o t (by simpa using hi) hd).2 ht
        have hl := hdeps e he hb
        rw [heq] at hl
        have hij : i < j := by have := hlt e he hb; omega
        have hil : i < listed.size := by omega
        rw [hst.yes i o t hi hd (by simp [hil] at hl ⊢; exact hl)]
        exact (still i o t hi hd j hij (by omega)).symm
      · rw [hst.no t (fun i o hi hd => absurd ⟨i, o, hi, hd⟩ hx)]
        have h2 := actAt_still l F a0 t 0 j (fun i o _ _ hi hd => hx ⟨i, o, hi, hd⟩)
        rw [Nat.zero_add] at h2
        exact h2
    · have hjl' : j < listed.size := by omega
      have hjf : listed[j] = false := by simpa [hjl'] using hjun
      refine ih (listed.setIfInBounds j true) _ w' (by simpa using hsz) ?_ ⟨by rw [put_defers', hst.defers], by rw [put_size, hst.size], fun i o t hi hd hl => ?_, fun t hno => ?_⟩ hS'
      · rw [Array.setIfInBounds, dif_pos hjl', Array.toList_set, List.countP_set (by simpa using hjl')]
        rw [hc]
        simp [hjf]
      · by_cases hij : i = j
        · subst hij
          rw [hlj] at hi
          injection hi with hi
          subst hi
          rw [still i oj t hlj hd (i + 1) (by omega) (by omega), hA, hd]
          exact put_at (by rw [actAt_size, hst.size])
        · have hne : oj.dst ≠ some t := fun hd' => hij (wr i j o oj t hi hlj hd hd')
          rw [put_other _ _ _ _ hne]
          exact hst.yes i o t hi hd (by rw [getD_set_ne true (Ne.symm hij)] at hl; exact hl)
      · have hne : oj.dst ≠ some t := fun hd' => by
          have := hno j oj hlj hd'
          simp [hjl'] at this
        rw [put_other _ _ _ _ hne]
        refine hst.no t fun i o hi hd => ?_
        have h1 := hno i o hi hd
        by_cases hij : i = j
        · subst hij; simp [hjl'] at h1
        · rw [getD_set_ne true (Ne.symm hij)] at h1; exact h1

/-- **A drawn region, in the order of its text**, if in whatever right world each operation leaves the same, and a right world. -/
theorem wp_region_chain {id : Nat} {l : List Oper} {a : Act} {w : World} (S : World → Prop) (hm : P.follows .mixedOrders = true) (ho : orderly l.toArray = true) (hS : S w.drew)
    (h : chain P l.toArray S (fun a' => ∀ w', S w' → Q .normal a' w') l a) : (Code.region id l.toArray true).wp P Q a w := by
  obtain ⟨F, hK, hF⟩ := chain_acts l a h
  refine wp_region_any hm ?_
  refine wpAny_chain ho hF hK _ _ a _ (by simp) (by simp [List.countP_replicate]) ⟨rfl, rfl, fun i o t hi _ hl => ?_, fun _ _ => rfl⟩ hS
  have : i < l.length := (List.getElem?_eq_some_iff.1 hi).1
  simp [this] at hl
end
end Go.Proofs.YtpbflgemhcaooaaDoor
