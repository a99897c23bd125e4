import Derived.Test.YtpbflgemhcaooaaDoorPt21
import Derived.Test.YtpbflgemhcaooaaDoorProg
import Derived.Test.YtpbflgemhcaooaaDoorPt8
import Derived.Maps.OwnOps
import Derived.Deep.DeepCutAuto
import Derived.Test.YtpbflgemhcaooaaDoorPt19
/- The reference's evaluation: names in a map; its arrays' rows; its block. -/
namespace Ev
def lkN : Nms → List UInt8 → Option Int
  | [], _ => none
  | (m, v) :: r, n => if m = n then some v else lkN r n
theorem lkN_get : ∀ (l : Nms) (n : List UInt8), (lkN l n).getD 0 = getN l n
  | [], _ => rfl
  | (m, v) :: r, n => by
    unfold lkN getN
    by_cases h : m = n
    · rw [if_pos h, if_pos h]; rfl
    · rw [if_neg h, if_neg h]; exact lkN_get r n
theorem lkN_set : ∀ (l : Nms) (n : List UInt8) (x : Int) (q : List UInt8), hasN l n → lkN (setN l n x) q = if q = n then some x else lkN l q
  | [], _, _, _, h => h.elim
  | (m, v) :: r, n, x, q, h => by
    unfold setN
    by_cases e : m = n
    · subst e
      rw [if_pos rfl]
      unfold lkN
      by_cases k : m = q
      · rw [if_pos k, if_pos k.symm]
      · rw [if_neg k, if_neg (fun e => k e.symm), if_neg k]
    · rw [if_neg e]
      unfold lkN
      by_cases k : m = q
      · rw [if_pos k, if_pos k, if_neg (fun e2 => e (k.trans e2))]
      · rw [if_neg k, if_neg k]
        exact lkN_set r n x q (h.resolve_left e)
theorem lkN_none : ∀ {l : Nms} {n : List UInt8}, n ∉ l.map Prod.fst → lkN l n = none
  | [], _, _ => rfl
  | (m, v) :: r, n, h => by
    unfold lkN
    rw [if_neg (fun e => h (by rw [← e]; simp))]
    exact lkN_none (fun k => h (by simp only [List.map_cons, List.mem_cons]; exact .inr k))
theorem lkN_app : ∀ (p l : Nms) (n : List UInt8), n ∉ p.map Prod.fst → lkN (p ++ l) n = lkN l n
  | [], _, _, _ => rfl
  | (m, v) :: r, l, n, h => by
    show (if m = n then some v else lkN (r ++ l) n) = _
    rw [if_neg (fun e => h (by rw [← e]; simp))]
    exact lkN_app r l n (fun k => h (by simp only [List.map_cons, List.mem_cons]; exact .inr k))
end Ev
namespace Go.Proofs.YtpbflgemhcaooaaDoor
open Go.RowKit
set_option linter.unusedSimpArgs false
set_option linter.unusedVariables false
/-- names and their words, as the map reads -/
def nvF (l : Ev.Nms) : SMapF := fun s => (Ev.lkN l s).map (Value.int .i64)
/-- arrays' rows, as the map reads -/
def rvF (A : List Ev.Par) (vs : List Value) : SMapF := fun s => vs[Ev.arrI A s]?
theorem nvF_get (l : Ev.Nms) (n : List UInt8) : (nvF l n).getD (.int .i64 0) = .int .i64 (Ev.getN l n) := by
  rw [← Ev.lkN_get]
  unfold nvF
  cases Ev.lkN l n <;> rfl
theorem nvF_cons (l : Ev.Nms) (n : List UInt8) (x : Int) : nvF ((n, x) :: l) = smapPut (nvF l) n (some (.int .i64 x)) := by
  funext q
  show (if n = q then some x else Ev.lkN l q).map (Value.int .i64) = if q = n then some (.int .i64 x) else (Ev.lkN l q).map (Value.int .i64)
  by_cases h : n = q
  · rw [if_pos h, if_pos h.symm]; rfl
  · rw [if_neg h, if_neg (fun e => h e.symm)]
theorem nvF_set {l : Ev.Nms} {n : List UInt8} (h : Ev.hasN l n) (x : Int) : nvF (Ev.setN l n x) = smapPut (nvF l) n (some (.int .i64 x)) := by
  funext q
  unfold nvF smapPut
  rw [Ev.lkN_set l n x q h]
  by_cases e : q = n
  · rw [if_pos e, if_pos e]; rfl
  · rw [if_neg e, if_neg e]
structure RowsA (w : World) (lo hi : Nat) (vs : List Value) (a : Ev.Ars) : Prop where
  len : vs.length = a.length
  row : ∀ (k : Nat) u x, vs[k]? = some u → a[k]? = some x → w.ownsRow lo 3 1 u x.length (x.map (Value.int .i64))
  apart : ∀ (k k' : Nat) u u' b, vs[k]? = some u → vs[k']? = some u' → u.ownBlock = some b → u'.ownBlock = some b → k = k'
  his : ∀ (k : Nat) u b, vs[k]? = some u → u.ownBlock = some b → b < hi
/-- the reference's evaluation, in memory -/
structure EM (w : World) (eb ab lo hi : Nat) (vs : List Value) (A : List Ev.Par) (a : Ev.Ars) (e : Option (Option Int)) : Prop where
  t : w.heap[eb]? = some (.cells #[.map (some ab), .bool (Ev.trapE e), .bool e.isSome, .int .i64 (Ev.resE e)] 136 (0, 0))
  m : SMapIn w ab (rvF A vs)
  rows : RowsA w lo hi vs a
  el : eb < lo
  al : ab < lo
  ne : ab ≠ eb
  le : lo ≤ hi
  hs : hi ≤ w.heap.size
  len : a.length = A.length
section
variable {w w' : World} {eb ab lo hi : Nat} {vs : List Value} {A : List Ev.Par} {a : Ev.Ars} {e : Option (Option Int)}
theorem RowsA.keep (h : RowsA w lo hi vs a) (hk : ∀ k, lo ≤ k → k < hi → w'.heap[k]? = w.heap[k]?) : RowsA w' lo hi vs a :=
  ⟨h.len, fun k u x hu hx => ownsRow_same (h.row k u x hu hx) (fun g hg => hk g ((h.row k u x hu hx).lt g hg).1 (h.his k u g hu hg)), h.apart, h.his⟩
theorem EM.lt (h : EM w eb ab lo hi vs A a e) : eb < w.heap.size := (Array.getElem?_eq_some_iff.1 h.t).1
theorem EM.keep (h : EM w eb ab lo hi vs A a e) (hs : w.heap.size ≤ w'.heap.size) (hk : ∀ k, k = eb ∨ k = ab ∨ (lo ≤ k ∧ k < hi) → w'.heap[k]? = w.heap[k]?) : EM w' eb ab lo hi vs A a e :=
  ⟨(hk eb (.inl rfl)).trans h.t, h.m.same (hk ab (.inr (.inl rfl))), h.rows.keep (fun k h1 h2 => hk k (.inr (.inr ⟨h1, h2⟩))), h.el, h.al, h.ne, h.le, Nat.le_trans h.hs hs, h.len⟩
theorem EM.sfr {S : Nat → Prop} (h : EM w eb ab lo hi vs A a e) (hF : SFr S w w') (hS : ∀ k, k = eb ∨ k = ab ∨ (lo ≤ k ∧ k < hi) → ¬ S k) : EM w' eb ab lo hi vs A a e :=
  h.keep hF.size (fun k hk => hF.block k (by have := h.lt; have := h.m.lt; have := h.hs; omega) (hS k hk))
theorem EM.on (h : EM w eb ab lo hi vs A a e) (hb : Below w.heap.size w w') : EM w' eb ab lo hi vs A a e :=
  h.sfr (S := fun _ => False) (.of hb) (fun _ _ h => h)
theorem EM.cell (h : EM w eb ab lo hi vs A a e) (j : Nat) : w.cell? ⟨eb, j, none⟩ = #[.map (some ab), .bool (Ev.trapE e), .bool e.isSome, .int .i64 (Ev.resE e)][j]? := cell_of_block h.t j
theorem EM.free (h : EM w eb ab lo hi vs A a e) (j : Nat) : w.frozen? ⟨eb, j, none⟩ = false := by
  unfold World.frozen?
  rw [h.t]
  simp
theorem EM.tset (h : EM w eb ab lo hi vs A a e) (e' : Option (Option Int)) (hs : w'.heap.size = w.heap.size) (hk : ∀ k, k ≠ eb → w'.heap[k]? = w.heap[k]?)
    (ht : w'.heap[eb]? = some (.cells #[.map (some ab), .bool (Ev.trapE e'), .bool e'.isSome, .int .i64 (Ev.resE e')] 136 (0, 0))) : EM w' eb ab lo hi vs A a e' :=
  ⟨ht, h.m.same (hk ab h.ne), h.rows.keep (fun k h1 h2 => hk k (by have := h.el; omega)), h.el, h.al, h.ne, h.le, by rw [hs]; exact h.hs, h.len⟩
theorem EM.trap (h : EM w eb ab lo hi vs A a none) : EM ((w.setCell ⟨eb, 2, none⟩ (.bool true)).setCell ⟨eb, 1, none⟩ (.bool true)) eb ab lo hi vs A a (some none) :=
  h.tset (some none) (by simp) (fun k hk => (Below.heap_setCell _ ⟨eb, 1, none⟩ _ k hk).trans (Below.heap_setCell _ ⟨eb, 2, none⟩ _ k hk)) (heap_setCell_same _ eb 1 _ _ _ (heap_setCell_same _ eb 2 _ _ _ h.t))
theorem EM.ret (h : EM w eb ab lo hi vs A a none) (v : Int) : EM ((w.setCell ⟨eb, 2, none⟩ (.bool true)).setCell ⟨eb, 3, none⟩ (.int .i64 v)) eb ab lo hi vs A a (some (some v)) :=
  h.tset (some (some v)) (by simp) (fun k hk => (Below.heap_setCell _ ⟨eb, 3, none⟩ _ k hk).trans (Below.heap_setCell _ ⟨eb, 2, none⟩ _ k hk)) (heap_setCell_same _ eb 3 _ _ _ (heap_setCell_same _ eb 2 _ _ _ h.t))
/-- an array's row -/
theorem RowsA.at_ (h : RowsA w lo hi vs a) {k : Nat} {q : List Int} (hk : a[k]? = some q) :
    ∃ X ca, vs[k]? = some (.slice X q.length ca) ∧ q.length ≤ ca ∧ ca ≤ maxLen ∧ (0 < q.length → ∃ g, X = some ⟨g, 0, none⟩ ∧ lo ≤ g ∧ g < w.heap.size ∧ g < hi ∧ (∀ j, w.frozen? ⟨g, j, none⟩ = false) ∧ ∀ (j : Nat) x, q[j]? = some x → w.cell? ⟨g, j, none⟩ = some (.int .i64 x)) := by
  have hlt := (List.getElem?_eq_some_iff.1 hk).1
  obtain ⟨u, hu⟩ : ∃ u, vs[k]? = some u := ⟨vs[k]'(by rw [h.len]; exact hlt), List.getElem?_eq_getElem _⟩
  have hr := h.row k u q hu hk
  have hh := h.his k u
  rcases hr.2 with ⟨rfl, e⟩ | ⟨g, ca, cur', rfl, hgb, hgg, hnc', hcm', _, _⟩
  · have h0 : q.length = 0 := by first | exact e | (simpa using congrArg List.length e)
    rw [h0]
    exact ⟨none, 0, hu, Nat.le_refl _, by simp [maxLen], fun h => absurd h (by omega)⟩
  · exact ⟨_, ca, hu, hnc', hcm', fun _ => ⟨g, rfl, hgb, (Array.getElem?_eq_some_iff.1 hgg).1, hh g hu rfl, fun j => hr.frozenAt j, fun j x hx => by
      have hj := (List.getElem?_eq_some_iff.1 hx).1
      rw [hr.cellAt j (by omega), List.getElem?_map, hx]
      rfl⟩⟩
/-- a word of an array is set -/
theorem EM.setA (h : EM w eb ab lo hi vs A a e) {k g : Nat} {x : List Int} {ca : Nat} (hk : a[k]? = some x) (hu : vs[k]? = some (.slice (some ⟨g, 0, none⟩) x.length ca)) (j : Nat) (y : Int) :
    EM (w.setCell ⟨g, j, none⟩ (.int .i64 y)) eb ab lo hi vs A (a.set k (x.set j y)) e := by
  have hr := h.rows.row k _ x hu hk
  obtain ⟨h1, h2⟩ := hr.stored j (.int .i64 y)
  have hgb := (hr.lt g rfl).1
  have hgh := h.rows.his k _ g hu rfl
  have hel := h.el
  have hal := h.al
  have hne : ∀ i, i ≠ g → (w.setCell ⟨g, j, none⟩ (.int .i64 y)).heap[i]? = w.heap[i]? := fun i hi => Below.heap_setCell w ⟨g, j, none⟩ _ i hi
  refine ⟨(hne eb (by omega)).trans h.t, h.m.same (hne ab (by omega)), ⟨by simpa using h.rows.len, fun k' u b hu' hb => ?_, h.rows.apart, h.rows.his⟩, h.el, h.al, h.ne, h.le, by simpa using h.hs, by simpa using h.len⟩
  by_cases hkk : k' = k
  · subst hkk
    rw [hu] at hu'
    injection hu' with hu'
    subst hu'
    have hb' : b = x.set j y := by
      simp only [List.getElem?_set] at hb
      split at hb
      · split at hb
        · exact (Option.some.inj hb).symm
        · cases hb
      · rename_i hne; exact absurd trivial hne
    subst hb'
    rw [List.length_set, map_set_int]
    exact h1
  · have hb' : a[k']? = some b := by
      simp only [List.getElem?_set] at hb
      rw [if_neg (fun e => hkk e.symm)] at hb
      exact hb
    refine ownsRow_setCell_other (h.rows.row k' u b hu' hb') ?_ _
    intro e
    exact hkk (h.rows.apart k' k u _ g hu' hu e rfl)
end
/-- an evaluation at work -/
structure RIn (w : World) (eb ab nb lo hi : Nat) (vs : List Value) (A : List Ev.Par) (a : Ev.Ars) (l : Ev.Nms) : Prop where
  m : EM w eb ab lo hi vs A a none
  n : SMapIn w nb (nvF l)
  nl : nb < lo
  ne : nb ≠ eb
  na : nb ≠ ab
  wn : Ev.WN l
  wa : Ev.WA a
theorem RIn.to {w w' : World} {eb ab nb lo hi : Nat} {vs : List Value} {A : List Ev.Par} {a : Ev.Ars} {l : Ev.Nms} (h : RIn w eb ab nb lo hi vs A a l) (hF : SFr (TS eb) w w') (hm : EM w' eb ab lo hi vs A a none) : RIn w' eb ab nb lo hi vs A a l :=
  ⟨hm, h.n.same (hF.block nb h.n.lt h.ne), h.nl, h.ne, h.na, h.wn, h.wa⟩
theorem RIn.on {w w' : World} {eb ab nb lo hi : Nat} {vs : List Value} {A : List Ev.Par} {a : Ev.Ars} {l : Ev.Nms} (h : RIn w eb ab nb lo hi vs A a l) (hb : Below w.heap.size w w') : RIn w' eb ab nb lo hi vs A a l := h.to (.of hb) (h.m.on hb)
end Go.Proofs.YtpbflgemhcaooaaDoor
/- The literal map[bool]int{true: 1, false: 0}, made and asked in one statement. -/
namespace Go.Proofs.YtpbflgemhcaooaaDoor
open Go.RowKit
set_option linter.unusedSectionVars false
def ent1 : MapEntry := { key := .bool true, val := .int .i64 1, born := 0 }
def ent2 : MapEntry := { key := .bool false, val := .int .i64 0, born := 1 }
theorem heap_set_new (w : World) (o o' : Obj) : ({ w.alloc o with heap := (w.alloc o).heap.setIfInBounds w.heap.size o' } : World) = w.alloc o' := by
  simp only [World.alloc]
  congr 1
  apply Array.ext_getElem?
  intro i
  simp only [Array.getElem?_setIfInBounds, Array.size_push, Array.getElem?_push]
  split
  · rename_i h; subst h; simp
  · rename_i h; simp [Ne.symm h]
section
variable (P : Program) (t : TypeId) (kt et : TypeId) (ht : P.underlying t = some (.map kt et)) (hk : P.underlying kt = some .bool)
include ht hk
theorem find_nil (x : Value) (w : World) : (Instr.findKey kt x []).run P w = .ok none w := by
  simp [Instr.findKey, run_underlying hk, Instr.findNow]
theorem find_one (w : World) : (Instr.findKey kt (.bool false) [ent1]).run P w = .ok none w := by
  simp [Instr.findKey, run_underlying hk, Instr.findNow, ent1, Instr.sameNow]
theorem find_two (w : World) (x : Bool) : (Instr.findKey kt (.bool x) [ent1, ent2]).run P w = .ok (some (if x then (0, .int .i64 1) else (1, .int .i64 0))) w := by
  cases x <;> simp [Instr.findKey, run_underlying hk, Instr.findNow, ent1, ent2, Instr.sameNow]
theorem chk (em x : Bool) (w : World) : (Instr.checkKey em 10000 kt (.bool x)).run P w = .ok () w := (Maps.bool_keyed hk).check w em (Maps.keyOf_bool_mk hk x)
theorem ins_one (w : World) : (Instr.mapUpdate t (.map (some w.heap.size)) (.bool true) (.int .i64 1)).run P (w.alloc (.map #[] 0)) = .ok () (w.alloc (.map #[ent1] 1)) := by
  have h0 : (w.alloc (.map #[] 0)).heap[w.heap.size]? = some (.map #[] 0) := heap_alloc_new w _
  have hs : ChangeMaps.setBlock (w.alloc (.map #[] 0)) w.heap.size (.map #[ent1] 1) = w.alloc (.map #[ent1] 1) := heap_set_new w _ _
  have hf := find_nil P t kt et ht hk (.bool true) (w.alloc (.map #[] 0))
  have hc := chk P t kt et ht hk false true (w.alloc (.map #[] 0))
  simp [Instr.mapUpdate, run_underlying ht, MapKept.run_getObj_map h0, hc, hf, MapKept.run_setObj_map _ h0, Result.andThen]
  exact hs
theorem ins_two (w : World) : (Instr.mapUpdate t (.map (some w.heap.size)) (.bool false) (.int .i64 0)).run P (w.alloc (.map #[ent1] 1)) = .ok () (w.alloc (.map #[ent1, ent2] 2)) := by
  have h0 : (w.alloc (.map #[ent1] 1)).heap[w.heap.size]? = some (.map #[ent1] 1) := heap_alloc_new w _
  have hs : ChangeMaps.setBlock (w.alloc (.map #[ent1] 1)) w.heap.size (.map #[ent1, ent2] 2) = w.alloc (.map #[ent1, ent2] 2) := heap_set_new w _ _
  have hf := find_one P t kt et ht hk (w.alloc (.map #[ent1] 1))
  have hc := chk P t kt et ht hk false false (w.alloc (.map #[ent1] 1))
  simp [Instr.mapUpdate, run_underlying ht, MapKept.run_getObj_map h0, hc, hf, MapKept.run_setObj_map _ h0, Result.andThen]
  exact hs
theorem look_two (w : World) (x : Bool) : (Instr.lookup t (.map (some w.heap.size)) (.bool x) false).run P (w.alloc (.map #[ent1, ent2] 2)) = .ok (.int .i64 (if x then 1 else 0)) (w.alloc (.map #[ent1, ent2] 2)) := by
  have h0 : (w.alloc (.map #[ent1, ent2] 2)).heap[w.heap.size]? = some (.map #[ent1, ent2] 2) := heap_alloc_new w _
  have hf := find_two P t kt et ht hk (w.alloc (.map #[ent1, ent2] 2)) x
  have hc := chk P t kt et ht hk false x (w.alloc (.map #[ent1, ent2] 2))
  simp [Instr.lookup, run_underlying ht, MapKept.run_getObj_map h0, hc, hf, Result.andThen]
  cases x <;> rfl
end
end Go.Proofs.YtpbflgemhcaooaaDoor
/- Chapter 1, the reference: what is made of two words. -/
namespace Go.Proofs.YtpbflgemhcaooaaDoor
open Go.RowKit
set_option linter.unusedSimpArgs false
set_option linter.unusedVariables false
theorem tmod_bounds (a : Int) : -4294967296 < a.tmod 4294967296 ∧ a.tmod 4294967296 < 4294967296 := by
  constructor
  · have := Int.lt_tmod_of_pos a (show (0 : Int) < 4294967296 by decide); omega
  · exact Int.tmod_lt_of_pos a (by decide)
theorem tmod_low (a : Int) : (a.tmod 4294967296 + 4294967296) % 4294967296 = ((Ev.low a : Nat) : Int) := by
  unfold Ev.low
  have h : a.tmod 4294967296 % 4294967296 = a % 4294967296 := by
    have := Int.tmod_add_mul_tdiv a 4294967296
    omega
  omega

theorem wraps63 (n : Int) (h₀ : 0 ≤ n) (h₁ : n < 2 ^ 63) : IntKind.i64.wrap n = n := by rw [IntKind.wrap_i64]; omega
theorem i64_and_nat {a b : Nat} (ha : a < 4294967296) (hb : b < 4294967296) : bits .and .i64 (a : Int) (b : Int) = ((a &&& b : Nat) : Int) :=
  (bits_nat .i64 63 (by decide) wraps63 a b (by omega) (by omega)).1
theorem i64_or_nat {a b : Nat} (ha : a < 4294967296) (hb : b < 4294967296) : bits .or .i64 (a : Int) (b : Int) = ((a ||| b : Nat) : Int) :=
  (bits_nat .i64 63 (by decide) wraps63 a b (by omega) (by omega)).2
theorem i64_xor_nat {a b : Nat} (ha : a < 4294967296) (hb : b < 4294967296) : bits .xor .i64 (a : Int) (b : Int) = ((a ^^^ b : Nat) : Int) := by
  have hx := Ev.xor_lt ha hb
  have ha' : a % 2 ^ IntKind.i64.bits = a := Nat.mod_eq_of_lt (Nat.lt_of_lt_of_le ha (by decide))
  have hb' : b % 2 ^ IntKind.i64.bits = b := Nat.mod_eq_of_lt (Nat.lt_of_lt_of_le hb (by decide))
  simp only [bits, BitVec.ofInt_natCast, BitVec.toNat_xor, BitVec.toNat_ofNat, ha', hb']
  generalize a ^^^ b = z at *
  exact wraps63 _ (by omega) (by omega)
theorem pow_sub {y : Nat} (hy : y % 32 < 32) : ∃ p : Nat, wrap64 ((2 : Int) ^ (32 - y % 32)) = (p : Int) ∧ 1 ≤ p ∧ p ≤ 4294967296 ∧ Hid (p = 2 ^ (32 - y % 32)) := by
  have h1 : 1 ≤ 2 ^ (32 - y % 32) := Nat.one_le_two_pow
  have h2 : 2 ^ (32 - y % 32) ≤ 2 ^ 32 := Nat.pow_le_pow_right (by decide) (by omega)
  have e : (2 : Int) ^ (32 - y % 32) = ((2 ^ (32 - y % 32) : Nat) : Int) := by rw [Int.natCast_pow]; rfl
  refine ⟨2 ^ (32 - y % 32), ?_, h1, by simpa using h2, rfl⟩
  rw [e]
  generalize 2 ^ (32 - y % 32) = z at *
  exact IntWalk.wrap64_in _ ⟨by omega, by omega⟩
theorem shl_split {x k : Nat} (hk : k < 32) : x % 2 ^ (32 - k) * 2 ^ k = Ev.wshl x k := by
  unfold Ev.wshl
  have e : (4294967296 : Nat) = 2 ^ (32 - k) * 2 ^ k := by
    rw [← Nat.pow_add]
    have : 32 - k + k = 32 := by omega
    rw [this]
  rw [e, Nat.mul_mod_mul_right]
theorem shl_end {x y p : Nat} (hy : y % 32 < 32) (hp : Hid (p = 2 ^ (32 - y % 32))) : wrap64 ((x : Int) % (p : Int) * 2 ^ (y % 32)) = ((Ev.wshl x (y % 32) : Nat) : Int) := by
  rw [hp.out]
  have e : (x : Int) % ((2 ^ (32 - y % 32) : Nat) : Int) * 2 ^ (y % 32) = ((Ev.wshl x (y % 32) : Nat) : Int) := by
    rw [← shl_split hy, Int.natCast_mul, Int.natCast_emod, Int.natCast_pow (2) (y % 32)]
    rfl
  rw [e]
  have : Ev.wshl x (y % 32) < 4294967296 := Nat.mod_lt _ (by decide)
  generalize Ev.wshl x (y % 32) = z at *
  exact IntWalk.wrap64_in _ ⟨by omega, by omega⟩
theorem wrap_quo {x y : Nat} (h : x < 4294967296) : wrap64 ((x : Int) / (y : Int)) = (x : Int) / (y : Int) := by
  have hle : x / y ≤ x := Nat.div_le_self _ _
  rw [← Int.natCast_ediv]
  generalize x / y = z at *
  exact IntWalk.wrap64_in _ ⟨by omega, by omega⟩
theorem mul_split {x y : Nat} (hx : x < 4294967296) (hy : y < 4294967296) :
    (wrap64 (wrap64 ((x : Int) % 65536 * y) + wrap64 ((wrap64 ((x : Int) / 65536 * ((y : Int) % 65536))).tmod 65536 * 65536))).tmod 4294967296 = (x : Int) * y % 4294967296 := by
  have h1 : x % 65536 * y ≤ 65535 * 4294967295 := Nat.mul_le_mul (by omega) (by omega)
  have h2 : x / 65536 * (y % 65536) ≤ 65535 * 65535 := Nat.mul_le_mul (by omega) (by omega)
  have e1 : (x : Int) % 65536 * y = ((x % 65536 * y : Nat) : Int) := by rw [Int.natCast_mul, Int.natCast_emod]; rfl
  have e2 : (x : Int) / 65536 * ((y : Int) % 65536) = ((x / 65536 * (y % 65536) : Nat) : Int) := by rw [Int.natCast_mul, Int.natCast_emod, Int.natCast_ediv]; rfl
  have e3 : ((x * y : Nat) : Int) = (x : Int) * y := Int.natCast_mul x y
  have e4 : x * y = x % 65536 * y + 65536 * (x / 65536 * (y % 65536)) + 4294967296 * (x / 65536 * (y / 65536)) := by
    have a := Nat.div_add_mod x 65536
    have b := Nat.div_add_mod y 65536
    have c : x / 65536 * y = x / 65536 * (y % 65536) + 65536 * (x / 65536 * (y / 65536)) := by
      conv => lhs; rw [← b]
      rw [Nat.mul_add, Nat.mul_left_comm]; omega
    conv => lhs; rw [← a]
    rw [Nat.add_mul, Nat.mul_assoc, c, Nat.mul_add]
    omega
  rw [e1, e2, ← e3, e4]
  generalize x % 65536 * y = p at *
  generalize x / 65536 * (y % 65536) = q at *
  generalize x / 65536 * (y / 65536) = r at *
  rw [IntWalk.wrap64_in (p : Int) ⟨by omega, by omega⟩, IntWalk.wrap64_in (q : Int) ⟨by omega, by omega⟩]
  have t : (q : Int).tmod 65536 = (q : Int) % 65536 := Int.tmod_eq_emod_of_nonneg (by omega)
  rw [t, IntWalk.wrap64_in ((q : Int) % 65536 * 65536) ⟨by omega, by omega⟩, IntWalk.wrap64_in ((p : Int) + (q : Int) % 65536 * 65536) ⟨by omega, by omega⟩, Int.tmod_eq_emod_of_nonneg (by omega)]
  omega

set_option maxHeartbeats 4000000 in
theorem refTwo_any (op a b : Int) (w : World) :
    Calls Tryd.prog 96 #[.int .i64 op, .int .i64 a, .int .i64 b] w fun e w' => e = .returned (.tuple #[.int .i64 (Ev.two op a b), .int .i64 (Ev.twoErr op)]) ∧ Below w.heap.size w w' := by
  obtain ⟨a1, a2⟩ := tmod_bounds a
  obtain ⟨b1, b2⟩ := tmod_bounds b
  have ha := tmod_low a
  have hb := tmod_low b
  have ha' : a.tmod 4294967296 % 4294967296 = ((Ev.low a : Nat) : Int) := by omega
  have hb' : b.tmod 4294967296 % 4294967296 = ((Ev.low b : Nat) : Int) := by omega
  have la := Ev.low_lt a
  have lb := Ev.low_lt b
  unfold Ev.two
  generalize Ev.low a = x at *
  generalize Ev.low b = y at *
  have hy : y % 32 < 32 := Nat.mod_lt _ (by decide)
  have q1 := i64_and_nat la lb
  have q2 := i64_or_nat la lb
  have q3 := i64_xor_nat la lb
  obtain ⟨p, q5, q6, q7, HP⟩ := pow_sub hy
  have hmm := @run_makeMap Tryd.prog
  rcases op_cases op with rfl | rfl | rfl | rfl | rfl | rfl | rfl | rfl | rfl | rfl | rfl | rfl | h
  rotate_left 12
  · rw [twoN_bad _ _ h, twoErr_bad h]
    clear q1 q2 q3 q5
    go_enter Tryd.func96, Tryd.ntmps96
    go_wp2
    go_quiet (fail)
    go_wp2
    all_goals (go_ret2; exact ⟨rfl, by (repeat' first | with_reducible (first | exact Below.refl _ _ | assumption | refine Below.alloc ?_ ?_ _ | refine below_drewN ?_ _ | refine Below.drew ?_ | refine Below.setCell ?_ ?_ _ | refine Below.trans ?_ (Below.mono (by with_reducible assumption) ?_)) | go_size)⟩)
  rotate_left 10
  iterate 2
    · have m1 : ∀ n, (Instr.mapUpdate 192 (.map (some w.heap.size)) (.bool true) (.int .i64 1)).run Tryd.prog ((w.alloc (.map #[] 0)).drewN n) = .ok () ((w.alloc (.map #[ent1] 1)).drewN n) := fun n => ins_one Tryd.prog 192 4 3 Tryd.underlying192 Tryd.underlying4 (w.drewN n)
      have m2 : ∀ n, (Instr.mapUpdate 192 (.map (some w.heap.size)) (.bool false) (.int .i64 0)).run Tryd.prog ((w.alloc (.map #[ent1] 1)).drewN n) = .ok () ((w.alloc (.map #[ent1, ent2] 2)).drewN n) := fun n => ins_two Tryd.prog 192 4 3 Tryd.underlying192 Tryd.underlying4 (w.drewN n)
      have m3 : ∀ n x, (Instr.lookup 192 (.map (some w.heap.size)) (.bool x) false).run Tryd.prog ((w.alloc (.map #[ent1, ent2] 2)).drewN n) = .ok (.int .i64 (if x then 1 else 0)) ((w.alloc (.map #[ent1, ent2] 2)).drewN n) := fun n x => look_two Tryd.prog 192 4 3 Tryd.underlying192 Tryd.underlying4 (w.drewN n) x
      go_enter Tryd.func96, Tryd.ntmps96
      go_wp2
      go_quiet (fail)
      go_upto_region 31 with fail
      go_step
      iterate 3 go_step
      refine wpList_insert_run rfl _ _ _ _ rfl _ _ _ rfl rfl rfl _ (m1 _) ?_
      simp only [Act.put]
      refine wpList_insert_run rfl _ _ _ _ rfl _ _ _ rfl rfl rfl _ (m2 _) ?_
      simp only [Act.put]
      go_wp2_with (at_lookup; refine wpList_lookup_run rfl _ _ _ _ rfl _ _ _ rfl rfl _ (m3 _ _) ?_)
      all_goals
        go_ret2
        refine ⟨congrArg Ending.returned (congrArg Value.tuple ?_), by (repeat' first | with_reducible (first | exact Below.refl _ _ | assumption | refine Below.alloc ?_ ?_ _ | refine below_drewN ?_ _ | refine Below.drew ?_ | refine Below.setCell ?_ ?_ _ | refine Below.trans ?_ (Below.mono (by with_reducible assumption) ?_)) | go_size)⟩
        (try simp only [beq_iff_eq, beq_eq_false_iff_ne] at *)
        simp [Ev.twoErr, Ev.twoN]
        try (split <;> omega)
  rotate_left 8
  iterate 2
    rcases Nat.eq_zero_or_pos y with rfl | hpos
    · go_enter Tryd.func96, Tryd.ntmps96
      go_wp2
      go_quiet (fail)
      go_wp2
      all_goals (go_ret2; refine ⟨congrArg Ending.returned (congrArg Value.tuple ?_), by (repeat' first | with_reducible (first | exact Below.refl _ _ | assumption | refine Below.alloc ?_ ?_ _ | refine below_drewN ?_ _ | refine Below.drew ?_ | refine Below.setCell ?_ ?_ _ | refine Below.trans ?_ (Below.mono (by with_reducible assumption) ?_)) | go_size)⟩)
      all_goals simp [Ev.twoErr, Ev.twoN]
      all_goals omega
    · have hne : y ≠ 0 := by omega
      go_enter Tryd.func96, Tryd.ntmps96
      go_wp2
      go_quiet (fail)
      go_wp2
      all_goals go_ret2
      all_goals (refine ⟨congrArg Ending.returned (congrArg Value.tuple ?_), by (repeat' first | with_reducible (first | exact Below.refl _ _ | assumption | refine Below.alloc ?_ ?_ _ | refine below_drewN ?_ _ | refine Below.drew ?_ | refine Below.setCell ?_ ?_ _ | refine Below.trans ?_ (Below.mono (by with_reducible assumption) ?_)) | go_size)⟩)
      all_goals simp [Ev.twoErr, Ev.twoN, hne]
      all_goals exact wrap_quo la
  all_goals
    go_enter Tryd.func96, Tryd.ntmps96
    go_wp2
    go_quiet (fail)
    go_wp2
  all_goals (try go_ret2)
  all_goals (try (refine ⟨congrArg Ending.returned (congrArg Value.tuple ?_), by (repeat' first | with_reducible (first | exact Below.refl _ _ | assumption | refine Below.alloc ?_ ?_ _ | refine below_drewN ?_ _ | refine Below.drew ?_ | refine Below.setCell ?_ ?_ _ | refine Below.trans ?_ (Below.mono (by with_reducible assumption) ?_)) | go_size)⟩))
  all_goals (try simp [Ev.twoErr, Ev.twoN])
  all_goals (try (first | omega | (unfold Ev.wadd; omega) | (unfold Ev.wsub; omega) | (exact cast_shr _ _) | (exact shl_end hy HP) | (exact mul_split la lb) | (split <;> omega)))
end Go.Proofs.YtpbflgemhcaooaaDoor
/- Statements in memory, onward; names within bounds. -/
namespace Go.Proofs.YtpbflgemhcaooaaDoor
open Go.RowKit
set_option linter.unusedSimpArgs false
set_option linter.unusedVariables false
theorem RStL.on {d : Nat} {w w' : World} {K : Nat → Prop} {v : Value} {l : List Ev.St1} (h : RStL d w K v l) (hb : Below w.heap.size w w') : RStL d w' K v l := RStL.keep hb.size (fun k _ hk => hb.block k hk) d v l h
theorem RStL.few {d : Nat} {w : World} {K : Nat → Prop} {v : Value} {l : List Ev.St1} (h : RStL d w K v l) : l.length ≤ 9223372036854775807 := by
  cases d with
  | zero => obtain ⟨rfl, rfl⟩ := h; exact Nat.zero_le _
  | succ d =>
    obtain ⟨_, _, h2, _⟩ := h
    obtain ⟨A, c, e, h3, h4⟩ := SL.form h2
    unfold maxLen at h4
    omega
theorem ck_next {A l : List Ev.Par} {dark : Bool} {k : Ev.LK} {t : Ev.St1} (h : Ev.CkOk l k) (e : (Ev.stC A l dark k t).1.2 = 0) : Ev.CkOk (Ev.stC A l dark k t).1.1 (Ev.stC A l dark k t).2 := by
  obtain ⟨⟨u1, u2⟩, u3⟩ := Ev.stC_up A l dark k t e
  have h1 := u1.most h.hi
  have h2 := u1.lets
  have h3 := u1.few h.l1
  obtain ⟨a1, a2, a3, a4, a5⟩ := h
  exact ⟨by omega, by omega, h1, by omega, h3⟩
end Go.Proofs.YtpbflgemhcaooaaDoor
/- evref1's checker: its maps; a place of an array. -/
namespace Go.Proofs.YtpbflgemhcaooaaDoor
open Go.RowKit
set_option linter.unusedSimpArgs false
set_option linter.unusedVariables false
def vV (p : Ev.Par) : Value := .agg #[.bool p.secret, .bool (decide (p.size < 0))]
def nmF (l : List Ev.Par) : SMapF := fun s => (Ev.findP l s).map vV
def arF (l : List Ev.Par) : SMapF := fun s => (Ev.findP l s).map parV
theorem nmF_snoc (l : List Ev.Par) (p : Ev.Par) : nmF (l ++ [p]) = smapPut (nmF l) p.name (some (vV p)) := by
  funext s
  unfold nmF smapPut
  rw [Ev.findP_snoc]
  by_cases h : p.name = s
  · rw [if_pos h, if_pos h.symm]; rfl
  · rw [if_neg h, if_neg (fun e => h e.symm)]
theorem arF_snoc (l : List Ev.Par) (p : Ev.Par) : arF (l ++ [p]) = smapPut (arF l) p.name (some (parV p)) := by
  funext s
  unfold arF smapPut
  rw [Ev.findP_snoc]
  by_cases h : p.name = s
  · rw [if_pos h, if_pos h.symm]; rfl
  · rw [if_neg h, if_neg (fun e => h e.symm)]
theorem nmF_back (l : List Ev.Par) (s : List UInt8) (v : Value) (h : Ev.findP l s = none) : smapPut (smapPut (nmF l) s (some v)) s none = nmF l := by
  funext q
  unfold smapPut nmF
  by_cases e : q = s
  · rw [if_pos e, e, h]; rfl
  · rw [if_neg e, if_neg e]
theorem SMapIn.look {w : World} {b : Nat} {m : SMapF} (h : SMapIn w b m) {T e : TypeId} {z : Value} (ht : Tryd.prog.underlying T = some (.map 9 e)) (hz : ∀ u, (zeroValue e).run Tryd.prog u = .ok z u) {p : List UInt8} (hp : InS p) (ok : Bool) {r : Option Value} (hr : m p = r) :
    ∀ u, Below w.heap.size w u → (Go.Instr.lookup T (.map (some b)) (.string ⟨p.toArray⟩) ok).run Tryd.prog u = .ok (if ok then .tuple #[r.getD z, .bool r.isSome] else r.getD z) u := fun u hu => by
  rw [← hr]
  exact (h.on hu).lookup ht (hz u) hp ok
/-- the checker's block, its map of arrays -/
structure KAt (w : World) (kb ab : Nat) (A : List Ev.Par) (k : Ev.LK) : Prop where
  r : w.heap[kb]? = some (.cells #[.map (some ab), .int .i64 k.work, .int .i64 k.lets] 99 (0, 0))
  m : SMapIn w ab (arF A)
theorem KAt.lt {w : World} {kb ab : Nat} {A : List Ev.Par} {k : Ev.LK} (h : KAt w kb ab A k) : kb < w.heap.size := (Array.getElem?_eq_some_iff.1 h.r).1
theorem KAt.on {w w' : World} {kb ab : Nat} {A : List Ev.Par} {k : Ev.LK} (h : KAt w kb ab A k) (hb : Below w.heap.size w w') : KAt w' kb ab A k := ⟨(hb.block kb h.lt).trans h.r, h.m.on hb⟩
theorem KAt.cell {w : World} {kb ab : Nat} {A : List Ev.Par} {k : Ev.LK} (h : KAt w kb ab A k) (j : Nat) : w.cell? ⟨kb, j, none⟩ = #[.map (some ab), .int .i64 k.work, .int .i64 k.lets][j]? := cell_of_block h.r j
theorem KAt.ne {w : World} {kb ab : Nat} {A : List Ev.Par} {k : Ev.LK} (h : KAt w kb ab A k) : ab ≠ kb := fun e => by
  obtain ⟨es, c, h1, _⟩ := h.m
  rw [e, h.r] at h1
  cases h1
theorem place_eq (A : List Ev.Par) (nm : List UInt8) (e : Ev.Ex) (secret dark : Bool) (p : Ev.Par) (h : Ev.findP A nm = some p) : Ev.plC A nm e secret dark = if secret = true then (false, 10) else if dark = true ∧ (e.kind ≠ 1 ∨ p.size ≤ e.n) then (false, 10) else (p.secret, 0) := by
  unfold Ev.plC
  rw [h]
set_option maxRecDepth 6000 in
set_option maxHeartbeats 3200000 in
theorem place_any (A : List Ev.Par) (k : Ev.LK) (kb ab : Nat) (nm : List UInt8) (hn : InS nm) (e : Ev.Ex) (vx : Value) (hs : ∃ a c, vx = .slice a e.args.length c) (secret dark : Bool) (w : World) (hk : KAt w kb ab A k) :
    Calls Tryd.prog 92 #[.pointer (some ⟨kb, 0, none⟩), .string ⟨(nm).toArray⟩, exV e vx, .bool secret, .bool dark] w fun r w' => r = .returned (.tuple #[.bool (Ev.plC A nm e secret dark).1, .int .i64 (Ev.plC A nm e secret dark).2]) ∧ Below w.heap.size w w' := by
  obtain ⟨xa, xc, rfl⟩ := hs
  have HK := Lib.hid hk
  have k0 : w.cell? ⟨kb, 0, none⟩ = some (.map (some ab)) := hk.cell 0
  have klt := hk.lt
  obtain ⟨R, hR⟩ : ∃ R, Ev.plC A nm e secret dark = R := ⟨_, rfl⟩
  rw [hR]
  unfold exV
  cases hf : Ev.findP A nm with
  | none =>
    have HP := Lib.hid (show (false, (6 : Int)) = R by rw [← hR]; unfold Ev.plC; rw [hf])
    have HLK := Lib.hid (hk.m.look (T := 97) Tryd.underlying97 (fun u => Tryd.zeroValue35 u) hn true (r := none) (by unfold arF; rw [hf]; rfl))
    simp only [Option.getD_none, Option.isSome_none, if_true] at HLK
    clear hk hR hf
    go_enter Tryd.func92, Tryd.ntmps92
    go_wp2_with (at_lookup; refine wpList_lookupS_at rfl _ _ 97 true rfl rfl rfl (HLK.out _ (by (repeat' first | with_reducible (first | exact Below.refl _ _ | assumption | refine Below.alloc ?_ ?_ _ | refine below_drewN ?_ _ | refine Below.drew ?_ | refine Below.setCell ?_ ?_ _ | refine Below.trans ?_ (Below.mono (by with_reducible assumption) ?_)) | go_size))) ?_)
    go_ret2
    exact ⟨by rw [← HP.out]; rfl, by (repeat' first | with_reducible (first | exact Below.refl _ _ | assumption | refine Below.alloc ?_ ?_ _ | refine below_drewN ?_ _ | refine Below.drew ?_ | refine Below.setCell ?_ ?_ _ | refine Below.trans ?_ (Below.mono (by with_reducible assumption) ?_)) | go_size)⟩
  | some p =>
    have HP := Lib.hid (show (if secret = true then (false, 10) else if dark = true ∧ (e.kind ≠ 1 ∨ p.size ≤ e.n) then (false, 10) else (p.secret, 0)) = R by rw [← hR, place_eq A nm e secret dark p hf])
    have HLK := Lib.hid (hk.m.look (T := 97) Tryd.underlying97 (fun u => Tryd.zeroValue35 u) hn true (r := some (parV p)) (by unfold arF; rw [hf]; rfl))
    simp only [Option.getD_some, Option.isSome_some, if_true] at HLK
    unfold parV at HLK
    clear hk hR hf
    go_enter Tryd.func92, Tryd.ntmps92
    go_upto_region 4 with (at_lookup; refine wpList_lookupS_at rfl _ _ 97 true rfl rfl rfl (HLK.out _ (by (repeat' first | with_reducible (first | exact Below.refl _ _ | assumption | refine Below.alloc ?_ ?_ _ | refine below_drewN ?_ _ | refine Below.drew ?_ | refine Below.setCell ?_ ?_ _ | refine Below.trans ?_ (Below.mono (by with_reducible assumption) ?_)) | go_size))) ?_)
    cases secret with
    | true =>
      have HX := Lib.hid (show (false, (10 : Int)) = R by rw [← HP.out]; rfl)
      go_wp2_with fail
      go_ret2
      exact ⟨by rw [← HX.out]; rfl, by (repeat' first | with_reducible (first | exact Below.refl _ _ | assumption | refine Below.alloc ?_ ?_ _ | refine below_drewN ?_ _ | refine Below.drew ?_ | refine Below.setCell ?_ ?_ _ | refine Below.trans ?_ (Below.mono (by with_reducible assumption) ?_)) | go_size)⟩
    | false =>
    cases dark with
    | false =>
      have HX := Lib.hid (show (p.secret, (0 : Int)) = R by rw [← HP.out]; simp)
      go_wp2_with fail
      go_ret2
      exact ⟨by rw [← HX.out]; rfl, by (repeat' first | with_reducible (first | exact Below.refl _ _ | assumption | refine Below.alloc ?_ ?_ _ | refine below_drewN ?_ _ | refine Below.drew ?_ | refine Below.setCell ?_ ?_ _ | refine Below.trans ?_ (Below.mono (by with_reducible assumption) ?_)) | go_size)⟩
    | true =>
    by_cases hkd : e.kind = 1
    case neg =>
      have g1 : (e.kind == 1) = false := beq_eq_false_iff_ne.2 hkd
      have HX := Lib.hid (show (false, (10 : Int)) = R by rw [← HP.out]; simp [hkd])
      clear hkd
      go_wp2_with fail
      go_ret2
      exact ⟨by rw [← HX.out]; rfl, by (repeat' first | with_reducible (first | exact Below.refl _ _ | assumption | refine Below.alloc ?_ ?_ _ | refine below_drewN ?_ _ | refine Below.drew ?_ | refine Below.setCell ?_ ?_ _ | refine Below.trans ?_ (Below.mono (by with_reducible assumption) ?_)) | go_size)⟩
    case pos =>
    have g1 : (e.kind == 1) = true := beq_iff_eq.2 hkd
    by_cases hnn : p.size ≤ e.n
    case pos =>
      have g2 : decide (e.n < p.size) = false := decide_eq_false (by omega)
      have HX := Lib.hid (show (false, (10 : Int)) = R by rw [← HP.out]; simp [hnn])
      clear hkd hnn
      go_wp2_with fail
      go_ret2
      exact ⟨by rw [← HX.out]; rfl, by (repeat' first | with_reducible (first | exact Below.refl _ _ | assumption | refine Below.alloc ?_ ?_ _ | refine below_drewN ?_ _ | refine Below.drew ?_ | refine Below.setCell ?_ ?_ _ | refine Below.trans ?_ (Below.mono (by with_reducible assumption) ?_)) | go_size)⟩
    case neg =>
      have g2 : decide (e.n < p.size) = true := decide_eq_true (by omega)
      have HX := Lib.hid (show (p.secret, (0 : Int)) = R by rw [← HP.out]; simp [hkd, hnn])
      clear hkd hnn
      go_wp2_with fail
      go_ret2
      exact ⟨by rw [← HX.out]; rfl, by (repeat' first | with_reducible (first | exact Below.refl _ _ | assumption | refine Below.alloc ?_ ?_ _ | refine below_drewN ?_ _ | refine Below.drew ?_ | refine Below.setCell ?_ ?_ _ | refine Below.trans ?_ (Below.mono (by with_reducible assumption) ?_)) | go_size)⟩
end Go.Proofs.YtpbflgemhcaooaaDoor
