import Derived.Test.YtljcgcllhcdleaaMo7
import Derived.Test.YtljcgcllhcdleaaMo6
import Derived.Test.YtljcgcllhcdleaaMo2
/- Chapter 11: the machine of an image in memory. -/
namespace Go.Proofs.Ytljcgcllhcdleaa
open Go.RowKit
set_option linter.unusedSimpArgs false
set_option linter.unusedVariables false
def macTail (m : Ev.Mc) (va vl : Value) : List Value := [va, .int .i64 m.s.mode, .int .i64 (m.pc : Int), .int .i64 m.wd, .bool m.tr, .slice none 0 0, .int .i64 0, .int .i64 (m.st : Int), .int .i64 0, vl]
def macCells (m : Ev.Mc) (va vl : Value) : List Value := m.s.v.map (Value.int .i64) ++ macTail m va vl
theorem Arrs.apartFrom {w : World} {lo q : Nat} {v : Value} {l : List (List Int)} {vs : List Value} (h : Arrs w lo v l vs) (h1 : ∀ b, v.ownBlock = some b → b ≠ q) (h2 : ∀ (k : Nat) u b, vs[k]? = some u → u.ownBlock = some b → b ≠ q) (o : Nat) (c : Value) : Arrs (w.setCell ⟨q, o, none⟩ c) lo v l vs :=
  ⟨ownsRow_setCell_other h.outer (fun e => h1 q e rfl) _, h.len, fun k u a hu ha => ownsRow_setCell_other (h.row k u a hu ha) (fun e => h2 k u q hu e rfl) _, h.apart, h.out⟩
/-- the machine: its struct in block mb; its arrays' rows from lo on, all below mb; vl is what it has of its leaks -/
structure MacAt (w : World) (lo mb : Nat) (va : Value) (vs : List Value) (vl : Value) (m : Ev.Mc) : Prop where
  len : m.s.v.length = 120
  blk : w.heap[mb]? = some (.cells (macCells m va vl).toArray 131 (0, 0))
  arrs : Arrs w lo va m.s.arrs vs
  hio : ∀ b, va.ownBlock = some b → b < mb
  his : ∀ (k : Nat) u b, vs[k]? = some u → u.ownBlock = some b → b < mb
  lm : lo ≤ mb
section
variable {w w' : World} {lo mb : Nat} {va vl : Value} {vs : List Value} {m : Ev.Mc}
theorem MacAt.lt (h : MacAt w lo mb va vs vl m) : mb < w.heap.size := (Array.getElem?_eq_some_iff.1 h.blk).1
theorem MacAt.grown {row : Option Nat} (h : MacAt w lo mb va vs vl m) (hg : w.grownBy w' row) (hr : ∀ q, row = some q → mb < q) : MacAt w' lo mb va vs vl m := by
  have ne : ∀ (u : Value), (∀ b, u.ownBlock = some b → b < mb) → u.ownBlock = none ∨ u.ownBlock ≠ row := fun u hu => by
    cases hb : u.ownBlock with
    | none => exact .inl rfl
    | some b =>
      refine .inr fun e => ?_
      have := hr b e.symm
      have := hu b hb
      omega
  exact ⟨h.len, (hg.block mb h.lt (fun e => by have := hr mb e.symm; omega)).trans h.blk, ⟨h.arrs.outer.kept hg (ne _ h.hio), h.arrs.len, fun k u a hu ha => (h.arrs.row k u a hu ha).kept hg (ne _ (h.his k u · hu)), h.arrs.apart, h.arrs.out⟩, h.hio, h.his, h.lm⟩
theorem MacAt.stays (h : MacAt w lo mb va vs vl m) (hb : Below w.heap.size w w') : MacAt w' lo mb va vs vl m := h.grown (grown_of_below hb none) (fun q e => by cases e)
theorem MacAt.loose (h : MacAt w lo mb va vs vl m) (j : Nat) : w.frozen? ⟨mb, j, none⟩ = false := by
  unfold World.frozen?
  rw [h.blk]
  simp
theorem MacAt.at_ (h : MacAt w lo mb va vs vl m) (j : Nat) : w.cell? ⟨mb, j, none⟩ = (macCells m va vl)[j]? := by
  unfold World.cell?
  rw [h.blk]
  simp
theorem MacAt.cell (h : MacAt w lo mb va vs vl m) {p : Int} (hp : inR 120 p) : w.cell? ⟨mb, p.toNat, none⟩ = some (.int .i64 (Ev.val m.s.v p)) := by
  have hl := h.len
  unfold inR at hp
  rw [h.at_]
  unfold macCells
  rw [List.getElem?_append_left (by simp; omega), List.getElem?_map]
  unfold Ev.val
  rw [List.getD_eq_getElem?_getD, List.getElem?_eq_getElem (by omega)]
  rfl
theorem MacAt.tail (h : MacAt w lo mb va vs vl m) (k : Nat) : w.cell? ⟨mb, 120 + k, none⟩ = (macTail m va vl)[k]? := by
  have hl := h.len
  rw [h.at_]
  unfold macCells
  rw [List.getElem?_append_right (by simp; omega)]
  simp [hl]
theorem MacAt.cva (h : MacAt w lo mb va vs vl m) : w.cell? ⟨mb, 120, none⟩ = some va := h.tail 0
theorem MacAt.cmode (h : MacAt w lo mb va vs vl m) : w.cell? ⟨mb, 121, none⟩ = some (.int .i64 m.s.mode) := h.tail 1
theorem MacAt.cpc (h : MacAt w lo mb va vs vl m) : w.cell? ⟨mb, 122, none⟩ = some (.int .i64 (m.pc : Int)) := h.tail 2
theorem MacAt.cwd (h : MacAt w lo mb va vs vl m) : w.cell? ⟨mb, 123, none⟩ = some (.int .i64 m.wd) := h.tail 3
theorem MacAt.ctr (h : MacAt w lo mb va vs vl m) : w.cell? ⟨mb, 124, none⟩ = some (.bool m.tr) := h.tail 4
theorem MacAt.cea (h : MacAt w lo mb va vs vl m) : w.cell? ⟨mb, 125, none⟩ = some (.slice none 0 0) := h.tail 5
theorem MacAt.cer (h : MacAt w lo mb va vs vl m) : w.cell? ⟨mb, 126, none⟩ = some (.int .i64 0) := h.tail 6
theorem MacAt.cst (h : MacAt w lo mb va vs vl m) : w.cell? ⟨mb, 127, none⟩ = some (.int .i64 (m.st : Int)) := h.tail 7
theorem MacAt.crm (h : MacAt w lo mb va vs vl m) : w.cell? ⟨mb, 128, none⟩ = some (.int .i64 0) := h.tail 8
theorem MacAt.cvl (h : MacAt w lo mb va vs vl m) : w.cell? ⟨mb, 129, none⟩ = some vl := h.tail 9
/-- a cell of the struct set -/
theorem MacAt.put (h : MacAt w lo mb va vs vl m) (j : Nat) (c : Value) {m' : Ev.Mc} {vl' : Value} (hc : (macCells m va vl).set j c = macCells m' va vl') (hl : m'.s.v.length = 120) (ha : m'.s.arrs = m.s.arrs) :
    MacAt (w.setCell ⟨mb, j, none⟩ c) lo mb va vs vl' m' := by
  refine ⟨hl, ?_, ?_, h.hio, h.his, h.lm⟩
  · rw [heap_setCell_same w mb j _ _ c h.blk, ← hc]
    simp
  · rw [ha]
    exact h.arrs.apartFrom (fun b hb => by have := h.hio b hb; omega) (fun k u b hu hb => by have := h.his k u b hu hb; omega) _ _
theorem macCells_tail (m : Ev.Mc) (va vl : Value) (hl : m.s.v.length = 120) (k : Nat) (c : Value) : (macCells m va vl).set (120 + k) c = m.s.v.map (Value.int .i64) ++ (macTail m va vl).set k c := by
  unfold macCells
  rw [List.set_append_right (h := by simp; omega)]
  simp [hl]
theorem MacAt.setV (h : MacAt w lo mb va vs vl m) {p : Nat} (hp : p < 120) (x : Int) : MacAt (w.setCell ⟨mb, p, none⟩ (.int .i64 x)) lo mb va vs vl { m with s := { m.s with v := m.s.v.set p x } } := by
  have hl := h.len
  refine h.put p _ ?_ (by simpa using h.len) rfl
  unfold macCells
  rw [List.set_append_left (h := by simp; omega), ← List.map_set]
  rfl
theorem MacAt.setMode (h : MacAt w lo mb va vs vl m) (x : Int) : MacAt (w.setCell ⟨mb, 121, none⟩ (.int .i64 x)) lo mb va vs vl { m with s := { m.s with mode := x } } :=
  h.put (120 + 1) _ (by rw [macCells_tail _ _ _ h.len]; rfl) h.len rfl
theorem MacAt.setPc (h : MacAt w lo mb va vs vl m) (k : Nat) {x : Int} (hx : x = (k : Int)) : MacAt (w.setCell ⟨mb, 122, none⟩ (.int .i64 x)) lo mb va vs vl { m with pc := k } := by
  subst hx
  exact h.put (120 + 2) _ (by rw [macCells_tail _ _ _ h.len]; rfl) h.len rfl
theorem MacAt.setWd (h : MacAt w lo mb va vs vl m) (x : Int) : MacAt (w.setCell ⟨mb, 123, none⟩ (.int .i64 x)) lo mb va vs vl { m with wd := x } :=
  h.put (120 + 3) _ (by rw [macCells_tail _ _ _ h.len]; rfl) h.len rfl
theorem MacAt.setTr (h : MacAt w lo mb va vs vl m) (x : Bool) : MacAt (w.setCell ⟨mb, 124, none⟩ (.bool x)) lo mb va vs vl { m with tr := x } :=
  h.put (120 + 4) _ (by rw [macCells_tail _ _ _ h.len]; rfl) h.len rfl
theorem MacAt.setSt (h : MacAt w lo mb va vs vl m) (k : Nat) {x : Int} (hx : x = (k : Int)) : MacAt (w.setCell ⟨mb, 127, none⟩ (.int .i64 x)) lo mb va vs vl { m with st := k } := by
  subst hx
  exact h.put (120 + 7) _ (by rw [macCells_tail _ _ _ h.len]; rfl) h.len rfl
theorem MacAt.setVl (h : MacAt w lo mb va vs vl m) (u : Value) : MacAt (w.setCell ⟨mb, 129, none⟩ u) lo mb va vs u m :=
  h.put (120 + 9) _ (by rw [macCells_tail _ _ _ h.len]; rfl) h.len rfl
theorem MacAt.setA (h : MacAt w lo mb va vs vl m) {k g : Nat} {a : List Int} {ca : Nat} (hk : m.s.arrs[k]? = some a) (hu : vs[k]? = some (.slice (some ⟨g, 0, none⟩) a.length ca)) (j : Nat) (x : Int) :
    MacAt (w.setCell ⟨g, j, none⟩ (.int .i64 x)) lo mb va vs vl { m with s := { m.s with arrs := m.s.arrs.set k (a.set j x) } } := by
  have hr := h.arrs.row k _ a hu hk
  obtain ⟨h1, h2⟩ := hr.stored j (.int .i64 x)
  have hgm := h.his k _ g hu rfl
  refine ⟨h.len, ?_, ⟨ownsRow_setCell_other h.arrs.outer (h.arrs.out k _ g hu rfl) _, by simpa using h.arrs.len, fun k' u b hu' hb => ?_, h.arrs.apart, h.arrs.out⟩, h.hio, h.his, h.lm⟩
  · rw [heap_setCell_other w ⟨g, j, none⟩ mb _ (by show mb ≠ g; omega)]
    exact h.blk
  · by_cases hkk : k' = k
    · subst hkk
      rw [hu] at hu'
      injection hu' with hu'
      subst hu'
      have hb' : b = a.set j x := by
        simp only [List.getElem?_set] at hb
        split at hb
        · split at hb
          · exact (Option.some.inj hb).symm
          · cases hb
        · rename_i hne; exact absurd trivial hne
      subst hb'
      rw [List.length_set, map_set_int]
      exact h1
    · have hb' : m.s.arrs[k']? = some b := by
        simp only [List.getElem?_set] at hb
        rw [if_neg (fun e => hkk e.symm)] at hb
        exact hb
      refine ownsRow_setCell_other (h.arrs.row k' u b hu' hb') ?_ _
      intro e
      exact hkk (h.arrs.apart k' k u _ g hu' hu e rfl)
end
end Go.Proofs.Ytljcgcllhcdleaa
/- Chapter 1: Two and Sel leave the world as it is. -/
namespace Go.Proofs.Ytljcgcllhcdleaa
open Go.RowKit
set_option linter.unusedSimpArgs false
set_option linter.unusedVariables false
set_option maxHeartbeats 400000 in
theorem sel_same (a b c : Int) (w : World) :
    Calls Try.prog 73 #[.int .i64 a, .int .i64 b, .int .i64 c] w fun e w' => e = .returned (.int .i64 (Ev.sel a b c)) ∧ w' = w := by
  have ha := u32_low a
  have hb := u32_low b
  have hc := u32_low c
  have lb := Ev.low_lt b
  have lc := Ev.low_lt c
  have s1 := Lib.hid (@sel_yes a b c)
  have s2 := Lib.hid (@sel_no a b c)
  generalize Ev.low a = x at *
  generalize Ev.low b = y at *
  generalize Ev.low c = z at *
  generalize Ev.sel a b c = r at *
  go_enter Try.func73, Try.ntmps73
  go_wp2
  all_goals
    go_ret
    (try simp only [bne_iff_ne, ne_eq, bne_eq_false_iff_eq, beq_iff_eq, beq_eq_false_iff_ne] at *)
    refine ⟨?_, by first | rfl | trivial⟩
    first
    | (have h0 : ¬ ((x : Int) = 0) := by omega
       rw [s1.out h0]; rfl)
    | (have h0 : ((x : Int) = 0) := by omega
       rw [s2.out h0]; rfl)

set_option maxHeartbeats 4000000 in
theorem two_same (op a b : Int) (w : World) :
    Calls Try.prog 72 #[.int .i64 op, .int .i64 a, .int .i64 b] w fun e w' => e = .returned (.tuple #[.int .i64 (Ev.two op a b), .int .i64 (Ev.twoErr op)]) ∧ w' = w := by
  have ha := u32_low a
  have hb := u32_low b
  have la := Ev.low_lt a
  have lb := Ev.low_lt b
  unfold Ev.two
  generalize Ev.low a = x at *
  generalize Ev.low b = y at *
  have hy : y % 32 < 32 := Nat.mod_lt _ (by decide)
  have q1 := u32_and_nat x y la lb
  have q2 := u32_or_nat x y la lb
  have q3 := u32_xor_nat x y la lb
  have l1 : x &&& y < 4294967296 := Ev.and_lt la
  have l2 : x ||| y < 4294967296 := Ev.or_lt la lb
  have l3 : x ^^^ y < 4294967296 := Ev.xor_lt la lb
  have q4 : bits BinOp.and IntKind.u32 (y : Int) 31 = ((y % 32 : Nat) : Int) := by
    have := u32_and_nat y 31 lb (by decide)
    have e := Nat.and_two_pow_sub_one_eq_mod y 5
    simp at e
    rw [e] at this
    exact this
  generalize hz1 : x &&& y = z1 at *
  generalize hz2 : x ||| y = z2 at *
  generalize hz3 : x ^^^ y = z3 at *
  have HZ := Lib.hid (And.intro hz1 (And.intro hz2 hz3))
  clear hz1 hz2 hz3
  rcases op_cases op with rfl | rfl | rfl | rfl | rfl | rfl | rfl | rfl | rfl | rfl | rfl | rfl | h
  rotate_left 12
  · rw [twoN_bad _ _ h, twoErr_bad h]
    clear HZ q1 q2 q3 q4
    go_enter Try.func72, Try.ntmps72
    go_wp2
    all_goals (go_ret2; exact ⟨rfl, rfl⟩)
  all_goals
    go_enter Try.func72, Try.ntmps72
    go_wp2
  all_goals (try go_ret2)
  all_goals (try (refine ⟨congrArg Ending.returned (congrArg Value.tuple ?_), rfl⟩))
  all_goals (try simp [Ev.twoErr, Ev.twoN])
  all_goals (try (obtain ⟨rfl, rfl, rfl⟩ := HZ.out))
  all_goals (try (first | omega | (unfold Ev.wadd; omega) | (unfold Ev.wsub; omega) | (split <;> omega)))
  all_goals
    first
    | exact cast_shl _ _
    | exact wrap_shr la
    | (have h0 : 0 < y := by assumption
       rw [if_neg (by omega)]
       exact wrap_div la)
    | (have h0 : 0 < y := by assumption
       rw [if_neg (by omega)]
       exact wrap_mod la)
    | (have h0 : ((x : Int) == (y : Int)) = true := by assumption
       rw [beq_iff_eq] at h0
       rw [if_pos (by omega)]; rfl)
    | (have h0 : ((x : Int) == (y : Int)) = false := by assumption
       rw [beq_eq_false_iff_ne] at h0
       rw [if_neg (by omega)]; rfl)
end Go.Proofs.Ytljcgcllhcdleaa
