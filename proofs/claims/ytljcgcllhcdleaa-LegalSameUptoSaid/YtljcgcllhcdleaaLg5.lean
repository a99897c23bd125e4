import Derived.Test.YtljcgcllhcdleaaLg4
import Derived.Test.YtljcgcllhcdleaaLg2
import Derived.Lib.ConvBytes
import Derived.Test.YtljcgcllhcdleaaLg1
import Derived.OrdersHeld
import Derived.Deep.RegionHeld
/- The memory of a run: the places' row, the arrays' rows. -/
namespace Go.Proofs.Ytljcgcllhcdleaa
open Go.RowKit
set_option linter.unusedSimpArgs false
set_option linter.unusedVariables false
/-- the state lies in rows from bv on, below hi -/
structure StateAt (w : World) (bv : Nat) (va : Value) (vs : List Value) (hi : Nat) (s : Ev.St) : Prop where
  v : w.ownsRow bv 3 1 (.slice (some ⟨bv, 0, none⟩) s.v.length s.v.length) s.v.length (s.v.map (Value.int .i64))
  arrs : Arrs w (bv + 1) va s.arrs vs
  hiv : bv < hi
  hio : ∀ b, va.ownBlock = some b → b < hi
  his : ∀ (k : Nat) u b, vs[k]? = some u → u.ownBlock = some b → b < hi
  le : hi ≤ w.heap.size
section
variable {w w' : World} {bv hi : Nat} {va : Value} {vs : List Value} {s : Ev.St}
theorem StateAt.grown {row : Option Nat} (h : StateAt w bv va vs hi s) (hg : w.grownBy w' row) (hr : ∀ q, row = some q → hi ≤ q) : StateAt w' bv va vs hi s := by
  have ne : ∀ (u : Value), (∀ b, u.ownBlock = some b → b < hi) → u.ownBlock = none ∨ u.ownBlock ≠ row := fun u hu => by
    cases hb : u.ownBlock with
    | none => exact .inl rfl
    | some b =>
      refine .inr fun e => ?_
      have := hr b e.symm
      have := hu b hb
      omega
  refine ⟨h.v.kept hg (ne _ (fun b hb => by simp [Value.ownBlock] at hb; subst hb; exact h.hiv)), ⟨h.arrs.outer.kept hg (ne _ h.hio), h.arrs.len, fun k u a hu ha => (h.arrs.row k u a hu ha).kept hg (ne _ (h.his k u · hu)), h.arrs.apart, h.arrs.out⟩, h.hiv, h.hio, h.his, Nat.le_trans h.le hg.size⟩
theorem StateAt.stays (h : StateAt w bv va vs hi s) (hb : Below w.heap.size w w') : StateAt w' bv va vs hi s := h.grown (grown_of_below hb none) (fun q e => by cases e)
theorem StateAt.cell (h : StateAt w bv va vs hi s) {p : Int} (hp : inR s.v.length p) : w.cell? ⟨bv, p.toNat, none⟩ = some (.int .i64 (Ev.val s.v p)) := by
  unfold inR at hp
  rw [h.v.cellAt p.toNat (by omega)]
  rw [List.getElem?_map]
  unfold Ev.val
  rw [List.getD_eq_getElem?_getD, List.getElem?_eq_getElem (by omega)]
  rfl
theorem StateAt.loose (h : StateAt w bv va vs hi s) (j : Nat) : w.frozen? ⟨bv, j, none⟩ = false := h.v.frozenAt j
theorem StateAt.lt (h : StateAt w bv va vs hi s) : bv < w.heap.size := Nat.lt_of_lt_of_le h.hiv h.le
theorem map_set_int (l : List Int) (j : Nat) (x : Int) : (l.set j x).map (Value.int .i64) = (l.map (Value.int .i64)).set j (.int .i64 x) := by
  rw [List.map_set]
theorem StateAt.setV (h : StateAt w bv va vs hi s) (j : Nat) (x : Int) : StateAt (w.setCell ⟨bv, j, none⟩ (.int .i64 x)) bv va vs hi { s with v := s.v.set j x } := by
  obtain ⟨h1, h2⟩ := h.v.stored j (.int .i64 x)
  refine ⟨?_, ⟨ownsRow_setCell_below h.arrs.outer (Nat.lt_succ_self _) _, h.arrs.len, fun k u a hu ha => ownsRow_setCell_below (h.arrs.row k u a hu ha) (Nat.lt_succ_self _) _, h.arrs.apart, h.arrs.out⟩, h.hiv, h.hio, h.his, by simpa using h.le⟩
  simp only [List.length_set, map_set_int]
  exact h1
/-- an array of the state: its slice in the outer row, and its cells -/
theorem Arrs.at_ {lo : Nat} {v : Value} {l : List (List Int)} (h : Arrs w lo v l vs) {k : Nat} {a : List Int} (hk : l[k]? = some a) :
    ∃ bo co A ca, v = .slice (some ⟨bo, 0, none⟩) l.length co ∧ lo ≤ bo ∧ bo < w.heap.size ∧ k < l.length ∧ l.length ≤ co ∧ co ≤ maxLen ∧ w.cell? ⟨bo, k, none⟩ = some (.slice A a.length ca) ∧ vs[k]? = some (.slice A a.length ca) ∧
      a.length ≤ ca ∧ ca ≤ maxLen ∧ (0 < a.length → ∃ g, A = some ⟨g, 0, none⟩ ∧ lo ≤ g ∧ g < w.heap.size ∧ (∀ j, w.frozen? ⟨g, j, none⟩ = false) ∧ ∀ (j : Nat) x, a[j]? = some x → w.cell? ⟨g, j, none⟩ = some (.int .i64 x)) := by
  have hkl : k < l.length := (List.getElem?_eq_some_iff.1 hk).1
  have hkv : k < vs.length := by rw [h.len]; exact hkl
  obtain ⟨u, hu⟩ : ∃ u, vs[k]? = some u := ⟨vs[k], List.getElem?_eq_getElem hkv⟩
  have hr := h.row k u a hu hk
  rcases h.outer.2 with ⟨_, e⟩ | ⟨bo, co, cur, rfl, hb, hg, hnc, hcm, _, _⟩
  · rw [e] at hkv; simp at hkv
  · have hbl : bo < w.heap.size := (Array.getElem?_eq_some_iff.1 hg).1
    have hcell := h.outer.cellAt k (by omega)
    rw [hu] at hcell
    have hlen := h.len
    rw [hlen] at hnc ⊢
    rcases hr.2 with ⟨rfl, e⟩ | ⟨g, ca, cur', rfl, hgb, hgg, hnc', hcm', _, _⟩
    · have h0 : a.length = 0 := by first | exact e | (simpa using congrArg List.length e)
      rw [h0]
      exact ⟨bo, co, none, 0, rfl, hb, hbl, hkl, hnc, hcm, hcell, hu, Nat.le_refl _, by simp [maxLen], fun h => absurd h (by omega)⟩
    · exact ⟨bo, co, _, ca, rfl, hb, hbl, hkl, hnc, hcm, hcell, hu, hnc', hcm', fun _ => ⟨g, rfl, hgb, (Array.getElem?_eq_some_iff.1 hgg).1, fun j => hr.frozenAt j, fun j x hx => by
        have hj := (List.getElem?_eq_some_iff.1 hx).1
        rw [hr.cellAt j (by omega), List.getElem?_map, hx]
        rfl⟩⟩
theorem StateAt.setA (h : StateAt w bv va vs hi s) {k g : Nat} {a : List Int} {ca : Nat} (hk : s.arrs[k]? = some a) (hu : vs[k]? = some (.slice (some ⟨g, 0, none⟩) a.length ca)) (j : Nat) (x : Int) :
    StateAt (w.setCell ⟨g, j, none⟩ (.int .i64 x)) bv va vs hi { s with arrs := s.arrs.set k (a.set j x) } := by
  have hr := h.arrs.row k _ a hu hk
  obtain ⟨h1, h2⟩ := hr.stored j (.int .i64 x)
  have hgb := (hr.lt g rfl).1
  refine ⟨ownsRow_setCell_other h.v (by simp [Value.ownBlock]; omega) _, ⟨ownsRow_setCell_other h.arrs.outer (h.arrs.out k _ g hu rfl) _, by simpa using h.arrs.len, fun k' u b hu' hb => ?_, h.arrs.apart, h.arrs.out⟩, h.hiv, h.hio, h.his, by simpa using h.le⟩
  by_cases hkk : k' = k
  · subst hkk
    rw [hu] at hu'
    injection hu' with hu'
    subst hu'
    have hb' : b = a.set j x := by
      simp only [List.getElem?_set] at hb
      split at hb
      · split at hb
        · exact (Option.some.inj hb).symm
        · cases hb
      · rename_i hne; exact absurd trivial hne
    subst hb'
    rw [List.length_set, map_set_int]
    exact h1
  · have hb' : s.arrs[k']? = some b := by
      simp only [List.getElem?_set] at hb
      rw [if_neg (fun e => hkk e.symm)] at hb
      exact hb
    refine ownsRow_setCell_other (h.arrs.row k' u b hu' hb') ?_ _
    intro e
    exact hkk (h.arrs.apart k' k u _ g hu' hu e rfl)
end
theorem own_full {w : World} {base : Nat} {e : TypeId} {n g : Nat} {xs : List Value} (h : w.ownsRow base e 1 (.slice (some ⟨g, 0, none⟩) n n) n xs) : w.heap[g]? = some (.cells xs.toArray e (0, 0)) ∧ base ≤ g := by
  rcases h.2 with ⟨h', _⟩ | ⟨g', cap, cur, h', hb, hg, _, _, hcs, htake⟩
  · simp at h'
  · simp only [Value.slice.injEq, Option.some.injEq, Addr.mk.injEq, and_true, true_and] at h'
    obtain ⟨rfl, rfl⟩ := h'
    refine ⟨?_, hb⟩
    rw [List.take_of_length_le (by simp [hcs])] at htake
    rw [← htake]
    simpa using hg
theorem own_of_full {w : World} {base : Nat} {e : TypeId} {n g : Nat} {xs : List Value} (h : w.heap[g]? = some (.cells xs.toArray e (0, 0))) (hl : xs.length = n) (hb : base ≤ g) (hm : n ≤ maxLen) : w.ownsRow base e 1 (.slice (some ⟨g, 0, none⟩) n n) n xs :=
  ⟨by simpa using hl, .inr ⟨g, n, xs.toArray, rfl, hb, h, Nat.le_refl _, hm, by simpa using hl, by simp [← hl]⟩⟩
theorem own_less {w : World} {base base' : Nat} {e : TypeId} {size n : Nat} {v : Value} {xs : List Value} (h : w.ownsRow base e size v n xs) (hl : base' ≤ base) : w.ownsRow base' e size v n xs := by
  refine ⟨h.1, ?_⟩
  rcases h.2 with hn | ⟨g, cap, cur, e1, e2, e3⟩
  · exact .inl hn
  · exact .inr ⟨g, cap, cur, e1, by omega, e3⟩
theorem Arrs.less {w : World} {lo lo' : Nat} {v : Value} {l : List (List Int)} {vs : List Value} (h : Arrs w lo v l vs) (hl : lo' ≤ lo) : Arrs w lo' v l vs :=
  ⟨own_less h.outer hl, h.len, fun k u a hu ha => own_less (h.row k u a hu ha) hl, h.apart, h.out⟩
theorem Arrs.his {w : World} {lo : Nat} {v : Value} {l : List (List Int)} {vs : List Value} (h : Arrs w lo v l vs) : ∀ (k : Nat) u b, vs[k]? = some u → u.ownBlock = some b → b < w.heap.size := fun k u b hu hb => by
  have hk : k < l.length := by
    have := (List.getElem?_eq_some_iff.1 hu).1
    rw [h.len] at this; exact this
  exact ((h.row k u _ hu (List.getElem?_eq_getElem hk)).lt b hb).2
/-- how it ended, as it reads -/
def REnded (w : World) (v : Value) (e : Ev.Ended) : Prop := ∃ va, v = .agg #[.int .i64 e.word, .bool e.trap, va] ∧ RLists w w.heap.size va e.arrays
def RLeaks (w : World) (v : Value) (l : List Ev.Leak) : Prop :=
  ∃ us : List Value, us.length = l.length ∧ SL w w.heap.size 3 v l.length (leaksCells l us) ∧ ∀ (k : Nat) u x, us[k]? = some u → l[k]? = some x → RInts w w.heap.size u x.vals
theorem Arrs.reads {w : World} {lo : Nat} {v : Value} {l : List (List Int)} {vs : List Value} (h : Arrs w lo v l vs) : RLists w w.heap.size v l := by
  refine ⟨vs, h.len, ?_, fun k u a hu ha => ?_⟩
  · have := SL.of_own h.outer
    rw [h.len] at this
    exact this
  · have := SL.of_own (h.row k u a hu ha)
    exact this
theorem Leaks.reads {w : World} {lo : Nat} {v : Value} {l : List Ev.Leak} {us : List Value} (h : Leaks w lo v l us) : RLeaks w v l := ⟨us, h.len, SL.of_own h.row, h.val⟩
theorem REnded.stays {w w' : World} {v : Value} {e : Ev.Ended} (h : REnded w v e) (hb : Below w.heap.size w w') : REnded w' v e := by
  obtain ⟨va, h1, h2⟩ := h
  exact ⟨va, h1, h2.at_ hb (Nat.le_refl _)⟩
theorem RLeaks.stays {w w' : World} {v : Value} {l : List Ev.Leak} (h : RLeaks w v l) (hb : Below w.heap.size w w') : RLeaks w' v l := by
  obtain ⟨us, h1, h2, h3⟩ := h
  exact ⟨us, h1, SL.at_ h2 hb (Nat.le_refl _), fun k u x hu hx => SL.at_ (h3 k u x hu hx) hb (Nat.le_refl _)⟩
end Go.Proofs.Ytljcgcllhcdleaa
/- Chapter 7, the reference: what an instruction reads. -/
namespace Ev
/-- what a letter of the form reads -/
def letter (i : Instr) (c : Nat) : List Int := if c = 65 then [i.a] else if c = 66 then [i.b] else if c = 67 then [i.c] else if c = 68 then [i.d] else []
def readsTo (i : Instr) (l : List Nat) : List Int := l.flatMap (letter i)
theorem letter_le (i : Instr) (c : Nat) : (letter i c).length ≤ 1 := by
  unfold letter
  repeat' split
  all_goals simp
theorem readsTo_le (i : Instr) : ∀ l : List Nat, (readsTo i l).length ≤ l.length
  | [] => by simp [readsTo]
  | c :: l => by
    have h := readsTo_le i l
    have := letter_le i c
    simp only [readsTo, List.flatMap_cons, List.length_append, List.length_cons] at h ⊢
    omega
end Ev
namespace Go.Proofs.Ytljcgcllhcdleaa
open Go.RowKit
set_option linter.unusedSimpArgs false
set_option linter.unusedVariables false
theorem readsTo_snoc (i : Ev.Instr) {l : List UInt8} {j : Nat} {c : UInt8} (h : l[j]? = some c) : Ev.readsTo i ((l.map (·.toNat)).take (j + 1)) = Ev.readsTo i ((l.map (·.toNat)).take j) ++ Ev.letter i c.toNat := by
  have h' : (l.map (·.toNat))[j]? = some c.toNat := by rw [List.getElem?_map, h]; rfl
  rw [List.take_add_one, h']
  simp [Ev.readsTo]
theorem form_letters (i : Ev.Instr) : (form i.op).size ≤ 4 ∧ (∀ c ∈ (form i.op).data.toList, c.toNat = 65 ∨ c.toNat = 66 ∨ c.toNat = 67 ∨ c.toNat = 68 ∨ c.toNat = 109) ∧ Ev.readsTo i ((form i.op).data.toList.map (·.toNat)) = Ev.reads i := by
  rcases form_cases i.op with ⟨h, hf⟩ | ⟨h, hf⟩ | ⟨h, hf⟩ | ⟨h, hf⟩ | ⟨h, hf⟩ | ⟨h, hf⟩ | ⟨h, hf⟩
  all_goals
    rw [hf]
    refine ⟨by decide, by decide, ?_⟩
    unfold Ev.reads
  · rw [if_pos h]; rfl
  · rw [if_neg (by omega), if_pos h]; rfl
  · rw [if_neg (by omega), if_neg (by omega), if_neg (by omega), if_neg (by omega)]; rfl
  · rw [if_neg (by omega), if_neg (by omega), if_neg (by omega), if_pos (by omega)]; rfl
  · rw [if_neg (by omega), if_neg (by omega), if_pos h]; rfl
  · rw [if_neg (by omega), if_neg (by omega), if_neg (by omega), if_pos (by omega)]; rfl
  · rw [if_neg (by omega), if_neg (by omega), if_neg (by omega), if_neg (by omega)]; rfl
set_option maxRecDepth 4000 in
set_option maxHeartbeats 1600000 in
theorem refReads_any (i : Ev.Instr) (w : World) :
    Calls Try.prog 36 #[.agg #[.int .i64 i.op, .int .i64 i.d, .int .i64 i.a, .int .i64 i.b, .int .i64 i.c, .int .i64 i.imm]] w fun e w' => ∃ v, e = .returned v ∧ w'.ownsRow w.heap.size 3 1 v (Ev.reads i).length ((Ev.reads i).map (Value.int .i64)) ∧ Below w.heap.size w w' := by
  obtain ⟨h4, hlet, hrd⟩ := form_letters i
  have hc := form_any i.op
  generalize Ev.reads i = res at *
  generalize form i.op = s at *
  have HF := Lib.hid hc
  have HRD := Lib.hid hrd
  have HLET := Lib.hid hlet
  obtain ⟨L, hL⟩ : ∃ L, s.data.toList = L := ⟨_, rfl⟩
  have hLs : L.length = s.size := by rw [← hL]; rfl
  have HLL := Lib.hid hL
  obtain ⟨i0, hi0, hz0, hz1, hz2⟩ := info_parts int_info
  have II := Lib.hid (⟨hi0, hz0, hz1, hz2⟩ : _ ∧ _ ∧ _ ∧ _)
  clear hlet hrd hc hL hi0 hz0 hz1 hz2
  go_enter Try.func36, Try.ntmps36
  go_wp2_with fail
  refine (HF.out _).mono ?_
  rintro e w1 ⟨rfl, hb1⟩
  obtain ⟨kc1, kf1, s1⟩ := bfacts hb1
  (try simp only [World.size_alloc, World.size_setCell, World.size_drew, World.heap_drewN, Nat.add_one_le_iff] at s1)
  (try have z1 : w.heap.size < w1.heap.size := by omega)
  have B1 : Hid (Below w.heap.size w w1) := by (show Below _ _ _); (repeat' first | with_reducible (first | exact Below.refl _ _ | assumption | refine Below.alloc ?_ ?_ _ | refine below_drewN ?_ _ | refine Below.drew ?_ | refine Below.setCell ?_ ?_ _ | refine Below.trans ?_ (Below.mono (by with_reducible assumption) ?_)) | go_size)
  obtain ⟨kd1, kg1, _⟩ := bfacts B1.out
  have cv := Lib.run_convert_string_bytes (P := Try.prog) w1 9 74 5 s Try.underlying9 Try.underlying74 Try.underlying5
  have z2 := Lib.bytesWorld_size w1 5 s
  have hcel := Lib.hid (fun j hj => Lib.bytesWorld_cell w1 5 s j hj)
  have hbw : Below w1.heap.size w1 (Lib.bytesWorld w1 5 s) := by
    exact ⟨rfl, rfl, rfl, by rw [Lib.bytesWorld_size]; omega, fun j hj => Lib.bytesWorld_at_old _ _ _ j hj⟩
  generalize Lib.bytesWorld w1 5 s = w2 at *
  generalize grownCap w1 s.size 0 5 = cap at *
  obtain ⟨kc2, kf2, s2⟩ := bfacts hbw
  have HL := Lib.hid hLs
  have BX := Lib.hid (show Below (w.heap.size + 1) (w.alloc (.cells #[.int .i64 i.op, .int .i64 i.d, .int .i64 i.a, .int .i64 i.b, .int .i64 i.c, .int .i64 i.imm] 39)) w2 by
    refine Below.trans (b := w1) ?_ (hbw.mono ?_)
    · have := hb1; simpa using this
    · have := hb1.size; simpa using this)
  clear hbw kc1 kf1 kd1 kg1
  go_wp2_with fail
  clear cv kc2 kf2
  go_loopw [3, 11] (fun o kk wr => ∃ j : Nat, j ≤ s.size ∧ kk = .int .i64 j ∧ Hid (wr.ownsRow w2.heap.size 3 1 o (Ev.readsTo i ((L.map (·.toNat)).take j)).length ((Ev.readsTo i ((L.map (·.toNat)).take j)).map (Value.int .i64))) ∧ Below w2.heap.size w2 wr) (fun _ kk _ => s.size - (intOf kk).toNat)
  case atStart => exact ⟨0, by omega, rfl, World.ownsRow_nil _ _ _ _, Below.refl _ _⟩
  case round =>
    obtain ⟨j, hj, rfl, OW, hB⟩ := hrel
    have hs3 := hB.size
    have bx1 : wr.cell? ⟨w.heap.size, 1, none⟩ = some (.int .i64 i.d) := (hB.cell (p := ⟨w.heap.size, 1, none⟩) (by go_size)).trans ((BX.out.cell (p := ⟨w.heap.size, 1, none⟩) (by go_size)).trans (by go_simp))
    have bx2 : wr.cell? ⟨w.heap.size, 2, none⟩ = some (.int .i64 i.a) := (hB.cell (p := ⟨w.heap.size, 2, none⟩) (by go_size)).trans ((BX.out.cell (p := ⟨w.heap.size, 2, none⟩) (by go_size)).trans (by go_simp))
    have bx3 : wr.cell? ⟨w.heap.size, 3, none⟩ = some (.int .i64 i.b) := (hB.cell (p := ⟨w.heap.size, 3, none⟩) (by go_size)).trans ((BX.out.cell (p := ⟨w.heap.size, 3, none⟩) (by go_size)).trans (by go_simp))
    have bx4 : wr.cell? ⟨w.heap.size, 4, none⟩ = some (.int .i64 i.c) := (hB.cell (p := ⟨w.heap.size, 4, none⟩) (by go_size)).trans ((BX.out.cell (p := ⟨w.heap.size, 4, none⟩) (by go_size)).trans (by go_simp))
    by_cases hlt : j < s.size
    · obtain ⟨c, hx⟩ : ∃ c, L[j]? = some c := ⟨L[j]'(by rw [HL.out]; exact hlt), List.getElem?_eq_getElem _⟩
      have hcc : wr.cell? ⟨w1.heap.size, j, none⟩ = some (.int .u8 c.toNat) := (hB.cell (p := ⟨w1.heap.size, j, none⟩) (by go_size)).trans (by
        have := hcel.out j hlt
        rw [HLL.out, List.getD_eq_getElem?_getD, hx] at this
        exact this)
      have hcl := HLET.out c (by rw [HLL.out]; exact List.mem_of_getElem? hx)
      have hrl := Ev.readsTo_le i ((L.map (·.toNat)).take j)
      have hrl2 : ((L.map (·.toNat)).take j).length ≤ j := List.length_take_le _ _
      rcases hcl with hc | hc | hc | hc | hc
      all_goals rw [hc] at hcc
      · -- letter 65
        have HE := Lib.hid (show Ev.readsTo i ((L.map (·.toNat)).take (j + 1)) = Ev.readsTo i ((L.map (·.toNat)).take j) ++ [i.a] by
          rw [readsTo_snoc i hx, hc]; rfl)
        generalize i.a = x at *
        go_wp2_with (at_builtin; refine wpList_append_own_at _ rfl (.tmp 18) (.tmp 21) _ rfl w2.heap.size 3 i0 (.int .i64 0) 1 8 Try.underlying42 II.out.1 II.out.2.1 II.out.2.2.1 II.out.2.2.2 rfl (by decide) _ _ _ rfl (OW.out.alloc _) ⟨wr.heap.size, 0, none⟩ 1 1 [.int .i64 x] rfl rfl (cell_one_new _ _ _) (fun x hx => by simp at hx; subst hx; rfl) (by unfold maxLen; omega) (by omega) (by simp; omega) ?_; intro v3 w3 hown3 hg3 hn3 hat3)
        replace hown3 : w3.ownsRow w2.heap.size 3 1 v3 (Ev.readsTo i ((L.map (·.toNat)).take (j + 1))).length ((Ev.readsTo i ((L.map (·.toNat)).take (j + 1))).map (Value.int .i64)) := by
          rw [HE.out, List.map_append, List.length_append]; exact hown3
        have hb3 := (hB.alloc (by omega) (.cells #[.int .i64 x] 3)).grown hg3 (by simp; omega) (fun q hq => (OW.out.lt q hq).1)
        go_wp2_with fail
        go_roundw
        case rel => exact ⟨j + 1, by omega, by go_num, hown3, hb3⟩
        case measure => simp [intOf]; omega
      · -- letter 66
        have HE := Lib.hid (show Ev.readsTo i ((L.map (·.toNat)).take (j + 1)) = Ev.readsTo i ((L.map (·.toNat)).take j) ++ [i.b] by
          rw [readsTo_snoc i hx, hc]; rfl)
        generalize i.b = x at *
        go_wp2_with (at_builtin; refine wpList_append_own_at _ rfl (.tmp 25) (.tmp 28) _ rfl w2.heap.size 3 i0 (.int .i64 0) 1 8 Try.underlying42 II.out.1 II.out.2.1 II.out.2.2.1 II.out.2.2.2 rfl (by decide) _ _ _ rfl (OW.out.alloc _) ⟨wr.heap.size, 0, none⟩ 1 1 [.int .i64 x] rfl rfl (cell_one_new _ _ _) (fun x hx => by simp at hx; subst hx; rfl) (by unfold maxLen; omega) (by omega) (by simp; omega) ?_; intro v3 w3 hown3 hg3 hn3 hat3)
        replace hown3 : w3.ownsRow w2.heap.size 3 1 v3 (Ev.readsTo i ((L.map (·.toNat)).take (j + 1))).length ((Ev.readsTo i ((L.map (·.toNat)).take (j + 1))).map (Value.int .i64)) := by
          rw [HE.out, List.map_append, List.length_append]; exact hown3
        have hb3 := (hB.alloc (by omega) (.cells #[.int .i64 x] 3)).grown hg3 (by simp; omega) (fun q hq => (OW.out.lt q hq).1)
        go_wp2_with fail
        go_roundw
        case rel => exact ⟨j + 1, by omega, by go_num, hown3, hb3⟩
        case measure => simp [intOf]; omega
      · -- letter 67
        have HE := Lib.hid (show Ev.readsTo i ((L.map (·.toNat)).take (j + 1)) = Ev.readsTo i ((L.map (·.toNat)).take j) ++ [i.c] by
          rw [readsTo_snoc i hx, hc]; rfl)
        generalize i.c = x at *
        go_wp2_with (at_builtin; refine wpList_append_own_at _ rfl (.tmp 32) (.tmp 35) _ rfl w2.heap.size 3 i0 (.int .i64 0) 1 8 Try.underlying42 II.out.1 II.out.2.1 II.out.2.2.1 II.out.2.2.2 rfl (by decide) _ _ _ rfl (OW.out.alloc _) ⟨wr.heap.size, 0, none⟩ 1 1 [.int .i64 x] rfl rfl (cell_one_new _ _ _) (fun x hx => by simp at hx; subst hx; rfl) (by unfold maxLen; omega) (by omega) (by simp; omega) ?_; intro v3 w3 hown3 hg3 hn3 hat3)
        replace hown3 : w3.ownsRow w2.heap.size 3 1 v3 (Ev.readsTo i ((L.map (·.toNat)).take (j + 1))).length ((Ev.readsTo i ((L.map (·.toNat)).take (j + 1))).map (Value.int .i64)) := by
          rw [HE.out, List.map_append, List.length_append]; exact hown3
        have hb3 := (hB.alloc (by omega) (.cells #[.int .i64 x] 3)).grown hg3 (by simp; omega) (fun q hq => (OW.out.lt q hq).1)
        go_wp2_with fail
        go_roundw
        case rel => exact ⟨j + 1, by omega, by go_num, hown3, hb3⟩
        case measure => simp [intOf]; omega
      · -- letter 68
        have HE := Lib.hid (show Ev.readsTo i ((L.map (·.toNat)).take (j + 1)) = Ev.readsTo i ((L.map (·.toNat)).take j) ++ [i.d] by
          rw [readsTo_snoc i hx, hc]; rfl)
        generalize i.d = x at *
        go_wp2_with (at_builtin; refine wpList_append_own_at _ rfl (.tmp 39) (.tmp 42) _ rfl w2.heap.size 3 i0 (.int .i64 0) 1 8 Try.underlying42 II.out.1 II.out.2.1 II.out.2.2.1 II.out.2.2.2 rfl (by decide) _ _ _ rfl (OW.out.alloc _) ⟨wr.heap.size, 0, none⟩ 1 1 [.int .i64 x] rfl rfl (cell_one_new _ _ _) (fun x hx => by simp at hx; subst hx; rfl) (by unfold maxLen; omega) (by omega) (by simp; omega) ?_; intro v3 w3 hown3 hg3 hn3 hat3)
        replace hown3 : w3.ownsRow w2.heap.size 3 1 v3 (Ev.readsTo i ((L.map (·.toNat)).take (j + 1))).length ((Ev.readsTo i ((L.map (·.toNat)).take (j + 1))).map (Value.int .i64)) := by
          rw [HE.out, List.map_append, List.length_append]; exact hown3
        have hb3 := (hB.alloc (by omega) (.cells #[.int .i64 x] 3)).grown hg3 (by simp; omega) (fun q hq => (OW.out.lt q hq).1)
        go_wp2_with fail
        go_roundw
        case rel => exact ⟨j + 1, by omega, by go_num, hown3, hb3⟩
        case measure => simp [intOf]; omega
      · -- the last one
        have HE := Lib.hid (show Ev.readsTo i ((L.map (·.toNat)).take (j + 1)) = Ev.readsTo i ((L.map (·.toNat)).take j) by
          rw [readsTo_snoc i hx, hc]; exact List.append_nil _)
        go_wp2_with fail
        go_roundw
        case rel => exact ⟨j + 1, by omega, by go_num, by rw [HE.out]; exact OW.out, hB⟩
        case measure => simp [intOf]; omega
    · have hje : j = s.size := by omega
      subst hje
      go_wp2
      go_ret
      have h := OW.out
      have e : (L.map (·.toNat)).take s.size = L.map (·.toNat) := List.take_of_length_le (by rw [List.length_map, HL.out]; exact Nat.le_refl _)
      rw [e, ← HLL.out, HRD.out] at h
      refine ⟨_, rfl, own_less h (by omega), ?_⟩
      have := BX.out
      have hb4 : Below w.heap.size w w2 := by (repeat' first | with_reducible (first | exact Below.refl _ _ | assumption | refine Below.alloc ?_ ?_ _ | refine below_drewN ?_ _ | refine Below.drew ?_ | refine Below.setCell ?_ ?_ _ | refine Below.trans ?_ (Below.mono (by with_reducible assumption) ?_)) | go_size)
      (repeat' first | with_reducible (first | exact Below.refl _ _ | assumption | refine Below.alloc ?_ ?_ _ | refine below_drewN ?_ _ | refine Below.drew ?_ | refine Below.setCell ?_ ?_ _ | refine Below.trans ?_ (Below.mono (by with_reducible assumption) ?_)) | go_size)
end Go.Proofs.Ytljcgcllhcdleaa
/- A drawn region whose operations leave the same values in whatever order: it is walked once, in the order of its text. -/
namespace Go.Proofs.Ytljcgcllhcdleaa
open Go.RowKit

/-- every operation waits for those whose slots it looks at; no slot is written twice; the text's order is one of those that may be -/
def orderly (ops : Array Oper) : Bool :=
  Region.noSelect ops && (List.range ops.size).all fun j => match ops[j]? with
    | none => true
    | some oj => oj.after.all (fun e => !Region.binds .any e || decide (e.on < j)) && (List.range ops.size).all fun i => match ops[i]? with
      | none => true
      | some oi => match oi.dst with
        | none => true
        | some d => (i == j || oj.dst != some d) && (!(oj.looksAt ops).contains d || oj.after.any (fun e => e.on == i && Region.binds .any e))

theorem orderly_spec {ops : Array Oper} (h : orderly ops = true) {j : Nat} {oj : Oper} (hj : ops[j]? = some oj) :
    (∀ e ∈ oj.after, Region.binds .any e = true → e.on < j) ∧ ∀ i oi d, ops[i]? = some oi → oi.dst = some d → (i ≠ j → oj.dst ≠ some d) ∧ (d ∈ oj.looksAt ops → ∃ e ∈ oj.after, e.on = i ∧ Region.binds .any e = true) := by
  unfold orderly at h
  rw [Bool.and_eq_true, List.all_eq_true] at h
  have h1 := h.2 j (by rw [List.mem_range]; exact (Array.getElem?_eq_some_iff.1 hj).1)
  simp only [hj, Bool.and_eq_true, Array.all_eq_true_iff_forall_mem, List.all_eq_true, Bool.or_eq_true, Bool.not_eq_true', decide_eq_true_eq] at h1
  refine ⟨fun e he hb => (h1.1 e he).resolve_left (by simp [hb]), fun i oi d hi hd => ?_⟩
  have h2 := h1.2 i (by rw [List.mem_range]; exact (Array.getElem?_eq_some_iff.1 hi).1)
  simp only [hi, hd, Bool.and_eq_true, Bool.or_eq_true, beq_iff_eq, bne_iff_ne, ne_eq, Bool.not_eq_true'] at h2
  refine ⟨fun hne => h2.1.resolve_left hne, fun hm => ?_⟩
  rcases h2.2 with h3 | h3
  · rw [List.contains_eq_mem] at h3
    exact absurd hm (by simpa using h3)
  · obtain ⟨e, he, hb⟩ := Array.any_eq_true'.1 h3
    exact ⟨e, he, by simpa using hb⟩

/-- what an operation does hangs on the slots that it looks at -/
theorem look_congr {ops : Array Oper} (o : Oper) (hs : ∀ cs b, o.op ≠ .select cs b) (a b : Act) (h : ∀ t ∈ o.looksAt ops, a.tmps[t]? = b.tmps[t]?) :
    execOp a.eval o = execOp b.eval o ∧ Region.wanted o (yielded ops a.tmps) = Region.wanted o (yielded ops b.tmps) := by
  constructor
  · refine execOp_congr o hs fun x hx => ?_
    cases x with
    | tmp t =>
      have := h t (by
        unfold Oper.looksAt
        rw [List.mem_append, List.mem_filterMap]
        exact .inl ⟨.tmp t, by simpa using hx, rfl⟩)
      simp [Act.eval, Array.getD_eq_getD_getElem?, this]
    | _ => rfl
  · unfold Region.wanted
    cases hg : o.guard with
    | none => rfl
    | some gw =>
      obtain ⟨g, want⟩ := gw
      have hy : yielded ops a.tmps g = yielded ops b.tmps g := by
        unfold yielded
        cases ht : (ops[g]?).bind (·.dst) with
        | none => rfl
        | some t =>
          have := h t (by simp [Oper.looksAt, hg, ht])
          simp [this]
      simp only [hy]

section
variable {P : Program} {ops : Array Oper} {S : World → Prop}

/-- the way out: a1, and a right world -/
def settled (S : World → Prop) (a1 : Act) : Exit → Act → World → Prop := fun e a' w' => e = .normal ∧ a' = a1 ∧ S w'
theorem settled_intro {a1 : Act} {w : World} (h : S w) : settled S a1 .normal a1 w := ⟨rfl, rfl, h⟩

/-- one operation, from every world that is right, leaves what is to be left, and a right world -/
def does1 (P : Program) (ops : Array Oper) (S : World → Prop) (o : Oper) (a a1 : Act) : Prop :=
  ∀ w, S w → wpList P ops (settled S a1) [o] a w

/-- the acts of the text's order -/
inductive chain (P : Program) (ops : Array Oper) (S : World → Prop) (K : Act → Prop) : List Oper → Act → Prop
  | nil {a : Act} : K a → chain P ops S K [] a
  | cons {o : Oper} {rest : List Oper} {a : Act} (v : Value) : does1 P ops S o a (a.put o.dst v) → chain P ops S K rest (a.put o.dst v) → chain P ops S K (o :: rest) a

theorem chain_cons {K : Act → Prop} {o : Oper} {rest : List Oper} {a a1 : Act} (h : does1 P ops S o a a1) (hp : a1 = a.put o.dst (a1.eval (.tmp (o.dst.getD 0)))) (hr : chain P ops S K rest a1) : chain P ops S K (o :: rest) a := by
  refine .cons (a1.eval (.tmp (o.dst.getD 0))) ?_ ?_
  · rw [← hp]; exact h
  · rw [← hp]; exact hr

/-- the acts: after k operations -/
def actAt (l : List Oper) (F : Nat → Value) (a : Act) : Nat → Act
  | 0 => a
  | k + 1 => match l[k]? with
    | none => actAt l F a k
    | some o => (actAt l F a k).put o.dst (F k)

theorem actAt_cons (o : Oper) (l : List Oper) (F : Nat → Value) (a : Act) : ∀ k, actAt (o :: l) F a (k + 1) = actAt l (fun i => F (i + 1)) (a.put o.dst (F 0)) k
  | 0 => by simp [actAt]
  | k + 1 => by
    have ih := actAt_cons o l F a k
    show (match (o :: l)[k + 1]? with | none => actAt (o :: l) F a (k + 1) | some o' => (actAt (o :: l) F a (k + 1)).put o'.dst (F (k + 1))) = _
    rw [ih]
    simp [actAt]

theorem chain_acts {K : Act → Prop} : ∀ (l : List Oper) (a : Act), chain P ops S K l a → ∃ F : Nat → Value, K (actAt l F a l.length) ∧ ∀ k o, l[k]? = some o → does1 P ops S o (actAt l F a k) (actAt l F a (k + 1))
  | [], a, .nil h => ⟨fun _ => undef, h, fun k o hk => by simp at hk⟩
  | o :: l, a, .cons v h1 h2 => by
    obtain ⟨F, hK, hF⟩ := chain_acts l (a.put o.dst v) h2
    refine ⟨fun i => match i with | 0 => v | i + 1 => F i, ?_, fun k o' hk => ?_⟩
    · rw [List.length_cons, actAt_cons]
      exact hK
    · cases k with
      | zero =>
        simp at hk
        subst hk
        simpa [actAt] using h1
      | succ k =>
        have := hF k o' (by simpa using hk)
        rw [actAt_cons, actAt_cons]
        exact this

theorem put_size (a : Act) (x : Option Tmp) (v : Value) : (a.put x v).tmps.size = a.tmps.size := by cases x <;> simp [Act.put]
theorem put_defers' (a : Act) (x : Option Tmp) (v : Value) : (a.put x v).defers = a.defers := by cases x <;> rfl
theorem put_other (a : Act) (x : Option Tmp) (v : Value) (t : Tmp) (h : x ≠ some t) : (a.put x v).tmps[t]? = a.tmps[t]? := by
  cases x with
  | none => rfl
  | some d => exact Array.getElem?_setIfInBounds_ne (fun e => h (by rw [e]))
theorem put_same {a b : Act} {x : Option Tmp} {v u : Value} (h : a.put x u = a.put x v) (hs : a.tmps.size = b.tmps.size) : b.put x u = b.put x v := by
  cases x with
  | none => rfl
  | some d =>
    rcases Nat.lt_or_ge d a.tmps.size with hd | hd
    · have h1 := congrArg (fun z : Act => z.tmps[d]?) h
      simp only [Act.put, Array.getElem?_setIfInBounds_self_of_lt hd, Option.some.injEq] at h1
      rw [h1]
    · have hb : b.tmps.size ≤ d := by omega
      simp [Act.put, Array.setIfInBounds_eq_of_size_le hb]
theorem put_at {a b : Act} {d : Tmp} {v : Value} (hs : a.tmps.size = b.tmps.size) : (a.put (some d) v).tmps[d]? = (b.put (some d) v).tmps[d]? := by
  simp [Act.put, hs, Array.getElem?_setIfInBounds]

theorem actAt_size (l : List Oper) (F : Nat → Value) (a : Act) : ∀ k, (actAt l F a k).tmps.size = a.tmps.size
  | 0 => rfl
  | k + 1 => by
    unfold actAt
    cases l[k]? <;> simp [put_size, actAt_size l F a k]
theorem actAt_defers (l : List Oper) (F : Nat → Value) (a : Act) : ∀ k, (actAt l F a k).defers = a.defers
  | 0 => rfl
  | k + 1 => by
    unfold actAt
    cases l[k]? <;> simp [put_defers', actAt_defers l F a k]
/-- a slot that nobody writes between -/
theorem actAt_still (l : List Oper) (F : Nat → Value) (a : Act) (t : Tmp) (k : Nat) : ∀ n, (∀ i o, k ≤ i → i < k + n → l[i]? = some o → o.dst ≠ some t) → (actAt l F a (k + n)).tmps[t]? = (actAt l F a k).tmps[t]?
  | 0, _ => rfl
  | n + 1, h => by
    rw [← Nat.add_assoc]
    have ih := actAt_still l F a t k n (fun i o h1 h2 h3 => h i o h1 (by omega) h3)
    show (match l[k + n]? with | none => actAt l F a (k + n) | some o => (actAt l F a (k + n)).put o.dst (F (k + n))).tmps[t]? = _
    cases ho : l[k + n]? with
    | none => exact ih
    | some o => rw [← ih]; exact put_other _ _ _ _ (h (k + n) o (by omega) (by omega) ho)

/-- where the walk stands: what is listed has its value; the rest is as it was -/
structure Stands (l : List Oper) (F : Nat → Value) (a0 : Act) (listed : Array Bool) (a : Act) : Prop where
  defers : a.defers = a0.defers
  size : a.tmps.size = a0.tmps.size
  yes : ∀ i o t, l[i]? = some o → o.dst = some t → listed.getD i true = true → a.tmps[t]? = (actAt l F a0 l.length).tmps[t]?
  no : ∀ t, (∀ i o, l[i]? = some o → o.dst = some t → listed.getD i true = false) → a.tmps[t]? = a0.tmps[t]?

theorem exists_least {p : Nat → Bool} : ∀ n, p n = true → ∃ m, m ≤ n ∧ p m = true ∧ ∀ k, k < m → p k = false
  | n, h => by
    induction n using Nat.strongRecOn with
    | ind n ih =>
      by_cases hx : ∃ k, k < n ∧ p k = true
      · obtain ⟨k, hk, hp⟩ := hx
        obtain ⟨m, hm, h1, h2⟩ := ih k hk hp
        exact ⟨m, by omega, h1, h2⟩
      · exact ⟨n, Nat.le_refl _, h, fun k hk => by
          cases hp : p k with
          | false => rfl
          | true => exact absurd ⟨k, hk, hp⟩ hx⟩

theorem ready_none {listed : Array Bool} (ho : orderly ops = true) (h : Region.ready .any ops listed = []) (hs : listed.size = ops.size) : ∀ i, i < ops.size → listed.getD i true = true := by
  intro i hi
  cases hx : listed.getD i true with
  | true => rfl
  | false =>
    exfalso
    obtain ⟨m, hm, h1, h2⟩ := exists_least (p := fun k => !listed.getD k true) i (by simp only [hx]; rfl)
    have hml : m < ops.size := by omega
    have hrd : m ∈ Region.ready .any ops listed := by
      rw [mem_ready]
      refine ⟨by simpa using h1, ops[m], by simp [hml], fun e he hb => ?_⟩
      have hlt := (orderly_spec ho (j := m) (oj := ops[m]) (by simp [hml])).1 e he hb
      have h3 := h2 e.on hlt
      have hel : e.on < listed.size := by omega
      simp [hel] at h3 ⊢
      exact h3
    rw [h] at hrd
    cases hrd

variable {Q : Exit → Act → World → Prop}
theorem does1_wpOp {j : Nat} {o : Oper} {A A1 a : Act} {K : Act → World → Prop} {v : Value} (hj : ops[j]? = some o) (hs : ∀ cs b, o.op ≠ .select cs b)
    (h : does1 P ops S o A A1) (hA : A1 = A.put o.dst v) (hlook : ∀ t ∈ o.looksAt ops, A.tmps[t]? = a.tmps[t]?) (hsz : A.tmps.size = a.tmps.size) {w : World} (hS : S w)
    (hK : ∀ w', S w' → K (a.put o.dst v) w') : wpOp P ops Q j K a w := by
  obtain ⟨he, hw⟩ := look_congr o hs A a hlook
  have h1 := h w hS
  unfold wpOp
  simp only [hj]
  unfold wpList at h1
  rw [hw] at h1
  split
  · rename_i hwt
    rw [if_pos hwt] at h1
    refine .inl ?_
    rcases h1 with h1 | ⟨_, a', w', h1, _⟩
    case inr => cases h1
    unfold Oper.wp at *
    rw [he] at h1
    have fin : ∀ u w', wpList P ops (settled S A1) [] (A.put o.dst u) w' → K (a.put o.dst u) w' := fun u w' h2 => by
      obtain ⟨_, h3, h4⟩ := h2
      rw [hA] at h3
      rw [put_same h3 hsz]
      exact hK w' h4
    generalize (execOp a.eval o).run P w = r at *
    cases r with
    | ok n w' =>
      cases n <;> simp only [Oper.upon] at h1 ⊢
      case value u => exact fin u w' h1
      case skip => exact fin undef w' h1
      case defer d =>
        obtain ⟨_, h3, _⟩ := h1
        rw [hA] at h3
        have := congrArg Act.defers h3
        rw [put_defers', put_defers'] at this
        exact absurd (congrArg List.length this) (by simp)
      case enter f args =>
        refine Calls.mono h1 fun e w'' he => ?_
        cases e with
        | returned u => exact fin u w'' he
        | panicked c => exact absurd he.1 (by simp)
        | outgrown => obtain ⟨a', w', h2, _⟩ := he; cases h2
      case row row args => exact Rows.mono h1 fun u w'' he => fin u w'' he
    | halt x w' =>
      cases x <;> simp only [Oper.upon] at h1 ⊢
      case panic u => exact absurd h1.1 (by simp)
  · rename_i hwt
    rw [if_neg hwt] at h1
    obtain ⟨_, h3, h4⟩ := h1
    rw [hA] at h3
    rw [put_same h3 hsz]
    exact hK w h4

theorem wpAny_chain {l : List Oper} {F : Nat → Value} {a0 : Act} (ho : orderly l.toArray = true)
    (hF : ∀ k o, l[k]? = some o → does1 P l.toArray S o (actAt l F a0 k) (actAt l F a0 (k + 1)))
    (hK : ∀ w, S w → Q .normal (actAt l F a0 l.length) w) :
    ∀ (fuel : Nat) (listed : Array Bool) (a : Act) (w : World), listed.size = l.length → (listed.toList.countP (· == false)) = fuel → Stands l F a0 listed a → S w → wpAny P .any l.toArray Q fuel listed a w := by
  have hsel := Region.noSelect_spec (ops := l.toArray) (by unfold orderly at ho; exact (Bool.and_eq_true _ _ ▸ ho).1)
  have wr : ∀ (i j : Nat) (o o' : Oper) (t : Tmp), l[i]? = some o → l[j]? = some o' → o.dst = some t → o'.dst = some t → i = j := fun i j o o' t hi hj h1 h2 => by
    rcases Nat.lt_trichotomy i j with h | h | h
    · exact absurd h2 (((orderly_spec ho (j := j) (oj := o') (by simpa using hj)).2 i o t (by simpa using hi) h1).1 (by omega))
    · exact h
    · exact absurd h2 (((orderly_spec ho (j := j) (oj := o') (by simpa using hj)).2 i o t (by simpa using hi) h1).1 (by omega))
  have done : ∀ (listed : Array Bool) (a : Act) (w : World), listed.size = l.length → (∀ i, i < l.length → listed.getD i true = true) → Stands l F a0 listed a → S w → Q .normal a w := fun listed a w hsz hall hst hS => by
    have : a = actAt l F a0 l.length := by
      have e1 : a.tmps = (actAt l F a0 l.length).tmps := by
        have pt : ∀ t : Nat, a.tmps[t]? = (actAt l F a0 l.length).tmps[t]? := fun t => by
          by_cases hx : ∃ (i : Nat) (o : Oper), l[i]? = some o ∧ o.dst = some t
          · obtain ⟨i, o, hi, hd⟩ := hx
            exact hst.yes i o t hi hd (hall i (List.getElem?_eq_some_iff.1 hi).1)
          · have h1 := hst.no t (fun i o hi hd => absurd ⟨i, o, hi, hd⟩ hx)
            have h2 := actAt_still l F a0 t 0 l.length (fun i o _ _ hi hd => hx ⟨i, o, hi, hd⟩)
            rw [Nat.zero_add] at h2
            rw [h1, h2]
            rfl
        apply Array.ext_getElem?
        intro t
        exact pt t
      have e2 : a.defers = (actAt l F a0 l.length).defers := by rw [hst.defers, actAt_defers]
      cases a
      simp only at e1 e2
      rw [e1, e2]
    rw [this]
    exact hK w hS
  intro fuel
  induction fuel with
  | zero =>
    intro listed a w hsz hc hst hS
    have hall : ∀ i, i < l.length → listed.getD i true = true := fun i hi => by
      rw [List.countP_eq_zero] at hc
      have hil : i < listed.size := by omega
      have := hc listed[i] (by simp)
      simp [hil] at this ⊢
      exact this
    refine ⟨?_, done listed a w hsz hall hst hS⟩
    cases hr : Region.ready .any l.toArray listed with
    | nil => rfl
    | cons x xs =>
      have hm : x ∈ Region.ready .any l.toArray listed := by rw [hr]; exact List.mem_cons_self
      obtain ⟨h1, o, h2, _⟩ := mem_ready.1 hm
      rw [hall x (by have := (Array.getElem?_eq_some_iff.1 h2).1; simpa using this)] at h1
      cases h1
  | succ fuel ih =>
    intro listed a w hsz hc hst hS
    refine ⟨fun hr => done listed a w hsz (fun i hi => ready_none ho hr (by simpa using hsz) i (by simpa using hi)) hst hS, fun j hj => ?_⟩
    obtain ⟨hjun, oj, hoj, hdeps⟩ := mem_ready.1 hj
    have hlj : l[j]? = some oj := by simpa using hoj
    have hjl : j < l.length := (List.getElem?_eq_some_iff.1 hlj).1
    have hA : actAt l F a0 (j + 1) = (actAt l F a0 j).put oj.dst (F j) := by
      show (match l[j]? with | none => _ | some o => _) = _
      rw [hlj]
    obtain ⟨hlt, hsp⟩ := orderly_spec ho hoj
    have still : ∀ (i : Nat) (o : Oper) (t : Tmp), l[i]? = some o → o.dst = some t → ∀ k, i < k → k ≤ l.length → (actAt l F a0 l.length).tmps[t]? = (actAt l F a0 k).tmps[t]? := fun i o t hi hd k hk hkl => by
      have := actAt_still l F a0 t k (l.length - k) (fun i' o' h1 _ h3 h4 => by have := wr i i' o o' t hi h3 hd h4; omega)
      rw [← this, show k + (l.length - k) = l.length from by omega]
    refine does1_wpOp hoj (fun cs b => hsel j oj cs b hoj) (hF j oj hlj) hA (fun t ht => ?_) (by rw [actAt_size, hst.size]) hS (fun w' hS' => ?_)
    · by_cases hx : ∃ (i : Nat) (o : Oper), l[i]? = some o ∧ o.dst = some t
      · obtain ⟨i, o, hi, hd⟩ := hx
        obtain ⟨e, he, heq, hb⟩ := (hsp i o t (by simpa using hi) hd).2 ht
        have hl := hdeps e he hb
        rw [heq] at hl
        have hij : i < j := by have := hlt e he hb; omega
        have hil : i < listed.size := by omega
        rw [hst.yes i o t hi hd (by simp [hil] at hl ⊢; exact hl)]
        exact (still i o t hi hd j hij (by omega)).symm
      · rw [hst.no t (fun i o hi hd => absurd ⟨i, o, hi, hd⟩ hx)]
        have h2 := actAt_still l F a0 t 0 j (fun i o _ _ hi hd => hx ⟨i, o, hi, hd⟩)
        rw [Nat.zero_add] at h2
        exact h2
    · have hjl' : j < listed.size := by omega
      have hjf : listed[j] = false := by simpa [hjl'] using hjun
      refine ih (listed.setIfInBounds j true) _ w' (by simpa using hsz) ?_ ⟨by rw [put_defers', hst.defers], by rw [put_size, hst.size], fun i o t hi hd hl => ?_, fun t hno => ?_⟩ hS'
      · rw [Array.setIfInBounds, dif_pos hjl', Array.toList_set, List.countP_set (by simpa using hjl')]
        rw [hc]
        simp [hjf]
      · by_cases hij : i = j
        · subst hij
          rw [hlj] at hi
          injection hi with hi
          subst hi
          rw [still i oj t hlj hd (i + 1) (by omega) (by omega), hA, hd]
          exact put_at (by rw [actAt_size, hst.size])
        · have hne : oj.dst ≠ some t := fun hd' => hij (wr i j o oj t hi hlj hd hd')
          rw [put_other _ _ _ _ hne]
          exact hst.yes i o t hi hd (by rw [getD_set_ne true (Ne.symm hij)] at hl; exact hl)
      · have hne : oj.dst ≠ some t := fun hd' => by
          have := hno j oj hlj hd'
          simp [hjl'] at this
        rw [put_other _ _ _ _ hne]
        refine hst.no t fun i o hi hd => ?_
        have h1 := hno i o hi hd
        by_cases hij : i = j
        · subst hij; simp [hjl'] at h1
        · rw [getD_set_ne true (Ne.symm hij)] at h1; exact h1

/-- **A drawn region, in the order of its text**, if in whatever right world each operation leaves the same, and a right world. -/
theorem wp_region_chain {id : Nat} {l : List Oper} {a : Act} {w : World} (S : World → Prop) (hm : P.follows .mixedOrders = true) (ho : orderly l.toArray = true) (hS : S w.drew)
    (h : chain P l.toArray S (fun a' => ∀ w', S w' → Q .normal a' w') l a) : (Code.region id l.toArray true).wp P Q a w := by
  obtain ⟨F, hK, hF⟩ := chain_acts l a h
  refine wp_region_any hm ?_
  refine wpAny_chain ho hF hK _ _ a _ (by simp) (by simp [List.countP_replicate]) ⟨rfl, rfl, fun i o t hi _ hl => ?_, fun _ _ => rfl⟩ hS
  have : i < l.length := (List.getElem?_eq_some_iff.1 hi).1
  simp [this] at hl
end
end Go.Proofs.Ytljcgcllhcdleaa
