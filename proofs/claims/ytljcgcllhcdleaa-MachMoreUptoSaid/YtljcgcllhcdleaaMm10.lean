import Derived.Test.YtljcgcllhcdleaaMm8
import Derived.Test.YtljcgcllhcdleaaMm9
/- The memory of a run: the places' row, the arrays' rows. -/
namespace Go.Proofs.Ytljcgcllhcdleaa
open Go.RowKit
set_option linter.unusedSimpArgs false
set_option linter.unusedVariables false
/-- the state lies in rows from bv on, below hi -/
structure StateAt (w : World) (bv : Nat) (va : Value) (vs : List Value) (hi : Nat) (s : Ev.St) : Prop where
  v : w.ownsRow bv 3 1 (.slice (some ⟨bv, 0, none⟩) s.v.length s.v.length) s.v.length (s.v.map (Value.int .i64))
  arrs : Arrs w (bv + 1) va s.arrs vs
  hiv : bv < hi
  hio : ∀ b, va.ownBlock = some b → b < hi
  his : ∀ (k : Nat) u b, vs[k]? = some u → u.ownBlock = some b → b < hi
  le : hi ≤ w.heap.size
section
variable {w w' : World} {bv hi : Nat} {va : Value} {vs : List Value} {s : Ev.St}
theorem StateAt.grown {row : Option Nat} (h : StateAt w bv va vs hi s) (hg : w.grownBy w' row) (hr : ∀ q, row = some q → hi ≤ q) : StateAt w' bv va vs hi s := by
  have ne : ∀ (u : Value), (∀ b, u.ownBlock = some b → b < hi) → u.ownBlock = none ∨ u.ownBlock ≠ row := fun u hu => by
    cases hb : u.ownBlock with
    | none => exact .inl rfl
    | some b =>
      refine .inr fun e => ?_
      have := hr b e.symm
      have := hu b hb
      omega
  refine ⟨h.v.kept hg (ne _ (fun b hb => by simp [Value.ownBlock] at hb; subst hb; exact h.hiv)), ⟨h.arrs.outer.kept hg (ne _ h.hio), h.arrs.len, fun k u a hu ha => (h.arrs.row k u a hu ha).kept hg (ne _ (h.his k u · hu)), h.arrs.apart, h.arrs.out⟩, h.hiv, h.hio, h.his, Nat.le_trans h.le hg.size⟩
theorem StateAt.stays (h : StateAt w bv va vs hi s) (hb : Below w.heap.size w w') : StateAt w' bv va vs hi s := h.grown (grown_of_below hb none) (fun q e => by cases e)
theorem StateAt.cell (h : StateAt w bv va vs hi s) {p : Int} (hp : inR s.v.length p) : w.cell? ⟨bv, p.toNat, none⟩ = some (.int .i64 (Ev.val s.v p)) := by
  unfold inR at hp
  rw [h.v.cellAt p.toNat (by omega)]
  rw [List.getElem?_map]
  unfold Ev.val
  rw [List.getD_eq_getElem?_getD, List.getElem?_eq_getElem (by omega)]
  rfl
theorem StateAt.loose (h : StateAt w bv va vs hi s) (j : Nat) : w.frozen? ⟨bv, j, none⟩ = false := h.v.frozenAt j
theorem StateAt.lt (h : StateAt w bv va vs hi s) : bv < w.heap.size := Nat.lt_of_lt_of_le h.hiv h.le
theorem map_set_int (l : List Int) (j : Nat) (x : Int) : (l.set j x).map (Value.int .i64) = (l.map (Value.int .i64)).set j (.int .i64 x) := by
  rw [List.map_set]
theorem StateAt.setV (h : StateAt w bv va vs hi s) (j : Nat) (x : Int) : StateAt (w.setCell ⟨bv, j, none⟩ (.int .i64 x)) bv va vs hi { s with v := s.v.set j x } := by
  obtain ⟨h1, h2⟩ := h.v.stored j (.int .i64 x)
  refine ⟨?_, ⟨ownsRow_setCell_below h.arrs.outer (Nat.lt_succ_self _) _, h.arrs.len, fun k u a hu ha => ownsRow_setCell_below (h.arrs.row k u a hu ha) (Nat.lt_succ_self _) _, h.arrs.apart, h.arrs.out⟩, h.hiv, h.hio, h.his, by simpa using h.le⟩
  simp only [List.length_set, map_set_int]
  exact h1
/-- an array of the state: its slice in the outer row, and its cells -/
theorem Arrs.at_ {lo : Nat} {v : Value} {l : List (List Int)} (h : Arrs w lo v l vs) {k : Nat} {a : List Int} (hk : l[k]? = some a) :
    ∃ bo co A ca, v = .slice (some ⟨bo, 0, none⟩) l.length co ∧ lo ≤ bo ∧ bo < w.heap.size ∧ k < l.length ∧ l.length ≤ co ∧ co ≤ maxLen ∧ w.cell? ⟨bo, k, none⟩ = some (.slice A a.length ca) ∧ vs[k]? = some (.slice A a.length ca) ∧
      a.length ≤ ca ∧ ca ≤ maxLen ∧ (0 < a.length → ∃ g, A = some ⟨g, 0, none⟩ ∧ lo ≤ g ∧ g < w.heap.size ∧ (∀ j, w.frozen? ⟨g, j, none⟩ = false) ∧ ∀ (j : Nat) x, a[j]? = some x → w.cell? ⟨g, j, none⟩ = some (.int .i64 x)) := by
  have hkl : k < l.length := (List.getElem?_eq_some_iff.1 hk).1
  have hkv : k < vs.length := by rw [h.len]; exact hkl
  obtain ⟨u, hu⟩ : ∃ u, vs[k]? = some u := ⟨vs[k], List.getElem?_eq_getElem hkv⟩
  have hr := h.row k u a hu hk
  rcases h.outer.2 with ⟨_, e⟩ | ⟨bo, co, cur, rfl, hb, hg, hnc, hcm, _, _⟩
  · rw [e] at hkv; simp at hkv
  · have hbl : bo < w.heap.size := (Array.getElem?_eq_some_iff.1 hg).1
    have hcell := h.outer.cellAt k (by omega)
    rw [hu] at hcell
    have hlen := h.len
    rw [hlen] at hnc ⊢
    rcases hr.2 with ⟨rfl, e⟩ | ⟨g, ca, cur', rfl, hgb, hgg, hnc', hcm', _, _⟩
    · have h0 : a.length = 0 := by first | exact e | (simpa using congrArg List.length e)
      rw [h0]
      exact ⟨bo, co, none, 0, rfl, hb, hbl, hkl, hnc, hcm, hcell, hu, Nat.le_refl _, by simp [maxLen], fun h => absurd h (by omega)⟩
    · exact ⟨bo, co, _, ca, rfl, hb, hbl, hkl, hnc, hcm, hcell, hu, hnc', hcm', fun _ => ⟨g, rfl, hgb, (Array.getElem?_eq_some_iff.1 hgg).1, fun j => hr.frozenAt j, fun j x hx => by
        have hj := (List.getElem?_eq_some_iff.1 hx).1
        rw [hr.cellAt j (by omega), List.getElem?_map, hx]
        rfl⟩⟩
theorem StateAt.setA (h : StateAt w bv va vs hi s) {k g : Nat} {a : List Int} {ca : Nat} (hk : s.arrs[k]? = some a) (hu : vs[k]? = some (.slice (some ⟨g, 0, none⟩) a.length ca)) (j : Nat) (x : Int) :
    StateAt (w.setCell ⟨g, j, none⟩ (.int .i64 x)) bv va vs hi { s with arrs := s.arrs.set k (a.set j x) } := by
  have hr := h.arrs.row k _ a hu hk
  obtain ⟨h1, h2⟩ := hr.stored j (.int .i64 x)
  have hgb := (hr.lt g rfl).1
  refine ⟨ownsRow_setCell_other h.v (by simp [Value.ownBlock]; omega) _, ⟨ownsRow_setCell_other h.arrs.outer (h.arrs.out k _ g hu rfl) _, by simpa using h.arrs.len, fun k' u b hu' hb => ?_, h.arrs.apart, h.arrs.out⟩, h.hiv, h.hio, h.his, by simpa using h.le⟩
  by_cases hkk : k' = k
  · subst hkk
    rw [hu] at hu'
    injection hu' with hu'
    subst hu'
    have hb' : b = a.set j x := by
      simp only [List.getElem?_set] at hb
      split at hb
      · split at hb
        · exact (Option.some.inj hb).symm
        · cases hb
      · rename_i hne; exact absurd trivial hne
    subst hb'
    rw [List.length_set, map_set_int]
    exact h1
  · have hb' : s.arrs[k']? = some b := by
      simp only [List.getElem?_set] at hb
      rw [if_neg (fun e => hkk e.symm)] at hb
      exact hb
    refine ownsRow_setCell_other (h.arrs.row k' u b hu' hb') ?_ _
    intro e
    exact hkk (h.arrs.apart k' k u _ g hu' hu e rfl)
end
theorem own_full {w : World} {base : Nat} {e : TypeId} {n g : Nat} {xs : List Value} (h : w.ownsRow base e 1 (.slice (some ⟨g, 0, none⟩) n n) n xs) : w.heap[g]? = some (.cells xs.toArray e (0, 0)) ∧ base ≤ g := by
  rcases h.2 with ⟨h', _⟩ | ⟨g', cap, cur, h', hb, hg, _, _, hcs, htake⟩
  · simp at h'
  · simp only [Value.slice.injEq, Option.some.injEq, Addr.mk.injEq, and_true, true_and] at h'
    obtain ⟨rfl, rfl⟩ := h'
    refine ⟨?_, hb⟩
    rw [List.take_of_length_le (by simp [hcs])] at htake
    rw [← htake]
    simpa using hg
theorem own_of_full {w : World} {base : Nat} {e : TypeId} {n g : Nat} {xs : List Value} (h : w.heap[g]? = some (.cells xs.toArray e (0, 0))) (hl : xs.length = n) (hb : base ≤ g) (hm : n ≤ maxLen) : w.ownsRow base e 1 (.slice (some ⟨g, 0, none⟩) n n) n xs :=
  ⟨by simpa using hl, .inr ⟨g, n, xs.toArray, rfl, hb, h, Nat.le_refl _, hm, by simpa using hl, by simp [← hl]⟩⟩
theorem own_less {w : World} {base base' : Nat} {e : TypeId} {size n : Nat} {v : Value} {xs : List Value} (h : w.ownsRow base e size v n xs) (hl : base' ≤ base) : w.ownsRow base' e size v n xs := by
  refine ⟨h.1, ?_⟩
  rcases h.2 with hn | ⟨g, cap, cur, e1, e2, e3⟩
  · exact .inl hn
  · exact .inr ⟨g, cap, cur, e1, by omega, e3⟩
theorem Arrs.less {w : World} {lo lo' : Nat} {v : Value} {l : List (List Int)} {vs : List Value} (h : Arrs w lo v l vs) (hl : lo' ≤ lo) : Arrs w lo' v l vs :=
  ⟨own_less h.outer hl, h.len, fun k u a hu ha => own_less (h.row k u a hu ha) hl, h.apart, h.out⟩
theorem Arrs.his {w : World} {lo : Nat} {v : Value} {l : List (List Int)} {vs : List Value} (h : Arrs w lo v l vs) : ∀ (k : Nat) u b, vs[k]? = some u → u.ownBlock = some b → b < w.heap.size := fun k u b hu hb => by
  have hk : k < l.length := by
    have := (List.getElem?_eq_some_iff.1 hu).1
    rw [h.len] at this; exact this
  exact ((h.row k u _ hu (List.getElem?_eq_getElem hk)).lt b hb).2
/-- how it ended, as it reads -/
def REnded (w : World) (v : Value) (e : Ev.Ended) : Prop := ∃ va, v = .agg #[.int .i64 e.word, .bool e.trap, va] ∧ RLists w w.heap.size va e.arrays
def RLeaks (w : World) (v : Value) (l : List Ev.Leak) : Prop :=
  ∃ us : List Value, us.length = l.length ∧ SL w w.heap.size 3 v l.length (leaksCells l us) ∧ ∀ (k : Nat) u x, us[k]? = some u → l[k]? = some x → RInts w w.heap.size u x.vals
theorem Arrs.reads {w : World} {lo : Nat} {v : Value} {l : List (List Int)} {vs : List Value} (h : Arrs w lo v l vs) : RLists w w.heap.size v l := by
  refine ⟨vs, h.len, ?_, fun k u a hu ha => ?_⟩
  · have := SL.of_own h.outer
    rw [h.len] at this
    exact this
  · have := SL.of_own (h.row k u a hu ha)
    exact this
theorem Leaks.reads {w : World} {lo : Nat} {v : Value} {l : List Ev.Leak} {us : List Value} (h : Leaks w lo v l us) : RLeaks w v l := ⟨us, h.len, SL.of_own h.row, h.val⟩
theorem REnded.stays {w w' : World} {v : Value} {e : Ev.Ended} (h : REnded w v e) (hb : Below w.heap.size w w') : REnded w' v e := by
  obtain ⟨va, h1, h2⟩ := h
  exact ⟨va, h1, h2.at_ hb (Nat.le_refl _)⟩
theorem RLeaks.stays {w w' : World} {v : Value} {l : List Ev.Leak} (h : RLeaks w v l) (hb : Below w.heap.size w w') : RLeaks w' v l := by
  obtain ⟨us, h1, h2, h3⟩ := h
  exact ⟨us, h1, SL.at_ h2 hb (Nat.le_refl _), fun k u x hu hx => SL.at_ (h3 k u x hu hx) hb (Nat.le_refl _)⟩
end Go.Proofs.Ytljcgcllhcdleaa
/- What holds of an interval of blocks alone. -/
namespace Go.Proofs.Ytljcgcllhcdleaa
open Go.RowKit
set_option linter.unusedSimpArgs false
set_option linter.unusedVariables false
/-- what holds wherever the blocks of an interval are as they are here -/
def Dep (lo hi : Nat) (w : World) (R : World → Prop) : Prop := hi ≤ w.heap.size ∧ ∀ w' : World, hi ≤ w'.heap.size → (∀ b, lo ≤ b → b < hi → w'.heap[b]? = w.heap[b]?) → R w'
theorem Dep.here {lo hi : Nat} {w : World} {R : World → Prop} (h : Dep lo hi w R) : R w := h.2 w h.1 fun _ _ _ => rfl
theorem Dep.stays {lo hi : Nat} {w w' : World} {R : World → Prop} (h : Dep lo hi w R) (hb : Below w.heap.size w w') : Dep lo hi w' R :=
  ⟨Nat.le_trans h.1 hb.size, fun u h1 h2 => h.2 u h1 fun b h3 h4 => (h2 b h3 h4).trans (hb.block b (Nat.lt_of_lt_of_le h4 h.1))⟩
theorem Dep.aside {lo hi : Nat} {w : World} {R : World → Prop} (h : Dep lo hi w R) (q o : Nat) (c : Value) (hq : q < lo ∨ hi ≤ q) : Dep lo hi (w.setCell ⟨q, o, none⟩ c) R :=
  ⟨by simpa using h.1, fun u h1 h2 => h.2 u h1 fun b h3 h4 => (h2 b h3 h4).trans (Below.heap_setCell w ⟨q, o, none⟩ c b (by show b ≠ q; omega))⟩
theorem Dep.drew {lo hi : Nat} {w : World} {R : World → Prop} (h : Dep lo hi w R) : Dep lo hi w.drew R := h
theorem Dep.less {lo lo' hi : Nat} {w : World} {R : World → Prop} (h : Dep lo hi w R) (hl : lo' ≤ lo) : Dep lo' hi w R :=
  ⟨h.1, fun u h1 h2 => h.2 u h1 fun b h3 h4 => h2 b (Nat.le_trans hl h3) h4⟩
theorem Dep.imp {lo hi : Nat} {w : World} {R S : World → Prop} (h : Dep lo hi w R) (hi' : ∀ u, R u → S u) : Dep lo hi w S := ⟨h.1, fun u h1 h2 => hi' u (h.2 u h1 h2)⟩
theorem Dep.and {lo hi : Nat} {w : World} {R S : World → Prop} (h : Dep lo hi w R) (h' : Dep lo hi w S) : Dep lo hi w (fun u => R u ∧ S u) := ⟨h.1, fun u h1 h2 => ⟨h.2 u h1 h2, h'.2 u h1 h2⟩⟩
theorem Dep.const {lo : Nat} {w : World} {R : World → Prop} (h : ∀ u, R u) : Dep lo w.heap.size w R := ⟨Nat.le_refl _, fun u _ _ => h u⟩
theorem from_own_D {w : World} {lo size n : Nat} {e : TypeId} {v : Value} {xs : List Value} (h : w.ownsRow lo e size v n xs) : from_ lo v := by
  rcases h.2 with ⟨rfl, _⟩ | ⟨g, cap, cur, rfl, h1, _⟩
  · exact from_nil _ _ _
  · exact from_some _ _ h1
theorem cell_agree {w w' : World} {b o : Nat} (h : w'.heap[b]? = w.heap[b]?) : w'.cell? ⟨b, o, none⟩ = w.cell? ⟨b, o, none⟩ := by
  unfold World.cell?
  dsimp only
  rw [h]
/-- a slice reads the same where its block is the same -/
theorem SL.dep {w : World} {lo size n : Nat} {v : Value} {xs : List Value} (h : SL w w.heap.size size v n xs) (hf : from_ lo v) : Dep lo w.heap.size w (fun u => SL u u.heap.size size v n xs) := by
  refine ⟨Nat.le_refl _, fun u h1 h2 => ?_⟩
  obtain ⟨h1', A, c, rfl, h3, h4, h5, h6⟩ := h
  refine ⟨h1', A, c, rfl, h3, h4, h5, fun hn => ?_⟩
  obtain ⟨b, o, rfl, hlt, hc⟩ := h6 hn
  have hb := hf _ _ _ rfl
  exact ⟨b, o, rfl, Nat.lt_of_lt_of_le hlt h1, fun j x hx => (cell_agree (h2 b hb hlt)).trans (hc j x hx)⟩
theorem Arrs.dep {w : World} {lo : Nat} {v : Value} {l : List (List Int)} {vs : List Value} (h : Arrs w lo v l vs) : Dep lo w.heap.size w (fun u => RLists u u.heap.size v l) := by
  have h1 := SL.dep (SL.of_own h.outer) (from_own_D h.outer)
  refine ⟨Nat.le_refl _, fun u h2 h3 => ⟨vs, h.len, by rw [← h.len]; exact h1.2 u h2 h3, fun k x a hx ha => ?_⟩⟩
  have h4 := h.row k x a hx ha
  exact (SL.dep (SL.of_own h4) (from_own_D h4)).2 u h2 h3
theorem Leaks.dep {w : World} {lo : Nat} {v : Value} {l : List Ev.Leak} {us : List Value} (h : Leaks w lo v l us) : Dep lo w.heap.size w (fun u => RLeaks u v l) := by
  have h1 := SL.dep (SL.of_own h.row) (from_own_D h.row)
  exact ⟨Nat.le_refl _, fun u h2 h3 => ⟨us, h.len, h1.2 u h2 h3, fun k x y hx hy => (SL.dep (h.val k x y hx hy) (h.low k x hx)).2 u h2 h3⟩⟩
end Go.Proofs.Ytljcgcllhcdleaa
/- The run's equations, step by step. -/
namespace Ev
theorem step_two {i : Instr} {k : Nat} {s : St} (h : i.op ≤ 12) : step i k s = ({ s with v := s.v.set i.d.toNat (two i.op (val s.v i.a) (val s.v i.b)) }, some (k + 1)) := by
  unfold step; rw [if_pos h]
theorem step_sel {i : Instr} {k : Nat} {s : St} (h : i.op = 13) : step i k s = ({ s with v := s.v.set i.d.toNat (sel (val s.v i.a) (val s.v i.b) (val s.v i.c)) }, some (k + 1)) := by
  unfold step; rw [if_neg (by omega), if_pos h]
theorem step_const {i : Instr} {k : Nat} {s : St} (h : i.op = 14) : step i k s = ({ s with v := s.v.set i.d.toNat i.imm }, some (k + 1)) := by
  unfold step; rw [if_neg (by omega), if_neg (by omega), if_pos h]
theorem step_move {i : Instr} {k : Nat} {s : St} (h : i.op = 15) : step i k s = ({ s with v := s.v.set i.d.toNat (val s.v i.a) }, some (k + 1)) := by
  unfold step; rw [if_neg (by omega), if_neg (by omega), if_neg (by omega), if_pos h]
theorem step_load {i : Instr} {k : Nat} {s : St} (h : i.op = 16) : step i k s = ({ s with v := s.v.set i.d.toNat (arrAt s.arrs i.b (val s.v i.a)) }, some (k + 1)) := by
  unfold step; rw [if_neg (by omega), if_neg (by omega), if_neg (by omega), if_neg (by omega), if_pos h]
theorem step_store_in {i : Instr} {k : Nat} {s : St} (h : i.op = 17) {a : List Int} (ha : s.arrs[i.b.toNat]? = some a) (hn : val s.v i.a < a.length) :
    step i k s = ({ s with arrs := s.arrs.set i.b.toNat (a.set (val s.v i.a).toNat (val s.v i.d)) }, some (k + 1)) := by
  have e : s.arrs.getD i.b.toNat [] = a := by rw [List.getD_eq_getElem?_getD, ha]; rfl
  unfold step; rw [if_neg (by omega), if_neg (by omega), if_neg (by omega), if_neg (by omega), if_neg (by omega), if_pos h, e, if_pos hn]
theorem step_store_out {i : Instr} {k : Nat} {s : St} (h : i.op = 17) {a : List Int} (ha : s.arrs[i.b.toNat]? = some a) (hn : ¬ val s.v i.a < a.length) : step i k s = (s, some (k + 1)) := by
  have e : s.arrs.getD i.b.toNat [] = a := by rw [List.getD_eq_getElem?_getD, ha]; rfl
  unfold step; rw [if_neg (by omega), if_neg (by omega), if_neg (by omega), if_neg (by omega), if_neg (by omega), if_pos h, e, if_neg hn]
theorem step_jump {i : Instr} {k : Nat} {s : St} (h : i.op = 18) : step i k s = (s, some i.imm.toNat) := by
  unfold step; rw [if_neg (by omega), if_neg (by omega), if_neg (by omega), if_neg (by omega), if_neg (by omega), if_neg (by omega), if_pos h]
theorem step_zero_yes {i : Instr} {k : Nat} {s : St} (h : i.op = 19) (h0 : val s.v i.a = 0) : step i k s = (s, some i.imm.toNat) := by
  unfold step; rw [if_neg (by omega), if_neg (by omega), if_neg (by omega), if_neg (by omega), if_neg (by omega), if_neg (by omega), if_neg (by omega), if_pos h, if_pos h0]
theorem step_zero_no {i : Instr} {k : Nat} {s : St} (h : i.op = 19) (h0 : ¬ val s.v i.a = 0) : step i k s = (s, some (k + 1)) := by
  unfold step; rw [if_neg (by omega), if_neg (by omega), if_neg (by omega), if_neg (by omega), if_neg (by omega), if_neg (by omega), if_neg (by omega), if_pos h, if_neg h0]
theorem step_end {i : Instr} {k : Nat} {s : St} (h : i.op = 20 ∨ i.op = 21) : step i k s = (s, none) := by
  unfold step; rw [if_neg (by omega), if_neg (by omega), if_neg (by omega), if_neg (by omega), if_neg (by omega), if_neg (by omega), if_neg (by omega), if_neg (by omega), if_pos h]
theorem runFrom_on {c : List Instr} {t : List Int} {n k k' : Nat} {i : Instr} {s s' : St} (hi : c[k]? = some i) (h : step i k s = (s', some k')) :
    runFrom c t (n + 1) k s = ((runFrom c t n k' s').1, leak t i k s false :: (runFrom c t n k' s').2) := by
  have e : c.getD k default = i := by rw [List.getD_eq_getElem?_getD, hi]; rfl
  rw [runFrom]
  simp only [e, h]
theorem runFrom_end {c : List Instr} {t : List Int} {n k : Nat} {i : Instr} {s s' : St} (hi : c[k]? = some i) (h : step i k s = (s', none)) :
    runFrom c t (n + 1) k s = (endOf i s', [leak t i k s false]) := by
  have e : c.getD k default = i := by rw [List.getD_eq_getElem?_getD, hi]; rfl
  rw [runFrom]
  simp only [e, h]
/-- the round's plain part -/
theorem round_on {f : Flat} (hr : Right f) {t : List Int} {n k k' : Nat} {i : Instr} {s s' : St} {R : Ended × List Leak} {lk : List Leak} (hi : f.code[k]? = some i) (hF : Fine f s)
    (h1 : (runFrom f.code t (n + 1) k s).1 = R.1) (h2 : lk ++ (runFrom f.code t (n + 1) k s).2 = R.2) (h : step i k s = (s', some k')) :
    (runFrom f.code t n k' s').1 = R.1 ∧ (lk ++ [leak t i k s false]) ++ (runFrom f.code t n k' s').2 = R.2 ∧ Fine f s' ∧ k < k' ∧ k' < f.code.length := by
  rw [runFrom_on hi h] at h1 h2
  have hs := hF.step (hr.sound hi)
  rw [h] at hs
  have ho := step_on hr (s := s) (k' := k') hi (by rw [h])
  exact ⟨h1, by rw [← h2]; simp, hs, ho.1, ho.2⟩
theorem round_end {f : Flat} {t : List Int} {n k : Nat} {i : Instr} {s : St} {R : Ended × List Leak} {lk : List Leak} (hi : f.code[k]? = some i)
    (h1 : (runFrom f.code t (n + 1) k s).1 = R.1) (h2 : lk ++ (runFrom f.code t (n + 1) k s).2 = R.2) (h : i.op = 20 ∨ i.op = 21) : R.1 = endOf i s ∧ R.2 = lk ++ [leak t i k s false] := by
  rw [runFrom_end hi (step_end h)] at h1 h2
  exact ⟨h1.symm, h2.symm⟩
theorem start_fine {f : Flat} {g : Given} (h1 : g.words.length ≤ f.secret.length) (h2 : ∀ x ∈ g.words, Wd x) (h3 : g.arrays.length = f.arrays.length) (h4 : ∀ a ∈ g.arrays, ∀ x ∈ a, Wd x) : Fine f (start f.secret.length g) := by
  refine ⟨by unfold start; simp; omega, fun x hx => ?_, h3, h4⟩
  unfold start at hx
  have := List.mem_of_mem_take hx
  rcases List.mem_append.1 this with h | h
  · exact h2 x h
  · rw [List.mem_replicate] at h
    rw [h.2]
    exact ⟨by decide, by decide⟩
end Ev
