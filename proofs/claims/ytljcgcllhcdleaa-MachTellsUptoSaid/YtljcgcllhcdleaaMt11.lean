import Derived.Test.YtljcgcllhcdleaaMt10
import Derived.Test.YtljcgcllhcdleaaMt6
/- What was seen so far, in a row of the call's own. -/
namespace Go.Proofs.Ytljcgcllhcdleaa
open Go.RowKit
set_option linter.unusedSimpArgs false
set_option linter.unusedVariables false
def leakCells (x : Ev.Leak) (u : Value) : List Value := [.int .i64 x.pc, .int .i64 x.op, u]
def leaksCells : List Ev.Leak → List Value → List Value
  | x :: l, u :: us => leakCells x u ++ leaksCells l us
  | _, _ => []
theorem leaksCells_snoc : ∀ (l : List Ev.Leak) (us : List Value) (x : Ev.Leak) (u : Value), us.length = l.length → leaksCells (l ++ [x]) (us ++ [u]) = leaksCells l us ++ leakCells x u
  | [], [], x, u, _ => by simp [leaksCells]
  | y :: l, v :: us, x, u, h => by
    have := leaksCells_snoc l us x u (by simpa using h)
    simp [leaksCells, this]
  | [], v :: us, x, u, h => by simp at h
  | y :: l, [], x, u, h => by simp at h
theorem leaksCells_length : ∀ (l : List Ev.Leak) (us : List Value), us.length = l.length → (leaksCells l us).length = l.length * 3
  | [], [], _ => rfl
  | y :: l, v :: us, h => by
    have := leaksCells_length l us (by simpa using h)
    simp [leaksCells, leakCells, this]
    omega
  | [], v :: us, h => by simp at h
  | y :: l, [], h => by simp at h
theorem leaksCells_at : ∀ (l : List Ev.Leak) (us : List Value) (k : Nat) (x : Ev.Leak) (u : Value), l[k]? = some x → us[k]? = some u → ∀ j c, (leakCells x u)[j]? = some c → (leaksCells l us)[k * 3 + j]? = some c
  | [], us, k, x, u, h, _, _, _, _ => by simp at h
  | y :: l, [], k, x, u, _, h, _, _, _ => by simp at h
  | y :: l, v :: us, 0, x, u, h1, h2, j, c, hc => by
    simp at h1 h2
    subst h1 h2
    have hj : j < (leakCells y v).length := (List.getElem?_eq_some_iff.1 hc).1
    simp only [leaksCells, Nat.zero_mul, Nat.zero_add]
    rw [List.getElem?_append_left hj]
    exact hc
  | y :: l, v :: us, k + 1, x, u, h1, h2, j, c, hc => by
    have := leaksCells_at l us k x u (by simpa using h1) (by simpa using h2) j c hc
    simp only [leaksCells]
    rw [List.getElem?_append_right (by simp [leakCells]; omega)]
    have e : (k + 1) * 3 + j - (leakCells y v).length = k * 3 + j := by simp [leakCells]; omega
    rw [e]
    exact this
structure Leaks (w : World) (lo : Nat) (v : Value) (l : List Ev.Leak) (us : List Value) : Prop where
  row : w.ownsRow lo 72 3 v l.length (leaksCells l us)
  len : us.length = l.length
  val : ∀ (k : Nat) u x, us[k]? = some u → l[k]? = some x → RInts w w.heap.size u x.vals
  low : ∀ (k : Nat) u, us[k]? = some u → from_ lo u
  out : ∀ (k : Nat) u b, us[k]? = some u → u.ownBlock = some b → v.ownBlock ≠ some b
  hi : ∀ (k : Nat) u b, us[k]? = some u → u.ownBlock = some b → b < w.heap.size
theorem Leaks.nil_ (w : World) (lo : Nat) : Leaks w lo (.slice none 0 0) [] [] :=
  ⟨World.ownsRow_nil _ _ _ _, rfl, fun k u a h => by simp at h, fun k u h => by simp at h, fun k u b h => by simp at h, fun k u b h => by simp at h⟩
theorem Leaks.stays {w w' : World} {lo : Nat} {v : Value} {l : List Ev.Leak} {us : List Value} (h : Leaks w lo v l us) (hb : Below w.heap.size w w') : Leaks w' lo v l us :=
  ⟨owns_below h.row hb, h.len, fun k u x hu hx => SL.at_ (h.val k u x hu hx) hb (Nat.le_refl _), h.low, h.out, fun k u b hu hb' => Nat.lt_of_lt_of_le (h.hi k u b hu hb') hb.size⟩
theorem Leaks.aside {w : World} {lo : Nat} {v : Value} {l : List Ev.Leak} {us : List Value} (h : Leaks w lo v l us) (k o : Nat) (c : Value) (hk : k < lo) : Leaks (w.setCell ⟨k, o, none⟩ c) lo v l us :=
  ⟨ownsRow_setCell_below h.row hk c, h.len, fun j u x hu hx => by
    have := SL.aside (h.val j u x hu hx) (h.low j u hu) k o c hk
    show SL _ _ _ _ _ _
    simpa using this, h.low, h.out, fun j u b hu hb => by simpa using h.hi j u b hu hb⟩
/-- a slice stays as it reads while a row elsewhere grows -/
theorem SL.grown {w w' : World} {size n : Nat} {v : Value} {xs : List Value} {row : Option Nat} (h : SL w w.heap.size size v n xs) (hg : w.grownBy w' row) (hne : ∀ b, v.ownBlock = some b → some b ≠ row) : SL w' w'.heap.size size v n xs := by
  obtain ⟨h1, A, c, rfl, h3, h4, h5, h6⟩ := h
  refine ⟨h1, A, c, rfl, h3, h4, h5, fun hn => ?_⟩
  obtain ⟨b, o, rfl, hlt, hc⟩ := h6 hn
  refine ⟨b, o, rfl, Nat.lt_of_lt_of_le hlt hg.size, fun j u hu => hg.cell (hc j u hu) (hne b rfl)⟩
theorem Leaks.push {w w1 w2 : World} {lo : Nat} {v v' u : Value} {l : List Ev.Leak} {us : List Value} {x : Ev.Leak} (h : Leaks w lo v l us) (hlo : lo ≤ w.heap.size) (hb : Below w.heap.size w w1)
    (hu : RInts w1 w1.heap.size u x.vals) (hf : from_ w.heap.size u) (hfl : ∀ b, u.ownBlock = some b → b < w1.heap.size)
    (hg : w1.grownBy w2 v.ownBlock) (hv : w2.ownsRow lo 72 3 v' (l.length + 1) (leaksCells l us ++ leakCells x u))
    (hat : v'.ownBlock = v.ownBlock ∨ ∃ q, v'.ownBlock = some q ∧ w1.heap.size ≤ q) : Leaks w2 lo v' (l ++ [x]) (us ++ [u]) := by
  have split : ∀ (k : Nat) y, (us ++ [u])[k]? = some y → (k < us.length ∧ us[k]? = some y) ∨ (k = us.length ∧ y = u) := fun k y hx => by
    rcases Nat.lt_or_ge k us.length with hk | hk
    · rw [List.getElem?_append_left hk] at hx; exact .inl ⟨hk, hx⟩
    · rw [List.getElem?_append_right hk] at hx
      have : k - us.length = 0 := by
        rcases Nat.eq_zero_or_pos (k - us.length) with h0 | h0
        · exact h0
        · rw [List.getElem?_eq_none (by simp; omega)] at hx; cases hx
      rw [this] at hx
      exact .inr ⟨by omega, by simpa using hx.symm⟩
  have hub : ∀ b, u.ownBlock = some b → w.heap.size ≤ b := fun b hb' => by
    cases u <;> simp [Value.ownBlock] at hb'
    rename_i a n c
    cases a with
    | none => simp at hb'
    | some a => simp at hb'; subst hb'; exact hf a n c rfl
  refine ⟨by rw [leaksCells_snoc _ _ _ _ h.len]; simpa using hv, by simp [h.len], fun k y z hy hz => ?_, fun k y hy => ?_, fun k y b hy hyb => ?_, fun k y b hy hyb => ?_⟩
  · rcases split k y hy with ⟨hk, hy⟩ | ⟨hk, rfl⟩
    · rw [List.getElem?_append_left (by rw [← h.len]; exact hk)] at hz
      exact SL.grown (SL.at_ (h.val k y z hy hz) hb (Nat.le_refl _)) hg (fun b hyb e => h.out k y b hy hyb e.symm)
    · subst hk
      rw [h.len, List.getElem?_append_right (Nat.le_refl _)] at hz
      simp at hz
      subst hz
      refine SL.grown hu hg (fun b hyb e => ?_)
      have h1 := hub b hyb
      have h2 := (h.row.lt b e.symm).2
      omega
  · rcases split k y hy with ⟨hk, hy⟩ | ⟨hk, rfl⟩
    · exact h.low k y hy
    · exact hf.less hlo
  · rcases split k y hy with ⟨hk, hy⟩ | ⟨hk, rfl⟩
    · rcases hat with e | ⟨q, e, hq⟩
      · rw [e]; exact h.out k y b hy hyb
      · rw [e]
        intro e2
        injection e2 with e2
        have h1 := h.hi k y b hy hyb
        have := hb.size
        omega
    · rcases hat with e | ⟨q, e, hq⟩
      · rw [e]
        intro e2
        have h1 := hub b hyb
        have := (h.row.lt b e2).2
        omega
      · rw [e]
        intro e2
        injection e2 with e2
        have := hfl b hyb
        omega
  · have h1 := hg.size
    have h2 := hb.size
    rcases split k y hy with ⟨hk, hy⟩ | ⟨hk, rfl⟩
    · have := h.hi k y b hy hyb; omega
    · have := hfl b hyb; omega
theorem leak_info : (Try.prog.info? 72).map (fun i => (i.zero, i.size, i.bytes)) = some (some (.agg #[.int .i64 0, .int .i64 0, .slice none 0 0]), 3, 40) := by kernel_rfl
end Go.Proofs.Ytljcgcllhcdleaa
/- The memory of a run: the places' row, the arrays' rows. -/
namespace Go.Proofs.Ytljcgcllhcdleaa
open Go.RowKit
set_option linter.unusedSimpArgs false
set_option linter.unusedVariables false
/-- the state lies in rows from bv on, below hi -/
structure StateAt (w : World) (bv : Nat) (va : Value) (vs : List Value) (hi : Nat) (s : Ev.St) : Prop where
  v : w.ownsRow bv 3 1 (.slice (some ⟨bv, 0, none⟩) s.v.length s.v.length) s.v.length (s.v.map (Value.int .i64))
  arrs : Arrs w (bv + 1) va s.arrs vs
  hiv : bv < hi
  hio : ∀ b, va.ownBlock = some b → b < hi
  his : ∀ (k : Nat) u b, vs[k]? = some u → u.ownBlock = some b → b < hi
  le : hi ≤ w.heap.size
section
variable {w w' : World} {bv hi : Nat} {va : Value} {vs : List Value} {s : Ev.St}
theorem StateAt.grown {row : Option Nat} (h : StateAt w bv va vs hi s) (hg : w.grownBy w' row) (hr : ∀ q, row = some q → hi ≤ q) : StateAt w' bv va vs hi s := by
  have ne : ∀ (u : Value), (∀ b, u.ownBlock = some b → b < hi) → u.ownBlock = none ∨ u.ownBlock ≠ row := fun u hu => by
    cases hb : u.ownBlock with
    | none => exact .inl rfl
    | some b =>
      refine .inr fun e => ?_
      have := hr b e.symm
      have := hu b hb
      omega
  refine ⟨h.v.kept hg (ne _ (fun b hb => by simp [Value.ownBlock] at hb; subst hb; exact h.hiv)), ⟨h.arrs.outer.kept hg (ne _ h.hio), h.arrs.len, fun k u a hu ha => (h.arrs.row k u a hu ha).kept hg (ne _ (h.his k u · hu)), h.arrs.apart, h.arrs.out⟩, h.hiv, h.hio, h.his, Nat.le_trans h.le hg.size⟩
theorem StateAt.stays (h : StateAt w bv va vs hi s) (hb : Below w.heap.size w w') : StateAt w' bv va vs hi s := h.grown (grown_of_below hb none) (fun q e => by cases e)
theorem StateAt.cell (h : StateAt w bv va vs hi s) {p : Int} (hp : inR s.v.length p) : w.cell? ⟨bv, p.toNat, none⟩ = some (.int .i64 (Ev.val s.v p)) := by
  unfold inR at hp
  rw [h.v.cellAt p.toNat (by omega)]
  rw [List.getElem?_map]
  unfold Ev.val
  rw [List.getD_eq_getElem?_getD, List.getElem?_eq_getElem (by omega)]
  rfl
theorem StateAt.loose (h : StateAt w bv va vs hi s) (j : Nat) : w.frozen? ⟨bv, j, none⟩ = false := h.v.frozenAt j
theorem StateAt.lt (h : StateAt w bv va vs hi s) : bv < w.heap.size := Nat.lt_of_lt_of_le h.hiv h.le
theorem map_set_int (l : List Int) (j : Nat) (x : Int) : (l.set j x).map (Value.int .i64) = (l.map (Value.int .i64)).set j (.int .i64 x) := by
  rw [List.map_set]
theorem StateAt.setV (h : StateAt w bv va vs hi s) (j : Nat) (x : Int) : StateAt (w.setCell ⟨bv, j, none⟩ (.int .i64 x)) bv va vs hi { s with v := s.v.set j x } := by
  obtain ⟨h1, h2⟩ := h.v.stored j (.int .i64 x)
  refine ⟨?_, ⟨ownsRow_setCell_below h.arrs.outer (Nat.lt_succ_self _) _, h.arrs.len, fun k u a hu ha => ownsRow_setCell_below (h.arrs.row k u a hu ha) (Nat.lt_succ_self _) _, h.arrs.apart, h.arrs.out⟩, h.hiv, h.hio, h.his, by simpa using h.le⟩
  simp only [List.length_set, map_set_int]
  exact h1
/-- an array of the state: its slice in the outer row, and its cells -/
theorem Arrs.at_ {lo : Nat} {v : Value} {l : List (List Int)} (h : Arrs w lo v l vs) {k : Nat} {a : List Int} (hk : l[k]? = some a) :
    ∃ bo co A ca, v = .slice (some ⟨bo, 0, none⟩) l.length co ∧ lo ≤ bo ∧ bo < w.heap.size ∧ k < l.length ∧ l.length ≤ co ∧ co ≤ maxLen ∧ w.cell? ⟨bo, k, none⟩ = some (.slice A a.length ca) ∧ vs[k]? = some (.slice A a.length ca) ∧
      a.length ≤ ca ∧ ca ≤ maxLen ∧ (0 < a.length → ∃ g, A = some ⟨g, 0, none⟩ ∧ lo ≤ g ∧ g < w.heap.size ∧ (∀ j, w.frozen? ⟨g, j, none⟩ = false) ∧ ∀ (j : Nat) x, a[j]? = some x → w.cell? ⟨g, j, none⟩ = some (.int .i64 x)) := by
  have hkl : k < l.length := (List.getElem?_eq_some_iff.1 hk).1
  have hkv : k < vs.length := by rw [h.len]; exact hkl
  obtain ⟨u, hu⟩ : ∃ u, vs[k]? = some u := ⟨vs[k], List.getElem?_eq_getElem hkv⟩
  have hr := h.row k u a hu hk
  rcases h.outer.2 with ⟨_, e⟩ | ⟨bo, co, cur, rfl, hb, hg, hnc, hcm, _, _⟩
  · rw [e] at hkv; simp at hkv
  · have hbl : bo < w.heap.size := (Array.getElem?_eq_some_iff.1 hg).1
    have hcell := h.outer.cellAt k (by omega)
    rw [hu] at hcell
    have hlen := h.len
    rw [hlen] at hnc ⊢
    rcases hr.2 with ⟨rfl, e⟩ | ⟨g, ca, cur', rfl, hgb, hgg, hnc', hcm', _, _⟩
    · have h0 : a.length = 0 := by first | exact e | (simpa using congrArg List.length e)
      rw [h0]
      exact ⟨bo, co, none, 0, rfl, hb, hbl, hkl, hnc, hcm, hcell, hu, Nat.le_refl _, by simp [maxLen], fun h => absurd h (by omega)⟩
    · exact ⟨bo, co, _, ca, rfl, hb, hbl, hkl, hnc, hcm, hcell, hu, hnc', hcm', fun _ => ⟨g, rfl, hgb, (Array.getElem?_eq_some_iff.1 hgg).1, fun j => hr.frozenAt j, fun j x hx => by
        have hj := (List.getElem?_eq_some_iff.1 hx).1
        rw [hr.cellAt j (by omega), List.getElem?_map, hx]
        rfl⟩⟩
theorem StateAt.setA (h : StateAt w bv va vs hi s) {k g : Nat} {a : List Int} {ca : Nat} (hk : s.arrs[k]? = some a) (hu : vs[k]? = some (.slice (some ⟨g, 0, none⟩) a.length ca)) (j : Nat) (x : Int) :
    StateAt (w.setCell ⟨g, j, none⟩ (.int .i64 x)) bv va vs hi { s with arrs := s.arrs.set k (a.set j x) } := by
  have hr := h.arrs.row k _ a hu hk
  obtain ⟨h1, h2⟩ := hr.stored j (.int .i64 x)
  have hgb := (hr.lt g rfl).1
  refine ⟨ownsRow_setCell_other h.v (by simp [Value.ownBlock]; omega) _, ⟨ownsRow_setCell_other h.arrs.outer (h.arrs.out k _ g hu rfl) _, by simpa using h.arrs.len, fun k' u b hu' hb => ?_, h.arrs.apart, h.arrs.out⟩, h.hiv, h.hio, h.his, by simpa using h.le⟩
  by_cases hkk : k' = k
  · subst hkk
    rw [hu] at hu'
    injection hu' with hu'
    subst hu'
    have hb' : b = a.set j x := by
      simp only [List.getElem?_set] at hb
      split at hb
      · split at hb
        · exact (Option.some.inj hb).symm
        · cases hb
      · rename_i hne; exact absurd trivial hne
    subst hb'
    rw [List.length_set, map_set_int]
    exact h1
  · have hb' : s.arrs[k']? = some b := by
      simp only [List.getElem?_set] at hb
      rw [if_neg (fun e => hkk e.symm)] at hb
      exact hb
    refine ownsRow_setCell_other (h.arrs.row k' u b hu' hb') ?_ _
    intro e
    exact hkk (h.arrs.apart k' k u _ g hu' hu e rfl)
end
theorem own_full {w : World} {base : Nat} {e : TypeId} {n g : Nat} {xs : List Value} (h : w.ownsRow base e 1 (.slice (some ⟨g, 0, none⟩) n n) n xs) : w.heap[g]? = some (.cells xs.toArray e (0, 0)) ∧ base ≤ g := by
  rcases h.2 with ⟨h', _⟩ | ⟨g', cap, cur, h', hb, hg, _, _, hcs, htake⟩
  · simp at h'
  · simp only [Value.slice.injEq, Option.some.injEq, Addr.mk.injEq, and_true, true_and] at h'
    obtain ⟨rfl, rfl⟩ := h'
    refine ⟨?_, hb⟩
    rw [List.take_of_length_le (by simp [hcs])] at htake
    rw [← htake]
    simpa using hg
theorem own_of_full {w : World} {base : Nat} {e : TypeId} {n g : Nat} {xs : List Value} (h : w.heap[g]? = some (.cells xs.toArray e (0, 0))) (hl : xs.length = n) (hb : base ≤ g) (hm : n ≤ maxLen) : w.ownsRow base e 1 (.slice (some ⟨g, 0, none⟩) n n) n xs :=
  ⟨by simpa using hl, .inr ⟨g, n, xs.toArray, rfl, hb, h, Nat.le_refl _, hm, by simpa using hl, by simp [← hl]⟩⟩
theorem own_less {w : World} {base base' : Nat} {e : TypeId} {size n : Nat} {v : Value} {xs : List Value} (h : w.ownsRow base e size v n xs) (hl : base' ≤ base) : w.ownsRow base' e size v n xs := by
  refine ⟨h.1, ?_⟩
  rcases h.2 with hn | ⟨g, cap, cur, e1, e2, e3⟩
  · exact .inl hn
  · exact .inr ⟨g, cap, cur, e1, by omega, e3⟩
theorem Arrs.less {w : World} {lo lo' : Nat} {v : Value} {l : List (List Int)} {vs : List Value} (h : Arrs w lo v l vs) (hl : lo' ≤ lo) : Arrs w lo' v l vs :=
  ⟨own_less h.outer hl, h.len, fun k u a hu ha => own_less (h.row k u a hu ha) hl, h.apart, h.out⟩
theorem Arrs.his {w : World} {lo : Nat} {v : Value} {l : List (List Int)} {vs : List Value} (h : Arrs w lo v l vs) : ∀ (k : Nat) u b, vs[k]? = some u → u.ownBlock = some b → b < w.heap.size := fun k u b hu hb => by
  have hk : k < l.length := by
    have := (List.getElem?_eq_some_iff.1 hu).1
    rw [h.len] at this; exact this
  exact ((h.row k u _ hu (List.getElem?_eq_getElem hk)).lt b hb).2
/-- how it ended, as it reads -/
def REnded (w : World) (v : Value) (e : Ev.Ended) : Prop := ∃ va, v = .agg #[.int .i64 e.word, .bool e.trap, va] ∧ RLists w w.heap.size va e.arrays
def RLeaks (w : World) (v : Value) (l : List Ev.Leak) : Prop :=
  ∃ us : List Value, us.length = l.length ∧ SL w w.heap.size 3 v l.length (leaksCells l us) ∧ ∀ (k : Nat) u x, us[k]? = some u → l[k]? = some x → RInts w w.heap.size u x.vals
theorem Arrs.reads {w : World} {lo : Nat} {v : Value} {l : List (List Int)} {vs : List Value} (h : Arrs w lo v l vs) : RLists w w.heap.size v l := by
  refine ⟨vs, h.len, ?_, fun k u a hu ha => ?_⟩
  · have := SL.of_own h.outer
    rw [h.len] at this
    exact this
  · have := SL.of_own (h.row k u a hu ha)
    exact this
theorem Leaks.reads {w : World} {lo : Nat} {v : Value} {l : List Ev.Leak} {us : List Value} (h : Leaks w lo v l us) : RLeaks w v l := ⟨us, h.len, SL.of_own h.row, h.val⟩
theorem REnded.stays {w w' : World} {v : Value} {e : Ev.Ended} (h : REnded w v e) (hb : Below w.heap.size w w') : REnded w' v e := by
  obtain ⟨va, h1, h2⟩ := h
  exact ⟨va, h1, h2.at_ hb (Nat.le_refl _)⟩
theorem RLeaks.stays {w w' : World} {v : Value} {l : List Ev.Leak} (h : RLeaks w v l) (hb : Below w.heap.size w w') : RLeaks w' v l := by
  obtain ⟨us, h1, h2, h3⟩ := h
  exact ⟨us, h1, SL.at_ h2 hb (Nat.le_refl _), fun k u x hu hx => SL.at_ (h3 k u x hu hx) hb (Nat.le_refl _)⟩
end Go.Proofs.Ytljcgcllhcdleaa
