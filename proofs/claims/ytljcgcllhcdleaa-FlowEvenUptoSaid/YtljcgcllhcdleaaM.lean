import Derived.Test.YtljcgcllhcdleaaRunState
import Derived.Test.YtljcgcllhcdleaaRunStep
import Derived.Test.YtljcgcllhcdleaaRefTwo
import Derived.Test.YtljcgcllhcdleaaStore
import Derived.Test.YtljcgcllhcdleaaQuiet
/- Chapter 7, the reference: the machine in memory. -/
namespace Go.Proofs.Ytljcgcllhcdleaa
open Go.RowKit
set_option linter.unusedSimpArgs false
set_option linter.unusedVariables false
theorem Arrs.aside {w : World} {lo : Nat} {v : Value} {l : List (List Int)} {vs : List Value} (h : Arrs w lo v l vs) {q o : Nat} {c : Value} (hq : q < lo) : Arrs (w.setCell ⟨q, o, none⟩ c) lo v l vs :=
  ⟨ownsRow_setCell_below h.outer hq _, h.len, fun k u a hu ha => ownsRow_setCell_below (h.row k u a hu ha) hq _, h.apart, h.out⟩
/-- only what lies below hi is changed, cell by cell, and no block below lo -/
inductive Sets (lo hi : Nat) (w : World) : World → Prop
  | here : Sets lo hi w w
  | more {W W' : World} : Sets lo hi w W → Below W.heap.size W W' → Sets lo hi w W'
  | set {W : World} {b j : Nat} {c : Value} : Sets lo hi w W → lo ≤ b → b < hi → Sets lo hi w (W.setCell ⟨b, j, none⟩ c)
theorem Sets.size {lo hi : Nat} {w W : World} (h : Sets lo hi w W) : w.heap.size ≤ W.heap.size := by
  induction h with
  | here => exact Nat.le_refl _
  | more _ h ih => exact Nat.le_trans ih h.size
  | set _ _ _ ih => simpa using ih
theorem Sets.keeps {lo hi : Nat} {w W : World} (h : Sets lo hi w W) (hl : lo ≤ w.heap.size) : Below lo w W := by
  induction h with
  | here => exact Below.refl _ _
  | more h1 h2 ih => exact ih.trans (h2.mono (Nat.le_trans hl h1.size))
  | set _ h2 _ ih => exact ih.setCell h2 _
theorem Sets.drewN {lo hi : Nat} {w W : World} (h : Sets lo hi w W) (n : Nat) : Sets lo hi w (W.drewN n) := h.more (below_drewN (Below.refl _ _) n)
theorem Leaks.sets {lo hi hi' : Nat} {w W : World} {v : Value} {l : List Ev.Leak} {us : List Value} (hs : Sets lo hi w W) (h : Leaks w hi' v l us) (hh : hi ≤ hi') : Leaks W hi' v l us := by
  induction hs with
  | here => exact h
  | more _ hb ih => exact ih.stays hb
  | set _ _ h3 ih => exact ih.aside _ _ _ (by omega)
/-- the machine: its struct in block mb, its places in block bv, its arrays behind these, all below hi -/
structure MAt (w : World) (bv mb : Nat) (va : Value) (vs : List Value) (hi : Nat) (s : Ev.St) : Prop where
  v : w.ownsRow bv 3 1 (.slice (some ⟨bv, 0, none⟩) s.v.length s.v.length) s.v.length (s.v.map (Value.int .i64))
  arrs : Arrs w (mb + 1) va s.arrs vs
  m0 : w.cell? ⟨mb, 0, none⟩ = some (.slice (some ⟨bv, 0, none⟩) s.v.length s.v.length)
  m1 : w.cell? ⟨mb, 1, none⟩ = some va
  m2 : w.cell? ⟨mb, 2, none⟩ = some (.int .i64 s.mode)
  loose : ∀ j, w.frozen? ⟨mb, j, none⟩ = false
  bm : bv < mb
  mh : mb < hi
  hio : ∀ b, va.ownBlock = some b → b < hi
  his : ∀ (k : Nat) u b, vs[k]? = some u → u.ownBlock = some b → b < hi
  le : hi ≤ w.heap.size
section
variable {w w' : World} {bv mb hi : Nat} {va : Value} {vs : List Value} {s : Ev.St}
theorem MAt.stays (h : MAt w bv mb va vs hi s) (hb : Below w.heap.size w w') : MAt w' bv mb va vs hi s := by
  have hm := h.mh
  have hl := h.le
  have c := fun o => hb.cell (p := ⟨mb, o, none⟩) (by show mb < _; omega)
  exact ⟨owns_below h.v hb, ⟨owns_below h.arrs.outer hb, h.arrs.len, fun k u a hu ha => owns_below (h.arrs.row k u a hu ha) hb, h.arrs.apart, h.arrs.out⟩, (c 0).trans h.m0, (c 1).trans h.m1, (c 2).trans h.m2,
    fun j => (hb.frozen (p := ⟨mb, j, none⟩) (by show mb < _; omega)).trans (h.loose j), h.bm, h.mh, h.hio, h.his, Nat.le_trans h.le hb.size⟩
theorem MAt.cell (h : MAt w bv mb va vs hi s) {p : Int} (hp : inR s.v.length p) : w.cell? ⟨bv, p.toNat, none⟩ = some (.int .i64 (Ev.val s.v p)) := by
  unfold inR at hp
  rw [h.v.cellAt p.toNat (by omega)]
  rw [List.getElem?_map]
  unfold Ev.val
  rw [List.getD_eq_getElem?_getD, List.getElem?_eq_getElem (by omega)]
  rfl
theorem MAt.vloose (h : MAt w bv mb va vs hi s) (j : Nat) : w.frozen? ⟨bv, j, none⟩ = false := h.v.frozenAt j
theorem MAt.setV (h : MAt w bv mb va vs hi s) (j : Nat) (x : Int) : MAt (w.setCell ⟨bv, j, none⟩ (.int .i64 x)) bv mb va vs hi { s with v := s.v.set j x } := by
  obtain ⟨h1, h2⟩ := h.v.stored j (.int .i64 x)
  have hbm := h.bm
  have ne : ∀ o, (⟨bv, j, none⟩ : Addr) ≠ ⟨mb, o, none⟩ := fun o e => by injection e with e; omega
  refine ⟨?_, h.arrs.aside (by omega), ?_, ?_, ?_, ?_, h.bm, h.mh, h.hio, h.his, by simpa using h.le⟩
  · simp only [List.length_set, map_set_int]
    exact h1
  · simp only [List.length_set]
    have := h.m0
    go_simp
  · have := h.m1
    go_simp
  · have := h.m2
    go_simp
  · intro o
    have := h.loose o
    go_simp
theorem MAt.setMode (h : MAt w bv mb va vs hi s) (x : Int) : MAt (w.setCell ⟨mb, 2, none⟩ (.int .i64 x)) bv mb va vs hi { s with mode := x } := by
  have hbm := h.bm
  refine ⟨ownsRow_setCell_other h.v (by simp [Value.ownBlock]; omega) _, h.arrs.aside (by omega), ?_, ?_, ?_, ?_, h.bm, h.mh, h.hio, h.his, by simpa using h.le⟩
  · have := h.m0
    go_simp
  · have := h.m1
    go_simp
  · have := h.m2
    go_simp
  · intro o
    have := h.loose o
    go_simp
theorem MAt.setA (h : MAt w bv mb va vs hi s) {k g : Nat} {a : List Int} {ca : Nat} (hk : s.arrs[k]? = some a) (hu : vs[k]? = some (.slice (some ⟨g, 0, none⟩) a.length ca)) (j : Nat) (x : Int) :
    MAt (w.setCell ⟨g, j, none⟩ (.int .i64 x)) bv mb va vs hi { s with arrs := s.arrs.set k (a.set j x) } := by
  have hr := h.arrs.row k _ a hu hk
  obtain ⟨h1, h2⟩ := hr.stored j (.int .i64 x)
  have hgb := (hr.lt g rfl).1
  have hbm := h.bm
  refine ⟨ownsRow_setCell_other h.v (by simp [Value.ownBlock]; omega) _, ⟨ownsRow_setCell_other h.arrs.outer (h.arrs.out k _ g hu rfl) _, by simpa using h.arrs.len, fun k' u b hu' hb => ?_, h.arrs.apart, h.arrs.out⟩, ?_, ?_, ?_, ?_, h.bm, h.mh, h.hio, h.his, by simpa using h.le⟩
  · by_cases hkk : k' = k
    · subst hkk
      rw [hu] at hu'
      injection hu' with hu'
      subst hu'
      have hb' : b = a.set j x := by
        simp only [List.getElem?_set] at hb
        split at hb
        · split at hb
          · exact (Option.some.inj hb).symm
          · cases hb
        · rename_i hne; exact absurd trivial hne
      subst hb'
      rw [List.length_set, map_set_int]
      exact h1
    · have hb' : s.arrs[k']? = some b := by
        simp only [List.getElem?_set] at hb
        rw [if_neg (fun e => hkk e.symm)] at hb
        exact hb
      refine ownsRow_setCell_other (h.arrs.row k' u b hu' hb') ?_ _
      intro e
      exact hkk (h.arrs.apart k' k u _ g hu' hu e rfl)
  · have := h.m0
    go_simp
  · have := h.m1
    go_simp
  · have := h.m2
    go_simp
  · intro o
    have := h.loose o
    go_simp
end
set_option maxHeartbeats 400000 in
theorem low_same (a : Int) (w : World) :
    Calls Try.prog 56 #[.int .i64 a] w fun e w' => e = .returned (.int .i64 ((Ev.low a : Nat) : Int)) ∧ w' = w := by
  have ha := u32_low a
  have la := Ev.low_lt a
  generalize Ev.low a = x at *
  go_enter Try.func56, Try.ntmps56
  go_wp2
  go_ret
  exact ⟨rfl, rfl⟩
set_option maxHeartbeats 400000 in
theorem refSel_same (a b c : Int) (w : World) :
    Calls Try.prog 88 #[.int .i64 a, .int .i64 b, .int .i64 c] w fun e w' => e = .returned (.int .i64 (Ev.sel a b c)) ∧ w' = w := by
  have la := Lib.hid (fun a w => low_same a w)
  have s1 := Lib.hid (@sel_yes a b c)
  have s2 := Lib.hid (@sel_no a b c)
  go_enter Try.func88, Try.ntmps88
  go_wp2_with (refine (la.out _ _).mono ?_; rintro _ _ ⟨rfl, rfl⟩)
  all_goals
    go_ret
    (try simp only [bne_iff_ne, ne_eq, bne_eq_false_iff_eq, beq_iff_eq, beq_eq_false_iff_ne] at *)
    refine ⟨?_, by first | rfl | trivial⟩
    first
    | (have h0 : ¬ (((Ev.low a : Nat) : Int) = 0) := by omega
       rw [s1.out h0]; rfl)
    | (have h0 : (((Ev.low a : Nat) : Int) = 0) := by omega
       rw [s2.out h0]; rfl)
end Go.Proofs.Ytljcgcllhcdleaa
