import Derived.Test.YtljcgcllhcdleaaMm31
import Derived.Test.YtljcgcllhcdleaaMm24
import Derived.Test.YtljcgcllhcdleaaMm26
import Derived.Deep.DeepCutAuto
import Derived.Deep.RegionLawGrows
/- Chapter 11, the law's words: are all that is given words? -/
namespace Ev
def wordsOk (g : Given) : Bool := (g.arrays ++ [g.words]).all fun l => l.all isWord
end Ev
namespace Go.Proofs.Ytljcgcllhcdleaa
open Go.RowKit
set_option linter.unusedSimpArgs false
set_option linter.unusedVariables false
theorem below_grown {w w' : World} (h : w.grownBy w' none) : Below w.heap.size w w' := ⟨h.os, h.tape, h.output, h.size, fun k hk => h.block k hk (by simp)⟩
/-- append onto an empty slice of one's own -/
theorem wpList_append_fresh {P : Program} {w : World} {size : Nat} {ops : Array Oper} {rest : List Oper} {o : Oper} {a : Act} {Q : Exit → Act → World → Prop} (hgd : o.guard = none) (s x : Operand) (t : TypeId)
    (ho : o.op = .call { callee := .builtin .append, args := #[s, x], argTypes := #[t, t] })
    (e : TypeId) (i : TypeInfo) (z : Value) (bytes : Nat) (ht : P.underlying t = some (.slice e)) (hi : P.info? e = some i) (hz : i.zero = some z)
    (hsize : i.size = size) (hby : i.bytes = bytes) (hzs : z.cells.size = size) (hsz : 0 < size)
    {g : Nat} (hs : a.eval s = .slice (some ⟨g, 0, none⟩) 0 0) (hg : w.heap[g]? = some (.cells #[] e (0, 0)))
    {base : Nat} (hbg : base ≤ g) (hbase : base ≤ w.heap.size) {A : Option Addr} {m c : Nat} {news : List Value} (hx : a.eval x = .slice A m c) (hr : SL w w.heap.size size (.slice A m c) m news) (h1 : ∀ u ∈ news, u.oneCell' = true)
    (h63 : m ≤ maxLen) (hbytes : m * bytes ≤ 140737488355328)
    (h : ∀ v' w', w'.ownsRow base e size v' m news → Below w.heap.size w w' → wpList P ops Q rest (a.put o.dst v') w') : wpList P ops Q (o :: rest) a w := by
  obtain ⟨hl, A', c', e0, hc1, hc2, hc3, hc4⟩ := hr
  injection e0 with eA _ ec
  subst eA ec
  have less : ∀ {v' : Value} {w' : World}, w'.ownsRow w.heap.size e size v' m news → w'.ownsRow base e size v' m news := fun hv => own_less hv hbase
  rcases Nat.eq_zero_or_pos m with h0 | h0
  · subst h0
    have hn : news = [] := List.eq_nil_of_length_eq_zero (by simpa using hl)
    subst hn
    have hown : w.ownsRow base e size (.slice (some ⟨g, 0, none⟩) 0 0) 0 [] := by
      refine ⟨by simp, .inr ⟨g, 0, #[], rfl, hbg, hg, Nat.le_refl _, by decide, by simp, by simp⟩⟩
    refine wpList_plain hgd fun K hK => ?_
    have hrun : (Builtin.append_ #[t, t] o.type #[.slice (some ⟨g, 0, none⟩) 0 0, .slice A 0 c]).run P w = .ok (.slice (some ⟨g, 0, none⟩) 0 0) w := by
      simp [Builtin.append_, run_underlying ht, sizeOf, typeInfo, hi, Builtin.lenOf, Builtin.firstCells, storeCells]
      try (cases A <;> simp [loadCells, loadCellsFrom, storeCells])
    unfold Oper.wp execOp
    simp only [ho, resolve, invoke, builtin, Sem.run_bind, Sem.run_pure, Result.andThen_ok, List.map_toArray, List.map_cons, List.map_nil, hs, hx, hrun]
    exact hK _ _ (h _ _ hown (Below.refl _ _))
  · obtain ⟨b, off, e1, hb, hcells⟩ := hc4 h0
    subst e1
    refine wpList_step fun K hK => ?_
    refine step_append_grows hgd s x t ho e i z size bytes ht hi hz hsize hby hzs hsz (some ⟨g, 0, none⟩) 0 0 [] hs (fun h => by cases h) (by simp) (fun b _ j u hu => by simp at hu) ⟨b, off, none⟩ m c news hx hl (fun j u hu => ?_) h1 (by omega) (by omega) (by rw [Nat.zero_add]; exact hbytes) (fun v' w' hown hgr => hK _ _ (h v' w' ?_ (below_grown hgr)))
    · have := hcells j u hu
      rw [show (⟨b, off, none⟩ : Addr).add j = ⟨b, off + j, none⟩ from by unfold Addr.add; split <;> simp_all]
      exact this
    · rw [Nat.zero_add, List.nil_append] at hown
      exact less hown
/-- a new slice, in a block from base on -/
def Hv.litFrom (base : Nat) (cs : Array Value) (t : TypeId) (n : Nat) : Hv where
  R v w := ∃ g, v = .slice (some ⟨g, 0, none⟩) n n ∧ base ≤ g ∧ w.heap[g]? = some (.cells cs t (0, 0))
  ok v := ∃ g, v = .slice (some ⟨g, 0, none⟩) n n
  imp v w h := by obtain ⟨g, e, _⟩ := h; exact ⟨g, e⟩
  dum := ⟨_, 0, rfl⟩
  stay v w w' hb h := by obtain ⟨g, e, h2, hg⟩ := h; exact ⟨g, e, h2, (hb.block g (Array.getElem?_eq_some_iff.1 hg).1).trans hg⟩
theorem litFrom_heap {w : World} {base A n : Nat} {o : Obj} (h : ∃ g, Value.slice (some ⟨A, 0, none⟩) n n = .slice (some ⟨g, 0, none⟩) n n ∧ base ≤ g ∧ w.heap[g]? = some o) : base ≤ A ∧ w.heap[A]? = some o := by
  obtain ⟨g, e, h2, hg⟩ := h
  injection e with e
  injection e with e
  injection e with e
  subst e
  exact ⟨h2, hg⟩
theorem own_empty {w : World} {base : Nat} {e : TypeId} (hb : base ≤ w.heap.size) : (w.alloc (.cells #[] e)).ownsRow base e 1 (.slice (some ⟨w.heap.size, 0, none⟩) 0 0) 0 [] :=
  own_of_full (heap_alloc_new w _) rfl hb (by decide)
theorem oneCells_slices {w : World} {B : Nat} {vs : List Value} {l : List (List Int)} (hl : vs.length = l.length) (h : ∀ (k : Nat) u a, vs[k]? = some u → l[k]? = some a → RInts w B u a) : ∀ u ∈ vs, u.oneCell' = true := by
  intro u hu
  obtain ⟨k, hk, rfl⟩ := List.getElem_of_mem hu
  obtain ⟨A, c, e, _⟩ := SL.form (h k vs[k] (l[k]'(by omega)) (List.getElem?_eq_getElem hk) (List.getElem?_eq_getElem (by omega)))
  rw [e]; rfl
set_option maxRecDepth 8000 in
set_option maxHeartbeats 1600000 in
theorem words_any (g : Ev.Given) (vg : Value) (w : World) (hg : RGiven w w.heap.size vg g) (hl : g.arrays.length ≤ 1073741824) :
    Calls Try.prog 47 #[vg] w fun e w' => e = .returned (.bool (Ev.wordsOk g)) ∧ Below w.heap.size w w' := by
  obtain ⟨vw, vx, rfl, hw, hx⟩ := hg
  obtain ⟨Aw, cw, rfl, hw1, hw2⟩ := SL.form hw
  obtain ⟨vs, hxl, hxs, hxe⟩ := hx
  obtain ⟨Ax, cx, rfl, hx1, hx2⟩ := SL.form hxs
  unfold maxLen at hw2 hx2
  obtain ⟨i0, hi0, hz0, hz1, hz2⟩ := info_parts slice_info
  have II := Lib.hid (⟨hi0, hz0, hz1, hz2⟩ : _ ∧ _ ∧ _ ∧ _)
  have HXL := Lib.hid hxl
  have HXS := Lib.hid hxs
  have HXE := Lib.hid hxe
  have HW := Lib.hid hw
  clear hi0 hz0 hz1 hz2 hxl hxs hxe hw
  go_enter Try.func47, Try.ntmps47
  go_wp2_with fail
  have n0 : (w.alloc (.cells #[.slice Aw g.words.length cw, .slice Ax g.arrays.length cx] 45)).cell? ⟨w.heap.size, 0, none⟩ = some (.slice Aw g.words.length cw) := by go_simp
  have n1 : (w.alloc (.cells #[.slice Aw g.words.length cw, .slice Ax g.arrays.length cx] 45)).cell? ⟨w.heap.size, 1, none⟩ = some (.slice Ax g.arrays.length cx) := by go_simp
  have HXA : Hid (SL (w.alloc (.cells #[.slice Aw g.words.length cw, .slice Ax g.arrays.length cx] 45)) (w.alloc (.cells #[.slice Aw g.words.length cw, .slice Ax g.arrays.length cx] 45)).heap.size 1 (.slice Ax g.arrays.length cx) g.arrays.length vs) := SL.at_ HXS.out ((Below.refl _ _).alloc (Nat.le_refl _) _) (Nat.le_refl _)
  have B0 : Hid (Below w.heap.size w (w.alloc (.cells #[.slice Aw g.words.length cw, .slice Ax g.arrays.length cx] 45))) := (Below.refl _ _).alloc (Nat.le_refl _) _
  have s0 : w.heap.size < (w.alloc (.cells #[.slice Aw g.words.length cw, .slice Ax g.arrays.length cx] 45)).heap.size := by simp
  generalize w.alloc (.cells #[.slice Aw g.words.length cw, .slice Ax g.arrays.length cx] 45) = wA at *
  refine wp_region_first 9 (.int .i64 0) (some 16) (by kernel_rfl) (by kernel_rfl) (by kernel_rfl) (by kernel_rfl) (by kernel_rfl) (fun _ _ _ h => h) ⟨_, rfl, rfl, Or.inl ⟨rfl, fun w9 => by go_simp⟩⟩ ?_
  simp only [List.dropLast_cons_cons, List.dropLast_singleton]
  dsimp only [Act.put]
  (try simp only [Act.put, List.setIfInBounds_toArray, List.set_cons_zero, List.set_cons_succ])
  refine wpAny_flock_tail 7 (fun k => match k with | 0 => some (Hv.litFrom wA.heap.size #[] 42 0) | 3 => some (Hv.own (wA.heap.size) 42 1 g.arrays.length vs) | 6 => some (Hv.lit #[.slice Aw g.words.length cw] 42 1) | _ => none) (by kernel_rfl) (by kernel_rfl) (by kernel_rfl) ?_
  simp only [List.take_succ_cons, List.take_zero, List.drop_succ_cons, List.drop_zero]
  refine flock_heavy _ rfl ?_ ?_
  · intro w9 hb9 hh9
    have hB9 : Below wA.heap.size wA w9 := (by (repeat' (first | (with_reducible exact Below.refl _ _) | (with_reducible assumption) | (with_reducible refine Below.alloc ?_ ?_ _) | (with_reducible refine below_drewN ?_ _) | (with_reducible refine Below.drew ?_) | (with_reducible refine Below.setCell ?_ ?_ _) | (with_reducible refine Below.trans ?_ (Below.mono (by with_reducible assumption) ?_)) | go_size)))
    obtain ⟨kc9, kf9, s9⟩ := bfacts hb9
    obtain ⟨kd9, kg9, _⟩ := bfacts hB9
    skip
    go_wp2_with fail
    refine grewTo_at (by rfl) (by (repeat' (first | (with_reducible exact Below.refl _ _) | (with_reducible assumption) | (with_reducible refine Below.alloc ?_ ?_ _) | (with_reducible refine below_drewN ?_ _) | (with_reducible refine Below.drew ?_) | (with_reducible refine Below.setCell ?_ ?_ _) | (with_reducible refine Below.trans ?_ (Below.mono (by with_reducible assumption) ?_)) | go_size))) ?_
    exact ⟨_, rfl, by go_size, heap_alloc_new _ _⟩
  intro x0 ok0
  (try simp only [Act.put, List.setIfInBounds_toArray, List.set_cons_zero, List.set_cons_succ])
  (try dsimp only [Hv.own, Hv.is, Hv.lit, Hv.box, Hv.sl, Hv.litFrom] at ok0)
  first | subst ok0 | (obtain ⟨A0, c0, ok0⟩ := ok0; subst ok0) | (obtain ⟨A0, ok0⟩ := ok0; subst ok0) | skip
  apply flock_light rfl
  case h => first | exact light_no (by rfl) | (apply light_plain rfl; intro w9 hw9; obtain ⟨hb9, hh9⟩ := hw9; skip; go_simp; try rfl) | (apply light_yes (by rfl); intro w9 hw9; obtain ⟨hb9, hh9⟩ := hw9; skip; go_simp; try rfl)
  (try simp only [Act.put, List.setIfInBounds_toArray, List.set_cons_zero, List.set_cons_succ])
  apply flock_light rfl
  case h => first | exact light_no (by rfl) | (apply light_plain rfl; intro w9 hw9; obtain ⟨hb9, hh9⟩ := hw9; have hB9 : Below wA.heap.size wA w9 := (by (repeat' (first | (with_reducible exact Below.refl _ _) | (with_reducible assumption) | (with_reducible refine Below.alloc ?_ ?_ _) | (with_reducible refine below_drewN ?_ _) | (with_reducible refine Below.drew ?_) | (with_reducible refine Below.setCell ?_ ?_ _) | (with_reducible refine Below.trans ?_ (Below.mono (by with_reducible assumption) ?_)) | go_size))); obtain ⟨kc9, kf9, s9⟩ := bfacts hb9; obtain ⟨kd9, kg9, _⟩ := bfacts hB9; skip; go_simp; try rfl) | (apply light_yes (by rfl); intro w9 hw9; obtain ⟨hb9, hh9⟩ := hw9; have hB9 : Below wA.heap.size wA w9 := (by (repeat' (first | (with_reducible exact Below.refl _ _) | (with_reducible assumption) | (with_reducible refine Below.alloc ?_ ?_ _) | (with_reducible refine below_drewN ?_ _) | (with_reducible refine Below.drew ?_) | (with_reducible refine Below.setCell ?_ ?_ _) | (with_reducible refine Below.trans ?_ (Below.mono (by with_reducible assumption) ?_)) | go_size))); obtain ⟨kc9, kf9, s9⟩ := bfacts hb9; obtain ⟨kd9, kg9, _⟩ := bfacts hB9; skip; go_simp; try rfl)
  (try simp only [Act.put, List.setIfInBounds_toArray, List.set_cons_zero, List.set_cons_succ])
  refine flock_heavy _ rfl ?_ ?_
  · intro w9 hb9 hh9
    have hB9 : Below wA.heap.size wA w9 := (by (repeat' (first | (with_reducible exact Below.refl _ _) | (with_reducible assumption) | (with_reducible refine Below.alloc ?_ ?_ _) | (with_reducible refine below_drewN ?_ _) | (with_reducible refine Below.drew ?_) | (with_reducible refine Below.setCell ?_ ?_ _) | (with_reducible refine Below.trans ?_ (Below.mono (by with_reducible assumption) ?_)) | go_size)))
    obtain ⟨kc9, kf9, s9⟩ := bfacts hb9
    obtain ⟨kd9, kg9, _⟩ := bfacts hB9
    have r0 := hh9 _ (.head _) (by kernel_rfl); dsimp only [Hv.own, Hv.is, Hv.lit, Hv.box, Hv.sl, Hv.litFrom] at r0; (first | replace r0 := lit_heap r0 | replace r0 := box_heap r0 | skip); skip
    refine wpList_append_fresh rfl _ _ _ rfl 42 i0 (.slice none 0 0) 24 Try.underlying43 II.out.1 II.out.2.1 II.out.2.2.1 II.out.2.2.2 rfl (by decide) rfl (litFrom_heap r0).2 (base := wA.heap.size) (litFrom_heap r0).1 hB9.size rfl (SL.at_ HXA.out hB9 (Nat.le_refl _)) (oneCells_slices HXL.out HXE.out) (by unfold maxLen; omega) (by omega) ?_; intro v3 w3 hown3 hb3; exact grewTo_intro hb3 hown3
  intro x3 ok3
  (try simp only [Act.put, List.setIfInBounds_toArray, List.set_cons_zero, List.set_cons_succ])
  (try dsimp only [Hv.own, Hv.is, Hv.lit, Hv.box, Hv.sl, Hv.litFrom] at ok3)
  first | subst ok3 | (obtain ⟨A3, c3, ok3⟩ := ok3; subst ok3) | (obtain ⟨A3, ok3⟩ := ok3; subst ok3) | skip
  apply flock_light rfl
  case h => first | exact light_no (by rfl) | (apply light_plain rfl; intro w9 hw9; obtain ⟨hb9, hh9⟩ := hw9; skip; go_simp; try rfl) | (apply light_yes (by rfl); intro w9 hw9; obtain ⟨hb9, hh9⟩ := hw9; skip; go_simp; try rfl)
  (try simp only [Act.put, List.setIfInBounds_toArray, List.set_cons_zero, List.set_cons_succ])
  apply flock_light rfl
  case h => first | exact light_no (by rfl) | (apply light_plain rfl; intro w9 hw9; obtain ⟨hb9, hh9⟩ := hw9; have hB9 : Below wA.heap.size wA w9 := (by (repeat' (first | (with_reducible exact Below.refl _ _) | (with_reducible assumption) | (with_reducible refine Below.alloc ?_ ?_ _) | (with_reducible refine below_drewN ?_ _) | (with_reducible refine Below.drew ?_) | (with_reducible refine Below.setCell ?_ ?_ _) | (with_reducible refine Below.trans ?_ (Below.mono (by with_reducible assumption) ?_)) | go_size))); obtain ⟨kc9, kf9, s9⟩ := bfacts hb9; obtain ⟨kd9, kg9, _⟩ := bfacts hB9; skip; go_simp; try rfl) | (apply light_yes (by rfl); intro w9 hw9; obtain ⟨hb9, hh9⟩ := hw9; have hB9 : Below wA.heap.size wA w9 := (by (repeat' (first | (with_reducible exact Below.refl _ _) | (with_reducible assumption) | (with_reducible refine Below.alloc ?_ ?_ _) | (with_reducible refine below_drewN ?_ _) | (with_reducible refine Below.drew ?_) | (with_reducible refine Below.setCell ?_ ?_ _) | (with_reducible refine Below.trans ?_ (Below.mono (by with_reducible assumption) ?_)) | go_size))); obtain ⟨kc9, kf9, s9⟩ := bfacts hb9; obtain ⟨kd9, kg9, _⟩ := bfacts hB9; skip; go_simp; try rfl)
  (try simp only [Act.put, List.setIfInBounds_toArray, List.set_cons_zero, List.set_cons_succ])
  refine flock_heavy _ rfl ?_ ?_
  · intro w9 hb9 hh9
    have hB9 : Below wA.heap.size wA w9 := (by (repeat' (first | (with_reducible exact Below.refl _ _) | (with_reducible assumption) | (with_reducible refine Below.alloc ?_ ?_ _) | (with_reducible refine below_drewN ?_ _) | (with_reducible refine Below.drew ?_) | (with_reducible refine Below.setCell ?_ ?_ _) | (with_reducible refine Below.trans ?_ (Below.mono (by with_reducible assumption) ?_)) | go_size)))
    obtain ⟨kc9, kf9, s9⟩ := bfacts hb9
    obtain ⟨kd9, kg9, _⟩ := bfacts hB9
    skip
    go_wp2_with fail
    refine grewTo_at (by rfl) (by (repeat' (first | (with_reducible exact Below.refl _ _) | (with_reducible assumption) | (with_reducible refine Below.alloc ?_ ?_ _) | (with_reducible refine below_drewN ?_ _) | (with_reducible refine Below.drew ?_) | (with_reducible refine Below.setCell ?_ ?_ _) | (with_reducible refine Below.trans ?_ (Below.mono (by with_reducible assumption) ?_)) | go_size))) ?_
    exact ⟨_, rfl, heap_alloc_new _ _⟩
  intro x6 ok6
  (try simp only [Act.put, List.setIfInBounds_toArray, List.set_cons_zero, List.set_cons_succ])
  (try dsimp only [Hv.own, Hv.is, Hv.lit, Hv.box, Hv.sl, Hv.litFrom] at ok6)
  first | subst ok6 | (obtain ⟨A6, c6, ok6⟩ := ok6; subst ok6) | (obtain ⟨A6, ok6⟩ := ok6; subst ok6) | skip
  refine flock_nil ?_
  intro w9 hb9 hh9
  have hB9 : Below wA.heap.size wA w9 := (by (repeat' (first | (with_reducible exact Below.refl _ _) | (with_reducible assumption) | (with_reducible refine Below.alloc ?_ ?_ _) | (with_reducible refine below_drewN ?_ _) | (with_reducible refine Below.drew ?_) | (with_reducible refine Below.setCell ?_ ?_ _) | (with_reducible refine Below.trans ?_ (Below.mono (by with_reducible assumption) ?_)) | go_size)))
  have r6 := hh9 _ (.head _); dsimp only [Hv.own, Hv.is, Hv.lit, Hv.box, Hv.sl, Hv.litFrom] at r6; (first | replace r6 := lit_heap r6 | replace r6 := box_heap r6 | skip); have r3 := hh9 _ (.tail _ (.head _)); dsimp only [Hv.own, Hv.is, Hv.lit, Hv.box, Hv.sl, Hv.litFrom] at r3; (first | replace r3 := lit_heap r3 | replace r3 := box_heap r3 | skip); have r0 := hh9 _ (.tail _ (.tail _ (.head _))); dsimp only [Hv.own, Hv.is, Hv.lit, Hv.box, Hv.sl, Hv.litFrom] at r0; (first | replace r0 := lit_heap r0 | replace r0 := box_heap r0 | skip); clear hh9
  (try dsimp only)
  go_wp2_with (at_builtin; refine wpList_append_own_at _ rfl (.tmp 10) (.tmp 13) _ rfl wA.heap.size 42 i0 (.slice none 0 0) 1 24 Try.underlying43 II.out.1 II.out.2.1 II.out.2.2.1 II.out.2.2.2 rfl (by decide) _ _ _ rfl r3 ⟨A6, 0, none⟩ 1 1 [.slice Aw g.words.length cw] rfl rfl (cells_of_block r6) (fun x hx => by simp at hx; subst hx; rfl) (by unfold maxLen; omega) (by omega) hB9.size ?_; intro v3 w3 hown3 hg3 hn3 hat3; obtain ⟨A5, c5, hv5, hc51, hc52⟩ := SL.form (SL.of_own hown3); subst hv5)
  have hB3 : Below wA.heap.size wA w3 := hB9.grown hg3 hB9.size (fun q hq => (r3.lt q hq).1)
  have HBw : Hid (Below w.heap.size w w3) := B0.out.trans (hB3.mono (by omega))
  have HOW := Lib.hid (SL.of_own hown3)
  have HVS : Hid (∀ (k : Nat) u a, (vs ++ [Value.slice Aw g.words.length cw])[k]? = some u → (g.arrays ++ [g.words])[k]? = some a → RInts w3 w3.heap.size u a) := fun k u a hu ha => by
    rcases Nat.lt_or_ge k vs.length with hk | hk
    · rw [List.getElem?_append_left hk] at hu
      rw [List.getElem?_append_left (by rw [← HXL.out]; exact hk)] at ha
      exact SL.at_ (HXE.out k u a hu ha) HBw.out (Nat.le_refl _)
    · rw [List.getElem?_append_right hk] at hu
      rw [List.getElem?_append_right (by rw [← HXL.out]; exact hk)] at ha
      have hk0 : k - vs.length = 0 := by
        rcases Nat.eq_zero_or_pos (k - vs.length) with h | h
        · exact h
        · rw [List.getElem?_eq_none (by simp; omega)] at hu; cases hu
      rw [hk0] at hu
      rw [← HXL.out, hk0] at ha
      simp at hu ha
      subst hu ha
      exact SL.at_ HW.out HBw.out (Nat.le_refl _)
  have HLL : Hid ((g.arrays ++ [g.words]).length = g.arrays.length + 1 ∧ (vs ++ [Value.slice Aw g.words.length cw]).length = g.arrays.length + 1) := ⟨by simp, by simp [HXL.out]⟩
  have HWO : Hid (Ev.wordsOk g = (g.arrays ++ [g.words]).all fun l => l.all Ev.isWord) := rfl
  generalize g.arrays ++ [g.words] = LL at *
  generalize vs ++ [Value.slice Aw g.words.length cw] = VS at *
  unfold maxLen at hc52
  clear hown3 hg3 hn3 hat3 r0 r3 r6 hB3 hB9 hb9 n0 n1 HXA HXE HXS HW B0
  go_wp2_with fail
  go_loop [16] (fun u => ∃ k : Nat, k ≤ g.arrays.length + 1 ∧ u = .int .i64 (k : Int) ∧ Hid (∀ a ∈ LL.take k, a.all Ev.isWord = true)) (fun u => g.arrays.length + 1 - (intOf u).toNat)
  case atStart => exact ⟨0, by omega, rfl, fun a ha => by simp at ha⟩
  case round =>
    obtain ⟨k, hk, rfl, HT⟩ := hrel
    by_cases hlt : k < g.arrays.length + 1
    · have hltI : (k : Int) < (g.arrays.length : Int) + 1 := by omega
      obtain ⟨bo, oo, co, hvo, hbo, _, _, hco⟩ := SL.row HOW.out (by omega : 0 < g.arrays.length + 1)
      injection hvo with hA _ hcr
      subst hA hcr
      obtain ⟨u, hu⟩ : ∃ u, VS[k]? = some u := ⟨VS[k]'(by rw [HLL.out.2]; exact hlt), List.getElem?_eq_getElem _⟩
      obtain ⟨a, ha⟩ : ∃ a, LL[k]? = some a := ⟨LL[k]'(by rw [HLL.out.1]; exact hlt), List.getElem?_eq_getElem _⟩
      have cu := hco k u hu
      have HR := Lib.hid (HVS.out k u a hu ha)
      have HA := Lib.hid ha
      obtain ⟨Au, cu2, hvu, hcu1, hcu2⟩ := SL.form HR.out
      subst hvu
      unfold maxLen at hcu2
      clear hu ha hco
      go_wp2_with fail
      go_loop [22] (fun u => ∃ q : Nat, q ≤ a.length ∧ u = .int .i64 (q : Int) ∧ Hid (∀ x ∈ a.take q, Ev.isWord x = true)) (fun u => a.length - (intOf u).toNat)
      case atStart => exact ⟨0, by omega, rfl, fun x hx => by simp at hx⟩
      case round =>
        obtain ⟨q, hq, rfl, HQ⟩ := hrel
        by_cases hql : q < a.length
        · obtain ⟨bi, oi, ci, hvi, hbi, _, _, hci⟩ := SL.row HR.out (by omega : 0 < a.length)
          injection hvi with hA2 _ hcr2
          subst hA2 hcr2
          obtain ⟨x, hx⟩ : ∃ x, a[q]? = some x := ⟨a[q], List.getElem?_eq_getElem hql⟩
          have cx := hci q (.int .i64 x) (by simp [hx])
          have HX := Lib.hid hx
          clear hx hci
          by_cases hw : 0 ≤ x ∧ x ≤ 4294967295
          · have HWX := Lib.hid (show Ev.isWord x = true by unfold Ev.isWord; simp [hw.1, hw.2])
            obtain ⟨h0, h1⟩ := hw
            go_wp2_with fail
            go_round
            case rel =>
              refine ⟨q + 1, by omega, by go_num, fun y hy => ?_⟩
              rw [List.take_add_one, HX.out] at hy
              rcases List.mem_append.1 hy with hy | hy
              · exact HQ.out y hy
              · simp at hy; subst hy; exact HWX.out
            case measure => simp [intOf]; omega
          · have HF : Hid (Ev.wordsOk g = false) := by
              rw [HWO.out, Bool.eq_false_iff]
              intro h
              have h2 := List.all_eq_true.1 (List.all_eq_true.1 h a (List.mem_of_getElem? HA.out)) x (List.mem_of_getElem? HX.out)
              unfold Ev.isWord at h2
              simp at h2
              exact hw h2
            rcases (show x < 0 ∨ (0 ≤ x ∧ 4294967295 < x) by omega) with h | h
            · clear hw
              go_wp2_with fail
              go_ret
              exact ⟨by rw [HF.out]; rfl, HBw.out⟩
            · obtain ⟨h0, h1⟩ := h
              clear hw
              go_wp2_with fail
              go_ret
              exact ⟨by rw [HF.out]; rfl, HBw.out⟩
        · have hqe : q = a.length := by omega
          subst hqe
          have HAW := Lib.hid (show a.all Ev.isWord = true from List.all_eq_true.2 (fun x hx => HQ.out x (by rw [List.take_length]; exact hx)))
          clear HQ
          go_wp2_with fail
          go_round
          case rel =>
            refine ⟨k + 1, by omega, by go_num, fun y hy => ?_⟩
            rw [List.take_add_one, HA.out] at hy
            rcases List.mem_append.1 hy with hy | hy
            · exact HT.out y hy
            · simp at hy; subst hy; exact HAW.out
          case measure => simp [intOf]; omega
    · have hgeI : (g.arrays.length : Int) + 1 ≤ (k : Int) := by omega
      have HOKW : Hid (Ev.wordsOk g = true) := by
        rw [HWO.out]
        exact List.all_eq_true.2 (fun a ha => HT.out a (by rw [List.take_of_length_le (by rw [HLL.out.1]; omega)]; exact ha))
      go_wp2_with fail
      go_ret
      exact ⟨by rw [HOKW.out]; rfl, HBw.out⟩
end Go.Proofs.Ytljcgcllhcdleaa
