import Derived.Test.YtljcgcllhcdleaaMo18
import Derived.Test.YtljcgcllhcdleaaMo14
import Derived.Deep.DeepCutAuto
import Derived.Deep.RegionLawGrows
import Derived.Test.YtljcgcllhcdleaaMo7
import Derived.Test.YtljcgcllhcdleaaMo6
import Derived.Test.YtljcgcllhcdleaaMo3
import Derived.Test.YtljcgcllhcdleaaMo16
import Derived.Test.YtljcgcllhcdleaaMo17
import Derived.Test.YtljcgcllhcdleaaMo11
/- Chapter 11, the law's words: are all that is given words? -/
namespace Ev
def wordsOk (g : Given) : Bool := (g.arrays ++ [g.words]).all fun l => l.all isWord
end Ev
namespace Go.Proofs.Ytljcgcllhcdleaa
open Go.RowKit
set_option linter.unusedSimpArgs false
set_option linter.unusedVariables false
theorem below_grown {w w' : World} (h : w.grownBy w' none) : Below w.heap.size w w' := ⟨h.os, h.tape, h.output, h.size, fun k hk => h.block k hk (by simp)⟩
/-- append onto an empty slice of one's own -/
theorem wpList_append_fresh {P : Program} {w : World} {size : Nat} {ops : Array Oper} {rest : List Oper} {o : Oper} {a : Act} {Q : Exit → Act → World → Prop} (hgd : o.guard = none) (s x : Operand) (t : TypeId)
    (ho : o.op = .call { callee := .builtin .append, args := #[s, x], argTypes := #[t, t] })
    (e : TypeId) (i : TypeInfo) (z : Value) (bytes : Nat) (ht : P.underlying t = some (.slice e)) (hi : P.info? e = some i) (hz : i.zero = some z)
    (hsize : i.size = size) (hby : i.bytes = bytes) (hzs : z.cells.size = size) (hsz : 0 < size)
    {g : Nat} (hs : a.eval s = .slice (some ⟨g, 0, none⟩) 0 0) (hg : w.heap[g]? = some (.cells #[] e (0, 0)))
    {base : Nat} (hbg : base ≤ g) (hbase : base ≤ w.heap.size) {A : Option Addr} {m c : Nat} {news : List Value} (hx : a.eval x = .slice A m c) (hr : SL w w.heap.size size (.slice A m c) m news) (h1 : ∀ u ∈ news, u.oneCell' = true)
    (h63 : m ≤ maxLen) (hbytes : m * bytes ≤ 140737488355328)
    (h : ∀ v' w', w'.ownsRow base e size v' m news → Below w.heap.size w w' → wpList P ops Q rest (a.put o.dst v') w') : wpList P ops Q (o :: rest) a w := by
  obtain ⟨hl, A', c', e0, hc1, hc2, hc3, hc4⟩ := hr
  injection e0 with eA _ ec
  subst eA ec
  have less : ∀ {v' : Value} {w' : World}, w'.ownsRow w.heap.size e size v' m news → w'.ownsRow base e size v' m news := fun hv => own_less hv hbase
  rcases Nat.eq_zero_or_pos m with h0 | h0
  · subst h0
    have hn : news = [] := List.eq_nil_of_length_eq_zero (by simpa using hl)
    subst hn
    have hown : w.ownsRow base e size (.slice (some ⟨g, 0, none⟩) 0 0) 0 [] := by
      refine ⟨by simp, .inr ⟨g, 0, #[], rfl, hbg, hg, Nat.le_refl _, by decide, by simp, by simp⟩⟩
    refine wpList_plain hgd fun K hK => ?_
    have hrun : (Builtin.append_ #[t, t] o.type #[.slice (some ⟨g, 0, none⟩) 0 0, .slice A 0 c]).run P w = .ok (.slice (some ⟨g, 0, none⟩) 0 0) w := by
      simp [Builtin.append_, run_underlying ht, sizeOf, typeInfo, hi, Builtin.lenOf, Builtin.firstCells, storeCells]
      try (cases A <;> simp [loadCells, loadCellsFrom, storeCells])
    unfold Oper.wp execOp
    simp only [ho, resolve, invoke, builtin, Sem.run_bind, Sem.run_pure, Result.andThen_ok, List.map_toArray, List.map_cons, List.map_nil, hs, hx, hrun]
    exact hK _ _ (h _ _ hown (Below.refl _ _))
  · obtain ⟨b, off, e1, hb, hcells⟩ := hc4 h0
    subst e1
    refine wpList_step fun K hK => ?_
    refine step_append_grows hgd s x t ho e i z size bytes ht hi hz hsize hby hzs hsz (some ⟨g, 0, none⟩) 0 0 [] hs (fun h => by cases h) (by simp) (fun b _ j u hu => by simp at hu) ⟨b, off, none⟩ m c news hx hl (fun j u hu => ?_) h1 (by omega) (by omega) (by rw [Nat.zero_add]; exact hbytes) (fun v' w' hown hgr => hK _ _ (h v' w' ?_ (below_grown hgr)))
    · have := hcells j u hu
      rw [show (⟨b, off, none⟩ : Addr).add j = ⟨b, off + j, none⟩ from by unfold Addr.add; split <;> simp_all]
      exact this
    · rw [Nat.zero_add, List.nil_append] at hown
      exact less hown
/-- a new slice, in a block from base on -/
def Hv.litFrom (base : Nat) (cs : Array Value) (t : TypeId) (n : Nat) : Hv where
  R v w := ∃ g, v = .slice (some ⟨g, 0, none⟩) n n ∧ base ≤ g ∧ w.heap[g]? = some (.cells cs t (0, 0))
  ok v := ∃ g, v = .slice (some ⟨g, 0, none⟩) n n
  imp v w h := by obtain ⟨g, e, _⟩ := h; exact ⟨g, e⟩
  dum := ⟨_, 0, rfl⟩
  stay v w w' hb h := by obtain ⟨g, e, h2, hg⟩ := h; exact ⟨g, e, h2, (hb.block g (Array.getElem?_eq_some_iff.1 hg).1).trans hg⟩
theorem litFrom_heap {w : World} {base A n : Nat} {o : Obj} (h : ∃ g, Value.slice (some ⟨A, 0, none⟩) n n = .slice (some ⟨g, 0, none⟩) n n ∧ base ≤ g ∧ w.heap[g]? = some o) : base ≤ A ∧ w.heap[A]? = some o := by
  obtain ⟨g, e, h2, hg⟩ := h
  injection e with e
  injection e with e
  injection e with e
  subst e
  exact ⟨h2, hg⟩
theorem own_empty {w : World} {base : Nat} {e : TypeId} (hb : base ≤ w.heap.size) : (w.alloc (.cells #[] e)).ownsRow base e 1 (.slice (some ⟨w.heap.size, 0, none⟩) 0 0) 0 [] :=
  own_of_full (heap_alloc_new w _) rfl hb (by decide)
theorem oneCells_slices {w : World} {B : Nat} {vs : List Value} {l : List (List Int)} (hl : vs.length = l.length) (h : ∀ (k : Nat) u a, vs[k]? = some u → l[k]? = some a → RInts w B u a) : ∀ u ∈ vs, u.oneCell' = true := by
  intro u hu
  obtain ⟨k, hk, rfl⟩ := List.getElem_of_mem hu
  obtain ⟨A, c, e, _⟩ := SL.form (h k vs[k] (l[k]'(by omega)) (List.getElem?_eq_getElem hk) (List.getElem?_eq_getElem (by omega)))
  rw [e]; rfl
set_option maxRecDepth 8000 in
set_option maxHeartbeats 1600000 in
theorem words_any (g : Ev.Given) (vg : Value) (w : World) (hg : RGiven w w.heap.size vg g) (hl : g.arrays.length ≤ 1073741824) :
    Calls Try.prog 47 #[vg] w fun e w' => e = .returned (.bool (Ev.wordsOk g)) ∧ Below w.heap.size w w' := by
  obtain ⟨vw, vx, rfl, hw, hx⟩ := hg
  obtain ⟨Aw, cw, rfl, hw1, hw2⟩ := SL.form hw
  obtain ⟨vs, hxl, hxs, hxe⟩ := hx
  obtain ⟨Ax, cx, rfl, hx1, hx2⟩ := SL.form hxs
  unfold maxLen at hw2 hx2
  obtain ⟨i0, hi0, hz0, hz1, hz2⟩ := info_parts slice_info
  have II := Lib.hid (⟨hi0, hz0, hz1, hz2⟩ : _ ∧ _ ∧ _ ∧ _)
  have HXL := Lib.hid hxl
  have HXS := Lib.hid hxs
  have HXE := Lib.hid hxe
  have HW := Lib.hid hw
  clear hi0 hz0 hz1 hz2 hxl hxs hxe hw
  go_enter Try.func47, Try.ntmps47
  go_wp2_with fail
  have n0 : (w.alloc (.cells #[.slice Aw g.words.length cw, .slice Ax g.arrays.length cx] 45)).cell? ⟨w.heap.size, 0, none⟩ = some (.slice Aw g.words.length cw) := by go_simp
  have n1 : (w.alloc (.cells #[.slice Aw g.words.length cw, .slice Ax g.arrays.length cx] 45)).cell? ⟨w.heap.size, 1, none⟩ = some (.slice Ax g.arrays.length cx) := by go_simp
  have HXA : Hid (SL (w.alloc (.cells #[.slice Aw g.words.length cw, .slice Ax g.arrays.length cx] 45)) (w.alloc (.cells #[.slice Aw g.words.length cw, .slice Ax g.arrays.length cx] 45)).heap.size 1 (.slice Ax g.arrays.length cx) g.arrays.length vs) := SL.at_ HXS.out ((Below.refl _ _).alloc (Nat.le_refl _) _) (Nat.le_refl _)
  have B0 : Hid (Below w.heap.size w (w.alloc (.cells #[.slice Aw g.words.length cw, .slice Ax g.arrays.length cx] 45))) := (Below.refl _ _).alloc (Nat.le_refl _) _
  have s0 : w.heap.size < (w.alloc (.cells #[.slice Aw g.words.length cw, .slice Ax g.arrays.length cx] 45)).heap.size := by simp
  generalize w.alloc (.cells #[.slice Aw g.words.length cw, .slice Ax g.arrays.length cx] 45) = wA at *
  refine wp_region_first 9 (.int .i64 0) (some 16) (by kernel_rfl) (by kernel_rfl) (by kernel_rfl) (by kernel_rfl) (by kernel_rfl) (fun _ _ _ h => h) ⟨_, rfl, rfl, Or.inl ⟨rfl, fun w9 => by go_simp⟩⟩ ?_
  simp only [List.dropLast_cons_cons, List.dropLast_singleton]
  dsimp only [Act.put]
  (try simp only [Act.put, List.setIfInBounds_toArray, List.set_cons_zero, List.set_cons_succ])
  refine wpAny_flock_tail 7 (fun k => match k with | 0 => some (Hv.litFrom wA.heap.size #[] 42 0) | 3 => some (Hv.own (wA.heap.size) 42 1 g.arrays.length vs) | 6 => some (Hv.lit #[.slice Aw g.words.length cw] 42 1) | _ => none) (by kernel_rfl) (by kernel_rfl) (by kernel_rfl) ?_
  simp only [List.take_succ_cons, List.take_zero, List.drop_succ_cons, List.drop_zero]
  refine flock_heavy _ rfl ?_ ?_
  · intro w9 hb9 hh9
    have hB9 : Below wA.heap.size wA w9 := (by (repeat' first | with_reducible (first | exact Below.refl _ _ | assumption | refine Below.alloc ?_ ?_ _ | refine below_drewN ?_ _ | refine Below.drew ?_ | refine Below.setCell ?_ ?_ _ | refine Below.trans ?_ (Below.mono (by with_reducible assumption) ?_)) | go_size))
    obtain ⟨kc9, kf9, s9⟩ := bfacts hb9
    obtain ⟨kd9, kg9, _⟩ := bfacts hB9
    skip
    go_wp2_with fail
    refine grewTo_at (by rfl) (by (repeat' first | with_reducible (first | exact Below.refl _ _ | assumption | refine Below.alloc ?_ ?_ _ | refine below_drewN ?_ _ | refine Below.drew ?_ | refine Below.setCell ?_ ?_ _ | refine Below.trans ?_ (Below.mono (by with_reducible assumption) ?_)) | go_size)) ?_
    exact ⟨_, rfl, by go_size, heap_alloc_new _ _⟩
  intro x0 ok0
  (try simp only [Act.put, List.setIfInBounds_toArray, List.set_cons_zero, List.set_cons_succ])
  (try dsimp only [Hv.own, Hv.is, Hv.lit, Hv.box, Hv.sl, Hv.litFrom] at ok0)
  first | subst ok0 | (obtain ⟨A0, c0, ok0⟩ := ok0; subst ok0) | (obtain ⟨A0, ok0⟩ := ok0; subst ok0) | skip
  apply flock_light rfl
  case h => first | exact light_no (by rfl) | ((first | apply light_plain rfl | apply light_yes (by rfl)); intro w9 hw9; obtain ⟨hb9, hh9⟩ := hw9; skip; go_simp; try rfl)
  (try simp only [Act.put, List.setIfInBounds_toArray, List.set_cons_zero, List.set_cons_succ])
  apply flock_light rfl
  case h => first | exact light_no (by rfl) | ((first | apply light_plain rfl | apply light_yes (by rfl)); intro w9 hw9; obtain ⟨hb9, hh9⟩ := hw9; have hB9 : Below wA.heap.size wA w9 := (by (repeat' first | with_reducible (first | exact Below.refl _ _ | assumption | refine Below.alloc ?_ ?_ _ | refine below_drewN ?_ _ | refine Below.drew ?_ | refine Below.setCell ?_ ?_ _ | refine Below.trans ?_ (Below.mono (by with_reducible assumption) ?_)) | go_size)); obtain ⟨kc9, kf9, s9⟩ := bfacts hb9; obtain ⟨kd9, kg9, _⟩ := bfacts hB9; skip; go_simp; try rfl)
  (try simp only [Act.put, List.setIfInBounds_toArray, List.set_cons_zero, List.set_cons_succ])
  refine flock_heavy _ rfl ?_ ?_
  · intro w9 hb9 hh9
    have hB9 : Below wA.heap.size wA w9 := (by (repeat' first | with_reducible (first | exact Below.refl _ _ | assumption | refine Below.alloc ?_ ?_ _ | refine below_drewN ?_ _ | refine Below.drew ?_ | refine Below.setCell ?_ ?_ _ | refine Below.trans ?_ (Below.mono (by with_reducible assumption) ?_)) | go_size))
    obtain ⟨kc9, kf9, s9⟩ := bfacts hb9
    obtain ⟨kd9, kg9, _⟩ := bfacts hB9
    have r0 := hh9 _ (.head _) (by kernel_rfl); dsimp only [Hv.own, Hv.is, Hv.lit, Hv.box, Hv.sl, Hv.litFrom] at r0; (first | replace r0 := lit_heap r0 | replace r0 := box_heap r0 | skip); skip
    refine wpList_append_fresh rfl _ _ _ rfl 42 i0 (.slice none 0 0) 24 Try.underlying43 II.out.1 II.out.2.1 II.out.2.2.1 II.out.2.2.2 rfl (by decide) rfl (litFrom_heap r0).2 (base := wA.heap.size) (litFrom_heap r0).1 hB9.size rfl (SL.at_ HXA.out hB9 (Nat.le_refl _)) (oneCells_slices HXL.out HXE.out) (by unfold maxLen; omega) (by omega) ?_; intro v3 w3 hown3 hb3; exact grewTo_intro hb3 hown3
  intro x3 ok3
  (try simp only [Act.put, List.setIfInBounds_toArray, List.set_cons_zero, List.set_cons_succ])
  (try dsimp only [Hv.own, Hv.is, Hv.lit, Hv.box, Hv.sl, Hv.litFrom] at ok3)
  first | subst ok3 | (obtain ⟨A3, c3, ok3⟩ := ok3; subst ok3) | (obtain ⟨A3, ok3⟩ := ok3; subst ok3) | skip
  apply flock_light rfl
  case h => first | exact light_no (by rfl) | ((first | apply light_plain rfl | apply light_yes (by rfl)); intro w9 hw9; obtain ⟨hb9, hh9⟩ := hw9; skip; go_simp; try rfl)
  (try simp only [Act.put, List.setIfInBounds_toArray, List.set_cons_zero, List.set_cons_succ])
  apply flock_light rfl
  case h => first | exact light_no (by rfl) | ((first | apply light_plain rfl | apply light_yes (by rfl)); intro w9 hw9; obtain ⟨hb9, hh9⟩ := hw9; have hB9 : Below wA.heap.size wA w9 := (by (repeat' first | with_reducible (first | exact Below.refl _ _ | assumption | refine Below.alloc ?_ ?_ _ | refine below_drewN ?_ _ | refine Below.drew ?_ | refine Below.setCell ?_ ?_ _ | refine Below.trans ?_ (Below.mono (by with_reducible assumption) ?_)) | go_size)); obtain ⟨kc9, kf9, s9⟩ := bfacts hb9; obtain ⟨kd9, kg9, _⟩ := bfacts hB9; skip; go_simp; try rfl)
  (try simp only [Act.put, List.setIfInBounds_toArray, List.set_cons_zero, List.set_cons_succ])
  refine flock_heavy _ rfl ?_ ?_
  · intro w9 hb9 hh9
    have hB9 : Below wA.heap.size wA w9 := (by (repeat' first | with_reducible (first | exact Below.refl _ _ | assumption | refine Below.alloc ?_ ?_ _ | refine below_drewN ?_ _ | refine Below.drew ?_ | refine Below.setCell ?_ ?_ _ | refine Below.trans ?_ (Below.mono (by with_reducible assumption) ?_)) | go_size))
    obtain ⟨kc9, kf9, s9⟩ := bfacts hb9
    obtain ⟨kd9, kg9, _⟩ := bfacts hB9
    skip
    go_wp2_with fail
    refine grewTo_at (by rfl) (by (repeat' first | with_reducible (first | exact Below.refl _ _ | assumption | refine Below.alloc ?_ ?_ _ | refine below_drewN ?_ _ | refine Below.drew ?_ | refine Below.setCell ?_ ?_ _ | refine Below.trans ?_ (Below.mono (by with_reducible assumption) ?_)) | go_size)) ?_
    exact ⟨_, rfl, heap_alloc_new _ _⟩
  intro x6 ok6
  (try simp only [Act.put, List.setIfInBounds_toArray, List.set_cons_zero, List.set_cons_succ])
  (try dsimp only [Hv.own, Hv.is, Hv.lit, Hv.box, Hv.sl, Hv.litFrom] at ok6)
  first | subst ok6 | (obtain ⟨A6, c6, ok6⟩ := ok6; subst ok6) | (obtain ⟨A6, ok6⟩ := ok6; subst ok6) | skip
  refine flock_nil ?_
  intro w9 hb9 hh9
  have hB9 : Below wA.heap.size wA w9 := (by (repeat' first | with_reducible (first | exact Below.refl _ _ | assumption | refine Below.alloc ?_ ?_ _ | refine below_drewN ?_ _ | refine Below.drew ?_ | refine Below.setCell ?_ ?_ _ | refine Below.trans ?_ (Below.mono (by with_reducible assumption) ?_)) | go_size))
  have r6 := hh9 _ (.head _); dsimp only [Hv.own, Hv.is, Hv.lit, Hv.box, Hv.sl, Hv.litFrom] at r6; (first | replace r6 := lit_heap r6 | replace r6 := box_heap r6 | skip); have r3 := hh9 _ (.tail _ (.head _)); dsimp only [Hv.own, Hv.is, Hv.lit, Hv.box, Hv.sl, Hv.litFrom] at r3; (first | replace r3 := lit_heap r3 | replace r3 := box_heap r3 | skip); have r0 := hh9 _ (.tail _ (.tail _ (.head _))); dsimp only [Hv.own, Hv.is, Hv.lit, Hv.box, Hv.sl, Hv.litFrom] at r0; (first | replace r0 := lit_heap r0 | replace r0 := box_heap r0 | skip); clear hh9
  (try dsimp only)
  go_wp2_with (at_builtin; refine wpList_append_own_at _ rfl (.tmp 10) (.tmp 13) _ rfl wA.heap.size 42 i0 (.slice none 0 0) 1 24 Try.underlying43 II.out.1 II.out.2.1 II.out.2.2.1 II.out.2.2.2 rfl (by decide) _ _ _ rfl r3 ⟨A6, 0, none⟩ 1 1 [.slice Aw g.words.length cw] rfl rfl (cells_of_block r6) (fun x hx => by simp at hx; subst hx; rfl) (by unfold maxLen; omega) (by omega) hB9.size ?_; intro v3 w3 hown3 hg3 hn3 hat3; obtain ⟨A5, c5, hv5, hc51, hc52⟩ := SL.form (SL.of_own hown3); subst hv5)
  have hB3 : Below wA.heap.size wA w3 := hB9.grown hg3 hB9.size (fun q hq => (r3.lt q hq).1)
  have HBw : Hid (Below w.heap.size w w3) := B0.out.trans (hB3.mono (by omega))
  have HOW := Lib.hid (SL.of_own hown3)
  have HVS : Hid (∀ (k : Nat) u a, (vs ++ [Value.slice Aw g.words.length cw])[k]? = some u → (g.arrays ++ [g.words])[k]? = some a → RInts w3 w3.heap.size u a) := fun k u a hu ha => by
    rcases Nat.lt_or_ge k vs.length with hk | hk
    · rw [List.getElem?_append_left hk] at hu
      rw [List.getElem?_append_left (by rw [← HXL.out]; exact hk)] at ha
      exact SL.at_ (HXE.out k u a hu ha) HBw.out (Nat.le_refl _)
    · rw [List.getElem?_append_right hk] at hu
      rw [List.getElem?_append_right (by rw [← HXL.out]; exact hk)] at ha
      have hk0 : k - vs.length = 0 := by
        rcases Nat.eq_zero_or_pos (k - vs.length) with h | h
        · exact h
        · rw [List.getElem?_eq_none (by simp; omega)] at hu; cases hu
      rw [hk0] at hu
      rw [← HXL.out, hk0] at ha
      simp at hu ha
      subst hu ha
      exact SL.at_ HW.out HBw.out (Nat.le_refl _)
  have HLL : Hid ((g.arrays ++ [g.words]).length = g.arrays.length + 1 ∧ (vs ++ [Value.slice Aw g.words.length cw]).length = g.arrays.length + 1) := ⟨by simp, by simp [HXL.out]⟩
  have HWO : Hid (Ev.wordsOk g = (g.arrays ++ [g.words]).all fun l => l.all Ev.isWord) := rfl
  generalize g.arrays ++ [g.words] = LL at *
  generalize vs ++ [Value.slice Aw g.words.length cw] = VS at *
  unfold maxLen at hc52
  clear hown3 hg3 hn3 hat3 r0 r3 r6 hB3 hB9 hb9 n0 n1 HXA HXE HXS HW B0
  go_wp2_with fail
  go_loop [16] (fun u => ∃ k : Nat, k ≤ g.arrays.length + 1 ∧ u = .int .i64 (k : Int) ∧ Hid (∀ a ∈ LL.take k, a.all Ev.isWord = true)) (fun u => g.arrays.length + 1 - (intOf u).toNat)
  case atStart => exact ⟨0, by omega, rfl, fun a ha => by simp at ha⟩
  case round =>
    obtain ⟨k, hk, rfl, HT⟩ := hrel
    by_cases hlt : k < g.arrays.length + 1
    · have hltI : (k : Int) < (g.arrays.length : Int) + 1 := by omega
      obtain ⟨bo, oo, co, hvo, hbo, _, _, hco⟩ := SL.row HOW.out (by omega : 0 < g.arrays.length + 1)
      injection hvo with hA _ hcr
      subst hA hcr
      obtain ⟨u, hu⟩ : ∃ u, VS[k]? = some u := ⟨VS[k]'(by rw [HLL.out.2]; exact hlt), List.getElem?_eq_getElem _⟩
      obtain ⟨a, ha⟩ : ∃ a, LL[k]? = some a := ⟨LL[k]'(by rw [HLL.out.1]; exact hlt), List.getElem?_eq_getElem _⟩
      have cu := hco k u hu
      have HR := Lib.hid (HVS.out k u a hu ha)
      have HA := Lib.hid ha
      obtain ⟨Au, cu2, hvu, hcu1, hcu2⟩ := SL.form HR.out
      subst hvu
      unfold maxLen at hcu2
      clear hu ha hco
      go_wp2_with fail
      go_loop [22] (fun u => ∃ q : Nat, q ≤ a.length ∧ u = .int .i64 (q : Int) ∧ Hid (∀ x ∈ a.take q, Ev.isWord x = true)) (fun u => a.length - (intOf u).toNat)
      case atStart => exact ⟨0, by omega, rfl, fun x hx => by simp at hx⟩
      case round =>
        obtain ⟨q, hq, rfl, HQ⟩ := hrel
        by_cases hql : q < a.length
        · obtain ⟨bi, oi, ci, hvi, hbi, _, _, hci⟩ := SL.row HR.out (by omega : 0 < a.length)
          injection hvi with hA2 _ hcr2
          subst hA2 hcr2
          obtain ⟨x, hx⟩ : ∃ x, a[q]? = some x := ⟨a[q], List.getElem?_eq_getElem hql⟩
          have cx := hci q (.int .i64 x) (by simp [hx])
          have HX := Lib.hid hx
          clear hx hci
          by_cases hw : 0 ≤ x ∧ x ≤ 4294967295
          · have HWX := Lib.hid (show Ev.isWord x = true by unfold Ev.isWord; simp [hw.1, hw.2])
            obtain ⟨h0, h1⟩ := hw
            go_wp2_with fail
            go_round
            case rel =>
              refine ⟨q + 1, by omega, by go_num, fun y hy => ?_⟩
              rw [List.take_add_one, HX.out] at hy
              rcases List.mem_append.1 hy with hy | hy
              · exact HQ.out y hy
              · simp at hy; subst hy; exact HWX.out
            case measure => simp [intOf]; omega
          · have HF : Hid (Ev.wordsOk g = false) := by
              rw [HWO.out, Bool.eq_false_iff]
              intro h
              have h2 := List.all_eq_true.1 (List.all_eq_true.1 h a (List.mem_of_getElem? HA.out)) x (List.mem_of_getElem? HX.out)
              unfold Ev.isWord at h2
              simp at h2
              exact hw h2
            rcases (show x < 0 ∨ (0 ≤ x ∧ 4294967295 < x) by omega) with h | h
            · clear hw
              go_wp2_with fail
              go_ret
              exact ⟨by rw [HF.out]; rfl, HBw.out⟩
            · obtain ⟨h0, h1⟩ := h
              clear hw
              go_wp2_with fail
              go_ret
              exact ⟨by rw [HF.out]; rfl, HBw.out⟩
        · have hqe : q = a.length := by omega
          subst hqe
          have HAW := Lib.hid (show a.all Ev.isWord = true from List.all_eq_true.2 (fun x hx => HQ.out x (by rw [List.take_length]; exact hx)))
          clear HQ
          go_wp2_with fail
          go_round
          case rel =>
            refine ⟨k + 1, by omega, by go_num, fun y hy => ?_⟩
            rw [List.take_add_one, HA.out] at hy
            rcases List.mem_append.1 hy with hy | hy
            · exact HT.out y hy
            · simp at hy; subst hy; exact HAW.out
          case measure => simp [intOf]; omega
    · have hgeI : (g.arrays.length : Int) + 1 ≤ (k : Int) := by omega
      have HOKW : Hid (Ev.wordsOk g = true) := by
        rw [HWO.out]
        exact List.all_eq_true.2 (fun a ha => HT.out a (by rw [List.take_of_length_le (by rw [HLL.out.1]; omega)]; exact ha))
      go_wp2_with fail
      go_ret
      exact ⟨by rw [HOKW.out]; rfl, HBw.out⟩
end Go.Proofs.Ytljcgcllhcdleaa
/- Chapter 2, the reference: what is wrong with a table. -/
namespace Ev
def opsMost : List Int := [0, 3, 3, 3, 3, 3, 3, 3, 3, 3, 3, 3, 3, 7, 0, 1, 1, 3]
theorem opsMost_at : ∀ j : Nat, j < 18 → opsMost[j]? = some (most (j : Int)) := by decide
end Ev
namespace Go.Proofs.Ytljcgcllhcdleaa
open Go.RowKit
set_option linter.unusedSimpArgs false
set_option linter.unusedVariables false
theorem or_most (x m : Int) (hx : -9223372036854775808 ≤ x ∧ x ≤ 9223372036854775807) (hm : 0 ≤ m ∧ m ≤ 7) : (bits .or .i64 x m != m) = !Ev.subBits x m := by
  obtain ⟨k, rfl⟩ : ∃ k : Nat, m = k := ⟨m.toNat, by omega⟩
  by_cases h0 : 0 ≤ x
  · obtain ⟨n, rfl⟩ : ∃ n : Nat, x = n := ⟨x.toNat, by omega⟩
    rw [(bits_nat .i64 63 (by decide) wraps63 n k (by omega) (by omega)).2]
    unfold Ev.subBits
    simp only [Int.toNat_natCast, decide_eq_true h0, Bool.true_and]
    by_cases h : n ||| k = k
    · rw [h]; simp
    · have : ((n ||| k : Nat) : Int) ≠ (k : Int) := fun e => h (by exact_mod_cast e)
      have e1 : (((n ||| k : Nat) : Int) != (k : Int)) = true := bne_iff_ne.2 this
      have e2 : (n ||| k == k) = false := beq_eq_false_iff_ne.2 h
      rw [e1, e2]
      rfl
  · have hs : Ev.subBits x k = false := by
      unfold Ev.subBits
      simp [h0]
    rw [hs]
    have hu : bits .or .i64 x k < 0 := by
      have e1 : (BitVec.ofInt 64 x).toNat = (x + 18446744073709551616).toNat := by
        simp only [BitVec.toNat_ofInt]
        congr 1
        omega
      have h1 : (BitVec.ofInt 64 x).toNat ≤ (BitVec.ofInt 64 x ||| BitVec.ofInt 64 (k : Int)).toNat := by
        rw [BitVec.toNat_or]
        exact Nat.left_le_or
      have h2 : (BitVec.ofInt 64 x ||| BitVec.ofInt 64 (k : Int)).toNat < 18446744073709551616 := BitVec.isLt _
      show IntKind.i64.wrap ((BitVec.ofInt 64 x ||| BitVec.ofInt 64 (k : Int)).toNat : Int) < 0
      generalize (BitVec.ofInt 64 x ||| BitVec.ofInt 64 (k : Int)).toNat = z at *
      rw [IntKind.wrap_i64]
      omega
    have : bits .or .i64 x k ≠ k := by omega
    simp [this]
theorem most_bounds (op : Int) : 0 ≤ Ev.most op ∧ Ev.most op ≤ 7 := by
  unfold Ev.most Ev.all
  repeat' split
  all_goals decide
set_option maxHeartbeats 800000 in
theorem ops_any (w : World) :
    Calls Try.prog 52 #[] w fun e w' => e = .returned (.tuple #[.slice (some ⟨w.heap.size, 0, none⟩) 18 18, .slice (some ⟨w.heap.size + 1, 0, none⟩) 18 18]) ∧ ∃ S, w' = (w.alloc S).alloc (.cells (Ev.opsMost.map (Value.int .i64)).toArray 3) := by
  go_enter Try.func52, Try.ntmps52
  go_wp2
  go_ret2
  exact ⟨rfl, _, rfl⟩
set_option maxRecDepth 4000 in
set_option maxHeartbeats 1600000 in
theorem refWrong_any (t : List Int) (w : World) (ht : t.length = 18) (hr : ∀ x ∈ t, -9223372036854775808 ≤ x ∧ x ≤ 9223372036854775807) :
    Calls Try.prog 18 #[tableV t] w fun e w' => e = .returned (.int .i64 (Ev.wrong t)) ∧ Below w.heap.size w w' := by
  have HT := Lib.hid (box_table (w := w) ht 29)
  have h00 : ∃ x0, Ev.seenOf t 0 = x0 := ⟨_, rfl⟩
  obtain ⟨x0, hx0⟩ := h00
  have c0 := (HT.out.cell 0 (by decide))
  rw [show t.getD 0 0 = x0 from hx0] at c0
  unfold Ev.wrong
  rw [hx0]
  have HL := Lib.hid ht
  have HR := Lib.hid hr
  clear ht hr
  unfold tableV at *
  generalize (t.map (Value.int .i64)).toArray = ta at *
  go_enter Try.func18, Try.ntmps18
  by_cases h0 : x0 = 0
  case neg =>
    go_wp2
    go_ret
    refine ⟨?_, by (repeat' first | with_reducible (first | exact Below.refl _ _ | assumption | refine Below.alloc ?_ ?_ _ | refine below_drewN ?_ _ | refine Below.drew ?_ | refine Below.setCell ?_ ?_ _ | refine Below.trans ?_ (Below.mono (by with_reducible assumption) ?_)) | go_size)⟩
    rfl
  subst h0
  rw [if_neg (by decide)]
  generalize hres : Ev.wrongFrom t 17 1 = res
  have HRES := Lib.hid hres
  clear hres
  go_wp2_with fail
  refine (ops_any _).mono ?_
  rintro e w1 ⟨rfl, S, rfl⟩
  go_wp2_with fail
  go_loopw [5] (fun z wr => ∃ j : Nat, 1 ≤ j ∧ j ≤ 18 ∧ z = .int .i64 j ∧ Hid (Ev.wrongFrom t (18 - j) j = res) ∧ ∃ n, wr = (((w.alloc (.cells ta 29)).alloc S).alloc (.cells (Ev.opsMost.map (Value.int .i64)).toArray 3)).drewN n) (fun z _ => 18 - (intOf z).toNat)
  case atStart => exact ⟨1, by omega, by omega, rfl, HRES.out, by (first | exact ⟨0, rfl⟩ | exact ⟨_, rfl⟩ | (simp only [World.drewN_drewN, World.drew_is_drewN]; exact ⟨_, rfl⟩))⟩
  case round =>
    obtain ⟨j, hj1, hj, rfl, HW, nw, rfl⟩ := hrel
    by_cases hlt : j < 18
    · have c1 : (((w.alloc (.cells ta 29)).alloc S).alloc (.cells (Ev.opsMost.map (Value.int .i64)).toArray 3)).cell? ⟨w.heap.size, j, none⟩ = some (.int .i64 (Ev.seenOf t j)) := by
        have := HT.out.cell j hlt
        have hB : Below (w.heap.size + 1) (w.alloc (.cells ta 29)) (((w.alloc (.cells ta 29)).alloc S).alloc (.cells (Ev.opsMost.map (Value.int .i64)).toArray 3)) := by (repeat' first | with_reducible (first | exact Below.refl _ _ | assumption | refine Below.alloc ?_ ?_ _ | refine below_drewN ?_ _ | refine Below.drew ?_ | refine Below.setCell ?_ ?_ _ | refine Below.trans ?_ (Below.mono (by with_reducible assumption) ?_)) | go_size)
        exact (hB.cell (p := ⟨w.heap.size, j, none⟩) (by go_size)).trans this
      have c2 : (((w.alloc (.cells ta 29)).alloc S).alloc (.cells (Ev.opsMost.map (Value.int .i64)).toArray 3)).cell? ⟨w.heap.size + 1 + 1, j, none⟩ = some (.int .i64 (Ev.most j)) := by
        have h1 := Ev.opsMost_at j hlt
        have h2 : (Ev.opsMost.map (Value.int .i64)).toArray[j]? = some (.int .i64 (Ev.most j)) := by
          rw [List.getElem?_toArray, List.getElem?_map, h1]
          rfl
        go_simp
      have hx := HR.out (Ev.seenOf t j) (by
        unfold Ev.seenOf
        simp only [Int.toNat_natCast]
        rw [List.getD_eq_getElem?_getD, List.getElem?_eq_getElem (by have := HL.out; omega)]
        exact List.getElem_mem _)
      have hq := or_most _ _ hx (most_bounds (j : Int))
      have hstep : Ev.wrongFrom t (18 - j) j = if Ev.subBits (Ev.seenOf t j) (Ev.most j) then Ev.wrongFrom t (18 - (j + 1)) (j + 1) else 3 := by
        rw [show 18 - j = (18 - (j + 1)) + 1 by omega]
        rfl
      have HST := Lib.hid hstep
      clear hstep hx c0
      generalize Ev.opsMost.map (Value.int .i64) = om at *
      generalize Ev.seenOf t j = x at *
      generalize Ev.most j = m at *
      cases hs : Ev.subBits x m with
      | true =>
        rw [hs] at hq
        have hn := Lib.hid (HST.out.symm.trans HW.out)
        rw [if_pos hs] at hn
        clear hs
        go_wp2_with fail
        go_quiet (fail)
        go_wp2_with fail
        go_roundw
        case rel => exact ⟨j + 1, by omega, by omega, by go_num, hn, by (first | exact ⟨0, rfl⟩ | exact ⟨_, rfl⟩ | (simp only [World.drewN_drewN, World.drew_is_drewN]; exact ⟨_, rfl⟩))⟩
        case measure => simp [intOf]; omega
      | false =>
        rw [hs] at hq
        have hn := Lib.hid (HST.out.symm.trans HW.out)
        rw [if_neg (by simp [hs])] at hn
        clear hs
        go_wp2_with fail
        go_quiet (fail)
        go_wp2
        go_ret
        refine ⟨?_, by (repeat' first | with_reducible (first | exact Below.refl _ _ | assumption | refine Below.alloc ?_ ?_ _ | refine below_drewN ?_ _ | refine Below.drew ?_ | refine Below.setCell ?_ ?_ _ | refine Below.trans ?_ (Below.mono (by with_reducible assumption) ?_)) | go_size)⟩
        rw [← hn.out]
        rfl
    · have hj18 : j = 18 := by omega
      subst hj18
      have hn := HW.out
      have : res = 0 := hn.symm
      subst this
      go_wp2
      go_ret
      exact ⟨rfl, by (repeat' first | with_reducible (first | exact Below.refl _ _ | assumption | refine Below.alloc ?_ ?_ _ | refine below_drewN ?_ _ | refine Below.drew ?_ | refine Below.setCell ?_ ?_ _ | refine Below.trans ?_ (Below.mono (by with_reducible assumption) ?_)) | go_size)⟩
end Go.Proofs.Ytljcgcllhcdleaa
/- evlaw11.alive: a closed fact. -/
namespace Ev
def mb0 : List Int := [20, 0, 1, 0, 0, 0, 0, 0]
def mg0 : Given := { words := [4], arrays := [] }
def mt0 : List Int := [0, 0, 0, 0, 0, 0, 0, 0, 0, 0, 0, 0, 0, 0, 0, 0, 0, 0]
theorem m0_load : loadErr mb0 0 = 0 ∧ (load mb0 0).length = 1 := by decide +kernel
theorem m0_run : (runImage mb0 1 0 mt0 mg0 1 3).ended.word = 4 ∧ (runImage mb0 1 0 mt0 mg0 1 3).err = 0 ∧ (runImage mb0 1 0 mt0 mg0 1 3).steps = 1 ∧ (runImage mb0 1 0 mt0 mg0 1 3).mode = 1 ∧ (runImage mb0 1 0 mt0 mg0 1 3).leaks.length = 1 := by decide +kernel
theorem m0_byt : Byt mb0 := by
  intro x hx
  have : ∀ x ∈ mb0, 0 ≤ x ∧ x ≤ 255 := by decide
  exact this x hx
end Ev
namespace Go.Proofs.Ytljcgcllhcdleaa
open Go.RowKit
set_option linter.unusedSimpArgs false
set_option linter.unusedVariables false
theorem mgiven0 : MGiven Ev.mg0 := ⟨by intro x hx; simp [Ev.mg0] at hx; subst hx; exact ⟨by decide, by decide⟩, by intro a ha; simp [Ev.mg0] at ha, by intro a ha; simp [Ev.mg0] at ha, by decide⟩
theorem m0_load_any (vb : Value) (u : World) (hb : RBytes u u.heap.size vb Ev.mb0) :
    Calls Try.prog 45 #[.agg #[vb, .int .i64 1, .slice none 0 0]] u fun e w' => ∃ A c, e = .returned (.tuple #[.slice A 1 c, .int .i64 0]) ∧ Below u.heap.size u w' := by
  refine (load_any Ev.mb0 1 0 [] vb (.slice none 0 0) u hb (SL.nil_ _ _ _) Ev.m0_byt rfl (by decide)).mono ?_
  rintro e w' ⟨v, rfl, hr, hb⟩
  obtain ⟨A, c, rfl, _, _⟩ := SL.form hr
  rw [Ev.m0_load.1, Ev.m0_load.2]
  exact ⟨A, c, rfl, hb⟩
theorem m0_run_any (vb vw : Value) (u : World) (hb : RBytes u u.heap.size vb Ev.mb0) (hw : RInts u u.heap.size vw [4]) :
    Calls Try.prog 49 #[.agg #[vb, .int .i64 1, .slice none 0 0], .agg #[.int .i64 0, .int .i64 0, .int .i64 0, .int .i64 0, .int .i64 0, .int .i64 0, .int .i64 0, .int .i64 0, .int .i64 0, .int .i64 0, .int .i64 0, .int .i64 0, .int .i64 0, .int .i64 0, .int .i64 0, .int .i64 0, .int .i64 0, .int .i64 0], .agg #[vw, .slice none 0 0], .int .i64 1, .int .i64 3] u fun e w' => ∃ tr A n c A2 c2, e = .returned (.agg #[.int .i64 4, .bool tr, .slice A n c, .int .i64 0, .int .i64 1, .int .i64 1, .slice A2 1 c2]) ∧ Below u.heap.size u w' := by
  refine (machRun_any Ev.mb0 1 [] Ev.mt0 Ev.mg0 1 3 vb (.slice none 0 0) (.agg #[vw, .slice none 0 0]) u hb (SL.nil_ _ _ _) ⟨_, _, rfl, hw, RLists.nil_ _ _⟩ rfl (by decide) Ev.m0_byt (by decide) mgiven0 (by decide) (by decide)).mono ?_
  rintro e w' ⟨v, rfl, ⟨va, vl, rfl, ha, hl⟩, hb⟩
  obtain ⟨_, _, ha, _⟩ := ha
  obtain ⟨A, c, rfl, _, _⟩ := SL.form ha
  obtain ⟨_, _, hl, _⟩ := hl
  obtain ⟨A2, c2, rfl, _, _⟩ := SL.form hl
  obtain ⟨h1, h2, h3, h4, h5⟩ := Ev.m0_run
  simp only [List.length_nil]
  rw [h1, h2, h3, h4, h5]
  exact ⟨_, A, _, c, A2, c2, rfl, hb⟩
set_option maxRecDepth 20000 in
set_option maxHeartbeats 3200000 in
theorem alive_mach (w : World) : Calls Try.prog 51 #[] w fun e w' => e = .returned (.bool true) ∧ Below w.heap.size w w' := by
  have HB := Lib.hid (RBytes.lit (W := w) (t := 5) (cs := #[.int .u8 20, .int .u8 0, .int .u8 1, .int .u8 0, .int .u8 0, .int .u8 0, .int .u8 0, .int .u8 0]) (l := Ev.mb0) rfl rfl rfl (by unfold maxLen; decide))
  go_enter Try.func51, Try.ntmps51
  go_upto_region 2 with fail
  go_upto_region 3 with (go_at_call 45; refine (m0_load_any _ _ (SL.at_ HB.out (by (repeat' first | with_reducible (first | exact Below.refl _ _ | assumption | refine Below.alloc ?_ ?_ _ | refine below_drewN ?_ _ | refine Below.drew ?_ | refine Below.setCell ?_ ?_ _ | refine Below.trans ?_ (Below.mono (by with_reducible assumption) ?_)) | go_size)) (Nat.le_refl _))).mono ?_; rintro e w1 ⟨A1, c1, rfl, hb1⟩)
  have f0 : w1.cell? ⟨w.heap.size + 1, 0, none⟩ = some (.slice (some ⟨w.heap.size, 0, none⟩) 8 8) := (hb1.cell (p := ⟨w.heap.size + 1, 0, none⟩) (by go_size)).trans (by go_simp)
  have f1 : w1.cell? ⟨w.heap.size + 1, 1, none⟩ = some (.int .i64 1) := (hb1.cell (p := ⟨w.heap.size + 1, 1, none⟩) (by go_size)).trans (by go_simp)
  have f2 : w1.cell? ⟨w.heap.size + 1, 2, none⟩ = some (.slice none 0 0) := (hb1.cell (p := ⟨w.heap.size + 1, 2, none⟩) (by go_size)).trans (by go_simp)
  have s1 := hb1.size
  simp only [World.size_alloc] at s1
  have HB1 : Hid (RBytes (w1.alloc (.cells #[.int .i64 4] 3)) (w1.alloc (.cells #[.int .i64 4] 3)).heap.size (.slice (some ⟨w.heap.size, 0, none⟩) 8 8) Ev.mb0) := by
    refine Lib.hid (SL.at_ HB.out (Below.alloc (Below.trans ?_ (hb1.mono ?_)) ?_ _) (Nat.le_refl _))
    · exact Below.alloc (Below.refl _ _) (by simp) _
    · simp
    · simp; omega
  have HW1 := Lib.hid (RInts.lit (W := w1) (t := 3) (cs := #[.int .i64 4]) (l := [4]) rfl rfl rfl (by unfold maxLen; decide))
  go_upto_region 4 with (go_at_call 49; refine (m0_run_any _ _ _ HB1.out HW1.out).mono ?_; rintro e w2 ⟨tr, A2, n2, c2, A3, c3, rfl, hb2⟩)
  go_wp2_with fail
  go_ret
  exact ⟨rfl, by have s2 := hb2.size; simp only [World.size_alloc] at s2; (repeat' first | with_reducible (first | exact Below.refl _ _ | assumption | refine Below.alloc ?_ ?_ _ | refine below_drewN ?_ _ | refine Below.drew ?_ | refine Below.setCell ?_ ?_ _ | refine Below.trans ?_ (Below.mono (by with_reducible assumption) ?_)) | go_size)⟩
end Go.Proofs.Ytljcgcllhcdleaa
/- Chapter 11, plain: on, less is seen. -/
namespace Ev
theorem step_mode {i : Instr} (h1 : i.op ≠ 22) (h2 : i.op ≠ 23) (k : Nat) (s : St) (x : Int) : step i k { s with mode := x } = ({ (step i k s).1 with mode := x }, (step i k s).2) := by
  unfold step
  by_cases c0 : i.op ≤ 12
  · simp only [if_pos c0]
  by_cases c1 : i.op = 13
  · simp only [if_neg c0, if_pos c1]
  by_cases c2 : i.op = 14
  · simp only [if_neg c0, if_neg c1, if_pos c2]
  by_cases c3 : i.op = 15
  · simp only [if_neg c0, if_neg c1, if_neg c2, if_pos c3]
  by_cases c4 : i.op = 16
  · simp only [if_neg c0, if_neg c1, if_neg c2, if_neg c3, if_pos c4]
  by_cases c5 : i.op = 17
  · simp only [if_neg c0, if_neg c1, if_neg c2, if_neg c3, if_neg c4, if_pos c5]
    split <;> rfl
  by_cases c6 : i.op = 18
  · simp only [if_neg c0, if_neg c1, if_neg c2, if_neg c3, if_neg c4, if_neg c5, if_pos c6]
  by_cases c7 : i.op = 19
  · simp only [if_neg c0, if_neg c1, if_neg c2, if_neg c3, if_neg c4, if_neg c5, if_neg c6, if_pos c7]
  by_cases c8 : i.op = 20 ∨ i.op = 21
  · simp only [if_neg c0, if_neg c1, if_neg c2, if_neg c3, if_neg c4, if_neg c5, if_neg c6, if_neg c7, if_pos c8]
  · simp only [if_neg c0, if_neg c1, if_neg c2, if_neg c3, if_neg c4, if_neg c5, if_neg c6, if_neg c7, if_neg c8, if_neg h1, if_neg h2]
def withMode (m : Mc) (x : Int) : Mc := { m with s := { m.s with mode := x } }
theorem mcStep_mode {i : Instr} (h1 : i.op ≠ 22) (h2 : i.op ≠ 23) (m : Mc) (x : Int) : mcStep i (withMode m x) = (withMode (mcStep i m).1 x, (mcStep i m).2) := by
  have e := step_mode h1 h2 m.pc m.s x
  unfold mcStep
  show (match step i m.pc { m.s with mode := x } with | (_, none) => _ | (s', some k) => _) = _
  rw [e]
  cases hs : step i m.pc m.s with
  | mk s' o =>
    cases o with
    | none =>
      dsimp only
      split <;> rfl
    | some k => rfl
/-- what is seen while it is off, and while it is on -/
def LessSeen (x y : Leak) : Prop := x.pc = y.pc ∧ x.op = y.op ∧ y.vals.length ≤ x.vals.length ∧ ∀ v ∈ y.vals, v ∈ x.vals
theorem seen_less {t : List Int} (ht : wrong t = 0) {i : Instr} (v : List Int) : (seen t i v false).length ≤ (seen t i v true).length ∧ ∀ n ∈ seen t i v false, n ∈ seen t i v true := by
  unfold seen
  by_cases c : i.op = 19
  · rw [if_pos c, if_pos c]; exact ⟨Nat.le_refl _, fun n h => h⟩
  rw [if_neg c, if_neg c]
  by_cases c2 : ¬ (1 ≤ i.op ∧ i.op ≤ 17)
  · rw [if_pos c2, if_pos c2]; exact ⟨Nat.le_refl _, fun n h => h⟩
  rw [if_neg c2, if_neg c2]
  have h12 : 1 ≤ i.op ∧ i.op ≤ 17 := by omega
  have hb := table_bits ht h12.1 h12.2
  have hm : most i.op = 0 ∨ most i.op = 1 ∨ most i.op = 3 ∨ most i.op = 7 := by
    unfold most all
    repeat' split
    all_goals simp
  obtain ⟨_, h3⟩ := sub_small hm hb
  have hma : ∀ k, k < 3 → hasBit (most i.op) k = true → hasBit (all i.op) k = true := fun k hk hx => by
    unfold most at hx
    by_cases c16 : i.op = 16
    · rw [if_pos c16] at hx
      have ea : all i.op = 3 := by unfold all; rw [if_neg (by omega), if_neg (by omega), if_neg (by omega), if_pos c16]
      rw [ea]
      have b1 : ∀ k, k < 3 → hasBit 1 k = true → hasBit 3 k = true := by decide
      exact b1 k hk hx
    · rw [if_neg c16] at hx; exact hx
  have h0 := fun hx => hma 0 (by decide) (h3 0 (by decide) hx)
  have h1 := fun hx => hma 1 (by decide) (h3 1 (by decide) hx)
  have h2 := fun hx => hma 2 (by decide) (h3 2 (by decide) hx)
  dsimp only
  simp only [Bool.false_eq_true, if_false, if_true]
  have seg : ∀ (a b : Bool) (l : List Int), (a = true → b = true) → (if a then l else []).length ≤ (if b then l else []).length ∧ ∀ n ∈ (if a then l else []), n ∈ (if b then l else []) := fun a b l h => by
    cases a with
    | false => simp
    | true => rw [h rfl]; exact ⟨Nat.le_refl _, fun n hn => hn⟩
  obtain ⟨l0, m0⟩ := seg (hasBit (seenOf t i.op) 0) (hasBit (all i.op) 0) [val v i.a] h0
  obtain ⟨l1, m1⟩ := seg (hasBit (seenOf t i.op) 1) (hasBit (all i.op) 1) (if i.op = 17 then [val v i.d] else if i.op = 16 then [] else [val v i.b]) h1
  obtain ⟨l2, m2⟩ := seg (hasBit (seenOf t i.op) 2) (hasBit (all i.op) 2) [val v i.c] h2
  refine ⟨by simp only [List.length_append]; omega, fun n hn => ?_⟩
  rw [List.mem_append, List.mem_append] at hn ⊢
  rcases hn with (hn | hn) | hn
  · exact .inl (.inl (m0 n hn))
  · exact .inl (.inr (m1 n hn))
  · exact .inr (m2 n hn)
theorem mcRun_on2 {l : List Instr} {t : List Int} {most : Int} (ht : wrong t = 0) (hl : ∀ (k : Nat) i, l[k]? = some i → i.op ≠ 22 ∧ i.op ≠ 23) : ∀ (n : Nat) (m : Mc) (lk lk' : List Leak), lk.length = lk'.length →
    (∀ (k : Nat) x y, lk[k]? = some x → lk'[k]? = some y → LessSeen x y) →
    (mcRun l t most n (withMode m 0) lk).err = (mcRun l t most n (withMode m 1) lk').err ∧ (mcRun l t most n (withMode m 0) lk).steps = (mcRun l t most n (withMode m 1) lk').steps ∧ (mcRun l t most n (withMode m 0) lk).ended = (mcRun l t most n (withMode m 1) lk').ended ∧
    (mcRun l t most n (withMode m 0) lk).leaks.length = (mcRun l t most n (withMode m 1) lk').leaks.length ∧ ∀ (k : Nat) x y, (mcRun l t most n (withMode m 0) lk).leaks[k]? = some x → (mcRun l t most n (withMode m 1) lk').leaks[k]? = some y → LessSeen x y
  | 0, m, lk, lk', _, _ => ⟨rfl, rfl, rfl, rfl, fun k x y h => by simp [mcRun, ranErr] at h⟩
  | n + 1, m, lk, lk', hlen, hall => by
    have nil_ : ∀ e : Int, (ranErr e).err = (ranErr e).err ∧ (ranErr e).steps = (ranErr e).steps ∧ (ranErr e).ended = (ranErr e).ended ∧ (ranErr e).leaks.length = (ranErr e).leaks.length ∧ ∀ (k : Nat) x y, (ranErr e).leaks[k]? = some x → (ranErr e).leaks[k]? = some y → LessSeen x y :=
      fun e => ⟨rfl, rfl, rfl, rfl, fun k x y h => by simp [ranErr] at h⟩
    rw [mcRun, mcRun]
    have st0 : (withMode m 0).st = m.st := rfl
    have st1 : (withMode m 1).st = m.st := rfl
    have pc0 : (withMode m 0).pc = m.pc := rfl
    have pc1 : (withMode m 1).pc = m.pc := rfl
    rw [st0, st1, pc0, pc1]
    by_cases c1 : most ≤ (m.st : Int)
    · rw [if_pos c1, if_pos c1]; exact nil_ 12
    rw [if_neg c1, if_neg c1]
    by_cases c2 : l.length ≤ m.pc
    · rw [if_pos c2, if_pos c2]; exact nil_ 8
    rw [if_neg c2, if_neg c2]
    have hi : l[m.pc]? = some (l.getD m.pc default) := by
      rw [List.getD_eq_getElem?_getD, List.getElem?_eq_getElem (by omega)]; rfl
    obtain ⟨o1, o2⟩ := hl _ _ hi
    generalize l.getD m.pc default = i at *
    have e0 : mcStep i { s := (withMode m 0).s, pc := m.pc, wd := (withMode m 0).wd, tr := (withMode m 0).tr, st := m.st + 1 } = (withMode (mcStep i { m with st := m.st + 1 }).1 0, (mcStep i { m with st := m.st + 1 }).2) := mcStep_mode o1 o2 { m with st := m.st + 1 } 0
    have e1 : mcStep i { s := (withMode m 1).s, pc := m.pc, wd := (withMode m 1).wd, tr := (withMode m 1).tr, st := m.st + 1 } = (withMode (mcStep i { m with st := m.st + 1 }).1 1, (mcStep i { m with st := m.st + 1 }).2) := mcStep_mode o1 o2 { m with st := m.st + 1 } 1
    rw [e0, e1]
    have hlk : LessSeen (leak t i m.pc (withMode m 0).s ((withMode m 0).s.mode == 0)) (leak t i m.pc (withMode m 1).s ((withMode m 1).s.mode == 0)) := by
      have := seen_less ht (i := i) m.s.v
      exact ⟨rfl, rfl, this.1, this.2⟩
    have hall2 : ∀ (k : Nat) x y, (lk ++ [leak t i m.pc (withMode m 0).s ((withMode m 0).s.mode == 0)])[k]? = some x → (lk' ++ [leak t i m.pc (withMode m 1).s ((withMode m 1).s.mode == 0)])[k]? = some y → LessSeen x y := fun k x y hx hy => by
      rcases Nat.lt_or_ge k lk.length with h | h
      · rw [List.getElem?_append_left h] at hx
        rw [List.getElem?_append_left (by omega)] at hy
        exact hall k x y hx hy
      · rw [List.getElem?_append_right h] at hx
        rw [List.getElem?_append_right (by omega)] at hy
        have hk0 : k - lk.length = 0 := by
          rcases Nat.eq_zero_or_pos (k - lk.length) with h0 | h0
          · exact h0
          · rw [List.getElem?_eq_none (by simp; omega)] at hx; cases hx
        rw [hk0] at hx
        rw [← hlen, hk0] at hy
        simp at hx hy
        subst hx hy
        exact hlk
    dsimp only
    by_cases c3 : (mcStep i { m with st := m.st + 1 }).2 = true
    · rw [if_pos c3, if_pos c3]
      exact ⟨rfl, rfl, rfl, by show (lk ++ _).length = (lk' ++ _).length; simp [hlen], hall2⟩
    · rw [if_neg c3, if_neg c3]
      exact mcRun_on2 ht hl n _ _ _ (by simp [hlen]) hall2
/-- ON, LESS IS SEEN -/
theorem image_on {b : List Int} {p : Int} {na : Nat} {t : List Int} {g : Given} {most : Int} (ht : wrong t = 0) (hl : ∀ (k : Nat) i, (load b na)[k]? = some i → i.op ≠ 22 ∧ i.op ≠ 23) :
    (runImage b p na t g 0 most).err = (runImage b p na t g 1 most).err ∧ (runImage b p na t g 0 most).steps = (runImage b p na t g 1 most).steps ∧ (runImage b p na t g 0 most).ended = (runImage b p na t g 1 most).ended ∧
    (runImage b p na t g 0 most).leaks.length = (runImage b p na t g 1 most).leaks.length ∧ ∀ (k : Nat) x y, (runImage b p na t g 0 most).leaks[k]? = some x → (runImage b p na t g 1 most).leaks[k]? = some y → LessSeen x y := by
  have nil_ : ∀ e : Int, (ranErr e).err = (ranErr e).err ∧ (ranErr e).steps = (ranErr e).steps ∧ (ranErr e).ended = (ranErr e).ended ∧ (ranErr e).leaks.length = (ranErr e).leaks.length ∧ ∀ (k : Nat) x y, (ranErr e).leaks[k]? = some x → (ranErr e).leaks[k]? = some y → LessSeen x y :=
    fun e => ⟨rfl, rfl, rfl, rfl, fun k x y h => by simp [ranErr] at h⟩
  unfold runImage
  by_cases c1 : loadErr b na ≠ 0
  · rw [if_pos c1, if_pos c1]; exact nil_ _
  rw [if_neg c1, if_neg c1]
  by_cases c2 : (g.words.length : Int) ≠ p ∨ 120 ≤ p ∨ g.arrays.length ≠ na
  · rw [if_pos (.inr (.inr c2)), if_pos (.inr (.inr c2))]; exact nil_ _
  have n0 : ¬ ((0 : Int) < 0 ∨ (1 : Int) < 0 ∨ (g.words.length : Int) ≠ p ∨ 120 ≤ p ∨ g.arrays.length ≠ na) := by
    rintro (h | h | h)
    · omega
    · omega
    · exact c2 h
  have n1 : ¬ ((1 : Int) < 0 ∨ (1 : Int) < 1 ∨ (g.words.length : Int) ≠ p ∨ 120 ≤ p ∨ g.arrays.length ≠ na) := by
    rintro (h | h | h)
    · omega
    · omega
    · exact c2 h
  rw [if_neg n0, if_neg n1]
  exact mcRun_on2 ht hl _ (mc0 g 0) [] [] rfl (fun k x y h => by simp at h)
end Ev
