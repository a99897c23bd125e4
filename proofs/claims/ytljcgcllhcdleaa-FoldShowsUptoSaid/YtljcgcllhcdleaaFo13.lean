import Derived.Test.YtljcgcllhcdleaaProg
import Derived.Test.YtljcgcllhcdleaaFo2
import Derived.WalkSpells
import Derived.WalkLawsBesides
import Derived.Handy
import Derived.Lib.Hide
import Derived.BigQuiet
import Derived.Deep.QuietTactic
import Derived.Deep.DeepCutAuto
import Derived.Lib.SliceRun
import Derived.Outline
import Derived.Test.YtljcgcllhcdleaaFo4
import Derived.Test.YtljcgcllhcdleaaFo5
/- slices.Clone, at four types. (Printed by wip/gen/clone.py.) -/
namespace Go.Proofs.Ytljcgcllhcdleaa
open Go.RowKit
set_option linter.unusedSimpArgs false
set_option linter.unusedVariables false
theorem one_code (l : List Ev.Instr) : ∀ u ∈ l.flatMap cellsI, u.oneCell' = true := by
  intro u hu
  rw [List.mem_flatMap] at hu
  obtain ⟨i, _, hi⟩ := hu
  simp only [cellsI, List.mem_cons, List.not_mem_nil, or_false] at hi
  rcases hi with rfl | rfl | rfl | rfl | rfl | rfl <;> rfl
theorem one_vars (l : List Ev.Vr) : ∀ u ∈ l.flatMap cellsV, u.oneCell' = true := by
  intro u hu
  rw [List.mem_flatMap] at hu
  obtain ⟨i, _, hi⟩ := hu
  simp only [cellsV, List.mem_cons, List.not_mem_nil, or_false] at hi
  rcases hi with rfl | rfl | rfl <;> rfl
theorem one_ints (l : List Int) : ∀ u ∈ l.map (Value.int .i64), u.oneCell' = true := by
  intro u hu
  rw [List.mem_map] at hu
  obtain ⟨i, _, rfl⟩ := hu
  rfl
theorem one_bools (l : List Bool) : ∀ u ∈ l.map Value.bool, u.oneCell' = true := by
  intro u hu
  rw [List.mem_map] at hu
  obtain ⟨i, _, rfl⟩ := hu
  rfl

theorem cloneCode_info : (Try.prog.info? 39).map (fun i => (i.zero, i.size, i.bytes)) = some (some (.agg #[.int .i64 0, .int .i64 0, .int .i64 0, .int .i64 0, .int .i64 0, .int .i64 0]), 6, 48) := by kernel_rfl
set_option maxHeartbeats 800000 in
theorem cloneCode_any (l : List Ev.Instr) (v : Value) (w : World) (h : RCode w w.heap.size v l) (hl : l.length ≤ 1073741824) :
    Calls Try.prog 65 #[v] w fun e w' => ∃ v', e = .returned v' ∧ RCode w' w'.heap.size v' l ∧ from_ w.heap.size v' ∧ Below w.heap.size w w' := by
  obtain ⟨i0, hi0, hz0, hz1, hz2⟩ := info_parts cloneCode_info
  have HI := Lib.hid (⟨hi0, hz0, hz1, hz2⟩ : _ ∧ _ ∧ _ ∧ _)
  clear hi0 hz0 hz1 hz2
  have HR := Lib.hid h
  obtain ⟨A, c, rfl, hc1, hc2⟩ := SL.form h
  have hnil : A = none → l = [] := fun ha => by
    subst ha
    cases l with
    | nil => rfl
    | cons x r =>
      obtain ⟨_, A', c', he, _, _, _, h4⟩ := h
      obtain ⟨b, o, e, _⟩ := h4 (by simp)
      subst e
      cases he
  clear h
  have heq := fun W a n c n' c' => Lib.run_eql_slice_nil (P := Try.prog) W 22 39 a n c n' c' Try.underlying22
  cases A with
  | none =>
    have hl0 := hnil rfl
    subst hl0
    clear hnil
    go_enter Try.func65, Try.ntmps65
    go_wp2
    go_ret
    exact ⟨_, rfl, SL.nil_ _ _ _, from_nil _ _ _, by (repeat' first | with_reducible (first | exact Below.refl _ _ | assumption | refine Below.alloc ?_ ?_ _ | refine below_drewN ?_ _ | refine Below.drew ?_ | refine Below.setCell ?_ ?_ _ | refine Below.trans ?_ (Below.mono (by with_reducible assumption) ?_)) | go_size)⟩
  | some a =>
    clear hnil
    go_enter Try.func65, Try.ntmps65
    go_wp2_with (at_builtin; refine wpList_append_SL (B := w.heap.size) rfl (.tmp 5) (.tmp 6) _ rfl w.heap.size 39 i0 _ 48 Try.underlying22 HI.out.1 HI.out.2.1 HI.out.2.2.1 HI.out.2.2.2 rfl (by omega) rfl (World.ownsRow_made w #[] 0 (Nat.le_refl _) (by simp [maxLen]) (by simp)) rfl (SL.below HR.out (by (repeat' first | with_reducible (first | exact Below.refl _ _ | assumption | refine Below.alloc ?_ ?_ _ | refine below_drewN ?_ _ | refine Below.drew ?_ | refine Below.setCell ?_ ?_ _ | refine Below.trans ?_ (Below.mono (by with_reducible assumption) ?_)) | go_size))) (one_code l) (by simp only [maxLen]; omega) (by omega) (by go_size) ?_; intro v1 w1 hown1 hg1 hat1)
    have hb1 : Below w.heap.size w w1 := (by (repeat' first | with_reducible (first | exact Below.refl _ _ | assumption | refine Below.alloc ?_ ?_ _ | refine below_drewN ?_ _ | refine Below.drew ?_ | refine Below.setCell ?_ ?_ _ | refine Below.trans ?_ (Below.mono (by with_reducible assumption) ?_)) | go_size) : Below w.heap.size w _).grown hg1 (by go_size) (by intro k hk; have hk' : w.heap.size = k := (Option.some.inj hk); omega)
    go_ret
    exact ⟨_, rfl, by (show SL _ _ _ _ _ _; simpa using SL.of_own hown1), from_own hown1, hb1⟩

theorem cloneBools_info : (Try.prog.info? 4).map (fun i => (i.zero, i.size, i.bytes)) = some (some (.bool false), 1, 1) := by kernel_rfl
set_option maxHeartbeats 800000 in
theorem cloneBools_any (l : List Bool) (v : Value) (w : World) (h : RBools w w.heap.size v l) (hl : l.length ≤ 1073741824) :
    Calls Try.prog 66 #[v] w fun e w' => ∃ v', e = .returned v' ∧ RBools w' w'.heap.size v' l ∧ from_ w.heap.size v' ∧ Below w.heap.size w w' := by
  obtain ⟨i0, hi0, hz0, hz1, hz2⟩ := info_parts cloneBools_info
  have HI := Lib.hid (⟨hi0, hz0, hz1, hz2⟩ : _ ∧ _ ∧ _ ∧ _)
  clear hi0 hz0 hz1 hz2
  have HR := Lib.hid h
  obtain ⟨A, c, rfl, hc1, hc2⟩ := SL.form h
  have hnil : A = none → l = [] := fun ha => by
    subst ha
    cases l with
    | nil => rfl
    | cons x r =>
      obtain ⟨_, A', c', he, _, _, _, h4⟩ := h
      obtain ⟨b, o, e, _⟩ := h4 (by simp)
      subst e
      cases he
  clear h
  have heq := fun W a n c n' c' => Lib.run_eql_slice_nil (P := Try.prog) W 23 4 a n c n' c' Try.underlying23
  cases A with
  | none =>
    have hl0 := hnil rfl
    subst hl0
    clear hnil
    go_enter Try.func66, Try.ntmps66
    go_wp2
    go_ret
    exact ⟨_, rfl, SL.nil_ _ _ _, from_nil _ _ _, by (repeat' first | with_reducible (first | exact Below.refl _ _ | assumption | refine Below.alloc ?_ ?_ _ | refine below_drewN ?_ _ | refine Below.drew ?_ | refine Below.setCell ?_ ?_ _ | refine Below.trans ?_ (Below.mono (by with_reducible assumption) ?_)) | go_size)⟩
  | some a =>
    clear hnil
    go_enter Try.func66, Try.ntmps66
    go_wp2_with (at_builtin; refine wpList_append_SL (B := w.heap.size) rfl (.tmp 5) (.tmp 6) _ rfl w.heap.size 4 i0 _ 1 Try.underlying23 HI.out.1 HI.out.2.1 HI.out.2.2.1 HI.out.2.2.2 rfl (by omega) rfl (World.ownsRow_made w #[] 0 (Nat.le_refl _) (by simp [maxLen]) (by simp)) rfl (SL.below HR.out (by (repeat' first | with_reducible (first | exact Below.refl _ _ | assumption | refine Below.alloc ?_ ?_ _ | refine below_drewN ?_ _ | refine Below.drew ?_ | refine Below.setCell ?_ ?_ _ | refine Below.trans ?_ (Below.mono (by with_reducible assumption) ?_)) | go_size))) (one_bools l) (by simp only [maxLen]; omega) (by omega) (by go_size) ?_; intro v1 w1 hown1 hg1 hat1)
    have hb1 : Below w.heap.size w w1 := (by (repeat' first | with_reducible (first | exact Below.refl _ _ | assumption | refine Below.alloc ?_ ?_ _ | refine below_drewN ?_ _ | refine Below.drew ?_ | refine Below.setCell ?_ ?_ _ | refine Below.trans ?_ (Below.mono (by with_reducible assumption) ?_)) | go_size) : Below w.heap.size w _).grown hg1 (by go_size) (by intro k hk; have hk' : w.heap.size = k := (Option.some.inj hk); omega)
    go_ret
    exact ⟨_, rfl, by (show SL _ _ _ _ _ _; simpa using SL.of_own hown1), from_own hown1, hb1⟩

theorem cloneVars_info : (Try.prog.info? 88).map (fun i => (i.zero, i.size, i.bytes)) = some (some (.agg #[.string ⟨#[]⟩, .bool false, .int .i64 0]), 3, 32) := by kernel_rfl
set_option maxHeartbeats 800000 in
theorem cloneVars_any (l : List Ev.Vr) (v : Value) (w : World) (h : RVars w w.heap.size v l) (hl : l.length ≤ 1073741824) :
    Calls Try.prog 67 #[v] w fun e w' => ∃ v', e = .returned v' ∧ RVars w' w'.heap.size v' l ∧ from_ w.heap.size v' ∧ Below w.heap.size w w' := by
  obtain ⟨i0, hi0, hz0, hz1, hz2⟩ := info_parts cloneVars_info
  have HI := Lib.hid (⟨hi0, hz0, hz1, hz2⟩ : _ ∧ _ ∧ _ ∧ _)
  clear hi0 hz0 hz1 hz2
  have HR := Lib.hid h
  obtain ⟨A, c, rfl, hc1, hc2⟩ := SL.form h
  have hnil : A = none → l = [] := fun ha => by
    subst ha
    cases l with
    | nil => rfl
    | cons x r =>
      obtain ⟨_, A', c', he, _, _, _, h4⟩ := h
      obtain ⟨b, o, e, _⟩ := h4 (by simp)
      subst e
      cases he
  clear h
  have heq := fun W a n c n' c' => Lib.run_eql_slice_nil (P := Try.prog) W 24 88 a n c n' c' Try.underlying24
  cases A with
  | none =>
    have hl0 := hnil rfl
    subst hl0
    clear hnil
    go_enter Try.func67, Try.ntmps67
    go_wp2
    go_ret
    exact ⟨_, rfl, SL.nil_ _ _ _, from_nil _ _ _, by (repeat' first | with_reducible (first | exact Below.refl _ _ | assumption | refine Below.alloc ?_ ?_ _ | refine below_drewN ?_ _ | refine Below.drew ?_ | refine Below.setCell ?_ ?_ _ | refine Below.trans ?_ (Below.mono (by with_reducible assumption) ?_)) | go_size)⟩
  | some a =>
    clear hnil
    go_enter Try.func67, Try.ntmps67
    go_wp2_with (at_builtin; refine wpList_append_SL (B := w.heap.size) rfl (.tmp 5) (.tmp 6) _ rfl w.heap.size 88 i0 _ 32 Try.underlying24 HI.out.1 HI.out.2.1 HI.out.2.2.1 HI.out.2.2.2 rfl (by omega) rfl (World.ownsRow_made w #[] 0 (Nat.le_refl _) (by simp [maxLen]) (by simp)) rfl (SL.below HR.out (by (repeat' first | with_reducible (first | exact Below.refl _ _ | assumption | refine Below.alloc ?_ ?_ _ | refine below_drewN ?_ _ | refine Below.drew ?_ | refine Below.setCell ?_ ?_ _ | refine Below.trans ?_ (Below.mono (by with_reducible assumption) ?_)) | go_size))) (one_vars l) (by simp only [maxLen]; omega) (by omega) (by go_size) ?_; intro v1 w1 hown1 hg1 hat1)
    have hb1 : Below w.heap.size w w1 := (by (repeat' first | with_reducible (first | exact Below.refl _ _ | assumption | refine Below.alloc ?_ ?_ _ | refine below_drewN ?_ _ | refine Below.drew ?_ | refine Below.setCell ?_ ?_ _ | refine Below.trans ?_ (Below.mono (by with_reducible assumption) ?_)) | go_size) : Below w.heap.size w _).grown hg1 (by go_size) (by intro k hk; have hk' : w.heap.size = k := (Option.some.inj hk); omega)
    go_ret
    exact ⟨_, rfl, by (show SL _ _ _ _ _ _; simpa using SL.of_own hown1), from_own hown1, hb1⟩

theorem cloneInts_info : (Try.prog.info? 3).map (fun i => (i.zero, i.size, i.bytes)) = some (some (.int .i64 0), 1, 8) := by kernel_rfl
set_option maxHeartbeats 800000 in
theorem cloneInts_any (l : List Int) (v : Value) (w : World) (h : RInts w w.heap.size v l) (hl : l.length ≤ 1073741824) :
    Calls Try.prog 92 #[v] w fun e w' => ∃ v', e = .returned v' ∧ RInts w' w'.heap.size v' l ∧ from_ w.heap.size v' ∧ w'.ownsRow w.heap.size 3 1 v' l.length (l.map (Value.int .i64)) ∧ Below w.heap.size w w' := by
  obtain ⟨i0, hi0, hz0, hz1, hz2⟩ := info_parts cloneInts_info
  have HI := Lib.hid (⟨hi0, hz0, hz1, hz2⟩ : _ ∧ _ ∧ _ ∧ _)
  clear hi0 hz0 hz1 hz2
  have HR := Lib.hid h
  obtain ⟨A, c, rfl, hc1, hc2⟩ := SL.form h
  have hnil : A = none → l = [] := fun ha => by
    subst ha
    cases l with
    | nil => rfl
    | cons x r =>
      obtain ⟨_, A', c', he, _, _, _, h4⟩ := h
      obtain ⟨b, o, e, _⟩ := h4 (by simp)
      subst e
      cases he
  clear h
  have heq := fun W a n c n' c' => Lib.run_eql_slice_nil (P := Try.prog) W 42 3 a n c n' c' Try.underlying42
  cases A with
  | none =>
    have hl0 := hnil rfl
    subst hl0
    clear hnil
    go_enter Try.func92, Try.ntmps92
    go_wp2
    go_ret
    exact ⟨_, rfl, SL.nil_ _ _ _, from_nil _ _ _, World.ownsRow_nil _ _ _ _, by (repeat' first | with_reducible (first | exact Below.refl _ _ | assumption | refine Below.alloc ?_ ?_ _ | refine below_drewN ?_ _ | refine Below.drew ?_ | refine Below.setCell ?_ ?_ _ | refine Below.trans ?_ (Below.mono (by with_reducible assumption) ?_)) | go_size)⟩
  | some a =>
    clear hnil
    go_enter Try.func92, Try.ntmps92
    go_wp2_with (at_builtin; refine wpList_append_SL (B := w.heap.size) rfl (.tmp 5) (.tmp 6) _ rfl w.heap.size 3 i0 _ 8 Try.underlying42 HI.out.1 HI.out.2.1 HI.out.2.2.1 HI.out.2.2.2 rfl (by omega) rfl (World.ownsRow_made w #[] 0 (Nat.le_refl _) (by simp [maxLen]) (by simp)) rfl (SL.below HR.out (by (repeat' first | with_reducible (first | exact Below.refl _ _ | assumption | refine Below.alloc ?_ ?_ _ | refine below_drewN ?_ _ | refine Below.drew ?_ | refine Below.setCell ?_ ?_ _ | refine Below.trans ?_ (Below.mono (by with_reducible assumption) ?_)) | go_size))) (one_ints l) (by simp only [maxLen]; omega) (by omega) (by go_size) ?_; intro v1 w1 hown1 hg1 hat1)
    have hb1 : Below w.heap.size w w1 := (by (repeat' first | with_reducible (first | exact Below.refl _ _ | assumption | refine Below.alloc ?_ ?_ _ | refine below_drewN ?_ _ | refine Below.drew ?_ | refine Below.setCell ?_ ?_ _ | refine Below.trans ?_ (Below.mono (by with_reducible assumption) ?_)) | go_size) : Below w.heap.size w _).grown hg1 (by go_size) (by intro k hk; have hk' : w.heap.size = k := (Option.some.inj hk); omega)
    go_ret
    exact ⟨_, rfl, by (show SL _ _ _ _ _ _; simpa using SL.of_own hown1), from_own hown1, (by simpa using hown1), hb1⟩
end Go.Proofs.Ytljcgcllhcdleaa
/- eval.Arrays: a copy of all arrays, each in a row of its own. -/
namespace Go.Proofs.Ytljcgcllhcdleaa
open Go.RowKit
set_option linter.unusedSimpArgs false
set_option linter.unusedVariables false
/-- a slice of slices that reads as lists -/
def RLists (w : World) (B : Nat) (v : Value) (l : List (List Int)) : Prop :=
  ∃ vs : List Value, vs.length = l.length ∧ SL w B 1 v l.length vs ∧ ∀ (k : Nat) u a, vs[k]? = some u → l[k]? = some a → RInts w B u a
theorem RLists.at_ {w w' : World} {B : Nat} {v : Value} {l : List (List Int)} (h : RLists w B v l) (hb : Below w.heap.size w w') (hB : B ≤ w.heap.size) : RLists w' w'.heap.size v l := by
  obtain ⟨vs, h1, h2, h3⟩ := h
  exact ⟨vs, h1, SL.at_ h2 hb hB, fun k u a hu ha => SL.at_ (h3 k u a hu ha) hb hB⟩
/-- arrays of the call's own: the outer row holds vs; each of these has a row of its own, apart from all others -/
structure Arrs (w : World) (lo : Nat) (v : Value) (l : List (List Int)) (vs : List Value) : Prop where
  outer : w.ownsRow lo 42 1 v vs.length vs
  len : vs.length = l.length
  row : ∀ (k : Nat) u a, vs[k]? = some u → l[k]? = some a → w.ownsRow lo 3 1 u a.length (a.map (Value.int .i64))
  apart : ∀ (k k' : Nat) u u' b, vs[k]? = some u → vs[k']? = some u' → u.ownBlock = some b → u'.ownBlock = some b → k = k'
  out : ∀ (k : Nat) u b, vs[k]? = some u → u.ownBlock = some b → v.ownBlock ≠ some b
theorem Arrs.nil_ (w : World) (lo : Nat) : Arrs w lo (.slice none 0 0) [] [] :=
  ⟨World.ownsRow_nil _ _ _ _, rfl, fun k u a h => by simp at h, fun k k' u u' b h => by simp at h, fun k u b h => by simp at h⟩
theorem grown_of_below {w w' : World} (h : Below w.heap.size w w') (row : Option Nat) : w.grownBy w' row := ⟨h.os, h.tape, h.output, h.size, fun k hk _ => h.block k hk⟩
theorem owns_below {w w' : World} {base size n : Nat} {e : TypeId} {v : Value} {xs : List Value} (h : w.ownsRow base e size v n xs) (hb : Below w.heap.size w w') : w'.ownsRow base e size v n xs :=
  h.kept (grown_of_below hb none) (by cases v.ownBlock <;> simp)
theorem Arrs.stays {w w' : World} {lo : Nat} {v : Value} {l : List (List Int)} {vs : List Value} (h : Arrs w lo v l vs) (hb : Below w.heap.size w w') : Arrs w' lo v l vs :=
  ⟨owns_below h.outer hb, h.len, fun k u a hu ha => owns_below (h.row k u a hu ha) hb, h.apart, h.out⟩
/-- one array more -/
theorem Arrs.push {w w1 w2 : World} {lo : Nat} {v v' u : Value} {l : List (List Int)} {vs : List Value} {a : List Int} (h : Arrs w lo v l vs) (hlo : lo ≤ w.heap.size) (hb : Below w.heap.size w w1)
    (hu : w1.ownsRow w.heap.size 3 1 u a.length (a.map (Value.int .i64))) (hg : w1.grownBy w2 v.ownBlock) (hv : w2.ownsRow lo 42 1 v' (vs.length + 1) (vs ++ [u]))
    (hat : v'.ownBlock = v.ownBlock ∨ ∃ q, v'.ownBlock = some q ∧ w1.heap.size ≤ q) : Arrs w2 lo v' (l ++ [a]) (vs ++ [u]) := by
  have split : ∀ (k : Nat) x, (vs ++ [u])[k]? = some x → (k < vs.length ∧ vs[k]? = some x) ∨ (k = vs.length ∧ x = u) := fun k x hx => by
    rcases Nat.lt_or_ge k vs.length with hk | hk
    · rw [List.getElem?_append_left hk] at hx; exact .inl ⟨hk, hx⟩
    · rw [List.getElem?_append_right hk] at hx
      have : k - vs.length = 0 := by
        rcases Nat.eq_zero_or_pos (k - vs.length) with h0 | h0
        · exact h0
        · rw [List.getElem?_eq_none (by simp; omega)] at hx; cases hx
      rw [this] at hx
      exact .inr ⟨by omega, by simpa using hx.symm⟩
  have old : ∀ (k : Nat) x b, vs[k]? = some x → x.ownBlock = some b → b < w.heap.size := fun k x b hx hxb => by
    have hk : k < l.length := by
      have := (List.getElem?_eq_some_iff.1 hx).1
      rw [h.len] at this; exact this
    exact ((h.row k x _ hx (List.getElem?_eq_getElem hk)).lt b hxb).2
  refine ⟨by simpa using hv, by simp [h.len], fun k x y hx hy => ?_, fun k k' x x' b hx hx' hxb hxb' => ?_, fun k x b hx hxb => ?_⟩
  · rcases split k x hx with ⟨hk, hx⟩ | ⟨hk, rfl⟩
    · rw [List.getElem?_append_left (by rw [← h.len]; exact hk)] at hy
      refine (owns_below (h.row k x y hx hy) hb).kept hg ?_
      cases hxb : x.ownBlock with
      | none => exact .inl rfl
      | some b => exact .inr (fun e => h.out k x b hx hxb e.symm)
    · subst hk
      rw [h.len, List.getElem?_append_right (Nat.le_refl _)] at hy
      simp at hy
      subst hy
      have := hu.kept hg (by
        cases hxb : x.ownBlock with
        | none => exact .inl rfl
        | some b =>
          refine .inr fun e => ?_
          have h1 := (hu.lt b hxb).1
          have h2 := (h.outer.lt b e.symm).2
          omega)
      refine ⟨this.1, ?_⟩
      rcases this.2 with hn | ⟨g, cap, cur, e1, e2, e3⟩
      · exact .inl hn
      · exact .inr ⟨g, cap, cur, e1, by omega, e3⟩
  · rcases split k x hx with ⟨hk, hx1⟩ | ⟨hk, e1⟩ <;> rcases split k' x' hx' with ⟨hk', hx2⟩ | ⟨hk', e2⟩
    · exact h.apart k k' x x' b hx1 hx2 hxb hxb'
    · have h1 := old k x b hx1 hxb
      have h2 := (hu.lt b (e2 ▸ hxb')).1
      omega
    · have h1 := old k' x' b hx2 hxb'
      have h2 := (hu.lt b (e1 ▸ hxb)).1
      omega
    · omega
  · rcases split k x hx with ⟨hk, hx⟩ | ⟨hk, rfl⟩
    · rcases hat with e | ⟨q, e, hq⟩
      · rw [e]; exact h.out k x b hx hxb
      · rw [e]
        intro e2
        injection e2 with e2
        have h1 := old k x b hx hxb
        have := hb.size
        omega
    · have h1 := hu.lt b hxb
      rcases hat with e | ⟨q, e, hq⟩
      · rw [e]
        intro e2
        have := (h.outer.lt b e2).2
        omega
      · rw [e]
        intro e2
        injection e2 with e2
        omega
theorem slice_info : (Try.prog.info? 42).map (fun i => (i.zero, i.size, i.bytes)) = some (some (.slice none 0 0), 1, 24) := by kernel_rfl

set_option maxRecDepth 4000 in
set_option maxHeartbeats 1600000 in
theorem arrays_any (l : List (List Int)) (v : Value) (w : World) (h : RLists w w.heap.size v l) (hl : l.length ≤ 1073741824) (hls : ∀ a ∈ l, a.length ≤ 1073741824) :
    Calls Try.prog 71 #[v] w fun e w' => ∃ v' vs, e = .returned v' ∧ Arrs w' w.heap.size v' l vs ∧ Below w.heap.size w w' := by
  obtain ⟨vs, hlen, hsl, hel⟩ := h
  obtain ⟨i0, hi0, hz0, hz1, hz2⟩ := info_parts slice_info
  have II := Lib.hid (⟨hi0, hz0, hz1, hz2⟩ : _ ∧ _ ∧ _ ∧ _)
  have HL := Lib.hid hlen
  have HE := Lib.hid hel
  have HS := Lib.hid hsl
  have HM := Lib.hid hls
  obtain ⟨A, c, rfl, hc1, hc2⟩ := SL.form hsl
  unfold maxLen at hc2
  clear hi0 hz0 hz1 hz2 hlen hel hsl hls
  go_enter Try.func71, Try.ntmps71
  go_wp2_with fail
  go_loopw [3, 8] (fun o u wr => ∃ j : Nat, j ≤ l.length ∧ u = .int .i64 j ∧ Hid (∃ us, Arrs wr w.heap.size o (l.take j) us) ∧ Below w.heap.size w wr) (fun _ u _ => l.length - (intOf u).toNat)
  case atStart => exact ⟨0, by omega, rfl, ⟨[], Arrs.nil_ _ _⟩, by (repeat' first | with_reducible (first | exact Below.refl _ _ | assumption | refine Below.alloc ?_ ?_ _ | refine below_drewN ?_ _ | refine Below.drew ?_ | refine Below.setCell ?_ ?_ _ | refine Below.trans ?_ (Below.mono (by with_reducible assumption) ?_)) | go_size)⟩
  case round =>
    obtain ⟨j, hj, rfl, HA, hB⟩ := hrel
    obtain ⟨kd, kg, sd⟩ := bfacts hB
    by_cases hlt : j < l.length
    · have hu : ∃ u, vs[j]? = some u := ⟨vs[j]'(by rw [HL.out]; exact hlt), List.getElem?_eq_getElem _⟩
      obtain ⟨u, hu⟩ := hu
      obtain ⟨b, o, c', hv, hbw, _, _, hcell⟩ := SL.row HS.out (by omega : 0 < l.length)
      injection hv with hA _ hcr
      subst hA hcr
      have hc := hcell j u hu
      have hR := HE.out j u l[j] hu (List.getElem?_eq_getElem hlt)
      have HR := Lib.hid hR
      have ha := HM.out l[j] (List.getElem_mem hlt)
      have HT := Lib.hid (show l.take (j + 1) = l.take j ++ [l[j]] from by rw [List.take_succ_eq_append_getElem hlt])
      clear hu hcell hR
      generalize l[j] = a at *
      go_wp2_with fail
      refine (cloneInts_any a u _ (SL.at_ HR.out (by (repeat' first | with_reducible (first | exact Below.refl _ _ | assumption | refine Below.alloc ?_ ?_ _ | refine below_drewN ?_ _ | refine Below.drew ?_ | refine Below.setCell ?_ ?_ _ | refine Below.trans ?_ (Below.mono (by with_reducible assumption) ?_)) | go_size)) (Nat.le_refl _)) ha).mono ?_
      rintro e w1 ⟨v1, rfl, hR1, hF1, hO1, hb1⟩
      obtain ⟨kc1, kf1, s1⟩ := bfacts hb1
      (try simp only [World.size_alloc, World.size_setCell, World.size_drew, World.heap_drewN, Nat.add_one_le_iff] at s1)
      (try have z1 : w.heap.size < w1.heap.size := by omega)
      have B1 : Hid (Below w.heap.size w w1) := by (show Below _ _ _); (repeat' first | with_reducible (first | exact Below.refl _ _ | assumption | refine Below.alloc ?_ ?_ _ | refine below_drewN ?_ _ | refine Below.drew ?_ | refine Below.setCell ?_ ?_ _ | refine Below.trans ?_ (Below.mono (by with_reducible assumption) ?_)) | go_size)
      obtain ⟨kd1, kg1, _⟩ := bfacts B1.out
      obtain ⟨us, hus⟩ := HA.out
      obtain ⟨A1, c1, hv1, _, _⟩ := SL.form hR1
      subst hv1
      have HO := Lib.hid hO1
      have HU := Lib.hid hus
      have hul : us.length ≤ 1073741824 := by rw [hus.len, List.length_take]; omega
      have hB1 : Below wr.heap.size wr w1 := by (repeat' first | with_reducible (first | exact Below.refl _ _ | assumption | refine Below.alloc ?_ ?_ _ | refine below_drewN ?_ _ | refine Below.drew ?_ | refine Below.setCell ?_ ?_ _ | refine Below.trans ?_ (Below.mono (by with_reducible assumption) ?_)) | go_size)
      clear hR1 hF1 hO1 hus
      go_wp2_with (at_builtin; refine wpList_append_own_at _ rfl (.tmp 12) (.tmp 15) _ rfl w.heap.size 42 i0 (.slice none 0 0) 1 24 Try.underlying43 II.out.1 II.out.2.1 II.out.2.2.1 II.out.2.2.2 rfl (by decide) _ _ _ rfl ((owns_below HU.out.outer hB1).alloc _) ⟨w1.heap.size, 0, none⟩ 1 1 [.slice A1 a.length c1] rfl rfl (cell_one_new _ _ _) (fun x hx => by simp at hx; subst hx; rfl) (by unfold maxLen; omega) (by omega) (by simp; omega) ?_; intro v2 w2 hown2 hg2 hn2 hat2)
      have hP := HU.out.push hB.size (hB1.alloc hB1.size (.cells #[.slice A1 a.length c1] 42)) (HO.out.alloc _) hg2 hown2 (hat2.imp id fun e => ⟨_, e, by simp⟩)
      rw [← HT.out] at hP
      have hB2 := ((hB.trans (hB1.mono hB.size)).alloc (by omega) (.cells #[.slice A1 a.length c1] 42)).grown hg2 (by simp; omega) (fun q hq => (HU.out.outer.lt q hq).1)
      go_roundw
      case rel => exact ⟨j + 1, by omega, by go_num, ⟨_, hP⟩, hB2⟩
      case measure => simp [intOf]; omega
    · have hje : j = l.length := by omega
      subst hje
      go_wp2_with fail
      go_ret
      obtain ⟨us, hus⟩ := HA.out
      rw [List.take_length] at hus
      exact ⟨_, us, rfl, hus, hB⟩
end Go.Proofs.Ytljcgcllhcdleaa
/- flow.Seen. -/
namespace Go.Proofs.Ytljcgcllhcdleaa
open Go.RowKit
set_option linter.unusedSimpArgs false
set_option linter.unusedVariables false
theorem box_table {w : World} {t : List Int} (ht : t.length = 18) (T : TypeId) : TableAt (w.alloc (.cells (t.map (Value.int .i64)).toArray T)) w.heap.size t :=
  ⟨ht, by simp, fun k hk => by
    have hx : t[k]? = some (t.getD k 0) := by rw [List.getD_eq_getElem?_getD, List.getElem?_eq_getElem (by omega)]; rfl
    unfold World.cell?
    simp only [heap_alloc_new]
    show (t.map (Value.int .i64)).toArray[k]? = _
    rw [List.getElem?_toArray, List.getElem?_map, hx]
    rfl⟩
def tableV (t : List Int) : Value := .agg (t.map (Value.int .i64)).toArray
set_option maxHeartbeats 800000 in
theorem seenPub_any (t : List Int) (i : Ev.Instr) (v : List Int) (al : Bool) (vv : Value) (w : World) (ht : t.length = 18) (hv : RInts w w.heap.size vv v) (hop : 1 ≤ i.op) (hin : SeenIn i v.length (whichOf t i.op al)) :
    Calls Try.prog 39 #[tableV t, .agg #[.int .i64 i.op, .int .i64 i.d, .int .i64 i.a, .int .i64 i.b, .int .i64 i.c, .int .i64 i.imm], vv, .bool al] w fun e w' => ∃ v', e = .returned v' ∧ RInts w' w'.heap.size v' (Ev.seen t i v al) ∧ from_ w.heap.size v' ∧ (∀ b, v'.ownBlock = some b → b < w'.heap.size) ∧ Below w.heap.size w w' := by
  have C := Lib.hid (fun bt w ht hv => seen_any t i v al bt vv w ht hv hop hin)
  have HV := Lib.hid hv
  generalize Ev.seen t i v al = res at *
  clear hv hin
  unfold tableV
  go_enter Try.func39, Try.ntmps39
  go_wp2_with fail
  refine (C.out _ _ ((box_table ht _).stays (by (repeat' first | with_reducible (first | exact Below.refl _ _ | assumption | refine Below.alloc ?_ ?_ _ | refine below_drewN ?_ _ | refine Below.drew ?_ | refine Below.setCell ?_ ?_ _ | refine Below.trans ?_ (Below.mono (by with_reducible assumption) ?_)) | go_size))) (SL.at_ HV.out (by (repeat' first | with_reducible (first | exact Below.refl _ _ | assumption | refine Below.alloc ?_ ?_ _ | refine below_drewN ?_ _ | refine Below.drew ?_ | refine Below.setCell ?_ ?_ _ | refine Below.trans ?_ (Below.mono (by with_reducible assumption) ?_)) | go_size)) (Nat.le_refl _))).mono ?_
  rintro e w1 ⟨v1, rfl, hR, hF, hH, hb1⟩
  obtain ⟨kc1, kf1, s1⟩ := bfacts hb1
  (try simp only [World.size_alloc, World.size_setCell, World.size_drew, World.heap_drewN, Nat.add_one_le_iff] at s1)
  (try have z1 : w.heap.size < w1.heap.size := by omega)
  have B1 : Hid (Below w.heap.size w w1) := by (show Below _ _ _); (repeat' first | with_reducible (first | exact Below.refl _ _ | assumption | refine Below.alloc ?_ ?_ _ | refine below_drewN ?_ _ | refine Below.drew ?_ | refine Below.setCell ?_ ?_ _ | refine Below.trans ?_ (Below.mono (by with_reducible assumption) ?_)) | go_size)
  obtain ⟨kd1, kg1, _⟩ := bfacts B1.out
  go_wp2_with fail
  go_ret
  exact ⟨_, rfl, hR, hF.less (by simp; omega), hH, by (repeat' first | with_reducible (first | exact Below.refl _ _ | assumption | refine Below.alloc ?_ ?_ _ | refine below_drewN ?_ _ | refine Below.drew ?_ | refine Below.setCell ?_ ?_ _ | refine Below.trans ?_ (Below.mono (by with_reducible assumption) ?_)) | go_size)⟩
end Go.Proofs.Ytljcgcllhcdleaa
/- What was seen so far, in a row of the call's own. -/
namespace Go.Proofs.Ytljcgcllhcdleaa
open Go.RowKit
set_option linter.unusedSimpArgs false
set_option linter.unusedVariables false
def leakCells (x : Ev.Leak) (u : Value) : List Value := [.int .i64 x.pc, .int .i64 x.op, u]
def leaksCells : List Ev.Leak → List Value → List Value
  | x :: l, u :: us => leakCells x u ++ leaksCells l us
  | _, _ => []
theorem leaksCells_snoc : ∀ (l : List Ev.Leak) (us : List Value) (x : Ev.Leak) (u : Value), us.length = l.length → leaksCells (l ++ [x]) (us ++ [u]) = leaksCells l us ++ leakCells x u
  | [], [], x, u, _ => by simp [leaksCells]
  | y :: l, v :: us, x, u, h => by
    have := leaksCells_snoc l us x u (by simpa using h)
    simp [leaksCells, this]
  | [], v :: us, x, u, h => by simp at h
  | y :: l, [], x, u, h => by simp at h
theorem leaksCells_length : ∀ (l : List Ev.Leak) (us : List Value), us.length = l.length → (leaksCells l us).length = l.length * 3
  | [], [], _ => rfl
  | y :: l, v :: us, h => by
    have := leaksCells_length l us (by simpa using h)
    simp [leaksCells, leakCells, this]
    omega
  | [], v :: us, h => by simp at h
  | y :: l, [], h => by simp at h
theorem leaksCells_at : ∀ (l : List Ev.Leak) (us : List Value) (k : Nat) (x : Ev.Leak) (u : Value), l[k]? = some x → us[k]? = some u → ∀ j c, (leakCells x u)[j]? = some c → (leaksCells l us)[k * 3 + j]? = some c
  | [], us, k, x, u, h, _, _, _, _ => by simp at h
  | y :: l, [], k, x, u, _, h, _, _, _ => by simp at h
  | y :: l, v :: us, 0, x, u, h1, h2, j, c, hc => by
    simp at h1 h2
    subst h1 h2
    have hj : j < (leakCells y v).length := (List.getElem?_eq_some_iff.1 hc).1
    simp only [leaksCells, Nat.zero_mul, Nat.zero_add]
    rw [List.getElem?_append_left hj]
    exact hc
  | y :: l, v :: us, k + 1, x, u, h1, h2, j, c, hc => by
    have := leaksCells_at l us k x u (by simpa using h1) (by simpa using h2) j c hc
    simp only [leaksCells]
    rw [List.getElem?_append_right (by simp [leakCells]; omega)]
    have e : (k + 1) * 3 + j - (leakCells y v).length = k * 3 + j := by simp [leakCells]; omega
    rw [e]
    exact this
structure Leaks (w : World) (lo : Nat) (v : Value) (l : List Ev.Leak) (us : List Value) : Prop where
  row : w.ownsRow lo 72 3 v l.length (leaksCells l us)
  len : us.length = l.length
  val : ∀ (k : Nat) u x, us[k]? = some u → l[k]? = some x → RInts w w.heap.size u x.vals
  low : ∀ (k : Nat) u, us[k]? = some u → from_ lo u
  out : ∀ (k : Nat) u b, us[k]? = some u → u.ownBlock = some b → v.ownBlock ≠ some b
  hi : ∀ (k : Nat) u b, us[k]? = some u → u.ownBlock = some b → b < w.heap.size
theorem Leaks.nil_ (w : World) (lo : Nat) : Leaks w lo (.slice none 0 0) [] [] :=
  ⟨World.ownsRow_nil _ _ _ _, rfl, fun k u a h => by simp at h, fun k u h => by simp at h, fun k u b h => by simp at h, fun k u b h => by simp at h⟩
theorem Leaks.stays {w w' : World} {lo : Nat} {v : Value} {l : List Ev.Leak} {us : List Value} (h : Leaks w lo v l us) (hb : Below w.heap.size w w') : Leaks w' lo v l us :=
  ⟨owns_below h.row hb, h.len, fun k u x hu hx => SL.at_ (h.val k u x hu hx) hb (Nat.le_refl _), h.low, h.out, fun k u b hu hb' => Nat.lt_of_lt_of_le (h.hi k u b hu hb') hb.size⟩
theorem Leaks.aside {w : World} {lo : Nat} {v : Value} {l : List Ev.Leak} {us : List Value} (h : Leaks w lo v l us) (k o : Nat) (c : Value) (hk : k < lo) : Leaks (w.setCell ⟨k, o, none⟩ c) lo v l us :=
  ⟨ownsRow_setCell_below h.row hk c, h.len, fun j u x hu hx => by
    have := SL.aside (h.val j u x hu hx) (h.low j u hu) k o c hk
    show SL _ _ _ _ _ _
    simpa using this, h.low, h.out, fun j u b hu hb => by simpa using h.hi j u b hu hb⟩
/-- a slice stays as it reads while a row elsewhere grows -/
theorem SL.grown {w w' : World} {size n : Nat} {v : Value} {xs : List Value} {row : Option Nat} (h : SL w w.heap.size size v n xs) (hg : w.grownBy w' row) (hne : ∀ b, v.ownBlock = some b → some b ≠ row) : SL w' w'.heap.size size v n xs := by
  obtain ⟨h1, A, c, rfl, h3, h4, h5, h6⟩ := h
  refine ⟨h1, A, c, rfl, h3, h4, h5, fun hn => ?_⟩
  obtain ⟨b, o, rfl, hlt, hc⟩ := h6 hn
  refine ⟨b, o, rfl, Nat.lt_of_lt_of_le hlt hg.size, fun j u hu => hg.cell (hc j u hu) (hne b rfl)⟩
theorem Leaks.push {w w1 w2 : World} {lo : Nat} {v v' u : Value} {l : List Ev.Leak} {us : List Value} {x : Ev.Leak} (h : Leaks w lo v l us) (hlo : lo ≤ w.heap.size) (hb : Below w.heap.size w w1)
    (hu : RInts w1 w1.heap.size u x.vals) (hf : from_ w.heap.size u) (hfl : ∀ b, u.ownBlock = some b → b < w1.heap.size)
    (hg : w1.grownBy w2 v.ownBlock) (hv : w2.ownsRow lo 72 3 v' (l.length + 1) (leaksCells l us ++ leakCells x u))
    (hat : v'.ownBlock = v.ownBlock ∨ ∃ q, v'.ownBlock = some q ∧ w1.heap.size ≤ q) : Leaks w2 lo v' (l ++ [x]) (us ++ [u]) := by
  have split : ∀ (k : Nat) y, (us ++ [u])[k]? = some y → (k < us.length ∧ us[k]? = some y) ∨ (k = us.length ∧ y = u) := fun k y hx => by
    rcases Nat.lt_or_ge k us.length with hk | hk
    · rw [List.getElem?_append_left hk] at hx; exact .inl ⟨hk, hx⟩
    · rw [List.getElem?_append_right hk] at hx
      have : k - us.length = 0 := by
        rcases Nat.eq_zero_or_pos (k - us.length) with h0 | h0
        · exact h0
        · rw [List.getElem?_eq_none (by simp; omega)] at hx; cases hx
      rw [this] at hx
      exact .inr ⟨by omega, by simpa using hx.symm⟩
  have hub : ∀ b, u.ownBlock = some b → w.heap.size ≤ b := fun b hb' => by
    cases u <;> simp [Value.ownBlock] at hb'
    rename_i a n c
    cases a with
    | none => simp at hb'
    | some a => simp at hb'; subst hb'; exact hf a n c rfl
  refine ⟨by rw [leaksCells_snoc _ _ _ _ h.len]; simpa using hv, by simp [h.len], fun k y z hy hz => ?_, fun k y hy => ?_, fun k y b hy hyb => ?_, fun k y b hy hyb => ?_⟩
  · rcases split k y hy with ⟨hk, hy⟩ | ⟨hk, rfl⟩
    · rw [List.getElem?_append_left (by rw [← h.len]; exact hk)] at hz
      exact SL.grown (SL.at_ (h.val k y z hy hz) hb (Nat.le_refl _)) hg (fun b hyb e => h.out k y b hy hyb e.symm)
    · subst hk
      rw [h.len, List.getElem?_append_right (Nat.le_refl _)] at hz
      simp at hz
      subst hz
      refine SL.grown hu hg (fun b hyb e => ?_)
      have h1 := hub b hyb
      have h2 := (h.row.lt b e.symm).2
      omega
  · rcases split k y hy with ⟨hk, hy⟩ | ⟨hk, rfl⟩
    · exact h.low k y hy
    · exact hf.less hlo
  · rcases split k y hy with ⟨hk, hy⟩ | ⟨hk, rfl⟩
    · rcases hat with e | ⟨q, e, hq⟩
      · rw [e]; exact h.out k y b hy hyb
      · rw [e]
        intro e2
        injection e2 with e2
        have h1 := h.hi k y b hy hyb
        have := hb.size
        omega
    · rcases hat with e | ⟨q, e, hq⟩
      · rw [e]
        intro e2
        have h1 := hub b hyb
        have := (h.row.lt b e2).2
        omega
      · rw [e]
        intro e2
        injection e2 with e2
        have := hfl b hyb
        omega
  · have h1 := hg.size
    have h2 := hb.size
    rcases split k y hy with ⟨hk, hy⟩ | ⟨hk, rfl⟩
    · have := h.hi k y b hy hyb; omega
    · have := hfl b hyb; omega
theorem leak_info : (Try.prog.info? 72).map (fun i => (i.zero, i.size, i.bytes)) = some (some (.agg #[.int .i64 0, .int .i64 0, .slice none 0 0]), 3, 40) := by kernel_rfl
end Go.Proofs.Ytljcgcllhcdleaa
/- The memory of a run: the places' row, the arrays' rows. -/
namespace Go.Proofs.Ytljcgcllhcdleaa
open Go.RowKit
set_option linter.unusedSimpArgs false
set_option linter.unusedVariables false
/-- the state lies in rows from bv on, below hi -/
structure StateAt (w : World) (bv : Nat) (va : Value) (vs : List Value) (hi : Nat) (s : Ev.St) : Prop where
  v : w.ownsRow bv 3 1 (.slice (some ⟨bv, 0, none⟩) s.v.length s.v.length) s.v.length (s.v.map (Value.int .i64))
  arrs : Arrs w (bv + 1) va s.arrs vs
  hiv : bv < hi
  hio : ∀ b, va.ownBlock = some b → b < hi
  his : ∀ (k : Nat) u b, vs[k]? = some u → u.ownBlock = some b → b < hi
  le : hi ≤ w.heap.size
section
variable {w w' : World} {bv hi : Nat} {va : Value} {vs : List Value} {s : Ev.St}
theorem StateAt.grown {row : Option Nat} (h : StateAt w bv va vs hi s) (hg : w.grownBy w' row) (hr : ∀ q, row = some q → hi ≤ q) : StateAt w' bv va vs hi s := by
  have ne : ∀ (u : Value), (∀ b, u.ownBlock = some b → b < hi) → u.ownBlock = none ∨ u.ownBlock ≠ row := fun u hu => by
    cases hb : u.ownBlock with
    | none => exact .inl rfl
    | some b =>
      refine .inr fun e => ?_
      have := hr b e.symm
      have := hu b hb
      omega
  refine ⟨h.v.kept hg (ne _ (fun b hb => by simp [Value.ownBlock] at hb; subst hb; exact h.hiv)), ⟨h.arrs.outer.kept hg (ne _ h.hio), h.arrs.len, fun k u a hu ha => (h.arrs.row k u a hu ha).kept hg (ne _ (h.his k u · hu)), h.arrs.apart, h.arrs.out⟩, h.hiv, h.hio, h.his, Nat.le_trans h.le hg.size⟩
theorem StateAt.stays (h : StateAt w bv va vs hi s) (hb : Below w.heap.size w w') : StateAt w' bv va vs hi s := h.grown (grown_of_below hb none) (fun q e => by cases e)
theorem StateAt.cell (h : StateAt w bv va vs hi s) {p : Int} (hp : inR s.v.length p) : w.cell? ⟨bv, p.toNat, none⟩ = some (.int .i64 (Ev.val s.v p)) := by
  unfold inR at hp
  rw [h.v.cellAt p.toNat (by omega)]
  rw [List.getElem?_map]
  unfold Ev.val
  rw [List.getD_eq_getElem?_getD, List.getElem?_eq_getElem (by omega)]
  rfl
theorem StateAt.loose (h : StateAt w bv va vs hi s) (j : Nat) : w.frozen? ⟨bv, j, none⟩ = false := h.v.frozenAt j
theorem StateAt.lt (h : StateAt w bv va vs hi s) : bv < w.heap.size := Nat.lt_of_lt_of_le h.hiv h.le
theorem map_set_int (l : List Int) (j : Nat) (x : Int) : (l.set j x).map (Value.int .i64) = (l.map (Value.int .i64)).set j (.int .i64 x) := by
  rw [List.map_set]
theorem StateAt.setV (h : StateAt w bv va vs hi s) (j : Nat) (x : Int) : StateAt (w.setCell ⟨bv, j, none⟩ (.int .i64 x)) bv va vs hi { s with v := s.v.set j x } := by
  obtain ⟨h1, h2⟩ := h.v.stored j (.int .i64 x)
  refine ⟨?_, ⟨ownsRow_setCell_below h.arrs.outer (Nat.lt_succ_self _) _, h.arrs.len, fun k u a hu ha => ownsRow_setCell_below (h.arrs.row k u a hu ha) (Nat.lt_succ_self _) _, h.arrs.apart, h.arrs.out⟩, h.hiv, h.hio, h.his, by simpa using h.le⟩
  simp only [List.length_set, map_set_int]
  exact h1
/-- an array of the state: its slice in the outer row, and its cells -/
theorem Arrs.at_ {lo : Nat} {v : Value} {l : List (List Int)} (h : Arrs w lo v l vs) {k : Nat} {a : List Int} (hk : l[k]? = some a) :
    ∃ bo co A ca, v = .slice (some ⟨bo, 0, none⟩) l.length co ∧ lo ≤ bo ∧ bo < w.heap.size ∧ k < l.length ∧ l.length ≤ co ∧ co ≤ maxLen ∧ w.cell? ⟨bo, k, none⟩ = some (.slice A a.length ca) ∧ vs[k]? = some (.slice A a.length ca) ∧
      a.length ≤ ca ∧ ca ≤ maxLen ∧ (0 < a.length → ∃ g, A = some ⟨g, 0, none⟩ ∧ lo ≤ g ∧ g < w.heap.size ∧ (∀ j, w.frozen? ⟨g, j, none⟩ = false) ∧ ∀ (j : Nat) x, a[j]? = some x → w.cell? ⟨g, j, none⟩ = some (.int .i64 x)) := by
  have hkl : k < l.length := (List.getElem?_eq_some_iff.1 hk).1
  have hkv : k < vs.length := by rw [h.len]; exact hkl
  obtain ⟨u, hu⟩ : ∃ u, vs[k]? = some u := ⟨vs[k], List.getElem?_eq_getElem hkv⟩
  have hr := h.row k u a hu hk
  rcases h.outer.2 with ⟨_, e⟩ | ⟨bo, co, cur, rfl, hb, hg, hnc, hcm, _, _⟩
  · rw [e] at hkv; simp at hkv
  · have hbl : bo < w.heap.size := (Array.getElem?_eq_some_iff.1 hg).1
    have hcell := h.outer.cellAt k (by omega)
    rw [hu] at hcell
    have hlen := h.len
    rw [hlen] at hnc ⊢
    rcases hr.2 with ⟨rfl, e⟩ | ⟨g, ca, cur', rfl, hgb, hgg, hnc', hcm', _, _⟩
    · have h0 : a.length = 0 := by first | exact e | (simpa using congrArg List.length e)
      rw [h0]
      exact ⟨bo, co, none, 0, rfl, hb, hbl, hkl, hnc, hcm, hcell, hu, Nat.le_refl _, by simp [maxLen], fun h => absurd h (by omega)⟩
    · exact ⟨bo, co, _, ca, rfl, hb, hbl, hkl, hnc, hcm, hcell, hu, hnc', hcm', fun _ => ⟨g, rfl, hgb, (Array.getElem?_eq_some_iff.1 hgg).1, fun j => hr.frozenAt j, fun j x hx => by
        have hj := (List.getElem?_eq_some_iff.1 hx).1
        rw [hr.cellAt j (by omega), List.getElem?_map, hx]
        rfl⟩⟩
theorem StateAt.setA (h : StateAt w bv va vs hi s) {k g : Nat} {a : List Int} {ca : Nat} (hk : s.arrs[k]? = some a) (hu : vs[k]? = some (.slice (some ⟨g, 0, none⟩) a.length ca)) (j : Nat) (x : Int) :
    StateAt (w.setCell ⟨g, j, none⟩ (.int .i64 x)) bv va vs hi { s with arrs := s.arrs.set k (a.set j x) } := by
  have hr := h.arrs.row k _ a hu hk
  obtain ⟨h1, h2⟩ := hr.stored j (.int .i64 x)
  have hgb := (hr.lt g rfl).1
  refine ⟨ownsRow_setCell_other h.v (by simp [Value.ownBlock]; omega) _, ⟨ownsRow_setCell_other h.arrs.outer (h.arrs.out k _ g hu rfl) _, by simpa using h.arrs.len, fun k' u b hu' hb => ?_, h.arrs.apart, h.arrs.out⟩, h.hiv, h.hio, h.his, by simpa using h.le⟩
  by_cases hkk : k' = k
  · subst hkk
    rw [hu] at hu'
    injection hu' with hu'
    subst hu'
    have hb' : b = a.set j x := by
      simp only [List.getElem?_set] at hb
      split at hb
      · split at hb
        · exact (Option.some.inj hb).symm
        · cases hb
      · rename_i hne; exact absurd trivial hne
    subst hb'
    rw [List.length_set, map_set_int]
    exact h1
  · have hb' : s.arrs[k']? = some b := by
      simp only [List.getElem?_set] at hb
      rw [if_neg (fun e => hkk e.symm)] at hb
      exact hb
    refine ownsRow_setCell_other (h.arrs.row k' u b hu' hb') ?_ _
    intro e
    exact hkk (h.arrs.apart k' k u _ g hu' hu e rfl)
end
theorem own_full {w : World} {base : Nat} {e : TypeId} {n g : Nat} {xs : List Value} (h : w.ownsRow base e 1 (.slice (some ⟨g, 0, none⟩) n n) n xs) : w.heap[g]? = some (.cells xs.toArray e (0, 0)) ∧ base ≤ g := by
  rcases h.2 with ⟨h', _⟩ | ⟨g', cap, cur, h', hb, hg, _, _, hcs, htake⟩
  · simp at h'
  · simp only [Value.slice.injEq, Option.some.injEq, Addr.mk.injEq, and_true, true_and] at h'
    obtain ⟨rfl, rfl⟩ := h'
    refine ⟨?_, hb⟩
    rw [List.take_of_length_le (by simp [hcs])] at htake
    rw [← htake]
    simpa using hg
theorem own_of_full {w : World} {base : Nat} {e : TypeId} {n g : Nat} {xs : List Value} (h : w.heap[g]? = some (.cells xs.toArray e (0, 0))) (hl : xs.length = n) (hb : base ≤ g) (hm : n ≤ maxLen) : w.ownsRow base e 1 (.slice (some ⟨g, 0, none⟩) n n) n xs :=
  ⟨by simpa using hl, .inr ⟨g, n, xs.toArray, rfl, hb, h, Nat.le_refl _, hm, by simpa using hl, by simp [← hl]⟩⟩
theorem own_less {w : World} {base base' : Nat} {e : TypeId} {size n : Nat} {v : Value} {xs : List Value} (h : w.ownsRow base e size v n xs) (hl : base' ≤ base) : w.ownsRow base' e size v n xs := by
  refine ⟨h.1, ?_⟩
  rcases h.2 with hn | ⟨g, cap, cur, e1, e2, e3⟩
  · exact .inl hn
  · exact .inr ⟨g, cap, cur, e1, by omega, e3⟩
theorem Arrs.less {w : World} {lo lo' : Nat} {v : Value} {l : List (List Int)} {vs : List Value} (h : Arrs w lo v l vs) (hl : lo' ≤ lo) : Arrs w lo' v l vs :=
  ⟨own_less h.outer hl, h.len, fun k u a hu ha => own_less (h.row k u a hu ha) hl, h.apart, h.out⟩
theorem Arrs.his {w : World} {lo : Nat} {v : Value} {l : List (List Int)} {vs : List Value} (h : Arrs w lo v l vs) : ∀ (k : Nat) u b, vs[k]? = some u → u.ownBlock = some b → b < w.heap.size := fun k u b hu hb => by
  have hk : k < l.length := by
    have := (List.getElem?_eq_some_iff.1 hu).1
    rw [h.len] at this; exact this
  exact ((h.row k u _ hu (List.getElem?_eq_getElem hk)).lt b hb).2
/-- how it ended, as it reads -/
def REnded (w : World) (v : Value) (e : Ev.Ended) : Prop := ∃ va, v = .agg #[.int .i64 e.word, .bool e.trap, va] ∧ RLists w w.heap.size va e.arrays
def RLeaks (w : World) (v : Value) (l : List Ev.Leak) : Prop :=
  ∃ us : List Value, us.length = l.length ∧ SL w w.heap.size 3 v l.length (leaksCells l us) ∧ ∀ (k : Nat) u x, us[k]? = some u → l[k]? = some x → RInts w w.heap.size u x.vals
theorem Arrs.reads {w : World} {lo : Nat} {v : Value} {l : List (List Int)} {vs : List Value} (h : Arrs w lo v l vs) : RLists w w.heap.size v l := by
  refine ⟨vs, h.len, ?_, fun k u a hu ha => ?_⟩
  · have := SL.of_own h.outer
    rw [h.len] at this
    exact this
  · have := SL.of_own (h.row k u a hu ha)
    exact this
theorem Leaks.reads {w : World} {lo : Nat} {v : Value} {l : List Ev.Leak} {us : List Value} (h : Leaks w lo v l us) : RLeaks w v l := ⟨us, h.len, SL.of_own h.row, h.val⟩
theorem REnded.stays {w w' : World} {v : Value} {e : Ev.Ended} (h : REnded w v e) (hb : Below w.heap.size w w') : REnded w' v e := by
  obtain ⟨va, h1, h2⟩ := h
  exact ⟨va, h1, h2.at_ hb (Nat.le_refl _)⟩
theorem RLeaks.stays {w w' : World} {v : Value} {l : List Ev.Leak} (h : RLeaks w v l) (hb : Below w.heap.size w w') : RLeaks w' v l := by
  obtain ⟨us, h1, h2, h3⟩ := h
  exact ⟨us, h1, SL.at_ h2 hb (Nat.le_refl _), fun k u x hu hx => SL.at_ (h3 k u x hu hx) hb (Nat.le_refl _)⟩
end Go.Proofs.Ytljcgcllhcdleaa
