import Derived.Test.YtpbflgemhcaooaaDoorProg
import Derived.Test.YtpbflgemhcaooaaDoorPk8
import Derived.WalkSpells
import Derived.WalkLawsBesides
import Derived.Handy
import Derived.Lib.Hide
import Derived.BigQuiet
import Derived.Deep.QuietTactic
import Derived.Deep.DeepCutAuto
import Derived.Lib.SliceRun
import Derived.Outline
import Derived.Test.YtpbflgemhcaooaaDoorPk20
import Derived.Test.YtpbflgemhcaooaaDoorPk23
/- slices.Clone of ints. -/
namespace Go.Proofs.YtpbflgemhcaooaaDoor
open Go.RowKit
set_option linter.unusedSimpArgs false
set_option linter.unusedVariables false
theorem one_ints (l : List Int) : ∀ u ∈ l.map (Value.int .i64), u.oneCell' = true := by
  intro u hu
  rw [List.mem_map] at hu
  obtain ⟨i, _, rfl⟩ := hu
  rfl
theorem cloneInts_info : (Tryd.prog.info? 3).map (fun i => (i.zero, i.size, i.bytes)) = some (some (.int .i64 0), 1, 8) := by kernel_rfl
set_option maxHeartbeats 800000 in
theorem cloneInts_any (l : List Int) (v : Value) (w : World) (h : RInts w w.heap.size v l) (hl : l.length ≤ 1073741824) :
    Calls Tryd.prog 81 #[v] w fun e w' => ∃ v', e = .returned v' ∧ RInts w' w'.heap.size v' l ∧ from_ w.heap.size v' ∧ w'.ownsRow w.heap.size 3 1 v' l.length (l.map (Value.int .i64)) ∧ Below w.heap.size w w' := by
  obtain ⟨i0, hi0, hz0, hz1, hz2⟩ := info_parts cloneInts_info
  have HI := Lib.hid (⟨hi0, hz0, hz1, hz2⟩ : _ ∧ _ ∧ _ ∧ _)
  clear hi0 hz0 hz1 hz2
  have HR := Lib.hid h
  obtain ⟨A, c, rfl, hc1, hc2⟩ := SL.form h
  have hnil : A = none → l = [] := fun ha => by
    subst ha
    cases l with
    | nil => rfl
    | cons x r =>
      obtain ⟨_, A', c', he, _, _, _, h4⟩ := h
      obtain ⟨b, o, e, _⟩ := h4 (by simp)
      subst e
      cases he
  clear h
  have heq := fun W a n c n' c' => Lib.run_eql_slice_nil (P := Tryd.prog) W 46 3 a n c n' c' Tryd.underlying46
  cases A with
  | none =>
    have hl0 := hnil rfl
    subst hl0
    clear hnil
    go_enter Tryd.func81, Tryd.ntmps81
    go_wp2
    go_ret
    exact ⟨_, rfl, SL.nil_ _ _ _, from_nil _ _ _, World.ownsRow_nil _ _ _ _, by (repeat' first | with_reducible (first | exact Below.refl _ _ | assumption | refine Below.alloc ?_ ?_ _ | refine below_drewN ?_ _ | refine Below.drew ?_ | refine Below.setCell ?_ ?_ _ | refine Below.trans ?_ (Below.mono (by with_reducible assumption) ?_)) | go_size)⟩
  | some a =>
    clear hnil
    go_enter Tryd.func81, Tryd.ntmps81
    go_wp2_with (at_builtin; refine wpList_append_SL (B := w.heap.size) rfl (.tmp 5) (.tmp 6) _ rfl w.heap.size 3 i0 _ 8 Tryd.underlying46 HI.out.1 HI.out.2.1 HI.out.2.2.1 HI.out.2.2.2 rfl (by omega) rfl (World.ownsRow_made w #[] 0 (Nat.le_refl _) (by simp [maxLen]) (by simp)) rfl (SL.below HR.out (by (repeat' first | with_reducible (first | exact Below.refl _ _ | assumption | refine Below.alloc ?_ ?_ _ | refine below_drewN ?_ _ | refine Below.drew ?_ | refine Below.setCell ?_ ?_ _ | refine Below.trans ?_ (Below.mono (by with_reducible assumption) ?_)) | go_size))) (one_ints l) (by simp only [maxLen]; omega) (by omega) (by go_size) ?_; intro v1 w1 hown1 hg1 hat1)
    have hb1 : Below w.heap.size w w1 := (by (repeat' first | with_reducible (first | exact Below.refl _ _ | assumption | refine Below.alloc ?_ ?_ _ | refine below_drewN ?_ _ | refine Below.drew ?_ | refine Below.setCell ?_ ?_ _ | refine Below.trans ?_ (Below.mono (by with_reducible assumption) ?_)) | go_size) : Below w.heap.size w _).grown hg1 (by go_size) (by intro k hk; have hk' : w.heap.size = k := (Option.some.inj hk); omega)
    go_ret
    exact ⟨_, rfl, by (show SL _ _ _ _ _ _; simpa using SL.of_own hown1), from_own hown1, (by simpa using hown1), hb1⟩
end Go.Proofs.YtpbflgemhcaooaaDoor
/- eval.Arrays: a copy of all arrays, each in a row of its own. -/
namespace Go.Proofs.YtpbflgemhcaooaaDoor
open Go.RowKit
set_option linter.unusedSimpArgs false
set_option linter.unusedVariables false
/-- a slice of slices that reads as lists -/
def RLists (w : World) (B : Nat) (v : Value) (l : List (List Int)) : Prop :=
  ∃ vs : List Value, vs.length = l.length ∧ SL w B 1 v l.length vs ∧ ∀ (k : Nat) u a, vs[k]? = some u → l[k]? = some a → RInts w B u a
theorem RLists.at_ {w w' : World} {B : Nat} {v : Value} {l : List (List Int)} (h : RLists w B v l) (hb : Below w.heap.size w w') (hB : B ≤ w.heap.size) : RLists w' w'.heap.size v l := by
  obtain ⟨vs, h1, h2, h3⟩ := h
  exact ⟨vs, h1, SL.at_ h2 hb hB, fun k u a hu ha => SL.at_ (h3 k u a hu ha) hb hB⟩
/-- arrays of the call's own: the outer row holds vs; each of these has a row of its own, apart from all others -/
structure Arrs (w : World) (lo : Nat) (v : Value) (l : List (List Int)) (vs : List Value) : Prop where
  outer : w.ownsRow lo 46 1 v vs.length vs
  len : vs.length = l.length
  row : ∀ (k : Nat) u a, vs[k]? = some u → l[k]? = some a → w.ownsRow lo 3 1 u a.length (a.map (Value.int .i64))
  apart : ∀ (k k' : Nat) u u' b, vs[k]? = some u → vs[k']? = some u' → u.ownBlock = some b → u'.ownBlock = some b → k = k'
  out : ∀ (k : Nat) u b, vs[k]? = some u → u.ownBlock = some b → v.ownBlock ≠ some b
theorem Arrs.nil_ (w : World) (lo : Nat) : Arrs w lo (.slice none 0 0) [] [] :=
  ⟨World.ownsRow_nil _ _ _ _, rfl, fun k u a h => by simp at h, fun k k' u u' b h => by simp at h, fun k u b h => by simp at h⟩
theorem Arrs.stays {w w' : World} {lo : Nat} {v : Value} {l : List (List Int)} {vs : List Value} (h : Arrs w lo v l vs) (hb : Below w.heap.size w w') : Arrs w' lo v l vs :=
  ⟨owns_below h.outer hb, h.len, fun k u a hu ha => owns_below (h.row k u a hu ha) hb, h.apart, h.out⟩
/-- one array more -/
theorem Arrs.push {w w1 w2 : World} {lo : Nat} {v v' u : Value} {l : List (List Int)} {vs : List Value} {a : List Int} (h : Arrs w lo v l vs) (hlo : lo ≤ w.heap.size) (hb : Below w.heap.size w w1)
    (hu : w1.ownsRow w.heap.size 3 1 u a.length (a.map (Value.int .i64))) (hg : w1.grownBy w2 v.ownBlock) (hv : w2.ownsRow lo 46 1 v' (vs.length + 1) (vs ++ [u]))
    (hat : v'.ownBlock = v.ownBlock ∨ ∃ q, v'.ownBlock = some q ∧ w1.heap.size ≤ q) : Arrs w2 lo v' (l ++ [a]) (vs ++ [u]) := by
  have split : ∀ (k : Nat) x, (vs ++ [u])[k]? = some x → (k < vs.length ∧ vs[k]? = some x) ∨ (k = vs.length ∧ x = u) := fun k x hx => by
    rcases Nat.lt_or_ge k vs.length with hk | hk
    · rw [List.getElem?_append_left hk] at hx; exact .inl ⟨hk, hx⟩
    · rw [List.getElem?_append_right hk] at hx
      have : k - vs.length = 0 := by
        rcases Nat.eq_zero_or_pos (k - vs.length) with h0 | h0
        · exact h0
        · rw [List.getElem?_eq_none (by simp; omega)] at hx; cases hx
      rw [this] at hx
      exact .inr ⟨by omega, by simpa using hx.symm⟩
  have old : ∀ (k : Nat) x b, vs[k]? = some x → x.ownBlock = some b → b < w.heap.size := fun k x b hx hxb => by
    have hk : k < l.length := by
      have := (List.getElem?_eq_some_iff.1 hx).1
      rw [h.len] at this; exact this
    exact ((h.row k x _ hx (List.getElem?_eq_getElem hk)).lt b hxb).2
  refine ⟨by simpa using hv, by simp [h.len], fun k x y hx hy => ?_, fun k k' x x' b hx hx' hxb hxb' => ?_, fun k x b hx hxb => ?_⟩
  · rcases split k x hx with ⟨hk, hx⟩ | ⟨hk, rfl⟩
    · rw [List.getElem?_append_left (by rw [← h.len]; exact hk)] at hy
      refine (owns_below (h.row k x y hx hy) hb).kept hg ?_
      cases hxb : x.ownBlock with
      | none => exact .inl rfl
      | some b => exact .inr (fun e => h.out k x b hx hxb e.symm)
    · subst hk
      rw [h.len, List.getElem?_append_right (Nat.le_refl _)] at hy
      simp at hy
      subst hy
      have := hu.kept hg (by
        cases hxb : x.ownBlock with
        | none => exact .inl rfl
        | some b =>
          refine .inr fun e => ?_
          have h1 := (hu.lt b hxb).1
          have h2 := (h.outer.lt b e.symm).2
          omega)
      refine ⟨this.1, ?_⟩
      rcases this.2 with hn | ⟨g, cap, cur, e1, e2, e3⟩
      · exact .inl hn
      · exact .inr ⟨g, cap, cur, e1, by omega, e3⟩
  · rcases split k x hx with ⟨hk, hx1⟩ | ⟨hk, e1⟩ <;> rcases split k' x' hx' with ⟨hk', hx2⟩ | ⟨hk', e2⟩
    · exact h.apart k k' x x' b hx1 hx2 hxb hxb'
    · have h1 := old k x b hx1 hxb
      have h2 := (hu.lt b (e2 ▸ hxb')).1
      omega
    · have h1 := old k' x' b hx2 hxb'
      have h2 := (hu.lt b (e1 ▸ hxb)).1
      omega
    · omega
  · rcases split k x hx with ⟨hk, hx⟩ | ⟨hk, rfl⟩
    · rcases hat with e | ⟨q, e, hq⟩
      · rw [e]; exact h.out k x b hx hxb
      · rw [e]
        intro e2
        injection e2 with e2
        have h1 := old k x b hx hxb
        have := hb.size
        omega
    · have h1 := hu.lt b hxb
      rcases hat with e | ⟨q, e, hq⟩
      · rw [e]
        intro e2
        have := (h.outer.lt b e2).2
        omega
      · rw [e]
        intro e2
        injection e2 with e2
        omega
theorem slice_info : (Tryd.prog.info? 46).map (fun i => (i.zero, i.size, i.bytes)) = some (some (.slice none 0 0), 1, 24) := by kernel_rfl

set_option maxRecDepth 4000 in
set_option maxHeartbeats 1600000 in
theorem arrays_any (l : List (List Int)) (v : Value) (w : World) (h : RLists w w.heap.size v l) (hl : l.length ≤ 1073741824) (hls : ∀ a ∈ l, a.length ≤ 1073741824) :
    Calls Tryd.prog 41 #[v] w fun e w' => ∃ v' vs, e = .returned v' ∧ Arrs w' w.heap.size v' l vs ∧ Below w.heap.size w w' := by
  obtain ⟨vs, hlen, hsl, hel⟩ := h
  obtain ⟨i0, hi0, hz0, hz1, hz2⟩ := info_parts slice_info
  have II := Lib.hid (⟨hi0, hz0, hz1, hz2⟩ : _ ∧ _ ∧ _ ∧ _)
  have HL := Lib.hid hlen
  have HE := Lib.hid hel
  have HS := Lib.hid hsl
  have HM := Lib.hid hls
  obtain ⟨A, c, rfl, hc1, hc2⟩ := SL.form hsl
  unfold maxLen at hc2
  clear hi0 hz0 hz1 hz2 hlen hel hsl hls
  go_enter Tryd.func41, Tryd.ntmps41
  go_wp2_with fail
  go_loopw [3, 8] (fun o u wr => ∃ j : Nat, j ≤ l.length ∧ u = .int .i64 j ∧ Hid (∃ us, Arrs wr w.heap.size o (l.take j) us) ∧ Below w.heap.size w wr) (fun _ u _ => l.length - (intOf u).toNat)
  case atStart => exact ⟨0, by omega, rfl, ⟨[], Arrs.nil_ _ _⟩, by (repeat' first | with_reducible (first | exact Below.refl _ _ | assumption | refine Below.alloc ?_ ?_ _ | refine below_drewN ?_ _ | refine Below.drew ?_ | refine Below.setCell ?_ ?_ _ | refine Below.trans ?_ (Below.mono (by with_reducible assumption) ?_)) | go_size)⟩
  case round =>
    obtain ⟨j, hj, rfl, HA, hB⟩ := hrel
    obtain ⟨kd, kg, sd⟩ := bfacts hB
    by_cases hlt : j < l.length
    · have hu : ∃ u, vs[j]? = some u := ⟨vs[j]'(by rw [HL.out]; exact hlt), List.getElem?_eq_getElem _⟩
      obtain ⟨u, hu⟩ := hu
      obtain ⟨b, o, c', hv, hbw, _, _, hcell⟩ := SL.row HS.out (by omega : 0 < l.length)
      injection hv with hA _ hcr
      subst hA hcr
      have hc := hcell j u hu
      have hR := HE.out j u l[j] hu (List.getElem?_eq_getElem hlt)
      have HR := Lib.hid hR
      have ha := HM.out l[j] (List.getElem_mem hlt)
      have HT := Lib.hid (show l.take (j + 1) = l.take j ++ [l[j]] from by rw [List.take_succ_eq_append_getElem hlt])
      clear hu hcell hR
      generalize l[j] = a at *
      go_wp2_with fail
      refine (cloneInts_any a u _ (SL.at_ HR.out (by (repeat' first | with_reducible (first | exact Below.refl _ _ | assumption | refine Below.alloc ?_ ?_ _ | refine below_drewN ?_ _ | refine Below.drew ?_ | refine Below.setCell ?_ ?_ _ | refine Below.trans ?_ (Below.mono (by with_reducible assumption) ?_)) | go_size)) (Nat.le_refl _)) ha).mono ?_
      rintro e w1 ⟨v1, rfl, hR1, hF1, hO1, hb1⟩
      obtain ⟨kc1, kf1, s1⟩ := bfacts hb1
      (try simp only [World.size_alloc, World.size_setCell, World.size_drew, World.heap_drewN, Nat.add_one_le_iff] at s1)
      (try have z1 : w.heap.size < w1.heap.size := by omega)
      have B1 : Hid (Below w.heap.size w w1) := by (show Below _ _ _); (repeat' first | with_reducible (first | exact Below.refl _ _ | assumption | refine Below.alloc ?_ ?_ _ | refine below_drewN ?_ _ | refine Below.drew ?_ | refine Below.setCell ?_ ?_ _ | refine Below.trans ?_ (Below.mono (by with_reducible assumption) ?_)) | go_size)
      obtain ⟨kd1, kg1, _⟩ := bfacts B1.out
      obtain ⟨us, hus⟩ := HA.out
      obtain ⟨A1, c1, hv1, _, _⟩ := SL.form hR1
      subst hv1
      have HO := Lib.hid hO1
      have HU := Lib.hid hus
      have hul : us.length ≤ 1073741824 := by rw [hus.len, List.length_take]; omega
      have hB1 : Below wr.heap.size wr w1 := by (repeat' first | with_reducible (first | exact Below.refl _ _ | assumption | refine Below.alloc ?_ ?_ _ | refine below_drewN ?_ _ | refine Below.drew ?_ | refine Below.setCell ?_ ?_ _ | refine Below.trans ?_ (Below.mono (by with_reducible assumption) ?_)) | go_size)
      clear hR1 hF1 hO1 hus
      go_wp2_with (at_builtin; refine wpList_append_own_at _ rfl (.tmp 12) (.tmp 15) _ rfl w.heap.size 46 i0 (.slice none 0 0) 1 24 Tryd.underlying47 II.out.1 II.out.2.1 II.out.2.2.1 II.out.2.2.2 rfl (by decide) _ _ _ rfl ((owns_below HU.out.outer hB1).alloc _) ⟨w1.heap.size, 0, none⟩ 1 1 [.slice A1 a.length c1] rfl rfl (cell_one_new _ _ _) (fun x hx => by simp at hx; subst hx; rfl) (by unfold maxLen; omega) (by omega) (by simp; omega) ?_; intro v2 w2 hown2 hg2 hn2 hat2)
      have hP := HU.out.push hB.size (hB1.alloc hB1.size (.cells #[.slice A1 a.length c1] 46)) (HO.out.alloc _) hg2 hown2 (hat2.imp id fun e => ⟨_, e, by simp⟩)
      rw [← HT.out] at hP
      have hB2 := ((hB.trans (hB1.mono hB.size)).alloc (by omega) (.cells #[.slice A1 a.length c1] 46)).grown hg2 (by simp; omega) (fun q hq => (HU.out.outer.lt q hq).1)
      go_roundw
      case rel => exact ⟨j + 1, by omega, by go_num, ⟨_, hP⟩, hB2⟩
      case measure => simp [intOf]; omega
    · have hje : j = l.length := by omega
      subst hje
      go_wp2_with fail
      go_ret
      obtain ⟨us, hus⟩ := HA.out
      rw [List.take_length] at hus
      exact ⟨_, us, rfl, hus, hB⟩
end Go.Proofs.YtpbflgemhcaooaaDoor
/- Arrays in memory: one of them; how a run ended. -/
namespace Go.Proofs.YtpbflgemhcaooaaDoor
open Go.RowKit
set_option linter.unusedSimpArgs false
set_option linter.unusedVariables false
section
variable {w w' : World} {vs : List Value}
theorem map_set_int (l : List Int) (j : Nat) (x : Int) : (l.set j x).map (Value.int .i64) = (l.map (Value.int .i64)).set j (.int .i64 x) := by
  rw [List.map_set]
/-- an array of the state: its slice in the outer row, and its cells -/
theorem Arrs.at_ {lo : Nat} {v : Value} {l : List (List Int)} (h : Arrs w lo v l vs) {k : Nat} {a : List Int} (hk : l[k]? = some a) :
    ∃ bo co A ca, v = .slice (some ⟨bo, 0, none⟩) l.length co ∧ lo ≤ bo ∧ bo < w.heap.size ∧ k < l.length ∧ l.length ≤ co ∧ co ≤ maxLen ∧ w.cell? ⟨bo, k, none⟩ = some (.slice A a.length ca) ∧ vs[k]? = some (.slice A a.length ca) ∧
      a.length ≤ ca ∧ ca ≤ maxLen ∧ (0 < a.length → ∃ g, A = some ⟨g, 0, none⟩ ∧ lo ≤ g ∧ g < w.heap.size ∧ (∀ j, w.frozen? ⟨g, j, none⟩ = false) ∧ ∀ (j : Nat) x, a[j]? = some x → w.cell? ⟨g, j, none⟩ = some (.int .i64 x)) := by
  have hkl : k < l.length := (List.getElem?_eq_some_iff.1 hk).1
  have hkv : k < vs.length := by rw [h.len]; exact hkl
  obtain ⟨u, hu⟩ : ∃ u, vs[k]? = some u := ⟨vs[k], List.getElem?_eq_getElem hkv⟩
  have hr := h.row k u a hu hk
  rcases h.outer.2 with ⟨_, e⟩ | ⟨bo, co, cur, rfl, hb, hg, hnc, hcm, _, _⟩
  · rw [e] at hkv; simp at hkv
  · have hbl : bo < w.heap.size := (Array.getElem?_eq_some_iff.1 hg).1
    have hcell := h.outer.cellAt k (by omega)
    rw [hu] at hcell
    have hlen := h.len
    rw [hlen] at hnc ⊢
    rcases hr.2 with ⟨rfl, e⟩ | ⟨g, ca, cur', rfl, hgb, hgg, hnc', hcm', _, _⟩
    · have h0 : a.length = 0 := by first | exact e | (simpa using congrArg List.length e)
      rw [h0]
      exact ⟨bo, co, none, 0, rfl, hb, hbl, hkl, hnc, hcm, hcell, hu, Nat.le_refl _, by simp [maxLen], fun h => absurd h (by omega)⟩
    · exact ⟨bo, co, _, ca, rfl, hb, hbl, hkl, hnc, hcm, hcell, hu, hnc', hcm', fun _ => ⟨g, rfl, hgb, (Array.getElem?_eq_some_iff.1 hgg).1, fun j => hr.frozenAt j, fun j x hx => by
        have hj := (List.getElem?_eq_some_iff.1 hx).1
        rw [hr.cellAt j (by omega), List.getElem?_map, hx]
        rfl⟩⟩
end
theorem own_full {w : World} {base : Nat} {e : TypeId} {n g : Nat} {xs : List Value} (h : w.ownsRow base e 1 (.slice (some ⟨g, 0, none⟩) n n) n xs) : w.heap[g]? = some (.cells xs.toArray e (0, 0)) ∧ base ≤ g := by
  rcases h.2 with ⟨h', _⟩ | ⟨g', cap, cur, h', hb, hg, _, _, hcs, htake⟩
  · simp at h'
  · simp only [Value.slice.injEq, Option.some.injEq, Addr.mk.injEq, and_true, true_and] at h'
    obtain ⟨rfl, rfl⟩ := h'
    refine ⟨?_, hb⟩
    rw [List.take_of_length_le (by simp [hcs])] at htake
    rw [← htake]
    simpa using hg
theorem own_of_full {w : World} {base : Nat} {e : TypeId} {n g : Nat} {xs : List Value} (h : w.heap[g]? = some (.cells xs.toArray e (0, 0))) (hl : xs.length = n) (hb : base ≤ g) (hm : n ≤ maxLen) : w.ownsRow base e 1 (.slice (some ⟨g, 0, none⟩) n n) n xs :=
  ⟨by simpa using hl, .inr ⟨g, n, xs.toArray, rfl, hb, h, Nat.le_refl _, hm, by simpa using hl, by simp [← hl]⟩⟩
theorem own_less {w : World} {base base' : Nat} {e : TypeId} {size n : Nat} {v : Value} {xs : List Value} (h : w.ownsRow base e size v n xs) (hl : base' ≤ base) : w.ownsRow base' e size v n xs := by
  refine ⟨h.1, ?_⟩
  rcases h.2 with hn | ⟨g, cap, cur, e1, e2, e3⟩
  · exact .inl hn
  · exact .inr ⟨g, cap, cur, e1, by omega, e3⟩
theorem Arrs.less {w : World} {lo lo' : Nat} {v : Value} {l : List (List Int)} {vs : List Value} (h : Arrs w lo v l vs) (hl : lo' ≤ lo) : Arrs w lo' v l vs :=
  ⟨own_less h.outer hl, h.len, fun k u a hu ha => own_less (h.row k u a hu ha) hl, h.apart, h.out⟩
theorem Arrs.his {w : World} {lo : Nat} {v : Value} {l : List (List Int)} {vs : List Value} (h : Arrs w lo v l vs) : ∀ (k : Nat) u b, vs[k]? = some u → u.ownBlock = some b → b < w.heap.size := fun k u b hu hb => by
  have hk : k < l.length := by
    have := (List.getElem?_eq_some_iff.1 hu).1
    rw [h.len] at this; exact this
  exact ((h.row k u _ hu (List.getElem?_eq_getElem hk)).lt b hb).2
/-- how it ended, as it reads -/
def REnded (w : World) (v : Value) (e : Ev.Ended) : Prop := ∃ va, v = .agg #[.int .i64 e.word, .bool e.trap, va] ∧ RLists w w.heap.size va e.arrays
theorem Arrs.reads {w : World} {lo : Nat} {v : Value} {l : List (List Int)} {vs : List Value} (h : Arrs w lo v l vs) : RLists w w.heap.size v l := by
  refine ⟨vs, h.len, ?_, fun k u a hu ha => ?_⟩
  · have := SL.of_own h.outer
    rw [h.len] at this
    exact this
  · have := SL.of_own (h.row k u a hu ha)
    exact this
theorem REnded.stays {w w' : World} {v : Value} {e : Ev.Ended} (h : REnded w v e) (hb : Below w.heap.size w w') : REnded w' v e := by
  obtain ⟨va, h1, h2⟩ := h
  exact ⟨va, h1, h2.at_ hb (Nat.le_refl _)⟩
end Go.Proofs.YtpbflgemhcaooaaDoor
/- eval: the slots of names, the teller in memory. -/
namespace Ev
def hasN : Nms → List UInt8 → Prop
  | [], _ => False
  | (m, _) :: r, n => m = n ∨ hasN r n
/-- a name's slot -/
def slotB : List Nat → Nms → List UInt8 → Nat
  | b :: bs, (m, _) :: r, n => if m = n then b else slotB bs r n
  | _, _, _ => 0
theorem setN_len : ∀ (l : Nms) (n : List UInt8) (x : Int), (setN l n x).length = l.length
  | [], _, _ => rfl
  | (m, v) :: r, n, x => by
    unfold setN
    split
    · rfl
    · simp [setN_len r n x]
end Ev
namespace Go.Proofs.YtpbflgemhcaooaaDoor
open Go.RowKit
set_option linter.unusedSimpArgs false
set_option linter.unusedVariables false
/-- all that was there is as it was, but for the blocks of S -/
structure SFr (S : Nat → Prop) (w w' : World) : Prop where
  os : w'.os = w.os
  tape : w'.tape = w.tape
  output : w'.output = w.output
  size : w.heap.size ≤ w'.heap.size
  block : ∀ k, k < w.heap.size → ¬ S k → w'.heap[k]? = w.heap[k]?
theorem SFr.refl (S : Nat → Prop) (w : World) : SFr S w w := ⟨rfl, rfl, rfl, Nat.le_refl _, fun _ _ _ => rfl⟩
theorem SFr.of {S : Nat → Prop} {w u : World} (h : Below w.heap.size w u) : SFr S w u := ⟨h.os, h.tape, h.output, h.size, fun k hk _ => h.block k hk⟩
theorem SFr.trans {S S' : Nat → Prop} {w u v : World} (h : SFr S w u) (k : SFr S' u v) (hs : ∀ i, i < w.heap.size → S' i → S i) : SFr S w v :=
  ⟨k.os.trans h.os, k.tape.trans h.tape, k.output.trans h.output, Nat.le_trans h.size k.size, fun i hi hb => (k.block i (Nat.lt_of_lt_of_le hi h.size) (fun e => hb (hs i hi e))).trans (h.block i hi hb)⟩
theorem SFr.on {S : Nat → Prop} {w u v : World} (h : SFr S w u) (k : Below u.heap.size u v) : SFr S w v := h.trans (S' := S) (.of k) (fun _ _ e => e)
theorem SFr.put {S : Nat → Prop} (w : World) (b j : Nat) (v : Value) (hb : S b) : SFr S w (w.setCell ⟨b, j, none⟩ v) :=
  ⟨rfl, rfl, rfl, by simp, fun k _ hk => Below.heap_setCell w ⟨b, j, none⟩ v k (fun e => hk (e ▸ hb))⟩
theorem SFr.below {S : Nat → Prop} {B : Nat} {w u : World} (h : SFr S w u) (hB : ∀ k, k < B → ¬ S k) (hw : B ≤ w.heap.size) : Below B w u :=
  ⟨h.os, h.tape, h.output, h.size, fun k hk => h.block k (by omega) (hB k hk)⟩
theorem RExL.sfr {S : Nat → Prop} {d : Nat} {w w' : World} {K : Nat → Prop} {v : Value} {l : List Ev.Ex} (h : RExL d w K v l) (hF : SFr S w w') (hK : ∀ k, K k → ¬ S k) : RExL d w' K v l := RExL.keep hF.size (fun k hk hkl => hF.block k hkl (hK k hk)) d v l h
theorem RStL.sfr {S : Nat → Prop} {d : Nat} {w w' : World} {K : Nat → Prop} {v : Value} {l : List Ev.St1} (h : RStL d w K v l) (hF : SFr S w w') (hK : ∀ k, K k → ¬ S k) : RStL d w' K v l := RStL.keep hF.size (fun k hk hkl => hF.block k hkl (hK k hk)) d v l h
/-! ### slots -/
def headP : List Nat → Value
  | [] => .pointer none
  | b :: _ => .pointer (some ⟨b, 0, none⟩)
/-- names in slots, one behind the other -/
def Chain (w : World) : List Nat → Ev.Nms → Prop
  | [], l => l = []
  | b :: bs, l => ∃ n v r, l = (n, v) :: r ∧ w.heap[b]? = some (.cells #[.string ⟨n.toArray⟩, .int .i64 v, headP bs] 157 (0, 0)) ∧ b ∉ bs ∧ Chain w bs r
theorem Chain.same {w w' : World} : ∀ {bs : List Nat} {l : Ev.Nms}, Chain w bs l → (∀ b ∈ bs, w'.heap[b]? = w.heap[b]?) → Chain w' bs l
  | [], l, h, _ => h
  | b :: bs, l, ⟨n, v, r, h1, h2, h3, h4⟩, hs => ⟨n, v, r, h1, (hs b (by simp)).trans h2, h3, h4.same (fun c hc => hs c (by simp [hc]))⟩
theorem Chain.lt {w : World} : ∀ {bs : List Nat} {l : Ev.Nms}, Chain w bs l → ∀ b ∈ bs, b < w.heap.size
  | [], _, _, b, hb => by cases hb
  | c :: bs, l, ⟨n, v, r, h1, h2, h3, h4⟩, b, hb => by
    rcases List.mem_cons.1 hb with rfl | hb
    · exact (Array.getElem?_eq_some_iff.1 h2).1
    · exact h4.lt b hb
theorem Chain.on {w w' : World} {bs : List Nat} {l : Ev.Nms} (h : Chain w bs l) (hb : Below w.heap.size w w') : Chain w' bs l := h.same (fun b hm => hb.block b (h.lt b hm))
theorem Chain.len {w : World} : ∀ {bs : List Nat} {l : Ev.Nms}, Chain w bs l → l.length = bs.length
  | [], l, h => by rw [show l = [] from h]; rfl
  | b :: bs, l, ⟨n, v, r, h1, h2, h3, h4⟩ => by rw [h1]; simp [h4.len]
theorem Chain.drop {w : World} : ∀ {cs bs : List Nat} {l : Ev.Nms}, Chain w (cs ++ bs) l → Chain w bs (l.drop cs.length)
  | [], bs, l, h => h
  | c :: cs, bs, l, ⟨n, v, r, h1, h2, h3, h4⟩ => by rw [h1]; exact h4.drop
/-- the chain below: as many names as before -/
theorem Chain.back {w : World} {cs bs : List Nat} {l : Ev.Nms} {n : Nat} (h : Chain w (cs ++ bs) l) (hn : n = bs.length) : Chain w bs (l.drop (l.length - n)) := by
  have h1 := h.len
  rw [List.length_append] at h1
  rw [show l.length - n = cs.length by omega]
  exact h.drop
theorem slotB_mem {w : World} : ∀ {bs : List Nat} {l : Ev.Nms} {n : List UInt8}, Chain w bs l → Ev.hasN l n → Ev.slotB bs l n ∈ bs
  | [], l, n, h, hn => by rw [show l = [] from h] at hn; exact hn.elim
  | b :: bs, l, n, ⟨m, v, r, h1, h2, h3, h4⟩, hn => by
    subst h1
    unfold Ev.slotB
    split
    · simp
    · rename_i hx
      exact List.mem_cons_of_mem _ (slotB_mem h4 (hn.resolve_left hx))
/-- what stands in a name's slot -/
theorem Chain.at_ {w : World} : ∀ {bs : List Nat} {l : Ev.Nms} {n : List UInt8}, Chain w bs l → Ev.hasN l n → ∃ up, w.heap[Ev.slotB bs l n]? = some (.cells #[.string ⟨n.toArray⟩, .int .i64 (Ev.getN l n), up] 157 (0, 0))
  | [], l, n, h, hn => by rw [show l = [] from h] at hn; exact hn.elim
  | b :: bs, l, n, ⟨m, v, r, h1, h2, h3, h4⟩, hn => by
    subst h1
    unfold Ev.slotB Ev.getN
    by_cases hx : m = n
    · rw [if_pos hx, if_pos hx]
      subst hx
      exact ⟨_, h2⟩
    · rw [if_neg hx, if_neg hx]
      exact h4.at_ (hn.resolve_left hx)
/-- a name is set -/
theorem Chain.put {w : World} : ∀ {bs : List Nat} {l : Ev.Nms} {n : List UInt8} (x : Int), Chain w bs l → Ev.hasN l n → Chain (w.setCell ⟨Ev.slotB bs l n, 1, none⟩ (.int .i64 x)) bs (Ev.setN l n x)
  | [], l, n, x, h, hn => by rw [show l = [] from h] at hn; exact hn.elim
  | b :: bs, l, n, x, ⟨m, v, r, h1, h2, h3, h4⟩, hn => by
    subst h1
    unfold Ev.slotB Ev.setN
    by_cases hx : m = n
    · rw [if_pos hx, if_pos hx]
      exact ⟨m, x, r, rfl, heap_setCell_same w b 1 _ _ _ h2, h3, h4.same (fun c hc => Below.heap_setCell w ⟨b, 1, none⟩ _ c (fun e => h3 (by rw [← show c = b from e]; exact hc)))⟩
    · rw [if_neg hx, if_neg hx]
      have hm := slotB_mem h4 (hn.resolve_left hx)
      exact ⟨m, v, _, rfl, (Below.heap_setCell w ⟨_, 1, none⟩ _ b (fun e => h3 (by rw [show b = Ev.slotB bs r n from e]; exact hm))).trans h2, h3, h4.put x (hn.resolve_left hx)⟩
set_option maxHeartbeats 1600000 in
/-- (*slot).find -/
theorem evFind (l : Ev.Nms) (bs : List Nat) (nm : List UInt8) (w : World) (h : Chain w bs l) (hn : Ev.hasN l nm) :
    Calls Tryd.prog 121 #[headP bs, .string ⟨(nm).toArray⟩] w fun r w' => r = .returned (.pointer (some ⟨Ev.slotB bs l nm, 0, none⟩)) ∧ w' = w := by
  obtain ⟨R, hR⟩ : ∃ R, Ev.slotB bs l nm = R := ⟨_, rfl⟩
  rw [hR]
  have HS := Lib.hid h
  have HN := Lib.hid hn
  have HR := Lib.hid hR
  clear h hn hR
  go_enter Tryd.func121, Tryd.ntmps121
  go_upto_region 1 with fail
  go_loopg [0] l.length (fun gg s0 wr => wr = w ∧ ∃ (cs : List Nat) (r : Ev.Nms), r.length ≤ gg ∧ s0 = headP cs ∧ Hid (Chain w cs r) ∧ Hid (Ev.hasN r nm) ∧ Hid (Ev.slotB cs r nm = R))
  case atStart => exact ⟨rfl, bs, l, Nat.le_refl _, rfl, HS, HN, HR⟩
  case round =>
  obtain ⟨rfl, cs, r, hg, rfl, HC, HM, HQ⟩ := hrel
  match cs, HC, HQ with
  | [], HC, HQ => rw [show r = [] from HC.out] at HM; exact HM.out.elim
  | b :: cs, HC, HQ =>
  obtain ⟨m, v, r', h1, h2, h3, h4⟩ := HC.out
  subst h1
  have c0 : wr.cell? ⟨b, 0, none⟩ = some (.string ⟨m.toArray⟩) := cell_of_block h2 0
  have c2 : wr.cell? ⟨b, 2, none⟩ = some (headP cs) := cell_of_block h2 2
  have H4 := Lib.hid h4
  clear h2 h3 h4 HC
  unfold headP
  by_cases hm : m = nm
  case pos =>
    have HX := Lib.hid (show b = R by have h := HQ.out; unfold Ev.slotB at h; rw [if_pos hm] at h; exact h)
    subst hm
    go_wp2_with fail
    go_ret
    exact ⟨by rw [HX.out]; rfl, rfl⟩
  case neg =>
    have gm : (m == nm) = false := beq_eq_false_iff_ne.2 hm
    have HX := Lib.hid (show Ev.slotB cs r' nm = R by have h := HQ.out; unfold Ev.slotB at h; rw [if_neg hm] at h; exact h)
    have HY := Lib.hid (show Ev.hasN r' nm from HM.out.resolve_left hm)
    clear hm HQ HM
    simp only [List.length_cons] at hg
    go_wp2_with fail
    go_roundg (r'.length)
    case measure => omega
    case rel => exact ⟨rfl, cs, r', Nat.le_refl _, rfl, H4, HY, HX⟩
end Go.Proofs.YtpbflgemhcaooaaDoor
/- eval: the teller in memory; an array's place. -/
namespace Ev
def trapE : Option (Option Int) → Bool
  | some none => true
  | _ => false
def resE : Option (Option Int) → Int
  | some (some v) => v
  | _ => 0
theorem arrI_at {A : List Par} {n : List UInt8} {k : Nat} {p : Par} (hk : A[k]? = some p) (hp : p.name = n) (hb : ∀ j q, j < k → A[j]? = some q → q.name ≠ n) : arrI A n = k := by
  obtain ⟨hlt, e⟩ := List.getElem?_eq_some_iff.1 hk
  unfold arrI
  rw [List.findIdx_eq hlt]
  refine ⟨by rw [e]; simpa using hp, fun j hj => ?_⟩
  have := hb j _ hj (List.getElem?_eq_getElem (by omega))
  simpa using this
end Ev
namespace Go.Proofs.YtpbflgemhcaooaaDoor
open Go.RowKit
set_option linter.unusedSimpArgs false
set_option linter.unusedVariables false
/-- the teller's block; its arrays' blocks are lo .. hi -/
structure EvM (w : World) (tb fb lo hi : Nat) (va v2 : Value) (vs : List Value) (A : List Ev.Par) (a : Ev.Ars) (e : Option (Option Int)) : Prop where
  t : w.heap[tb]? = some (.cells #[.pointer (some ⟨fb, 0, none⟩), va, .bool e.isSome, .bool (Ev.trapE e), .int .i64 (Ev.resE e)] 154 (0, 0))
  f : w.cell? ⟨fb, 1, none⟩ = some v2
  fl : fb < lo
  ll : lo ≤ w.heap.size
  ar : RPars w v2 A
  ak : inK (fun k => k < lo) v2
  arrs : Arrs w lo va a vs
  hio : ∀ b, va.ownBlock = some b → b < hi
  his : ∀ (k : Nat) u b, vs[k]? = some u → u.ownBlock = some b → b < hi
  le : lo ≤ hi
  tl : hi ≤ tb
  len : a.length = A.length
theorem ownsRow_same {w w' : World} {lo size n : Nat} {T : TypeId} {v : Value} {xs : List Value} (h : w.ownsRow lo T size v n xs) (hk : ∀ g, v.ownBlock = some g → w'.heap[g]? = w.heap[g]?) : w'.ownsRow lo T size v n xs := by
  refine ⟨h.1, ?_⟩
  rcases h.2 with hn | ⟨g, cap, cur, rfl, hb, hg, rest⟩
  · exact .inl hn
  · exact .inr ⟨g, cap, cur, rfl, hb, (hk g rfl).trans hg, rest⟩
section
variable {w w' : World} {tb fb lo hi : Nat} {va v2 : Value} {vs : List Value} {A : List Ev.Par} {a : Ev.Ars} {e : Option (Option Int)}
theorem EvM.lt (h : EvM w tb fb lo hi va v2 vs A a e) : tb < w.heap.size := (Array.getElem?_eq_some_iff.1 h.t).1
theorem EvM.keep (h : EvM w tb fb lo hi va v2 vs A a e) (hs : w.heap.size ≤ w'.heap.size) (hk : ∀ k, k < hi ∨ k = tb → w'.heap[k]? = w.heap[k]?) : EvM w' tb fb lo hi va v2 vs A a e := by
  have hle := h.le
  refine ⟨(hk tb (.inr rfl)).trans h.t, ?_, h.fl, Nat.le_trans h.ll hs, ?_, h.ak, ⟨ownsRow_same h.arrs.outer (fun g hg => hk g (.inl (h.hio g hg))), h.arrs.len, fun k u x hu hx => ownsRow_same (h.arrs.row k u x hu hx) (fun g hg => hk g (.inl (h.his k u g hu hg))), h.arrs.apart, h.arrs.out⟩, h.hio, h.his, h.le, h.tl, h.len⟩
  · have hf := h.f
    unfold World.cell? at hf ⊢
    dsimp only at hf ⊢
    rw [hk fb (.inl (Nat.lt_of_lt_of_le h.fl h.le))]
    exact hf
  · exact SL.keep h.ar h.ak hs (fun k hk' _ => hk k (.inl (Nat.lt_of_lt_of_le hk' h.le)))
theorem EvM.on (h : EvM w tb fb lo hi va v2 vs A a e) (hb : Below w.heap.size w w') : EvM w' tb fb lo hi va v2 vs A a e :=
  h.keep hb.size (fun k hk => hb.block k (by have := h.lt; have := h.tl; omega))
theorem EvM.sfr {S : Nat → Prop} (h : EvM w tb fb lo hi va v2 vs A a e) (hF : SFr S w w') (hS : ∀ k, k < hi ∨ k = tb → ¬ S k) : EvM w' tb fb lo hi va v2 vs A a e :=
  h.keep hF.size (fun k hk => hF.block k (by have := h.lt; have := h.tl; omega) (hS k hk))
theorem EvM.cell (h : EvM w tb fb lo hi va v2 vs A a e) (j : Nat) : w.cell? ⟨tb, j, none⟩ = #[.pointer (some ⟨fb, 0, none⟩), va, .bool e.isSome, .bool (Ev.trapE e), .int .i64 (Ev.resE e)][j]? := cell_of_block h.t j
theorem EvM.free (h : EvM w tb fb lo hi va v2 vs A a e) (j : Nat) : w.frozen? ⟨tb, j, none⟩ = false := by
  unfold World.frozen?
  rw [h.t]
  simp
/-- the teller's own cells are set -/
theorem EvM.tset (h : EvM w tb fb lo hi va v2 vs A a e) (e' : Option (Option Int)) (hs : w'.heap.size = w.heap.size) (hk : ∀ k, k ≠ tb → w'.heap[k]? = w.heap[k]?)
    (ht : w'.heap[tb]? = some (.cells #[.pointer (some ⟨fb, 0, none⟩), va, .bool e'.isSome, .bool (Ev.trapE e'), .int .i64 (Ev.resE e')] 154 (0, 0))) : EvM w' tb fb lo hi va v2 vs A a e' := by
  have hle := h.le
  have htl := h.tl
  refine ⟨ht, ?_, h.fl, by rw [hs]; exact h.ll, ?_, h.ak, ⟨ownsRow_same h.arrs.outer (fun g hg => hk g (by have := h.hio g hg; omega)), h.arrs.len, fun k u x hu hx => ownsRow_same (h.arrs.row k u x hu hx) (fun g hg => hk g (by have := h.his k u g hu hg; omega)), h.arrs.apart, h.arrs.out⟩, h.hio, h.his, h.le, h.tl, h.len⟩
  · have hf := h.f
    unfold World.cell? at hf ⊢
    dsimp only at hf ⊢
    rw [hk fb (by have := h.fl; omega)]
    exact hf
  · exact SL.keep h.ar h.ak (Nat.le_of_eq hs.symm) (fun k hk' _ => hk k (by omega))
theorem EvM.trap (h : EvM w tb fb lo hi va v2 vs A a none) : EvM ((w.setCell ⟨tb, 2, none⟩ (.bool true)).setCell ⟨tb, 3, none⟩ (.bool true)) tb fb lo hi va v2 vs A a (some none) :=
  h.tset (some none) (by simp) (fun k hk => (Below.heap_setCell _ ⟨tb, 3, none⟩ _ k hk).trans (Below.heap_setCell _ ⟨tb, 2, none⟩ _ k hk)) (heap_setCell_same _ tb 3 _ _ _ (heap_setCell_same _ tb 2 _ _ _ h.t))
theorem EvM.ret (h : EvM w tb fb lo hi va v2 vs A a none) (v : Int) : EvM ((w.setCell ⟨tb, 2, none⟩ (.bool true)).setCell ⟨tb, 4, none⟩ (.int .i64 v)) tb fb lo hi va v2 vs A a (some (some v)) :=
  h.tset (some (some v)) (by simp) (fun k hk => (Below.heap_setCell _ ⟨tb, 4, none⟩ _ k hk).trans (Below.heap_setCell _ ⟨tb, 2, none⟩ _ k hk)) (heap_setCell_same _ tb 4 _ _ _ (heap_setCell_same _ tb 2 _ _ _ h.t))
/-- a word of an array is set -/
theorem EvM.setA (h : EvM w tb fb lo hi va v2 vs A a e) {k g : Nat} {x : List Int} {ca : Nat} (hk : a[k]? = some x) (hu : vs[k]? = some (.slice (some ⟨g, 0, none⟩) x.length ca)) (j : Nat) (y : Int) :
    EvM (w.setCell ⟨g, j, none⟩ (.int .i64 y)) tb fb lo hi va v2 vs A (a.set k (x.set j y)) e := by
  have hr := h.arrs.row k _ x hu hk
  obtain ⟨h1, h2⟩ := hr.stored j (.int .i64 y)
  have hgb := (hr.lt g rfl).1
  have hgh := h.his k _ g hu rfl
  have hle := h.le
  have htl := h.tl
  have hfl := h.fl
  have hne : ∀ i, i ≠ g → (w.setCell ⟨g, j, none⟩ (.int .i64 y)).heap[i]? = w.heap[i]? := fun i hi => Below.heap_setCell w ⟨g, j, none⟩ _ i hi
  refine ⟨(hne tb (by omega)).trans h.t, ?_, h.fl, by simpa using h.ll, ?_, h.ak, ⟨ownsRow_setCell_other h.arrs.outer (h.arrs.out k _ g hu rfl) _, by simpa using h.arrs.len, fun k' u b hu' hb => ?_, h.arrs.apart, h.arrs.out⟩, h.hio, h.his, h.le, h.tl, by simpa using h.len⟩
  · have hf := h.f
    unfold World.cell? at hf ⊢
    dsimp only at hf ⊢
    rw [hne fb (by omega)]
    exact hf
  · exact SL.keep h.ar h.ak (by simp) (fun i hi _ => hne i (by omega))
  · by_cases hkk : k' = k
    · subst hkk
      rw [hu] at hu'
      injection hu' with hu'
      subst hu'
      have hb' : b = x.set j y := by
        simp only [List.getElem?_set] at hb
        split at hb
        · split at hb
          · exact (Option.some.inj hb).symm
          · cases hb
        · rename_i hne; exact absurd trivial hne
      subst hb'
      rw [List.length_set, map_set_int]
      exact h1
    · have hb' : a[k']? = some b := by
        simp only [List.getElem?_set] at hb
        rw [if_neg (fun e => hkk e.symm)] at hb
        exact hb
      refine ownsRow_setCell_other (h.arrs.row k' u b hu' hb') ?_ _
      intro e
      exact hkk (h.arrs.apart k' k u _ g hu' hu e rfl)
end
theorem evEq (p : Ev.Par) (nm : List UInt8) (B : Nat) (w : World) (hB : B < w.heap.size) (hc : w.cell? ⟨B, 0, none⟩ = some (.string ⟨(nm).toArray⟩)) :
    Calls Tryd.prog 141 #[parV p, .pointer (some ⟨B, 0, none⟩)] w fun r w' => r = .returned (.bool (p.name == nm)) ∧ Below w.heap.size w w' := by
  unfold parV
  have hne : B ≠ w.heap.size := by omega
  cases h : p.name == nm with
  | true =>
    obtain rfl : p.name = nm := by simpa using h
    go_enter Tryd.func141, Tryd.ntmps141
    go_wp2
    go_ret
    exact ⟨by first | rfl | (simp [h]), by (repeat' first | with_reducible (first | exact Below.refl _ _ | assumption | refine Below.alloc ?_ ?_ _ | refine below_drewN ?_ _ | refine Below.drew ?_ | refine Below.setCell ?_ ?_ _ | refine Below.trans ?_ (Below.mono (by with_reducible assumption) ?_)) | go_size)⟩
  | false =>
    go_enter Tryd.func141, Tryd.ntmps141
    go_wp2
    go_ret
    exact ⟨by first | rfl | (simp [h]), by (repeat' first | with_reducible (first | exact Below.refl _ _ | assumption | refine Below.alloc ?_ ?_ _ | refine below_drewN ?_ _ | refine Below.drew ?_ | refine Below.setCell ?_ ?_ _ | refine Below.trans ?_ (Below.mono (by with_reducible assumption) ?_)) | go_size)⟩
set_option maxRecDepth 4000 in
set_option maxHeartbeats 3200000 in
theorem evIdx (A : List Ev.Par) (v2 : Value) (nm : List UInt8) (B : Nat) (w : World) (h : RPars w v2 A) (hB : B < w.heap.size) (hc : w.cell? ⟨B, 0, none⟩ = some (.string ⟨(nm).toArray⟩)) (hf : Ev.arrI A nm < A.length) :
    Calls Tryd.prog 126 #[v2, .func (.func 141) #[] #[.pointer (some ⟨B, 0, none⟩)]] w fun r w' => r = .returned (.int .i64 ((Ev.arrI A nm : Nat) : Int)) ∧ Below w.heap.size w w' := by
  obtain ⟨R, hR⟩ : ∃ R, Ev.arrI A nm = R := ⟨_, rfl⟩
  rw [hR] at hf ⊢
  obtain ⟨a, c, rfl, _, hcm⟩ := SL.form h
  unfold maxLen at hcm
  have HH := Lib.hid h
  have HR := Lib.hid hR
  have HC := Lib.hid hc
  clear h hR hc
  go_enter Tryd.func126, Tryd.ntmps126
  go_upto_region 2 with fail
  go_loopw [8] (fun ii wr => ∃ i : Nat, i ≤ R ∧ ii = .int .i64 (i : Int) ∧ Hid (∀ j q, j < i → A[j]? = some q → q.name ≠ nm) ∧ Below w.heap.size w wr) (fun ii _ => A.length - (intOf ii).toNat)
  case atStart => exact ⟨0, by omega, rfl, Lib.hid (fun j q hj => absurd hj (Nat.not_lt_zero _)), by (repeat' first | with_reducible (first | exact Below.refl _ _ | assumption | refine Below.alloc ?_ ?_ _ | refine below_drewN ?_ _ | refine Below.drew ?_ | refine Below.setCell ?_ ?_ _ | refine Below.trans ?_ (Below.mono (by with_reducible assumption) ?_)) | go_size)⟩
  case round =>
  obtain ⟨i, hi, rfl, HN, hbr⟩ := hrel
  have hlt : i < A.length := by omega
  obtain ⟨p, hp⟩ : ∃ p, A[i]? = some p := ⟨_, List.getElem?_eq_getElem hlt⟩
  obtain ⟨ba, oa, rfl, hba, hpa⟩ : ∃ ba oa, a = some ⟨ba, oa, none⟩ ∧ ba < w.heap.size ∧ ParsAt w ba oa A := by
    rcases (RPars.at_ HH.out).2 with h | h
    · rw [h] at hlt; simp at hlt
    · exact h
  obtain ⟨p0, p1, p2⟩ := hpa i p hp
  replace p0 := (hbr.cell (p := ⟨ba, oa + i * 3, none⟩) hba).trans p0
  replace p1 := (hbr.cell (p := ⟨ba, oa + i * 3 + 1, none⟩) hba).trans p1
  replace p2 := (hbr.cell (p := ⟨ba, oa + i * 3 + 2, none⟩) hba).trans p2
  have zb : ba < wr.heap.size := Nat.lt_of_lt_of_le hba hbr.size
  have CE := Lib.hid (evEq p nm B wr (Nat.lt_of_lt_of_le hB hbr.size) ((hbr.cell (p := ⟨B, 0, none⟩) hB).trans HC.out))
  unfold parV at CE
  have HP := Lib.hid hp
  clear hp hpa
  cases hq : p.name == nm with
  | true =>
    have HX := Lib.hid (show i = R by rw [← HR.out]; exact (Ev.arrI_at HP.out (by simpa using hq) HN.out).symm)
    rw [hq] at CE
    clear hq
    go_wp2_with (go_at_call 141; refine CE.out.mono ?_; rintro r w5 ⟨rfl, hb5⟩)
    go_ret
    exact ⟨by rw [← HX.out]; rfl, hbr.trans (hb5.mono hbr.size)⟩
  | false =>
    have HX := Lib.hid (show i ≠ R from fun e => by
      have h1 : Ev.arrI A nm = i := HR.out.trans e.symm
      unfold Ev.arrI at h1
      have h2 := List.findIdx_getElem (xs := A) (p := fun p => p.name == nm) (w := by rw [h1]; exact hlt)
      have h3 := HP.out
      rw [List.getElem?_eq_getElem hlt] at h3
      injection h3 with h3
      simp only [h1, h3] at h2
      rw [hq] at h2; cases h2)
    have HY := Lib.hid (show ∀ j q, j < i + 1 → A[j]? = some q → q.name ≠ nm from fun j q hj hjq => by
      by_cases e : j = i
      · subst e
        rw [HP.out] at hjq
        injection hjq with hjq
        subst hjq
        simpa using hq
      · exact HN.out j q (by omega) hjq)
    rw [hq] at CE
    clear hq HN
    have hi2 : i + 1 ≤ R := by have := HX.out; omega
    clear HX
    go_wp2_with (go_at_call 141; refine CE.out.mono ?_; rintro r w5 ⟨rfl, hb5⟩)
    go_roundw
    case rel => exact ⟨i + 1, hi2, by go_num, HY, hbr.trans (hb5.mono hbr.size)⟩
    case measure => simp [intOf]; omega
set_option maxRecDepth 4000 in
set_option maxHeartbeats 1600000 in
/-- (*teller).array -/
theorem evArr {tb fb lo hi : Nat} {va v2 : Value} {vs : List Value} {A : List Ev.Par} {a : Ev.Ars} {e : Option (Option Int)} (nm : List UInt8) (w : World) (h : EvM w tb fb lo hi va v2 vs A a e) (hf : Ev.arrI A nm < A.length) :
    Calls Tryd.prog 122 #[.pointer (some ⟨tb, 0, none⟩), .string ⟨(nm).toArray⟩] w fun r w' => r = .returned (.int .i64 ((Ev.arrI A nm : Nat) : Int)) ∧ Below w.heap.size w w' := by
  have c0 : w.cell? ⟨tb, 0, none⟩ = some (.pointer (some ⟨fb, 0, none⟩)) := h.cell 0
  have c1 := h.f
  have zt := h.lt
  have zf : fb < w.heap.size := Nat.lt_of_lt_of_le h.fl h.ll
  obtain ⟨x, c, rfl, _, _⟩ := SL.form h.ar
  have bA : Below w.heap.size w (w.alloc (.cells #[.string ⟨(nm).toArray⟩] 9)) := (Below.refl _ _).alloc (Nat.le_refl _) _
  have CI := Lib.hid (evIdx A (.slice x A.length c) nm w.heap.size _ (h.ar.on bA) (by simp) (by simp) hf)
  generalize Ev.arrI A nm = R at *
  clear h
  go_enter Tryd.func122, Tryd.ntmps122
  go_wp2_with (go_at_call 126; refine CI.out.mono ?_; rintro r w5 ⟨rfl, hb5⟩)
  go_ret
  exact ⟨rfl, bA.trans (hb5.mono bA.size)⟩
set_option maxRecDepth 4000 in
set_option maxHeartbeats 1600000 in
/-- (*teller).place: there is such a place -/
theorem evPlace {tb fb lo hi : Nat} {va v2 : Value} {vs : List Value} {A : List Ev.Par} {a : Ev.Ars} (k : Nat) (x : List Int) (n : Int) (w : World) (h : EvM w tb fb lo hi va v2 vs A a none) (hk : a[k]? = some x) :
    Calls Tryd.prog 123 #[.pointer (some ⟨tb, 0, none⟩), .int .i64 (k : Int), .int .i64 n] w fun r w' => r = .returned (.bool (decide (n < (x.length : Int)))) ∧ SFr (fun j => j = tb) w w' ∧ EvM w' tb fb lo hi va v2 vs A a (if n < (x.length : Int) then none else some none) := by
  obtain ⟨bo, co, X, ca, hva, h1, h2, h3, h4, h5, h6, h7, _⟩ := h.arrs.at_ hk
  have c1 : w.cell? ⟨tb, 1, none⟩ = some va := h.cell 1
  have c2 : w.cell? ⟨tb, 2, none⟩ = some (.bool false) := h.cell 2
  have c3 : w.cell? ⟨tb, 3, none⟩ = some (.bool false) := h.cell 3
  have zt := h.lt
  have f2 := h.free 2
  have f3 := h.free 3
  have HH := Lib.hid h
  rw [hva] at c1
  clear h hva h1 h5 h7
  go_enter Tryd.func123, Tryd.ntmps123
  by_cases hn : n < (x.length : Int)
  case pos =>
    have g0 : decide (n < (x.length : Int)) = true := decide_eq_true hn
    rw [if_pos hn, g0]
    clear hn
    go_wp2_with fail
    go_ret
    exact ⟨rfl, SFr.refl _ _, HH.out⟩
  case neg =>
    have g0 : decide (n < (x.length : Int)) = false := decide_eq_false hn
    rw [if_neg hn, g0]
    clear hn
    go_wp2_with fail
    go_ret
    exact ⟨rfl, (SFr.put (S := fun j => j = tb) w tb 2 _ rfl).trans (SFr.put (S := fun j => j = tb) _ tb 3 _ rfl) (fun _ _ h => h), HH.out.trap⟩
end Go.Proofs.YtpbflgemhcaooaaDoor
