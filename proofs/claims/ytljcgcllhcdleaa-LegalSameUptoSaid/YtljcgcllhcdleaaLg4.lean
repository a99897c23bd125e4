import Derived.Test.YtljcgcllhcdleaaLg2
import Derived.Deep.RegionHeld3
import Derived.RegionCalls
import Derived.Outline
import Derived.Test.YtljcgcllhcdleaaLg3
/- Chapter 7, the reference: what an instruction reads, by a text. -/
namespace Go.Proofs.Ytljcgcllhcdleaa
open Go.RowKit
set_option linter.unusedSimpArgs false
set_option linter.unusedVariables false
/-- which of A, B, C, D an op reads, and whether it makes D -/
def form (op : Int) : ByteArray :=
  if 1 ≤ op ∧ op ≤ 12 then ⟨#[65, 66, 109]⟩ else if op = 13 then ⟨#[65, 66, 67, 109]⟩ else if op = 14 then ⟨#[109]⟩
  else if op = 15 ∨ op = 16 then ⟨#[65, 109]⟩ else if op = 17 then ⟨#[65, 68]⟩ else if op = 19 ∨ op = 20 then ⟨#[65]⟩ else ⟨#[]⟩
theorem form_cases (op : Int) : ((1 ≤ op ∧ op ≤ 12) ∧ form op = ⟨#[65, 66, 109]⟩) ∨ (op = 13 ∧ form op = ⟨#[65, 66, 67, 109]⟩) ∨ (op = 14 ∧ form op = ⟨#[109]⟩) ∨ ((op = 15 ∨ op = 16) ∧ form op = ⟨#[65, 109]⟩) ∨
    (op = 17 ∧ form op = ⟨#[65, 68]⟩) ∨ ((op = 19 ∨ op = 20) ∧ form op = ⟨#[65]⟩) ∨ ((op < 1 ∨ op = 18 ∨ 20 < op) ∧ form op = ⟨#[]⟩) := by
  unfold form
  by_cases h1 : 1 ≤ op ∧ op ≤ 12
  · exact .inl ⟨h1, if_pos h1⟩
  · rw [if_neg h1]
    by_cases h2 : op = 13
    · exact .inr (.inl ⟨h2, if_pos h2⟩)
    · rw [if_neg h2]
      by_cases h3 : op = 14
      · exact .inr (.inr (.inl ⟨h3, if_pos h3⟩))
      · rw [if_neg h3]
        by_cases h4 : op = 15 ∨ op = 16
        · exact .inr (.inr (.inr (.inl ⟨h4, if_pos h4⟩)))
        · rw [if_neg h4]
          by_cases h5 : op = 17
          · exact .inr (.inr (.inr (.inr (.inl ⟨h5, if_pos h5⟩))))
          · rw [if_neg h5]
            by_cases h6 : op = 19 ∨ op = 20
            · exact .inr (.inr (.inr (.inr (.inr (.inl ⟨h6, if_pos h6⟩)))))
            · exact .inr (.inr (.inr (.inr (.inr (.inr ⟨by omega, if_neg h6⟩)))))

set_option maxHeartbeats 800000 in
theorem form_any (op : Int) (w : World) :
    Calls Try.prog 64 #[.int .i64 op] w fun e w' => e = .returned (.string (form op)) ∧ Below w.heap.size w w' := by
  have H := Lib.hid (form_cases op)
  generalize form op = s at *
  go_enter Try.func64, Try.ntmps64
  go_wp2
  all_goals
    go_ret
    (try simp only [beq_iff_eq, beq_eq_false_iff_ne] at *)
    refine ⟨?_, by (repeat' first | with_reducible (first | exact Below.refl _ _ | assumption | refine Below.alloc ?_ ?_ _ | refine below_drewN ?_ _ | refine Below.drew ?_ | refine Below.setCell ?_ ?_ _ | refine Below.trans ?_ (Below.mono (by with_reducible assumption) ?_)) | go_size)⟩
    rcases H.out with ⟨h, rfl⟩ | ⟨h, rfl⟩ | ⟨h, rfl⟩ | ⟨h, rfl⟩ | ⟨h, rfl⟩ | ⟨h, rfl⟩ | ⟨h, rfl⟩ <;> first | rfl | (exfalso; omega)

set_option maxHeartbeats 800000 in
theorem refMakes_any (i : Ev.Instr) (w : World) :
    Calls Try.prog 30 #[.agg #[.int .i64 i.op, .int .i64 i.d, .int .i64 i.a, .int .i64 i.b, .int .i64 i.c, .int .i64 i.imm]] w fun e w' => e = .returned (.bool (Ev.makes i)) ∧ Below w.heap.size w w' := by
  have hm : ∀ b, ((1 ≤ i.op ∧ i.op ≤ 16) ↔ b = true) → Ev.makes i = b := fun b h => by
    unfold Ev.makes
    cases b <;> simp at h ⊢ <;> omega
  generalize Ev.makes i = mk at *
  have HM := Lib.hid hm
  clear hm
  rcases form_cases i.op with ⟨h, hf⟩ | ⟨h, hf⟩ | ⟨h, hf⟩ | ⟨h, hf⟩ | ⟨h, hf⟩ | ⟨h, hf⟩ | ⟨h, hf⟩
  all_goals
    have hc := form_any i.op
    rw [hf] at hc
    have HC := Lib.hid hc
    have HH := Lib.hid h
    clear hc hf h
    go_enter Try.func30, Try.ntmps30
    go_wp2_with fail
    refine (HC.out _).mono ?_
    rintro e w1 ⟨rfl, hb1⟩
    obtain ⟨kc1, kf1, s1⟩ := bfacts hb1
    (try simp only [World.size_alloc, World.size_setCell, World.size_drew, World.heap_drewN, Nat.add_one_le_iff] at s1)
    (try have z1 : w.heap.size < w1.heap.size := by omega)
    have B1 : Hid (Below w.heap.size w w1) := by (show Below _ _ _); (repeat' first | with_reducible (first | exact Below.refl _ _ | assumption | refine Below.alloc ?_ ?_ _ | refine below_drewN ?_ _ | refine Below.drew ?_ | refine Below.setCell ?_ ?_ _ | refine Below.trans ?_ (Below.mono (by with_reducible assumption) ?_)) | go_size)
    obtain ⟨kd1, kg1, _⟩ := bfacts B1.out
    go_wp2_with fail
    try go_ret
  all_goals
    have h := HH.out
    first
    | (have e := HM.out true (by constructor <;> intro _ <;> first | rfl | omega)
       exact ⟨by rw [e]; rfl, by (repeat' first | with_reducible (first | exact Below.refl _ _ | assumption | refine Below.alloc ?_ ?_ _ | refine below_drewN ?_ _ | refine Below.drew ?_ | refine Below.setCell ?_ ?_ _ | refine Below.trans ?_ (Below.mono (by with_reducible assumption) ?_)) | go_size)⟩)
    | (have e := HM.out false (by constructor <;> intro _ <;> first | (exfalso; omega) | contradiction)
       exact ⟨by rw [e]; rfl, by (repeat' first | with_reducible (first | exact Below.refl _ _ | assumption | refine Below.alloc ?_ ?_ _ | refine below_drewN ?_ _ | refine Below.drew ?_ | refine Below.setCell ?_ ?_ _ | refine Below.trans ?_ (Below.mono (by with_reducible assumption) ?_)) | go_size)⟩)
    | skip
  all_goals trace_state
end Go.Proofs.Ytljcgcllhcdleaa
/- eval.Arrays: a copy of all arrays, each in a row of its own. -/
namespace Go.Proofs.Ytljcgcllhcdleaa
open Go.RowKit
set_option linter.unusedSimpArgs false
set_option linter.unusedVariables false
/-- a slice of slices that reads as lists -/
def RLists (w : World) (B : Nat) (v : Value) (l : List (List Int)) : Prop :=
  ∃ vs : List Value, vs.length = l.length ∧ SL w B 1 v l.length vs ∧ ∀ (k : Nat) u a, vs[k]? = some u → l[k]? = some a → RInts w B u a
theorem RLists.at_ {w w' : World} {B : Nat} {v : Value} {l : List (List Int)} (h : RLists w B v l) (hb : Below w.heap.size w w') (hB : B ≤ w.heap.size) : RLists w' w'.heap.size v l := by
  obtain ⟨vs, h1, h2, h3⟩ := h
  exact ⟨vs, h1, SL.at_ h2 hb hB, fun k u a hu ha => SL.at_ (h3 k u a hu ha) hb hB⟩
/-- arrays of the call's own: the outer row holds vs; each of these has a row of its own, apart from all others -/
structure Arrs (w : World) (lo : Nat) (v : Value) (l : List (List Int)) (vs : List Value) : Prop where
  outer : w.ownsRow lo 42 1 v vs.length vs
  len : vs.length = l.length
  row : ∀ (k : Nat) u a, vs[k]? = some u → l[k]? = some a → w.ownsRow lo 3 1 u a.length (a.map (Value.int .i64))
  apart : ∀ (k k' : Nat) u u' b, vs[k]? = some u → vs[k']? = some u' → u.ownBlock = some b → u'.ownBlock = some b → k = k'
  out : ∀ (k : Nat) u b, vs[k]? = some u → u.ownBlock = some b → v.ownBlock ≠ some b
theorem Arrs.nil_ (w : World) (lo : Nat) : Arrs w lo (.slice none 0 0) [] [] :=
  ⟨World.ownsRow_nil _ _ _ _, rfl, fun k u a h => by simp at h, fun k k' u u' b h => by simp at h, fun k u b h => by simp at h⟩
theorem grown_of_below {w w' : World} (h : Below w.heap.size w w') (row : Option Nat) : w.grownBy w' row := ⟨h.os, h.tape, h.output, h.size, fun k hk _ => h.block k hk⟩
theorem owns_below {w w' : World} {base size n : Nat} {e : TypeId} {v : Value} {xs : List Value} (h : w.ownsRow base e size v n xs) (hb : Below w.heap.size w w') : w'.ownsRow base e size v n xs :=
  h.kept (grown_of_below hb none) (by cases v.ownBlock <;> simp)
theorem Arrs.stays {w w' : World} {lo : Nat} {v : Value} {l : List (List Int)} {vs : List Value} (h : Arrs w lo v l vs) (hb : Below w.heap.size w w') : Arrs w' lo v l vs :=
  ⟨owns_below h.outer hb, h.len, fun k u a hu ha => owns_below (h.row k u a hu ha) hb, h.apart, h.out⟩
/-- one array more -/
theorem Arrs.push {w w1 w2 : World} {lo : Nat} {v v' u : Value} {l : List (List Int)} {vs : List Value} {a : List Int} (h : Arrs w lo v l vs) (hlo : lo ≤ w.heap.size) (hb : Below w.heap.size w w1)
    (hu : w1.ownsRow w.heap.size 3 1 u a.length (a.map (Value.int .i64))) (hg : w1.grownBy w2 v.ownBlock) (hv : w2.ownsRow lo 42 1 v' (vs.length + 1) (vs ++ [u]))
    (hat : v'.ownBlock = v.ownBlock ∨ ∃ q, v'.ownBlock = some q ∧ w1.heap.size ≤ q) : Arrs w2 lo v' (l ++ [a]) (vs ++ [u]) := by
  have split : ∀ (k : Nat) x, (vs ++ [u])[k]? = some x → (k < vs.length ∧ vs[k]? = some x) ∨ (k = vs.length ∧ x = u) := fun k x hx => by
    rcases Nat.lt_or_ge k vs.length with hk | hk
    · rw [List.getElem?_append_left hk] at hx; exact .inl ⟨hk, hx⟩
    · rw [List.getElem?_append_right hk] at hx
      have : k - vs.length = 0 := by
        rcases Nat.eq_zero_or_pos (k - vs.length) with h0 | h0
        · exact h0
        · rw [List.getElem?_eq_none (by simp; omega)] at hx; cases hx
      rw [this] at hx
      exact .inr ⟨by omega, by simpa using hx.symm⟩
  have old : ∀ (k : Nat) x b, vs[k]? = some x → x.ownBlock = some b → b < w.heap.size := fun k x b hx hxb => by
    have hk : k < l.length := by
      have := (List.getElem?_eq_some_iff.1 hx).1
      rw [h.len] at this; exact this
    exact ((h.row k x _ hx (List.getElem?_eq_getElem hk)).lt b hxb).2
  refine ⟨by simpa using hv, by simp [h.len], fun k x y hx hy => ?_, fun k k' x x' b hx hx' hxb hxb' => ?_, fun k x b hx hxb => ?_⟩
  · rcases split k x hx with ⟨hk, hx⟩ | ⟨hk, rfl⟩
    · rw [List.getElem?_append_left (by rw [← h.len]; exact hk)] at hy
      refine (owns_below (h.row k x y hx hy) hb).kept hg ?_
      cases hxb : x.ownBlock with
      | none => exact .inl rfl
      | some b => exact .inr (fun e => h.out k x b hx hxb e.symm)
    · subst hk
      rw [h.len, List.getElem?_append_right (Nat.le_refl _)] at hy
      simp at hy
      subst hy
      have := hu.kept hg (by
        cases hxb : x.ownBlock with
        | none => exact .inl rfl
        | some b =>
          refine .inr fun e => ?_
          have h1 := (hu.lt b hxb).1
          have h2 := (h.outer.lt b e.symm).2
          omega)
      refine ⟨this.1, ?_⟩
      rcases this.2 with hn | ⟨g, cap, cur, e1, e2, e3⟩
      · exact .inl hn
      · exact .inr ⟨g, cap, cur, e1, by omega, e3⟩
  · rcases split k x hx with ⟨hk, hx1⟩ | ⟨hk, e1⟩ <;> rcases split k' x' hx' with ⟨hk', hx2⟩ | ⟨hk', e2⟩
    · exact h.apart k k' x x' b hx1 hx2 hxb hxb'
    · have h1 := old k x b hx1 hxb
      have h2 := (hu.lt b (e2 ▸ hxb')).1
      omega
    · have h1 := old k' x' b hx2 hxb'
      have h2 := (hu.lt b (e1 ▸ hxb)).1
      omega
    · omega
  · rcases split k x hx with ⟨hk, hx⟩ | ⟨hk, rfl⟩
    · rcases hat with e | ⟨q, e, hq⟩
      · rw [e]; exact h.out k x b hx hxb
      · rw [e]
        intro e2
        injection e2 with e2
        have h1 := old k x b hx hxb
        have := hb.size
        omega
    · have h1 := hu.lt b hxb
      rcases hat with e | ⟨q, e, hq⟩
      · rw [e]
        intro e2
        have := (h.outer.lt b e2).2
        omega
      · rw [e]
        intro e2
        injection e2 with e2
        omega
theorem slice_info : (Try.prog.info? 42).map (fun i => (i.zero, i.size, i.bytes)) = some (some (.slice none 0 0), 1, 24) := by kernel_rfl

set_option maxRecDepth 4000 in
set_option maxHeartbeats 1600000 in
theorem arrays_any (l : List (List Int)) (v : Value) (w : World) (h : RLists w w.heap.size v l) (hl : l.length ≤ 1073741824) (hls : ∀ a ∈ l, a.length ≤ 1073741824) :
    Calls Try.prog 71 #[v] w fun e w' => ∃ v' vs, e = .returned v' ∧ Arrs w' w.heap.size v' l vs ∧ Below w.heap.size w w' := by
  obtain ⟨vs, hlen, hsl, hel⟩ := h
  obtain ⟨i0, hi0, hz0, hz1, hz2⟩ := info_parts slice_info
  have II := Lib.hid (⟨hi0, hz0, hz1, hz2⟩ : _ ∧ _ ∧ _ ∧ _)
  have HL := Lib.hid hlen
  have HE := Lib.hid hel
  have HS := Lib.hid hsl
  have HM := Lib.hid hls
  obtain ⟨A, c, rfl, hc1, hc2⟩ := SL.form hsl
  unfold maxLen at hc2
  clear hi0 hz0 hz1 hz2 hlen hel hsl hls
  go_enter Try.func71, Try.ntmps71
  go_wp2_with fail
  go_loopw [3, 8] (fun o u wr => ∃ j : Nat, j ≤ l.length ∧ u = .int .i64 j ∧ Hid (∃ us, Arrs wr w.heap.size o (l.take j) us) ∧ Below w.heap.size w wr) (fun _ u _ => l.length - (intOf u).toNat)
  case atStart => exact ⟨0, by omega, rfl, ⟨[], Arrs.nil_ _ _⟩, by (repeat' first | with_reducible (first | exact Below.refl _ _ | assumption | refine Below.alloc ?_ ?_ _ | refine below_drewN ?_ _ | refine Below.drew ?_ | refine Below.setCell ?_ ?_ _ | refine Below.trans ?_ (Below.mono (by with_reducible assumption) ?_)) | go_size)⟩
  case round =>
    obtain ⟨j, hj, rfl, HA, hB⟩ := hrel
    obtain ⟨kd, kg, sd⟩ := bfacts hB
    by_cases hlt : j < l.length
    · have hu : ∃ u, vs[j]? = some u := ⟨vs[j]'(by rw [HL.out]; exact hlt), List.getElem?_eq_getElem _⟩
      obtain ⟨u, hu⟩ := hu
      obtain ⟨b, o, c', hv, hbw, _, _, hcell⟩ := SL.row HS.out (by omega : 0 < l.length)
      injection hv with hA _ hcr
      subst hA hcr
      have hc := hcell j u hu
      have hR := HE.out j u l[j] hu (List.getElem?_eq_getElem hlt)
      have HR := Lib.hid hR
      have ha := HM.out l[j] (List.getElem_mem hlt)
      have HT := Lib.hid (show l.take (j + 1) = l.take j ++ [l[j]] from by rw [List.take_succ_eq_append_getElem hlt])
      clear hu hcell hR
      generalize l[j] = a at *
      go_wp2_with fail
      refine (cloneInts_any a u _ (SL.at_ HR.out (by (repeat' first | with_reducible (first | exact Below.refl _ _ | assumption | refine Below.alloc ?_ ?_ _ | refine below_drewN ?_ _ | refine Below.drew ?_ | refine Below.setCell ?_ ?_ _ | refine Below.trans ?_ (Below.mono (by with_reducible assumption) ?_)) | go_size)) (Nat.le_refl _)) ha).mono ?_
      rintro e w1 ⟨v1, rfl, hR1, hF1, hO1, hb1⟩
      obtain ⟨kc1, kf1, s1⟩ := bfacts hb1
      (try simp only [World.size_alloc, World.size_setCell, World.size_drew, World.heap_drewN, Nat.add_one_le_iff] at s1)
      (try have z1 : w.heap.size < w1.heap.size := by omega)
      have B1 : Hid (Below w.heap.size w w1) := by (show Below _ _ _); (repeat' first | with_reducible (first | exact Below.refl _ _ | assumption | refine Below.alloc ?_ ?_ _ | refine below_drewN ?_ _ | refine Below.drew ?_ | refine Below.setCell ?_ ?_ _ | refine Below.trans ?_ (Below.mono (by with_reducible assumption) ?_)) | go_size)
      obtain ⟨kd1, kg1, _⟩ := bfacts B1.out
      obtain ⟨us, hus⟩ := HA.out
      obtain ⟨A1, c1, hv1, _, _⟩ := SL.form hR1
      subst hv1
      have HO := Lib.hid hO1
      have HU := Lib.hid hus
      have hul : us.length ≤ 1073741824 := by rw [hus.len, List.length_take]; omega
      have hB1 : Below wr.heap.size wr w1 := by (repeat' first | with_reducible (first | exact Below.refl _ _ | assumption | refine Below.alloc ?_ ?_ _ | refine below_drewN ?_ _ | refine Below.drew ?_ | refine Below.setCell ?_ ?_ _ | refine Below.trans ?_ (Below.mono (by with_reducible assumption) ?_)) | go_size)
      clear hR1 hF1 hO1 hus
      go_wp2_with (at_builtin; refine wpList_append_own_at _ rfl (.tmp 12) (.tmp 15) _ rfl w.heap.size 42 i0 (.slice none 0 0) 1 24 Try.underlying43 II.out.1 II.out.2.1 II.out.2.2.1 II.out.2.2.2 rfl (by decide) _ _ _ rfl ((owns_below HU.out.outer hB1).alloc _) ⟨w1.heap.size, 0, none⟩ 1 1 [.slice A1 a.length c1] rfl rfl (cell_one_new _ _ _) (fun x hx => by simp at hx; subst hx; rfl) (by unfold maxLen; omega) (by omega) (by simp; omega) ?_; intro v2 w2 hown2 hg2 hn2 hat2)
      have hP := HU.out.push hB.size (hB1.alloc hB1.size (.cells #[.slice A1 a.length c1] 42)) (HO.out.alloc _) hg2 hown2 (hat2.imp id fun e => ⟨_, e, by simp⟩)
      rw [← HT.out] at hP
      have hB2 := ((hB.trans (hB1.mono hB.size)).alloc (by omega) (.cells #[.slice A1 a.length c1] 42)).grown hg2 (by simp; omega) (fun q hq => (HU.out.outer.lt q hq).1)
      go_roundw
      case rel => exact ⟨j + 1, by omega, by go_num, ⟨_, hP⟩, hB2⟩
      case measure => simp [intOf]; omega
    · have hje : j = l.length := by omega
      subst hje
      go_wp2_with fail
      go_ret
      obtain ⟨us, hus⟩ := HA.out
      rw [List.take_length] at hus
      exact ⟨_, us, rfl, hus, hB⟩
end Go.Proofs.Ytljcgcllhcdleaa
/- flow.Seen. -/
namespace Go.Proofs.Ytljcgcllhcdleaa
open Go.RowKit
set_option linter.unusedSimpArgs false
set_option linter.unusedVariables false
theorem box_table {w : World} {t : List Int} (ht : t.length = 18) (T : TypeId) : TableAt (w.alloc (.cells (t.map (Value.int .i64)).toArray T)) w.heap.size t :=
  ⟨ht, by simp, fun k hk => by
    have hx : t[k]? = some (t.getD k 0) := by rw [List.getD_eq_getElem?_getD, List.getElem?_eq_getElem (by omega)]; rfl
    unfold World.cell?
    simp only [heap_alloc_new]
    show (t.map (Value.int .i64)).toArray[k]? = _
    rw [List.getElem?_toArray, List.getElem?_map, hx]
    rfl⟩
def tableV (t : List Int) : Value := .agg (t.map (Value.int .i64)).toArray
set_option maxHeartbeats 800000 in
theorem seenPub_any (t : List Int) (i : Ev.Instr) (v : List Int) (al : Bool) (vv : Value) (w : World) (ht : t.length = 18) (hv : RInts w w.heap.size vv v) (hop : 1 ≤ i.op) (hin : SeenIn i v.length (whichOf t i.op al)) :
    Calls Try.prog 39 #[tableV t, .agg #[.int .i64 i.op, .int .i64 i.d, .int .i64 i.a, .int .i64 i.b, .int .i64 i.c, .int .i64 i.imm], vv, .bool al] w fun e w' => ∃ v', e = .returned v' ∧ RInts w' w'.heap.size v' (Ev.seen t i v al) ∧ from_ w.heap.size v' ∧ (∀ b, v'.ownBlock = some b → b < w'.heap.size) ∧ Below w.heap.size w w' := by
  have C := Lib.hid (fun bt w ht hv => seen_any t i v al bt vv w ht hv hop hin)
  have HV := Lib.hid hv
  generalize Ev.seen t i v al = res at *
  clear hv hin
  unfold tableV
  go_enter Try.func39, Try.ntmps39
  go_wp2_with fail
  refine (C.out _ _ ((box_table ht _).stays (by (repeat' first | with_reducible (first | exact Below.refl _ _ | assumption | refine Below.alloc ?_ ?_ _ | refine below_drewN ?_ _ | refine Below.drew ?_ | refine Below.setCell ?_ ?_ _ | refine Below.trans ?_ (Below.mono (by with_reducible assumption) ?_)) | go_size))) (SL.at_ HV.out (by (repeat' first | with_reducible (first | exact Below.refl _ _ | assumption | refine Below.alloc ?_ ?_ _ | refine below_drewN ?_ _ | refine Below.drew ?_ | refine Below.setCell ?_ ?_ _ | refine Below.trans ?_ (Below.mono (by with_reducible assumption) ?_)) | go_size)) (Nat.le_refl _))).mono ?_
  rintro e w1 ⟨v1, rfl, hR, hF, hH, hb1⟩
  obtain ⟨kc1, kf1, s1⟩ := bfacts hb1
  (try simp only [World.size_alloc, World.size_setCell, World.size_drew, World.heap_drewN, Nat.add_one_le_iff] at s1)
  (try have z1 : w.heap.size < w1.heap.size := by omega)
  have B1 : Hid (Below w.heap.size w w1) := by (show Below _ _ _); (repeat' first | with_reducible (first | exact Below.refl _ _ | assumption | refine Below.alloc ?_ ?_ _ | refine below_drewN ?_ _ | refine Below.drew ?_ | refine Below.setCell ?_ ?_ _ | refine Below.trans ?_ (Below.mono (by with_reducible assumption) ?_)) | go_size)
  obtain ⟨kd1, kg1, _⟩ := bfacts B1.out
  go_wp2_with fail
  go_ret
  exact ⟨_, rfl, hR, hF.less (by simp; omega), hH, by (repeat' first | with_reducible (first | exact Below.refl _ _ | assumption | refine Below.alloc ?_ ?_ _ | refine below_drewN ?_ _ | refine Below.drew ?_ | refine Below.setCell ?_ ?_ _ | refine Below.trans ?_ (Below.mono (by with_reducible assumption) ?_)) | go_size)⟩
end Go.Proofs.Ytljcgcllhcdleaa
/- What was seen so far, in a row of the call's own. -/
namespace Go.Proofs.Ytljcgcllhcdleaa
open Go.RowKit
set_option linter.unusedSimpArgs false
set_option linter.unusedVariables false
def leakCells (x : Ev.Leak) (u : Value) : List Value := [.int .i64 x.pc, .int .i64 x.op, u]
def leaksCells : List Ev.Leak → List Value → List Value
  | x :: l, u :: us => leakCells x u ++ leaksCells l us
  | _, _ => []
theorem leaksCells_snoc : ∀ (l : List Ev.Leak) (us : List Value) (x : Ev.Leak) (u : Value), us.length = l.length → leaksCells (l ++ [x]) (us ++ [u]) = leaksCells l us ++ leakCells x u
  | [], [], x, u, _ => by simp [leaksCells]
  | y :: l, v :: us, x, u, h => by
    have := leaksCells_snoc l us x u (by simpa using h)
    simp [leaksCells, this]
  | [], v :: us, x, u, h => by simp at h
  | y :: l, [], x, u, h => by simp at h
theorem leaksCells_length : ∀ (l : List Ev.Leak) (us : List Value), us.length = l.length → (leaksCells l us).length = l.length * 3
  | [], [], _ => rfl
  | y :: l, v :: us, h => by
    have := leaksCells_length l us (by simpa using h)
    simp [leaksCells, leakCells, this]
    omega
  | [], v :: us, h => by simp at h
  | y :: l, [], h => by simp at h
theorem leaksCells_at : ∀ (l : List Ev.Leak) (us : List Value) (k : Nat) (x : Ev.Leak) (u : Value), l[k]? = some x → us[k]? = some u → ∀ j c, (leakCells x u)[j]? = some c → (leaksCells l us)[k * 3 + j]? = some c
  | [], us, k, x, u, h, _, _, _, _ => by simp at h
  | y :: l, [], k, x, u, _, h, _, _, _ => by simp at h
  | y :: l, v :: us, 0, x, u, h1, h2, j, c, hc => by
    simp at h1 h2
    subst h1 h2
    have hj : j < (leakCells y v).length := (List.getElem?_eq_some_iff.1 hc).1
    simp only [leaksCells, Nat.zero_mul, Nat.zero_add]
    rw [List.getElem?_append_left hj]
    exact hc
  | y :: l, v :: us, k + 1, x, u, h1, h2, j, c, hc => by
    have := leaksCells_at l us k x u (by simpa using h1) (by simpa using h2) j c hc
    simp only [leaksCells]
    rw [List.getElem?_append_right (by simp [leakCells]; omega)]
    have e : (k + 1) * 3 + j - (leakCells y v).length = k * 3 + j := by simp [leakCells]; omega
    rw [e]
    exact this
structure Leaks (w : World) (lo : Nat) (v : Value) (l : List Ev.Leak) (us : List Value) : Prop where
  row : w.ownsRow lo 72 3 v l.length (leaksCells l us)
  len : us.length = l.length
  val : ∀ (k : Nat) u x, us[k]? = some u → l[k]? = some x → RInts w w.heap.size u x.vals
  low : ∀ (k : Nat) u, us[k]? = some u → from_ lo u
  out : ∀ (k : Nat) u b, us[k]? = some u → u.ownBlock = some b → v.ownBlock ≠ some b
  hi : ∀ (k : Nat) u b, us[k]? = some u → u.ownBlock = some b → b < w.heap.size
theorem Leaks.nil_ (w : World) (lo : Nat) : Leaks w lo (.slice none 0 0) [] [] :=
  ⟨World.ownsRow_nil _ _ _ _, rfl, fun k u a h => by simp at h, fun k u h => by simp at h, fun k u b h => by simp at h, fun k u b h => by simp at h⟩
theorem Leaks.stays {w w' : World} {lo : Nat} {v : Value} {l : List Ev.Leak} {us : List Value} (h : Leaks w lo v l us) (hb : Below w.heap.size w w') : Leaks w' lo v l us :=
  ⟨owns_below h.row hb, h.len, fun k u x hu hx => SL.at_ (h.val k u x hu hx) hb (Nat.le_refl _), h.low, h.out, fun k u b hu hb' => Nat.lt_of_lt_of_le (h.hi k u b hu hb') hb.size⟩
theorem Leaks.aside {w : World} {lo : Nat} {v : Value} {l : List Ev.Leak} {us : List Value} (h : Leaks w lo v l us) (k o : Nat) (c : Value) (hk : k < lo) : Leaks (w.setCell ⟨k, o, none⟩ c) lo v l us :=
  ⟨ownsRow_setCell_below h.row hk c, h.len, fun j u x hu hx => by
    have := SL.aside (h.val j u x hu hx) (h.low j u hu) k o c hk
    show SL _ _ _ _ _ _
    simpa using this, h.low, h.out, fun j u b hu hb => by simpa using h.hi j u b hu hb⟩
/-- a slice stays as it reads while a row elsewhere grows -/
theorem SL.grown {w w' : World} {size n : Nat} {v : Value} {xs : List Value} {row : Option Nat} (h : SL w w.heap.size size v n xs) (hg : w.grownBy w' row) (hne : ∀ b, v.ownBlock = some b → some b ≠ row) : SL w' w'.heap.size size v n xs := by
  obtain ⟨h1, A, c, rfl, h3, h4, h5, h6⟩ := h
  refine ⟨h1, A, c, rfl, h3, h4, h5, fun hn => ?_⟩
  obtain ⟨b, o, rfl, hlt, hc⟩ := h6 hn
  refine ⟨b, o, rfl, Nat.lt_of_lt_of_le hlt hg.size, fun j u hu => hg.cell (hc j u hu) (hne b rfl)⟩
theorem Leaks.push {w w1 w2 : World} {lo : Nat} {v v' u : Value} {l : List Ev.Leak} {us : List Value} {x : Ev.Leak} (h : Leaks w lo v l us) (hlo : lo ≤ w.heap.size) (hb : Below w.heap.size w w1)
    (hu : RInts w1 w1.heap.size u x.vals) (hf : from_ w.heap.size u) (hfl : ∀ b, u.ownBlock = some b → b < w1.heap.size)
    (hg : w1.grownBy w2 v.ownBlock) (hv : w2.ownsRow lo 72 3 v' (l.length + 1) (leaksCells l us ++ leakCells x u))
    (hat : v'.ownBlock = v.ownBlock ∨ ∃ q, v'.ownBlock = some q ∧ w1.heap.size ≤ q) : Leaks w2 lo v' (l ++ [x]) (us ++ [u]) := by
  have split : ∀ (k : Nat) y, (us ++ [u])[k]? = some y → (k < us.length ∧ us[k]? = some y) ∨ (k = us.length ∧ y = u) := fun k y hx => by
    rcases Nat.lt_or_ge k us.length with hk | hk
    · rw [List.getElem?_append_left hk] at hx; exact .inl ⟨hk, hx⟩
    · rw [List.getElem?_append_right hk] at hx
      have : k - us.length = 0 := by
        rcases Nat.eq_zero_or_pos (k - us.length) with h0 | h0
        · exact h0
        · rw [List.getElem?_eq_none (by simp; omega)] at hx; cases hx
      rw [this] at hx
      exact .inr ⟨by omega, by simpa using hx.symm⟩
  have hub : ∀ b, u.ownBlock = some b → w.heap.size ≤ b := fun b hb' => by
    cases u <;> simp [Value.ownBlock] at hb'
    rename_i a n c
    cases a with
    | none => simp at hb'
    | some a => simp at hb'; subst hb'; exact hf a n c rfl
  refine ⟨by rw [leaksCells_snoc _ _ _ _ h.len]; simpa using hv, by simp [h.len], fun k y z hy hz => ?_, fun k y hy => ?_, fun k y b hy hyb => ?_, fun k y b hy hyb => ?_⟩
  · rcases split k y hy with ⟨hk, hy⟩ | ⟨hk, rfl⟩
    · rw [List.getElem?_append_left (by rw [← h.len]; exact hk)] at hz
      exact SL.grown (SL.at_ (h.val k y z hy hz) hb (Nat.le_refl _)) hg (fun b hyb e => h.out k y b hy hyb e.symm)
    · subst hk
      rw [h.len, List.getElem?_append_right (Nat.le_refl _)] at hz
      simp at hz
      subst hz
      refine SL.grown hu hg (fun b hyb e => ?_)
      have h1 := hub b hyb
      have h2 := (h.row.lt b e.symm).2
      omega
  · rcases split k y hy with ⟨hk, hy⟩ | ⟨hk, rfl⟩
    · exact h.low k y hy
    · exact hf.less hlo
  · rcases split k y hy with ⟨hk, hy⟩ | ⟨hk, rfl⟩
    · rcases hat with e | ⟨q, e, hq⟩
      · rw [e]; exact h.out k y b hy hyb
      · rw [e]
        intro e2
        injection e2 with e2
        have h1 := h.hi k y b hy hyb
        have := hb.size
        omega
    · rcases hat with e | ⟨q, e, hq⟩
      · rw [e]
        intro e2
        have h1 := hub b hyb
        have := (h.row.lt b e2).2
        omega
      · rw [e]
        intro e2
        injection e2 with e2
        have := hfl b hyb
        omega
  · have h1 := hg.size
    have h2 := hb.size
    rcases split k y hy with ⟨hk, hy⟩ | ⟨hk, rfl⟩
    · have := h.hi k y b hy hyb; omega
    · have := hfl b hyb; omega
theorem leak_info : (Try.prog.info? 72).map (fun i => (i.zero, i.size, i.bytes)) = some (some (.agg #[.int .i64 0, .int .i64 0, .slice none 0 0]), 3, 40) := by kernel_rfl
end Go.Proofs.Ytljcgcllhcdleaa
/- Chapter 7, in plain words: right instructions, and one step of a run. -/
namespace Ev
structure Right (f : Flat) : Prop where
  len1 : 1 ≤ f.code.length
  len2 : f.code.length ≤ 12000
  p0 : 0 ≤ f.params
  p1 : f.params ≤ f.secret.length
  at_ : ∀ (k : Nat) i, f.code[k]? = some i → checkAt f k i = 0
  last : lastOp f = 20 ∨ lastOp f = 21 ∨ lastOp f = 18
theorem checkFrom_zero (f : Flat) : ∀ (l : List Instr) (k : Nat), (checkFrom f k l).1 = 0 → ∀ (m : Nat) i, l[m]? = some i → checkAt f (k + m) i = 0
  | [], k, _, m, i, h => by simp at h
  | x :: r, k, h, m, i, hm => by
    unfold checkFrom at h
    by_cases hx : checkAt f k x = 0
    · rw [if_pos hx] at h
      cases m with
      | zero => simp at hm; subst hm; exact hx
      | succ m =>
        have := checkFrom_zero f r (k + 1) h m i (by simpa using hm)
        rw [show k + (m + 1) = k + 1 + m by omega]
        exact this
    · rw [if_neg hx] at h
      exact absurd h hx
theorem right_of_check {f : Flat} (h : (check f).1 = 0) : Right f := by
  unfold check at h
  by_cases h1 : f.code.length < 1 ∨ 12000 < f.code.length ∨ f.params < 0 ∨ f.secret.length < f.params
  · rw [if_pos h1] at h; cases h
  · rw [if_neg h1] at h
    by_cases h2 : (checkFrom f 0 f.code).1 ≠ 0
    · rw [if_pos h2] at h; exact absurd h h2
    · rw [if_neg h2] at h
      by_cases h3 : lastOp f = 20 ∨ lastOp f = 21 ∨ lastOp f = 18
      · exact ⟨by omega, by omega, by omega, by omega, fun k i hk => by
          have := checkFrom_zero f f.code 0 (by omega) k i hk
          simpa using this, h3⟩
      · rw [if_neg h3] at h; cases h
theorem check_of_right {f : Flat} (h : Right f) : check f = (0, -1) := by
  have hz : ∀ (l : List Instr) (k : Nat), (∀ (m : Nat) i, l[m]? = some i → checkAt f (k + m) i = 0) → checkFrom f k l = (0, -1) := by
    intro l
    induction l with
    | nil => intro k _; rfl
    | cons x r ih =>
      intro k hk
      have hx : checkAt f k x = 0 := by simpa using hk 0 x rfl
      unfold checkFrom
      rw [if_pos hx]
      exact ih (k + 1) (fun m i hm => by
        have := hk (m + 1) i (by simpa using hm)
        rw [show k + 1 + m = k + (m + 1) by omega]
        exact this)
  have h0 := hz f.code 0 (fun m i hm => by simpa using h.at_ m i hm)
  have := h.len1
  have := h.len2
  have := h.p0
  have := h.p1
  unfold check
  rw [if_neg (by omega), h0, if_neg (by simp), if_pos h.last]
/-- what a right instruction is -/
structure Sound (f : Flat) (k : Nat) (i : Instr) : Prop where
  op : 1 ≤ i.op ∧ i.op ≤ 21
  reads : ∀ p ∈ reads i, 0 ≤ p ∧ p < (f.secret.length : Int)
  makes : i.op ≤ 16 → 0 ≤ i.d ∧ i.d < (f.secret.length : Int)
  imm : i.op = 14 → 0 ≤ i.imm ∧ i.imm ≤ 4294967295
  arr : i.op = 16 ∨ i.op = 17 → 0 ≤ i.b ∧ i.b < (f.arrays.length : Int)
  jump : i.op = 18 ∨ i.op = 19 → (k : Int) < i.imm ∧ i.imm < (f.code.length : Int)
  labels : secrets f i = false
theorem sound_of {f : Flat} {k : Nat} {i : Instr} (h : checkAt f k i = 0) : Sound f k i := by
  unfold checkAt at h
  by_cases h1 : ¬ (1 ≤ i.op ∧ i.op ≤ 21)
  · rw [if_pos h1] at h; cases h
  rw [if_neg h1] at h
  by_cases h2 : numbers f k i = false
  · rw [if_pos h2] at h; cases h
  rw [if_neg h2] at h
  have hs : secrets f i = false := by
    cases hs : secrets f i with
    | false => rfl
    | true => rw [hs] at h; simp at h
  have h3 : numbers f k i = true := by simpa using h2
  unfold numbers at h3
  rw [Bool.and_eq_true, Bool.and_eq_true, List.all_eq_true] at h3
  obtain ⟨⟨h4, h5⟩, h6⟩ := h3
  refine ⟨by omega, fun p hp => ?_, fun hop => ?_, fun hop => ?_, fun hop => ?_, fun hop => ?_, hs⟩
  · have := h4 p hp; simpa [isPlace] using this
  · have hm : Ev.makes i = true := by unfold Ev.makes; simp; omega
    rw [hm] at h5
    simpa [isPlace] using h5
  · rw [if_pos hop] at h6; simpa [isWord] using h6
  · rw [if_neg (by omega), if_pos hop] at h6; simpa using h6
  · rw [if_neg (by omega), if_neg (by omega), if_pos hop] at h6; simpa using h6
theorem Right.sound {f : Flat} (h : Right f) {k : Nat} {i : Instr} (hk : f.code[k]? = some i) : Sound f k i := sound_of (h.at_ k i hk)
def Wd (x : Int) : Prop := 0 ≤ x ∧ x ≤ 4294967295
/-- a state that a run may come to -/
structure Fine (f : Flat) (s : St) : Prop where
  len : s.v.length = f.secret.length
  word : ∀ x ∈ s.v, Wd x
  alen : s.arrs.length = f.arrays.length
  aword : ∀ a ∈ s.arrs, ∀ x ∈ a, Wd x
theorem two_wd (op a b : Int) : Wd (two op a b) := by
  have : ∀ x y : Nat, x < 4294967296 → y < 4294967296 → twoN op x y < 4294967296 := by
    intro x y hx hy
    unfold twoN
    by_cases h1 : op = 1
    · rw [if_pos h1]; exact Nat.mod_lt _ (by decide)
    rw [if_neg h1]
    by_cases h2 : op = 2
    · rw [if_pos h2]; exact wsub_lt _ _
    rw [if_neg h2]
    by_cases h3 : op = 3
    · rw [if_pos h3]; exact and_lt hx
    rw [if_neg h3]
    by_cases h4 : op = 4
    · rw [if_pos h4]; exact or_lt hx hy
    rw [if_neg h4]
    by_cases h5 : op = 5
    · rw [if_pos h5]; exact xor_lt hx hy
    rw [if_neg h5]
    by_cases h6 : op = 6
    · rw [if_pos h6]; exact Nat.mod_lt _ (by decide)
    rw [if_neg h6]
    by_cases h7 : op = 7
    · rw [if_pos h7]; exact Nat.lt_of_le_of_lt (Nat.div_le_self _ _) hx
    rw [if_neg h7]
    by_cases h8 : op = 8
    · rw [if_pos h8]; exact Nat.mod_lt _ (by decide)
    rw [if_neg h8]
    by_cases h9 : op = 9
    · rw [if_pos h9]
      by_cases h : y = 0
      · rw [if_pos h]; decide
      · rw [if_neg h]; exact Nat.lt_of_le_of_lt (Nat.div_le_self _ _) hx
    rw [if_neg h9]
    by_cases h10 : op = 10
    · rw [if_pos h10]
      by_cases h : y = 0
      · rw [if_pos h]; exact hx
      · rw [if_neg h]; exact Nat.lt_of_le_of_lt (Nat.mod_le _ _) hx
    rw [if_neg h10]
    by_cases h11 : op = 11
    · rw [if_pos h11]
      by_cases h : x < y
      · rw [if_pos h]; decide
      · rw [if_neg h]; decide
    rw [if_neg h11]
    by_cases h12 : op = 12
    · rw [if_pos h12]
      by_cases h : x = y
      · rw [if_pos h]; decide
      · rw [if_neg h]; decide
    rw [if_neg h12]
    decide
  have h := this _ _ (low_lt a) (low_lt b)
  unfold two Wd
  omega
theorem sel_wd (a b c : Int) : Wd (sel a b c) := by
  have := low_lt b
  have := low_lt c
  unfold sel Wd
  split <;> omega
theorem mem_set {α : Type} {l : List α} {k : Nat} {x y : α} (h : y ∈ l.set k x) : y ∈ l ∨ y = x := by
  rcases List.mem_or_eq_of_mem_set h with h | h
  · exact .inl h
  · exact .inr h
theorem Fine.set {f : Flat} {s : St} (h : Fine f s) (k : Nat) {x : Int} (hx : Wd x) : Fine f { s with v := s.v.set k x } :=
  ⟨by simpa using h.len, fun y hy => (mem_set hy).elim (fun hy => h.word y hy) (fun e => by rw [e]; exact hx), h.alen, h.aword⟩
theorem Fine.val {f : Flat} {s : St} (h : Fine f s) (p : Int) : Wd (Ev.val s.v p) := by
  unfold Ev.val
  rw [List.getD_eq_getElem?_getD]
  cases hx : s.v[p.toNat]? with
  | none => exact ⟨by decide, by decide⟩
  | some x => exact h.word x (List.mem_of_getElem? hx)
theorem Fine.arr {f : Flat} {s : St} (h : Fine f s) (b n : Int) : Wd (arrAt s.arrs b n) := by
  unfold arrAt
  split
  · unfold Ev.val
    rw [List.getD_eq_getElem?_getD]
    cases hx : (s.arrs.getD b.toNat [])[n.toNat]? with
    | none => exact ⟨by decide, by decide⟩
    | some x =>
      have hm := List.mem_of_getElem? hx
      rw [List.getD_eq_getElem?_getD] at hm
      cases ha : s.arrs[b.toNat]? with
      | none => rw [ha] at hm; simp at hm
      | some a => rw [ha] at hm; exact h.aword a (List.mem_of_getElem? ha) x hm
  · exact ⟨by decide, by decide⟩
/-- one step leaves a state that may be -/
theorem Fine.step {f : Flat} {k : Nat} {i : Instr} {s : St} (h : Fine f s) (hs : Sound f k i) : Fine f (Ev.step i k s).1 := by
  have hop := hs.op
  unfold Ev.step
  by_cases h12 : i.op ≤ 12
  · rw [if_pos h12]; exact h.set _ (two_wd _ _ _)
  rw [if_neg h12]
  by_cases h13 : i.op = 13
  · rw [if_pos h13]; exact h.set _ (sel_wd _ _ _)
  rw [if_neg h13]
  by_cases h14 : i.op = 14
  · rw [if_pos h14]; exact h.set _ (hs.imm h14)
  rw [if_neg h14]
  by_cases h15 : i.op = 15
  · rw [if_pos h15]; exact h.set _ (h.val _)
  rw [if_neg h15]
  by_cases h16 : i.op = 16
  · rw [if_pos h16]; exact h.set _ (h.arr _ _)
  rw [if_neg h16]
  by_cases h17 : i.op = 17
  · rw [if_pos h17]
    simp only
    split
    · refine ⟨h.len, h.word, by simpa using h.alen, fun a ha x hx => ?_⟩
      rcases mem_set ha with ha | rfl
      · exact h.aword a ha x hx
      · rcases mem_set hx with hx | rfl
        · rw [List.getD_eq_getElem?_getD] at hx
          cases hb : s.arrs[i.b.toNat]? with
          | none => rw [hb] at hx; simp at hx
          | some a => rw [hb] at hx; exact h.aword a (List.mem_of_getElem? hb) x hx
        · exact h.val _
    · exact h
  rw [if_neg h17]
  by_cases h18 : i.op = 18
  · rw [if_pos h18]; exact h
  rw [if_neg h18]
  by_cases h19 : i.op = 19
  · rw [if_pos h19]; exact h
  rw [if_neg h19, if_pos (by omega)]
  exact h
/-- where it goes on -/
theorem step_on {f : Flat} (hr : Right f) {k k' : Nat} {i : Instr} {s : St} (hk : f.code[k]? = some i) (h : (Ev.step i k s).2 = some k') : k < k' ∧ k' < f.code.length := by
  have hs := hr.sound hk
  have hop := hs.op
  have hlt : k < f.code.length := (List.getElem?_eq_some_iff.1 hk).1
  have hlast : i.op ≠ 20 → i.op ≠ 21 → i.op ≠ 18 → k + 1 < f.code.length := by
    intro h1 h2 h3
    rcases Nat.lt_or_ge (k + 1) f.code.length with h4 | h4
    · exact h4
    · exfalso
      have : f.code.length - 1 = k := by omega
      have hl := hr.last
      unfold lastOp at hl
      rw [this, List.getD_eq_getElem?_getD, hk] at hl
      simp only [Option.getD_some] at hl
      omega
  unfold Ev.step at h
  by_cases h12 : i.op ≤ 12
  · rw [if_pos h12] at h; simp at h; have := hlast (by omega) (by omega) (by omega); omega
  rw [if_neg h12] at h
  by_cases h13 : i.op = 13
  · rw [if_pos h13] at h; simp at h; have := hlast (by omega) (by omega) (by omega); omega
  rw [if_neg h13] at h
  by_cases h14 : i.op = 14
  · rw [if_pos h14] at h; simp at h; have := hlast (by omega) (by omega) (by omega); omega
  rw [if_neg h14] at h
  by_cases h15 : i.op = 15
  · rw [if_pos h15] at h; simp at h; have := hlast (by omega) (by omega) (by omega); omega
  rw [if_neg h15] at h
  by_cases h16 : i.op = 16
  · rw [if_pos h16] at h; simp at h; have := hlast (by omega) (by omega) (by omega); omega
  rw [if_neg h16] at h
  by_cases h17 : i.op = 17
  · rw [if_pos h17] at h; simp at h; have := hlast (by omega) (by omega) (by omega); omega
  rw [if_neg h17] at h
  by_cases h18 : i.op = 18
  · rw [if_pos h18] at h; simp at h; have := hs.jump (.inl h18); omega
  rw [if_neg h18] at h
  by_cases h19 : i.op = 19
  · rw [if_pos h19] at h
    simp at h
    have := hs.jump (.inr h19)
    have := hlast (by omega) (by omega) (by omega)
    split at h <;> omega
  rw [if_neg h19, if_pos (by omega)] at h
  cases h
theorem wrongFrom_zero (t : List Int) : ∀ (n k : Nat), wrongFrom t n k = 0 → ∀ m, m < n → subBits (seenOf t ((k + m : Nat) : Int)) (most ((k + m : Nat) : Int)) = true
  | 0, k, _, m, hm => absurd hm (by omega)
  | n + 1, k, h, m, hm => by
    unfold wrongFrom at h
    by_cases hx : subBits (seenOf t (k : Int)) (most (k : Int)) = true
    · rw [if_pos hx] at h
      cases m with
      | zero => exact hx
      | succ m =>
        have := wrongFrom_zero t n (k + 1) h m (by omega)
        rw [show k + (m + 1) = k + 1 + m by omega]
        exact this
    · rw [if_neg hx] at h; cases h
theorem table_bits {t : List Int} (h : wrong t = 0) {op : Int} (h1 : 1 ≤ op) (h17 : op ≤ 17) : subBits (seenOf t op) (most op) = true := by
  unfold wrong at h
  by_cases h0 : seenOf t 0 ≠ 0
  · rw [if_pos h0] at h; cases h
  · rw [if_neg h0] at h
    have := wrongFrom_zero t 17 1 h (op.toNat - 1) (by omega)
    rw [show ((1 + (op.toNat - 1) : Nat) : Int) = op by omega] at this
    exact this
theorem sub_small {n m : Int} (hm : m = 0 ∨ m = 1 ∨ m = 3 ∨ m = 7) (h : subBits n m = true) : (0 ≤ n ∧ n ≤ 7) ∧ ∀ k, k < 3 → hasBit n k = true → hasBit m k = true := by
  unfold subBits at h
  rw [Bool.and_eq_true, decide_eq_true_eq, beq_iff_eq] at h
  obtain ⟨h0, h⟩ := h
  obtain ⟨j, rfl⟩ : ∃ j : Nat, n = j := ⟨n.toNat, by omega⟩
  have hle : j ≤ m.toNat := by
    rw [← h]
    exact Nat.left_le_or
  have hj : j < 8 := by omega
  refine ⟨by omega, ?_⟩
  simp only [Int.toNat_natCast] at h
  clear h0 hle
  rcases hm with rfl | rfl | rfl | rfl <;> (revert h; revert j; decide)
end Ev
namespace Go.Proofs.Ytljcgcllhcdleaa
/-- by a right table only what is read is seen -/
theorem seenIn_right {t : List Int} (ht : Ev.wrong t = 0) {i : Ev.Instr} {n : Nat} (h1 : 1 ≤ i.op) (hr : ∀ p ∈ Ev.reads i, inR n p) : SeenIn i n (whichOf t i.op false) := by
  have h19 : i.op = 19 → inR n i.a := fun h => hr _ (by unfold Ev.reads; rw [if_neg (by omega), if_neg (by omega), if_neg (by omega), if_pos (by omega)]; simp)
  by_cases h17 : i.op ≤ 17
  · have hw : whichOf t i.op false = Ev.seenOf t i.op := by unfold whichOf; rw [if_neg (by decide), if_pos h17]
    rw [hw]
    have hb := Ev.table_bits ht h1 h17
    have hm : Ev.most i.op = 0 ∨ Ev.most i.op = 1 ∨ Ev.most i.op = 3 ∨ Ev.most i.op = 7 := by
      unfold Ev.most Ev.all
      repeat' split
      all_goals simp
    obtain ⟨h2, h3⟩ := Ev.sub_small hm hb
    refine ⟨h2, fun k hk hbit => ?_, h19⟩
    have hmb := h3 k hk hbit
    have b0 : ∀ k, k < 3 → Ev.hasBit 0 k = true → False := by decide
    have b1 : ∀ k, k < 3 → Ev.hasBit 1 k = true → k = 0 := by decide
    have b3 : ∀ k, k < 3 → Ev.hasBit 3 k = true → k = 0 ∨ k = 1 := by decide
    by_cases c1 : i.op ≤ 12
    · have e : Ev.most i.op = 3 := by unfold Ev.most Ev.all; rw [if_neg (by omega), if_pos (by omega)]
      have er : Ev.reads i = [i.a, i.b] := by unfold Ev.reads; rw [if_pos (by omega)]
      rw [e] at hmb
      refine ⟨fun h => by omega, fun _ _ => ?_⟩
      rcases b3 k hk hmb with rfl | rfl
      · exact hr _ (by rw [er]; simp [placeOf])
      · exact hr _ (by rw [er]; simp [placeOf])
    by_cases c2 : i.op = 13
    · have er : Ev.reads i = [i.a, i.b, i.c] := by unfold Ev.reads; rw [if_neg (by omega), if_pos c2]
      refine ⟨fun h => by omega, fun _ _ => ?_⟩
      rcases (show k = 0 ∨ k = 1 ∨ k = 2 by omega) with rfl | rfl | rfl <;> exact hr _ (by rw [er]; simp [placeOf])
    by_cases c3 : i.op = 14
    · have e : Ev.most i.op = 0 := by unfold Ev.most Ev.all; rw [if_neg (by omega), if_neg (by omega), if_neg (by omega), if_neg (by omega), if_neg (by omega), if_neg (by omega)]
      rw [e] at hmb
      exact absurd hmb (fun h => b0 k hk h)
    by_cases c4 : i.op = 17
    · have e : Ev.most i.op = 3 := by unfold Ev.most Ev.all; rw [if_neg (by omega), if_neg (by omega), if_neg (by omega), if_neg (by omega), if_neg (by omega), if_pos (by omega)]
      have er : Ev.reads i = [i.a, i.d] := by unfold Ev.reads; rw [if_neg (by omega), if_neg (by omega), if_pos c4]
      rw [e] at hmb
      refine ⟨fun h => hr _ (by rw [er]; simp), fun h _ => ?_⟩
      rcases b3 k hk hmb with rfl | rfl
      · exact hr _ (by rw [er]; simp [placeOf])
      · exact absurd ⟨c4, rfl⟩ h
    · have e : Ev.most i.op = 1 := by
        unfold Ev.most Ev.all
        by_cases c5 : i.op = 16
        · rw [if_pos c5]
        · rw [if_neg c5, if_neg (by omega), if_neg (by omega), if_pos (by omega)]
      have er : Ev.reads i = [i.a] := by unfold Ev.reads; rw [if_neg (by omega), if_neg (by omega), if_neg (by omega), if_pos (by omega)]
      rw [e] at hmb
      have := b1 k hk hmb
      subst this
      exact ⟨fun h => by omega, fun _ _ => hr _ (by rw [er]; simp [placeOf])⟩
  · have hw : whichOf t i.op false = 0 := by unfold whichOf; rw [if_neg (by decide), if_neg h17]
    rw [hw]
    exact ⟨by omega, fun k hk h => False.elim ((by decide : ∀ k, k < 3 → Ev.hasBit 0 k = true → False) k hk h), h19⟩
end Go.Proofs.Ytljcgcllhcdleaa
