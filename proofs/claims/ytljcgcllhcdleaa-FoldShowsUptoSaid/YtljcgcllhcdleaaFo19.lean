import Derived.Test.YtljcgcllhcdleaaFo18
/- fold.Used: what is kept, and live, as it is reckoned from the end. -/
namespace Ev
theorem liveOut_end {l : List Instr} {k : Nat} {i : Instr} (h : i.op = 20 ∨ i.op = 21) : liveOut l k i = fun _ => false := by
  funext p
  unfold liveOut onNext onFar
  rw [decide_eq_true (by omega), decide_eq_false (by omega)]
  simp
theorem liveOut_jump {l : List Instr} {k : Nat} {i : Instr} (h : i.op = 18) (hk : k < i.imm.toNat) : liveOut l k i = livein l i.imm.toNat := by
  funext p
  unfold liveOut onNext onFar
  rw [decide_eq_true (by omega), decide_eq_true (by omega), if_pos hk]
  simp
theorem liveOut_zero {l : List Instr} {k : Nat} {i : Instr} (h : i.op = 19) (hk : k < i.imm.toNat) : liveOut l k i = fun p => livein l (k + 1) p || livein l i.imm.toNat p := by
  funext p
  unfold liveOut onNext onFar
  rw [decide_eq_false (by omega), decide_eq_true (by omega), if_pos hk]
  simp
theorem liveOut_else {l : List Instr} {k : Nat} {i : Instr} (h : ¬ (i.op = 18 ∨ i.op = 19 ∨ i.op = 20 ∨ i.op = 21)) : liveOut l k i = livein l (k + 1) := by
  funext p
  unfold liveOut onNext onFar
  rw [decide_eq_false (by omega), decide_eq_false (by omega)]
  simp
def keptTo (l : List Instr) (j : Nat) : List Bool := (List.range l.length).map fun q => decide (j ≤ q) && keptAt l q
theorem keptTo_len (l : List Instr) (j : Nat) : (keptTo l j).length = l.length := by unfold keptTo; simp
theorem keptTo_at {l : List Instr} {j q : Nat} (h : q < l.length) : (keptTo l j)[q]? = some (decide (j ≤ q) && keptAt l q) := by
  unfold keptTo
  rw [List.getElem?_map, List.getElem?_range h]
  rfl
theorem keptTo_end (l : List Instr) : keptTo l l.length = List.replicate l.length false := by
  apply List.ext_getElem?
  intro q
  by_cases hq : q < l.length
  · rw [keptTo_at hq, List.getElem?_replicate, if_pos hq, decide_eq_false (by omega)]
    rfl
  · rw [List.getElem?_eq_none (by rw [keptTo_len]; omega), List.getElem?_eq_none (by simp; omega)]
theorem keptTo_set {l : List Instr} {q : Nat} (h : q < l.length) : (keptTo l (q + 1)).set q (keptAt l q) = keptTo l q := by
  apply List.ext_getElem?
  intro p
  rw [List.getElem?_set]
  by_cases hp : q = p
  · subst hp
    rw [if_pos rfl, keptTo_len, if_pos h, keptTo_at h, decide_eq_true (Nat.le_refl _)]
    rfl
  · rw [if_neg hp]
    by_cases hl : p < l.length
    · rw [keptTo_at hl, keptTo_at hl]
      congr 2
      simp only [decide_eq_decide]
      omega
    · rw [List.getElem?_eq_none (by rw [keptTo_len]; omega), List.getElem?_eq_none (by rw [keptTo_len]; omega)]
def nowTo (l : List Instr) (j : Nat) : List Int := (List.range l.length).map fun q => if q < j then (nowK l q : Int) else 0
theorem nowTo_len (l : List Instr) (j : Nat) : (nowTo l j).length = l.length := by unfold nowTo; simp
theorem nowTo_at {l : List Instr} {j q : Nat} (h : q < l.length) : (nowTo l j)[q]? = some (if q < j then (nowK l q : Int) else 0) := by
  unfold nowTo
  rw [List.getElem?_map, List.getElem?_range h]
  rfl
theorem nowTo_zero (l : List Instr) : nowTo l 0 = List.replicate l.length 0 := by
  apply List.ext_getElem?
  intro q
  by_cases hq : q < l.length
  · rw [nowTo_at hq, List.getElem?_replicate, if_pos hq, if_neg (by omega)]
  · rw [List.getElem?_eq_none (by rw [nowTo_len]; omega), List.getElem?_eq_none (by simp; omega)]
theorem nowTo_set {l : List Instr} {q : Nat} (h : q < l.length) : (nowTo l q).set q (nowK l q : Int) = nowTo l (q + 1) := by
  apply List.ext_getElem?
  intro p
  rw [List.getElem?_set]
  by_cases hp : q = p
  · subst hp
    rw [if_pos rfl, nowTo_len, if_pos h, nowTo_at h, if_pos (by omega)]
  · rw [if_neg hp]
    by_cases hl : p < l.length
    · rw [nowTo_at hl, nowTo_at hl]
      congr 1
      by_cases h1 : p < q
      · rw [if_pos h1, if_pos (by omega)]
      · rw [if_neg h1, if_neg (by omega)]
    · rw [List.getElem?_eq_none (by rw [nowTo_len]; omega), List.getElem?_eq_none (by rw [nowTo_len]; omega)]
/-- the code, whose first j instructions lead to where it is now -/
def relKTo (l c : List Instr) (j : Nat) : List Instr := (c.take j).map (relK l) ++ c.drop j
theorem relKTo_zero (l c : List Instr) : relKTo l c 0 = c := by unfold relKTo; simp
theorem relKTo_len (l c : List Instr) (j : Nat) (h : j ≤ c.length) : (relKTo l c j).length = c.length := by unfold relKTo; simp; omega
theorem relKTo_end (l c : List Instr) : relKTo l c c.length = c.map (relK l) := by unfold relKTo; simp
theorem relKTo_at {l c : List Instr} {j : Nat} {x : Instr} (h : c[j]? = some x) : (relKTo l c j)[j]? = some x := by
  have hl := (List.getElem?_eq_some_iff.1 h).1
  unfold relKTo
  rw [List.getElem?_append_right (by simp; omega)]
  simp
  rw [show j + (j - min j c.length) = j by omega]
  exact h
theorem relKTo_set {l c : List Instr} {j : Nat} {x : Instr} (h : c[j]? = some x) : (relKTo l c j).set j (relK l x) = relKTo l c (j + 1) := by
  have hl := (List.getElem?_eq_some_iff.1 h).1
  have hd : c.drop j = x :: c.drop (j + 1) := by
    obtain ⟨h1, rfl⟩ := List.getElem?_eq_some_iff.1 h
    exact List.drop_eq_getElem_cons h1
  unfold relKTo
  rw [hd, List.set_append_right (h := by simp; omega)]
  simp only [List.length_map, List.length_take]
  rw [show j - min j c.length = 0 by omega, List.set_cons_zero, List.take_add_one, h]
  simp
theorem relKTo_same {l c : List Instr} {j : Nat} {x : Instr} (h : c[j]? = some x) (hr : relK l x = x) : relKTo l c (j + 1) = relKTo l c j := by
  rw [← relKTo_set h, hr]
  have := relKTo_at (l := l) h
  obtain ⟨h1, h2⟩ := List.getElem?_eq_some_iff.1 this
  rw [← h2]
  exact List.set_getElem_self h1
theorem toS_jump {l : List Instr} {k : Nat} {i : Instr} (h : l[k]? = some i) (ho : i.op = 18 ∨ i.op = 19) : toS l i.imm = true := by
  unfold toS
  rw [List.any_eq_true]
  exact ⟨i, List.mem_of_getElem? h, by rw [decide_eq_true ho, decide_eq_true rfl]; rfl⟩
theorem keptTo_none (l : List Instr) : ((keptTo l l.length).map Go.Value.bool).toArray = Array.replicate l.length (Go.Value.bool false) := by
  rw [keptTo_end, List.map_replicate, List.toArray_replicate]
theorem nowTo_none (l : List Instr) : ((nowTo l 0).map (Go.Value.int .i64)).toArray = Array.replicate l.length (Go.Value.int .i64 0) := by
  rw [nowTo_zero, List.map_replicate, List.toArray_replicate]
end Ev
namespace Go.Proofs.Ytljcgcllhcdleaa
open Go.RowKit
set_option linter.unusedSimpArgs false
set_option linter.unusedVariables false
def AtDom (l : List Ev.Instr) (j : Nat) (p : Int) : Prop := ((j : Int) ≤ p ∧ p < (l.length : Int)) ∧ Ev.toS l p = true
instance (l : List Ev.Instr) (j : Nat) (p : Int) : Decidable (AtDom l j p) := by unfold AtDom; infer_instance
/-- the maps of what is live where others lead to -/
def atF (l : List Ev.Instr) (j : Nat) (B : Int → Nat) : MapF := fun p => if AtDom l j p then some (.map (some (B p))) else none
structure UW (l : List Ev.Instr) (bk : Nat) (w4 : World) (jk ja : Nat) (s : Int → Bool) (bl : Nat) (B : Int → Nat) (wx : World) : Prop where
  sz : bk + 3 ≤ wx.heap.size
  live : MapIn wx bl (setF s)
  kept : wx.heap[bk]? = some (.cells ((Ev.keptTo l jk).map Value.bool).toArray 4 (0, 0))
  at_ : MapIn wx (bk + 1) (atF l ja B)
  maps : ∀ p, AtDom l ja p → (bk + 3 ≤ B p ∧ B p < wx.heap.size) ∧ MapIn wx (B p) (setF (Ev.livein l p.toNat))
  apart : ∀ p, AtDom l ja p → B p ≠ bl
  blb : bk + 2 ≤ bl
  fr : Below bk w4 wx
section
variable {l : List Ev.Instr} {bk : Nat} {w4 : World} {jk ja : Nat} {s : Int → Bool} {bl : Nat} {B : Int → Nat} {wx w' : World}
/-- but for a block that is none of these nothing has turned -/
theorem UW.other (h : UW l bk w4 jk ja s bl B wx) {r : Nat} (hk : ∀ b, b < wx.heap.size → b ≠ r → w'.heap[b]? = wx.heap[b]?) (hs : wx.heap.size ≤ w'.heap.size) (h1 : bk + 3 ≤ r) (h2 : r ≠ bl) (h3 : ∀ p, AtDom l ja p → B p ≠ r) (hb : Below bk wx w') : UW l bk w4 jk ja s bl B w' := by
  have hsz := h.sz
  refine ⟨by omega, h.live.same (hk _ h.live.lt (fun e => h2 e.symm)), (hk bk (by omega) (by omega)).trans h.kept, h.at_.same (hk _ h.at_.lt (by omega)), fun p hp => ?_, h.apart, h.blb, h.fr.trans hb⟩
  obtain ⟨⟨a, b⟩, c⟩ := h.maps p hp
  exact ⟨⟨a, by omega⟩, c.same (hk _ b (h3 p hp))⟩
theorem UW.on (h : UW l bk w4 jk ja s bl B wx) (hb : Below wx.heap.size wx w') : UW l bk w4 jk ja s bl B w' := by
  have hsz := h.sz
  have hs := hb.size
  refine ⟨by omega, h.live.on hb, (hb.block bk (by omega)).trans h.kept, h.at_.on hb, fun p hp => ?_, h.apart, h.blb, h.fr.trans (hb.mono (by omega))⟩
  obtain ⟨⟨a, b⟩, c⟩ := h.maps p hp
  exact ⟨⟨a, by omega⟩, c.on hb⟩
/-- what is live has turned -/
theorem UW.turn (h : UW l bk w4 jk ja s bl B wx) {s' : Int → Bool} (ht : Turned wx w' bl) (hm : MapIn w' bl (setF s')) : UW l bk w4 jk ja s' bl B w' := by
  have hsz := h.sz
  have hb := h.blb
  refine ⟨by rw [ht.size]; exact hsz, hm, (ht.other (by omega)).trans h.kept, h.at_.same (ht.other (by omega)), fun p hp => ?_, h.apart, h.blb, h.fr.trans (ht.below (by omega) (by omega))⟩
  obtain ⟨⟨a, b⟩, c⟩ := h.maps p hp
  exact ⟨⟨a, by rw [ht.size]; exact b⟩, c.same (ht.other (h.apart p hp))⟩
/-- what is live is a new map -/
theorem UW.fresh (h : UW l bk w4 jk ja s bl B wx) {s' : Int → Bool} {bl' : Nat} (hb : Below wx.heap.size wx w') (hl : wx.heap.size ≤ bl') (hm : MapIn w' bl' (setF s')) : UW l bk w4 jk ja s' bl' B w' := by
  have hsz := h.sz
  have k := h.on hb
  exact ⟨k.sz, hm, k.kept, k.at_, k.maps, fun p hp e => by have := (h.maps p hp).1.2; omega, by omega, k.fr⟩
theorem UW.same (h : UW l bk w4 jk ja s bl B wx) {s' : Int → Bool} (he : s = s') : UW l bk w4 jk ja s' bl B wx := he ▸ h
/-- what is kept is set -/
theorem UW.keep (h : UW l bk w4 (jk + 1) ja s bl B wx) (hj : jk < l.length) : UW l bk w4 jk ja s bl B (wx.setCell ⟨bk, jk, none⟩ (.bool (Ev.keptAt l jk))) := by
  have hsz := h.sz
  have hb := h.blb
  have ho : ∀ b, b ≠ bk → (wx.setCell ⟨bk, jk, none⟩ (.bool (Ev.keptAt l jk))).heap[b]? = wx.heap[b]? := fun b hb => Below.heap_setCell wx ⟨bk, jk, none⟩ _ b hb
  refine ⟨by simpa using hsz, h.live.same (ho _ (by omega)), ?_, h.at_.same (ho _ (by omega)), fun p hp => ?_, h.apart, h.blb, h.fr.trans ((Below.refl bk wx).setCell (show bk ≤ bk from Nat.le_refl _) _)⟩
  · rw [heap_setCell_same wx bk jk _ _ (.bool (Ev.keptAt l jk)) h.kept, ← Ev.keptTo_set hj, List.map_set]
    simp
  · obtain ⟨⟨a, b⟩, c⟩ := h.maps p hp
    exact ⟨⟨a, by simpa using b⟩, c.same (ho _ (by omega))⟩
/-- nothing leads here -/
theorem UW.noAt (h : UW l bk w4 jk (ja + 1) s bl B wx) (hn : Ev.toS l (ja : Int) = false) : UW l bk w4 jk ja s bl B wx := by
  have hd : ∀ p, AtDom l ja p ↔ AtDom l (ja + 1) p := fun p => by
    unfold AtDom
    refine ⟨fun ⟨⟨h1, h2⟩, h3⟩ => ⟨⟨?_, h2⟩, h3⟩, fun ⟨⟨h1, h2⟩, h3⟩ => ⟨⟨by omega, h2⟩, h3⟩⟩
    by_cases e : p = (ja : Int)
    · rw [e, hn] at h3; cases h3
    · omega
  have e : atF l ja B = atF l (ja + 1) B := by
    funext p
    unfold atF
    by_cases c : AtDom l ja p
    · rw [if_pos c, if_pos ((hd p).1 c)]
    · rw [if_neg c, if_neg (fun k => c ((hd p).2 k))]
  exact ⟨h.sz, h.live, h.kept, by rw [e]; exact h.at_, fun p hp => h.maps p ((hd p).1 hp), fun p hp => h.apart p ((hd p).1 hp), h.blb, h.fr⟩
/-- it is kept what is live where others lead to -/
theorem UW.putAt (h : UW l bk w4 jk (ja + 1) (Ev.livein l ja) bl B wx) (hj : ja < l.length) (hn : Ev.toS l (ja : Int) = true) {w1 : World} (hb : Below wx.heap.size wx w1) (hm : MapIn w1 wx.heap.size (setF (Ev.livein l ja))) (ht : Turned w1 w' (bk + 1)) (ha : MapIn w' (bk + 1) (mapPut (atF l (ja + 1) B) (ja : Int) (some (.map (some wx.heap.size))))) :
    ∃ B', UW l bk w4 jk ja (Ev.livein l ja) bl B' w' := by
  have hsz := h.sz
  have hbl := h.blb
  have k := h.on hb
  have hs := hb.size
  have ko : ∀ p, AtDom l ja p → p ≠ (ja : Int) → AtDom l (ja + 1) p := fun p ⟨⟨h1, h2⟩, h3⟩ hne => ⟨⟨by omega, h2⟩, h3⟩
  have kb : ∀ p, AtDom l (ja + 1) p → AtDom l ja p ∧ p ≠ (ja : Int) := fun p ⟨⟨h1, h2⟩, h3⟩ => ⟨⟨⟨by omega, h2⟩, h3⟩, by omega⟩
  refine ⟨fun p => if p = (ja : Int) then wx.heap.size else B p, by rw [ht.size]; exact k.sz, k.live.same (ht.other (by omega)), (ht.other (by omega)).trans k.kept, ?_, fun p hp => ?_, fun p hp => ?_, h.blb, k.fr.trans (ht.below (by omega) (by omega))⟩
  · have e : atF l ja (fun p => if p = (ja : Int) then wx.heap.size else B p) = mapPut (atF l (ja + 1) B) (ja : Int) (some (.map (some wx.heap.size))) := by
      funext p
      unfold mapPut atF
      by_cases e : p = (ja : Int)
      · rw [if_pos e, if_pos (by rw [e]; exact ⟨⟨Int.le_refl _, by omega⟩, hn⟩)]
        simp [e]
      · rw [if_neg e]
        by_cases c : AtDom l ja p
        · rw [if_pos c, if_pos (ko p c e)]
          simp [e]
        · rw [if_neg c, if_neg (fun c' => c (kb p c').1)]
    rw [e]
    exact ha
  · by_cases e : p = (ja : Int)
    · rw [if_pos e]
      have hlt := hm.lt
      refine ⟨⟨by omega, by rw [ht.size]; exact hlt⟩, ?_⟩
      rw [e, Int.toNat_natCast]
      exact hm.same (ht.other (by omega))
    · rw [if_neg e]
      obtain ⟨⟨a, b⟩, c⟩ := k.maps p (ko p hp e)
      exact ⟨⟨a, by rw [ht.size]; exact b⟩, c.same (ht.other (by omega))⟩
  · by_cases e : p = (ja : Int)
    · rw [if_pos e]
      have := h.live.lt
      omega
    · rw [if_neg e]
      exact h.apart p (ko p hp e)
theorem UW.lookAt (h : UW l bk w4 jk ja s bl B wx) {p : Int} (hp : AtDom l ja p) (h64 : InW64 p) (hz : (zeroValue 107).run Try.prog wx = .ok (.map none) wx) : (Go.Instr.lookup 112 (.map (some (bk + 1))) (.int .i64 p) false).run Try.prog wx = .ok (.map (some (B p))) wx := by
  rw [h.at_.lookup Try.underlying112 hz h64 false]
  unfold atF
  rw [if_pos hp]
  rfl
end
theorem map_cell {w : World} {b o : Nat} {m : MapF} (h : MapIn w b m) : w.cell? ⟨b, o, none⟩ = none := by
  obtain ⟨es, c, hb, _⟩ := h
  unfold World.cell?
  dsimp only
  rw [hb]
theorem Dep.under {lo hi B : Nat} {R : World → Prop} {w w' : World} (h : Dep lo hi w R) (hb : Below B w w') (hB : hi ≤ B) (hs : w.heap.size ≤ w'.heap.size) : Dep lo hi w' R :=
  ⟨Nat.le_trans h.1 hs, fun u h3 h4 => h.2 u h3 fun b h5 h6 => (h4 b h5 h6).trans (hb.block b (by omega))⟩
theorem box_under {w w' : World} {b B : Nat} {o : Obj} (h : Hid (w.heap[b]? = some o)) (hb : Below B w w') (hB : b < B) : Hid (w'.heap[b]? = some o) := Lib.hid ((hb.block b hB).trans h.out)
theorem zero_map (w : World) : (zeroValue 107).run Try.prog w = .ok (.map none) w := by kernel_rfl
theorem RangeIn.left_eq {w : World} {b r : Nat} {m : MapF} {left : Int → Bool} {cnt : Nat} (h : RangeIn w b r m left cnt) : w.rangeLeft b r = cnt := by
  obtain ⟨es, clock, since, seen, c0, hb, _, hr, _, _, _, _, hc⟩ := h
  simp only [World.rangeLeft, hb, hr]
  exact hc
theorem made_bools (n : Nat) : (madeCells #[.bool false] (n * 1)) = (Array.replicate n (Value.bool false)) := by
  apply Array.ext'
  rw [Array.toList_replicate]
  apply List.ext_getElem?
  intro m
  by_cases hm : m < n
  · simp [madeCells, hm]
    rw [Nat.mod_one]; rfl
  · rw [List.getElem?_eq_none (by simp [madeCells]; omega), List.getElem?_eq_none (by simp; omega)]
theorem made_ints (n : Nat) : (madeCells #[.int .i64 0] (n * 1)) = (Array.replicate n (Value.int .i64 0)) := by
  apply Array.ext'
  rw [Array.toList_replicate]
  apply List.ext_getElem?
  intro m
  by_cases hm : m < n
  · simp [madeCells, hm]
    rw [Nat.mod_one]; rfl
  · rw [List.getElem?_eq_none (by simp [madeCells]; omega), List.getElem?_eq_none (by simp; omega)]
theorem bools_make {n : Nat} (hn : n ≤ 12000) (u : World) :
    (Go.Instr.makeSlice 23 (.int .i64 (n : Int)) (.int .i64 (n : Int))).run Try.prog u = .ok (.slice (some ⟨u.heap.size, 0, none⟩) n n) (u.alloc (.cells (Array.replicate n (Value.bool false)) 4)) := by
  obtain ⟨i, hi, hz0, hz1, hz2⟩ := info_parts cloneBools_info
  have h := run_make (P := Try.prog) (w := u) 23 4 i _ Try.underlying23 hi hz0 .i64 .i64 (n : Int) (n : Int) (by omega) (Int.le_refl _) (by rw [hz2]; omega) (by omega)
  rw [hz1] at h
  rw [← made_bools]
  simpa [Value.cells] using h
theorem ints_make {n : Nat} (hn : n ≤ 12000) (u : World) :
    (Go.Instr.makeSlice 42 (.int .i64 (n : Int)) (.int .i64 (n : Int))).run Try.prog u = .ok (.slice (some ⟨u.heap.size, 0, none⟩) n n) (u.alloc (.cells (Array.replicate n (Value.int .i64 0)) 3)) := by
  obtain ⟨i, hi, hz0, hz1, hz2⟩ := info_parts cloneInts_info
  have h := run_make (P := Try.prog) (w := u) 42 3 i _ Try.underlying42 hi hz0 .i64 .i64 (n : Int) (n : Int) (by omega) (Int.le_refl _) (by rw [hz2]; omega) (by omega)
  rw [hz1] at h
  rw [← made_ints]
  simpa [Value.cells] using h
/-- the second part: what is kept is put, and where each one is now -/
structure PW (l : List Ev.Instr) (bx bk bw : Nat) (w6 : World) (kr kn : Nat) (v vs vp va : Value) (wx : World) : Prop where
  box : wx.heap[bx]? = some (.cells #[v, vs, vp, va] 26 (0, 0))
  row : wx.ownsRow (bw + 1) 39 6 v (Ev.nowK l kr) ((Ev.usedTo l kr).flatMap cellsI)
  now : wx.heap[bw]? = some (.cells ((Ev.nowTo l kn).map (Value.int .i64)).toArray 3 (0, 0))
  kept : wx.heap[bk]? = some (.cells ((Ev.keptTo l 0).map Value.bool).toArray 4 (0, 0))
  fr : Below bx w6 wx
section
variable {l : List Ev.Instr} {bx bk bw : Nat} {w6 : World} {k kr kn : Nat} {v vs vp va : Value} {wx w' : World}
theorem PW.lt (h : PW l bx bk bw w6 kr kn v vs vp va wx) : bw < wx.heap.size := (Array.getElem?_eq_some_iff.1 h.now).1
theorem PW.ltx (h : PW l bx bk bw w6 kr kn v vs vp va wx) : bx < wx.heap.size := (Array.getElem?_eq_some_iff.1 h.box).1
theorem PW.on (h : PW l bx bk bw w6 kr kn v vs vp va wx) (hb : Below wx.heap.size wx w') : PW l bx bk bw w6 kr kn v vs vp va w' :=
  ⟨(hb.block _ h.ltx).trans h.box, owns_below h.row hb, (hb.block _ h.lt).trans h.now, (hb.block _ (Array.getElem?_eq_some_iff.1 h.kept).1).trans h.kept, h.fr.trans (hb.mono (by have := h.ltx; omega))⟩
theorem PW.setNow (h : PW l bx bk bw w6 k k v vs vp va wx) (hk : k < l.length) (h1 : bx < bk) (h2 : bk < bw) : PW l bx bk bw w6 k (k + 1) v vs vp va (wx.setCell ⟨bw, k, none⟩ (.int .i64 (Ev.nowK l k : Int))) := by
  have ho : ∀ b, b ≠ bw → (wx.setCell ⟨bw, k, none⟩ (.int .i64 (Ev.nowK l k : Int))).heap[b]? = wx.heap[b]? := fun b hb => Below.heap_setCell wx ⟨bw, k, none⟩ _ b hb
  refine ⟨(ho bx (by omega)).trans h.box, ownsRow_setCell_other h.row (fun e => by have := own_ge h.row e; (try dsimp only at this); omega) _, ?_, (ho bk (by omega)).trans h.kept, h.fr.trans ((Below.refl bx wx).setCell (show bx ≤ bw by omega) _)⟩
  rw [heap_setCell_same wx bw k _ _ (.int .i64 (Ev.nowK l k : Int)) h.now, ← Ev.nowTo_set hk, List.map_set]
  simp
theorem PW.skip (h : PW l bx bk bw w6 k (k + 1) v vs vp va wx) (hc : Ev.keptAt l k = false) : PW l bx bk bw w6 (k + 1) (k + 1) v vs vp va wx := by
  refine ⟨h.box, ?_, h.now, h.kept, h.fr⟩
  rw [Ev.nowK_off hc, show Ev.usedTo l (k + 1) = Ev.usedTo l k ++ (if Ev.keptAt l k then [l.getD k default] else []) from rfl, hc]
  simpa using h.row
theorem PW.grow (h : PW l bx bk bw w6 k (k + 1) v vs vp va wx) {w1 w2 : World} {v8 : Value} {i : Ev.Instr} (hb : Below wx.heap.size wx w1) (hg : w1.grownBy w2 v.ownBlock) (hown : w2.ownsRow (bw + 1) 39 6 v8 (Ev.nowK l k + 1) ((Ev.usedTo l k).flatMap cellsI ++ cellsI i)) (hi : l[k]? = some i) (hc : Ev.keptAt l k = true) (h1 : bx < bk) (h2 : bk < bw) :
    w2.heap[bx]? = some (.cells #[v, vs, vp, va] 26 (0, 0)) ∧ PW l bx bk bw w6 (k + 1) (k + 1) v8 vs vp va (w2.setCell ⟨bx, 0, none⟩ v8) := by
  have hx := h.ltx
  have hw := h.lt
  have hkl := (Array.getElem?_eq_some_iff.1 h.kept).1
  have hs := hb.size
  have ho : ∀ b, b < wx.heap.size → b ≤ bw → w2.heap[b]? = wx.heap[b]? := fun b h3 h4 => (hg.block b (by omega) (fun e => by have := own_ge h.row e.symm; omega)).trans (hb.block b h3)
  have hbx := (ho bx hx (by omega)).trans h.box
  have hs2 : ∀ b, b ≠ bx → (w2.setCell ⟨bx, 0, none⟩ v8).heap[b]? = w2.heap[b]? := fun b hb => Below.heap_setCell w2 ⟨bx, 0, none⟩ _ b hb
  refine ⟨hbx, ⟨by rw [heap_setCell_same w2 bx 0 _ _ v8 hbx]; rfl, ?_, ((hs2 bw (by omega)).trans (ho bw hw (Nat.le_refl _))).trans h.now, ((hs2 bk (by omega)).trans (ho bk hkl (by omega))).trans h.kept, ?_⟩⟩
  · rw [Ev.nowK_on hc, show Ev.usedTo l (k + 1) = Ev.usedTo l k ++ (if Ev.keptAt l k then [l.getD k default] else []) from rfl, hc, List.getD_eq_getElem?_getD, hi]
    have := ownsRow_setCell_other hown (a := ⟨bx, 0, none⟩) (fun e => by have := own_ge hown e; dsimp only at this; omega) v8
    simpa using this
  · exact (h.fr.trans ((hb.mono (by omega)).grown hg (by omega) (fun q hq => by have := own_ge h.row hq; omega))).setCell (show bx ≤ bx from Nat.le_refl _) _
end
end Go.Proofs.Ytljcgcllhcdleaa
