import Derived.Test.YtpbflgemhcaooaaDoorPt24
import Derived.Test.YtpbflgemhcaooaaDoorPt26
import Derived.Test.YtpbflgemhcaooaaDoorPt19
import Derived.Test.YtpbflgemhcaooaaDoorPt27
/- The reference's evaluation: where a block stands. -/
namespace Ev
/-- the names that a block laid, and those that were there -/
def Laid (l li : Nms) (mine : List (List UInt8)) : Prop := ∃ pre l0, li = pre ++ l0 ∧ l0.map Prod.fst = l.map Prod.fst ∧ pre.map Prod.fst = mine.reverse ∧ ∀ n ∈ mine, n ∉ l.map Prod.fst
theorem Laid.start (l : Nms) : Laid l l [] := ⟨[], l, rfl, rfl, rfl, fun n h => by cases h⟩
theorem Laid.same {l li l2 : Nms} {mine : List (List UInt8)} (h : Laid l li mine) (k : l2.map Prod.fst = li.map Prod.fst) : Laid l l2 mine := by
  obtain ⟨pre, l0, h1, h2, h3, h4⟩ := h
  refine ⟨l2.take pre.length, l2.drop pre.length, (List.take_append_drop _ _).symm, ?_, ?_, h4⟩
  · rw [List.map_drop, k, h1, List.map_append, List.drop_left' (by simp)]
    exact h2
  · rw [List.map_take, k, h1, List.map_append, List.take_left' (by simp)]
    exact h3
theorem Laid.let_ {l li : Nms} {mine : List (List UInt8)} (h : Laid l li mine) {n : List UInt8} {x : Int} (hn : n ∉ li.map Prod.fst) : Laid l ((n, x) :: li) (mine ++ [n]) := by
  obtain ⟨pre, l0, h1, h2, h3, h4⟩ := h
  refine ⟨(n, x) :: pre, l0, by rw [h1]; rfl, h2, by rw [List.map_cons, h3]; simp, fun m hm => ?_⟩
  rcases List.mem_append.1 hm with hm | hm
  · exact h4 m hm
  · rw [List.mem_singleton] at hm
    subst hm
    rw [← h2]
    intro k
    exact hn (by rw [h1, List.map_append]; exact List.mem_append_right _ k)
theorem nm_no {L : List Par} {l : Nms} {n : List UInt8} (h : NmOk L l) (hn : nameI L n < 0) : n ∉ l.map Prod.fst := by
  rw [h, List.mem_reverse]
  intro hm
  obtain ⟨p, hp, e⟩ := List.mem_map.1 hm
  obtain ⟨j, hj, e2⟩ := List.getElem_of_mem hp
  have key : ∀ k, j < k → k ≤ L.length → 0 ≤ nameTo L n k := by
    intro k
    induction k with
    | zero => intro h; omega
    | succ k ihk =>
      intro h1 h2
      unfold nameTo
      by_cases hx : (L[k]?).map Par.name = some n
      · rw [if_pos hx]; omega
      · rw [if_neg hx]
        refine ihk ?_ (by omega)
        have : j ≠ k := fun e3 => hx (by rw [← e3, List.getElem?_eq_getElem hj, e2]; exact congrArg some e)
        omega
  have := key L.length hj (Nat.le_refl _)
  unfold nameI at hn
  omega
/-- all that a block laid is taken away -/
theorem laid_gone {l li : Nms} {mine : List (List UInt8)} (h : Laid l li mine) (q : List UInt8) : (if q ∈ mine then none else lkN li q) = lkN (li.drop (li.length - l.length)) q := by
  obtain ⟨pre, l0, h1, h2, h3, h4⟩ := h
  have hl : l0.length = l.length := by have := congrArg List.length h2; simpa using this
  have hd : li.drop (li.length - l.length) = l0 := by
    rw [h1, List.length_append, show pre.length + l0.length - l.length = pre.length by omega, List.drop_left]
  rw [hd]
  by_cases hq : q ∈ mine
  · rw [if_pos hq, lkN_none (by rw [h2]; exact h4 q hq)]
  · rw [if_neg hq, h1, lkN_app pre l0 q (by rw [h3, List.mem_reverse]; exact hq)]
/-- behind a loop's round: names below the counter -/
theorem loop_back {A : List Par} {l : Nms} {a : Ars} {thn : List St1} {nm : List UInt8} {j : Int} (hl : WN l) (ha : WA a) (hw : ∀ t ∈ thn, WfS t) (h0 : 0 ≤ j) (h8 : j ≤ 8) :
    ∃ y, ((blE A ((nm, j) :: l) a thn).back ((nm, j) :: l)).l = (nm, y) :: ((blE A ((nm, j) :: l) a thn).back l).l := by
  have p := blE_pres A thn ((nm, j) :: l) a hw (fun p hp => by
    rcases List.mem_cons.1 hp with rfl | hp
    · exact ⟨h0, by show j ≤ 4294967295; omega⟩
    · exact hl p hp) ha
  have hb := back_fst p.nm
  obtain ⟨p1, e1⟩ := p.nm
  have hlen : (blE A ((nm, j) :: l) a thn).l.length = p1.length + (l.length + 1) := by have := congrArg List.length e1; simpa using this
  generalize blE A ((nm, j) :: l) a thn = o at *
  show ∃ y, o.l.drop (o.l.length - (l.length + 1)) = (nm, y) :: o.l.drop (o.l.length - l.length)
  have hb : (o.l.drop (o.l.length - (l.length + 1))).map Prod.fst = nm :: l.map Prod.fst := hb
  have h1 : o.l.length - (l.length + 1) = p1.length := by omega
  have h2 : o.l.length - l.length = p1.length + 1 := by omega
  rw [h1] at hb ⊢
  rw [h2]
  have hlt : p1.length < o.l.length := by omega
  rw [List.drop_eq_getElem_cons hlt] at hb ⊢
  simp only [List.map_cons] at hb
  injection hb with hb _
  refine ⟨(o.l[p1.length]).2, ?_⟩
  rw [← hb]
end Ev
namespace Go.Proofs.YtpbflgemhcaooaaDoor
open Go.RowKit
set_option linter.unusedSimpArgs false
set_option linter.unusedVariables false
theorem revStr : (Tryd.prog.info? 9).map (fun i => (i.zero, i.size, i.bytes)) = some (some (.string ⟨#[]⟩), 1, 16) := by kernel_rfl
abbrev MR (lo hi eb nb : Nat) : Nat → Prop := fun k => (lo ≤ k ∧ k < hi) ∨ k = eb ∨ k = nb
abbrev strs (mine : List (List UInt8)) : List Value := mine.map (fun n => Value.string ⟨n.toArray⟩)
def RBDo (d : Nat) : Prop := ∀ (ts : List Ev.St1) (A L : List Ev.Par) (dark : Bool) (l : Ev.Nms) (a : Ev.Ars) (eb ab nb lo hi : Nat) (v : Value) (vs : List Value) (w : World) (K : Nat → Prop),
  RIn w eb ab nb lo hi vs A a l → Ev.NmOk L l → RStL d w K v ts → (∀ k, K k → ¬ MR lo hi eb nb k) → (∀ t ∈ ts, Ev.WfS t) → ts.length ≤ 1201 → (∀ t ∈ ts, Ev.Sm t) → Ev.TyB A L dark ts →
  Calls Tryd.prog 73 #[.pointer (some ⟨eb, 0, none⟩), v, .map (some nb)] w fun r w' => r = .returned (.tuple #[]) ∧ SFr (MR lo hi eb nb) w w' ∧ EM w' eb ab lo hi vs A (Ev.blE A l a ts).a (Ev.blE A l a ts).e ∧ (∃ m, SMapIn w' nb m) ∧ ((Ev.blE A l a ts).e = none → SMapIn w' nb (nvF ((Ev.blE A l a ts).back l).l))
theorem nvF_ne (l : Ev.Nms) (n : List UInt8) (x : Int) (q : List UInt8) (h : q ≠ n) : nvF ((n, x) :: l) q = nvF l q := by
  show (if n = q then some x else Ev.lkN l q).map (Value.int .i64) = (Ev.lkN l q).map (Value.int .i64)
  rw [if_neg (fun e => h e.symm)]
theorem stu_sfr {w w' : World} {b : Nat} (h : STurned w w' b) : SFr (fun k => k = b) w w' := ⟨h.grown.os, h.grown.tape, h.grown.output, Nat.le_of_eq h.size.symm, fun k _ hne => h.other hne⟩
/-- the names' map is turned -/
theorem EM.turn {w w' : World} {eb ab nb lo hi : Nat} {vs : List Value} {A : List Ev.Par} {a : Ev.Ars} {e : Option (Option Int)} (h : EM w eb ab lo hi vs A a e) (hF : SFr (fun k => k = nb) w w') (nl : nb < lo) (ne : nb ≠ eb) (na : nb ≠ ab) : EM w' eb ab lo hi vs A a e :=
  h.sfr hF (fun k hk e => by omega)
/-- a loop of the reference at work: how far it came -/
structure RFor (w wx : World) (eb ab nb lo hi : Nat) (vs : List Value) (A : List Ev.Par) (f : Int → Ev.Nms → Ev.Ars → Ev.EO) (N : Nat) (nm : List UInt8) (li : Ev.Nms) (O : Ev.EO) (j : Nat) (mm : SMapF) (lj : Ev.Nms) (aj : Ev.Ars) (ej : Option (Option Int)) : Prop where
  m : EM wx eb ab lo hi vs A aj ej
  n : SMapIn wx nb mm
  fr : SFr (MR lo hi eb nb) w wx
  on : ej = none → lj.map Prod.fst = li.map Prod.fst ∧ Ev.WN lj ∧ Ev.WA aj ∧ (∀ q, q ≠ nm → mm q = nvF lj q) ∧ Ev.timesE f (N - j) (j : Int) lj aj = O
  off : ej.isSome = true → O = ⟨lj, aj, ej⟩
/-- a block of the reference at work: how far it came -/
structure RBl (w wx : World) (eb ab nb lo hi : Nat) (vs : List Value) (A : List Ev.Par) (dark : Bool) (l : Ev.Nms) (ts : List Ev.St1) (R : Ev.EO) (i : Nat) (li : Ev.Nms) (ai : Ev.Ars) (mine : List (List UInt8)) : Prop where
  r : RIn wx eb ab nb lo hi vs A ai li
  fr : SFr (MR lo hi eb nb) w wx
  nm : ∃ Li, Ev.NmOk Li li ∧ Ev.TyB A Li dark (ts.drop i)
  bl : Ev.blE A li ai (ts.drop i) = R
  ex : Ev.Laid l li mine
theorem RBl.next {w wx w' : World} {eb ab nb lo hi : Nat} {vs : List Value} {A : List Ev.Par} {dark : Bool} {l : Ev.Nms} {ts : List Ev.St1} {R : Ev.EO} {i : Nat} {li : Ev.Nms} {ai : Ev.Ars} {mine mine' : List (List UInt8)} {t : Ev.St1}
    (h : RBl w wx eb ab nb lo hi vs A dark l ts R i li ai mine) (ht : ts[i]? = some t) (hw : Ev.WfS t) (he : (Ev.stE A li ai t).e = none) (hr : RIn w' eb ab nb lo hi vs A (Ev.stE A li ai t).a (Ev.stE A li ai t).l) (hf : SFr (MR lo hi eb nb) w w') (hx : Ev.Laid l (Ev.stE A li ai t).l mine') :
    RBl w w' eb ab nb lo hi vs A dark l ts R (i + 1) (Ev.stE A li ai t).l (Ev.stE A li ai t).a mine' := by
  obtain ⟨Li, n1, n2⟩ := h.nm
  have hb := (bl_step (A := A) ht li ai).symm.trans h.bl
  rw [if_neg (by rw [he]; decide)] at hb
  rw [drop_cons_at ht] at n2
  have p := Ev.stE_pres A t li ai hw h.r.wn h.r.wa
  exact ⟨hr, hf, ⟨_, Ev.nextN_ok n1 p.2 he, n2.cons.2⟩, hb, hx⟩
theorem RBl.stop {w wx : World} {eb ab nb lo hi : Nat} {vs : List Value} {A : List Ev.Par} {dark : Bool} {l : Ev.Nms} {ts : List Ev.St1} {R : Ev.EO} {i : Nat} {li : Ev.Nms} {ai : Ev.Ars} {mine : List (List UInt8)} {t : Ev.St1}
    (h : RBl w wx eb ab nb lo hi vs A dark l ts R i li ai mine) (ht : ts[i]? = some t) (he : (Ev.stE A li ai t).e.isSome = true) : Ev.stE A li ai t = R := by
  have hb := (bl_step (A := A) ht li ai).symm.trans h.bl
  rw [if_pos he] at hb
  exact hb
set_option maxRecDepth 4000 in
set_option maxHeartbeats 1600000 in
/-- a block, where it has ended -/
theorem revBlEnd {eb ab nb lo hi : Nat} {vs : List Value} {A : List Ev.Par} {a : Ev.Ars} {e : Option (Option Int)} (d : Nat) (ts : List Ev.St1) (v : Value) (w : World) (K : Nat → Prop) (hr : RStL d w K v ts) (hfw : ∀ t ∈ ts, t.args.length ≤ 2) (h : EM w eb ab lo hi vs A a e) (he : e.isSome = true) :
    Calls Tryd.prog 73 #[.pointer (some ⟨eb, 0, none⟩), v, .map (some nb)] w fun r w' => r = .returned (.tuple #[]) ∧ Below w.heap.size w w' := by
  have c2 : w.cell? ⟨eb, 2, none⟩ = some (.bool true) := by
    have := h.cell 2
    rw [he] at this
    exact this
  have zt := h.lt
  obtain ⟨aa, c, rfl⟩ := hr.slice
  have hfew := hr.fewT
  cases ts with
  | nil =>
    clear h he hr
    simp only [List.length_nil]
    go_enter Tryd.func73, Tryd.ntmps73
    go_upto_region 2 with fail
    go_loopg [17, 6] 1 (fun gg s0 s1 wr => wr = w ∧ s0 = .int .i64 0 ∧ s1 = .slice none 0 0)
    case atStart => exact ⟨rfl, rfl, rfl⟩
    case round =>
    obtain ⟨rfl, rfl, rfl⟩ := hrel
    go_upto_region 39 with fail
    go_loopg [156] 1 (fun gg s0 wx => wx = wr ∧ s0 = .int .i64 0)
    case atStart => exact ⟨rfl, rfl⟩
    case round =>
    obtain ⟨rfl, rfl⟩ := hrel
    go_wp2_with fail
    go_end0
    exact ⟨rfl, Below.refl _ _⟩
  | cons t ts =>
    obtain ⟨d', b, off, c', x, hd, hva, hKb, hst, hpt⟩ := hr.el (j := 0) rfl
    obtain ⟨h1, h2⟩ := slice_two hva
    clear hva
    subst h1 h2
    obtain ⟨x4, x5, x6⟩ := x
    obtain ⟨e4, f4, rfl⟩ := hpt.1.form
    obtain ⟨e5, f5, rfl⟩ := hpt.2.1.slice
    obtain ⟨e6, f6, rfl⟩ := hpt.2.2.slice
    have HX1 := Lib.hid hpt.1
    obtain ⟨hbl, y0, y1, y2, y3, y4, y5, y6⟩ := hst
    dsimp only at y4 y5 y6
    simp only [Nat.zero_mul, Nat.add_zero] at y0 y1 y2 y3 y4 y5 y6
    have hfew2 : t.args.length ≤ 2 := hfw t (by simp)
    have HCL := Lib.hid hfew
    simp only [List.length_cons] at hfew
    clear h he hr hd hpt hfw
    go_enter Tryd.func73, Tryd.ntmps73
    go_upto_region 2 with fail
    go_loopg [17, 6] 1 (fun gg s0 s1 wr => wr = w ∧ s0 = .int .i64 0 ∧ s1 = .slice none 0 0)
    case atStart => exact ⟨rfl, rfl, rfl⟩
    case round =>
    obtain ⟨rfl, rfl, rfl⟩ := hrel
    go_upto_region 4 with fail
    have b4 : Below wr.heap.size wr (wr.alloc (.cells #[.int .i64 t.kind, .int .i64 t.n, .string ⟨t.name.toArray⟩, .bool t.secret, .slice e4 t.args.length f4, .slice e5 t.thn.length f5, .slice e6 t.els.length f6] 109)) := (Below.refl _ _).alloc (Nat.le_refl _) _
    have r4 := heap_alloc_new wr (.cells #[.int .i64 t.kind, .int .i64 t.n, .string ⟨t.name.toArray⟩, .bool t.secret, .slice e4 t.args.length f4, .slice e5 t.thn.length f5, .slice e6 t.els.length f6] 109)
    clear y0 y1 y2 y3 y4 y5 y6 hbl
    generalize wr.alloc (.cells #[.int .i64 t.kind, .int .i64 t.n, .string ⟨t.name.toArray⟩, .bool t.secret, .slice e4 t.args.length f4, .slice e5 t.thn.length f5, .slice e6 t.els.length f6] 109) = w4 at *
    have g4 := cell_of_block r4 4
    simp only [List.getElem?_toArray, List.getElem?_cons_zero, List.getElem?_cons_succ] at g4
    have zg := (Array.getElem?_eq_some_iff.1 r4).1
    have HB4 := Lib.hid b4
    replace c2 := (b4.cell (p := ⟨eb, 2, none⟩) zt).trans c2
    replace zt := Nat.lt_of_lt_of_le zt b4.size
    have HX4 := Lib.hid (show RExL 9 w4 K (.slice e4 t.args.length f4) t.args from HX1.out.on b4)
    clear b4 r4 HX1
    generalize hgg : wr.heap.size = g at g4 zg ⊢
    have HGG := Lib.hid hgg
    clear hgg
    go_upto_region 6 with fail
    go_loopw [24, 9] (fun ii vv wx => ∃ (i : Nat), i ≤ t.args.length ∧ ii = .int .i64 (i : Int) ∧ vv = .slice none 0 0 ∧ Hid (Below w4.heap.size w4 wx)) (fun ii _ _ => t.args.length - (intOf ii).toNat)
    case atStart => exact ⟨0, by omega, rfl, rfl, Lib.hid (Below.refl _ _)⟩
    case round =>
    obtain ⟨i, hi', rfl, rfl, HBR⟩ := hrel
    have c2r := (HBR.out.cell (p := ⟨eb, 2, none⟩) zt).trans c2
    have g4r := (HBR.out.cell (p := ⟨g, 4, none⟩) zg).trans g4
    have ztr := Nat.lt_of_lt_of_le zt HBR.out.size
    have zgr := Nat.lt_of_lt_of_le zg HBR.out.size
    by_cases hlt : i < t.args.length
    case pos =>
      obtain ⟨x, hx⟩ : ∃ x, t.args[i]? = some x := ⟨_, List.getElem?_eq_getElem hlt⟩
      obtain ⟨d9, b', off', c', vy, hd, hva, hKb', hxa, hxr⟩ := (show RExL 9 wr K (.slice e4 t.args.length f4) t.args from HX4.out.on HBR.out).elK hx
      obtain ⟨h1, h2⟩ := slice_two hva
      clear hva
      subst h1 h2
      obtain ⟨ya, yc, rfl⟩ := hxr.form
      obtain ⟨hbl, y0, y1, y2, y3⟩ := hxa
      clear hx hxr hd hKb'
      have HLT := Lib.hid hlt
      go_upto_region 8 with fail
      have b5 : Below wr.heap.size wr (wr.alloc (.cells #[.int .i64 x.kind, .int .i64 x.n, .string ⟨x.name.toArray⟩, .slice ya x.args.length yc] 140)) := (Below.refl _ _).alloc (Nat.le_refl _) _
      clear y0 y1 y2 y3 hbl
      generalize wr.alloc (.cells #[.int .i64 x.kind, .int .i64 x.n, .string ⟨x.name.toArray⟩, .slice ya x.args.length yc] 140) = w5 at *
      have c25 := (b5.cell (p := ⟨eb, 2, none⟩) ztr).trans c2r
      have zt5 := Nat.lt_of_lt_of_le ztr b5.size
      have HB5 := Lib.hid (HBR.out.trans (b5.mono HBR.out.size))
      clear b5 c2r g4r c2 g4
      go_wp2_with fail
      go_roundw
      case rel => exact ⟨i + 1, by have := HLT.out; omega, by go_num, rfl, HB5⟩
      case measure => have := HLT.out; simp [intOf]; omega
    case neg =>
      have HB5 := Lib.hid (HB4.out.trans (HBR.out.mono HB4.out.size))
      clear g4 g4r c2
      go_wp2_with fail
      (try simp only [Exit.inBlock, Exit.then])
      refine bodyPost_ret (results_none rfl _ _ _) rfl ?_
      exact ⟨rfl, HB5.out⟩
end Go.Proofs.YtpbflgemhcaooaaDoor
