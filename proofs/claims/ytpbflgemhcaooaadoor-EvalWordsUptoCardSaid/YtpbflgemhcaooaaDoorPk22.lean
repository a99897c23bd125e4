import Derived.Test.YtpbflgemhcaooaaDoorPk21
import Derived.Test.YtpbflgemhcaooaaDoorPk19
import Derived.Test.YtpbflgemhcaooaaDoorPk12
import Derived.Test.YtpbflgemhcaooaaDoorPk8
import Derived.Test.YtpbflgemhcaooaaDoorPk7
/- label.looker: a statement in memory; names; a clone of them. -/
namespace Go.Proofs.YtpbflgemhcaooaaDoor
open Go.RowKit
set_option linter.unusedSimpArgs false
set_option linter.unusedVariables false
theorem stCells_at : ∀ (l : List Ev.St1) (vs : List V3) (j : Nat) (t : Ev.St1) (x : V3) (i : Nat) (u : Value), vs.length = l.length → l[j]? = some t → vs[j]? = some x → (st7 t x)[i]? = some u → (stCells l vs)[j * 7 + i]? = some u
  | [], _, j, e, vx, i, u, _, h, _, _ => by simp at h
  | _ :: _, [], j, e, vx, i, u, h, _, _, _ => by simp at h
  | x :: l, y :: vs, 0, e, vx, i, u, hl, h1, h2, h3 => by
    simp at h1 h2
    subst h1 h2
    have hi := (List.getElem?_eq_some_iff.1 h3).1
    unfold stCells
    rw [Nat.zero_mul, Nat.zero_add, List.getElem?_append_left hi]
    exact h3
  | x :: l, y :: vs, j + 1, e, vx, i, u, hl, h1, h2, h3 => by
    have := stCells_at l vs j e vx i u (by simpa using hl) (by simpa using h1) (by simpa using h2) h3
    unfold stCells
    rw [List.getElem?_append_right (by show 7 ≤ _; omega)]
    rw [show (j + 1) * 7 + i - (st7 x y).length = j * 7 + i by show (j + 1) * 7 + i - 7 = _; omega]
    exact this
/-- a statement stands at b, o -/
structure StAt (w : World) (b o : Nat) (t : Ev.St1) (x : V3) : Prop where
  lt : b < w.heap.size
  c0 : w.cell? ⟨b, o, none⟩ = some (.int .i64 t.kind)
  c1 : w.cell? ⟨b, o + 1, none⟩ = some (.int .i64 t.n)
  c2 : w.cell? ⟨b, o + 2, none⟩ = some (.string ⟨t.name.toArray⟩)
  c3 : w.cell? ⟨b, o + 3, none⟩ = some (.bool t.secret)
  c4 : w.cell? ⟨b, o + 4, none⟩ = some x.1
  c5 : w.cell? ⟨b, o + 5, none⟩ = some x.2.1
  c6 : w.cell? ⟨b, o + 6, none⟩ = some x.2.2
theorem cell_sameL {w w' : World} {b : Nat} (h : w'.heap[b]? = w.heap[b]?) (o : Nat) : w'.cell? ⟨b, o, none⟩ = w.cell? ⟨b, o, none⟩ := by
  unfold World.cell?
  dsimp only
  rw [h]
theorem StAt.move {w w' : World} {b o : Nat} {t : Ev.St1} {x : V3} (h : StAt w b o t x) (hs : w.heap.size ≤ w'.heap.size) (he : w'.heap[b]? = w.heap[b]?) : StAt w' b o t x :=
  ⟨Nat.lt_of_lt_of_le h.lt hs, (cell_sameL he _).trans h.c0, (cell_sameL he _).trans h.c1, (cell_sameL he _).trans h.c2, (cell_sameL he _).trans h.c3, (cell_sameL he _).trans h.c4, (cell_sameL he _).trans h.c5, (cell_sameL he _).trans h.c6⟩
theorem StAt.fr {w w' : World} {kb b o : Nat} {t : Ev.St1} {x : V3} (h : StAt w b o t x) (hF : PFr kb w w') (hne : b ≠ kb) : StAt w' b o t x := h.move hF.size (hF.block b h.lt hne)
theorem StAt.on {w w' : World} {b o : Nat} {t : Ev.St1} {x : V3} (h : StAt w b o t x) (hb : Below w.heap.size w w') : StAt w' b o t x := h.move hb.size (hb.block b h.lt)
theorem RStL.el {d : Nat} {w : World} {K : Nat → Prop} {v : Value} {l : List Ev.St1} {j : Nat} {t : Ev.St1} (h : RStL d w K v l) (hj : l[j]? = some t) : ∃ (d' : Nat) (b off c : Nat) (x : V3), d = d' + 1 ∧ v = .slice (some ⟨b, off, none⟩) l.length c ∧ K b ∧ StAt w b (off + j * 7) t x ∧ RParts d' w K t x := by
  cases d with
  | zero => obtain ⟨rfl, rfl⟩ := h; simp at hj
  | succ d =>
    obtain ⟨vs, h1, h2, h3, h4⟩ := h
    have hlt := (List.getElem?_eq_some_iff.1 hj).1
    have hv : vs[j]? = some (vs[j]'(by omega)) := List.getElem?_eq_getElem _
    obtain ⟨b, o, c, e1, hb, _, _, hc⟩ := SL.row h2 (by omega)
    have hk := fun i u (hu : (st7 t (vs[j]'(by omega)))[i]? = some u) => hc (j * 7 + i) u (stCells_at l vs j t _ i u h1 hj hv hu)
    simp only [← Nat.add_assoc] at hk
    exact ⟨d, b, o, c, _, rfl, e1, h3 _ _ _ e1, ⟨hb, hk 0 _ rfl, hk 1 _ rfl, hk 2 _ rfl, hk 3 _ rfl, hk 4 _ rfl, hk 5 _ rfl, hk 6 _ rfl⟩, h4 j t _ hj hv⟩
theorem RStL.fr {d : Nat} {w w' : World} {kb : Nat} {K : Nat → Prop} {v : Value} {l : List Ev.St1} (h : RStL d w K v l) (hF : PFr kb w w') (hK : ∀ k, K k → k ≠ kb) : RStL d w' K v l := RStL.keep hF.size (fun k hk hkl => hF.block k hkl (hK k hk)) d v l h
theorem RExL.fr {d : Nat} {w w' : World} {kb : Nat} {K : Nat → Prop} {v : Value} {l : List Ev.Ex} (h : RExL d w K v l) (hF : PFr kb w w') (hK : ∀ k, K k → k ≠ kb) : RExL d w' K v l := RExL.keep hF.size (fun k hk hkl => hF.block k hkl (hK k hk)) d v l h
/-- names in memory, not in block kb -/
structure NmAt (w : World) (kb : Nat) (v : Value) (l : List Ev.Par) : Prop where
  r : RPars w v l
  k : inK (fun k => k ≠ kb) v
theorem NmAt.fr {w w' : World} {kb : Nat} {v : Value} {l : List Ev.Par} (h : NmAt w kb v l) (hF : PFr kb w w') : NmAt w' kb v l := ⟨SL.keep h.r h.k hF.size (fun k hk hkl => hF.block k hkl hk), h.k⟩
theorem NmAt.on {w w' : World} {kb : Nat} {v : Value} {l : List Ev.Par} (h : NmAt w kb v l) (hb : Below w.heap.size w w') : NmAt w' kb v l := ⟨h.r.on hb, h.k⟩
/-- the looker, its arrays elsewhere -/
structure LkOk (w : World) (kb : Nat) (A : List Ev.Par) (va : Value) (k : Ev.LK) : Prop where
  at_ : LkAt w kb A va k
  k : inK (fun k => k ≠ kb) va
theorem LkOk.on {w w' : World} {kb : Nat} {A : List Ev.Par} {va : Value} {k : Ev.LK} (h : LkOk w kb A va k) (hb : Below w.heap.size w w') : LkOk w' kb A va k := ⟨h.at_.on hb, h.k⟩
theorem LkOk.work {w : World} {kb : Nat} {A : List Ev.Par} {va : Value} {k : Ev.LK} (h : LkOk w kb A va k) (n : Int) : LkOk (w.setCell ⟨kb, 1, none⟩ (.int .i64 n)) kb A va ⟨n, k.lets⟩ :=
  ⟨⟨heap_setCell_same w kb 1 _ _ _ h.at_.r, SL.keep h.at_.a h.k (by simp) (fun j hj hjl => Below.heap_setCell w ⟨kb, 1, none⟩ _ j hj)⟩, h.k⟩
theorem LkOk.lets {w : World} {kb : Nat} {A : List Ev.Par} {va : Value} {k : Ev.LK} (h : LkOk w kb A va k) (n : Int) : LkOk (w.setCell ⟨kb, 2, none⟩ (.int .i64 n)) kb A va ⟨k.work, n⟩ :=
  ⟨⟨heap_setCell_same w kb 2 _ _ _ h.at_.r, SL.keep h.at_.a h.k (by simp) (fun j hj hjl => Below.heap_setCell w ⟨kb, 2, none⟩ _ j hj)⟩, h.k⟩
theorem PFr.put1 (w : World) (kb j : Nat) (v : Value) : PFr kb w (w.setCell ⟨kb, j, none⟩ v) :=
  ⟨rfl, rfl, rfl, by simp, fun k hk hne => Below.heap_setCell w ⟨kb, j, none⟩ v k hne⟩
theorem PFr.refl' (kb : Nat) (w : World) : PFr kb w w := PFr.of (Below.refl _ _)
theorem PFr.keep_nm {w : World} {kb : Nat} {v : Value} {l : List Ev.Par} (h : NmAt w kb v l) (j : Nat) (u : Value) : NmAt (w.setCell ⟨kb, j, none⟩ u) kb v l := h.fr (PFr.put1 w kb j u)
theorem one_pars (l : List Ev.Par) : ∀ u ∈ l.flatMap cellsP, u.oneCell' = true := fun u hu => by
  obtain ⟨p, _, hp⟩ := List.mem_flatMap.1 hu
  exact one_three_mk p u hp
set_option maxHeartbeats 800000 in
/-- slices.Clone of variables: a row of its own -/
theorem clonePar_own (l : List Ev.Par) (v : Value) (w : World) (h : RPars w v l) (hl : l.length ≤ 1073741824) :
    Calls Tryd.prog 56 #[v] w fun e w' => ∃ v', e = .returned v' ∧ w'.ownsRow w.heap.size 35 3 v' l.length (l.flatMap cellsP) ∧ Below w.heap.size w w' := by
  obtain ⟨i0, hi0, hz0, hz1, hz2⟩ := info_parts Tryd.varInfo
  have HI := Lib.hid (⟨hi0, hz0, hz1, hz2⟩ : _ ∧ _ ∧ _ ∧ _)
  clear hi0 hz0 hz1 hz2
  have HR := Lib.hid h
  obtain ⟨A, c, rfl, hc1, hc2⟩ := SL.form h
  have hnil : A = none → l = [] := fun ha => by
    subst ha
    cases l with
    | nil => rfl
    | cons x r =>
      obtain ⟨_, A', c', he, _, _, _, h4⟩ := h
      obtain ⟨b, o, e, _⟩ := h4 (by simp)
      subst e
      cases he
  clear h
  have heq := fun W a n c n' c' => Lib.run_eql_slice_nil (P := Tryd.prog) W 22 35 a n c n' c' Tryd.underlying22
  cases A with
  | none =>
    have hl0 := hnil rfl
    subst hl0
    clear hnil
    go_enter Tryd.func56, Tryd.ntmps56
    go_wp2
    go_ret
    exact ⟨_, rfl, World.ownsRow_nil _ _ _ _, by (repeat' first | with_reducible (first | exact Below.refl _ _ | assumption | refine Below.alloc ?_ ?_ _ | refine below_drewN ?_ _ | refine Below.drew ?_ | refine Below.setCell ?_ ?_ _ | refine Below.trans ?_ (Below.mono (by with_reducible assumption) ?_)) | go_size)⟩
  | some a =>
    clear hnil
    go_enter Tryd.func56, Tryd.ntmps56
    go_wp2_with (at_builtin; refine wpList_append_SL (B := w.heap.size) rfl (.tmp 5) (.tmp 6) _ rfl w.heap.size 35 i0 _ 32 Tryd.underlying22 HI.out.1 HI.out.2.1 HI.out.2.2.1 HI.out.2.2.2 rfl (by omega) rfl (World.ownsRow_made w #[] 0 (Nat.le_refl _) (by simp [maxLen]) (by simp)) rfl (SL.below HR.out (by (repeat' first | with_reducible (first | exact Below.refl _ _ | assumption | refine Below.alloc ?_ ?_ _ | refine below_drewN ?_ _ | refine Below.drew ?_ | refine Below.setCell ?_ ?_ _ | refine Below.trans ?_ (Below.mono (by with_reducible assumption) ?_)) | go_size))) (one_pars l) (by simp only [maxLen]; omega) (by omega) (by go_size) ?_; intro v1 w1 hown1 hg1 hat1)
    have hb1 : Below w.heap.size w w1 := (by (repeat' first | with_reducible (first | exact Below.refl _ _ | assumption | refine Below.alloc ?_ ?_ _ | refine below_drewN ?_ _ | refine Below.drew ?_ | refine Below.setCell ?_ ?_ _ | refine Below.trans ?_ (Below.mono (by with_reducible assumption) ?_)) | go_size) : Below w.heap.size w _).grown hg1 (by go_size) (by intro k hk; have hk' : w.heap.size = k := (Option.some.inj hk); omega)
    go_ret
    exact ⟨_, rfl, (by simpa using hown1), hb1⟩
end Go.Proofs.YtpbflgemhcaooaaDoor
/- A drawn region whose last operation (a counter's beginning) is taken ahead of all others. -/
namespace Go.Proofs.YtpbflgemhcaooaaDoor
open Go.RowKit
set_option linter.unusedSimpArgs false
set_option linter.unusedVariables false
section
variable {P : Program} {ops : Array Oper} {Q : Exit → Act → World → Prop}
theorem wpAny_flock_tail {ls : List Oper} {a : Act} {w : World} (n : Nat) (pr : Nat → Option Hv)
    (hl : ((List.range (ls.length - n)).all fun i => lastIn (ls.take (n + (i + 1))).toArray (n + i) && orderly (ls.take (n + (i + 1))).toArray) = true) (hn : decide (n ≤ ls.length) = true) (ho : orderly (ls.take n).toArray = true)
    (hf : flock P (ls.take n).toArray w pr (fun a' w' => wpList P ls.toArray Q (ls.drop n) a' w') 0 [] (ls.take n) a) : wpAny P .any ls.toArray Q ls.toArray.size (Array.replicate ls.toArray.size false) a w := by
  have hn := of_decide_eq_true hn
  rw [List.all_eq_true] at hl
  have hln : (ls.take n).length = n := by rw [List.length_take]; omega
  have htk : ∀ i, ls.take n ++ (ls.drop n).take i = ls.take (n + i) := fun i => by rw [List.take_add]
  have htd : ls.take n ++ ls.drop n = ls := List.take_append_drop n ls
  obtain ⟨Qh, h1, h2⟩ := tail_up (P := P) (ls.take n) _ (ls.drop n) Q rfl (fun i hi => by
      have := hl i (List.mem_range.2 (by simpa using hi))
      rw [Bool.and_eq_true] at this
      rw [htk, hln]
      exact this.1) (fun i hi => by
      cases i with
      | zero => simpa using ho
      | succ i =>
        have := hl i (List.mem_range.2 (by simp at hi; omega))
        rw [Bool.and_eq_true] at this
        rw [htk]
        exact this.2)
  rw [htd] at h1 h2
  have H := flock_start (Q := Qh) (l := ls.take n) (a := a) (w := w) (pr := pr) (flock_mono h1 _ 0 [] a hf) ho
  have h3 := h2 (ls.take n).length a w (by
    simp only [List.size_toArray] at H
    exact H)
  have e : (ls.take n).length + (ls.drop n).length = ls.toArray.size := by simp; omega
  rw [e] at h3
  exact h3
/-- operation p is the last one; nobody waits for it, no guard looks at it -/
def looseIn (ops : Array Oper) (p : Nat) : Bool :=
  decide (p + 1 = ops.size) && (List.range p).all fun k => match ops[k]? with
    | some o => o.after.all (fun e => decide (e.on < p)) && match o.guard with
      | some (g, _) => decide (g < p)
      | none => true
    | none => true
theorem looseIn_spec {p : Nat} (h : looseIn ops p = true) : p + 1 = ops.size ∧ ∀ k o, k < p → ops[k]? = some o → (∀ e ∈ o.after, e.on < p) ∧ ∀ g b, o.guard = some (g, b) → g < p := by
  unfold looseIn at h
  rw [Bool.and_eq_true, decide_eq_true_eq, List.all_eq_true] at h
  refine ⟨h.1, fun k o hk ho => ?_⟩
  have h2 := h.2 k (List.mem_range.2 hk)
  rw [ho] at h2
  simp only [Bool.and_eq_true, Array.all_eq_true_iff_forall_mem, decide_eq_true_eq] at h2
  refine ⟨h2.1, fun g b hg => ?_⟩
  have h3 := h2.2
  rw [hg] at h3
  simpa using h3
theorem loose_ready {p : Nat} (h : looseIn ops p = true) {listed : Array Bool} (hsz : listed.size = ops.size) {i : Nat} (hi : i < p) : i ∈ Region.ready .any ops listed ↔ i ∈ Region.ready .any ops.pop listed.pop := by
  obtain ⟨hp, hs⟩ := looseIn_spec h
  have hg : ∀ k b, k < p → listed.pop.getD k b = listed.getD k b := fun k b hk => by
    have h1 : k < listed.size := by omega
    have h2 : k < listed.size - 1 := by omega
    simp [Array.getD_eq_getD_getElem?, Array.getElem?_pop, h1, h2]
  rw [mem_ready, mem_ready, pop_get hp hi, hg i true hi]
  constructor
  · rintro ⟨h1, o, h2, h3⟩
    exact ⟨h1, o, h2, fun e he hb => by rw [hg e.on false ((hs i o hi h2).1 e he)]; exact h3 e he hb⟩
  · rintro ⟨h1, o, h2, h3⟩
    exact ⟨h1, o, h2, fun e he hb => by have := h3 e he hb; rwa [hg e.on false ((hs i o hi h2).1 e he)] at this⟩
theorem loose_wpOp {p i : Nat} (h : looseIn ops p = true) (hi : i < p) {K : Act → World → Prop} {a : Act} {w : World} (hh : Go.wpOp P ops.pop Q i K a w) : Go.wpOp P ops Q i K a w := by
  obtain ⟨hp, hs⟩ := looseIn_spec h
  unfold Go.wpOp at *
  rw [pop_get hp hi] at hh
  cases ho : ops[i]? with
  | none => rw [ho] at hh; exact hh
  | some o =>
    rw [ho] at hh
    simp only at hh ⊢
    rw [wanted_pop hp (hs i o hi ho).2] at hh
    exact hh
theorem loose_wpAny {p : Nat} (h : looseIn ops p = true) : ∀ (fuel : Nat) (listed : Array Bool) (a : Act) (w : World), listed.size = ops.size → listed.getD p true = true → wpAny P .any ops.pop Q fuel listed.pop a w → wpAny P .any ops Q fuel listed a w := by
  obtain ⟨hp, hs⟩ := looseIn_spec h
  have none_ : ∀ (listed : Array Bool), listed.size = ops.size → listed.getD p true = true → (Region.ready .any ops listed = [] ↔ Region.ready .any ops.pop listed.pop = []) := fun listed hsz hl => by
    constructor
    · intro h0
      cases hr : Region.ready .any ops.pop listed.pop with
      | nil => rfl
      | cons x xs =>
        have hm : x ∈ Region.ready .any ops.pop listed.pop := by rw [hr]; exact List.mem_cons_self
        obtain ⟨_, g2, g3, _⟩ := mem_ready.1 hm
        have hx : x < p := by
          have := (Array.getElem?_eq_some_iff.1 g3).1
          simp at this
          omega
        have := (loose_ready h hsz hx).2 hm
        rw [h0] at this; cases this
    · intro h0
      cases hr : Region.ready .any ops listed with
      | nil => rfl
      | cons x xs =>
        have hm : x ∈ Region.ready .any ops listed := by rw [hr]; exact List.mem_cons_self
        obtain ⟨g1, g2, g3, _⟩ := mem_ready.1 hm
        have hx : x < p := by
          have := (Array.getElem?_eq_some_iff.1 g3).1
          rcases Nat.lt_or_ge x p with h1 | h1
          · exact h1
          · have : x = p := by omega
            subst this
            rw [hl] at g1; cases g1
        have := (loose_ready h hsz hx).1 hm
        rw [h0] at this; cases this
  intro fuel
  induction fuel with
  | zero => intro listed a w hsz hl H; exact ⟨(none_ listed hsz hl).2 H.1, H.2⟩
  | succ fuel ih =>
    intro listed a w hsz hl H
    refine ⟨fun hr => H.1 ((none_ listed hsz hl).1 hr), fun i hi => ?_⟩
    obtain ⟨h1, o, h2, _⟩ := mem_ready.1 hi
    have hx : i < p := by
      have := (Array.getElem?_eq_some_iff.1 h2).1
      rcases Nat.lt_or_ge i p with h3 | h3
      · exact h3
      · have : i = p := by omega
        subst this
        rw [hl] at h1; cases h1
    refine wpOp_mono (fun a' w' h5 => ?_) (loose_wpOp h hx (H.2 i ((loose_ready h hsz hx).1 hi)))
    refine ih (listed.setIfInBounds i true) a' w' (by simpa using hsz) ?_ ?_
    · rw [getD_set_ne true (show ¬ i = p by omega)]; exact hl
    · rw [pop_set (show p + 1 = listed.size by omega) hx]; exact h5
/-- **the last operation, of which nobody hears, and that hears of nobody (a counter's beginning), ahead of all others** -/
theorem wp_region_first {id : Nat} {ls : List Oper} {a : Act} {w : World} (p : Nat) (v : Value) (d : Option Tmp) (hm : P.follows .mixedOrders = true) (hs : Region.noSelect ls.toArray = true) (h : looseIn ls.toArray p = true)
    (hf : Region.free .any ls.toArray (Array.replicate ls.toArray.size false) p = true) (hr : (Region.ready .any ls.toArray (Array.replicate ls.toArray.size false)).contains p = true)
    (hQ : ∀ c a w, Q (.panic c) (a.put d v) w → Q (.panic c) a w) (ho : ∃ o, ls.toArray[p]? = some o ∧ o.dst = d ∧ Yields P ls.toArray o v a)
    (hK : wpAny P .any (ls.dropLast).toArray Q (ls.dropLast).toArray.size (Array.replicate (ls.dropLast).toArray.size false) (a.put d v) w.drew) : (Code.region id ls.toArray true).wp P Q a w := by
  obtain ⟨o, hls, rfl, hy⟩ := ho
  obtain ⟨hp, _⟩ := looseIn_spec h
  refine wp_region_any hm ?_
  have e : ls.toArray.size = (ls.dropLast).toArray.size + 1 := by simp at hp ⊢; omega
  have e3 : ls.toArray.pop = (ls.dropLast).toArray := by simp
  rw [e]
  refine wpAny_take hls hs (by rw [← e]; exact hf) (by rw [← e]; exact hr) hQ hy ?_
  refine loose_wpAny h _ _ _ _ (by simp at hp ⊢; omega) (by simp at hp ⊢; try omega) ?_
  rw [e3]
  have e2 : ((Array.replicate ((ls.dropLast).toArray.size + 1) false).setIfInBounds p true).pop = Array.replicate (ls.dropLast).toArray.size false := by
    apply Array.ext_getElem?
    intro k
    simp only [Array.getElem?_pop, Array.getElem?_setIfInBounds, Array.getElem?_replicate, Array.size_setIfInBounds, Array.size_replicate]
    simp at hp
    by_cases hk : k < ls.length - 1
    · have : p ≠ k := by omega
      simp [this, hk]
      try omega
    · simp [hk]
      try omega
  rw [e2]
  exact hK
end
end Go.Proofs.YtpbflgemhcaooaaDoor
