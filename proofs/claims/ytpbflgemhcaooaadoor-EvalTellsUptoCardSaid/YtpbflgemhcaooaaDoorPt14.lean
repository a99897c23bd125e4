import Derived.Test.YtpbflgemhcaooaaDoorPt13
import Derived.Test.YtpbflgemhcaooaaDoorPt12
import Derived.Test.YtpbflgemhcaooaaDoorPt10
import Derived.Deep.DeepCutAuto
import Derived.Deep.CutBlock
/- A whole value stored into a box: what the heap is then. -/
namespace Go.Proofs.YtpbflgemhcaooaaDoor
open Go.RowKit
set_option linter.unusedSimpArgs false
set_option linter.unusedVariables false
theorem setCells_same {b : Nat} {T : TypeId} : ∀ (vs : List Value) (pre old post : List Value) (w : World), w.heap[b]? = some (.cells (pre ++ old ++ post).toArray T (0, 0)) → old.length = vs.length →
    (w.setCells b pre.length vs).heap[b]? = some (.cells (pre ++ vs ++ post).toArray T (0, 0))
  | [], pre, old, post, w, h, hl => by
    obtain rfl : old = [] := List.eq_nil_of_length_eq_zero hl
    exact h
  | v :: vs, pre, old, post, w, h, hl => by
    rcases old with _ | ⟨x, old⟩
    · simp at hl
    · have h1 := heap_setCell_same w b pre.length _ _ v h
      have e : ((pre ++ x :: old ++ post).toArray.setIfInBounds pre.length v) = ((pre ++ [v]) ++ old ++ post).toArray := by
        rw [List.setIfInBounds_toArray]
        congr 1
        rw [List.append_assoc, List.set_append_right (h := Nat.le_refl _)]
        simp
      rw [e] at h1
      have h2 := setCells_same vs (pre ++ [v]) old post _ h1 (by simpa using hl)
      have e2 : (pre ++ [v]).length = pre.length + 1 := by simp
      rw [e2] at h2
      show ((w.setCell ⟨b, pre.length, none⟩ v).setCells b (pre.length + 1) vs).heap[b]? = _
      rw [h2]
      simp
theorem setCells_other {b : Nat} : ∀ (vs : List Value) (o : Nat) (w : World), PFr b w (w.setCells b o vs)
  | [], o, w => PFr.refl b w
  | v :: vs, o, w => by
    show PFr b w ((w.setCell ⟨b, o, none⟩ v).setCells b (o + 1) vs)
    exact ((PFr.refl b w).set o v).trans (setCells_other vs (o + 1) _)
theorem setCells_size {b : Nat} : ∀ (vs : List Value) (o : Nat) (w : World), (w.setCells b o vs).heap.size = w.heap.size
  | [], o, w => rfl
  | v :: vs, o, w => by
    show ((w.setCell ⟨b, o, none⟩ v).setCells b (o + 1) vs).heap.size = _
    rw [setCells_size vs (o + 1) _]
    simp
theorem wpList_put_all {ops : Array Oper} {rest : List Oper} {op : Oper} {a : Act} {w : World} {Q : Exit → Act → World → Prop} (hgd : op.guard = none) (ty : TypeId) (x y : Operand) (ho : op.op = .store ty x y)
    {b : Nat} {cells old : Array Value} {T : TypeId} (hx : a.eval x = .pointer (some ⟨b, 0, none⟩)) (hy : a.eval y = .agg cells) (hb : w.heap[b]? = some (.cells old T (0, 0))) (hz : old.size = cells.size)
    (hi : (Tryd.prog.info? ty).map (·.size) = some cells.size) (h1 : cells.all (·.oneCell') = true)
    (h : ∀ w', w'.heap[b]? = some (.cells cells T (0, 0)) → PFr b w w' → w'.heap.size = w.heap.size → wpList Tryd.prog ops Q rest (a.put op.dst undef) w') : wpList Tryd.prog ops Q (op :: rest) a w := by
  have ht : w.there b 0 cells.size := hz ▸ box_there hb
  refine wpList_store_mid hgd ty x y ho b 0 cells hx hy ht hi h1 (h _ ?_ (setCells_other _ _ _) (setCells_size _ _ _))
  have hb' : w.heap[b]? = some (.cells (([] : List Value) ++ old.toList ++ []).toArray T (0, 0)) := by simpa using hb
  have h2 := setCells_same cells.toList [] old.toList [] w hb' (by simpa using hz)
  simpa using h2
end Go.Proofs.YtpbflgemhcaooaaDoor
/- The document's reader: an expression. -/
namespace Go.Proofs.YtpbflgemhcaooaaDoor
open Go.RowKit
set_option linter.unusedSimpArgs false
set_option linter.unusedVariables false
/-- what an expression's reader does -/
def ExDoes (d : Nat) : Prop := ∀ (p : Ev.PS) (b : Nat) (w : World), PAt w b p → p.s.length ≤ 1200 → VarsP b w →
  Calls Tryd.prog 104 #[.pointer (some ⟨b, 0, none⟩), .int .i64 (9 - (d : Int))] w fun e w' => ∃ va, e = .returned (exV (Ev.exprW d p).1 va) ∧ RExL d w' (fun k => w.heap.size ≤ k ∧ k < w'.heap.size) va (Ev.exprW d p).1.args ∧ PAt w' b (Ev.exprW d p).2 ∧ PFr b w w'
theorem PFr.of_new {w u v : World} {b : Nat} (h : PFr w.heap.size u v) (k : PFr b w u) (hb : b < w.heap.size) : PFr b w v :=
  ⟨h.os.trans k.os, h.tape.trans k.tape, h.output.trans k.output, Nat.le_trans k.size h.size, fun i hi hne => (h.block i (Nat.lt_of_lt_of_le hi k.size) (by omega)).trans (k.block i hi hne)⟩
theorem load_whole {w : World} {b : Nat} {T : TypeId} {cs : Array Value} {d : TypeDesc} (hu : Tryd.prog.underlying T = some d) (hd : d.isRow = true) (hs : cs.toList.toArray = cs) (hi : (Tryd.prog.info? T).map (·.size) = some cs.toList.length)
    (h : w.heap[b]? = some (.cells cs T (0, 0))) : (loadVar T ⟨b, 0, none⟩).run Tryd.prog w = .ok (.agg cs) w := by
  have h2 := run_loadVar_mid (P := Tryd.prog) w b 0 T cs.toList d (fun j v hj => by rw [Nat.zero_add, cell_of_block h j, ← hj]; simp) hu hd hi
  rw [hs] at h2
  exact h2
def zeroX : Array Value := #[.int .i64 0, .int .i64 0, .string ⟨#[]⟩, .slice none 0 0]
theorem zeroX_one : zeroX.all (·.oneCell') = true := by unfold zeroX; simp [Value.oneCell']
set_option maxRecDepth 6000 in
set_option maxHeartbeats 1600000 in
theorem expr_zero : ExDoes 0 := by
  intro p b w h hl hv
  have H := Lib.hid h
  have HE := Lib.hid (show Ev.exprW 0 p = (Ev.Ex.none, p.bad 9) from rfl)
  have hbl := h.lt
  clear h
  show Calls Tryd.prog 104 #[.pointer (some ⟨b, 0, none⟩), .int .i64 9] w _
  go_enter Tryd.func104, Tryd.ntmps104
  go_upto_region 2 with fail
  have hA : Hid (PAt (w.alloc (.cells #[.int .i64 0, .int .i64 0, .string ⟨#[]⟩, .slice none 0 0] 140)) b p) := Lib.hid (H.out.stays ((Below.refl _ _).alloc (Nat.le_refl _) _))
  have r4 : Hid ((w.alloc (.cells #[.int .i64 0, .int .i64 0, .string ⟨#[]⟩, .slice none 0 0] 140)).heap[w.heap.size]? = some (.cells zeroX 140 (0, 0))) := Lib.hid (heap_alloc_new _ _)
  have fA : PFr b w (w.alloc (.cells #[.int .i64 0, .int .i64 0, .string ⟨#[]⟩, .slice none 0 0] 140)) := PFr.of ((Below.refl _ _).alloc (Nat.le_refl _) _)
  generalize w.alloc (.cells #[.int .i64 0, .int .i64 0, .string ⟨#[]⟩, .slice none 0 0] 140) = wA at *
  go_upto_region 3 with (go_at_call 55; refine (bad_any p b 9 _ hA.out).mono ?_; rintro e w1 ⟨rfl, h1, hF1⟩)
  have r41 := Lib.hid ((hF1.block w.heap.size (Array.getElem?_eq_some_iff.1 r4.out).1 (by omega)).trans r4.out)
  have H1 := Lib.hid h1
  clear h1
  go_wp2_with (refine wpList_put_all (cells := zeroX) rfl 140 _ _ rfl rfl rfl r41.out rfl (by kernel_rfl) zeroX_one ?_; intro w2 hr2 hf2 hz2)
  have hl2 := load_whole Tryd.underlying140 (by kernel_rfl) (by rfl) (by kernel_rfl) hr2
  refine bodyPost_ret (v := .agg zeroX) (by simp [results, Tryd.results104, Sem.run_bind, asAddr, Act.put, hl2]) rfl ?_
  have s1 := hF1.size
  have f2 := PFr.of_new hf2 (fA.trans hF1) hbl
  refine ⟨.slice none 0 0, by rw [HE.out]; rfl, ⟨by rw [HE.out]; rfl, rfl⟩, ?_, f2⟩
  rw [HE.out]
  exact (hf2.block b H1.out.lt (by omega)).trans H1.out
section
variable {w wx wy : World} {b t8 : Nat} {h h' : Ev.HeadX}
def headCells (h : Ev.HeadX) : Array Value := #[.int .i64 h.kind, .int .i64 h.n, .string ⟨h.name.toArray⟩, .slice none 0 0]
theorem HeadAt.set (H : HeadAt w wx b t8 h) (hb : b < w.heap.size) (ht : w.heap.size < t8) (j : Nat) (v : Value) (hc : (headCells h).setIfInBounds j v = headCells h') (hq : h'.q = h.q) : HeadAt w (wx.setCell ⟨t8, j, none⟩ v) b t8 h' := by
  refine ⟨?_, ⟨H.fr.os, H.fr.tape, H.fr.output, by simpa using H.fr.size, fun k hk hne => ?_⟩, ?_, ?_⟩
  · rw [hq]
    exact (Below.heap_setCell wx ⟨t8, j, none⟩ v b (by show b ≠ t8; omega)).trans H.at_
  · exact (Below.heap_setCell wx ⟨t8, j, none⟩ v k (by show k ≠ t8; omega)).trans (H.fr.block k hk hne)
  · exact (Below.heap_setCell wx ⟨t8, j, none⟩ v _ (by show w.heap.size ≠ t8; omega)).trans H.r4
  · have h1 := heap_setCell_same wx t8 j _ _ v H.r8
    rw [h1]
    show some (Obj.cells ((headCells h).setIfInBounds j v) _ _) = _
    rw [hc]
    rfl
theorem HeadAt.move (H : HeadAt w wx b t8 h) (hb : b < w.heap.size) (ht : w.heap.size < t8) {q : Ev.PS} (hF : PFr b wx wy) (hA : PAt wy b q) : HeadAt w wy b t8 ⟨h.kind, h.n, h.name, h.count, q⟩ := by
  have l4 := (Array.getElem?_eq_some_iff.1 H.r4).1
  have l8 := (Array.getElem?_eq_some_iff.1 H.r8).1
  exact ⟨hA, H.fr.trans hF, (hF.block _ l4 (by omega)).trans H.r4, (hF.block _ l8 (by omega)).trans H.r8⟩
theorem HeadAt.on (H : HeadAt w wx b t8 h) (hb : b < w.heap.size) (ht : w.heap.size < t8) (hB : Below wx.heap.size wx wy) : HeadAt w wy b t8 h := H.move hb ht (PFr.of hB) (H.at_.stays hB)
theorem HeadAt.cell (H : HeadAt w wx b t8 h) (j : Nat) : wx.cell? ⟨t8, j, none⟩ = (headCells h)[j]? := cell_of_block H.r8 j
theorem HeadAt.free (H : HeadAt w wx b t8 h) (j : Nat) : wx.frozen? ⟨t8, j, none⟩ = false := by
  unfold World.frozen?
  rw [H.r8]
  simp
end
theorem kept_ps {w w' : World} {b base size n : Nat} {e : TypeId} {v : Value} {xs : List Value} (h : w.ownsRow base e size v n xs) (hF : PFr b w w') (hne : v.ownBlock ≠ some b) : w'.ownsRow base e size v n xs :=
  h.kept (row := some b) ⟨hF.os, hF.tape, hF.output, hF.size, fun k hk hr => hF.block k hk (fun e => hr (by rw [e]))⟩ (.inr hne)
set_option maxRecDepth 6000 in
set_option maxHeartbeats 6400000 in
theorem expr_succ (d : Nat) (hd : d ≤ 8) (ih : ExDoes d) : ExDoes (d + 1) := by
  intro p b w h hl hv
  have H := Lib.hid h
  have HV := Lib.hid hv
  have hbl := h.lt
  have T1 := take_in p hl
  have T2 := take_in (Ev.takeW p).2 T1.2
  have C1 := Lib.hid (fun u hu => take_any p b u hu hl)
  have C2 := Lib.hid (fun u hu => take_any (Ev.takeW p).2 b u hu T1.2)
  have EP := Lib.hid (@Ev.expr_paren d p)
  have EN := Lib.hid (@Ev.expr_num d p)
  have EM := Lib.hid (@Ev.expr_name d p)
  generalize (Ev.takeW (Ev.takeW p).2).1 = v2 at *
  generalize (Ev.takeW (Ev.takeW p).2).2 = p2 at *
  generalize (Ev.takeW p).1 = v1 at *
  generalize (Ev.takeW p).2 = p1 at *
  generalize Ev.exprW (d + 1) p = R at *
  obtain ⟨deep, hdp⟩ : ∃ deep : Int, 9 - ((d + 1 : Nat) : Int) = deep := ⟨_, rfl⟩
  rw [hdp]
  have gd : ¬ 8 < deep := by omega
  have HDP := Lib.hid (show deep + 1 = 9 - (d : Int) by omega)
  have hdl : -1 ≤ deep := by omega
  clear h hv hdp
  go_enter Tryd.func104, Tryd.ntmps104
  go_upto_region 4 with fail
  have hA : Hid (PAt (w.alloc (.cells #[.int .i64 0, .int .i64 0, .string ⟨#[]⟩, .slice none 0 0] 140)) b p) := Lib.hid (H.out.stays ((Below.refl _ _).alloc (Nat.le_refl _) _))
  have r4 : Hid ((w.alloc (.cells #[.int .i64 0, .int .i64 0, .string ⟨#[]⟩, .slice none 0 0] 140)).heap[w.heap.size]? = some (.cells zeroX 140 (0, 0))) := Lib.hid (heap_alloc_new _ _)
  have fA : PFr b w (w.alloc (.cells #[.int .i64 0, .int .i64 0, .string ⟨#[]⟩, .slice none 0 0] 140)) := PFr.of ((Below.refl _ _).alloc (Nat.le_refl _) _)
  generalize w.alloc (.cells #[.int .i64 0, .int .i64 0, .string ⟨#[]⟩, .slice none 0 0] 140) = wA at *
  go_upto_region 5 with (go_at_call 84; refine (C1.out _ hA.out).mono ?_; rintro e w1 ⟨rfl, h1, hF1⟩)
  have H1 := Lib.hid h1
  replace r4 := Lib.hid ((hF1.block w.heap.size (Array.getElem?_eq_some_iff.1 r4.out).1 (by omega)).trans r4.out)
  replace fA := fA.trans hF1
  clear h1 hF1 C1 hA H
  by_cases h40 : v1 = [40]
  case neg =>
    have g1 : (v1 != [40]) = true := bne_iff_ne.2 h40
    have g1b : (v1 == [40]) = false := beq_eq_false_iff_ne.2 h40
    have CN := Lib.hid (fun u hu => refNum_any v1 u T1.1 hu)
    have CM := Lib.hid (fun u => refName_any v1 u T1.1)
    replace EN := Lib.hid (EN.out h40)
    replace EM := Lib.hid (EM.out h40)
    clear EP C2 h40 T2
    generalize Ev.atoiN v1 = n at *
    cases hn : Ev.numOk v1 with
    | true => as_aux_lemma =>
      rw [hn] at CN
      have HE := Lib.hid (EN.out hn)
      clear EN EM hn
      go_upto_region 8 with (go_at_call 86; refine (CN.out _ (HV.out.to fA).here).mono ?_; rintro e w2 ⟨rfl, hb2⟩)
      replace r4 := Lib.hid ((hb2.block w.heap.size (Array.getElem?_eq_some_iff.1 r4.out).1).trans r4.out)
      have H2 := Lib.hid (H1.out.stays hb2)
      replace fA := fA.on hb2
      clear hb2 H1
      go_wp2_with (refine wpList_put_all (cells := #[.int .i64 1, .int .i64 n, .string ⟨#[]⟩, .slice none 0 0]) rfl 140 _ _ rfl rfl rfl r4.out rfl (by kernel_rfl) (by simp [Value.oneCell']) ?_; intro w3 hr3 hf3 hz3)
      have hl2 := load_whole Tryd.underlying140 (by kernel_rfl) (by rfl) (by kernel_rfl) hr3
      refine bodyPost_ret (v := .agg #[.int .i64 1, .int .i64 n, .string ⟨#[]⟩, .slice none 0 0]) (by simp [results, Tryd.results104, Sem.run_bind, asAddr, Act.put, hl2]) rfl ?_
      refine ⟨.slice none 0 0, by rw [HE.out]; rfl, by rw [HE.out]; exact RExL.nil_ _ _ _, ?_, PFr.of_new hf3 fA hbl⟩
      rw [HE.out]
      exact (hf3.block b H2.out.lt (by omega)).trans H2.out
    | false => as_aux_lemma =>
      rw [hn] at CN
      have HE := Lib.hid (EM.out hn)
      clear EN EM hn
      go_upto_region 9 with (go_at_call 86; refine (CN.out _ (HV.out.to fA).here).mono ?_; rintro e w2 ⟨rfl, hb2⟩)
      replace r4 := Lib.hid ((hb2.block w.heap.size (Array.getElem?_eq_some_iff.1 r4.out).1).trans r4.out)
      have H2 := Lib.hid (H1.out.stays hb2)
      replace fA := fA.on hb2
      clear hb2 H1
      cases hm : Ev.nameOk v1 with
      | true =>
        rw [hm] at CM
        have HX := Lib.hid (HE.out.trans (by rw [if_pos hm]))
        clear hm HE
        go_upto_region 11 with (go_at_call 85; refine (CM.out _).mono ?_; rintro e w4 ⟨rfl, hb4⟩)
        replace r4 := Lib.hid ((hb4.block w.heap.size (Array.getElem?_eq_some_iff.1 r4.out).1).trans r4.out)
        replace H2 := Lib.hid (H2.out.stays hb4)
        replace fA := fA.on hb4
        go_wp2_with (refine wpList_put_all (cells := #[.int .i64 2, .int .i64 0, .string ⟨v1.toArray⟩, .slice none 0 0]) rfl 140 _ _ rfl rfl rfl r4.out rfl (by kernel_rfl) (by simp [Value.oneCell']) ?_; intro w3 hr3 hf3 hz3)
        have hl2 := load_whole Tryd.underlying140 (by kernel_rfl) (by rfl) (by kernel_rfl) hr3
        refine bodyPost_ret (v := .agg #[.int .i64 2, .int .i64 0, .string ⟨v1.toArray⟩, .slice none 0 0]) (by simp [results, Tryd.results104, Sem.run_bind, asAddr, Act.put, hl2]) rfl ?_
        refine ⟨.slice none 0 0, by rw [HX.out]; rfl, by rw [HX.out]; exact RExL.nil_ _ _ _, ?_, PFr.of_new hf3 fA hbl⟩
        rw [HX.out]
        exact (hf3.block b H2.out.lt (by omega)).trans H2.out
      | false =>
        rw [hm] at CM
        have HX := Lib.hid (HE.out.trans (by rw [if_neg (by rw [hm]; decide)]))
        clear hm HE
        go_upto_region 10 with (go_at_call 85; refine (CM.out _).mono ?_; rintro e w4 ⟨rfl, hb4⟩)
        replace r4 := Lib.hid ((hb4.block w.heap.size (Array.getElem?_eq_some_iff.1 r4.out).1).trans r4.out)
        replace H2 := Lib.hid (H2.out.stays hb4)
        replace fA := fA.on hb4
        clear hb4
        go_upto_region 11 with (go_at_call 55; refine (bad_any p1 b 7 _ H2.out).mono ?_; rintro e w5 ⟨rfl, h5, hF5⟩)
        replace r4 := Lib.hid ((hF5.block w.heap.size (Array.getElem?_eq_some_iff.1 r4.out).1 (by omega)).trans r4.out)
        replace H2 := Lib.hid h5
        replace fA := fA.trans hF5
        clear h5 hF5
        go_wp2_with (refine wpList_put_all (cells := #[.int .i64 2, .int .i64 0, .string ⟨v1.toArray⟩, .slice none 0 0]) rfl 140 _ _ rfl rfl rfl r4.out rfl (by kernel_rfl) (by simp [Value.oneCell']) ?_; intro w3 hr3 hf3 hz3)
        have hl2 := load_whole Tryd.underlying140 (by kernel_rfl) (by rfl) (by kernel_rfl) hr3
        refine bodyPost_ret (v := .agg #[.int .i64 2, .int .i64 0, .string ⟨v1.toArray⟩, .slice none 0 0]) (by simp [results, Tryd.results104, Sem.run_bind, asAddr, Act.put, hl2]) rfl ?_
        refine ⟨.slice none 0 0, by rw [HX.out]; rfl, by rw [HX.out]; exact RExL.nil_ _ _ _, ?_, PFr.of_new hf3 fA hbl⟩
        rw [HX.out]
        exact (hf3.block b H2.out.lt (by omega)).trans H2.out
  case pos =>
  subst h40
  have HE := Lib.hid (EP.out rfl)
  clear EP EN EM
  go_upto_region 13 with (go_at_call 84; refine (C2.out _ H1.out).mono ?_; rintro e w2 ⟨rfl, h2, hF2⟩)
  replace r4 := Lib.hid ((hF2.block w.heap.size (Array.getElem?_eq_some_iff.1 r4.out).1 (by omega)).trans r4.out)
  replace fA := fA.trans hF2
  have zr := (Array.getElem?_eq_some_iff.1 r4.out).1
  have H2 := Lib.hid h2
  clear h2 hF2 C2 H1
  go_upto_region 15 with fail
  have HH : Hid (HeadAt w (w2.alloc (.cells #[.int .i64 0, .int .i64 0, .string ⟨#[]⟩, .slice none 0 0] 140)) b w2.heap.size ⟨0, 0, [], 2, p2⟩) := Lib.hid (by
    have hB : Below w2.heap.size w2 (w2.alloc (.cells #[.int .i64 0, .int .i64 0, .string ⟨#[]⟩, .slice none 0 0] 140)) := (Below.refl _ _).alloc (Nat.le_refl _) _
    exact ⟨H2.out.stays hB, fA.on hB, (hB.block _ zr).trans r4.out, heap_alloc_new _ _⟩)
  clear H2 fA r4
  generalize w2.alloc (.cells #[.int .i64 0, .int .i64 0, .string ⟨#[]⟩, .slice none 0 0] 140) = w3 at *
  generalize w2.heap.size = t8 at *
  obtain ⟨hx, hhx⟩ : ∃ hx, Ev.headW v2 p2 = hx := ⟨_, rfl⟩
  rw [hhx] at HE
  have HX := Lib.hid hhx
  have HQL := Lib.hid (show hx.q.s.length ≤ 1200 by
    rw [← hhx]
    unfold Ev.headW
    have h1 := (Ev.name_steps p2).1.len
    have h2 := Ev.bad_s p2 1
    split
    · exact T2.2
    · split
      · show (Ev.nameW p2).2.s.length ≤ 1200
        have := T2.2; omega
      · show (if Ev.signOf v2 = 0 then p2.bad 1 else p2).s.length ≤ 1200
        split
        · rw [h2]; exact T2.2
        · exact T2.2)
  have HC3 := Lib.hid (show hx.count ≤ 3 by
    rw [← hhx]
    unfold Ev.headW
    split
    · exact Nat.le_refl _
    · split <;> exact Nat.le_of_ble_eq_true rfl)
  clear hhx
  go_upto_block 0 with fail
  go_cut [9] (fun x wx => x = .int .i64 (hx.count : Int) ∧ Hid (HeadAt w wx b t8 hx))
  case first => as_aux_lemma =>
    have c0 := HH.out.cell 0
    have f0 := HH.out.free 0
    have z8 := (Array.getElem?_eq_some_iff.1 HH.out.r8).1
    simp only [headCells] at c0
    by_cases h1 : v2 = [115, 101, 108]
    case pos =>
      have HY := Lib.hid (show (⟨4, 0, [], 3, p2⟩ : Ev.HeadX) = hx by rw [← HX.out]; unfold Ev.headW; rw [if_pos h1])
      subst h1
      go_wp2_with fail
      go_meet
      exact ⟨by rw [← HY.out]; rfl, Lib.hid (by rw [← HY.out]; exact HH.out.set hbl zr 0 _ rfl rfl)⟩
    case neg =>
    have g1 : (v2 == [115, 101, 108]) = false := beq_eq_false_iff_ne.2 h1
    by_cases h2 : v2 = [97, 116]
    case pos =>
      have HY := Lib.hid (show (⟨5, 0, (Ev.nameW p2).1, 1, (Ev.nameW p2).2⟩ : Ev.HeadX) = hx by rw [← HX.out]; unfold Ev.headW; rw [if_neg h1, if_pos h2])
      subst h2
      have CN := Lib.hid (name_any p2 b w3 HH.out.at_ T2.2)
      generalize (Ev.nameW p2).1 = nm at *
      generalize (Ev.nameW p2).2 = q2 at *
      clear c0 f0 h1 HX z8
      go_wp2_with (go_at_call 50; refine CN.out.mono ?_; rintro e w4 ⟨rfl, h4, hF4⟩; have H4 := Lib.hid (HH.out.move hbl zr hF4 h4); have c0 : w4.cell? ⟨t8, 0, none⟩ = some (.int .i64 0) := H4.out.cell 0; have c2 : w4.cell? ⟨t8, 2, none⟩ = some (.string ⟨#[]⟩) := H4.out.cell 2; have f0 := H4.out.free 0; have f2 := H4.out.free 2; have z8 := (Array.getElem?_eq_some_iff.1 H4.out.r8).1)
      go_meet
      exact ⟨by rw [← HY.out]; rfl, Lib.hid (by rw [← HY.out]; exact (H4.out.set (h' := ⟨5, 0, [], 2, q2⟩) hbl zr 0 _ rfl rfl).set hbl zr 2 _ rfl rfl)⟩
    case neg =>
    have g2 : (v2 == [97, 116]) = false := beq_eq_false_iff_ne.2 h2
    have HY := Lib.hid (show (⟨3, Ev.signOf v2, [], 2, if Ev.signOf v2 = 0 then p2.bad 1 else p2⟩ : Ev.HeadX) = hx by rw [← HX.out]; unfold Ev.headW; rw [if_neg h1, if_neg h2])
    clear h1 h2 HX
    go_upto_region 17 with fail
    have H3 := Lib.hid (HH.out.set (h' := ⟨3, 0, [], 2, p2⟩) hbl zr 0 (.int .i64 3) rfl rfl)
    clear HH c0 f0 z8
    generalize w3.setCell ⟨t8, 0, none⟩ (.int .i64 3) = wC at *
    have zC : t8 < wC.heap.size := (Array.getElem?_eq_some_iff.1 H3.out.r8).1
    go_upto_region 18 with (go_at_call 124; refine (signs_any _).mono ?_; rintro e w4 ⟨rfl, hw4⟩; have HW4 := Lib.hid hw4; clear hw4)
    have hw4 := HW4.out
    clear HW4
    have HN0 : Hid (w4.heap[wC.heap.size]? = some (.cells signCells 9 (0, 0))) := Lib.hid (by subst hw4; exact heap_alloc_new _ _)
    have hb4 : Below wC.heap.size wC w4 := by subst hw4; (repeat' first | with_reducible (first | exact Below.refl _ _ | assumption | refine Below.alloc ?_ ?_ _ | refine below_drewN ?_ _ | refine Below.drew ?_ | refine Below.setCell ?_ ?_ _ | refine Below.trans ?_ (Below.mono (by with_reducible assumption) ?_)) | go_size)
    clear hw4
    have H4 := Lib.hid (H3.out.on hbl zr hb4)
    clear H3 hb4
    go_loopw [43] (fun jj wx => ∃ (j : Nat) (N : Int), j ≤ 13 ∧ jj = .int .i64 (j : Int) ∧ Hid (N = ((Ev.signTo v2 (j - 1) : Nat) : Int)) ∧ Hid (HeadAt w wx b t8 ⟨3, N, [], 2, p2⟩) ∧ Hid (wx.heap[wC.heap.size]? = some (.cells signCells 9 (0, 0)))) (fun jj _ => 13 - (intOf jj).toNat)
    case atStart => exact ⟨0, 0, by omega, rfl, Lib.hid rfl, H4, HN0⟩
    case round =>
    clear H4 HN0
    obtain ⟨j, N, hj, rfl, HN, H5, HN0⟩ := hrel
    have zn : wC.heap.size < wr.heap.size := (Array.getElem?_eq_some_iff.1 HN0.out).1
    have c1 : wr.cell? ⟨t8, 1, none⟩ = some (.int .i64 N) := H5.out.cell 1
    have f1 := H5.out.free 1
    have z8 := (Array.getElem?_eq_some_iff.1 H5.out.r8).1
    by_cases hjl : j < 13
    case pos =>
      obtain ⟨x, hx1⟩ : ∃ x, ([] :: Ev.opSigns).getD j [] = x := ⟨_, rfl⟩
      have n1 : wr.cell? ⟨wC.heap.size, j, none⟩ = some (.string ⟨(x).toArray⟩) := (cell_of_block HN0.out j).trans (signs_at hjl hx1)
      rcases j with _ | j
      · go_wp2_with fail
        go_roundw
        case rel => exact ⟨1, N, by omega, by go_num, HN, H5, HN0⟩
        case measure => simp [intOf]
      · have hx2 : Ev.opSigns.getD j [] = x := hx1
        have HST := Lib.hid (show Ev.signTo v2 (j + 1) = if x = v2 then j + 1 else Ev.signTo v2 j by rw [← hx2]; rfl)
        have gj : (0 : Int) < ((j + 1 : Nat) : Int) := by omega
        clear hx1 hx2
        by_cases hxn : x = v2
        · have HS2 := Lib.hid (show Ev.signTo v2 (j + 1) = j + 1 by rw [HST.out, if_pos hxn])
          subst hxn
          clear HST
          go_wp2_with fail
          go_roundw
          case rel =>
            refine ⟨j + 1 + 1, ((j + 1 : Nat) : Int), by omega, by go_num, Lib.hid (by show _ = ((Ev.signTo x (j + 1) : Nat) : Int); rw [HS2.out]), Lib.hid (H5.out.set hbl zr 1 _ ?_ rfl), Lib.hid ((Below.heap_setCell wr ⟨t8, 1, none⟩ _ _ (by show wC.heap.size ≠ t8; omega)).trans HN0.out)⟩
            rfl
          case measure => simp [intOf]; omega
        · have HS2 := Lib.hid (show Ev.signTo v2 (j + 1) = Ev.signTo v2 j by rw [HST.out, if_neg hxn])
          have gx : (x == v2) = false := beq_eq_false_iff_ne.2 hxn
          clear HST
          go_wp2_with fail
          go_roundw
          case rel => exact ⟨j + 1 + 1, N, by omega, by go_num, Lib.hid (by show _ = ((Ev.signTo v2 (j + 1) : Nat) : Int); rw [HS2.out]; exact HN.out), H5, HN0⟩
          case measure => simp [intOf]; omega
    case neg =>
    obtain rfl : j = 13 := by omega
    have HN2 := Lib.hid (show N = ((Ev.signOf v2 : Nat) : Int) from HN.out)
    by_cases h0 : N = 0
    · have g0 : (N == 0) = true := beq_iff_eq.2 h0
      have HZ := Lib.hid (show Ev.signOf v2 = 0 by have := HN2.out; omega)
      clear f1
      subst h0
      go_wp2_with (go_at_call 55; refine (bad_any p2 b 1 _ H5.out.at_).mono ?_; rintro e w6 ⟨rfl, h6, hF6⟩)
      go_meet
      exact ⟨by rw [← HY.out]; rfl, Lib.hid (by rw [← HY.out, HZ.out]; exact H5.out.move hbl zr hF6 h6)⟩
    · have g0 : (N == 0) = false := beq_eq_false_iff_ne.2 h0
      have HZ := Lib.hid (show ¬ Ev.signOf v2 = 0 by have := HN2.out; omega)
      clear f1 h0
      go_wp2_with fail
      go_meet
      exact ⟨by rw [← HY.out]; rfl, Lib.hid (by rw [← HY.out, if_neg HZ.out, ← HN2.out]; exact H5.out)⟩
  case rest => as_aux_lemma =>
  obtain ⟨rfl, HH2⟩ := hcut
  clear HH HX T2
  have hq1 : hx.q.s.length ≤ 1200 := HQL.out
  obtain ⟨i1, hi1, hz0, hz1, hz2⟩ := info_parts Tryd.exprInfo
  have IC := Lib.hid (⟨hi1, hz0, hz1, hz2⟩ : _ ∧ _ ∧ _ ∧ _)
  clear hi1 hz0 hz1 hz2 HQL
  go_upto_region 30 with fail
  go_loopw [73] (fun ii wr => ∃ (i : Nat) (va : Value) (l : List Ev.Ex) (q : Ev.PS), i ≤ hx.count ∧ ii = .int .i64 (i : Int) ∧ l.length = i ∧ Hid (PAt wr b q) ∧ Hid (PFr b w wr) ∧ Hid (wr.heap[w.heap.size]? = some (.cells zeroX 140 (0, 0))) ∧ Hid (wr.heap[t8]? = some (.cells #[.int .i64 hx.kind, .int .i64 hx.n, .string ⟨hx.name.toArray⟩, va] 140 (0, 0))) ∧ Hid (ExRow wr w.heap.size (fun k => w.heap.size < k ∧ k ≠ t8) d va l) ∧ Hid (va.ownBlock ≠ some t8 ∧ va.ownBlock ≠ some b ∧ va.ownBlock ≠ some w.heap.size) ∧ q.s.length ≤ 1200 ∧ Hid (Ev.timesW (Ev.exprW d) hx.count hx.q = (l ++ (Ev.timesW (Ev.exprW d) (hx.count - i) q).1, (Ev.timesW (Ev.exprW d) (hx.count - i) q).2))) (fun ii _ => hx.count - (intOf ii).toNat)
  case atStart => exact ⟨0, .slice none 0 0, [], hx.q, by omega, rfl, rfl, Lib.hid HH2.out.at_, Lib.hid HH2.out.fr, Lib.hid HH2.out.r4, Lib.hid HH2.out.r8, Lib.hid (ExRow.nil_ _ _ _ _), Lib.hid ⟨fun h => by simp [Value.ownBlock] at h, fun h => by simp [Value.ownBlock] at h, fun h => by simp [Value.ownBlock] at h⟩, hq1, Lib.hid rfl⟩
  case round =>
  clear HH2 hq1
  obtain ⟨i, va, l, q, hi, rfl, hli, HA, HF, R4, R8, HR, HO, hql, HT⟩ := hrel
  have z4 := (Array.getElem?_eq_some_iff.1 R4.out).1
  have z8 := (Array.getElem?_eq_some_iff.1 R8.out).1
  have hwr := HF.out.size
  by_cases hlt : i < hx.count
  case pos => as_aux_lemma =>
    obtain ⟨vs, hv1, hv2, hv3⟩ := HR.out
    obtain ⟨A, cc, rfl, hc1, hc2⟩ := SL.form (SL.of_own hv2)
    have HT2 : Hid (Ev.timesW (Ev.exprW d) (hx.count - i) q = ((Ev.exprW d q).1 :: (Ev.timesW (Ev.exprW d) (hx.count - (i + 1)) (Ev.exprW d q).2).1, (Ev.timesW (Ev.exprW d) (hx.count - (i + 1)) (Ev.exprW d q).2).2)) := Lib.hid (by rw [show hx.count - i = (hx.count - (i + 1)) + 1 by omega]; rfl)
    have hsl := (Ev.expr_steps d q).1.len
    have CI := Lib.hid (fun u hu hw => ih q b u hu hql hw)
    rw [← HDP.out] at CI
    simp only [exV] at CI
    obtain ⟨ex, hex⟩ : ∃ ex, (Ev.exprW d q).1 = ex := ⟨_, rfl⟩
    obtain ⟨q1, hq1⟩ : ∃ q1, (Ev.exprW d q).2 = q1 := ⟨_, rfl⟩
    rw [hex, hq1] at CI HT2
    rw [hq1] at hsl
    clear hex hq1 HR
    have HV1 := Lib.hid hv1
    have HV2 := Lib.hid hv2
    have HV3 := Lib.hid hv3
    clear hv1 hv2 hv3
    have hcnt : l.length < 3 := by have := HC3.out; omega
    have c3 : wr.cell? ⟨t8, 3, none⟩ = some (.slice A l.length cc) := (cell_of_block R8.out 3).trans rfl
    subst hli
    go_upto_region 31 with fail
    refine wp_region_last (fun w' => w'.cell? ⟨t8, 3, none⟩ = some (.slice A l.length cc)) [(0, true), (1, true), (2, true), (3, true), (4, true), (5, false), (6, false), (7, false), (8, true)] 9 (by kernel_rfl) (by kernel_rfl) (by kernel_rfl) (by kernel_rfl) (by kernel_rfl) (by decide) (c3) ?_
    simp only [List.pop_toArray, List.dropLast_cons_cons, List.dropLast_singleton]
    apply trail_light
    case hi => (simp only [List.getElem?_toArray, List.getElem?_cons_zero, List.getElem?_cons_succ]; exact rfl)
    case hl => first | exact light_no (by rfl) | ((first | apply light_plain rfl | apply light_yes (by rfl)); intro w9 hS9; skip; first | (exact exec_load rfl rfl (by first | exact ldi9 | exact ldt9)) | (go_simp; try rfl))
    case hQ => exact fun _ _ _ h => h
    (try simp only [Act.put, List.setIfInBounds_toArray, List.set_cons_zero, List.set_cons_succ])
    apply trail_light
    case hi => (simp only [List.getElem?_toArray, List.getElem?_cons_zero, List.getElem?_cons_succ]; exact rfl)
    case hl => first | exact light_no (by rfl) | ((first | apply light_plain rfl | apply light_yes (by rfl)); intro w9 hS9; skip; first | (exact exec_load rfl rfl (by first | exact ldi9 | exact ldt9)) | (go_simp; try rfl))
    case hQ => exact fun _ _ _ h => h
    (try simp only [Act.put, List.setIfInBounds_toArray, List.set_cons_zero, List.set_cons_succ])
    apply trail_light
    case hi => (simp only [List.getElem?_toArray, List.getElem?_cons_zero, List.getElem?_cons_succ]; exact rfl)
    case hl => first | exact light_no (by rfl) | ((first | apply light_plain rfl | apply light_yes (by rfl)); intro w9 hS9; skip; first | (exact exec_load rfl rfl (by first | exact ldi9 | exact ldt9)) | (go_simp; try rfl))
    case hQ => exact fun _ _ _ h => h
    (try simp only [Act.put, List.setIfInBounds_toArray, List.set_cons_zero, List.set_cons_succ])
    apply trail_light
    case hi => (simp only [List.getElem?_toArray, List.getElem?_cons_zero, List.getElem?_cons_succ]; exact rfl)
    case hl => first | exact light_no (by rfl) | ((first | apply light_plain rfl | apply light_yes (by rfl)); intro w9 hS9; skip; first | (exact exec_load rfl rfl (by first | exact ldi9 | exact ldt9)) | (go_simp; try rfl))
    case hQ => exact fun _ _ _ h => h
    (try simp only [Act.put, List.setIfInBounds_toArray, List.set_cons_zero, List.set_cons_succ])
    apply trail_light
    case hi => (simp only [List.getElem?_toArray, List.getElem?_cons_zero, List.getElem?_cons_succ]; exact rfl)
    case hl => first | exact light_no (by rfl) | ((first | apply light_plain rfl | apply light_yes (by rfl)); intro w9 hS9; skip; first | (exact exec_load rfl rfl (by first | exact ldi9 | exact ldt9)) | (go_simp; try rfl))
    case hQ => exact fun _ _ _ h => h
    (try simp only [Act.put, List.setIfInBounds_toArray, List.set_cons_zero, List.set_cons_succ])
    apply trail_heavy
    case hi => (simp only [List.getElem?_toArray, List.getElem?_cons_zero, List.getElem?_cons_succ]; exact rfl)
    go_wp2_with (first | (go_at_call 104; refine (CI.out wr.drew HA.out ((HV.out.to HF.out).to (PFr.of ((Below.refl _ _).drew)))).mono ?_; rintro e w5 ⟨x, rfl, hx5, h5, hF5'⟩; have hF5 : PFr b wr w5 := (PFr.of ((Below.refl _ _).drew)).trans hF5'; have b5 : w5.heap[t8]? = some (.cells #[.int .i64 hx.kind, .int .i64 hx.n, .string ⟨hx.name.toArray⟩, .slice A l.length cc] 140 (0, 0)) := (hF5.block t8 z8 (by omega)).trans R8.out; have c5 : w5.cell? ⟨t8, 3, none⟩ = some (.slice A l.length cc) := (cell_of_block b5 3).trans rfl; have OWN5 := Lib.hid (kept_ps HV2.out hF5 HO.out.2.1); have lw5 : w.heap.size ≤ w5.heap.size := Nat.le_trans hwr hF5.size) | (at_builtin; refine wpList_append_own_at _ rfl (.tmp 76) (.tmp 81) _ rfl w.heap.size 140 i1 (.agg #[.int .i64 0, .int .i64 0, .string ⟨#[]⟩, .slice none 0 0]) 4 56 Tryd.underlying107 IC.out.1 IC.out.2.1 IC.out.2.2.1 IC.out.2.2.2 rfl (by decide) _ _ _ rfl ((OWN5.out).alloc _) ⟨w5.heap.size, 0, none⟩ 1 1 (ex4 ex x) rfl rfl (cell_four_mk _ _ _ _) (one_four_mk hx5) (by unfold maxLen; omega) (by omega) (by simp; omega) ?_; intro v7 w7 hown7 hg7 hn7 hat7; have b7 : w7.heap[t8]? = some (.cells #[.int .i64 hx.kind, .int .i64 hx.n, .string ⟨hx.name.toArray⟩, .slice A l.length cc] 140 (0, 0)) := (hg7.block t8 (by have := (Array.getElem?_eq_some_iff.1 b5).1; simp; omega) (fun h => HO.out.1 h.symm)).trans ((((Below.refl w5.heap.size w5).alloc (Nat.le_refl _) _).block t8 (Array.getElem?_eq_some_iff.1 b5).1).trans b5); have c7 : w7.cell? ⟨t8, 3, none⟩ = some (.slice A l.length cc) := (cell_of_block b7 3).trans rfl) | fail)
    refine ⟨by first | exact c5 | exact c7 | exact (((Below.refl w5.heap.size w5).alloc (Nat.le_refl _) _).cell (p := ⟨t8, 3, none⟩) (Array.getElem?_eq_some_iff.1 b5).1).trans c5, ?_⟩
    apply trail_heavy
    case hi => (simp only [List.getElem?_toArray, List.getElem?_cons_zero, List.getElem?_cons_succ]; exact rfl)
    go_wp2_with (first | (go_at_call 104; refine (CI.out wr.drew HA.out ((HV.out.to HF.out).to (PFr.of ((Below.refl _ _).drew)))).mono ?_; rintro e w5 ⟨x, rfl, hx5, h5, hF5'⟩; have hF5 : PFr b wr w5 := (PFr.of ((Below.refl _ _).drew)).trans hF5'; have b5 : w5.heap[t8]? = some (.cells #[.int .i64 hx.kind, .int .i64 hx.n, .string ⟨hx.name.toArray⟩, .slice A l.length cc] 140 (0, 0)) := (hF5.block t8 z8 (by omega)).trans R8.out; have c5 : w5.cell? ⟨t8, 3, none⟩ = some (.slice A l.length cc) := (cell_of_block b5 3).trans rfl; have OWN5 := Lib.hid (kept_ps HV2.out hF5 HO.out.2.1); have lw5 : w.heap.size ≤ w5.heap.size := Nat.le_trans hwr hF5.size) | (at_builtin; refine wpList_append_own_at _ rfl (.tmp 76) (.tmp 81) _ rfl w.heap.size 140 i1 (.agg #[.int .i64 0, .int .i64 0, .string ⟨#[]⟩, .slice none 0 0]) 4 56 Tryd.underlying107 IC.out.1 IC.out.2.1 IC.out.2.2.1 IC.out.2.2.2 rfl (by decide) _ _ _ rfl ((OWN5.out).alloc _) ⟨w5.heap.size, 0, none⟩ 1 1 (ex4 ex x) rfl rfl (cell_four_mk _ _ _ _) (one_four_mk hx5) (by unfold maxLen; omega) (by omega) (by simp; omega) ?_; intro v7 w7 hown7 hg7 hn7 hat7; have b7 : w7.heap[t8]? = some (.cells #[.int .i64 hx.kind, .int .i64 hx.n, .string ⟨hx.name.toArray⟩, .slice A l.length cc] 140 (0, 0)) := (hg7.block t8 (by have := (Array.getElem?_eq_some_iff.1 b5).1; simp; omega) (fun h => HO.out.1 h.symm)).trans ((((Below.refl w5.heap.size w5).alloc (Nat.le_refl _) _).block t8 (Array.getElem?_eq_some_iff.1 b5).1).trans b5); have c7 : w7.cell? ⟨t8, 3, none⟩ = some (.slice A l.length cc) := (cell_of_block b7 3).trans rfl) | fail)
    refine ⟨by first | exact c5 | exact c7 | exact (((Below.refl w5.heap.size w5).alloc (Nat.le_refl _) _).cell (p := ⟨t8, 3, none⟩) (Array.getElem?_eq_some_iff.1 b5).1).trans c5, ?_⟩
    apply trail_heavy
    case hi => (simp only [List.getElem?_toArray, List.getElem?_cons_zero, List.getElem?_cons_succ]; exact rfl)
    go_wp2_with (first | (go_at_call 104; refine (CI.out wr.drew HA.out ((HV.out.to HF.out).to (PFr.of ((Below.refl _ _).drew)))).mono ?_; rintro e w5 ⟨x, rfl, hx5, h5, hF5'⟩; have hF5 : PFr b wr w5 := (PFr.of ((Below.refl _ _).drew)).trans hF5'; have b5 : w5.heap[t8]? = some (.cells #[.int .i64 hx.kind, .int .i64 hx.n, .string ⟨hx.name.toArray⟩, .slice A l.length cc] 140 (0, 0)) := (hF5.block t8 z8 (by omega)).trans R8.out; have c5 : w5.cell? ⟨t8, 3, none⟩ = some (.slice A l.length cc) := (cell_of_block b5 3).trans rfl; have OWN5 := Lib.hid (kept_ps HV2.out hF5 HO.out.2.1); have lw5 : w.heap.size ≤ w5.heap.size := Nat.le_trans hwr hF5.size) | (at_builtin; refine wpList_append_own_at _ rfl (.tmp 76) (.tmp 81) _ rfl w.heap.size 140 i1 (.agg #[.int .i64 0, .int .i64 0, .string ⟨#[]⟩, .slice none 0 0]) 4 56 Tryd.underlying107 IC.out.1 IC.out.2.1 IC.out.2.2.1 IC.out.2.2.2 rfl (by decide) _ _ _ rfl ((OWN5.out).alloc _) ⟨w5.heap.size, 0, none⟩ 1 1 (ex4 ex x) rfl rfl (cell_four_mk _ _ _ _) (one_four_mk hx5) (by unfold maxLen; omega) (by omega) (by simp; omega) ?_; intro v7 w7 hown7 hg7 hn7 hat7; have b7 : w7.heap[t8]? = some (.cells #[.int .i64 hx.kind, .int .i64 hx.n, .string ⟨hx.name.toArray⟩, .slice A l.length cc] 140 (0, 0)) := (hg7.block t8 (by have := (Array.getElem?_eq_some_iff.1 b5).1; simp; omega) (fun h => HO.out.1 h.symm)).trans ((((Below.refl w5.heap.size w5).alloc (Nat.le_refl _) _).block t8 (Array.getElem?_eq_some_iff.1 b5).1).trans b5); have c7 : w7.cell? ⟨t8, 3, none⟩ = some (.slice A l.length cc) := (cell_of_block b7 3).trans rfl) | fail)
    refine ⟨by first | exact c5 | exact c7 | exact (((Below.refl w5.heap.size w5).alloc (Nat.le_refl _) _).cell (p := ⟨t8, 3, none⟩) (Array.getElem?_eq_some_iff.1 b5).1).trans c5, ?_⟩
    apply trail_light
    case hi => (simp only [List.getElem?_toArray, List.getElem?_cons_zero, List.getElem?_cons_succ]; exact rfl)
    case hl => first | exact light_no (by rfl) | ((first | apply light_plain rfl | apply light_yes (by rfl)); intro w9 hS9; skip; first | (exact exec_load rfl rfl (by first | exact ldi9 | exact ldt9)) | (go_simp; try rfl))
    case hQ => exact fun _ _ _ h => h
    (try simp only [Act.put, List.setIfInBounds_toArray, List.set_cons_zero, List.set_cons_succ])
    refine trail_nil ?_
    refine last_at rfl ?_
    (try dsimp only)
    have hx6 : RExL d w5 (fun k => wr.heap.size ≤ k ∧ k < w5.heap.size) x ex.args := hx5
    have hat8 : v7.ownBlock = (Value.slice A l.length cc).ownBlock ∨ v7.ownBlock = some (w5.heap.size + 1) := hat7.imp id (fun h => by rw [h, World.size_alloc])
    obtain ⟨P1, P2, P3, P4, P5, P6, P7, P8⟩ := ex_push (wr := wr) (w1 := w5) (w3 := w7) (b := b) (lo := w.heap.size) (t8 := t8) (j := 3) (q := q) (q1 := q1) (va := .slice A l.length cc) (va3 := v7) (x := x) (l := l) (e := ex) (K := fun k => w.heap.size < k ∧ k ≠ t8)
      (fun k hk => by omega) (fun h => h.2 rfl) (fun h => by omega) hwr R8.out (by omega) HO.out.1 HO.out.2.1 (by omega) HV1.out HV2.out HV3.out h5 hF5 hx6 hg7 hown7 hat8
    have s7 : (w7.setCell ⟨t8, 3, none⟩ v7).heap.size = w7.heap.size := by simp
    have s5 := hF5.size
    have hfr : PFr b w (w7.setCell ⟨t8, 3, none⟩ v7) := ⟨(hg7.os.trans P2.os).trans HF.out.os, (hg7.tape.trans P2.tape).trans HF.out.tape, (hg7.output.trans P2.output).trans HF.out.output, by rw [s7]; omega, fun k hk hne => (P5 k (by omega) hne (by omega) (fun h => by have := (HV2.out.lt k h).1; omega)).trans (HF.out.block k hk hne)⟩
    have ho4 : v7.ownBlock ≠ some w.heap.size := fun h => by
      rcases hat8 with h1 | h1
      · exact HO.out.2.2 (h1 ▸ h)
      · rw [h1] at h; injection h with h; omega
    have HP := Lib.hid (⟨P1, P3, P4, hfr, (P5 w.heap.size z4 (by omega) (by omega) HO.out.2.2).trans R4.out, P7, P8, ho4⟩ : _ ∧ _ ∧ _ ∧ _ ∧ _ ∧ _ ∧ _ ∧ _)
    obtain ⟨A7, d7, hv7, _, _⟩ := SL.form (SL.of_own hown7)
    have f7 : w7.frozen? ⟨t8, 3, none⟩ = false := by
      unfold World.frozen?
      rw [b7]
      simp
    have z7 := (Array.getElem?_eq_some_iff.1 b7).1
    clear P1 P2 P3 P4 P5 P6 P7 P8 hfr ho4 hx5 hx6 hg7 hown7 hat7 hat8 hn7 b7 b5 c5 OWN5 h5 hF5 hF5' s7
    subst hv7
    go_wp2_with fail
    go_roundw
    case rel =>
      refine ⟨l.length + 1, _, l ++ [ex], q1, by omega, by go_num, by simp, Lib.hid HP.out.1, Lib.hid HP.out.2.2.2.1, Lib.hid HP.out.2.2.2.2.1, Lib.hid HP.out.2.1, Lib.hid HP.out.2.2.1, Lib.hid ⟨HP.out.2.2.2.2.2.1, HP.out.2.2.2.2.2.2.1, HP.out.2.2.2.2.2.2.2⟩, by omega, Lib.hid ?_⟩
      rw [HT.out, HT2.out]
      simp
    case measure => simp [intOf]; omega
  case neg => as_aux_lemma =>
  obtain rfl : i = hx.count := by omega
  obtain ⟨vs, hv1, hv2, hv3⟩ := HR.out
  obtain ⟨A, cc, rfl, hc1, hc2⟩ := SL.form (SL.of_own hv2)
  have HW := Lib.hid (ExRow.whole (K' := fun k => w.heap.size < k ∧ k < wr.heap.size) HR.out (fun k hk hl => ⟨hk.1, hl⟩) (fun k h1 h2 h3 => ⟨by
    have : k ≠ w.heap.size := fun e => HO.out.2.2 (e ▸ h3)
    omega, h2⟩))
  have HE2 := Lib.hid (show R = (.mk hx.kind hx.n hx.name l, Ev.isW [41] q) by
    rw [HE.out]
    unfold Ev.callW
    rw [HT.out, Nat.sub_self]
    show (Ev.Ex.mk hx.kind hx.n hx.name (l ++ []), Ev.isW [41] q) = _
    rw [List.append_nil])
  clear HT hv1 hv2 hv3 HR IC HE
  go_upto_region 34 with (go_at_call 46; refine (is_any q [41] b _ HA.out hql).mono ?_; rintro e w5 ⟨rfl, h5, hF5⟩)
  have H5 := Lib.hid h5
  have R45 := Lib.hid ((hF5.block w.heap.size z4 (by omega)).trans R4.out)
  have R85 := Lib.hid ((hF5.block t8 z8 (by omega)).trans R8.out)
  have F5 := Lib.hid (HF.out.trans hF5)
  have HF5 := Lib.hid hF5
  have s5 := hF5.size
  clear h5 hF5 HA HF R4 R8
  go_wp2_with (first | (refine wpList_load_box rfl 140 _ rfl rfl (load_box Tryd.underlying140 (by kernel_rfl) (by rfl) (by kernel_rfl) (fun j v hj => (cell_of_block R85.out j).trans hj) (Array.getElem?_eq_some_iff.1 R85.out).1 (Below.refl _ _)) ?_) | (refine wpList_put_all (cells := #[.int .i64 hx.kind, .int .i64 hx.n, .string ⟨hx.name.toArray⟩, .slice A l.length cc]) rfl 140 _ _ rfl rfl rfl R45.out rfl (by kernel_rfl) (by simp [Value.oneCell']) ?_; intro w6 hr6 hf6 hz6))
  have hl2 := load_whole Tryd.underlying140 (by kernel_rfl) (by rfl) (by kernel_rfl) hr6
  refine bodyPost_ret (v := .agg #[.int .i64 hx.kind, .int .i64 hx.n, .string ⟨hx.name.toArray⟩, .slice A l.length cc]) (by simp [results, Tryd.results104, Sem.run_bind, asAddr, Act.put, hl2]) rfl ?_
  refine ⟨.slice A l.length cc, by rw [HE2.out]; rfl, ?_, ?_, PFr.of_new hf6 F5.out hbl⟩
  · rw [HE2.out]
    exact RExL.wide (fun k hk => ⟨by omega, by omega⟩) (d + 1) _ _ (RExL.keep (by omega) (fun k hk hkl => (hf6.block k (by omega) (by omega)).trans (HF5.out.block k hkl (by omega))) (d + 1) _ _ HW.out)
  · rw [HE2.out]
    exact (hf6.block b H5.out.lt (by omega)).trans H5.out
theorem expr_any : ∀ d, d ≤ 9 → ExDoes d
  | 0, _ => expr_zero
  | d + 1, h => expr_succ d (by omega) (expr_any d (by omega))
end Go.Proofs.YtpbflgemhcaooaaDoor
