import Derived.Test.YtpbflgemhcaooaaDoorPt26
import Derived.Test.YtpbflgemhcaooaaDoorPt30
import Derived.Test.YtpbflgemhcaooaaDoorPt31
import Derived.Test.YtpbflgemhcaooaaDoorPt13
import Derived.Laws.ResultCell
import Derived.Test.YtpbflgemhcaooaaDoorPt20
import Derived.Test.YtpbflgemhcaooaaDoorPt19
import Derived.Test.YtpbflgemhcaooaaDoorPt12
/- eval.Run: how a right program ends. -/
namespace Go.Proofs.YtpbflgemhcaooaaDoor
open Go.RowKit
set_option linter.unusedSimpArgs false
set_option linter.unusedVariables false
theorem vrs_cells (l : List Ev.Par) : (Ev.vrs l).flatMap cellsV = l.flatMap cellsP := by
  unfold Ev.vrs
  rw [List.flatMap_map]
  rfl
theorem RPars.vrs {w : World} {v : Value} {l : List Ev.Par} (h : RPars w v l) : RVars w w.heap.size v (Ev.vrs l) := by
  unfold RVars
  rw [vrs_cells]
  have : (Ev.vrs l).length = l.length := by unfold Ev.vrs; simp
  rw [this]
  exact h
theorem trap_same (e : Option (Option Int)) : Ev.trapB e = Ev.trapE e := by cases e with | none => rfl | some x => cases x <;> rfl
theorem res_same (e : Option (Option Int)) : Ev.resI e = Ev.resE e := by cases e with | none => rfl | some x => cases x <;> rfl
theorem three_boxes (w : World) (c0 c1 c2 : Array Value) (t0 t1 t2 : TypeId) :
    (((w.alloc (.cells c0 t0)).alloc (.cells c1 t1)).alloc (.cells c2 t2)).heap[w.heap.size]? = some (.cells c0 t0 (0, 0)) ∧ (((w.alloc (.cells c0 t0)).alloc (.cells c1 t1)).alloc (.cells c2 t2)).heap[w.heap.size + 1]? = some (.cells c1 t1 (0, 0)) ∧
    (((w.alloc (.cells c0 t0)).alloc (.cells c1 t1)).alloc (.cells c2 t2)).heap[w.heap.size + 1 + 1]? = some (.cells c2 t2 (0, 0)) ∧ (((w.alloc (.cells c0 t0)).alloc (.cells c1 t1)).alloc (.cells c2 t2)).heap.size = w.heap.size + 1 + 1 + 1 := by
  have z : ∀ (v : World) (o : Obj), (v.alloc o).heap.size = v.heap.size + 1 := fun v o => by simp
  have old : ∀ (v : World) (o p : Obj) (k : Nat), v.heap[k]? = some o → (v.alloc p).heap[k]? = some o := fun v o p k h =>
    (((Below.refl v.heap.size v).alloc (Nat.le_refl _) p).block k (Array.getElem?_eq_some_iff.1 h).1).trans h
  refine ⟨old _ _ _ _ (old _ _ _ _ (heap_alloc_new _ _)), old _ _ _ _ ?_, ?_, by rw [z, z, z]⟩
  · have := heap_alloc_new (w.alloc (.cells c0 t0)) (.cells c1 t1)
    rw [z] at this
    exact this
  · have := heap_alloc_new ((w.alloc (.cells c0 t0)).alloc (.cells c1 t1)) (.cells c2 t2)
    rw [z, z] at this
    exact this
theorem range_of_block {w : World} {b : Nat} {T : TypeId} {cs : Array Value} (h : w.heap[b]? = some (.cells cs T (0, 0))) : w.rangeAt b 0 cs.toList := by
  intro j v hj
  rw [Nat.zero_add]
  exact (cell_of_block h j).trans (by simpa using hj)
set_option maxRecDepth 6000 in
set_option maxHeartbeats 6400000 in
theorem evRun_any (f : Ev.Fn1) (g : Ev.Given) (v1 v2 v3 vg : Value) (w : World) (K : Nat → Prop) (hf : RFn w K v1 v2 v3 f) (hK : ∀ k, K k → k < w.heap.size) (hr : Ev.RightF f) (hg : RGiven w w.heap.size vg g)
    (hn : g.arrays.length ≤ 1073741823) (hs : ∀ a ∈ g.arrays, a.length ≤ 1073741824) :
    Calls Tryd.prog 42 #[.agg #[v1, v2, v3], vg] w fun e w' => ∃ va, e = .returned (.tuple #[.agg #[.int .i64 (Ev.runE f g).1.word, .bool (Ev.runE f g).1.trap, va], .int .i64 (Ev.runE f g).2]) ∧ RLists w' w'.heap.size va (Ev.runE f g).1.arrays ∧ Below w.heap.size w w' := by
  obtain ⟨hp1, hp2, hp3, hk1, hk2⟩ := hf
  have HG := Lib.hid hg
  have HKS := Lib.hid hK
  have HRF := Lib.hid hr
  have HP1 := Lib.hid hp1
  have HP2 := Lib.hid hp2
  have HP3 := Lib.hid hp3
  have HK2 := Lib.hid hk2
  have HS := Lib.hid hs
  have HNN := Lib.hid hn
  obtain ⟨Ap, cp, rfl, hp1l, hp1m⟩ := SL.form hp1
  obtain ⟨Aa, ca, rfl, _, _⟩ := SL.form hp2
  obtain ⟨Ab, cb, rfl⟩ := hp3.slice
  obtain ⟨vw, vx, rfl, hw, hx⟩ := hg
  obtain ⟨Aw, cw, rfl, _, _⟩ := SL.form hw
  have HW := Lib.hid hw
  have HX := Lib.hid hx
  obtain ⟨vs0, hxl, hxs, hxe⟩ := hx
  obtain ⟨Ax, cx, rfl, _, _⟩ := SL.form hxs
  unfold maxLen at hp1m
  obtain ⟨R, hR⟩ : ∃ R, Ev.runE f g = R := ⟨_, rfl⟩
  rw [hR]
  have HRR := Lib.hid hR
  clear hR hp1 hp2 hp3 hk1 hk2 hK hr hw hxl hxs hxe hs
  obtain ⟨n0, n1, n2, nz⟩ := three_boxes w #[.slice Ap f.params.length cp, .slice Aa f.arrays.length ca, .slice Ab f.body.length cb] #[.slice Aw g.words.length cw, .slice Ax g.arrays.length cx] #[.int .i64 0, .bool false, .slice none 0 0] 25 49 52
  have BB := Lib.hid (show Below w.heap.size w (((w.alloc (.cells #[.slice Ap f.params.length cp, .slice Aa f.arrays.length ca, .slice Ab f.body.length cb] 25)).alloc (.cells #[.slice Aw g.words.length cw, .slice Ax g.arrays.length cx] 49)).alloc (.cells #[.int .i64 0, .bool false, .slice none 0 0] 52)) by (repeat' first | with_reducible (first | exact Below.refl _ _ | assumption | refine Below.alloc ?_ ?_ _ | refine below_drewN ?_ _ | refine Below.drew ?_ | refine Below.setCell ?_ ?_ _ | refine Below.trans ?_ (Below.mono (by with_reducible assumption) ?_)) | go_size))
  go_enter Tryd.func42, Tryd.ntmps42
  go_upto_region 1 with fail
  generalize (((w.alloc (.cells #[.slice Ap f.params.length cp, .slice Aa f.arrays.length ca, .slice Ab f.body.length cb] 25)).alloc (.cells #[.slice Aw g.words.length cw, .slice Ax g.arrays.length cx] 49)).alloc (.cells #[.int .i64 0, .bool false, .slice none 0 0] 52)) = wB at *
  have N0 := Lib.hid n0
  have N1 := Lib.hid n1
  have N2 := Lib.hid n2
  have HKB := Lib.hid (show ∀ k, K k → k < w.heap.size from HKS.out)
  have CF := Lib.hid (evFits_any (Ev.vrs f.params) (Ev.vrs f.arrays) g _ _ (.slice Ab f.body.length cb) _ wB (HP1.out.on BB.out).vrs (HP2.out.on BB.out).vrs ⟨Ab, f.body.length, cb, rfl⟩ (HG.out.at2 BB.out (Nat.le_refl _)) hn)
  have hpl : (Ev.vrs f.params).length = f.params.length := by unfold Ev.vrs; simp
  rw [hpl] at CF
  change Hid (Calls _ _ _ _ fun e w' => e = .returned (.int .i64 (Ev.fitsE f g)) ∧ Below wB.heap.size wB w') at CF
  have e0 := cell_of_block n0 0
  have e1 := cell_of_block n0 1
  have e2 := cell_of_block n0 2
  have g0 := cell_of_block n1 0
  have g1 := cell_of_block n1 1
  simp only [List.getElem?_toArray, List.getElem?_cons_zero, List.getElem?_cons_succ] at e0 e1 e2 g0 g1
  obtain ⟨F, hF⟩ : ∃ F, Ev.fitsE f g = F := ⟨_, rfl⟩
  rw [hF] at CF
  have HF := Lib.hid hF
  clear hF n0 n1 n2 hpl hn
  go_upto_region 2 with (go_at_call 39; refine CF.out.mono ?_; rintro r w1 ⟨rfl, hb1⟩)
  have B1 := Lib.hid (BB.out.trans (hb1.mono BB.out.size))
  have M0 := Lib.hid ((hb1.block _ (by omega)).trans N0.out)
  have M1 := Lib.hid ((hb1.block _ (by omega)).trans N1.out)
  have M2 := Lib.hid ((hb1.block _ (by omega)).trans N2.out)
  have z1 := hb1.size
  have zw : w.heap.size + 1 + 1 < w1.heap.size := by omega
  clear e0 e1 e2 g0 g1 CF N0 N1 N2 BB hb1
  by_cases h0 : F = 0
  case neg =>
    have gF : (F != 0) = true := bne_iff_ne.2 h0
    have HX := Lib.hid (show ((⟨0, false, []⟩ : Ev.Ended), F) = R by rw [← HRR.out]; unfold Ev.runE; rw [HF.out, if_pos h0])
    clear h0
    go_wp2_with (refine wpList_put_box (cells := #[.int .i64 0, .bool false, .slice none 0 0]) rfl 52 _ _ rfl rfl rfl M2.out rfl (by kernel_rfl) (by simp [Value.oneCell']) ?_; intro w2 hr2 hb2 hz2)
    have hl2 := load_range Tryd.underlying52 (by kernel_rfl) (by simp) (by kernel_rfl) hr2
    refine bodyPost_ret (v := .tuple #[.agg #[.int .i64 0, .bool false, .slice none 0 0], .int .i64 F]) (by simp [results, Tryd.results42, Sem.run_bind, asAddr, hl2]) rfl ?_
    refine ⟨.slice none 0 0, by rw [← HX.out], by rw [← HX.out]; exact ⟨[], rfl, SL.nil_ _ _ _, fun k u a h => by simp at h⟩, B1.out.trans (hb2.mono (by omega))⟩
  case pos =>
    have FIT := Lib.hid (Ev.fit_of (HF.out.trans h0))
    have HXR := Lib.hid (show ((⟨Ev.resI (Ev.goE f g).e, Ev.trapB (Ev.goE f g).e, (Ev.goE f g).a⟩ : Ev.Ended), (0 : Int)) = R by rw [← HRR.out]; unfold Ev.runE; rw [HF.out, if_neg (not_not_intro h0)])
    have CA := Lib.hid (arrays_any g.arrays (.slice Ax g.arrays.length cx) w1 (HX.out.at_ B1.out (Nat.le_refl _)) (by have := HNN.out; omega) HS.out)
    subst h0
    have g0 := cell_of_block M1.out 0
    have g1 := cell_of_block M1.out 1
    simp only [List.getElem?_toArray, List.getElem?_cons_zero, List.getElem?_cons_succ] at g0 g1
    have HZW := Lib.hid zw
    go_upto_region 4 with fail
    go_upto_region 5 with (go_at_call 41; refine CA.out.mono ?_; rintro r w2 ⟨va, vs, rfl, hA, hb2⟩; have HA := Lib.hid hA; obtain ⟨aa, ac, rfl, _, _⟩ := SL.form (SL.of_own hA.outer); clear hA)
    have hT := heap_alloc_new w2 (.cells #[.pointer (some ⟨w.heap.size, 0, none⟩), .slice aa vs.length ac, .bool false, .bool false, .int .i64 0] 154)
    have bT : Below w2.heap.size w2 (w2.alloc (.cells #[.pointer (some ⟨w.heap.size, 0, none⟩), .slice aa vs.length ac, .bool false, .bool false, .int .i64 0] 154)) := (Below.refl _ _).alloc (Nat.le_refl _) _
    have hz3 : (w2.alloc (.cells #[.pointer (some ⟨w.heap.size, 0, none⟩), .slice aa vs.length ac, .bool false, .bool false, .int .i64 0] 154)).heap.size = w2.heap.size + 1 := by simp
    generalize (w2.alloc (.cells #[.pointer (some ⟨w.heap.size, 0, none⟩), .slice aa vs.length ac, .bool false, .bool false, .int .i64 0] 154)) = w3 at *
    have b13 : Below w1.heap.size w1 w3 := hb2.trans (bT.mono hb2.size)
    have H2 := Lib.hid hb2
    have z2 := hb2.size
    have B3 := Lib.hid (B1.out.trans (b13.mono B1.out.size))
    have P0 := Lib.hid ((b13.block _ (by omega)).trans M0.out)
    have P1 := Lib.hid ((b13.block _ (by omega)).trans M1.out)
    have P2 := Lib.hid ((b13.block _ (by omega)).trans M2.out)
    have HM := Lib.hid (show EvM w3 w2.heap.size w.heap.size w1.heap.size w2.heap.size (.slice aa vs.length ac) (.slice Aa f.arrays.length ca) vs f.arrays g.arrays none from
      ⟨hT, cell_of_block P0.out 1, by omega, b13.size, HP2.out.on B3.out, fun a n c e => by have := HKS.out _ (HK2.out a n c e); omega, HA.out.stays bT, fun b hb => (HA.out.outer.lt b hb).2, fun k u b hu hb => by
        have hk := (List.getElem?_eq_some_iff.1 hu).1
        rw [HA.out.len] at hk
        exact ((HA.out.row k u _ hu (List.getElem?_eq_getElem hk)).lt b hb).2, z2, Nat.le_refl _, FIT.out.sz.len⟩)
    generalize hTB : w2.heap.size = tb at *
    have HTB := Lib.hid hTB
    clear hT bT hb2 b13 CA g0 g1 M0 M1 M2 hTB
    have z3 : w3.heap.size = tb + 1 := by have := hz3; omega
    have HZT := Lib.hid (show w1.heap.size ≤ tb from HM.out.le)
    clear hz3
    have f0 := cell_of_block P0.out 0
    simp only [List.getElem?_toArray, List.getElem?_cons_zero] at f0
    have z1w : w.heap.size + 1 + 1 < w3.heap.size := by have := HZT.out; omega
    go_upto_region 7 with fail
    clear f0
    go_loopw [26, 8] (fun ii vv wr => ∃ (i : Nat) (bs : List Nat), i ≤ f.params.length ∧ ii = .int .i64 (i : Int) ∧ vv = headP bs ∧ Hid (Chain wr bs (Ev.startN (f.params.take i) (g.words.take i))) ∧ Hid (∀ c ∈ bs, tb < c) ∧ Hid (Below w3.heap.size w3 wr)) (fun ii _ _ => f.params.length - (intOf ii).toNat)
    case atStart => exact ⟨0, [], by omega, rfl, rfl, Lib.hid (by show Ev.startN _ _ = []; simp [Ev.startN]), Lib.hid (by simp), Lib.hid (Below.refl _ _)⟩
    case round =>
    obtain ⟨i, bs, hi', rfl, rfl, HC, HBL, HBR⟩ := hrel
    obtain ⟨hpo, hhp⟩ := headP_form bs
    have HHP := Lib.hid hhp
    rw [hhp]
    clear hhp
    have Q0 := Lib.hid ((HBR.out.block _ (by have := HZT.out; omega)).trans P0.out)
    have Q1 := Lib.hid ((HBR.out.block _ (by have := HZT.out; omega)).trans P1.out)
    have Q2 := Lib.hid ((HBR.out.block _ (by have := HZT.out; omega)).trans P2.out)
    have BR := Lib.hid (B3.out.trans (HBR.out.mono B3.out.size))
    have e2 := cell_of_block Q0.out 2
    have g0 := cell_of_block Q1.out 0
    simp only [List.getElem?_toArray, List.getElem?_cons_zero, List.getElem?_cons_succ] at e2 g0
    have zr := HBR.out.size
    have zwr : w.heap.size + 1 + 1 < wr.heap.size := by have := HZT.out; omega
    by_cases hlt : i < f.params.length
    case pos =>
      have HLT := Lib.hid hlt
      obtain ⟨p, hp⟩ : ∃ p, f.params[i]? = some p := ⟨_, List.getElem?_eq_getElem hlt⟩
      obtain ⟨x, hx⟩ : ∃ x, g.words[i]? = some x := ⟨_, List.getElem?_eq_getElem (by rw [FIT.out.words]; exact hlt)⟩
      have HST := Lib.hid (Ev.start_take hp hx)
      obtain ⟨ba, oa, rfl, hba, hpa⟩ : ∃ ba oa, Ap = some ⟨ba, oa, none⟩ ∧ ba < w.heap.size ∧ ParsAt w ba oa f.params := by
        rcases (RPars.at_ HP1.out).2 with h | h
        · rw [h] at hlt; simp at hlt
        · exact h
      obtain ⟨p0, p1, p2⟩ := hpa i p hp
      replace p0 := (BR.out.cell (p := ⟨ba, oa + i * 3, none⟩) hba).trans p0
      replace p1 := (BR.out.cell (p := ⟨ba, oa + i * 3 + 1, none⟩) hba).trans p1
      replace p2 := (BR.out.cell (p := ⟨ba, oa + i * 3 + 2, none⟩) hba).trans p2
      obtain ⟨bw, ow, cw', hv, hbw, _, _, _, r0⟩ := RInts.at_ HW.out hx
      injection hv with h1 _ h2
      subst h1 h2
      replace r0 := (BR.out.cell (p := ⟨bw, ow + i, none⟩) hbw).trans r0
      have zb : ba < wr.heap.size := Nat.lt_of_lt_of_le hba BR.out.size
      have zbw : bw < wr.heap.size := Nat.lt_of_lt_of_le hbw BR.out.size
      have hwl : i < g.words.length := by rw [FIT.out.words]; exact hlt
      clear hp hx hpa
      go_upto_region 9 with fail
      have b8 : Below wr.heap.size wr (wr.alloc (.cells #[.string ⟨p.name.toArray⟩, .bool p.secret, .int .i64 p.size] 35)) := (Below.refl _ _).alloc (Nat.le_refl _) _
      have a8 := heap_alloc_new wr (.cells #[.string ⟨p.name.toArray⟩, .bool p.secret, .int .i64 p.size] 35)
      have zz8 : (wr.alloc (.cells #[.string ⟨p.name.toArray⟩, .bool p.secret, .int .i64 p.size] 35)).heap.size = wr.heap.size + 1 := by simp
      generalize (wr.alloc (.cells #[.string ⟨p.name.toArray⟩, .bool p.secret, .int .i64 p.size] 35)) = w8 at *
      have a80 := cell_of_block a8 0
      simp only [List.getElem?_toArray, List.getElem?_cons_zero] at a80
      have g08 := (b8.cell (p := ⟨w.heap.size + 1, 0, none⟩) (by show w.heap.size + 1 < _; omega)).trans g0
      have r08 := (b8.cell (p := ⟨bw, ow + i, none⟩) zbw).trans r0
      have B8 := Lib.hid b8
      have zb8 : bw < w8.heap.size := by omega
      have zw8 : w.heap.size + 1 + 1 < w8.heap.size := by omega
      have zr8 : wr.heap.size < w8.heap.size := by omega
      have zw9 : w.heap.size + 1 < w8.heap.size := by omega
      clear b8 a8 p0 p1 p2 r0 g0 e2 zz8
      refine wp_region_flock_tailW 10 (fun k => match k with | 9 => some (Hv.boxS w8.heap.size #[.string ⟨p.name.toArray⟩, .int .i64 x, .pointer hpo] 157) | _ => none) (by kernel_rfl) (by kernel_rfl) (by kernel_rfl) (by kernel_rfl) ?_
      simp only [List.take_succ_cons, List.take_zero, List.drop_succ_cons, List.drop_zero]
      apply flock_light rfl
      case h => first | exact light_no (by rfl) | ((first | apply light_plain rfl | apply light_yes (by rfl)); intro w9 hw9; obtain ⟨hb9, hh9⟩ := hw9; skip; go_simp; try rfl)
      (try simp only [Act.put, List.setIfInBounds_toArray, List.set_cons_zero, List.set_cons_succ])
      apply flock_light rfl
      case h => first | exact light_no (by rfl) | ((first | apply light_plain rfl | apply light_yes (by rfl)); intro w9 hw9; obtain ⟨hb9, hh9⟩ := hw9; have hB9 : Below w8.heap.size w8 w9 := (by (repeat' first | with_reducible (first | exact Below.refl _ _ | assumption | refine Below.alloc ?_ ?_ _ | refine below_drewN ?_ _ | refine Below.drew ?_ | refine Below.setCell ?_ ?_ _ | refine Below.trans ?_ (Below.mono (by with_reducible assumption) ?_)) | go_size)); obtain ⟨kc9, kf9, s9⟩ := bfacts hb9; obtain ⟨kd9, kg9, _⟩ := bfacts hB9; skip; go_simp; try rfl)
      (try simp only [Act.put, List.setIfInBounds_toArray, List.set_cons_zero, List.set_cons_succ])
      apply flock_light rfl
      case h => first | exact light_no (by rfl) | ((first | apply light_plain rfl | apply light_yes (by rfl)); intro w9 hw9; obtain ⟨hb9, hh9⟩ := hw9; skip; go_simp; try rfl)
      (try simp only [Act.put, List.setIfInBounds_toArray, List.set_cons_zero, List.set_cons_succ])
      apply flock_light rfl
      case h => first | exact light_no (by rfl) | ((first | apply light_plain rfl | apply light_yes (by rfl)); intro w9 hw9; obtain ⟨hb9, hh9⟩ := hw9; have hB9 : Below w8.heap.size w8 w9 := (by (repeat' first | with_reducible (first | exact Below.refl _ _ | assumption | refine Below.alloc ?_ ?_ _ | refine below_drewN ?_ _ | refine Below.drew ?_ | refine Below.setCell ?_ ?_ _ | refine Below.trans ?_ (Below.mono (by with_reducible assumption) ?_)) | go_size)); obtain ⟨kc9, kf9, s9⟩ := bfacts hb9; obtain ⟨kd9, kg9, _⟩ := bfacts hB9; skip; go_simp; try rfl)
      (try simp only [Act.put, List.setIfInBounds_toArray, List.set_cons_zero, List.set_cons_succ])
      apply flock_light rfl
      case h => first | exact light_no (by rfl) | ((first | apply light_plain rfl | apply light_yes (by rfl)); intro w9 hw9; obtain ⟨hb9, hh9⟩ := hw9; skip; go_simp; try rfl)
      (try simp only [Act.put, List.setIfInBounds_toArray, List.set_cons_zero, List.set_cons_succ])
      apply flock_light rfl
      case h => first | exact light_no (by rfl) | ((first | apply light_plain rfl | apply light_yes (by rfl)); intro w9 hw9; obtain ⟨hb9, hh9⟩ := hw9; have hB9 : Below w8.heap.size w8 w9 := (by (repeat' first | with_reducible (first | exact Below.refl _ _ | assumption | refine Below.alloc ?_ ?_ _ | refine below_drewN ?_ _ | refine Below.drew ?_ | refine Below.setCell ?_ ?_ _ | refine Below.trans ?_ (Below.mono (by with_reducible assumption) ?_)) | go_size)); obtain ⟨kc9, kf9, s9⟩ := bfacts hb9; obtain ⟨kd9, kg9, _⟩ := bfacts hB9; skip; go_simp; try rfl)
      (try simp only [Act.put, List.setIfInBounds_toArray, List.set_cons_zero, List.set_cons_succ])
      apply flock_light rfl
      case h => first | exact light_no (by rfl) | ((first | apply light_plain rfl | apply light_yes (by rfl)); intro w9 hw9; obtain ⟨hb9, hh9⟩ := hw9; have hB9 : Below w8.heap.size w8 w9 := (by (repeat' first | with_reducible (first | exact Below.refl _ _ | assumption | refine Below.alloc ?_ ?_ _ | refine below_drewN ?_ _ | refine Below.drew ?_ | refine Below.setCell ?_ ?_ _ | refine Below.trans ?_ (Below.mono (by with_reducible assumption) ?_)) | go_size)); obtain ⟨kc9, kf9, s9⟩ := bfacts hb9; obtain ⟨kd9, kg9, _⟩ := bfacts hB9; skip; go_simp; try rfl)
      (try simp only [Act.put, List.setIfInBounds_toArray, List.set_cons_zero, List.set_cons_succ])
      apply flock_light rfl
      case h => first | exact light_no (by rfl) | ((first | apply light_plain rfl | apply light_yes (by rfl)); intro w9 hw9; obtain ⟨hb9, hh9⟩ := hw9; skip; go_simp; try rfl)
      (try simp only [Act.put, List.setIfInBounds_toArray, List.set_cons_zero, List.set_cons_succ])
      apply flock_light rfl
      case h => first | exact light_no (by rfl) | ((first | apply light_plain rfl | apply light_yes (by rfl)); intro w9 hw9; obtain ⟨hb9, hh9⟩ := hw9; skip; go_simp; try rfl)
      (try simp only [Act.put, List.setIfInBounds_toArray, List.set_cons_zero, List.set_cons_succ])
      refine flock_heavy _ rfl ?_ ?_
      · intro w9 hb9 hh9
        have hB9 : Below w8.heap.size w8 w9 := (by (repeat' first | with_reducible (first | exact Below.refl _ _ | assumption | refine Below.alloc ?_ ?_ _ | refine below_drewN ?_ _ | refine Below.drew ?_ | refine Below.setCell ?_ ?_ _ | refine Below.trans ?_ (Below.mono (by with_reducible assumption) ?_)) | go_size))
        obtain ⟨kc9, kf9, s9⟩ := bfacts hb9
        obtain ⟨kd9, kg9, _⟩ := bfacts hB9
        skip
        go_wp2_with fail
        refine grewTo_at (by rfl) (by (repeat' first | with_reducible (first | exact Below.refl _ _ | assumption | refine Below.alloc ?_ ?_ _ | refine below_drewN ?_ _ | refine Below.drew ?_ | refine Below.setCell ?_ ?_ _ | refine Below.trans ?_ (Below.mono (by with_reducible assumption) ?_)) | go_size)) ?_
        exact ⟨_, rfl, by go_size, heap_alloc_new _ _⟩
      intro x9 ok9
      (try simp only [Act.put, List.setIfInBounds_toArray, List.set_cons_zero, List.set_cons_succ])
      (try dsimp only [Hv.own, Hv.is, Hv.lit, Hv.box, Hv.sl] at ok9)
      first | subst ok9 | (obtain ⟨A9, c9, ok9⟩ := ok9; subst ok9) | (obtain ⟨A9, ok9⟩ := ok9; subst ok9) | skip
      refine flock_nil ?_
      intro w9 hb9 hh9
      have hB9 : Below w8.heap.size w8 w9 := (by (repeat' first | with_reducible (first | exact Below.refl _ _ | assumption | refine Below.alloc ?_ ?_ _ | refine below_drewN ?_ _ | refine Below.drew ?_ | refine Below.setCell ?_ ?_ _ | refine Below.trans ?_ (Below.mono (by with_reducible assumption) ?_)) | go_size))
      have r9 := hh9 _ (.head _); dsimp only [Hv.own, Hv.is, Hv.lit, Hv.box, Hv.sl] at r9; (first | replace r9 := lit_heap r9 | replace r9 := box_heap r9 | skip); clear hh9
      (try dsimp only)
      obtain ⟨h9, hc9⟩ := boxS_heap r9
      rw [← HHP.out] at hc9
      have HC9 := Lib.hid hc9
      have HB9 := Lib.hid (B8.out.trans (hB9.mono B8.out.size))
      have H9 := Lib.hid h9
      clear r9 hc9 hB9 hb9 h9
      go_wp2_with fail
      go_roundw
      case rel =>
        refine ⟨i + 1, A9 :: bs, by have := HLT.out; omega, by go_num, rfl, Lib.hid ?_, Lib.hid ?_, Lib.hid (HBR.out.trans (HB9.out.mono HBR.out.size))⟩
        · rw [HST.out]
          exact (HC.out.on HB9.out).cons (fun c hc => by have := HC.out.lt c hc; have := H9.out; omega) HC9.out
        · intro c hc
          rcases List.mem_cons.1 hc with rfl | hc
          · have := H9.out; omega
          · exact HBL.out c hc
      case measure => have := HLT.out; simp [intOf]; omega
    case neg =>
      have hie : i = f.params.length := by omega
      subst hie
      rw [List.take_length, List.take_of_length_le (by rw [FIT.out.words]; exact Nat.le_refl _)] at HC
      have HMR := Lib.hid (HM.out.on (HBR.out.mono (by omega)))
      have HKL := Lib.hid (show ∀ k, K k → k < w1.heap.size from fun k hk => by have := HKS.out k hk; omega)
      have CB := Lib.hid (evBlock_all 10 f.body f.arrays f.params false (Ev.startN f.params g.words) g.arrays bs tb w.heap.size w1.heap.size tb _ _ _ vs wr K
        ⟨HMR.out, HC.out, fun c hc => by have := HBL.out c hc; omega, Ev.start_fst FIT.out.words, FIT.out.wn, FIT.out.wa⟩ (RStL.keep BR.out.size (fun k hk hkl => BR.out.block k hkl) _ _ _ HP3.out) HKL.out HRF.out.wf HRF.out.ty)
      rw [HHP.out] at CB
      change Hid (Calls _ _ _ _ fun r w' => r = .returned (.tuple #[]) ∧ SFr (MS w1.heap.size tb tb bs) wr w' ∧ EvM w' tb w.heap.size w1.heap.size tb (.slice aa vs.length ac) (.slice Aa f.arrays.length ca) vs f.arrays (Ev.goE f g).a (Ev.goE f g).e ∧ ∃ cs, Chain w' (cs ++ bs) (Ev.blE f.arrays (Ev.startN f.params g.words) g.arrays f.body).l) at CB
      generalize Ev.goE f g = O at *
      go_upto_region 12 with (go_at_call 82; refine CB.out.mono ?_; rintro r w5 ⟨rfl, hF5, hM5, _⟩)
      have HF5 := Lib.hid hF5
      have HM5 := Lib.hid hM5
      have hnb : ∀ k, k < w1.heap.size → ¬ MS w1.heap.size tb tb bs k := fun k hk h => by
        rcases h with h | h | h
        · omega
        · have := HZT.out; omega
        · have := HBL.out k h; have := HZT.out; omega
      have S2 := Lib.hid ((HF5.out.block _ (by omega) (hnb _ (by omega))).trans Q2.out)
      have t1 := HM5.out.cell 1
      have t3 := HM5.out.cell 3
      have t4 := HM5.out.cell 4
      have zt5 := HM5.out.lt
      have zs5 := HF5.out.size
      have HB5 := Lib.hid (HF5.out.below hnb (by omega))
      simp only [List.getElem?_toArray, List.getElem?_cons_zero, List.getElem?_cons_succ] at t1 t3 t4
      have HAR := Lib.hid hM5.arrs
      have HLE := Lib.hid (show vs.length = O.a.length from hM5.arrs.len)
      clear hF5 hM5
      rw [← trap_same] at t3
      rw [← res_same] at t4
      generalize Ev.trapB O.e = tr at *
      generalize Ev.resI O.e = rs at *
      refine wp_region_flock_tail 13 (fun k => match k with  | _ => none) (by kernel_rfl) (by kernel_rfl) (by kernel_rfl) (by kernel_rfl) ?_
      simp only [List.take_succ_cons, List.take_zero, List.drop_succ_cons, List.drop_zero]
      apply flock_light rfl
      case h => first | exact light_no (by rfl) | ((first | apply light_plain rfl | apply light_yes (by rfl)); intro w9 hw9; obtain ⟨hb9, hh9⟩ := hw9; skip; go_simp; try rfl)
      (try simp only [Act.put, List.setIfInBounds_toArray, List.set_cons_zero, List.set_cons_succ])
      apply flock_light rfl
      case h => first | exact light_no (by rfl) | ((first | apply light_plain rfl | apply light_yes (by rfl)); intro w9 hw9; obtain ⟨hb9, hh9⟩ := hw9; have hB9 : Below w5.heap.size w5 w9 := (by (repeat' first | with_reducible (first | exact Below.refl _ _ | assumption | refine Below.alloc ?_ ?_ _ | refine below_drewN ?_ _ | refine Below.drew ?_ | refine Below.setCell ?_ ?_ _ | refine Below.trans ?_ (Below.mono (by with_reducible assumption) ?_)) | go_size)); obtain ⟨kc9, kf9, s9⟩ := bfacts hb9; obtain ⟨kd9, kg9, _⟩ := bfacts hB9; skip; go_simp; try rfl)
      (try simp only [Act.put, List.setIfInBounds_toArray, List.set_cons_zero, List.set_cons_succ])
      apply flock_light rfl
      case h => first | exact light_no (by rfl) | ((first | apply light_plain rfl | apply light_yes (by rfl)); intro w9 hw9; obtain ⟨hb9, hh9⟩ := hw9; skip; go_simp; try rfl)
      (try simp only [Act.put, List.setIfInBounds_toArray, List.set_cons_zero, List.set_cons_succ])
      apply flock_light rfl
      case h => first | exact light_no (by rfl) | ((first | apply light_plain rfl | apply light_yes (by rfl)); intro w9 hw9; obtain ⟨hb9, hh9⟩ := hw9; have hB9 : Below w5.heap.size w5 w9 := (by (repeat' first | with_reducible (first | exact Below.refl _ _ | assumption | refine Below.alloc ?_ ?_ _ | refine below_drewN ?_ _ | refine Below.drew ?_ | refine Below.setCell ?_ ?_ _ | refine Below.trans ?_ (Below.mono (by with_reducible assumption) ?_)) | go_size)); obtain ⟨kc9, kf9, s9⟩ := bfacts hb9; obtain ⟨kd9, kg9, _⟩ := bfacts hB9; skip; go_simp; try rfl)
      (try simp only [Act.put, List.setIfInBounds_toArray, List.set_cons_zero, List.set_cons_succ])
      apply flock_light rfl
      case h => first | exact light_no (by rfl) | ((first | apply light_plain rfl | apply light_yes (by rfl)); intro w9 hw9; obtain ⟨hb9, hh9⟩ := hw9; skip; go_simp; try rfl)
      (try simp only [Act.put, List.setIfInBounds_toArray, List.set_cons_zero, List.set_cons_succ])
      apply flock_light rfl
      case h => first | exact light_no (by rfl) | ((first | apply light_plain rfl | apply light_yes (by rfl)); intro w9 hw9; obtain ⟨hb9, hh9⟩ := hw9; have hB9 : Below w5.heap.size w5 w9 := (by (repeat' first | with_reducible (first | exact Below.refl _ _ | assumption | refine Below.alloc ?_ ?_ _ | refine below_drewN ?_ _ | refine Below.drew ?_ | refine Below.setCell ?_ ?_ _ | refine Below.trans ?_ (Below.mono (by with_reducible assumption) ?_)) | go_size)); obtain ⟨kc9, kf9, s9⟩ := bfacts hb9; obtain ⟨kd9, kg9, _⟩ := bfacts hB9; skip; go_simp; try rfl)
      (try simp only [Act.put, List.setIfInBounds_toArray, List.set_cons_zero, List.set_cons_succ])
      apply flock_light rfl
      case h => first | exact light_no (by rfl) | ((first | apply light_plain rfl | apply light_yes (by rfl)); intro w9 hw9; obtain ⟨hb9, hh9⟩ := hw9; skip; go_simp; try rfl)
      (try simp only [Act.put, List.setIfInBounds_toArray, List.set_cons_zero, List.set_cons_succ])
      apply flock_light rfl
      case h => first | exact light_no (by rfl) | ((first | apply light_plain rfl | apply light_yes (by rfl)); intro w9 hw9; obtain ⟨hb9, hh9⟩ := hw9; have hB9 : Below w5.heap.size w5 w9 := (by (repeat' first | with_reducible (first | exact Below.refl _ _ | assumption | refine Below.alloc ?_ ?_ _ | refine below_drewN ?_ _ | refine Below.drew ?_ | refine Below.setCell ?_ ?_ _ | refine Below.trans ?_ (Below.mono (by with_reducible assumption) ?_)) | go_size)); obtain ⟨kc9, kf9, s9⟩ := bfacts hb9; obtain ⟨kd9, kg9, _⟩ := bfacts hB9; skip; go_simp; try rfl)
      (try simp only [Act.put, List.setIfInBounds_toArray, List.set_cons_zero, List.set_cons_succ])
      apply flock_light rfl
      case h => first | exact light_no (by rfl) | ((first | apply light_plain rfl | apply light_yes (by rfl)); intro w9 hw9; obtain ⟨hb9, hh9⟩ := hw9; skip; go_simp; try rfl)
      (try simp only [Act.put, List.setIfInBounds_toArray, List.set_cons_zero, List.set_cons_succ])
      apply flock_light rfl
      case h => first | exact light_no (by rfl) | ((first | apply light_plain rfl | apply light_yes (by rfl)); intro w9 hw9; obtain ⟨hb9, hh9⟩ := hw9; have hB9 : Below w5.heap.size w5 w9 := (by (repeat' first | with_reducible (first | exact Below.refl _ _ | assumption | refine Below.alloc ?_ ?_ _ | refine below_drewN ?_ _ | refine Below.drew ?_ | refine Below.setCell ?_ ?_ _ | refine Below.trans ?_ (Below.mono (by with_reducible assumption) ?_)) | go_size)); obtain ⟨kc9, kf9, s9⟩ := bfacts hb9; obtain ⟨kd9, kg9, _⟩ := bfacts hB9; skip; go_simp; try rfl)
      (try simp only [Act.put, List.setIfInBounds_toArray, List.set_cons_zero, List.set_cons_succ])
      apply flock_light rfl
      case h => first | exact light_no (by rfl) | ((first | apply light_plain rfl | apply light_yes (by rfl)); intro w9 hw9; obtain ⟨hb9, hh9⟩ := hw9; skip; go_simp; try rfl)
      (try simp only [Act.put, List.setIfInBounds_toArray, List.set_cons_zero, List.set_cons_succ])
      apply flock_light rfl
      case h => first | exact light_no (by rfl) | ((first | apply light_plain rfl | apply light_yes (by rfl)); intro w9 hw9; obtain ⟨hb9, hh9⟩ := hw9; have hB9 : Below w5.heap.size w5 w9 := (by (repeat' first | with_reducible (first | exact Below.refl _ _ | assumption | refine Below.alloc ?_ ?_ _ | refine below_drewN ?_ _ | refine Below.drew ?_ | refine Below.setCell ?_ ?_ _ | refine Below.trans ?_ (Below.mono (by with_reducible assumption) ?_)) | go_size)); obtain ⟨kc9, kf9, s9⟩ := bfacts hb9; obtain ⟨kd9, kg9, _⟩ := bfacts hB9; skip; go_simp; try rfl)
      (try simp only [Act.put, List.setIfInBounds_toArray, List.set_cons_zero, List.set_cons_succ])
      apply flock_light rfl
      case h => first | exact light_no (by rfl) | ((first | apply light_plain rfl | apply light_yes (by rfl)); intro w9 hw9; obtain ⟨hb9, hh9⟩ := hw9; skip; go_simp; try rfl)
      (try simp only [Act.put, List.setIfInBounds_toArray, List.set_cons_zero, List.set_cons_succ])
      refine flock_nil ?_
      intro w9 hb9 hh9
      have hB9 : Below w5.heap.size w5 w9 := (by (repeat' first | with_reducible (first | exact Below.refl _ _ | assumption | refine Below.alloc ?_ ?_ _ | refine below_drewN ?_ _ | refine Below.drew ?_ | refine Below.setCell ?_ ?_ _ | refine Below.trans ?_ (Below.mono (by with_reducible assumption) ?_)) | go_size))
      clear hh9
      (try dsimp only)
      have HS9 := Lib.hid ((hB9.block _ (by omega)).trans S2.out)
      have HA9 := Lib.hid (HAR.out.stays hB9)
      have HB9 := Lib.hid (BR.out.trans ((HB5.out.mono (by omega)).trans (hB9.mono (by omega))))
      have zw9 : w.heap.size + 1 + 1 < w9.heap.size := by have := hB9.size; omega
      go_wp2_with (refine wpList_put_all (cells := #[.int .i64 rs, .bool tr, .slice aa vs.length ac]) rfl 52 _ _ rfl rfl rfl HS9.out rfl (by kernel_rfl) (by simp [Value.oneCell']) ?_; intro w6 hr6 hf6 hz6)
      have hl6 := load_range Tryd.underlying52 (by kernel_rfl) (by simp) (by kernel_rfl) (range_of_block hr6)
      refine bodyPost_ret (v := .tuple #[.agg #[.int .i64 rs, .bool tr, .slice aa vs.length ac], .int .i64 0]) (by simp [results, Tryd.results42, Sem.run_bind, asAddr, hl6]) rfl ?_
      have hle : ∀ g, g < w9.heap.size → w1.heap.size ≤ g → w6.heap[g]? = w9.heap[g]? := fun g h1 h2 => hf6.block g h1 (by omega)
      have hA6 : Arrs w6 w1.heap.size (.slice aa vs.length ac) O.a vs := ⟨ownsRow_same HA9.out.outer (fun g hg => hle g (HA9.out.outer.lt g hg).2 (HA9.out.outer.lt g hg).1), HA9.out.len, fun k u a hu ha => ownsRow_same (HA9.out.row k u a hu ha) (fun g hg => hle g ((HA9.out.row k u a hu ha).lt g hg).2 ((HA9.out.row k u a hu ha).lt g hg).1), HA9.out.apart, HA9.out.out⟩
      refine ⟨.slice aa vs.length ac, by rw [← HXR.out], by rw [← HXR.out]; exact hA6.reads, ?_⟩
      exact ⟨hf6.os.trans HB9.out.os, hf6.tape.trans HB9.out.tape, hf6.output.trans HB9.out.output, Nat.le_trans HB9.out.size hf6.size, fun k hk => (hf6.block k (by omega) (by omega)).trans (HB9.out.block k hk)⟩
end Go.Proofs.YtpbflgemhcaooaaDoor
/- Chapter 5, plainly: words stay words. -/
namespace Ev
set_option linter.unusedVariables false
theorem nameTo_ge {l : List Par} {n : List UInt8} {i : Nat} {p : Par} (hi : l[i]? = some p) (hp : p.name = n) : ∀ k, i < k → 0 ≤ nameTo l n k
  | 0, h => absurd h (Nat.not_lt_zero _)
  | k + 1, h => by
    unfold nameTo
    by_cases hx : (l[k]?).map Par.name = some n
    · rw [if_pos hx]; omega
    · rw [if_neg hx]
      refine nameTo_ge hi hp k ?_
      have : i ≠ k := fun e => hx (by rw [← e, hi]; exact congrArg some hp)
      omega
theorem twiceTo_no {l : List Par} : ∀ (k : Nat), twiceTo l k = false → ∀ j v, j < k → l[j]? = some v → nameTo l v.name j < 0
  | 0, _, j, v, h, _ => absurd h (Nat.not_lt_zero _)
  | k + 1, h, j, v, hj, hv => by
    unfold twiceTo at h
    rw [Bool.or_eq_false_iff] at h
    by_cases e : j = k
    · subst e
      have h2 := h.2
      rw [hv] at h2
      have h3 := of_decide_eq_false h2
      omega
    · exact twiceTo_no k h.1 j v (by omega) hv
theorem findP_at {A : List Par} {n : List UInt8} {v : Par} (h : findP A n = some v) : ∃ j : Nat, A[j]? = some v ∧ v.name = n := by
  obtain ⟨h1, h2⟩ := findP_mem h
  obtain ⟨j, hj, e⟩ := List.getElem_of_mem h1
  exact ⟨j, by rw [List.getElem?_eq_getElem hj, e], h2⟩
theorem uniq_of {P A : List Par} (h : twiceTo (P ++ A) (P ++ A).length = false) : UniqA A := by
  intro n v hf
  obtain ⟨j, hj, hn⟩ := findP_at hf
  have hlt := (List.getElem?_eq_some_iff.1 hj).1
  have h1 : arrI A n = j := by
    refine arrI_at hj hn fun i q hi hq hqn => ?_
    have h2 : (P ++ A)[P.length + j]? = some v := by rw [List.getElem?_append_right (by omega), Nat.add_sub_cancel_left]; exact hj
    have h3 : (P ++ A)[P.length + i]? = some q := by rw [List.getElem?_append_right (by omega), Nat.add_sub_cancel_left]; exact hq
    have h4 := twiceTo_no _ h (P.length + j) v (by rw [List.length_append]; omega) h2
    have h5 := nameTo_ge h3 (hqn.trans hn.symm) (P.length + j) (by omega)
    omega
  rw [h1]
  exact hj
theorem check_parts {f : Fn1} (h : checkC f = 0) : TyB f.arrays f.params false f.body ∧ UniqA f.arrays := by
  unfold checkC at h
  split at h
  · exact absurd h (by decide)
  split at h
  · exact absurd h (by decide)
  rename_i h1 h2
  refine ⟨⟨_, h⟩, uniq_of (P := f.params) ?_⟩
  cases hx : twiceTo (f.params ++ f.arrays) (f.params ++ f.arrays).length
  · rfl
  · exact absurd hx h2
theorem right_of {f : Fn1} (hw : WfF f) (h : checkC f = 0) : RightF f := ⟨hw.body, (check_parts h).1⟩
theorem w32_isWord {n : Int} (h : W32 n) : isWord n = true := by
  unfold isWord
  simp
  exact h
/-- arrays that are right for a program -/
theorem fits_arrays {A : List Par} {a : Ars} (hz : SzA A a) (hw : WA a) : fits 0 (vrs A) ⟨[], a⟩ = 0 := by
  have hl := hz.len
  have hv : (vrs A).length = A.length := by unfold vrs; simp
  unfold fits
  rw [if_neg (by
    intro h
    rcases h with h | h
    · exact h rfl
    · exact h (by show a.length = _; omega))]
  rw [if_neg, if_pos]
  · rw [List.all_eq_true]
    intro x hx
    rcases List.mem_append.1 hx with h | h
    · cases h
    · obtain ⟨l, hl, hx⟩ := List.mem_flatten.1 h
      exact w32_isWord (hw l hl x hx)
  · intro h
    have : sizesOk a (vrs A) = true := by
      refine sizesOk_yes fun j hj => ?_
      obtain ⟨p, hp⟩ : ∃ p, A[j]? = some p := ⟨A[j]'(by omega), List.getElem?_eq_getElem _⟩
      rw [hz.at_ hp, List.getD_eq_getElem?_getD]
      unfold vrs
      rw [List.getElem?_map, hp]
      rfl
    rw [this] at h
    cases h
theorem goE_pres {f : Fn1} {g : Given} (hr : RightF f) (h : fitsE f g = 0) : Pres (startN f.params g.words) g.arrays (goE f g) :=
  blE_pres f.arrays f.body _ _ hr.wf (fit_of h).wn (fit_of h).wa
theorem resI_word {e : Option (Option Int)} (h : ∀ v, e = some (some v) → W32 v) : 0 ≤ resI e ∧ resI e ≤ 4294967295 ∧ (trapB e = true → resI e = 0) := by
  cases e with
  | none => exact ⟨Int.le_refl _, by show (0 : Int) ≤ _; decide, fun _ => rfl⟩
  | some x =>
    cases x with
    | none => exact ⟨Int.le_refl _, by show (0 : Int) ≤ _; decide, fun _ => rfl⟩
    | some v => exact ⟨(h v rfl).1, (h v rfl).2, fun e => by cases e⟩
/-- words stay words -/
theorem words_law {f : Fn1} {g : Given} (hr : RightF f) (h : fitsE f g = 0) : (runE f g).2 = 0 ∧ fits 0 (vrs f.arrays) ⟨[], (runE f g).1.arrays⟩ = 0 ∧ 0 ≤ (runE f g).1.word ∧ (runE f g).1.word ≤ 4294967295 ∧ ((runE f g).1.trap = true → (runE f g).1.word = 0) := by
  have p := goE_pres hr h
  have ft := fit_of h
  have q := resI_word p.res
  unfold runE
  rw [if_neg (not_not_intro h)]
  exact ⟨rfl, fits_arrays (ft.sz.to p.sz) p.wa, q⟩
theorem mem_flat {a : List Int} : ∀ {L : List (List Int)}, a ∈ L → a.length ≤ L.flatten.length
  | [], h => by cases h
  | x :: L, h => by
    rw [List.flatten_cons, List.length_append]
    rcases List.mem_cons.1 h with rfl | h
    · omega
    · have := mem_flat h; omega
end Ev
namespace Go.Proofs.YtpbflgemhcaooaaDoor
theorem vrs_len (l : List Ev.Par) : (Ev.vrs l).length = l.length := by unfold Ev.vrs; simp
end Go.Proofs.YtpbflgemhcaooaaDoor
/- An array among others, in memory. -/
namespace Go.Proofs.YtpbflgemhcaooaaDoor
open Go.RowKit
set_option linter.unusedSimpArgs false
set_option linter.unusedVariables false
theorem RLists.el {w : World} {B : Nat} {v : Value} {l : List (List Int)} (h : RLists w B v l) {k : Nat} (hk : k < l.length) :
    ∃ b o c A n, v = .slice (some ⟨b, o, none⟩) l.length c ∧ b < B ∧ w.cell? ⟨b, o + k, none⟩ = some (.slice A (l.getD k []).length n) ∧ RInts w B (.slice A (l.getD k []).length n) (l.getD k []) := by
  obtain ⟨vs, hl, hs, hr⟩ := h
  obtain ⟨b, o, c, e, hb, _, _, hc⟩ := SL.row hs (by omega)
  have hx : l[k]? = some (l.getD k []) := by simp [hk]
  have hu : vs[k]? = some (vs[k]'(by omega)) := List.getElem?_eq_getElem _
  have h1 := hr k _ _ hu hx
  obtain ⟨A, n, e1, _, _⟩ := SL.form h1
  have h2 := hc k _ hu
  rw [e1] at h2 h1
  exact ⟨b, o, c, A, n, e, hb, h2, h1⟩
end Go.Proofs.YtpbflgemhcaooaaDoor
