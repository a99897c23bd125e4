import Derived.Test.YtpbflgemhcaooaaDoorPk27
import Derived.Test.YtpbflgemhcaooaaDoorPk28
import Derived.Test.YtpbflgemhcaooaaDoorPk30
import Derived.Test.YtpbflgemhcaooaaDoorPk9
import Derived.Laws.ResultCell
import Derived.Test.YtpbflgemhcaooaaDoorPk4
import Derived.Test.YtpbflgemhcaooaaDoorPk8
import Derived.Test.YtpbflgemhcaooaaDoorPk24
import Derived.Test.YtpbflgemhcaooaaDoorPk25
import Derived.Deep.QuietTactic
/- eval.Run: how a right program ends. -/
namespace Go.Proofs.YtpbflgemhcaooaaDoor
open Go.RowKit
set_option linter.unusedSimpArgs false
set_option linter.unusedVariables false
theorem vrs_cells (l : List Ev.Par) : (Ev.vrs l).flatMap cellsV = l.flatMap cellsP := by
  unfold Ev.vrs
  rw [List.flatMap_map]
  rfl
theorem RPars.vrs {w : World} {v : Value} {l : List Ev.Par} (h : RPars w v l) : RVars w w.heap.size v (Ev.vrs l) := by
  unfold RVars
  rw [vrs_cells]
  have : (Ev.vrs l).length = l.length := by unfold Ev.vrs; simp
  rw [this]
  exact h
theorem trap_same (e : Option (Option Int)) : Ev.trapB e = Ev.trapE e := by cases e with | none => rfl | some x => cases x <;> rfl
theorem res_same (e : Option (Option Int)) : Ev.resI e = Ev.resE e := by cases e with | none => rfl | some x => cases x <;> rfl
theorem three_boxes (w : World) (c0 c1 c2 : Array Value) (t0 t1 t2 : TypeId) :
    (((w.alloc (.cells c0 t0)).alloc (.cells c1 t1)).alloc (.cells c2 t2)).heap[w.heap.size]? = some (.cells c0 t0 (0, 0)) ∧ (((w.alloc (.cells c0 t0)).alloc (.cells c1 t1)).alloc (.cells c2 t2)).heap[w.heap.size + 1]? = some (.cells c1 t1 (0, 0)) ∧
    (((w.alloc (.cells c0 t0)).alloc (.cells c1 t1)).alloc (.cells c2 t2)).heap[w.heap.size + 1 + 1]? = some (.cells c2 t2 (0, 0)) ∧ (((w.alloc (.cells c0 t0)).alloc (.cells c1 t1)).alloc (.cells c2 t2)).heap.size = w.heap.size + 1 + 1 + 1 := by
  have z : ∀ (v : World) (o : Obj), (v.alloc o).heap.size = v.heap.size + 1 := fun v o => by simp
  have old : ∀ (v : World) (o p : Obj) (k : Nat), v.heap[k]? = some o → (v.alloc p).heap[k]? = some o := fun v o p k h =>
    (((Below.refl v.heap.size v).alloc (Nat.le_refl _) p).block k (Array.getElem?_eq_some_iff.1 h).1).trans h
  refine ⟨old _ _ _ _ (old _ _ _ _ (heap_alloc_new _ _)), old _ _ _ _ ?_, ?_, by rw [z, z, z]⟩
  · have := heap_alloc_new (w.alloc (.cells c0 t0)) (.cells c1 t1)
    rw [z] at this
    exact this
  · have := heap_alloc_new ((w.alloc (.cells c0 t0)).alloc (.cells c1 t1)) (.cells c2 t2)
    rw [z, z] at this
    exact this
theorem range_of_block {w : World} {b : Nat} {T : TypeId} {cs : Array Value} (h : w.heap[b]? = some (.cells cs T (0, 0))) : w.rangeAt b 0 cs.toList := by
  intro j v hj
  rw [Nat.zero_add]
  exact (cell_of_block h j).trans (by simpa using hj)
set_option maxRecDepth 6000 in
set_option maxHeartbeats 6400000 in
theorem evRun_any (f : Ev.Fn1) (g : Ev.Given) (v1 v2 v3 vg : Value) (w : World) (K : Nat → Prop) (hf : RFn w K v1 v2 v3 f) (hK : ∀ k, K k → k < w.heap.size) (hr : Ev.RightF f) (hg : RGiven w w.heap.size vg g)
    (hn : g.arrays.length ≤ 1073741823) (hs : ∀ a ∈ g.arrays, a.length ≤ 1073741824) :
    Calls Tryd.prog 42 #[.agg #[v1, v2, v3], vg] w fun e w' => ∃ va, e = .returned (.tuple #[.agg #[.int .i64 (Ev.runE f g).1.word, .bool (Ev.runE f g).1.trap, va], .int .i64 (Ev.runE f g).2]) ∧ RLists w' w'.heap.size va (Ev.runE f g).1.arrays ∧ Below w.heap.size w w' := by
  obtain ⟨hp1, hp2, hp3, hk1, hk2⟩ := hf
  have HG := Lib.hid hg
  have HKS := Lib.hid hK
  have HRF := Lib.hid hr
  have HP1 := Lib.hid hp1
  have HP2 := Lib.hid hp2
  have HP3 := Lib.hid hp3
  have HK2 := Lib.hid hk2
  have HS := Lib.hid hs
  have HNN := Lib.hid hn
  obtain ⟨Ap, cp, rfl, hp1l, hp1m⟩ := SL.form hp1
  obtain ⟨Aa, ca, rfl, _, _⟩ := SL.form hp2
  obtain ⟨Ab, cb, rfl⟩ := hp3.slice
  obtain ⟨vw, vx, rfl, hw, hx⟩ := hg
  obtain ⟨Aw, cw, rfl, _, _⟩ := SL.form hw
  have HW := Lib.hid hw
  have HX := Lib.hid hx
  obtain ⟨vs0, hxl, hxs, hxe⟩ := hx
  obtain ⟨Ax, cx, rfl, _, _⟩ := SL.form hxs
  unfold maxLen at hp1m
  obtain ⟨R, hR⟩ : ∃ R, Ev.runE f g = R := ⟨_, rfl⟩
  rw [hR]
  have HRR := Lib.hid hR
  clear hR hp1 hp2 hp3 hk1 hk2 hK hr hw hxl hxs hxe hs
  obtain ⟨n0, n1, n2, nz⟩ := three_boxes w #[.slice Ap f.params.length cp, .slice Aa f.arrays.length ca, .slice Ab f.body.length cb] #[.slice Aw g.words.length cw, .slice Ax g.arrays.length cx] #[.int .i64 0, .bool false, .slice none 0 0] 25 49 52
  have BB := Lib.hid (show Below w.heap.size w (((w.alloc (.cells #[.slice Ap f.params.length cp, .slice Aa f.arrays.length ca, .slice Ab f.body.length cb] 25)).alloc (.cells #[.slice Aw g.words.length cw, .slice Ax g.arrays.length cx] 49)).alloc (.cells #[.int .i64 0, .bool false, .slice none 0 0] 52)) by (repeat' first | with_reducible (first | exact Below.refl _ _ | assumption | refine Below.alloc ?_ ?_ _ | refine below_drewN ?_ _ | refine Below.drew ?_ | refine Below.setCell ?_ ?_ _ | refine Below.trans ?_ (Below.mono (by with_reducible assumption) ?_)) | go_size))
  go_enter Tryd.func42, Tryd.ntmps42
  go_upto_region 1 with fail
  generalize (((w.alloc (.cells #[.slice Ap f.params.length cp, .slice Aa f.arrays.length ca, .slice Ab f.body.length cb] 25)).alloc (.cells #[.slice Aw g.words.length cw, .slice Ax g.arrays.length cx] 49)).alloc (.cells #[.int .i64 0, .bool false, .slice none 0 0] 52)) = wB at *
  have N0 := Lib.hid n0
  have N1 := Lib.hid n1
  have N2 := Lib.hid n2
  have HKB := Lib.hid (show ∀ k, K k → k < w.heap.size from HKS.out)
  have CF := Lib.hid (evFits_any (Ev.vrs f.params) (Ev.vrs f.arrays) g _ _ (.slice Ab f.body.length cb) _ wB (HP1.out.on BB.out).vrs (HP2.out.on BB.out).vrs ⟨Ab, f.body.length, cb, rfl⟩ (HG.out.at2 BB.out (Nat.le_refl _)) hn)
  have hpl : (Ev.vrs f.params).length = f.params.length := by unfold Ev.vrs; simp
  rw [hpl] at CF
  change Hid (Calls _ _ _ _ fun e w' => e = .returned (.int .i64 (Ev.fitsE f g)) ∧ Below wB.heap.size wB w') at CF
  have e0 := cell_of_block n0 0
  have e1 := cell_of_block n0 1
  have e2 := cell_of_block n0 2
  have g0 := cell_of_block n1 0
  have g1 := cell_of_block n1 1
  simp only [List.getElem?_toArray, List.getElem?_cons_zero, List.getElem?_cons_succ] at e0 e1 e2 g0 g1
  obtain ⟨F, hF⟩ : ∃ F, Ev.fitsE f g = F := ⟨_, rfl⟩
  rw [hF] at CF
  have HF := Lib.hid hF
  clear hF n0 n1 n2 hpl hn
  go_upto_region 2 with (go_at_call 39; refine CF.out.mono ?_; rintro r w1 ⟨rfl, hb1⟩)
  have B1 := Lib.hid (BB.out.trans (hb1.mono BB.out.size))
  have M0 := Lib.hid ((hb1.block _ (by omega)).trans N0.out)
  have M1 := Lib.hid ((hb1.block _ (by omega)).trans N1.out)
  have M2 := Lib.hid ((hb1.block _ (by omega)).trans N2.out)
  have z1 := hb1.size
  have zw : w.heap.size + 1 + 1 < w1.heap.size := by omega
  clear e0 e1 e2 g0 g1 CF N0 N1 N2 BB hb1
  by_cases h0 : F = 0
  case neg =>
    have gF : (F != 0) = true := bne_iff_ne.2 h0
    have HX := Lib.hid (show ((⟨0, false, []⟩ : Ev.Ended), F) = R by rw [← HRR.out]; unfold Ev.runE; rw [HF.out, if_pos h0])
    clear h0
    go_wp2_with (refine wpList_put_box (cells := #[.int .i64 0, .bool false, .slice none 0 0]) rfl 52 _ _ rfl rfl rfl M2.out rfl (by kernel_rfl) (by simp [Value.oneCell']) ?_; intro w2 hr2 hb2 hz2)
    have hl2 := load_range Tryd.underlying52 (by kernel_rfl) (by simp) (by kernel_rfl) hr2
    refine bodyPost_ret (v := .tuple #[.agg #[.int .i64 0, .bool false, .slice none 0 0], .int .i64 F]) (by simp [results, Tryd.results42, Sem.run_bind, asAddr, hl2]) rfl ?_
    refine ⟨.slice none 0 0, by rw [← HX.out], by rw [← HX.out]; exact ⟨[], rfl, SL.nil_ _ _ _, fun k u a h => by simp at h⟩, B1.out.trans (hb2.mono (by omega))⟩
  case pos =>
    have FIT := Lib.hid (Ev.fit_of (HF.out.trans h0))
    have HXR := Lib.hid (show ((⟨Ev.resI (Ev.goE f g).e, Ev.trapB (Ev.goE f g).e, (Ev.goE f g).a⟩ : Ev.Ended), (0 : Int)) = R by rw [← HRR.out]; unfold Ev.runE; rw [HF.out, if_neg (not_not_intro h0)])
    have CA := Lib.hid (arrays_any g.arrays (.slice Ax g.arrays.length cx) w1 (HX.out.at_ B1.out (Nat.le_refl _)) (by have := HNN.out; omega) HS.out)
    subst h0
    have g0 := cell_of_block M1.out 0
    have g1 := cell_of_block M1.out 1
    simp only [List.getElem?_toArray, List.getElem?_cons_zero, List.getElem?_cons_succ] at g0 g1
    have HZW := Lib.hid zw
    go_upto_region 4 with fail
    go_upto_region 5 with (go_at_call 41; refine CA.out.mono ?_; rintro r w2 ⟨va, vs, rfl, hA, hb2⟩; have HA := Lib.hid hA; obtain ⟨aa, ac, rfl, _, _⟩ := SL.form (SL.of_own hA.outer); clear hA)
    have hT := heap_alloc_new w2 (.cells #[.pointer (some ⟨w.heap.size, 0, none⟩), .slice aa vs.length ac, .bool false, .bool false, .int .i64 0] 154)
    have bT : Below w2.heap.size w2 (w2.alloc (.cells #[.pointer (some ⟨w.heap.size, 0, none⟩), .slice aa vs.length ac, .bool false, .bool false, .int .i64 0] 154)) := (Below.refl _ _).alloc (Nat.le_refl _) _
    have hz3 : (w2.alloc (.cells #[.pointer (some ⟨w.heap.size, 0, none⟩), .slice aa vs.length ac, .bool false, .bool false, .int .i64 0] 154)).heap.size = w2.heap.size + 1 := by simp
    generalize (w2.alloc (.cells #[.pointer (some ⟨w.heap.size, 0, none⟩), .slice aa vs.length ac, .bool false, .bool false, .int .i64 0] 154)) = w3 at *
    have b13 : Below w1.heap.size w1 w3 := hb2.trans (bT.mono hb2.size)
    have H2 := Lib.hid hb2
    have z2 := hb2.size
    have B3 := Lib.hid (B1.out.trans (b13.mono B1.out.size))
    have P0 := Lib.hid ((b13.block _ (by omega)).trans M0.out)
    have P1 := Lib.hid ((b13.block _ (by omega)).trans M1.out)
    have P2 := Lib.hid ((b13.block _ (by omega)).trans M2.out)
    have HM := Lib.hid (show EvM w3 w2.heap.size w.heap.size w1.heap.size w2.heap.size (.slice aa vs.length ac) (.slice Aa f.arrays.length ca) vs f.arrays g.arrays none from
      ⟨hT, cell_of_block P0.out 1, by omega, b13.size, HP2.out.on B3.out, fun a n c e => by have := HKS.out _ (HK2.out a n c e); omega, HA.out.stays bT, fun b hb => (HA.out.outer.lt b hb).2, fun k u b hu hb => by
        have hk := (List.getElem?_eq_some_iff.1 hu).1
        rw [HA.out.len] at hk
        exact ((HA.out.row k u _ hu (List.getElem?_eq_getElem hk)).lt b hb).2, z2, Nat.le_refl _, FIT.out.sz.len⟩)
    generalize hTB : w2.heap.size = tb at *
    have HTB := Lib.hid hTB
    clear hT bT hb2 b13 CA g0 g1 M0 M1 M2 hTB
    have z3 : w3.heap.size = tb + 1 := by have := hz3; omega
    have HZT := Lib.hid (show w1.heap.size ≤ tb from HM.out.le)
    clear hz3
    have f0 := cell_of_block P0.out 0
    simp only [List.getElem?_toArray, List.getElem?_cons_zero] at f0
    have z1w : w.heap.size + 1 + 1 < w3.heap.size := by have := HZT.out; omega
    go_upto_region 7 with fail
    clear f0
    go_loopw [26, 8] (fun ii vv wr => ∃ (i : Nat) (bs : List Nat), i ≤ f.params.length ∧ ii = .int .i64 (i : Int) ∧ vv = headP bs ∧ Hid (Chain wr bs (Ev.startN (f.params.take i) (g.words.take i))) ∧ Hid (∀ c ∈ bs, tb < c) ∧ Hid (Below w3.heap.size w3 wr)) (fun ii _ _ => f.params.length - (intOf ii).toNat)
    case atStart => exact ⟨0, [], by omega, rfl, rfl, Lib.hid (by show Ev.startN _ _ = []; simp [Ev.startN]), Lib.hid (by simp), Lib.hid (Below.refl _ _)⟩
    case round =>
    obtain ⟨i, bs, hi', rfl, rfl, HC, HBL, HBR⟩ := hrel
    obtain ⟨hpo, hhp⟩ := headP_form bs
    have HHP := Lib.hid hhp
    rw [hhp]
    clear hhp
    have Q0 := Lib.hid ((HBR.out.block _ (by have := HZT.out; omega)).trans P0.out)
    have Q1 := Lib.hid ((HBR.out.block _ (by have := HZT.out; omega)).trans P1.out)
    have Q2 := Lib.hid ((HBR.out.block _ (by have := HZT.out; omega)).trans P2.out)
    have BR := Lib.hid (B3.out.trans (HBR.out.mono B3.out.size))
    have e2 := cell_of_block Q0.out 2
    have g0 := cell_of_block Q1.out 0
    simp only [List.getElem?_toArray, List.getElem?_cons_zero, List.getElem?_cons_succ] at e2 g0
    have zr := HBR.out.size
    have zwr : w.heap.size + 1 + 1 < wr.heap.size := by have := HZT.out; omega
    by_cases hlt : i < f.params.length
    case pos =>
      have HLT := Lib.hid hlt
      obtain ⟨p, hp⟩ : ∃ p, f.params[i]? = some p := ⟨_, List.getElem?_eq_getElem hlt⟩
      obtain ⟨x, hx⟩ : ∃ x, g.words[i]? = some x := ⟨_, List.getElem?_eq_getElem (by rw [FIT.out.words]; exact hlt)⟩
      have HST := Lib.hid (Ev.start_take hp hx)
      obtain ⟨ba, oa, rfl, hba, hpa⟩ : ∃ ba oa, Ap = some ⟨ba, oa, none⟩ ∧ ba < w.heap.size ∧ ParsAt w ba oa f.params := by
        rcases (RPars.at_ HP1.out).2 with h | h
        · rw [h] at hlt; simp at hlt
        · exact h
      obtain ⟨p0, p1, p2⟩ := hpa i p hp
      replace p0 := (BR.out.cell (p := ⟨ba, oa + i * 3, none⟩) hba).trans p0
      replace p1 := (BR.out.cell (p := ⟨ba, oa + i * 3 + 1, none⟩) hba).trans p1
      replace p2 := (BR.out.cell (p := ⟨ba, oa + i * 3 + 2, none⟩) hba).trans p2
      obtain ⟨bw, ow, cw', hv, hbw, _, _, _, r0⟩ := RInts.at_ HW.out hx
      injection hv with h1 _ h2
      subst h1 h2
      replace r0 := (BR.out.cell (p := ⟨bw, ow + i, none⟩) hbw).trans r0
      have zb : ba < wr.heap.size := Nat.lt_of_lt_of_le hba BR.out.size
      have zbw : bw < wr.heap.size := Nat.lt_of_lt_of_le hbw BR.out.size
      have hwl : i < g.words.length := by rw [FIT.out.words]; exact hlt
      clear hp hx hpa
      go_upto_region 9 with fail
      have b8 : Below wr.heap.size wr (wr.alloc (.cells #[.string ⟨p.name.toArray⟩, .bool p.secret, .int .i64 p.size] 35)) := (Below.refl _ _).alloc (Nat.le_refl _) _
      have a8 := heap_alloc_new wr (.cells #[.string ⟨p.name.toArray⟩, .bool p.secret, .int .i64 p.size] 35)
      have zz8 : (wr.alloc (.cells #[.string ⟨p.name.toArray⟩, .bool p.secret, .int .i64 p.size] 35)).heap.size = wr.heap.size + 1 := by simp
      generalize (wr.alloc (.cells #[.string ⟨p.name.toArray⟩, .bool p.secret, .int .i64 p.size] 35)) = w8 at *
      have a80 := cell_of_block a8 0
      simp only [List.getElem?_toArray, List.getElem?_cons_zero] at a80
      have g08 := (b8.cell (p := ⟨w.heap.size + 1, 0, none⟩) (by show w.heap.size + 1 < _; omega)).trans g0
      have r08 := (b8.cell (p := ⟨bw, ow + i, none⟩) zbw).trans r0
      have B8 := Lib.hid b8
      have zb8 : bw < w8.heap.size := by omega
      have zw8 : w.heap.size + 1 + 1 < w8.heap.size := by omega
      have zr8 : wr.heap.size < w8.heap.size := by omega
      have zw9 : w.heap.size + 1 < w8.heap.size := by omega
      clear b8 a8 p0 p1 p2 r0 g0 e2 zz8
      refine wp_region_flock_tailW 10 (fun k => match k with | 9 => some (Hv.boxS w8.heap.size #[.string ⟨p.name.toArray⟩, .int .i64 x, .pointer hpo] 157) | _ => none) (by kernel_rfl) (by kernel_rfl) (by kernel_rfl) (by kernel_rfl) ?_
      simp only [List.take_succ_cons, List.take_zero, List.drop_succ_cons, List.drop_zero]
      apply flock_light rfl
      case h => first | exact light_no (by rfl) | ((first | apply light_plain rfl | apply light_yes (by rfl)); intro w9 hw9; obtain ⟨hb9, hh9⟩ := hw9; skip; go_simp; try rfl)
      (try simp only [Act.put, List.setIfInBounds_toArray, List.set_cons_zero, List.set_cons_succ])
      apply flock_light rfl
      case h => first | exact light_no (by rfl) | ((first | apply light_plain rfl | apply light_yes (by rfl)); intro w9 hw9; obtain ⟨hb9, hh9⟩ := hw9; have hB9 : Below w8.heap.size w8 w9 := (by (repeat' first | with_reducible (first | exact Below.refl _ _ | assumption | refine Below.alloc ?_ ?_ _ | refine below_drewN ?_ _ | refine Below.drew ?_ | refine Below.setCell ?_ ?_ _ | refine Below.trans ?_ (Below.mono (by with_reducible assumption) ?_)) | go_size)); obtain ⟨kc9, kf9, s9⟩ := bfacts hb9; obtain ⟨kd9, kg9, _⟩ := bfacts hB9; skip; go_simp; try rfl)
      (try simp only [Act.put, List.setIfInBounds_toArray, List.set_cons_zero, List.set_cons_succ])
      apply flock_light rfl
      case h => first | exact light_no (by rfl) | ((first | apply light_plain rfl | apply light_yes (by rfl)); intro w9 hw9; obtain ⟨hb9, hh9⟩ := hw9; skip; go_simp; try rfl)
      (try simp only [Act.put, List.setIfInBounds_toArray, List.set_cons_zero, List.set_cons_succ])
      apply flock_light rfl
      case h => first | exact light_no (by rfl) | ((first | apply light_plain rfl | apply light_yes (by rfl)); intro w9 hw9; obtain ⟨hb9, hh9⟩ := hw9; have hB9 : Below w8.heap.size w8 w9 := (by (repeat' first | with_reducible (first | exact Below.refl _ _ | assumption | refine Below.alloc ?_ ?_ _ | refine below_drewN ?_ _ | refine Below.drew ?_ | refine Below.setCell ?_ ?_ _ | refine Below.trans ?_ (Below.mono (by with_reducible assumption) ?_)) | go_size)); obtain ⟨kc9, kf9, s9⟩ := bfacts hb9; obtain ⟨kd9, kg9, _⟩ := bfacts hB9; skip; go_simp; try rfl)
      (try simp only [Act.put, List.setIfInBounds_toArray, List.set_cons_zero, List.set_cons_succ])
      apply flock_light rfl
      case h => first | exact light_no (by rfl) | ((first | apply light_plain rfl | apply light_yes (by rfl)); intro w9 hw9; obtain ⟨hb9, hh9⟩ := hw9; skip; go_simp; try rfl)
      (try simp only [Act.put, List.setIfInBounds_toArray, List.set_cons_zero, List.set_cons_succ])
      apply flock_light rfl
      case h => first | exact light_no (by rfl) | ((first | apply light_plain rfl | apply light_yes (by rfl)); intro w9 hw9; obtain ⟨hb9, hh9⟩ := hw9; have hB9 : Below w8.heap.size w8 w9 := (by (repeat' first | with_reducible (first | exact Below.refl _ _ | assumption | refine Below.alloc ?_ ?_ _ | refine below_drewN ?_ _ | refine Below.drew ?_ | refine Below.setCell ?_ ?_ _ | refine Below.trans ?_ (Below.mono (by with_reducible assumption) ?_)) | go_size)); obtain ⟨kc9, kf9, s9⟩ := bfacts hb9; obtain ⟨kd9, kg9, _⟩ := bfacts hB9; skip; go_simp; try rfl)
      (try simp only [Act.put, List.setIfInBounds_toArray, List.set_cons_zero, List.set_cons_succ])
      apply flock_light rfl
      case h => first | exact light_no (by rfl) | ((first | apply light_plain rfl | apply light_yes (by rfl)); intro w9 hw9; obtain ⟨hb9, hh9⟩ := hw9; have hB9 : Below w8.heap.size w8 w9 := (by (repeat' first | with_reducible (first | exact Below.refl _ _ | assumption | refine Below.alloc ?_ ?_ _ | refine below_drewN ?_ _ | refine Below.drew ?_ | refine Below.setCell ?_ ?_ _ | refine Below.trans ?_ (Below.mono (by with_reducible assumption) ?_)) | go_size)); obtain ⟨kc9, kf9, s9⟩ := bfacts hb9; obtain ⟨kd9, kg9, _⟩ := bfacts hB9; skip; go_simp; try rfl)
      (try simp only [Act.put, List.setIfInBounds_toArray, List.set_cons_zero, List.set_cons_succ])
      apply flock_light rfl
      case h => first | exact light_no (by rfl) | ((first | apply light_plain rfl | apply light_yes (by rfl)); intro w9 hw9; obtain ⟨hb9, hh9⟩ := hw9; skip; go_simp; try rfl)
      (try simp only [Act.put, List.setIfInBounds_toArray, List.set_cons_zero, List.set_cons_succ])
      apply flock_light rfl
      case h => first | exact light_no (by rfl) | ((first | apply light_plain rfl | apply light_yes (by rfl)); intro w9 hw9; obtain ⟨hb9, hh9⟩ := hw9; skip; go_simp; try rfl)
      (try simp only [Act.put, List.setIfInBounds_toArray, List.set_cons_zero, List.set_cons_succ])
      refine flock_heavy _ rfl ?_ ?_
      · intro w9 hb9 hh9
        have hB9 : Below w8.heap.size w8 w9 := (by (repeat' first | with_reducible (first | exact Below.refl _ _ | assumption | refine Below.alloc ?_ ?_ _ | refine below_drewN ?_ _ | refine Below.drew ?_ | refine Below.setCell ?_ ?_ _ | refine Below.trans ?_ (Below.mono (by with_reducible assumption) ?_)) | go_size))
        obtain ⟨kc9, kf9, s9⟩ := bfacts hb9
        obtain ⟨kd9, kg9, _⟩ := bfacts hB9
        skip
        go_wp2_with fail
        refine grewTo_at (by rfl) (by (repeat' first | with_reducible (first | exact Below.refl _ _ | assumption | refine Below.alloc ?_ ?_ _ | refine below_drewN ?_ _ | refine Below.drew ?_ | refine Below.setCell ?_ ?_ _ | refine Below.trans ?_ (Below.mono (by with_reducible assumption) ?_)) | go_size)) ?_
        exact ⟨_, rfl, by go_size, heap_alloc_new _ _⟩
      intro x9 ok9
      (try simp only [Act.put, List.setIfInBounds_toArray, List.set_cons_zero, List.set_cons_succ])
      (try dsimp only [Hv.own, Hv.is, Hv.lit, Hv.box, Hv.sl] at ok9)
      first | subst ok9 | (obtain ⟨A9, c9, ok9⟩ := ok9; subst ok9) | (obtain ⟨A9, ok9⟩ := ok9; subst ok9) | skip
      refine flock_nil ?_
      intro w9 hb9 hh9
      have hB9 : Below w8.heap.size w8 w9 := (by (repeat' first | with_reducible (first | exact Below.refl _ _ | assumption | refine Below.alloc ?_ ?_ _ | refine below_drewN ?_ _ | refine Below.drew ?_ | refine Below.setCell ?_ ?_ _ | refine Below.trans ?_ (Below.mono (by with_reducible assumption) ?_)) | go_size))
      have r9 := hh9 _ (.head _); dsimp only [Hv.own, Hv.is, Hv.lit, Hv.box, Hv.sl] at r9; (first | replace r9 := lit_heap r9 | replace r9 := box_heap r9 | skip); clear hh9
      (try dsimp only)
      obtain ⟨h9, hc9⟩ := boxS_heap r9
      rw [← HHP.out] at hc9
      have HC9 := Lib.hid hc9
      have HB9 := Lib.hid (B8.out.trans (hB9.mono B8.out.size))
      have H9 := Lib.hid h9
      clear r9 hc9 hB9 hb9 h9
      go_wp2_with fail
      go_roundw
      case rel =>
        refine ⟨i + 1, A9 :: bs, by have := HLT.out; omega, by go_num, rfl, Lib.hid ?_, Lib.hid ?_, Lib.hid (HBR.out.trans (HB9.out.mono HBR.out.size))⟩
        · rw [HST.out]
          exact (HC.out.on HB9.out).cons (fun c hc => by have := HC.out.lt c hc; have := H9.out; omega) HC9.out
        · intro c hc
          rcases List.mem_cons.1 hc with rfl | hc
          · have := H9.out; omega
          · exact HBL.out c hc
      case measure => have := HLT.out; simp [intOf]; omega
    case neg =>
      have hie : i = f.params.length := by omega
      subst hie
      rw [List.take_length, List.take_of_length_le (by rw [FIT.out.words]; exact Nat.le_refl _)] at HC
      have HMR := Lib.hid (HM.out.on (HBR.out.mono (by omega)))
      have HKL := Lib.hid (show ∀ k, K k → k < w1.heap.size from fun k hk => by have := HKS.out k hk; omega)
      have CB := Lib.hid (evBlock_all 10 f.body f.arrays f.params false (Ev.startN f.params g.words) g.arrays bs tb w.heap.size w1.heap.size tb _ _ _ vs wr K
        ⟨HMR.out, HC.out, fun c hc => by have := HBL.out c hc; omega, Ev.start_fst FIT.out.words, FIT.out.wn, FIT.out.wa⟩ (RStL.keep BR.out.size (fun k hk hkl => BR.out.block k hkl) _ _ _ HP3.out) HKL.out HRF.out.wf HRF.out.ty)
      rw [HHP.out] at CB
      change Hid (Calls _ _ _ _ fun r w' => r = .returned (.tuple #[]) ∧ SFr (MS w1.heap.size tb tb bs) wr w' ∧ EvM w' tb w.heap.size w1.heap.size tb (.slice aa vs.length ac) (.slice Aa f.arrays.length ca) vs f.arrays (Ev.goE f g).a (Ev.goE f g).e ∧ ∃ cs, Chain w' (cs ++ bs) (Ev.blE f.arrays (Ev.startN f.params g.words) g.arrays f.body).l) at CB
      generalize Ev.goE f g = O at *
      go_upto_region 12 with (go_at_call 82; refine CB.out.mono ?_; rintro r w5 ⟨rfl, hF5, hM5, _⟩)
      have HF5 := Lib.hid hF5
      have HM5 := Lib.hid hM5
      have hnb : ∀ k, k < w1.heap.size → ¬ MS w1.heap.size tb tb bs k := fun k hk h => by
        rcases h with h | h | h
        · omega
        · have := HZT.out; omega
        · have := HBL.out k h; have := HZT.out; omega
      have S2 := Lib.hid ((HF5.out.block _ (by omega) (hnb _ (by omega))).trans Q2.out)
      have t1 := HM5.out.cell 1
      have t3 := HM5.out.cell 3
      have t4 := HM5.out.cell 4
      have zt5 := HM5.out.lt
      have zs5 := HF5.out.size
      have HB5 := Lib.hid (HF5.out.below hnb (by omega))
      simp only [List.getElem?_toArray, List.getElem?_cons_zero, List.getElem?_cons_succ] at t1 t3 t4
      have HAR := Lib.hid hM5.arrs
      have HLE := Lib.hid (show vs.length = O.a.length from hM5.arrs.len)
      clear hF5 hM5
      rw [← trap_same] at t3
      rw [← res_same] at t4
      generalize Ev.trapB O.e = tr at *
      generalize Ev.resI O.e = rs at *
      refine wp_region_flock_tail 13 (fun k => match k with  | _ => none) (by kernel_rfl) (by kernel_rfl) (by kernel_rfl) (by kernel_rfl) ?_
      simp only [List.take_succ_cons, List.take_zero, List.drop_succ_cons, List.drop_zero]
      apply flock_light rfl
      case h => first | exact light_no (by rfl) | ((first | apply light_plain rfl | apply light_yes (by rfl)); intro w9 hw9; obtain ⟨hb9, hh9⟩ := hw9; skip; go_simp; try rfl)
      (try simp only [Act.put, List.setIfInBounds_toArray, List.set_cons_zero, List.set_cons_succ])
      apply flock_light rfl
      case h => first | exact light_no (by rfl) | ((first | apply light_plain rfl | apply light_yes (by rfl)); intro w9 hw9; obtain ⟨hb9, hh9⟩ := hw9; have hB9 : Below w5.heap.size w5 w9 := (by (repeat' first | with_reducible (first | exact Below.refl _ _ | assumption | refine Below.alloc ?_ ?_ _ | refine below_drewN ?_ _ | refine Below.drew ?_ | refine Below.setCell ?_ ?_ _ | refine Below.trans ?_ (Below.mono (by with_reducible assumption) ?_)) | go_size)); obtain ⟨kc9, kf9, s9⟩ := bfacts hb9; obtain ⟨kd9, kg9, _⟩ := bfacts hB9; skip; go_simp; try rfl)
      (try simp only [Act.put, List.setIfInBounds_toArray, List.set_cons_zero, List.set_cons_succ])
      apply flock_light rfl
      case h => first | exact light_no (by rfl) | ((first | apply light_plain rfl | apply light_yes (by rfl)); intro w9 hw9; obtain ⟨hb9, hh9⟩ := hw9; skip; go_simp; try rfl)
      (try simp only [Act.put, List.setIfInBounds_toArray, List.set_cons_zero, List.set_cons_succ])
      apply flock_light rfl
      case h => first | exact light_no (by rfl) | ((first | apply light_plain rfl | apply light_yes (by rfl)); intro w9 hw9; obtain ⟨hb9, hh9⟩ := hw9; have hB9 : Below w5.heap.size w5 w9 := (by (repeat' first | with_reducible (first | exact Below.refl _ _ | assumption | refine Below.alloc ?_ ?_ _ | refine below_drewN ?_ _ | refine Below.drew ?_ | refine Below.setCell ?_ ?_ _ | refine Below.trans ?_ (Below.mono (by with_reducible assumption) ?_)) | go_size)); obtain ⟨kc9, kf9, s9⟩ := bfacts hb9; obtain ⟨kd9, kg9, _⟩ := bfacts hB9; skip; go_simp; try rfl)
      (try simp only [Act.put, List.setIfInBounds_toArray, List.set_cons_zero, List.set_cons_succ])
      apply flock_light rfl
      case h => first | exact light_no (by rfl) | ((first | apply light_plain rfl | apply light_yes (by rfl)); intro w9 hw9; obtain ⟨hb9, hh9⟩ := hw9; skip; go_simp; try rfl)
      (try simp only [Act.put, List.setIfInBounds_toArray, List.set_cons_zero, List.set_cons_succ])
      apply flock_light rfl
      case h => first | exact light_no (by rfl) | ((first | apply light_plain rfl | apply light_yes (by rfl)); intro w9 hw9; obtain ⟨hb9, hh9⟩ := hw9; have hB9 : Below w5.heap.size w5 w9 := (by (repeat' first | with_reducible (first | exact Below.refl _ _ | assumption | refine Below.alloc ?_ ?_ _ | refine below_drewN ?_ _ | refine Below.drew ?_ | refine Below.setCell ?_ ?_ _ | refine Below.trans ?_ (Below.mono (by with_reducible assumption) ?_)) | go_size)); obtain ⟨kc9, kf9, s9⟩ := bfacts hb9; obtain ⟨kd9, kg9, _⟩ := bfacts hB9; skip; go_simp; try rfl)
      (try simp only [Act.put, List.setIfInBounds_toArray, List.set_cons_zero, List.set_cons_succ])
      apply flock_light rfl
      case h => first | exact light_no (by rfl) | ((first | apply light_plain rfl | apply light_yes (by rfl)); intro w9 hw9; obtain ⟨hb9, hh9⟩ := hw9; skip; go_simp; try rfl)
      (try simp only [Act.put, List.setIfInBounds_toArray, List.set_cons_zero, List.set_cons_succ])
      apply flock_light rfl
      case h => first | exact light_no (by rfl) | ((first | apply light_plain rfl | apply light_yes (by rfl)); intro w9 hw9; obtain ⟨hb9, hh9⟩ := hw9; have hB9 : Below w5.heap.size w5 w9 := (by (repeat' first | with_reducible (first | exact Below.refl _ _ | assumption | refine Below.alloc ?_ ?_ _ | refine below_drewN ?_ _ | refine Below.drew ?_ | refine Below.setCell ?_ ?_ _ | refine Below.trans ?_ (Below.mono (by with_reducible assumption) ?_)) | go_size)); obtain ⟨kc9, kf9, s9⟩ := bfacts hb9; obtain ⟨kd9, kg9, _⟩ := bfacts hB9; skip; go_simp; try rfl)
      (try simp only [Act.put, List.setIfInBounds_toArray, List.set_cons_zero, List.set_cons_succ])
      apply flock_light rfl
      case h => first | exact light_no (by rfl) | ((first | apply light_plain rfl | apply light_yes (by rfl)); intro w9 hw9; obtain ⟨hb9, hh9⟩ := hw9; skip; go_simp; try rfl)
      (try simp only [Act.put, List.setIfInBounds_toArray, List.set_cons_zero, List.set_cons_succ])
      apply flock_light rfl
      case h => first | exact light_no (by rfl) | ((first | apply light_plain rfl | apply light_yes (by rfl)); intro w9 hw9; obtain ⟨hb9, hh9⟩ := hw9; have hB9 : Below w5.heap.size w5 w9 := (by (repeat' first | with_reducible (first | exact Below.refl _ _ | assumption | refine Below.alloc ?_ ?_ _ | refine below_drewN ?_ _ | refine Below.drew ?_ | refine Below.setCell ?_ ?_ _ | refine Below.trans ?_ (Below.mono (by with_reducible assumption) ?_)) | go_size)); obtain ⟨kc9, kf9, s9⟩ := bfacts hb9; obtain ⟨kd9, kg9, _⟩ := bfacts hB9; skip; go_simp; try rfl)
      (try simp only [Act.put, List.setIfInBounds_toArray, List.set_cons_zero, List.set_cons_succ])
      apply flock_light rfl
      case h => first | exact light_no (by rfl) | ((first | apply light_plain rfl | apply light_yes (by rfl)); intro w9 hw9; obtain ⟨hb9, hh9⟩ := hw9; skip; go_simp; try rfl)
      (try simp only [Act.put, List.setIfInBounds_toArray, List.set_cons_zero, List.set_cons_succ])
      apply flock_light rfl
      case h => first | exact light_no (by rfl) | ((first | apply light_plain rfl | apply light_yes (by rfl)); intro w9 hw9; obtain ⟨hb9, hh9⟩ := hw9; have hB9 : Below w5.heap.size w5 w9 := (by (repeat' first | with_reducible (first | exact Below.refl _ _ | assumption | refine Below.alloc ?_ ?_ _ | refine below_drewN ?_ _ | refine Below.drew ?_ | refine Below.setCell ?_ ?_ _ | refine Below.trans ?_ (Below.mono (by with_reducible assumption) ?_)) | go_size)); obtain ⟨kc9, kf9, s9⟩ := bfacts hb9; obtain ⟨kd9, kg9, _⟩ := bfacts hB9; skip; go_simp; try rfl)
      (try simp only [Act.put, List.setIfInBounds_toArray, List.set_cons_zero, List.set_cons_succ])
      apply flock_light rfl
      case h => first | exact light_no (by rfl) | ((first | apply light_plain rfl | apply light_yes (by rfl)); intro w9 hw9; obtain ⟨hb9, hh9⟩ := hw9; skip; go_simp; try rfl)
      (try simp only [Act.put, List.setIfInBounds_toArray, List.set_cons_zero, List.set_cons_succ])
      refine flock_nil ?_
      intro w9 hb9 hh9
      have hB9 : Below w5.heap.size w5 w9 := (by (repeat' first | with_reducible (first | exact Below.refl _ _ | assumption | refine Below.alloc ?_ ?_ _ | refine below_drewN ?_ _ | refine Below.drew ?_ | refine Below.setCell ?_ ?_ _ | refine Below.trans ?_ (Below.mono (by with_reducible assumption) ?_)) | go_size))
      clear hh9
      (try dsimp only)
      have HS9 := Lib.hid ((hB9.block _ (by omega)).trans S2.out)
      have HA9 := Lib.hid (HAR.out.stays hB9)
      have HB9 := Lib.hid (BR.out.trans ((HB5.out.mono (by omega)).trans (hB9.mono (by omega))))
      have zw9 : w.heap.size + 1 + 1 < w9.heap.size := by have := hB9.size; omega
      go_wp2_with (refine wpList_put_all (cells := #[.int .i64 rs, .bool tr, .slice aa vs.length ac]) rfl 52 _ _ rfl rfl rfl HS9.out rfl (by kernel_rfl) (by simp [Value.oneCell']) ?_; intro w6 hr6 hf6 hz6)
      have hl6 := load_range Tryd.underlying52 (by kernel_rfl) (by simp) (by kernel_rfl) (range_of_block hr6)
      refine bodyPost_ret (v := .tuple #[.agg #[.int .i64 rs, .bool tr, .slice aa vs.length ac], .int .i64 0]) (by simp [results, Tryd.results42, Sem.run_bind, asAddr, hl6]) rfl ?_
      have hle : ∀ g, g < w9.heap.size → w1.heap.size ≤ g → w6.heap[g]? = w9.heap[g]? := fun g h1 h2 => hf6.block g h1 (by omega)
      have hA6 : Arrs w6 w1.heap.size (.slice aa vs.length ac) O.a vs := ⟨ownsRow_same HA9.out.outer (fun g hg => hle g (HA9.out.outer.lt g hg).2 (HA9.out.outer.lt g hg).1), HA9.out.len, fun k u a hu ha => ownsRow_same (HA9.out.row k u a hu ha) (fun g hg => hle g ((HA9.out.row k u a hu ha).lt g hg).2 ((HA9.out.row k u a hu ha).lt g hg).1), HA9.out.apart, HA9.out.out⟩
      refine ⟨.slice aa vs.length ac, by rw [← HXR.out], by rw [← HXR.out]; exact hA6.reads, ?_⟩
      exact ⟨hf6.os.trans HB9.out.os, hf6.tape.trans HB9.out.tape, hf6.output.trans HB9.out.output, Nat.le_trans HB9.out.size hf6.size, fun k hk => (hf6.block k (by omega) (by omega)).trans (HB9.out.block k hk)⟩
end Go.Proofs.YtpbflgemhcaooaaDoor
/- The reference's comparisons. -/
namespace Go.Proofs.YtpbflgemhcaooaaDoor
open Go.RowKit
set_option linter.unusedSimpArgs false
set_option linter.unusedVariables false
theorem take_snoc_same {α : Type} {l m : List α} {j : Nat} {x y : α} (h : l.take j = m.take j) (hx : l[j]? = some x) (hy : m[j]? = some y) (e : x = y) : l.take (j + 1) = m.take (j + 1) := by
  rw [List.take_add_one, List.take_add_one, h, hx, hy, e]
set_option maxRecDepth 4000 in
set_option maxHeartbeats 1600000 in
theorem sameInts_any (l m : List Int) (u v : Value) (w : World) {B : Nat} (hl : RInts w B u l) (hm : RInts w B v m) :
    Calls Tryd.prog 45 #[u, v] w fun e w' => e = .returned (.bool (decide (l = m))) ∧ ∃ n, w' = w.drewN n := by
  have HL := Lib.hid hl
  have HM := Lib.hid hm
  obtain ⟨A, c, rfl, hc1, hc2⟩ := SL.form hl
  obtain ⟨A', c', rfl, hd1, hd2⟩ := SL.form hm
  unfold maxLen at hc2 hd2
  clear hl hm
  go_enter Tryd.func45, Tryd.ntmps45
  by_cases hlen : l.length = m.length
  case neg =>
    go_wp2
    go_ret
    refine ⟨?_, by (first | exact ⟨0, rfl⟩ | exact ⟨_, rfl⟩ | (simp only [World.drewN_drewN, World.drew_is_drewN]; exact ⟨_, rfl⟩))⟩
    have : l ≠ m := fun e => hlen (by rw [e])
    simp [this]
  case pos =>
  go_wp2_with fail
  have hlen1 : m.length ≤ l.length := by omega
  have hlen2 : l.length ≤ m.length := by omega
  clear hlen
  go_loopw [13] (fun z wr => ∃ j : Nat, j ≤ l.length ∧ z = .int .i64 j ∧ Hid (l.take j = m.take j) ∧ ∃ n, wr = w.drewN n) (fun z _ => l.length - (intOf z).toNat)
  case atStart => exact ⟨0, by omega, rfl, by simp [Hid], by (first | exact ⟨0, rfl⟩ | exact ⟨_, rfl⟩ | (simp only [World.drewN_drewN, World.drew_is_drewN]; exact ⟨_, rfl⟩))⟩
  case round =>
    obtain ⟨j, hj, rfl, HT, nw, rfl⟩ := hrel
    by_cases hlt : j < l.length
    · obtain ⟨x, hx⟩ : ∃ x, l[j]? = some x := ⟨l[j], List.getElem?_eq_getElem hlt⟩
      obtain ⟨y, hy⟩ : ∃ y, m[j]? = some y := ⟨m[j]'(by omega), List.getElem?_eq_getElem _⟩
      obtain ⟨b1, o1, r1, hv, hb1, _, _, _, p1⟩ := RInts.at_ HL.out hx
      injection hv with hA _ hcr
      subst hA hcr
      obtain ⟨b2, o2, r2, hv, hb2, _, _, _, p2⟩ := RInts.at_ HM.out hy
      injection hv with hA _ hcr
      subst hA hcr
      have HX := Lib.hid hx
      have HY := Lib.hid hy
      clear hx hy
      by_cases hxy : x = y
      · have hs := Lib.hid (take_snoc_same HT.out HX.out HY.out hxy)
        subst hxy
        go_wp2_with fail
        go_quiet (fail)
        go_wp2_with fail
        go_roundw
        case rel => exact ⟨j + 1, by omega, by go_num, hs, by (first | exact ⟨0, rfl⟩ | exact ⟨_, rfl⟩ | (simp only [World.drewN_drewN, World.drew_is_drewN]; exact ⟨_, rfl⟩))⟩
        case measure => simp [intOf]; omega
      · have g1 : (x != y) = true := by simpa using hxy
        go_wp2_with fail
        go_quiet (fail)
        go_wp2
        go_ret
        refine ⟨?_, by (first | exact ⟨0, rfl⟩ | exact ⟨_, rfl⟩ | (simp only [World.drewN_drewN, World.drew_is_drewN]; exact ⟨_, rfl⟩))⟩
        have : l ≠ m := fun e => hxy (by have h1 := HX.out; have h2 := HY.out; rw [e] at h1; rw [h1] at h2; exact Option.some.inj h2)
        simp [this]
    · go_wp2
      go_ret
      refine ⟨?_, by (first | exact ⟨0, rfl⟩ | exact ⟨_, rfl⟩ | (simp only [World.drewN_drewN, World.drew_is_drewN]; exact ⟨_, rfl⟩))⟩
      have h := HT.out
      rw [List.take_of_length_le (by omega), List.take_of_length_le (by omega)] at h
      simp [h]
theorem sameInts_is (l m : List Int) (u v : Value) (w : World) {B : Nat} (hl : RInts w B u l) (hm : RInts w B v m) (b : Bool) (h : decide (l = m) = b) :
    Calls Tryd.prog 45 #[u, v] w fun e w' => e = .returned (.bool b) ∧ ∃ n, w' = w.drewN n := by
  subst h
  exact sameInts_any l m u v w hl hm
set_option maxRecDepth 4000 in
set_option maxHeartbeats 1600000 in
theorem sameArrays_any (l m : List (List Int)) (u v : Value) (w : World) {B : Nat} (hl : RLists w B u l) (hm : RLists w B v m) :
    Calls Tryd.prog 40 #[u, v] w fun e w' => e = .returned (.bool (decide (l = m))) ∧ ∃ n, w' = w.drewN n := by
  obtain ⟨us, hul, hus, hue⟩ := hl
  obtain ⟨vs, hvl, hvs, hve⟩ := hm
  have HUS := Lib.hid hus
  have HVS := Lib.hid hvs
  have HUL := Lib.hid hul
  have HVL := Lib.hid hvl
  have HU := Lib.hid hue
  have HV := Lib.hid hve
  obtain ⟨A, c, rfl, hc1, hc2⟩ := SL.form hus
  obtain ⟨A', c', rfl, hd1, hd2⟩ := SL.form hvs
  unfold maxLen at hc2 hd2
  clear hus hvs hue hve hul hvl
  go_enter Tryd.func40, Tryd.ntmps40
  by_cases hlen : l.length = m.length
  case neg =>
    go_wp2
    go_ret
    refine ⟨?_, by (first | exact ⟨0, rfl⟩ | exact ⟨_, rfl⟩ | (simp only [World.drewN_drewN, World.drew_is_drewN]; exact ⟨_, rfl⟩))⟩
    have : l ≠ m := fun e => hlen (by rw [e])
    simp [this]
  case pos =>
  go_wp2_with fail
  have hlen1 : m.length ≤ l.length := by omega
  have hlen2 : l.length ≤ m.length := by omega
  clear hlen
  go_loopw [13] (fun z wr => ∃ j : Nat, j ≤ l.length ∧ z = .int .i64 j ∧ Hid (l.take j = m.take j) ∧ ∃ n, wr = w.drewN n) (fun z _ => l.length - (intOf z).toNat)
  case atStart => exact ⟨0, by omega, rfl, by simp [Hid], by (first | exact ⟨0, rfl⟩ | exact ⟨_, rfl⟩ | (simp only [World.drewN_drewN, World.drew_is_drewN]; exact ⟨_, rfl⟩))⟩
  case round =>
    obtain ⟨j, hj, rfl, HT, nw, rfl⟩ := hrel
    by_cases hlt : j < l.length
    · obtain ⟨x, hx⟩ : ∃ x, l[j]? = some x := ⟨l[j], List.getElem?_eq_getElem hlt⟩
      obtain ⟨y, hy⟩ : ∃ y, m[j]? = some y := ⟨m[j]'(by omega), List.getElem?_eq_getElem _⟩
      obtain ⟨a, ha⟩ : ∃ a, us[j]? = some a := ⟨us[j]'(by rw [HUL.out]; exact hlt), List.getElem?_eq_getElem _⟩
      obtain ⟨b, hb⟩ : ∃ b, vs[j]? = some b := ⟨vs[j]'(by rw [HVL.out]; omega), List.getElem?_eq_getElem _⟩
      obtain ⟨b1, o1, r1, hv, hb1, _, _, p1⟩ := SL.row HUS.out (by omega)
      injection hv with hA _ hcr
      subst hA hcr
      obtain ⟨b2, o2, r2, hv, hb2, _, _, p2⟩ := SL.row HVS.out (by omega)
      injection hv with hA _ hcr
      subst hA hcr
      have q1 := p1 j a ha
      have q2 := p2 j b hb
      have RA := Lib.hid (HU.out j a x ha hx)
      have RB := Lib.hid (HV.out j b y hb hy)
      obtain ⟨A1, c1, rfl, _, _⟩ := SL.form RA.out
      obtain ⟨A2, c2, rfl, _, _⟩ := SL.form RB.out
      have HX := Lib.hid hx
      have HY := Lib.hid hy
      clear hx hy ha hb p1 p2
      by_cases hxy : x = y
      · have hs := Lib.hid (take_snoc_same HT.out HX.out HY.out hxy)
        have g1 : decide (x = y) = true := by simpa using hxy
        clear hxy
        go_wp2_with fail
        go_quiet ((go_at_call 45; first | exact Calls.quiet_of (sameInts_is x y _ _ (w.drewN _) (SL.dr _ RA.out) (SL.dr _ RB.out) _ g1) | exact quiet_at (sameInts_is x y _ _ (w.drewN _) (SL.dr _ RA.out) (SL.dr _ RB.out) _ g1)))
        go_wp2_with fail
        go_roundw
        case rel => exact ⟨j + 1, by omega, by go_num, hs, by (first | exact ⟨0, rfl⟩ | exact ⟨_, rfl⟩ | (simp only [World.drewN_drewN, World.drew_is_drewN]; exact ⟨_, rfl⟩))⟩
        case measure => simp [intOf]; omega
      · have g1 : decide (x = y) = false := by simpa using hxy
        have HXY := Lib.hid hxy
        clear hxy
        go_wp2_with fail
        go_quiet ((go_at_call 45; first | exact Calls.quiet_of (sameInts_is x y _ _ (w.drewN _) (SL.dr _ RA.out) (SL.dr _ RB.out) _ g1) | exact quiet_at (sameInts_is x y _ _ (w.drewN _) (SL.dr _ RA.out) (SL.dr _ RB.out) _ g1)))
        go_wp2
        go_ret
        refine ⟨?_, by (first | exact ⟨0, rfl⟩ | exact ⟨_, rfl⟩ | (simp only [World.drewN_drewN, World.drew_is_drewN]; exact ⟨_, rfl⟩))⟩
        have : l ≠ m := fun e => HXY.out (by have h1 := HX.out; have h2 := HY.out; rw [e] at h1; rw [h1] at h2; exact Option.some.inj h2)
        simp [this]
    · go_wp2
      go_ret
      refine ⟨?_, by (first | exact ⟨0, rfl⟩ | exact ⟨_, rfl⟩ | (simp only [World.drewN_drewN, World.drew_is_drewN]; exact ⟨_, rfl⟩))⟩
      have h := HT.out
      rw [List.take_of_length_le (by omega), List.take_of_length_le (by omega)] at h
      simp [h]
end Go.Proofs.YtpbflgemhcaooaaDoor
