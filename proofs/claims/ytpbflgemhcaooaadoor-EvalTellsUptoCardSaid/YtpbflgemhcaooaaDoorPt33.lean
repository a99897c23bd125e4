import Derived.Test.YtpbflgemhcaooaaDoorPt29
import Derived.Test.YtpbflgemhcaooaaDoorPt32
import Derived.Test.YtpbflgemhcaooaaDoorPt31
/- evref1.Run: how a right program ends. -/
namespace Ev
/-- no two arrays of a name -/
def DistA (A : List Par) : Prop := ∀ (i j : Nat) (p q : Par), A[i]? = some p → A[j]? = some q → p.name = q.name → i = j
theorem dist_of {P A : List Par} (h : twiceTo (P ++ A) (P ++ A).length = false) : DistA A := by
  have key : ∀ (i j : Nat) (p q : Par), i < j → A[i]? = some p → A[j]? = some q → p.name = q.name → False := by
    intro i j p q hij hi hj hn
    have hlt := (List.getElem?_eq_some_iff.1 hj).1
    have h2 : (P ++ A)[P.length + j]? = some q := by rw [List.getElem?_append_right (by omega), Nat.add_sub_cancel_left]; exact hj
    have h3 : (P ++ A)[P.length + i]? = some p := by rw [List.getElem?_append_right (by omega), Nat.add_sub_cancel_left]; exact hi
    have h4 := twiceTo_no _ h (P.length + j) q (by rw [List.length_append]; omega) h2
    have h5 := nameTo_ge h3 hn (P.length + j) (by omega)
    omega
  intro i j p q hi hj hn
  rcases Nat.lt_trichotomy i j with h | h | h
  · exact (key i j p q h hi hj hn).elim
  · exact h
  · exact (key j i q p h hj hi hn.symm).elim
theorem check_dist {f : Fn1} (h : checkC f = 0) : DistA f.arrays := by
  unfold checkC at h
  split at h
  · exact absurd h (by decide)
  split at h
  · exact absurd h (by decide)
  rename_i h1 h2
  refine dist_of (P := f.params) ?_
  cases hx : twiceTo (f.params ++ f.arrays) (f.params ++ f.arrays).length
  · rfl
  · exact absurd hx h2
theorem DistA.arrI {A : List Par} (h : DistA A) {i : Nat} {p : Par} (hp : A[i]? = some p) : Ev.arrI A p.name = i :=
  arrI_at hp rfl fun j q hj hq e => by have := h j i q p hq hp e; omega
theorem arrI_of {A : List Par} {i : Nat} {p : Par} {s : List UInt8} (hp : A[i]? = some p) (h : Ev.arrI A s = i) : s = p.name := by
  have hlt := (List.getElem?_eq_some_iff.1 hp).1
  unfold Ev.arrI at h
  have h2 := List.findIdx_getElem (xs := A) (p := fun p => p.name == s) (w := by rw [h]; exact hlt)
  simp only [h] at h2
  rw [List.getElem?_eq_getElem hlt] at hp
  injection hp with hp
  rw [hp] at h2
  exact (by simpa using h2 : p.name = s).symm
end Ev
namespace Go.Proofs.YtpbflgemhcaooaaDoor
open Go.RowKit
set_option linter.unusedSimpArgs false
set_option linter.unusedVariables false
theorem RowsA.push {w w1 : World} {lo : Nat} {vs : List Value} {l : Ev.Ars} {u : Value} {a : List Int} (h : RowsA w lo w.heap.size vs l) (hlo : lo ≤ w.heap.size) (hb : Below w.heap.size w w1) (hu : w1.ownsRow w.heap.size 3 1 u a.length (a.map (Value.int .i64))) : RowsA w1 lo w1.heap.size (vs ++ [u]) (l ++ [a]) := by
  have split : ∀ (k : Nat) x, (vs ++ [u])[k]? = some x → (k < vs.length ∧ vs[k]? = some x) ∨ (k = vs.length ∧ x = u) := fun k x hx => by
    rcases Nat.lt_or_ge k vs.length with hk | hk
    · rw [List.getElem?_append_left hk] at hx; exact .inl ⟨hk, hx⟩
    · have hk2 : k = vs.length := by
        have := (List.getElem?_eq_some_iff.1 hx).1
        simp at this
        omega
      subst hk2
      rw [List.getElem?_append_right (Nat.le_refl _), Nat.sub_self] at hx
      exact .inr ⟨rfl, by simpa using hx.symm⟩
  refine ⟨by simp [h.len], fun k x y hx hy => ?_, fun k k' x x' b hx hx' hxb hxb' => ?_, fun k x b hx hxb => ?_⟩
  · rcases split k x hx with ⟨hk, hx⟩ | ⟨hk, rfl⟩
    · rw [List.getElem?_append_left (by rw [← h.len]; exact hk)] at hy
      exact owns_below (h.row k x y hx hy) hb
    · subst hk
      rw [h.len, List.getElem?_append_right (Nat.le_refl _), Nat.sub_self] at hy
      simp at hy
      subst hy
      exact own_lessT' hu hlo
  · rcases split k x hx with ⟨hk, hy⟩ | ⟨hk, hu1⟩
    · rcases split k' x' hx' with ⟨hk', hy'⟩ | ⟨hk', hu2⟩
      · exact h.apart k k' x x' b hy hy' hxb hxb'
      · subst hu2
        have h1 := h.his k x b hy hxb
        have h2 := (hu.lt b hxb').1
        omega
    · subst hu1
      rcases split k' x' hx' with ⟨hk', hy'⟩ | ⟨hk', hu2⟩
      · have h1 := h.his k' x' b hy' hxb'
        have h2 := (hu.lt b hxb).1
        omega
      · omega
  · rcases split k x hx with ⟨hk, hy⟩ | ⟨hk, hu1⟩
    · have := h.his k x b hy hxb
      have := hb.size
      omega
    · subst hu1
      exact (hu.lt b hxb).2
theorem map_boxes (w : World) (c : Array Value) (t : TypeId) :
    (((w.alloc (.map #[] 0)).alloc (.cells c t)).alloc (.map #[] 0)).heap[w.heap.size]? = some (.map #[] 0) ∧ (((w.alloc (.map #[] 0)).alloc (.cells c t)).alloc (.map #[] 0)).heap[w.heap.size + 1]? = some (.cells c t (0, 0)) ∧
    (((w.alloc (.map #[] 0)).alloc (.cells c t)).alloc (.map #[] 0)).heap[w.heap.size + 1 + 1]? = some (.map #[] 0) ∧ (((w.alloc (.map #[] 0)).alloc (.cells c t)).alloc (.map #[] 0)).heap.size = w.heap.size + 1 + 1 + 1 := by
  have z : ∀ (v : World) (o : Obj), (v.alloc o).heap.size = v.heap.size + 1 := fun v o => by simp
  have old : ∀ (v : World) (o p : Obj) (k : Nat), v.heap[k]? = some o → (v.alloc p).heap[k]? = some o := fun v o p k h =>
    (((Below.refl v.heap.size v).alloc (Nat.le_refl _) p).block k (Array.getElem?_eq_some_iff.1 h).1).trans h
  refine ⟨old _ _ _ _ (old _ _ _ _ (heap_alloc_new _ _)), old _ _ _ _ ?_, ?_, by rw [z, z, z]⟩
  · have := heap_alloc_new (w.alloc (.map #[] 0)) (.cells c t)
    rw [z] at this
    exact this
  · have := heap_alloc_new ((w.alloc (.map #[] 0)).alloc (.cells c t)) (.map #[] 0)
    rw [z, z] at this
    exact this
set_option maxRecDepth 6000 in
set_option maxHeartbeats 6400000 in
theorem revRun_any (f : Ev.Fn1) (g : Ev.Given) (v1 v2 v3 vg : Value) (w : World) (K : Nat → Prop) (hf : RFn w K v1 v2 v3 f) (hK : ∀ k, K k → k < w.heap.size) (hr : Ev.RightF f) (hda : Ev.DistA f.arrays) (hg : RGiven w w.heap.size vg g)
    (hnm : ∀ p ∈ f.params, InS p.name) (han : ∀ p ∈ f.arrays, InS p.name) (hal : f.arrays.length ≤ 1000000) (hbl : f.body.length ≤ 1201) (hbs : ∀ t ∈ f.body, Ev.Sm t) (hn : g.words.length + g.arrays.flatten.length ≤ 1073741824) (hs : ∀ a ∈ g.arrays, a.length ≤ 1073741824) :
    Calls Tryd.prog 26 #[.agg #[v1, v2, v3], vg] w fun e w' => ∃ va, e = .returned (.tuple #[.agg #[.int .i64 (Ev.runE f g).1.word, .bool (Ev.runE f g).1.trap, va], .int .i64 (Ev.runE f g).2]) ∧ RLists w' w'.heap.size va (Ev.runE f g).1.arrays ∧ Below w.heap.size w w' := by
  obtain ⟨hp1, hp2, hp3, hk1, hk2⟩ := hf
  have HG := Lib.hid hg
  have HKS := Lib.hid hK
  have HRF := Lib.hid hr
  have HP1 := Lib.hid hp1
  have HP2 := Lib.hid hp2
  have HP3 := Lib.hid hp3
  have HK2 := Lib.hid hk2
  have HS := Lib.hid hs
  have HDA := Lib.hid hda
  have HPN := Lib.hid hnm
  have HAN := Lib.hid han
  have HBL := Lib.hid hbl
  have HBS := Lib.hid hbs
  clear hda hnm han hbl hbs
  have HNN := Lib.hid hn
  obtain ⟨Ap, cp, rfl, hp1l, hp1m⟩ := SL.form hp1
  obtain ⟨Aa, ca, rfl, _, _⟩ := SL.form hp2
  obtain ⟨Ab, cb, rfl⟩ := hp3.slice
  obtain ⟨vw, vx, rfl, hw, hx⟩ := hg
  obtain ⟨Aw, cw, rfl, _, _⟩ := SL.form hw
  have HW := Lib.hid hw
  have HX := Lib.hid hx
  obtain ⟨vs0, hxl, hxs, hxe⟩ := hx
  obtain ⟨Ax, cx, rfl, _, _⟩ := SL.form hxs
  unfold maxLen at hp1m
  obtain ⟨R, hR⟩ : ∃ R, Ev.runE f g = R := ⟨_, rfl⟩
  rw [hR]
  have HRR := Lib.hid hR
  clear hR hp1 hp2 hp3 hk1 hk2 hK hr hw hxl hxs hxe hs
  obtain ⟨n0, n1, n2, nz⟩ := three_boxes w #[.slice Ap f.params.length cp, .slice Aa f.arrays.length ca, .slice Ab f.body.length cb] #[.slice Aw g.words.length cw, .slice Ax g.arrays.length cx] #[.int .i64 0, .bool false, .slice none 0 0] 25 49 52
  have BB := Lib.hid (show Below w.heap.size w (((w.alloc (.cells #[.slice Ap f.params.length cp, .slice Aa f.arrays.length ca, .slice Ab f.body.length cb] 25)).alloc (.cells #[.slice Aw g.words.length cw, .slice Ax g.arrays.length cx] 49)).alloc (.cells #[.int .i64 0, .bool false, .slice none 0 0] 52)) by (repeat' first | with_reducible (first | exact Below.refl _ _ | assumption | refine Below.alloc ?_ ?_ _ | refine below_drewN ?_ _ | refine Below.drew ?_ | refine Below.setCell ?_ ?_ _ | refine Below.trans ?_ (Below.mono (by with_reducible assumption) ?_)) | go_size))
  go_enter Tryd.func26, Tryd.ntmps26
  go_upto_region 1 with fail
  generalize (((w.alloc (.cells #[.slice Ap f.params.length cp, .slice Aa f.arrays.length ca, .slice Ab f.body.length cb] 25)).alloc (.cells #[.slice Aw g.words.length cw, .slice Ax g.arrays.length cx] 49)).alloc (.cells #[.int .i64 0, .bool false, .slice none 0 0] 52)) = wB at *
  have N0 := Lib.hid n0
  have N1 := Lib.hid n1
  have N2 := Lib.hid n2
  have HKB := Lib.hid (show ∀ k, K k → k < w.heap.size from HKS.out)
  have CF := Lib.hid (fits_any (Ev.vrs f.params) (Ev.vrs f.arrays) g _ _ (.slice Ab f.body.length cb) _ wB (HP1.out.on BB.out).vrs (HP2.out.on BB.out).vrs ⟨Ab, f.body.length, cb, rfl⟩ (HG.out.at2 BB.out (Nat.le_refl _)) hn)
  have hpl : (Ev.vrs f.params).length = f.params.length := by unfold Ev.vrs; simp
  rw [hpl] at CF
  change Hid (Calls _ _ _ _ fun e w' => e = .returned (.int .i64 (Ev.fitsE f g)) ∧ Below wB.heap.size wB w') at CF
  have e0 := cell_of_block n0 0
  have e1 := cell_of_block n0 1
  have e2 := cell_of_block n0 2
  have g0 := cell_of_block n1 0
  have g1 := cell_of_block n1 1
  simp only [List.getElem?_toArray, List.getElem?_cons_zero, List.getElem?_cons_succ] at e0 e1 e2 g0 g1
  obtain ⟨F, hF⟩ : ∃ F, Ev.fitsE f g = F := ⟨_, rfl⟩
  rw [hF] at CF
  have HF := Lib.hid hF
  clear hF n0 n1 n2 hpl hn
  go_upto_region 2 with (go_at_call 24; refine CF.out.mono ?_; rintro r w1 ⟨rfl, hb1⟩)
  have B1 := Lib.hid (BB.out.trans (hb1.mono BB.out.size))
  have M0 := Lib.hid ((hb1.block _ (by omega)).trans N0.out)
  have M1 := Lib.hid ((hb1.block _ (by omega)).trans N1.out)
  have M2 := Lib.hid ((hb1.block _ (by omega)).trans N2.out)
  have z1 := hb1.size
  have zw : w.heap.size + 1 + 1 < w1.heap.size := by omega
  clear e0 e1 e2 g0 g1 CF N0 N1 N2 BB hb1
  by_cases h0 : F = 0
  case neg =>
    have gF : (F != 0) = true := bne_iff_ne.2 h0
    have HX := Lib.hid (show ((⟨0, false, []⟩ : Ev.Ended), F) = R by rw [← HRR.out]; unfold Ev.runE; rw [HF.out, if_pos h0])
    clear h0
    go_wp2_with (refine wpList_put_box (cells := #[.int .i64 0, .bool false, .slice none 0 0]) rfl 52 _ _ rfl rfl rfl M2.out rfl (by kernel_rfl) (by simp [Value.oneCell']) ?_; intro w2 hr2 hb2 hz2)
    have hl2 := load_range Tryd.underlying52 (by kernel_rfl) (by simp) (by kernel_rfl) hr2
    refine bodyPost_ret (v := .tuple #[.agg #[.int .i64 0, .bool false, .slice none 0 0], .int .i64 F]) (by simp [results, Tryd.results26, Sem.run_bind, asAddr, hl2]) rfl ?_
    refine ⟨.slice none 0 0, by rw [← HX.out], by rw [← HX.out]; exact ⟨[], rfl, SL.nil_ _ _ _, fun k u a h => by simp at h⟩, B1.out.trans (hb2.mono (by omega))⟩
  case pos =>
    have FIT := Lib.hid (Ev.fit_of (HF.out.trans h0))
    have HXR := Lib.hid (show ((⟨Ev.resI (Ev.goE f g).e, Ev.trapB (Ev.goE f g).e, (Ev.goE f g).a⟩ : Ev.Ended), (0 : Int)) = R by rw [← HRR.out]; unfold Ev.runE; rw [HF.out, if_neg (not_not_intro h0)])
    subst h0
    have FIT := Lib.hid (Ev.fit_of (HF.out.trans rfl))
    have HXR := Lib.hid (show ((⟨Ev.resI (Ev.goE f g).e, Ev.trapB (Ev.goE f g).e, (Ev.goE f g).a⟩ : Ev.Ended), (0 : Int)) = R by rw [← HRR.out]; unfold Ev.runE; rw [HF.out, if_neg (not_not_intro rfl)])
    have hmm := @run_makeMap Tryd.prog
    have HZW := Lib.hid zw
    obtain ⟨m0, m1, m2, mz⟩ := map_boxes w1 #[.map (some w1.heap.size), .bool false, .bool false, .int .i64 0] 136
    have bM : Below w1.heap.size w1 (((w1.alloc (.map #[] 0)).alloc (.cells #[.map (some w1.heap.size), .bool false, .bool false, .int .i64 0] 136)).alloc (.map #[] 0)) := by (repeat' first | with_reducible (first | exact Below.refl _ _ | assumption | refine Below.alloc ?_ ?_ _ | refine below_drewN ?_ _ | refine Below.drew ?_ | refine Below.setCell ?_ ?_ _ | refine Below.trans ?_ (Below.mono (by with_reducible assumption) ?_)) | go_size)
    have f0 : (((w1.alloc (.map #[] 0)).alloc (.cells #[.map (some w1.heap.size), .bool false, .bool false, .int .i64 0] 136)).alloc (.map #[] 0)).cell? ⟨w.heap.size, 0, none⟩ = some (.slice Ap f.params.length cp) := (cell_of_block ((bM.block _ (by omega)).trans M0.out) 0).trans rfl
    go_upto_region 6 with fail
    generalize (((w1.alloc (.map #[] 0)).alloc (.cells #[.map (some w1.heap.size), .bool false, .bool false, .int .i64 0] 136)).alloc (.map #[] 0)) = w4 at *
    obtain ⟨ab, hab⟩ : ∃ ab, w1.heap.size = ab := ⟨_, rfl⟩
    obtain ⟨eb, heb⟩ : ∃ eb, w1.heap.size + 1 = eb := ⟨_, rfl⟩
    obtain ⟨nb, hnb⟩ : ∃ nb, w1.heap.size + 1 + 1 = nb := ⟨_, rfl⟩
    have HPOS := Lib.hid (show w.heap.size + 1 + 1 < ab ∧ ab < eb ∧ eb < nb ∧ nb < w4.heap.size by omega)
    have B4 := Lib.hid (B1.out.trans (bM.mono B1.out.size))
    have P0 := Lib.hid ((bM.block _ (by omega)).trans M0.out)
    have P1 := Lib.hid ((bM.block _ (by omega)).trans M1.out)
    have P2 := Lib.hid ((bM.block _ (by omega)).trans M2.out)
    (try rw [hnb])
    (try rw [heb])
    (try rw [hab])
    rw [hab] at m0
    rw [heb, hab] at m1
    rw [hnb] at m2
    have MA := Lib.hid (show SMapIn w4 ab (fun _ => none) from ⟨_, _, m0, StrMap.nil 0⟩)
    have ME := Lib.hid m1
    have MN := Lib.hid (show SMapIn w4 nb (fun _ => none) from ⟨_, _, m2, StrMap.nil 0⟩)
    have zw4 : w.heap.size < w4.heap.size := by have := HPOS.out; omega
    clear m0 m1 m2 mz bM M0 M1 M2 hab heb hnb z1 zw hmm nz
    go_upto_region 7 with fail
    clear f0
    go_loopw [30] (fun ii wr => ∃ (i : Nat), i ≤ f.params.length ∧ ii = .int .i64 (i : Int) ∧ Hid (SMapIn wr nb (nvF (Ev.startN (f.params.take i) (g.words.take i)))) ∧ Hid (SFr (fun k => k = nb) w4 wr)) (fun ii _ => f.params.length - (intOf ii).toNat)
    case atStart => exact ⟨0, by omega, rfl, Lib.hid (by
      have e : nvF (Ev.startN (f.params.take 0) (g.words.take 0)) = fun _ => none := by
        funext q
        simp [Ev.startN, nvF, Ev.lkN]
      rw [e]; exact MN.out), Lib.hid (SFr.refl _ _)⟩
    case round =>
    obtain ⟨i, hi', rfl, HN, HFR⟩ := hrel
    have Q0 := Lib.hid ((HFR.out.block _ (by have := HPOS.out; omega) (by have := HPOS.out; omega)).trans P0.out)
    have Q1 := Lib.hid ((HFR.out.block _ (by have := HPOS.out; omega) (by have := HPOS.out; omega)).trans P1.out)
    have g0 := cell_of_block Q1.out 0
    have e1 := cell_of_block Q0.out 1
    simp only [List.getElem?_toArray, List.getElem?_cons_zero, List.getElem?_cons_succ] at g0 e1
    have zr := HFR.out.size
    have zwr : w.heap.size + 1 + 1 < wr.heap.size := by have := HPOS.out; omega
    have BR := Lib.hid (B4.out.trans (HFR.out.below (B := w.heap.size) (fun k hk h => by have := HPOS.out; omega) (by omega)))
    by_cases hlt : i < f.params.length
    case pos =>
      have HLT := Lib.hid hlt
      obtain ⟨p, hp⟩ : ∃ p, f.params[i]? = some p := ⟨_, List.getElem?_eq_getElem hlt⟩
      obtain ⟨x, hx⟩ : ∃ x, g.words[i]? = some x := ⟨_, List.getElem?_eq_getElem (by rw [FIT.out.words]; exact hlt)⟩
      have HST := Lib.hid (Ev.start_take hp hx)
      have HIS := Lib.hid (HPN.out p (List.mem_of_getElem? hp))
      obtain ⟨ba, oa, rfl, hba, hpa⟩ : ∃ ba oa, Ap = some ⟨ba, oa, none⟩ ∧ ba < w.heap.size ∧ ParsAt w ba oa f.params := by
        rcases (RPars.at_ HP1.out).2 with h | h
        · rw [h] at hlt; simp at hlt
        · exact h
      obtain ⟨p0, p1, p2⟩ := hpa i p hp
      replace p0 := (BR.out.cell (p := ⟨ba, oa + i * 3, none⟩) hba).trans p0
      replace p1 := (BR.out.cell (p := ⟨ba, oa + i * 3 + 1, none⟩) hba).trans p1
      replace p2 := (BR.out.cell (p := ⟨ba, oa + i * 3 + 2, none⟩) hba).trans p2
      obtain ⟨bw, ow, cw', hv, hbw, hq1, hq2, hq3, r0⟩ := RInts.at_ HW.out hx
      injection hv with h1 h3 h2
      subst h1 h2
      replace r0 := (BR.out.cell (p := ⟨bw, ow + i, none⟩) hbw).trans r0
      have zb : ba < wr.heap.size := Nat.lt_of_lt_of_le hba BR.out.size
      have zbw : bw < wr.heap.size := Nat.lt_of_lt_of_le hbw BR.out.size
      have hwl : i < g.words.length := by rw [FIT.out.words]; exact hlt
      clear hp hx hpa h3 hq1 hq2 hq3 e1
      go_upto_region 9 with fail
      have b8 : Below wr.heap.size wr (wr.alloc (.cells #[.string ⟨p.name.toArray⟩, .bool p.secret, .int .i64 p.size] 35)) := (Below.refl _ _).alloc (Nat.le_refl _) _
      have a8 := heap_alloc_new wr (.cells #[.string ⟨p.name.toArray⟩, .bool p.secret, .int .i64 p.size] 35)
      generalize (wr.alloc (.cells #[.string ⟨p.name.toArray⟩, .bool p.secret, .int .i64 p.size] 35)) = w8 at *
      have a80 := cell_of_block a8 0
      simp only [List.getElem?_toArray, List.getElem?_cons_zero] at a80
      have g08 := (b8.cell (p := ⟨w.heap.size + 1, 0, none⟩) (by show w.heap.size + 1 < _; omega)).trans g0
      have r08 := (b8.cell (p := ⟨bw, ow + i, none⟩) zbw).trans r0
      have B8 := Lib.hid b8
      have zr8 := (Array.getElem?_eq_some_iff.1 a8).1
      have zb8 : bw < w8.heap.size := by omega
      have zw9 : w.heap.size + 1 < w8.heap.size := by omega
      clear b8 a8 p0 p1 p2 r0 g0
      refine wp_region_flock_tail 8 (fun k => match k with  | _ => none) (by kernel_rfl) (by kernel_rfl) (by kernel_rfl) (by kernel_rfl) ?_
      simp only [List.take_succ_cons, List.take_zero, List.drop_succ_cons, List.drop_zero]
      apply flock_light rfl
      case h => first | exact light_no (by rfl) | ((first | apply light_plain rfl | apply light_yes (by rfl)); intro w9 hw9; obtain ⟨hb9, hh9⟩ := hw9; skip; go_simp; try rfl)
      (try simp only [Act.put, List.setIfInBounds_toArray, List.set_cons_zero, List.set_cons_succ])
      apply flock_light rfl
      case h => first | exact light_no (by rfl) | ((first | apply light_plain rfl | apply light_yes (by rfl)); intro w9 hw9; obtain ⟨hb9, hh9⟩ := hw9; skip; go_simp; try rfl)
      (try simp only [Act.put, List.setIfInBounds_toArray, List.set_cons_zero, List.set_cons_succ])
      apply flock_light rfl
      case h => first | exact light_no (by rfl) | ((first | apply light_plain rfl | apply light_yes (by rfl)); intro w9 hw9; obtain ⟨hb9, hh9⟩ := hw9; have hB9 : Below w8.heap.size w8 w9 := (by (repeat' first | with_reducible (first | exact Below.refl _ _ | assumption | refine Below.alloc ?_ ?_ _ | refine below_drewN ?_ _ | refine Below.drew ?_ | refine Below.setCell ?_ ?_ _ | refine Below.trans ?_ (Below.mono (by with_reducible assumption) ?_)) | go_size)); obtain ⟨kc9, kf9, s9⟩ := bfacts hb9; obtain ⟨kd9, kg9, _⟩ := bfacts hB9; skip; go_simp; try rfl)
      (try simp only [Act.put, List.setIfInBounds_toArray, List.set_cons_zero, List.set_cons_succ])
      apply flock_light rfl
      case h => first | exact light_no (by rfl) | ((first | apply light_plain rfl | apply light_yes (by rfl)); intro w9 hw9; obtain ⟨hb9, hh9⟩ := hw9; skip; go_simp; try rfl)
      (try simp only [Act.put, List.setIfInBounds_toArray, List.set_cons_zero, List.set_cons_succ])
      apply flock_light rfl
      case h => first | exact light_no (by rfl) | ((first | apply light_plain rfl | apply light_yes (by rfl)); intro w9 hw9; obtain ⟨hb9, hh9⟩ := hw9; have hB9 : Below w8.heap.size w8 w9 := (by (repeat' first | with_reducible (first | exact Below.refl _ _ | assumption | refine Below.alloc ?_ ?_ _ | refine below_drewN ?_ _ | refine Below.drew ?_ | refine Below.setCell ?_ ?_ _ | refine Below.trans ?_ (Below.mono (by with_reducible assumption) ?_)) | go_size)); obtain ⟨kc9, kf9, s9⟩ := bfacts hb9; obtain ⟨kd9, kg9, _⟩ := bfacts hB9; skip; go_simp; try rfl)
      (try simp only [Act.put, List.setIfInBounds_toArray, List.set_cons_zero, List.set_cons_succ])
      apply flock_light rfl
      case h => first | exact light_no (by rfl) | ((first | apply light_plain rfl | apply light_yes (by rfl)); intro w9 hw9; obtain ⟨hb9, hh9⟩ := hw9; skip; go_simp; try rfl)
      (try simp only [Act.put, List.setIfInBounds_toArray, List.set_cons_zero, List.set_cons_succ])
      apply flock_light rfl
      case h => first | exact light_no (by rfl) | ((first | apply light_plain rfl | apply light_yes (by rfl)); intro w9 hw9; obtain ⟨hb9, hh9⟩ := hw9; have hB9 : Below w8.heap.size w8 w9 := (by (repeat' first | with_reducible (first | exact Below.refl _ _ | assumption | refine Below.alloc ?_ ?_ _ | refine below_drewN ?_ _ | refine Below.drew ?_ | refine Below.setCell ?_ ?_ _ | refine Below.trans ?_ (Below.mono (by with_reducible assumption) ?_)) | go_size)); obtain ⟨kc9, kf9, s9⟩ := bfacts hb9; obtain ⟨kd9, kg9, _⟩ := bfacts hB9; skip; go_simp; try rfl)
      (try simp only [Act.put, List.setIfInBounds_toArray, List.set_cons_zero, List.set_cons_succ])
      apply flock_light rfl
      case h => first | exact light_no (by rfl) | ((first | apply light_plain rfl | apply light_yes (by rfl)); intro w9 hw9; obtain ⟨hb9, hh9⟩ := hw9; have hB9 : Below w8.heap.size w8 w9 := (by (repeat' first | with_reducible (first | exact Below.refl _ _ | assumption | refine Below.alloc ?_ ?_ _ | refine below_drewN ?_ _ | refine Below.drew ?_ | refine Below.setCell ?_ ?_ _ | refine Below.trans ?_ (Below.mono (by with_reducible assumption) ?_)) | go_size)); obtain ⟨kc9, kf9, s9⟩ := bfacts hb9; obtain ⟨kd9, kg9, _⟩ := bfacts hB9; skip; go_simp; try rfl)
      (try simp only [Act.put, List.setIfInBounds_toArray, List.set_cons_zero, List.set_cons_succ])
      refine flock_nil ?_
      intro w9 hb9 hh9
      have hB9 : Below w8.heap.size w8 w9 := (by (repeat' first | with_reducible (first | exact Below.refl _ _ | assumption | refine Below.alloc ?_ ?_ _ | refine below_drewN ?_ _ | refine Below.drew ?_ | refine Below.setCell ?_ ?_ _ | refine Below.trans ?_ (Below.mono (by with_reducible assumption) ?_)) | go_size))
      clear hh9
      (try dsimp only)
      have N9 := Lib.hid ((HN.out.on B8.out).on hB9)
      have F9 := Lib.hid ((HFR.out.on B8.out).on hB9)
      clear hB9 hb9
      go_wp2_with (at_mapUpdate; refine wpList_updateS_at rfl _ _ _ 137 _ rfl Tryd.underlying137 rfl rfl rfl N9.out HIS.out ?_; intro w7 hm7 ht7)
      go_roundw
      case rel => exact ⟨i + 1, by have := HLT.out; omega, by go_num, Lib.hid (by rw [HST.out, nvF_cons]; exact hm7), Lib.hid (F9.out.trans (stu_sfr ht7) (fun _ _ h => h))⟩
      case measure => have := HLT.out; simp [intOf]; omega
    case neg =>
    have hie : i = f.params.length := by omega
    subst hie
    rw [List.take_length, List.take_of_length_le (by rw [FIT.out.words]; exact Nat.le_refl _)] at HN
    have MA5 := Lib.hid (MA.out.same (HFR.out.block ab (by have := HPOS.out; omega) (by have := HPOS.out; omega)))
    have ME5 := Lib.hid ((HFR.out.block eb (by have := HPOS.out; omega) (by have := HPOS.out; omega)).trans ME.out)
    have Q2 := Lib.hid ((HFR.out.block _ (by have := HPOS.out; omega) (by have := HPOS.out; omega)).trans P2.out)
    have HZ5 := Lib.hid (show nb < wr.heap.size by have := HPOS.out; omega)
    obtain ⟨i1, hi1, hz0, hz1, hz2⟩ := info_parts evInt
    have IC := Lib.hid (⟨hi1, hz0, hz1, hz2⟩ : _ ∧ _ ∧ _ ∧ _)
    have HSA := Lib.hid (FIT.out.sz.len)
    clear hi1 hz0 hz1 hz2 HFR MA ME MN P0 P1 P2 B4 hlt hi' g0 zr zw4
    go_upto_region 12 with fail
    clear e1
    generalize wr = w5 at *
    go_loopw [47] (fun ii wx => ∃ (i : Nat) (vs : List Value) (m : SMapF), i ≤ f.arrays.length ∧ ii = .int .i64 (i : Int) ∧ Hid (vs.length = i) ∧ Hid (RowsA wx w5.heap.size wx.heap.size vs (g.arrays.take i)) ∧ Hid (SMapIn wx ab m) ∧ Hid (∀ s, m s = if Ev.arrI f.arrays s < i then vs[Ev.arrI f.arrays s]? else none) ∧ Hid (SFr (fun k => k = ab) w5 wx)) (fun ii _ => f.arrays.length - (intOf ii).toNat)
    case atStart => exact ⟨0, [], _, by omega, rfl, Lib.hid rfl, Lib.hid ⟨rfl, fun k u x h => by simp at h, fun k k' u u' b h => by simp at h, fun k u b h => by simp at h⟩, MA5, Lib.hid (fun s => by simp), Lib.hid (SFr.refl _ _)⟩
    case round =>
    obtain ⟨i, vs, m, hi', rfl, HVL, HRO, HMA, HMQ, HFR⟩ := hrel
    have T0 := Lib.hid ((HFR.out.block _ (by omega) (by have := HPOS.out; omega)).trans Q0.out)
    have T1 := Lib.hid ((HFR.out.block _ (by omega) (by have := HPOS.out; omega)).trans Q1.out)
    have T2 := Lib.hid ((HFR.out.block eb (by have := HPOS.out; have := HZ5.out; omega) (by have := HPOS.out; omega)).trans ME5.out)
    have g1 := cell_of_block T1.out 1
    have e2 := cell_of_block T0.out 2
    have t0 := cell_of_block T2.out 0
    simp only [List.getElem?_toArray, List.getElem?_cons_zero, List.getElem?_cons_succ] at g1 e2 t0
    have zr := HFR.out.size
    have zte := (Array.getElem?_eq_some_iff.1 T2.out).1
    have zwr6 : w.heap.size + 1 + 1 < wr.heap.size := by omega
    have BR6 := Lib.hid (BR.out.trans (HFR.out.below (B := w.heap.size) (fun k hk h => by have := HPOS.out; omega) (by omega)))
    by_cases hlt : i < f.arrays.length
    case pos =>
      have HLT := Lib.hid hlt
      obtain ⟨p, hp⟩ : ∃ p, f.arrays[i]? = some p := ⟨_, List.getElem?_eq_getElem hlt⟩
      obtain ⟨a, ha⟩ : ∃ a, g.arrays[i]? = some a := ⟨_, List.getElem?_eq_getElem (by rw [HSA.out]; exact hlt)⟩
      have HIS := Lib.hid (HAN.out p (List.mem_of_getElem? hp))
      have HAS := Lib.hid (HS.out a (List.mem_of_getElem? ha))
      have HPI := Lib.hid hp
      have HAI := Lib.hid ha
      obtain ⟨ba, oa, rfl, hba, hpa⟩ : ∃ ba oa, Aa = some ⟨ba, oa, none⟩ ∧ ba < w.heap.size ∧ ParsAt w ba oa f.arrays := by
        rcases (RPars.at_ HP2.out).2 with h | h
        · rw [h] at hlt; simp at hlt
        · exact h
      obtain ⟨p0, p1, p2⟩ := hpa i p hp
      replace p0 := (BR6.out.cell (p := ⟨ba, oa + i * 3, none⟩) hba).trans p0
      replace p1 := (BR6.out.cell (p := ⟨ba, oa + i * 3 + 1, none⟩) hba).trans p1
      replace p2 := (BR6.out.cell (p := ⟨ba, oa + i * 3 + 2, none⟩) hba).trans p2
      obtain ⟨bx, ox, cx', X0, n0, hv, hbx, ex, RA⟩ := RLists.el HX.out (k := i) (by rw [HSA.out]; exact hlt)
      rw [show g.arrays.getD i [] = a by rw [List.getD_eq_getElem?_getD, ha]; rfl] at ex RA
      injection hv with h1 h3 h2
      subst h1 h2
      replace ex := (BR6.out.cell (p := ⟨bx, ox + i, none⟩) hbx).trans ex
      have zb : ba < wr.heap.size := Nat.lt_of_lt_of_le hba BR6.out.size
      have zbx : bx < wr.heap.size := Nat.lt_of_lt_of_le hbx BR6.out.size
      have hgl : i < g.arrays.length := by rw [HSA.out]; exact hlt
      have HRA := Lib.hid (SL.at_ RA BR6.out (Nat.le_refl _))
      clear hp ha hpa h3 RA e2
      go_upto_region 14 with fail
      have b8 : Below wr.heap.size wr (wr.alloc (.cells #[.string ⟨p.name.toArray⟩, .bool p.secret, .int .i64 p.size] 35)) := (Below.refl _ _).alloc (Nat.le_refl _) _
      have a8 := heap_alloc_new wr (.cells #[.string ⟨p.name.toArray⟩, .bool p.secret, .int .i64 p.size] 35)
      generalize (wr.alloc (.cells #[.string ⟨p.name.toArray⟩, .bool p.secret, .int .i64 p.size] 35)) = w8 at *
      have a80 := cell_of_block a8 0
      simp only [List.getElem?_toArray, List.getElem?_cons_zero] at a80
      have g18 := (b8.cell (p := ⟨w.heap.size + 1, 1, none⟩) (by show w.heap.size + 1 < _; omega)).trans g1
      have t08 := (b8.cell (p := ⟨eb, 0, none⟩) zte).trans t0
      have ex8 := (b8.cell (p := ⟨bx, ox + i, none⟩) zbx).trans ex
      have B8 := Lib.hid b8
      have HRA8 := Lib.hid (SL.at_ HRA.out b8 (Nat.le_refl _))
      have zr8 := (Array.getElem?_eq_some_iff.1 a8).1
      have zb8 : bx < w8.heap.size := by omega
      have zt8 : eb < w8.heap.size := by omega
      have zw9 : w.heap.size + 1 < w8.heap.size := by omega
      have has := HAS.out
      clear b8 a8 p0 p1 p2 ex g1 t0
      refine wp_region_last (fun w' => Below w8.heap.size w8 w') [(0, true), (1, true), (2, true), (3, true), (4, true), (5, true), (7, true), (8, true), (9, true), (10, true), (11, true), (6, false), (12, false)] 13 (by kernel_rfl) (by kernel_rfl) (by kernel_rfl) (by kernel_rfl) (by kernel_rfl) (by decide) (Below.drew (Below.refl _ _)) ?_
      simp only [List.pop_toArray, List.dropLast_cons_cons, List.dropLast_singleton]
      apply trail_light
      case hi => (simp only [List.getElem?_toArray, List.getElem?_cons_zero, List.getElem?_cons_succ]; exact rfl)
      case hl => first | exact light_no (by rfl) | ((first | apply light_plain rfl | apply light_yes (by rfl)); intro w9 hS9; skip; first | (exact exec_load rfl rfl (by first | exact ldi9 | exact ldt9)) | (go_simp; try rfl))
      case hQ => exact fun _ _ _ h => h
      (try simp only [Act.put, List.setIfInBounds_toArray, List.set_cons_zero, List.set_cons_succ])
      apply trail_light
      case hi => (simp only [List.getElem?_toArray, List.getElem?_cons_zero, List.getElem?_cons_succ]; exact rfl)
      case hl => first | exact light_no (by rfl) | ((first | apply light_plain rfl | apply light_yes (by rfl)); intro w9 hS9; obtain ⟨kc9, kf9, s9⟩ := bfacts hS9; first | (exact exec_load rfl rfl (by first | exact ldi9 | exact ldt9)) | (go_simp; try rfl))
      case hQ => exact fun _ _ _ h => h
      (try simp only [Act.put, List.setIfInBounds_toArray, List.set_cons_zero, List.set_cons_succ])
      apply trail_light
      case hi => (simp only [List.getElem?_toArray, List.getElem?_cons_zero, List.getElem?_cons_succ]; exact rfl)
      case hl => first | exact light_no (by rfl) | ((first | apply light_plain rfl | apply light_yes (by rfl)); intro w9 hS9; obtain ⟨kc9, kf9, s9⟩ := bfacts hS9; first | (exact exec_load rfl rfl (by first | exact ldi9 | exact ldt9)) | (go_simp; try rfl))
      case hQ => exact fun _ _ _ h => h
      (try simp only [Act.put, List.setIfInBounds_toArray, List.set_cons_zero, List.set_cons_succ])
      apply trail_light
      case hi => (simp only [List.getElem?_toArray, List.getElem?_cons_zero, List.getElem?_cons_succ]; exact rfl)
      case hl => first | exact light_no (by rfl) | ((first | apply light_plain rfl | apply light_yes (by rfl)); intro w9 hS9; obtain ⟨kc9, kf9, s9⟩ := bfacts hS9; first | (exact exec_load rfl rfl (by first | exact ldi9 | exact ldt9)) | (go_simp; try rfl))
      case hQ => exact fun _ _ _ h => h
      (try simp only [Act.put, List.setIfInBounds_toArray, List.set_cons_zero, List.set_cons_succ])
      apply trail_light
      case hi => (simp only [List.getElem?_toArray, List.getElem?_cons_zero, List.getElem?_cons_succ]; exact rfl)
      case hl => first | exact light_no (by rfl) | ((first | apply light_plain rfl | apply light_yes (by rfl)); intro w9 hS9; obtain ⟨kc9, kf9, s9⟩ := bfacts hS9; first | (exact exec_load rfl rfl (by first | exact ldi9 | exact ldt9)) | (go_simp; try rfl))
      case hQ => exact fun _ _ _ h => h
      (try simp only [Act.put, List.setIfInBounds_toArray, List.set_cons_zero, List.set_cons_succ])
      apply trail_light
      case hi => (simp only [List.getElem?_toArray, List.getElem?_cons_zero, List.getElem?_cons_succ]; exact rfl)
      case hl => first | exact light_no (by rfl) | ((first | apply light_plain rfl | apply light_yes (by rfl)); intro w9 hS9; obtain ⟨kc9, kf9, s9⟩ := bfacts hS9; first | (exact exec_load rfl rfl (by first | exact ldi9 | exact ldt9)) | (go_simp; try rfl))
      case hQ => exact fun _ _ _ h => h
      (try simp only [Act.put, List.setIfInBounds_toArray, List.set_cons_zero, List.set_cons_succ])
      apply trail_light
      case hi => (simp only [List.getElem?_toArray, List.getElem?_cons_zero, List.getElem?_cons_succ]; exact rfl)
      case hl => first | exact light_no (by rfl) | ((first | apply light_plain rfl | apply light_yes (by rfl)); intro w9 hS9; obtain ⟨kc9, kf9, s9⟩ := bfacts hS9; first | (exact exec_load rfl rfl (by first | exact ldi9 | exact ldt9)) | (go_simp; try rfl))
      case hQ => exact fun _ _ _ h => h
      (try simp only [Act.put, List.setIfInBounds_toArray, List.set_cons_zero, List.set_cons_succ])
      apply trail_light
      case hi => (simp only [List.getElem?_toArray, List.getElem?_cons_zero, List.getElem?_cons_succ]; exact rfl)
      case hl => first | exact light_no (by rfl) | ((first | apply light_plain rfl | apply light_yes (by rfl)); intro w9 hS9; obtain ⟨kc9, kf9, s9⟩ := bfacts hS9; first | (exact exec_load rfl rfl (by first | exact ldi9 | exact ldt9)) | (go_simp; try rfl))
      case hQ => exact fun _ _ _ h => h
      (try simp only [Act.put, List.setIfInBounds_toArray, List.set_cons_zero, List.set_cons_succ])
      apply trail_light
      case hi => (simp only [List.getElem?_toArray, List.getElem?_cons_zero, List.getElem?_cons_succ]; exact rfl)
      case hl => first | exact light_no (by rfl) | ((first | apply light_plain rfl | apply light_yes (by rfl)); intro w9 hS9; skip; first | (exact exec_load rfl rfl (by first | exact ldi9 | exact ldt9)) | (go_simp; try rfl))
      case hQ => exact fun _ _ _ h => h
      (try simp only [Act.put, List.setIfInBounds_toArray, List.set_cons_zero, List.set_cons_succ])
      apply trail_light
      case hi => (simp only [List.getElem?_toArray, List.getElem?_cons_zero, List.getElem?_cons_succ]; exact rfl)
      case hl => first | exact light_no (by rfl) | ((first | apply light_plain rfl | apply light_yes (by rfl)); intro w9 hS9; obtain ⟨kc9, kf9, s9⟩ := bfacts hS9; first | (exact exec_load rfl rfl (by first | exact ldi9 | exact ldt9)) | (go_simp; try rfl))
      case hQ => exact fun _ _ _ h => h
      (try simp only [Act.put, List.setIfInBounds_toArray, List.set_cons_zero, List.set_cons_succ])
      apply trail_light
      case hi => (simp only [List.getElem?_toArray, List.getElem?_cons_zero, List.getElem?_cons_succ]; exact rfl)
      case hl => first | exact light_no (by rfl) | ((first | apply light_plain rfl | apply light_yes (by rfl)); intro w9 hS9; obtain ⟨kc9, kf9, s9⟩ := bfacts hS9; first | (exact exec_load rfl rfl (by first | exact ldi9 | exact ldt9)) | (go_simp; try rfl))
      case hQ => exact fun _ _ _ h => h
      (try simp only [Act.put, List.setIfInBounds_toArray, List.set_cons_zero, List.set_cons_succ])
      apply trail_heavy
      case hi => (simp only [List.getElem?_toArray, List.getElem?_cons_zero, List.getElem?_cons_succ]; exact rfl)
      go_wp2_with ((at_builtin; refine wpList_append_SL (B := w8.heap.size) rfl (.tmp 58) (.tmp 63) _ rfl w8.heap.size 3 i1 _ 8 Tryd.underlying46 IC.out.1 IC.out.2.1 IC.out.2.2.1 IC.out.2.2.2 rfl (by omega) rfl (World.ownsRow_made w8.drew #[] 0 (Nat.le_refl _) (by simp [maxLen]) (by simp)) rfl (SL.below HRA8.out (by (repeat' first | with_reducible (first | exact Below.refl _ _ | assumption | refine Below.alloc ?_ ?_ _ | refine below_drewN ?_ _ | refine Below.drew ?_ | refine Below.setCell ?_ ?_ _ | refine Below.trans ?_ (Below.mono (by with_reducible assumption) ?_)) | go_size))) (one_ints a) (by simp only [maxLen]; omega) (by omega) (by go_size) ?_; intro v7 w7 hown7 hg7 hat7; have hb7 : Below w8.heap.size w8 w7 := (by (repeat' first | with_reducible (first | exact Below.refl _ _ | assumption | refine Below.alloc ?_ ?_ _ | refine below_drewN ?_ _ | refine Below.drew ?_ | refine Below.setCell ?_ ?_ _ | refine Below.trans ?_ (Below.mono (by with_reducible assumption) ?_)) | go_size) : Below w8.heap.size w8 _).grown hg7 (by go_size) (by intro k hk; have hk' : w8.heap.size = k := (Option.some.inj hk); omega); simp only [Nat.zero_add, List.nil_append] at hown7))
      refine ⟨by first | exact hb7 | ((repeat' first | with_reducible (first | exact Below.refl _ _ | assumption | refine Below.alloc ?_ ?_ _ | refine below_drewN ?_ _ | refine Below.drew ?_ | refine Below.setCell ?_ ?_ _ | refine Below.trans ?_ (Below.mono (by with_reducible assumption) ?_)) | go_size)), ?_⟩
      apply trail_heavy
      case hi => (simp only [List.getElem?_toArray, List.getElem?_cons_zero, List.getElem?_cons_succ]; exact rfl)
      go_wp2_with ((at_builtin; refine wpList_append_SL (B := w8.heap.size) rfl (.tmp 58) (.tmp 63) _ rfl w8.heap.size 3 i1 _ 8 Tryd.underlying46 IC.out.1 IC.out.2.1 IC.out.2.2.1 IC.out.2.2.2 rfl (by omega) rfl (World.ownsRow_made w8.drew #[] 0 (Nat.le_refl _) (by simp [maxLen]) (by simp)) rfl (SL.below HRA8.out (by (repeat' first | with_reducible (first | exact Below.refl _ _ | assumption | refine Below.alloc ?_ ?_ _ | refine below_drewN ?_ _ | refine Below.drew ?_ | refine Below.setCell ?_ ?_ _ | refine Below.trans ?_ (Below.mono (by with_reducible assumption) ?_)) | go_size))) (one_ints a) (by simp only [maxLen]; omega) (by omega) (by go_size) ?_; intro v7 w7 hown7 hg7 hat7; have hb7 : Below w8.heap.size w8 w7 := (by (repeat' first | with_reducible (first | exact Below.refl _ _ | assumption | refine Below.alloc ?_ ?_ _ | refine below_drewN ?_ _ | refine Below.drew ?_ | refine Below.setCell ?_ ?_ _ | refine Below.trans ?_ (Below.mono (by with_reducible assumption) ?_)) | go_size) : Below w8.heap.size w8 _).grown hg7 (by go_size) (by intro k hk; have hk' : w8.heap.size = k := (Option.some.inj hk); omega); simp only [Nat.zero_add, List.nil_append] at hown7))
      refine ⟨by first | exact hb7 | ((repeat' first | with_reducible (first | exact Below.refl _ _ | assumption | refine Below.alloc ?_ ?_ _ | refine below_drewN ?_ _ | refine Below.drew ?_ | refine Below.setCell ?_ ?_ _ | refine Below.trans ?_ (Below.mono (by with_reducible assumption) ?_)) | go_size)), ?_⟩
      refine trail_nil ?_
      refine last_at rfl ?_
      (try dsimp only)
      obtain ⟨A12, c12, rfl, _, _⟩ := SL.form (SL.of_own hown7)
      have b87 := B8.out.trans (hb7.mono B8.out.size)
      have M7 := Lib.hid (HMA.out.on b87)
      have RW7 := Lib.hid (RowsA.push HRO.out zr b87 (own_lessT' hown7 B8.out.size))
      have F7 := Lib.hid (HFR.out.on b87)
      have HTK := Lib.hid (show g.arrays.take (i + 1) = g.arrays.take i ++ [a] by rw [List.take_add_one, HAI.out]; rfl)
      clear hb7 b87 hown7 hg7 hat7 g18 t08 ex8 a80
      refine wpList_updateS_at rfl _ _ _ 134 _ rfl Tryd.underlying134 rfl rfl rfl M7.out HIS.out ?_
      intro w10 hm10 ht10
      go_wp2_with fail
      have T10 := stu_sfr ht10
      go_roundw
      case rel =>
        refine ⟨i + 1, vs ++ [.slice A12 a.length c12], _, by have := HLT.out; omega, by go_num, Lib.hid (by have := HVL.out; simp; omega), Lib.hid ?_, Lib.hid hm10, Lib.hid fun q => ?_, Lib.hid (F7.out.trans T10 (fun _ _ h => h))⟩
        · rw [HTK.out]
          have h := RW7.out.keep (w' := w10) (fun k h1 h2 => T10.block k h2 (by have := HPOS.out; have := HZ5.out; omega))
          rw [show w10.heap.size = w7.heap.size from ht10.size]
          exact h
        · show (if q = p.name then some (.slice A12 a.length c12) else m q) = _
          by_cases hq : q = p.name
          · rw [if_pos hq, hq, HDA.out.arrI HPI.out, if_pos (Nat.lt_succ_self i), ← HVL.out]
            simp
          · rw [if_neg hq, HMQ.out q]
            have hne : Ev.arrI f.arrays q ≠ i := fun e => hq (Ev.arrI_of HPI.out e)
            by_cases hlt2 : Ev.arrI f.arrays q < i
            · rw [if_pos hlt2, if_pos (by omega), List.getElem?_append_left (by rw [HVL.out]; exact hlt2)]
            · rw [if_neg hlt2, if_neg (by omega)]
      case measure => have := HLT.out; simp [intOf]; omega
    case neg =>
    have hie : i = f.arrays.length := by omega
    subst hie
    rw [← HSA.out, List.take_length] at HRO
    have HRV := Lib.hid (show m = rvF f.arrays vs from by
      funext q
      rw [HMQ.out q]
      unfold rvF
      by_cases h : Ev.arrI f.arrays q < f.arrays.length
      · rw [if_pos h]
      · rw [if_neg h, List.getElem?_eq_none (by rw [HVL.out]; omega)])
    have HEM := Lib.hid (show EM wr eb ab w5.heap.size wr.heap.size vs f.arrays g.arrays none from
      ⟨T2.out, by rw [← HRV.out]; exact HMA.out, HRO.out, by have := HPOS.out; have := HZ5.out; omega, by have := HPOS.out; have := HZ5.out; omega, by have := HPOS.out; omega, zr, Nat.le_refl _, HSA.out⟩)
    have HNR := Lib.hid (HN.out.same (HFR.out.block nb HZ5.out (by have := HPOS.out; omega)))
    have HNM := Lib.hid (show ∀ k, k < w.heap.size → ¬ MR w5.heap.size wr.heap.size eb nb k from fun k hk h => by
      have := HPOS.out; have := HZ5.out
      rcases h with h | h | h <;> omega)
    have HPX := Lib.hid (show eb < w5.heap.size ∧ nb < w5.heap.size ∧ ab < w5.heap.size from by have := HPOS.out; have := HZ5.out; omega)
    have T3 := Lib.hid ((HFR.out.block _ (by omega) (by have := HPOS.out; omega)).trans Q2.out)
    have CB := Lib.hid (revBlock_all 10 f.body f.arrays f.params false (Ev.startN f.params g.words) g.arrays eb ab nb w5.heap.size wr.heap.size _ vs wr K
      ⟨HEM.out, HNR.out, HPX.out.2.1, by have := HPOS.out; omega, by have := HPOS.out; omega, FIT.out.wn, FIT.out.wa⟩ (Ev.start_fst FIT.out.words) (RStL.keep BR6.out.size (fun k hk hkl => BR6.out.block k hkl) _ _ _ HP3.out) (fun k hk => HNM.out k (HKS.out k hk)) HRF.out.wf HBL.out HBS.out HRF.out.ty)
    change Hid (Calls _ _ _ _ fun r w' => r = .returned (.tuple #[]) ∧ SFr (MR w5.heap.size wr.heap.size eb nb) wr w' ∧ EM w' eb ab w5.heap.size wr.heap.size vs f.arrays (Ev.goE f g).a (Ev.goE f g).e ∧ (∃ m, SMapIn w' nb m) ∧ ((Ev.goE f g).e = none → SMapIn w' nb (nvF ((Ev.goE f g).back (Ev.startN f.params g.words)).l))) at CB
    generalize Ev.goE f g = O at *
    clear HRO HMA HMQ HVL
    go_upto_region 17 with (go_at_call 73; refine CB.out.mono ?_; rintro r w6 ⟨rfl, hF6, hM6, _, _⟩)
    have E6 := Lib.hid hM6
    have B6 := Lib.hid (BR6.out.trans (hF6.below (B := w.heap.size) HNM.out (by omega)))
    have hnb : ∀ k, k < w5.heap.size → k ≠ eb → k ≠ nb → ¬ MR w5.heap.size wr.heap.size eb nb k := fun k hk h1 h2 h => by
      rcases h with h | h | h
      · omega
      · exact h1 h
      · exact h2 h
    have U0 := Lib.hid ((hF6.block _ (by omega) (hnb _ (by have := HPOS.out; have := HPX.out; omega) (by have := HPOS.out; omega) (by have := HPOS.out; omega))).trans T0.out)
    have U2 := Lib.hid ((hF6.block _ (by omega) (hnb _ (by have := HPOS.out; have := HPX.out; omega) (by have := HPOS.out; omega) (by have := HPOS.out; omega))).trans T3.out)
    have t1 := hM6.cell 1
    have t3 := hM6.cell 3
    simp only [List.getElem?_toArray, List.getElem?_cons_zero, List.getElem?_cons_succ] at t1 t3
    rw [← trap_same] at t1
    rw [← res_same] at t3
    have zt6 := hM6.lt
    have zw6 : w.heap.size + 1 + 1 < w6.heap.size := by have := hF6.size; omega
    clear hF6 hM6 hnb g1 t0 e2 CB
    generalize Ev.trapB O.e = tr at *
    generalize Ev.resI O.e = rs at *
    refine wp_region_flock_tail 10 (fun k => match k with | 9 => some (Hv.boxS w6.heap.size #[.int .i64 0, .bool false, .slice none 0 0] 52) | _ => none) (by kernel_rfl) (by kernel_rfl) (by kernel_rfl) (by kernel_rfl) ?_
    simp only [List.take_succ_cons, List.take_zero, List.drop_succ_cons, List.drop_zero]
    apply flock_light rfl
    case h => first | exact light_no (by rfl) | ((first | apply light_plain rfl | apply light_yes (by rfl)); intro w9 hw9; obtain ⟨hb9, hh9⟩ := hw9; skip; go_simp; try rfl)
    (try simp only [Act.put, List.setIfInBounds_toArray, List.set_cons_zero, List.set_cons_succ])
    apply flock_light rfl
    case h => first | exact light_no (by rfl) | ((first | apply light_plain rfl | apply light_yes (by rfl)); intro w9 hw9; obtain ⟨hb9, hh9⟩ := hw9; have hB9 : Below w6.heap.size w6 w9 := (by (repeat' first | with_reducible (first | exact Below.refl _ _ | assumption | refine Below.alloc ?_ ?_ _ | refine below_drewN ?_ _ | refine Below.drew ?_ | refine Below.setCell ?_ ?_ _ | refine Below.trans ?_ (Below.mono (by with_reducible assumption) ?_)) | go_size)); obtain ⟨kc9, kf9, s9⟩ := bfacts hb9; obtain ⟨kd9, kg9, _⟩ := bfacts hB9; skip; go_simp; try rfl)
    (try simp only [Act.put, List.setIfInBounds_toArray, List.set_cons_zero, List.set_cons_succ])
    apply flock_light rfl
    case h => first | exact light_no (by rfl) | ((first | apply light_plain rfl | apply light_yes (by rfl)); intro w9 hw9; obtain ⟨hb9, hh9⟩ := hw9; skip; go_simp; try rfl)
    (try simp only [Act.put, List.setIfInBounds_toArray, List.set_cons_zero, List.set_cons_succ])
    apply flock_light rfl
    case h => first | exact light_no (by rfl) | ((first | apply light_plain rfl | apply light_yes (by rfl)); intro w9 hw9; obtain ⟨hb9, hh9⟩ := hw9; have hB9 : Below w6.heap.size w6 w9 := (by (repeat' first | with_reducible (first | exact Below.refl _ _ | assumption | refine Below.alloc ?_ ?_ _ | refine below_drewN ?_ _ | refine Below.drew ?_ | refine Below.setCell ?_ ?_ _ | refine Below.trans ?_ (Below.mono (by with_reducible assumption) ?_)) | go_size)); obtain ⟨kc9, kf9, s9⟩ := bfacts hb9; obtain ⟨kd9, kg9, _⟩ := bfacts hB9; skip; go_simp; try rfl)
    (try simp only [Act.put, List.setIfInBounds_toArray, List.set_cons_zero, List.set_cons_succ])
    apply flock_light rfl
    case h => first | exact light_no (by rfl) | ((first | apply light_plain rfl | apply light_yes (by rfl)); intro w9 hw9; obtain ⟨hb9, hh9⟩ := hw9; skip; go_simp; try rfl)
    (try simp only [Act.put, List.setIfInBounds_toArray, List.set_cons_zero, List.set_cons_succ])
    apply flock_light rfl
    case h => first | exact light_no (by rfl) | ((first | apply light_plain rfl | apply light_yes (by rfl)); intro w9 hw9; obtain ⟨hb9, hh9⟩ := hw9; have hB9 : Below w6.heap.size w6 w9 := (by (repeat' first | with_reducible (first | exact Below.refl _ _ | assumption | refine Below.alloc ?_ ?_ _ | refine below_drewN ?_ _ | refine Below.drew ?_ | refine Below.setCell ?_ ?_ _ | refine Below.trans ?_ (Below.mono (by with_reducible assumption) ?_)) | go_size)); obtain ⟨kc9, kf9, s9⟩ := bfacts hb9; obtain ⟨kd9, kg9, _⟩ := bfacts hB9; skip; go_simp; try rfl)
    (try simp only [Act.put, List.setIfInBounds_toArray, List.set_cons_zero, List.set_cons_succ])
    apply flock_light rfl
    case h => first | exact light_no (by rfl) | ((first | apply light_plain rfl | apply light_yes (by rfl)); intro w9 hw9; obtain ⟨hb9, hh9⟩ := hw9; skip; go_simp; try rfl)
    (try simp only [Act.put, List.setIfInBounds_toArray, List.set_cons_zero, List.set_cons_succ])
    apply flock_light rfl
    case h => first | exact light_no (by rfl) | ((first | apply light_plain rfl | apply light_yes (by rfl)); intro w9 hw9; obtain ⟨hb9, hh9⟩ := hw9; have hB9 : Below w6.heap.size w6 w9 := (by (repeat' first | with_reducible (first | exact Below.refl _ _ | assumption | refine Below.alloc ?_ ?_ _ | refine below_drewN ?_ _ | refine Below.drew ?_ | refine Below.setCell ?_ ?_ _ | refine Below.trans ?_ (Below.mono (by with_reducible assumption) ?_)) | go_size)); obtain ⟨kc9, kf9, s9⟩ := bfacts hb9; obtain ⟨kd9, kg9, _⟩ := bfacts hB9; skip; go_simp; try rfl)
    (try simp only [Act.put, List.setIfInBounds_toArray, List.set_cons_zero, List.set_cons_succ])
    apply flock_light rfl
    case h => first | exact light_no (by rfl) | ((first | apply light_plain rfl | apply light_yes (by rfl)); intro w9 hw9; obtain ⟨hb9, hh9⟩ := hw9; skip; go_simp; try rfl)
    (try simp only [Act.put, List.setIfInBounds_toArray, List.set_cons_zero, List.set_cons_succ])
    refine flock_heavy _ rfl ?_ ?_
    · intro w9 hb9 hh9
      have hB9 : Below w6.heap.size w6 w9 := (by (repeat' first | with_reducible (first | exact Below.refl _ _ | assumption | refine Below.alloc ?_ ?_ _ | refine below_drewN ?_ _ | refine Below.drew ?_ | refine Below.setCell ?_ ?_ _ | refine Below.trans ?_ (Below.mono (by with_reducible assumption) ?_)) | go_size))
      obtain ⟨kc9, kf9, s9⟩ := bfacts hb9
      obtain ⟨kd9, kg9, _⟩ := bfacts hB9
      skip
      go_wp2_with fail
      refine grewTo_at (by rfl) (by (repeat' first | with_reducible (first | exact Below.refl _ _ | assumption | refine Below.alloc ?_ ?_ _ | refine below_drewN ?_ _ | refine Below.drew ?_ | refine Below.setCell ?_ ?_ _ | refine Below.trans ?_ (Below.mono (by with_reducible assumption) ?_)) | go_size)) ?_
      exact ⟨_, rfl, by go_size, heap_alloc_new _ _⟩
    intro x9 ok9
    (try simp only [Act.put, List.setIfInBounds_toArray, List.set_cons_zero, List.set_cons_succ])
    (try dsimp only [Hv.own, Hv.is, Hv.lit, Hv.box, Hv.sl] at ok9)
    first | subst ok9 | (obtain ⟨A9, c9, ok9⟩ := ok9; subst ok9) | (obtain ⟨A9, ok9⟩ := ok9; subst ok9) | skip
    refine flock_nil ?_
    intro w9 hb9 hh9
    have hB9 : Below w6.heap.size w6 w9 := (by (repeat' first | with_reducible (first | exact Below.refl _ _ | assumption | refine Below.alloc ?_ ?_ _ | refine below_drewN ?_ _ | refine Below.drew ?_ | refine Below.setCell ?_ ?_ _ | refine Below.trans ?_ (Below.mono (by with_reducible assumption) ?_)) | go_size))
    have r9 := hh9 _ (.head _); dsimp only [Hv.own, Hv.is, Hv.lit, Hv.box, Hv.sl] at r9; (first | replace r9 := lit_heap r9 | replace r9 := box_heap r9 | skip); clear hh9
    (try dsimp only)
    obtain ⟨h9, hc9⟩ := boxS_heap r9
    have HC9 := Lib.hid hc9
    have E9 := Lib.hid (E6.out.on hB9)
    have B9 := Lib.hid (B6.out.trans (hB9.mono B6.out.size))
    have U09 := Lib.hid ((hB9.block _ (by omega)).trans U0.out)
    have U29 := Lib.hid ((hB9.block _ (by omega)).trans U2.out)
    have H9 := Lib.hid (show w6.heap.size ≤ A9 ∧ w.heap.size + 1 + 1 < w6.heap.size ∧ eb < w6.heap.size ∧ ab < w6.heap.size ∧ wr.heap.size ≤ w6.heap.size from ⟨h9, zw6, zt6, E6.out.m.lt, E6.out.hs⟩)
    clear r9 hc9 hB9 hb9 t1 t3 h9
    go_upto_region 18 with (refine wpList_put_all (cells := #[.int .i64 rs, .bool tr, .slice none 0 0]) rfl 52 _ _ rfl rfl rfl HC9.out rfl (by kernel_rfl) (by simp [Value.oneCell']) ?_; intro w7 hr7 hf7 hz7)
    have PF7 : SFr (fun k => k = A9) w9 w7 := ⟨hf7.os, hf7.tape, hf7.output, hf7.size, fun k hk h => hf7.block k hk h⟩
    have z9 := (Array.getElem?_eq_some_iff.1 HC9.out).1
    have s69 : w6.heap.size ≤ A9 := H9.out.1
    have E7 := Lib.hid (E9.out.sfr PF7 (fun k hk h => by have := H9.out; omega))
    have R7 := Lib.hid hr7
    have B7 := Lib.hid (B9.out.trans (PF7.below (B := w.heap.size) (fun k hk h => by have := H9.out; omega) (by have := H9.out; omega)))
    have U07 := Lib.hid ((PF7.block _ (by have := H9.out; omega) (by have := H9.out; omega)).trans U09.out)
    have U27 := Lib.hid ((PF7.block _ (by have := H9.out; omega) (by have := H9.out; omega)).trans U29.out)
    have H7 := Lib.hid (show A9 < w7.heap.size ∧ w.heap.size + 1 + 1 < A9 ∧ eb < A9 ∧ ab < A9 by have := H9.out; have := hf7.size; omega)
    have e1 := cell_of_block U07.out 1
    simp only [List.getElem?_toArray, List.getElem?_cons_zero, List.getElem?_cons_succ] at e1
    have zw7 : w.heap.size < w7.heap.size := by have := H7.out; omega
    obtain ⟨i2, hi1, hz0, hz1, hz2⟩ := info_parts evSl
    have IL := Lib.hid (⟨hi1, hz0, hz1, hz2⟩ : _ ∧ _ ∧ _ ∧ _)
    have HVS := Lib.hid (show vs.length = f.arrays.length from by rw [E7.out.rows.len, E7.out.len])
    clear hi1 hz0 hz1 hz2 PF7 hr7 hf7 hz7 z9 s69 HC9 E9 B9 U09 U29
    go_upto_region 19 with fail
    clear e1
    go_loopw [83] (fun ii wx => ∃ (i : Nat) (va : Value), i ≤ f.arrays.length ∧ ii = .int .i64 (i : Int) ∧ Hid (wx.ownsRow w7.heap.size 46 1 va i (vs.take i)) ∧ Hid (wx.heap[A9]? = some (.cells #[.int .i64 rs, .bool tr, va] 52 (0, 0))) ∧ Hid (SFr (fun k => k = A9) w7 wx)) (fun ii _ => f.arrays.length - (intOf ii).toNat)
    case atStart => exact ⟨0, _, by omega, rfl, Lib.hid (World.ownsRow_nil _ _ _ _), R7, Lib.hid (SFr.refl _ _)⟩
    case round =>
    obtain ⟨i, va, hi', rfl, HO, HA9, HFR⟩ := hrel
    obtain ⟨wa, wc, rfl, hq1, hq2⟩ := SL.form (SL.of_own HO.out)
    have E8 := Lib.hid (E7.out.sfr HFR.out (fun k hk h => by have := H7.out; have := E7.out.hs; have := H9.out; omega))
    have zr := HFR.out.size
    have V0 := Lib.hid ((HFR.out.block _ (by have := H7.out; omega) (by have := H7.out; omega)).trans U07.out)
    have V2 := Lib.hid ((HFR.out.block _ (by have := H7.out; omega) (by have := H7.out; omega)).trans U27.out)
    have BR8 := Lib.hid (B7.out.trans (HFR.out.below (B := w.heap.size) (fun k hk h => by have := H7.out; omega) (by omega)))
    have zA := (Array.getElem?_eq_some_iff.1 HA9.out).1
    by_cases hlt : i < f.arrays.length
    case pos =>
      have HLT := Lib.hid hlt
      obtain ⟨p, hp⟩ : ∃ p, f.arrays[i]? = some p := ⟨_, List.getElem?_eq_getElem hlt⟩
      obtain ⟨q, hqq⟩ : ∃ q, O.a[i]? = some q := ⟨_, List.getElem?_eq_getElem (by rw [E8.out.len]; exact hlt)⟩
      obtain ⟨X, cq, hvk, hlc, hcm, _⟩ := E8.out.rows.at_ hqq
      have HIS := Lib.hid (HAN.out p (List.mem_of_getElem? hp))
      have hri : rvF f.arrays vs p.name = some (.slice X q.length cq) := by unfold rvF; rw [HDA.out.arrI hp]; exact hvk
      have HTK := Lib.hid (show vs.take (i + 1) = vs.take i ++ [.slice X q.length cq] by rw [List.take_add_one, hvk]; rfl)
      obtain ⟨ba, oa, hAa, hba, hpa⟩ : ∃ ba oa, Aa = some ⟨ba, oa, none⟩ ∧ ba < w.heap.size ∧ ParsAt w ba oa f.arrays := by
        rcases (RPars.at_ HP2.out).2 with h | h
        · rw [h] at hlt; simp at hlt
        · exact h
      subst hAa
      obtain ⟨p0, p1, p2⟩ := hpa i p hp
      replace p0 := (BR8.out.cell (p := ⟨ba, oa + i * 3, none⟩) hba).trans p0
      replace p1 := (BR8.out.cell (p := ⟨ba, oa + i * 3 + 1, none⟩) hba).trans p1
      replace p2 := (BR8.out.cell (p := ⟨ba, oa + i * 3 + 2, none⟩) hba).trans p2
      have zb : ba < wr.heap.size := Nat.lt_of_lt_of_le hba BR8.out.size
      clear hp hqq hpa hvk hq1
      go_upto_region 21 with fail
      have b8 : Below wr.heap.size wr (wr.alloc (.cells #[.string ⟨p.name.toArray⟩, .bool p.secret, .int .i64 p.size] 35)) := (Below.refl _ _).alloc (Nat.le_refl _) _
      have a8 := heap_alloc_new wr (.cells #[.string ⟨p.name.toArray⟩, .bool p.secret, .int .i64 p.size] 35)
      generalize (wr.alloc (.cells #[.string ⟨p.name.toArray⟩, .bool p.secret, .int .i64 p.size] 35)) = w8 at *
      have B8 := Lib.hid b8
      have E88 := Lib.hid (E8.out.on b8)
      have O8 := Lib.hid (owns_below HO.out b8)
      have A8 := Lib.hid ((b8.block A9 zA).trans HA9.out)
      have F8 := Lib.hid (HFR.out.on b8)
      have HOB := Lib.hid (show ∀ k, (Value.slice wa i wc).ownBlock = some k → w7.heap.size ≤ k ∧ k < wr.heap.size from fun k h => HO.out.lt k h)
      have HQ1 := Lib.hid (fun u (h : SFr (fun k => (Value.slice wa i wc).ownBlock = some k) w8 u) => (cell_of_block ((h.block A9 (Array.getElem?_eq_some_iff.1 A8.out).1 (fun e => by have := HOB.out _ e; have := H7.out; omega)).trans A8.out) 2).trans rfl)
      have HQ2 := Lib.hid (fun u (h : SFr (fun k => (Value.slice wa i wc).ownBlock = some k) w8 u) => (cell_of_block ((h.block eb E88.out.lt (fun e => by have := HOB.out _ e; have := H7.out; omega)).trans E88.out.t) 0).trans rfl)
      have HQ3 := Lib.hid (fun u (h : SFr (fun k => (Value.slice wa i wc).ownBlock = some k) w8 u) => (cell_of_block ((h.block wr.heap.size (Array.getElem?_eq_some_iff.1 a8).1 (fun e => by have := HOB.out _ e; omega)).trans a8) 0).trans rfl)
      have HLK := Lib.hid (E88.out.m.look (T := 134) Tryd.underlying134 (fun u => Tryd.zeroValue46 u) HIS.out false hri)
      simp only [Bool.false_eq_true, if_false, Option.getD_some] at HLK
      have HC3 := Lib.hid (show ∀ k x, [Value.slice X q.length cq][k]? = some x → (w8.alloc (.cells #[.slice X q.length cq] 46)).drew.cell? ((⟨w8.heap.size, 0, none⟩ : Addr).add k) = some x from fun k x h => by
        have h1 := cell_one_new w8 (.slice X q.length cq) 46 k x h
        exact h1)
      have s8 : w7.heap.size ≤ w8.heap.size := Nat.le_trans zr b8.size
      clear b8 a8 p0 p1 p2 hri hlc
      refine wp_region_last (SFr (fun k => (Value.slice wa i wc).ownBlock = some k) w8) [(0, true), (1, true), (2, true), (3, true), (4, true), (5, true), (6, true), (7, true), (8, false), (9, false), (10, false), (11, true)] 12 (by kernel_rfl) (by kernel_rfl) (by kernel_rfl) (by kernel_rfl) (by kernel_rfl) (by decide) (SFr.of (Below.drew (Below.refl _ _))) ?_
      simp only [List.pop_toArray, List.dropLast_cons_cons, List.dropLast_singleton]
      apply trail_light
      case hi => (simp only [List.getElem?_toArray, List.getElem?_cons_zero, List.getElem?_cons_succ]; exact rfl)
      case hl => first | exact light_no (by rfl) | ((first | apply light_plain rfl | apply light_yes (by rfl)); intro w9 hS9; have c91 := HQ1.out _ hS9; have c92 := HQ2.out _ hS9; have c93 := HQ3.out _ hS9; first | (exact exec_load rfl rfl (by first | exact ldi9 | exact ldt9)) | (go_simp; try rfl))
      case hQ => exact fun _ _ _ h => h
      (try simp only [Act.put, List.setIfInBounds_toArray, List.set_cons_zero, List.set_cons_succ])
      apply trail_light
      case hi => (simp only [List.getElem?_toArray, List.getElem?_cons_zero, List.getElem?_cons_succ]; exact rfl)
      case hl => first | exact light_no (by rfl) | ((first | apply light_plain rfl | apply light_yes (by rfl)); intro w9 hS9; have c91 := HQ1.out _ hS9; have c92 := HQ2.out _ hS9; have c93 := HQ3.out _ hS9; first | (exact exec_load rfl rfl (by first | exact ldi9 | exact ldt9)) | (go_simp; try rfl))
      case hQ => exact fun _ _ _ h => h
      (try simp only [Act.put, List.setIfInBounds_toArray, List.set_cons_zero, List.set_cons_succ])
      apply trail_light
      case hi => (simp only [List.getElem?_toArray, List.getElem?_cons_zero, List.getElem?_cons_succ]; exact rfl)
      case hl => first | exact light_no (by rfl) | ((first | apply light_plain rfl | apply light_yes (by rfl)); intro w9 hS9; skip; first | (exact exec_load rfl rfl (by first | exact ldi9 | exact ldt9)) | (go_simp; try rfl))
      case hQ => exact fun _ _ _ h => h
      (try simp only [Act.put, List.setIfInBounds_toArray, List.set_cons_zero, List.set_cons_succ])
      apply trail_light
      case hi => (simp only [List.getElem?_toArray, List.getElem?_cons_zero, List.getElem?_cons_succ]; exact rfl)
      case hl => first | exact light_no (by rfl) | ((first | apply light_plain rfl | apply light_yes (by rfl)); intro w9 hS9; have c91 := HQ1.out _ hS9; have c92 := HQ2.out _ hS9; have c93 := HQ3.out _ hS9; first | (exact exec_load rfl rfl (by first | exact ldi9 | exact ldt9)) | (go_simp; try rfl))
      case hQ => exact fun _ _ _ h => h
      (try simp only [Act.put, List.setIfInBounds_toArray, List.set_cons_zero, List.set_cons_succ])
      apply trail_light
      case hi => (simp only [List.getElem?_toArray, List.getElem?_cons_zero, List.getElem?_cons_succ]; exact rfl)
      case hl => first | exact light_no (by rfl) | ((first | apply light_plain rfl | apply light_yes (by rfl)); intro w9 hS9; have c91 := HQ1.out _ hS9; have c92 := HQ2.out _ hS9; have c93 := HQ3.out _ hS9; first | (exact exec_load rfl rfl (by first | exact ldi9 | exact ldt9)) | (go_simp; try rfl))
      case hQ => exact fun _ _ _ h => h
      (try simp only [Act.put, List.setIfInBounds_toArray, List.set_cons_zero, List.set_cons_succ])
      apply trail_light
      case hi => (simp only [List.getElem?_toArray, List.getElem?_cons_zero, List.getElem?_cons_succ]; exact rfl)
      case hl => first | exact light_no (by rfl) | ((first | apply light_plain rfl | apply light_yes (by rfl)); intro w9 hS9; have c91 := HQ1.out _ hS9; have c92 := HQ2.out _ hS9; have c93 := HQ3.out _ hS9; first | (exact exec_load rfl rfl (by first | exact ldi9 | exact ldt9)) | (go_simp; try rfl))
      case hQ => exact fun _ _ _ h => h
      (try simp only [Act.put, List.setIfInBounds_toArray, List.set_cons_zero, List.set_cons_succ])
      apply trail_light
      case hi => (simp only [List.getElem?_toArray, List.getElem?_cons_zero, List.getElem?_cons_succ]; exact rfl)
      case hl => first | exact light_no (by rfl) | ((first | apply light_plain rfl | apply light_yes (by rfl)); intro w9 hS9; have c91 := HQ1.out _ hS9; have c92 := HQ2.out _ hS9; have c93 := HQ3.out _ hS9; first | (exact exec_load rfl rfl (by first | exact ldi9 | exact ldt9)) | (go_simp; try rfl))
      case hQ => exact fun _ _ _ h => h
      (try simp only [Act.put, List.setIfInBounds_toArray, List.set_cons_zero, List.set_cons_succ])
      apply trail_light
      case hi => (simp only [List.getElem?_toArray, List.getElem?_cons_zero, List.getElem?_cons_succ]; exact rfl)
      case hl => first | exact light_no (by rfl) | ((first | apply light_plain rfl | apply light_yes (by rfl)); intro w9 hS9; have c91 := HQ1.out _ hS9; have c92 := HQ2.out _ hS9; have c93 := HQ3.out _ hS9; first | (exact exec_load rfl rfl (by first | exact ldi9 | exact ldt9)) | (go_simp; try rfl))
      case hQ => exact fun _ _ _ h => h
      (try simp only [Act.put, List.setIfInBounds_toArray, List.set_cons_zero, List.set_cons_succ])
      apply trail_heavy
      case hi => (simp only [List.getElem?_toArray, List.getElem?_cons_zero, List.getElem?_cons_succ]; exact rfl)
      go_wp2_with (first | (at_lookup; refine wpList_lookupS_at rfl _ _ 134 false rfl rfl rfl (HLK.out _ (by (repeat' first | with_reducible (first | exact Below.refl _ _ | assumption | refine Below.alloc ?_ ?_ _ | refine below_drewN ?_ _ | refine Below.drew ?_ | refine Below.setCell ?_ ?_ _ | refine Below.trans ?_ (Below.mono (by with_reducible assumption) ?_)) | go_size))) ?_) | (at_builtin; refine wpList_append_own_at _ rfl (.tmp 88) (.tmp 96) _ rfl w7.heap.size 46 i2 (.slice none 0 0) 1 24 Tryd.underlying47 IL.out.1 IL.out.2.1 IL.out.2.2.1 IL.out.2.2.2 rfl (by decide) _ _ _ rfl (owns_below O8.out (by (repeat' first | with_reducible (first | exact Below.refl _ _ | assumption | refine Below.alloc ?_ ?_ _ | refine below_drewN ?_ _ | refine Below.drew ?_ | refine Below.setCell ?_ ?_ _ | refine Below.trans ?_ (Below.mono (by with_reducible assumption) ?_)) | go_size))) ⟨w8.heap.size, 0, none⟩ 1 1 [.slice X q.length cq] rfl rfl HC3.out (fun x hx => by simp at hx; subst hx; rfl) (by unfold maxLen; omega) (by omega) (by simp; omega) ?_; intro v10 w10 hown10 hg10 hn10 hat10; have hS10 : SFr (fun k => (Value.slice wa i wc).ownBlock = some k) w8 w10 := (SFr.of (by (repeat' first | with_reducible (first | exact Below.refl _ _ | assumption | refine Below.alloc ?_ ?_ _ | refine below_drewN ?_ _ | refine Below.drew ?_ | refine Below.setCell ?_ ?_ _ | refine Below.trans ?_ (Below.mono (by with_reducible assumption) ?_)) | go_size))).trans (S' := fun k => (Value.slice wa i wc).ownBlock = some k) ⟨hg10.os, hg10.tape, hg10.output, hg10.size, fun k hk hn => hg10.block k hk (fun h => hn h.symm)⟩ (fun _ _ h => h)))
      refine ⟨by first | exact hS10 | exact SFr.of (by (repeat' first | with_reducible (first | exact Below.refl _ _ | assumption | refine Below.alloc ?_ ?_ _ | refine below_drewN ?_ _ | refine Below.drew ?_ | refine Below.setCell ?_ ?_ _ | refine Below.trans ?_ (Below.mono (by with_reducible assumption) ?_)) | go_size)), ?_⟩
      apply trail_heavy
      case hi => (simp only [List.getElem?_toArray, List.getElem?_cons_zero, List.getElem?_cons_succ]; exact rfl)
      go_wp2_with (first | (at_lookup; refine wpList_lookupS_at rfl _ _ 134 false rfl rfl rfl (HLK.out _ (by (repeat' first | with_reducible (first | exact Below.refl _ _ | assumption | refine Below.alloc ?_ ?_ _ | refine below_drewN ?_ _ | refine Below.drew ?_ | refine Below.setCell ?_ ?_ _ | refine Below.trans ?_ (Below.mono (by with_reducible assumption) ?_)) | go_size))) ?_) | (at_builtin; refine wpList_append_own_at _ rfl (.tmp 88) (.tmp 96) _ rfl w7.heap.size 46 i2 (.slice none 0 0) 1 24 Tryd.underlying47 IL.out.1 IL.out.2.1 IL.out.2.2.1 IL.out.2.2.2 rfl (by decide) _ _ _ rfl (owns_below O8.out (by (repeat' first | with_reducible (first | exact Below.refl _ _ | assumption | refine Below.alloc ?_ ?_ _ | refine below_drewN ?_ _ | refine Below.drew ?_ | refine Below.setCell ?_ ?_ _ | refine Below.trans ?_ (Below.mono (by with_reducible assumption) ?_)) | go_size))) ⟨w8.heap.size, 0, none⟩ 1 1 [.slice X q.length cq] rfl rfl HC3.out (fun x hx => by simp at hx; subst hx; rfl) (by unfold maxLen; omega) (by omega) (by simp; omega) ?_; intro v10 w10 hown10 hg10 hn10 hat10; have hS10 : SFr (fun k => (Value.slice wa i wc).ownBlock = some k) w8 w10 := (SFr.of (by (repeat' first | with_reducible (first | exact Below.refl _ _ | assumption | refine Below.alloc ?_ ?_ _ | refine below_drewN ?_ _ | refine Below.drew ?_ | refine Below.setCell ?_ ?_ _ | refine Below.trans ?_ (Below.mono (by with_reducible assumption) ?_)) | go_size))).trans (S' := fun k => (Value.slice wa i wc).ownBlock = some k) ⟨hg10.os, hg10.tape, hg10.output, hg10.size, fun k hk hn => hg10.block k hk (fun h => hn h.symm)⟩ (fun _ _ h => h)))
      refine ⟨by first | exact hS10 | exact SFr.of (by (repeat' first | with_reducible (first | exact Below.refl _ _ | assumption | refine Below.alloc ?_ ?_ _ | refine below_drewN ?_ _ | refine Below.drew ?_ | refine Below.setCell ?_ ?_ _ | refine Below.trans ?_ (Below.mono (by with_reducible assumption) ?_)) | go_size)), ?_⟩
      apply trail_heavy
      case hi => (simp only [List.getElem?_toArray, List.getElem?_cons_zero, List.getElem?_cons_succ]; exact rfl)
      go_wp2_with (first | (at_lookup; refine wpList_lookupS_at rfl _ _ 134 false rfl rfl rfl (HLK.out _ (by (repeat' first | with_reducible (first | exact Below.refl _ _ | assumption | refine Below.alloc ?_ ?_ _ | refine below_drewN ?_ _ | refine Below.drew ?_ | refine Below.setCell ?_ ?_ _ | refine Below.trans ?_ (Below.mono (by with_reducible assumption) ?_)) | go_size))) ?_) | (at_builtin; refine wpList_append_own_at _ rfl (.tmp 88) (.tmp 96) _ rfl w7.heap.size 46 i2 (.slice none 0 0) 1 24 Tryd.underlying47 IL.out.1 IL.out.2.1 IL.out.2.2.1 IL.out.2.2.2 rfl (by decide) _ _ _ rfl (owns_below O8.out (by (repeat' first | with_reducible (first | exact Below.refl _ _ | assumption | refine Below.alloc ?_ ?_ _ | refine below_drewN ?_ _ | refine Below.drew ?_ | refine Below.setCell ?_ ?_ _ | refine Below.trans ?_ (Below.mono (by with_reducible assumption) ?_)) | go_size))) ⟨w8.heap.size, 0, none⟩ 1 1 [.slice X q.length cq] rfl rfl HC3.out (fun x hx => by simp at hx; subst hx; rfl) (by unfold maxLen; omega) (by omega) (by simp; omega) ?_; intro v10 w10 hown10 hg10 hn10 hat10; have hS10 : SFr (fun k => (Value.slice wa i wc).ownBlock = some k) w8 w10 := (SFr.of (by (repeat' first | with_reducible (first | exact Below.refl _ _ | assumption | refine Below.alloc ?_ ?_ _ | refine below_drewN ?_ _ | refine Below.drew ?_ | refine Below.setCell ?_ ?_ _ | refine Below.trans ?_ (Below.mono (by with_reducible assumption) ?_)) | go_size))).trans (S' := fun k => (Value.slice wa i wc).ownBlock = some k) ⟨hg10.os, hg10.tape, hg10.output, hg10.size, fun k hk hn => hg10.block k hk (fun h => hn h.symm)⟩ (fun _ _ h => h)))
      refine ⟨by first | exact hS10 | exact SFr.of (by (repeat' first | with_reducible (first | exact Below.refl _ _ | assumption | refine Below.alloc ?_ ?_ _ | refine below_drewN ?_ _ | refine Below.drew ?_ | refine Below.setCell ?_ ?_ _ | refine Below.trans ?_ (Below.mono (by with_reducible assumption) ?_)) | go_size)), ?_⟩
      apply trail_light
      case hi => (simp only [List.getElem?_toArray, List.getElem?_cons_zero, List.getElem?_cons_succ]; exact rfl)
      case hl => first | exact light_no (by rfl) | ((first | apply light_plain rfl | apply light_yes (by rfl)); intro w9 hS9; have c91 := HQ1.out _ hS9; have c92 := HQ2.out _ hS9; have c93 := HQ3.out _ hS9; first | (exact exec_load rfl rfl (by first | exact ldi9 | exact ldt9)) | (go_simp; try rfl))
      case hQ => exact fun _ _ _ h => h
      (try simp only [Act.put, List.setIfInBounds_toArray, List.set_cons_zero, List.set_cons_succ])
      refine trail_nil ?_
      refine last_at rfl ?_
      (try dsimp only)
      obtain ⟨A10, c10, rfl, _, _⟩ := SL.form (SL.of_own hown10)
      have zA8 := (Array.getElem?_eq_some_iff.1 A8.out).1
      have b10 := (hS10.block A9 zA8 (fun e => by have := HOB.out _ e; have := H7.out; omega)).trans A8.out
      have q10 : w10.cell? ⟨A9, 2, none⟩ = some (.slice wa i wc) := (cell_of_block b10 2).trans rfl
      have f10 : w10.frozen? ⟨A9, 2, none⟩ = false := by
        unfold World.frozen?
        rw [b10]
        simp
      have z10 := (Array.getElem?_eq_some_iff.1 b10).1
      have B10 := Lib.hid b10
      have O10 := Lib.hid (show w10.ownsRow w7.heap.size 46 1 (.slice A10 (i + 1) c10) (i + 1) (vs.take (i + 1)) by rw [HTK.out]; exact hown10)
      have F10 := Lib.hid (F8.out.trans hS10 (fun k hk h => by have := HOB.out k h; omega))
      clear b10 hS10 hown10 hg10 hn10 hat10
      go_wp2_with fail
      go_roundw
      case rel => exact ⟨i + 1, .slice A10 (i + 1) c10, by have := HLT.out; omega, by go_num, Lib.hid (ownsRow_setCell_other O10.out (fun e => by have h1 : w7.heap.size ≤ A9 := (O10.out.lt _ e).1; have := H7.out; omega) _), Lib.hid (heap_setCell_same _ A9 2 _ _ _ B10.out), Lib.hid (F10.out.trans (SFr.put (S := fun k => k = A9) _ A9 2 _ rfl) (fun _ _ h => h))⟩
      case measure => have := HLT.out; simp [intOf]; omega
    case neg =>
      have hie : i = f.arrays.length := by omega
      have HO2 := Lib.hid (show wr.ownsRow w7.heap.size 46 1 (.slice wa i wc) i vs from by
        have h := HO.out
        rw [List.take_of_length_le (by rw [HVS.out]; omega)] at h
        exact h)
      have HIE := Lib.hid hie
      have zE := (Array.getElem?_eq_some_iff.1 V2.out).1
      clear hie
      go_wp2_with (first | (refine wpList_load_box rfl 52 _ rfl rfl (load_box Tryd.underlying52 (by kernel_rfl) (by rfl) (by kernel_rfl) (fun j v hj => (cell_of_block HA9.out j).trans hj) zA (Below.refl _ _)) ?_) | (refine wpList_put_all (cells := #[.int .i64 rs, .bool tr, .slice wa i wc]) rfl 52 _ _ rfl rfl rfl V2.out rfl (by kernel_rfl) (by simp [Value.oneCell']) ?_; intro w11 hr11 hf11 hz11))
      have hl11 := load_range Tryd.underlying52 (by kernel_rfl) (by simp) (by kernel_rfl) (range_of_block hr11)
      refine bodyPost_ret (v := .tuple #[.agg #[.int .i64 rs, .bool tr, .slice wa i wc], .int .i64 0]) (by simp [results, Tryd.results26, Sem.run_bind, asAddr, hl11]) rfl ?_
      have PF : SFr (fun k => k = w.heap.size + 1 + 1) wr w11 := ⟨hf11.os, hf11.tape, hf11.output, hf11.size, fun k hk h => hf11.block k hk h⟩
      have hrows := E8.out.rows.keep (w' := w11) (fun k h1 h2 => PF.block k (by have := E8.out.hs; omega) (by have := HPX.out; have := HPOS.out; omega))
      have hout := own_sfr HO2.out PF (fun k hk h => by have := H7.out; omega)
      have hrl : RLists w11 w11.heap.size (.slice wa i wc) O.a := by
        refine ⟨vs, hrows.len, ?_, fun k u x hu hx => SL.of_own (hrows.row k u x hu hx)⟩
        have h := SL.of_own hout
        have hl : O.a.length = i := by rw [E8.out.len, ← HIE.out]
        rw [hl]
        exact h
      refine ⟨.slice wa i wc, by rw [← HXR.out], by rw [← HXR.out]; exact hrl, ?_⟩
      exact BR8.out.trans (PF.below (B := w.heap.size) (fun k hk h => by omega) (by omega))
end Go.Proofs.YtpbflgemhcaooaaDoor
