import Derived.Test.YtpbflgemhcaooaaDoorPk27
import Derived.Test.YtpbflgemhcaooaaDoorPk31
import Derived.Test.YtpbflgemhcaooaaDoorPk9
import Derived.Deep.DeepCutAuto
import Derived.Test.YtpbflgemhcaooaaDoorPk30
import Derived.Test.YtpbflgemhcaooaaDoorPk24
/- The reference: are two given the same, but for what is secret? -/
namespace Ev
def alikeW (ps : List Vr) (g h : Given) (n : Nat) : Bool := (List.range n).all fun j => (ps.getD j default).secret || decide (g.words.getD j 0 = h.words.getD j 0)
def alikeA (ay : List Vr) (g h : Given) (n : Nat) : Bool := (List.range n).all fun j => (ay.getD j default).secret || decide (g.arrays.getD j [] = h.arrays.getD j [])
def alike (ps ay : List Vr) (g h : Given) : Bool := decide (fits ps.length ay g = 0) && decide (fits ps.length ay h = 0) && alikeW ps g h ps.length && alikeA ay g h ay.length
theorem alikeW_step (ps : List Vr) (g h : Given) (n : Nat) : alikeW ps g h (n + 1) = (alikeW ps g h n && ((ps.getD n default).secret || decide (g.words.getD n 0 = h.words.getD n 0))) := by
  unfold alikeW; rw [List.range_succ, List.all_append]; simp
theorem alikeA_step (ay : List Vr) (g h : Given) (n : Nat) : alikeA ay g h (n + 1) = (alikeA ay g h n && ((ay.getD n default).secret || decide (g.arrays.getD n [] = h.arrays.getD n []))) := by
  unfold alikeA; rw [List.range_succ, List.all_append]; simp
theorem alikeW_no {ps : List Vr} {g h : Given} {n m : Nat} (hn : n < m) (hx : ((ps.getD n default).secret || decide (g.words.getD n 0 = h.words.getD n 0)) = false) : alikeW ps g h m = false := by
  unfold alikeW; rw [List.all_eq_false]; exact ⟨n, List.mem_range.2 hn, by simpa using hx⟩
theorem alikeA_no {ay : List Vr} {g h : Given} {n m : Nat} (hn : n < m) (hx : ((ay.getD n default).secret || decide (g.arrays.getD n [] = h.arrays.getD n [])) = false) : alikeA ay g h m = false := by
  unfold alikeA; rw [List.all_eq_false]; exact ⟨n, List.mem_range.2 hn, by simpa using hx⟩
theorem fits_lens {np : Nat} {ay : List Vr} {g : Given} (h : fits np ay g = 0) : g.words.length = np ∧ g.arrays.length = ay.length := by
  unfold fits at h
  split at h
  · exact absurd h (by decide)
  · omega
end Ev
namespace Go.Proofs.YtpbflgemhcaooaaDoor
open Go.RowKit
set_option linter.unusedSimpArgs false
set_option linter.unusedVariables false
theorem RLists.el {w : World} {B : Nat} {v : Value} {l : List (List Int)} (h : RLists w B v l) {k : Nat} (hk : k < l.length) :
    ∃ b o c A n, v = .slice (some ⟨b, o, none⟩) l.length c ∧ b < B ∧ w.cell? ⟨b, o + k, none⟩ = some (.slice A (l.getD k []).length n) ∧ RInts w B (.slice A (l.getD k []).length n) (l.getD k []) := by
  obtain ⟨vs, hl, hs, hr⟩ := h
  obtain ⟨b, o, c, e, hb, _, _, hc⟩ := SL.row hs (by omega)
  have hx : l[k]? = some (l.getD k []) := by simp [hk]
  have hu : vs[k]? = some (vs[k]'(by omega)) := List.getElem?_eq_getElem _
  have h1 := hr k _ _ hu hx
  obtain ⟨A, n, e1, _, _⟩ := SL.form h1
  have h2 := hc k _ hu
  rw [e1] at h2 h1
  exact ⟨b, o, c, A, n, e, hb, h2, h1⟩
set_option maxRecDepth 8000 in
set_option maxHeartbeats 6400000 in
theorem alike_any (ps ay : List Ev.Vr) (g h : Ev.Given) (vp va vb vg vh : Value) (w : World) (hp : RVars w w.heap.size vp ps) (ha : RVars w w.heap.size va ay) (hb : ∃ A n c, vb = .slice A n c) (hg : RGiven w w.heap.size vg g) (hh : RGiven w w.heap.size vh h)
    (hsg : g.words.length + g.arrays.flatten.length ≤ 1073741824) (hsh : h.words.length + h.arrays.flatten.length ≤ 1073741824) :
    Calls Tryd.prog 44 #[.agg #[vp, va, vb], vg, vh] w fun e w' => e = .returned (.bool (Ev.alike ps ay g h)) ∧ Below w.heap.size w w' := by
  have CG := Lib.hid (fun (u : World) (hu : Below w.heap.size w u) => fits_any ps ay g vp va vb vg u (SL.at_ hp hu (Nat.le_refl _)) (SL.at_ ha hu (Nat.le_refl _)) hb (hg.at2 hu (Nat.le_refl _)) hsg)
  have CH := Lib.hid (fun (u : World) (hu : Below w.heap.size w u) => fits_any ps ay h vp va vb vh u (SL.at_ hp hu (Nat.le_refl _)) (SL.at_ ha hu (Nat.le_refl _)) hb (hh.at2 hu (Nat.le_refl _)) hsh)
  have HP := Lib.hid hp
  have HA := Lib.hid ha
  obtain ⟨Ab, nb, cb, rfl⟩ := hb
  obtain ⟨vw, vx, rfl, hw, hx⟩ := hg
  obtain ⟨vw', vx', rfl, hw', hx'⟩ := hh
  obtain ⟨Ap, cp, rfl, _, hp2⟩ := SL.form hp
  obtain ⟨Av, cv, rfl, _, hv2⟩ := SL.form ha
  have HW := Lib.hid hw
  have HX := Lib.hid hx
  have HW' := Lib.hid hw'
  have HX' := Lib.hid hx'
  obtain ⟨Aw, cw, rfl, _, hw2⟩ := SL.form hw
  obtain ⟨_, _, hxs, _⟩ := hx
  obtain ⟨Ax, cx, rfl, _, _⟩ := SL.form hxs
  obtain ⟨Bw, dw, rfl, _, hw2'⟩ := SL.form hw'
  obtain ⟨_, _, hxs', _⟩ := hx'
  obtain ⟨Bx, dx, rfl, _, _⟩ := SL.form hxs'
  unfold maxLen at hp2 hv2 hw2 hw2'
  clear hp ha hw hw' hxs hxs' hsg hsh
  have hL1 := Lib.hid (fun hf => Ev.fits_lens (np := ps.length) (ay := ay) (g := g) hf)
  have hL2 := Lib.hid (fun hf => Ev.fits_lens (np := ps.length) (ay := ay) (g := h) hf)
  have HAL := Lib.hid (show Ev.alike ps ay g h = (decide (Ev.fits ps.length ay g = 0) && decide (Ev.fits ps.length ay h = 0) && Ev.alikeW ps g h ps.length && Ev.alikeA ay g h ay.length) from rfl)
  generalize Ev.fits ps.length ay g = fg at *
  generalize Ev.fits ps.length ay h = fh at *
  generalize Ev.alike ps ay g h = res at *
  have hbx := boxes3 w #[.slice Ap ps.length cp, .slice Av ay.length cv, .slice Ab nb cb] #[.slice Aw g.words.length cw, .slice Ax g.arrays.length cx] #[.slice Bw h.words.length dw, .slice Bx h.arrays.length dx] 25 49 49
  have sA : w.heap.size + 1 + 1 + 1 = (((w.alloc (.cells #[.slice Ap ps.length cp, .slice Av ay.length cv, .slice Ab nb cb] 25)).alloc (.cells #[.slice Aw g.words.length cw, .slice Ax g.arrays.length cx] 49)).alloc (.cells #[.slice Bw h.words.length dw, .slice Bx h.arrays.length dx] 49)).heap.size := by simp
  have bA : Below w.heap.size w (((w.alloc (.cells #[.slice Ap ps.length cp, .slice Av ay.length cv, .slice Ab nb cb] 25)).alloc (.cells #[.slice Aw g.words.length cw, .slice Ax g.arrays.length cx] 49)).alloc (.cells #[.slice Bw h.words.length dw, .slice Bx h.arrays.length dx] 49)) := by (repeat' first | with_reducible (first | exact Below.refl _ _ | assumption | refine Below.alloc ?_ ?_ _ | refine below_drewN ?_ _ | refine Below.drew ?_ | refine Below.setCell ?_ ?_ _ | refine Below.trans ?_ (Below.mono (by with_reducible assumption) ?_)) | go_size)
  go_enter Tryd.func44, Tryd.ntmps44
  go_upto_region 1 with fail
  obtain ⟨wA, hwA⟩ : ∃ wA, (((w.alloc (.cells #[.slice Ap ps.length cp, .slice Av ay.length cv, .slice Ab nb cb] 25)).alloc (.cells #[.slice Aw g.words.length cw, .slice Ax g.arrays.length cx] 49)).alloc (.cells #[.slice Bw h.words.length dw, .slice Bx h.arrays.length dx] 49)) = wA := ⟨_, rfl⟩
  rw [hwA] at hbx sA bA
  (try rw [hwA])
  clear hwA
  obtain ⟨hb0, hb1, hb2⟩ := hbx
  have p0 : wA.cell? ⟨w.heap.size, 0, none⟩ = some (.slice Ap ps.length cp) := hb0 0 _ rfl
  have p1 : wA.cell? ⟨w.heap.size, 1, none⟩ = some (.slice Av ay.length cv) := hb0 1 _ rfl
  have p2 : wA.cell? ⟨w.heap.size, 2, none⟩ = some (.slice Ab nb cb) := hb0 2 _ rfl
  have g0 : wA.cell? ⟨w.heap.size + 1, 0, none⟩ = some (.slice Aw g.words.length cw) := hb1 0 _ rfl
  have g1 : wA.cell? ⟨w.heap.size + 1, 1, none⟩ = some (.slice Ax g.arrays.length cx) := hb1 1 _ rfl
  have h0 : wA.cell? ⟨w.heap.size + 1 + 1, 0, none⟩ = some (.slice Bw h.words.length dw) := hb2 0 _ rfl
  have h1 : wA.cell? ⟨w.heap.size + 1 + 1, 1, none⟩ = some (.slice Bx h.arrays.length dx) := hb2 1 _ rfl
  have z0 : w.heap.size < wA.heap.size := by omega
  have z1 : w.heap.size + 1 < wA.heap.size := by omega
  have z2 : w.heap.size + 1 + 1 < wA.heap.size := by omega
  have ldf : ∀ u, Below wA.heap.size wA u → (Go.Instr.loadAt 25 (.pointer (some ⟨w.heap.size, 0, none⟩))).run Tryd.prog u = .ok (.agg #[.slice Ap ps.length cp, .slice Av ay.length cv, .slice Ab nb cb]) u := fun u hu => load_box Tryd.underlying25 (by kernel_rfl) rfl (by kernel_rfl) hb0 z0 hu
  have ldg : ∀ u, Below wA.heap.size wA u → (Go.Instr.loadAt 49 (.pointer (some ⟨w.heap.size + 1, 0, none⟩))).run Tryd.prog u = .ok (.agg #[.slice Aw g.words.length cw, .slice Ax g.arrays.length cx]) u := fun u hu => load_box Tryd.underlying49 (by kernel_rfl) rfl (by kernel_rfl) hb1 z1 hu
  have ldh : ∀ u, Below wA.heap.size wA u → (Go.Instr.loadAt 49 (.pointer (some ⟨w.heap.size + 1 + 1, 0, none⟩))).run Tryd.prog u = .ok (.agg #[.slice Bw h.words.length dw, .slice Bx h.arrays.length dx]) u := fun u hu => load_box Tryd.underlying49 (by kernel_rfl) rfl (by kernel_rfl) hb2 z2 hu
  have rfw := Below.refl wA.heap.size wA
  clear hb0 hb1 hb2
  have SA := Lib.hid sA
  clear sA
  by_cases hf : fg = 0
  case neg =>
    have hres : res = false := by rw [HAL.out, decide_eq_false hf]; rfl
    have q1 : (fg != 0) = true := bne_iff_ne.2 hf
    clear hf
    go_wp2_with (first | (refine wpList_load_box rfl 25 _ rfl rfl (ldf _ rfw) ?_) | (refine wpList_load_box rfl 49 _ rfl rfl (ldg _ rfw) ?_) | (refine wpList_load_boxg (by rfl) 25 _ rfl rfl (ldf _ hb1) ?_) | (refine wpList_load_boxg (by rfl) 49 _ rfl rfl (ldh _ hb1) ?_) | go_at_call 24; refine (CG.out _ (by (repeat' first | with_reducible (first | exact Below.refl _ _ | assumption | refine Below.alloc ?_ ?_ _ | refine below_drewN ?_ _ | refine Below.drew ?_ | refine Below.setCell ?_ ?_ _ | refine Below.trans ?_ (Below.mono (by with_reducible assumption) ?_)) | go_size))).mono ?_; rintro e w1 ⟨rfl, hb1⟩)
    go_ret
    exact ⟨by rw [hres]; rfl, by (repeat' first | with_reducible (first | exact Below.refl _ _ | assumption | refine Below.alloc ?_ ?_ _ | refine below_drewN ?_ _ | refine Below.drew ?_ | refine Below.setCell ?_ ?_ _ | refine Below.trans ?_ (Below.mono (by with_reducible assumption) ?_)) | go_size)⟩
  case pos =>
  have q1 : (fg != 0) = false := by rw [hf]; rfl
  by_cases hf' : fh = 0
  case neg =>
    have hres : res = false := by rw [HAL.out, decide_eq_false hf', Bool.and_false]; rfl
    have q2 : (fh != 0) = true := bne_iff_ne.2 hf'
    have HF := Lib.hid hf
    clear hf hf'
    go_wp2_with (first | (refine wpList_load_box rfl 25 _ rfl rfl (ldf _ rfw) ?_) | (refine wpList_load_box rfl 49 _ rfl rfl (ldg _ rfw) ?_) | (refine wpList_load_boxg (by rfl) 25 _ rfl rfl (ldf _ hb1) ?_) | (refine wpList_load_boxg (by rfl) 49 _ rfl rfl (ldh _ hb1) ?_) | (go_at_call 24; refine (CH.out _ bw1).mono ?_; rintro e w2 ⟨rfl, hb2⟩) | (go_at_call 24; refine (CG.out _ bA).mono ?_; rintro e w1 ⟨rfl, hb1⟩; obtain ⟨kc1, kf1, s1⟩ := bfacts hb1; have bw1 : Below w.heap.size w w1 := (by (repeat' first | with_reducible (first | exact Below.refl _ _ | assumption | refine Below.alloc ?_ ?_ _ | refine below_drewN ?_ _ | refine Below.drew ?_ | refine Below.setCell ?_ ?_ _ | refine Below.trans ?_ (Below.mono (by with_reducible assumption) ?_)) | go_size))))
    go_ret
    exact ⟨by rw [hres]; rfl, by (repeat' first | with_reducible (first | exact Below.refl _ _ | assumption | refine Below.alloc ?_ ?_ _ | refine below_drewN ?_ _ | refine Below.drew ?_ | refine Below.setCell ?_ ?_ _ | refine Below.trans ?_ (Below.mono (by with_reducible assumption) ?_)) | go_size)⟩
  case pos =>
  have q2 : (fh != 0) = false := by rw [hf']; rfl
  have HF := Lib.hid (And.intro hf hf')
  have hlg := hL1.out hf
  have hlh := hL2.out hf'
  have le1 : ps.length ≤ g.words.length := by omega
  have le2 : ps.length ≤ h.words.length := by omega
  have le3 : ay.length ≤ g.arrays.length := by omega
  have le4 : ay.length ≤ h.arrays.length := by omega
  clear hf hf' hlg hlh hL1 hL2
  go_upto_region 3 with (first | (refine wpList_load_box rfl 25 _ rfl rfl (ldf _ rfw) ?_) | (refine wpList_load_box rfl 49 _ rfl rfl (ldg _ rfw) ?_) | (refine wpList_load_boxg (by rfl) 25 _ rfl rfl (ldf _ hb1) ?_) | (refine wpList_load_boxg (by rfl) 49 _ rfl rfl (ldh _ hb1) ?_) | (go_at_call 24; refine (CH.out _ bw1).mono ?_; rintro e w2 ⟨rfl, hb2⟩) | (go_at_call 24; refine (CG.out _ bA).mono ?_; rintro e w1 ⟨rfl, hb1⟩; obtain ⟨kc1, kf1, s1⟩ := bfacts hb1; have bw1 : Below w.heap.size w w1 := (by (repeat' first | with_reducible (first | exact Below.refl _ _ | assumption | refine Below.alloc ?_ ?_ _ | refine below_drewN ?_ _ | refine Below.drew ?_ | refine Below.setCell ?_ ?_ _ | refine Below.trans ?_ (Below.mono (by with_reducible assumption) ?_)) | go_size))))
  have b2 : Below wA.heap.size wA w2 := hb1.trans (hb2.mono s1)
  have bw2 : Below w.heap.size w w2 := bw1.trans (hb2.mono (by omega))
  have s2 := b2.size
  replace p0 : w2.cell? ⟨w.heap.size, 0, none⟩ = some (.slice Ap ps.length cp) := (b2.cell (p := ⟨w.heap.size, 0, none⟩) (by omega)).trans p0
  replace p1 : w2.cell? ⟨w.heap.size, 1, none⟩ = some (.slice Av ay.length cv) := (b2.cell (p := ⟨w.heap.size, 1, none⟩) (by omega)).trans p1
  replace g0 : w2.cell? ⟨w.heap.size + 1, 0, none⟩ = some (.slice Aw g.words.length cw) := (b2.cell (p := ⟨w.heap.size + 1, 0, none⟩) (by omega)).trans g0
  replace g1 : w2.cell? ⟨w.heap.size + 1, 1, none⟩ = some (.slice Ax g.arrays.length cx) := (b2.cell (p := ⟨w.heap.size + 1, 1, none⟩) (by omega)).trans g1
  replace h0 : w2.cell? ⟨w.heap.size + 1 + 1, 0, none⟩ = some (.slice Bw h.words.length dw) := (b2.cell (p := ⟨w.heap.size + 1 + 1, 0, none⟩) (by omega)).trans h0
  replace h1 : w2.cell? ⟨w.heap.size + 1 + 1, 1, none⟩ = some (.slice Bx h.arrays.length dx) := (b2.cell (p := ⟨w.heap.size + 1 + 1, 1, none⟩) (by omega)).trans h1
  replace z0 : w.heap.size < w2.heap.size := by omega
  replace z1 : w.heap.size + 1 < w2.heap.size := by omega
  replace z2 : w.heap.size + 1 + 1 < w2.heap.size := by omega
  have HP2 : Hid (RVars w2 w2.heap.size (.slice Ap ps.length cp) ps) := SL.at_ HP.out bw2 (Nat.le_refl _)
  have HA2 : Hid (RVars w2 w2.heap.size (.slice Av ay.length cv) ay) := SL.at_ HA.out bw2 (Nat.le_refl _)
  have HW2 : Hid (RInts w2 w2.heap.size (.slice Aw g.words.length cw) g.words) := SL.at_ HW.out bw2 (Nat.le_refl _)
  have HV2 : Hid (RInts w2 w2.heap.size (.slice Bw h.words.length dw) h.words) := SL.at_ HW'.out bw2 (Nat.le_refl _)
  have HX2 : Hid (RLists w2 w2.heap.size (.slice Ax g.arrays.length cx) g.arrays) := HX.out.at_ bw2 (Nat.le_refl _)
  have HY2 : Hid (RLists w2 w2.heap.size (.slice Bx h.arrays.length dx) h.arrays) := HX'.out.at_ bw2 (Nat.le_refl _)
  have BW := Lib.hid bw2
  clear p2 kc1 kf1 s1 hb1 hb2 bw1 bw2 b2 s2 bA q1 q2 CG CH HP HA HW HX HW' HX' SA
  go_wp2_with fail
  go_loopw [24] (fun u wr => ∃ j : Nat, j ≤ ps.length ∧ u = .int .i64 j ∧ Below w2.heap.size w2 wr ∧ Hid (Ev.alikeW ps g h j = true)) (fun u _ => ps.length - (intOf u).toNat)
  case atStart => exact ⟨0, by omega, rfl, Below.refl _ _, rfl⟩
  case round =>
    obtain ⟨j, hj, rfl, hB, hall⟩ := hrel
    have sB := hB.size
    by_cases hlt : j < ps.length
    · as_aux_lemma =>
      have hx : ps[j]? = some (ps.getD j default) := by simp [hlt]
      have HST := Lib.hid (Ev.alikeW_step ps g h j)
      have HNO := Lib.hid (fun hq => Ev.alikeW_no (ps := ps) (g := g) (h := h) hlt hq)
      generalize ps.getD j default = x at *
      obtain ⟨br, o, c, hv, hbr, _, _, _, e0, e1, e2⟩ := RVars.el HP2.out hx
      injection hv with hA _ hcr
      subst hA hcr
      have hgx : g.words[j]? = some (g.words.getD j 0) := by rw [List.getD_eq_getElem?_getD, List.getElem?_eq_getElem (show j < g.words.length by omega)]; rfl
      have hhx : h.words[j]? = some (h.words.getD j 0) := by rw [List.getD_eq_getElem?_getD, List.getElem?_eq_getElem (show j < h.words.length by omega)]; rfl
      generalize g.words.getD j 0 = y at *
      generalize h.words.getD j 0 = y' at *
      obtain ⟨bg, og, cg, hv, hbg, _, _, _, eg⟩ := RInts.at_ HW2.out hgx
      injection hv with hA _ hcr
      subst hA hcr
      obtain ⟨bh, oh, ch, hv, hbh, _, _, _, eh⟩ := RInts.at_ HV2.out hhx
      injection hv with hA _ hcr
      subst hA hcr
      clear hx hgx hhx
      replace e0 := (hB.cell (p := ⟨br, o + j * 3, none⟩) hbr).trans e0
      replace e1 := (hB.cell (p := ⟨br, o + j * 3 + 1, none⟩) hbr).trans e1
      replace e2 := (hB.cell (p := ⟨br, o + j * 3 + 2, none⟩) hbr).trans e2
      have BV : Below w2.heap.size w2 (wr.alloc (.cells #[.string ⟨x.name.toArray⟩, .bool x.secret, .int .i64 x.size] 35)) := hB.alloc sB _
      have BVH := Lib.hid BV
      replace eg := (BV.cell (p := ⟨bg, og + j, none⟩) hbg).trans eg
      replace eh := (BV.cell (p := ⟨bh, oh + j, none⟩) hbh).trans eh
      replace p0 := (BV.cell (p := ⟨w.heap.size, 0, none⟩) (by omega)).trans p0
      replace p1 := (BV.cell (p := ⟨w.heap.size, 1, none⟩) (by omega)).trans p1
      replace g0 := (BV.cell (p := ⟨w.heap.size + 1, 0, none⟩) (by omega)).trans g0
      replace g1 := (BV.cell (p := ⟨w.heap.size + 1, 1, none⟩) (by omega)).trans g1
      replace h0 := (BV.cell (p := ⟨w.heap.size + 1 + 1, 0, none⟩) (by omega)).trans h0
      replace h1 := (BV.cell (p := ⟨w.heap.size + 1 + 1, 1, none⟩) (by omega)).trans h1
      have v1 : (wr.alloc (.cells #[.string ⟨x.name.toArray⟩, .bool x.secret, .int .i64 x.size] 35)).cell? ⟨wr.heap.size, 1, none⟩ = some (.bool x.secret) := by go_simp
      go_upto_region 6 with fail
      obtain ⟨wv, hwv⟩ : ∃ wv, (wr.alloc (.cells #[.string ⟨x.name.toArray⟩, .bool x.secret, .int .i64 x.size] 35)) = wv := ⟨_, rfl⟩
      rw [hwv] at eg eh p0 p1 g0 g1 h0 h1 v1 BVH ⊢
      have BR := Lib.hid hB
      clear hwv BV hB e0 e1 e2
      cases hsx : x.secret with
      | true =>
        rw [hsx] at v1
        go_wp2_with fail
        go_quiet (fail)
        go_wp2_with fail
        go_roundw
        case rel => exact ⟨j + 1, by omega, by go_num, by have := BVH.out; (repeat' first | with_reducible (first | exact Below.refl _ _ | assumption | refine Below.alloc ?_ ?_ _ | refine below_drewN ?_ _ | refine Below.drew ?_ | refine Below.setCell ?_ ?_ _ | refine Below.trans ?_ (Below.mono (by with_reducible assumption) ?_)) | go_size), by have e := HST.out; rw [hall.out, hsx] at e; exact e⟩
        case measure => simp [intOf]; omega
      | false =>
        rw [hsx] at v1
        by_cases hyy : y = y'
        · have hd := Lib.hid (decide_eq_true hyy)
          subst hyy
          go_wp2_with fail
          go_quiet (fail)
          go_wp2_with fail
          go_roundw
          case rel => exact ⟨j + 1, by omega, by go_num, by have := BVH.out; (repeat' first | with_reducible (first | exact Below.refl _ _ | assumption | refine Below.alloc ?_ ?_ _ | refine below_drewN ?_ _ | refine Below.drew ?_ | refine Below.setCell ?_ ?_ _ | refine Below.trans ?_ (Below.mono (by with_reducible assumption) ?_)) | go_size), by have e := HST.out; rw [hall.out, hsx] at e; rw [Hid, e]; simp⟩
          case measure => simp [intOf]; omega
        · have hd : (y != y') = true := bne_iff_ne.2 hyy
          have hres : res = false := by rw [HAL.out, HNO.out (by rw [hsx, decide_eq_false hyy]; rfl)]; simp
          clear hyy
          go_wp2_with fail
          go_quiet (fail)
          go_wp2
          go_ret
          exact ⟨by rw [hres]; rfl, by have h1 := BVH.out; have h2 := BW.out; (repeat' first | with_reducible (first | exact Below.refl _ _ | assumption | refine Below.alloc ?_ ?_ _ | refine below_drewN ?_ _ | refine Below.drew ?_ | refine Below.setCell ?_ ?_ _ | refine Below.trans ?_ (Below.mono (by with_reducible assumption) ?_)) | go_size)⟩
    · have hje : j = ps.length := by omega
      as_aux_lemma =>
      subst hje
      have HWD : Hid (Ev.alikeW ps g h ps.length = true) := hall
      clear hall
      have p1w := (hB.cell (p := ⟨w.heap.size, 1, none⟩) z0).trans p1
      go_wp2_with fail
      go_loopw [49] (fun u wz => ∃ j : Nat, j ≤ ay.length ∧ u = .int .i64 j ∧ Below w2.heap.size w2 wz ∧ Hid (Ev.alikeA ay g h j = true)) (fun u _ => ay.length - (intOf u).toNat)
      case atStart => exact ⟨0, by omega, rfl, hB, rfl⟩
      case round =>
        obtain ⟨j, hj, rfl, hB, hall⟩ := hrel
        have sB := hB.size
        by_cases hlt : j < ay.length
        · as_aux_lemma =>
          have hx : ay[j]? = some (ay.getD j default) := by simp [hlt]
          have HST := Lib.hid (Ev.alikeA_step ay g h j)
          have HNO := Lib.hid (fun hq => Ev.alikeA_no (ay := ay) (g := g) (h := h) hlt hq)
          generalize ay.getD j default = x at *
          obtain ⟨br, o, c, hv, hbr, _, _, _, e0, e1, e2⟩ := RVars.el HA2.out hx
          injection hv with hA _ hcr
          subst hA hcr
          obtain ⟨bg, og, cg, Ag, ng, hv, hbg, eg, RG⟩ := RLists.el HX2.out (k := j) (by omega)
          injection hv with hA _ hcr
          subst hA hcr
          obtain ⟨bh, oh, ch, Ah, nh, hv, hbh, eh, RH⟩ := RLists.el HY2.out (k := j) (by omega)
          injection hv with hA _ hcr
          subst hA hcr
          generalize g.arrays.getD j [] = y at *
          generalize h.arrays.getD j [] = y' at *
          clear hx
          replace e0 := (hB.cell (p := ⟨br, o + j * 3, none⟩) hbr).trans e0
          replace e1 := (hB.cell (p := ⟨br, o + j * 3 + 1, none⟩) hbr).trans e1
          replace e2 := (hB.cell (p := ⟨br, o + j * 3 + 2, none⟩) hbr).trans e2
          have BV : Below w2.heap.size w2 (wr.alloc (.cells #[.string ⟨x.name.toArray⟩, .bool x.secret, .int .i64 x.size] 35)) := hB.alloc sB _
          have BVH := Lib.hid BV
          replace eg := (BV.cell (p := ⟨bg, og + j, none⟩) hbg).trans eg
          replace eh := (BV.cell (p := ⟨bh, oh + j, none⟩) hbh).trans eh
          replace p0 := (BV.cell (p := ⟨w.heap.size, 0, none⟩) (by omega)).trans p0
          replace p1 := (BV.cell (p := ⟨w.heap.size, 1, none⟩) (by omega)).trans p1
          replace g0 := (BV.cell (p := ⟨w.heap.size + 1, 0, none⟩) (by omega)).trans g0
          replace g1 := (BV.cell (p := ⟨w.heap.size + 1, 1, none⟩) (by omega)).trans g1
          replace h0 := (BV.cell (p := ⟨w.heap.size + 1 + 1, 0, none⟩) (by omega)).trans h0
          replace h1 := (BV.cell (p := ⟨w.heap.size + 1 + 1, 1, none⟩) (by omega)).trans h1
          have v1 : (wr.alloc (.cells #[.string ⟨x.name.toArray⟩, .bool x.secret, .int .i64 x.size] 35)).cell? ⟨wr.heap.size, 1, none⟩ = some (.bool x.secret) := by go_simp
          have RGv : Hid (RInts (wr.alloc (.cells #[.string ⟨x.name.toArray⟩, .bool x.secret, .int .i64 x.size] 35)) (wr.alloc (.cells #[.string ⟨x.name.toArray⟩, .bool x.secret, .int .i64 x.size] 35)).heap.size _ y) := SL.at_ RG BV (Nat.le_refl _)
          have RHv : Hid (RInts (wr.alloc (.cells #[.string ⟨x.name.toArray⟩, .bool x.secret, .int .i64 x.size] 35)) (wr.alloc (.cells #[.string ⟨x.name.toArray⟩, .bool x.secret, .int .i64 x.size] 35)).heap.size _ y') := SL.at_ RH BV (Nat.le_refl _)
          clear RG RH
          go_upto_region 12 with fail
          obtain ⟨wv, hwv⟩ : ∃ wv, (wr.alloc (.cells #[.string ⟨x.name.toArray⟩, .bool x.secret, .int .i64 x.size] 35)) = wv := ⟨_, rfl⟩
          rw [hwv] at eg eh p0 p1 g0 g1 h0 h1 v1 BVH RGv RHv ⊢
          have BR := Lib.hid hB
          clear hwv BV hB e0 e1 e2
          cases hsx : x.secret with
          | true =>
            rw [hsx] at v1
            go_wp2_with fail
            go_quiet (fail)
            go_wp2_with fail
            go_roundw
            case rel => exact ⟨j + 1, by omega, by go_num, by have := BVH.out; (repeat' first | with_reducible (first | exact Below.refl _ _ | assumption | refine Below.alloc ?_ ?_ _ | refine below_drewN ?_ _ | refine Below.drew ?_ | refine Below.setCell ?_ ?_ _ | refine Below.trans ?_ (Below.mono (by with_reducible assumption) ?_)) | go_size), by have e := HST.out; rw [hall.out, hsx] at e; exact e⟩
            case measure => simp [intOf]; omega
          | false =>
            rw [hsx] at v1
            by_cases hyy : y = y'
            · have hd : decide (y = y') = true := decide_eq_true hyy
              have HD := Lib.hid hd
              clear hyy hd
              go_wp2_with fail
              go_quiet ((go_at_call 45; first | exact Calls.quiet_of (sameInts_is y y' _ _ (wv.drewN _) (SL.dr _ RGv.out) (SL.dr _ RHv.out) _ HD.out) | exact quiet_at (sameInts_is y y' _ _ (wv.drewN _) (SL.dr _ RGv.out) (SL.dr _ RHv.out) _ HD.out)))
              go_wp2_with fail
              go_roundw
              case rel => exact ⟨j + 1, by omega, by go_num, by have := BVH.out; (repeat' first | with_reducible (first | exact Below.refl _ _ | assumption | refine Below.alloc ?_ ?_ _ | refine below_drewN ?_ _ | refine Below.drew ?_ | refine Below.setCell ?_ ?_ _ | refine Below.trans ?_ (Below.mono (by with_reducible assumption) ?_)) | go_size), by have e := HST.out; rw [hall.out, hsx, HD.out] at e; exact e⟩
              case measure => simp [intOf]; omega
            · have hd : decide (y = y') = false := decide_eq_false hyy
              have hres : res = false := by rw [HAL.out, HNO.out (by rw [hsx, hd]; rfl)]; simp
              have HD := Lib.hid hd
              clear hyy hd
              go_wp2_with fail
              go_quiet ((go_at_call 45; first | exact Calls.quiet_of (sameInts_is y y' _ _ (wv.drewN _) (SL.dr _ RGv.out) (SL.dr _ RHv.out) _ HD.out) | exact quiet_at (sameInts_is y y' _ _ (wv.drewN _) (SL.dr _ RGv.out) (SL.dr _ RHv.out) _ HD.out)))
              go_wp2
              go_ret
              exact ⟨by rw [hres]; rfl, by have h1 := BVH.out; have h2 := BW.out; (repeat' first | with_reducible (first | exact Below.refl _ _ | assumption | refine Below.alloc ?_ ?_ _ | refine below_drewN ?_ _ | refine Below.drew ?_ | refine Below.setCell ?_ ?_ _ | refine Below.trans ?_ (Below.mono (by with_reducible assumption) ?_)) | go_size)⟩
        · have hje : j = ay.length := by omega
          subst hje
          have hres : res = true := by rw [HAL.out, HWD.out, hall.out, HF.out.1, HF.out.2]; rfl
          go_wp2
          go_ret
          exact ⟨by rw [hres]; rfl, by have h2 := BW.out; (repeat' first | with_reducible (first | exact Below.refl _ _ | assumption | refine Below.alloc ?_ ?_ _ | refine below_drewN ?_ _ | refine Below.drew ?_ | refine Below.setCell ?_ ?_ _ | refine Below.trans ?_ (Below.mono (by with_reducible assumption) ?_)) | go_size)⟩
end Go.Proofs.YtpbflgemhcaooaaDoor
/- Chapter 5, plainly: words stay words; what is public does not hang on what is secret. -/
namespace Ev
set_option linter.unusedVariables false
theorem nameTo_ge {l : List Par} {n : List UInt8} {i : Nat} {p : Par} (hi : l[i]? = some p) (hp : p.name = n) : ∀ k, i < k → 0 ≤ nameTo l n k
  | 0, h => absurd h (Nat.not_lt_zero _)
  | k + 1, h => by
    unfold nameTo
    by_cases hx : (l[k]?).map Par.name = some n
    · rw [if_pos hx]; omega
    · rw [if_neg hx]
      refine nameTo_ge hi hp k ?_
      have : i ≠ k := fun e => hx (by rw [← e, hi]; exact congrArg some hp)
      omega
theorem twiceTo_no {l : List Par} : ∀ (k : Nat), twiceTo l k = false → ∀ j v, j < k → l[j]? = some v → nameTo l v.name j < 0
  | 0, _, j, v, h, _ => absurd h (Nat.not_lt_zero _)
  | k + 1, h, j, v, hj, hv => by
    unfold twiceTo at h
    rw [Bool.or_eq_false_iff] at h
    by_cases e : j = k
    · subst e
      have h2 := h.2
      rw [hv] at h2
      have h3 := of_decide_eq_false h2
      omega
    · exact twiceTo_no k h.1 j v (by omega) hv
theorem findP_at {A : List Par} {n : List UInt8} {v : Par} (h : findP A n = some v) : ∃ j : Nat, A[j]? = some v ∧ v.name = n := by
  obtain ⟨h1, h2⟩ := findP_mem h
  obtain ⟨j, hj, e⟩ := List.getElem_of_mem h1
  exact ⟨j, by rw [List.getElem?_eq_getElem hj, e], h2⟩
theorem uniq_of {P A : List Par} (h : twiceTo (P ++ A) (P ++ A).length = false) : UniqA A := by
  intro n v hf
  obtain ⟨j, hj, hn⟩ := findP_at hf
  have hlt := (List.getElem?_eq_some_iff.1 hj).1
  have h1 : arrI A n = j := by
    refine arrI_at hj hn fun i q hi hq hqn => ?_
    have h2 : (P ++ A)[P.length + j]? = some v := by rw [List.getElem?_append_right (by omega), Nat.add_sub_cancel_left]; exact hj
    have h3 : (P ++ A)[P.length + i]? = some q := by rw [List.getElem?_append_right (by omega), Nat.add_sub_cancel_left]; exact hq
    have h4 := twiceTo_no _ h (P.length + j) v (by rw [List.length_append]; omega) h2
    have h5 := nameTo_ge h3 (hqn.trans hn.symm) (P.length + j) (by omega)
    omega
  rw [h1]
  exact hj
theorem check_parts {f : Fn1} (h : checkC f = 0) : TyB f.arrays f.params false f.body ∧ UniqA f.arrays := by
  unfold checkC at h
  split at h
  · exact absurd h (by decide)
  split at h
  · exact absurd h (by decide)
  rename_i h1 h2
  refine ⟨⟨_, h⟩, uniq_of (P := f.params) ?_⟩
  cases hx : twiceTo (f.params ++ f.arrays) (f.params ++ f.arrays).length
  · rfl
  · exact absurd hx h2
theorem right_of {f : Fn1} (hw : WfF f) (h : checkC f = 0) : RightF f := ⟨hw.body, (check_parts h).1⟩
theorem w32_isWord {n : Int} (h : W32 n) : isWord n = true := by
  unfold isWord
  simp
  exact h
/-- arrays that are right for a program -/
theorem fits_arrays {A : List Par} {a : Ars} (hz : SzA A a) (hw : WA a) : fits 0 (vrs A) ⟨[], a⟩ = 0 := by
  have hl := hz.len
  have hv : (vrs A).length = A.length := by unfold vrs; simp
  unfold fits
  rw [if_neg (by
    intro h
    rcases h with h | h
    · exact h rfl
    · exact h (by show a.length = _; omega))]
  rw [if_neg, if_pos]
  · rw [List.all_eq_true]
    intro x hx
    rcases List.mem_append.1 hx with h | h
    · cases h
    · obtain ⟨l, hl, hx⟩ := List.mem_flatten.1 h
      exact w32_isWord (hw l hl x hx)
  · intro h
    have : sizesOk a (vrs A) = true := by
      refine sizesOk_yes fun j hj => ?_
      obtain ⟨p, hp⟩ : ∃ p, A[j]? = some p := ⟨A[j]'(by omega), List.getElem?_eq_getElem _⟩
      rw [hz.at_ hp, List.getD_eq_getElem?_getD]
      unfold vrs
      rw [List.getElem?_map, hp]
      rfl
    rw [this] at h
    cases h
theorem goE_pres {f : Fn1} {g : Given} (hr : RightF f) (h : fitsE f g = 0) : Pres (startN f.params g.words) g.arrays (goE f g) :=
  blE_pres f.arrays f.body _ _ hr.wf (fit_of h).wn (fit_of h).wa
theorem resI_word {e : Option (Option Int)} (h : ∀ v, e = some (some v) → W32 v) : 0 ≤ resI e ∧ resI e ≤ 4294967295 ∧ (trapB e = true → resI e = 0) := by
  cases e with
  | none => exact ⟨Int.le_refl _, by show (0 : Int) ≤ _; decide, fun _ => rfl⟩
  | some x =>
    cases x with
    | none => exact ⟨Int.le_refl _, by show (0 : Int) ≤ _; decide, fun _ => rfl⟩
    | some v => exact ⟨(h v rfl).1, (h v rfl).2, fun e => by cases e⟩
/-- words stay words -/
theorem words_law {f : Fn1} {g : Given} (hr : RightF f) (h : fitsE f g = 0) : (runE f g).2 = 0 ∧ fits 0 (vrs f.arrays) ⟨[], (runE f g).1.arrays⟩ = 0 ∧ 0 ≤ (runE f g).1.word ∧ (runE f g).1.word ≤ 4294967295 ∧ ((runE f g).1.trap = true → (runE f g).1.word = 0) := by
  have p := goE_pres hr h
  have ft := fit_of h
  have q := resI_word p.res
  unfold runE
  rw [if_neg (not_not_intro h)]
  exact ⟨rfl, fits_arrays (ft.sz.to p.sz) p.wa, q⟩
theorem alike_parts {f : Fn1} {g h : Given} (ha : alike (vrs f.params) (vrs f.arrays) g h = true) : fitsE f g = 0 ∧ fitsE f h = 0 ∧ (∀ i p, f.params[i]? = some p → p.secret = false → g.words.getD i 0 = h.words.getD i 0) ∧ PubA f.arrays g.arrays h.arrays := by
  unfold alike at ha
  have hl : (vrs f.params).length = f.params.length := by unfold vrs; simp
  have hl2 : (vrs f.arrays).length = f.arrays.length := by unfold vrs; simp
  rw [hl, hl2] at ha
  simp only [Bool.and_eq_true, decide_eq_true_eq] at ha
  obtain ⟨⟨⟨h1, h2⟩, h3⟩, h4⟩ := ha
  refine ⟨h1, h2, fun i p hp hs => ?_, fun i p hp hs => ?_⟩
  · unfold alikeW at h3
    rw [List.all_eq_true] at h3
    have := h3 i (List.mem_range.2 (List.getElem?_eq_some_iff.1 hp).1)
    have e : ((vrs f.params).getD i default).secret = false := by
      rw [List.getD_eq_getElem?_getD]
      unfold vrs
      rw [List.getElem?_map, hp]
      exact hs
    rw [e] at this
    simpa using this
  · unfold alikeA at h4
    rw [List.all_eq_true] at h4
    have := h4 i (List.mem_range.2 (List.getElem?_eq_some_iff.1 hp).1)
    have e : ((vrs f.arrays).getD i default).secret = false := by
      rw [List.getD_eq_getElem?_getD]
      unfold vrs
      rw [List.getElem?_map, hp]
      exact hs
    rw [e] at this
    simpa using this
theorem trap_rel {e e' : Option (Option Int)} (h : EndR e e') : trapB e = trapB e' := by
  rcases h with ⟨h, k⟩ | ⟨h, k⟩ | ⟨u, v, h, k⟩ <;> rw [h, k] <;> rfl
/-- what is public does not hang on what is secret -/
theorem secret_law {f : Fn1} {g h : Given} (hr : RightF f) (hu : UniqA f.arrays) (ha : alike (vrs f.params) (vrs f.arrays) g h = true) :
    (runE f g).2 = 0 ∧ (runE f h).2 = 0 ∧ (runE f g).1.trap = (runE f h).1.trap ∧ (runE f g).1.arrays.length = f.arrays.length ∧ (runE f h).1.arrays.length = f.arrays.length ∧ PubA f.arrays (runE f g).1.arrays (runE f h).1.arrays := by
  obtain ⟨h1, h2, h3, h4⟩ := alike_parts ha
  have f1 := fit_of h1
  have f2 := fit_of h2
  have p1 := goE_pres hr h1
  have p2 := goE_pres hr h2
  have hrel : RelN f.params.reverse (startN f.params g.words) (startN f.params h.words) := by
    have := start_rel f.params.reverse g.words h.words (by rw [List.length_reverse]; exact f1.words) (by rw [List.length_reverse]; exact f2.words) (by rw [List.reverse_reverse]; exact h3)
    rw [List.reverse_reverse] at this
    exact this
  have two := blE_two hu f.body f.params _ _ _ _ hr.wf hr.ty ⟨⟨start_fst f1.words, f1.sz, f1.wn, f1.wa⟩, ⟨start_fst f2.words, f2.sz, f2.wn, f2.wa⟩, hrel, h4⟩
  unfold runE
  rw [if_neg (not_not_intro h1), if_neg (not_not_intro h2)]
  exact ⟨rfl, rfl, trap_rel two.e, (f1.sz.to p1.sz).len, (f2.sz.to p2.sz).len, two.pa⟩
end Ev
