import Derived.Test.YtljcgcllhcdleaaFits
import Derived.Test.YtljcgcllhcdleaaShows
import Derived.Deep.DeepCutAuto
import Derived.Test.YtljcgcllhcdleaaLast
import Derived.Test.YtljcgcllhcdleaaOwn
/- The reference: are two given the same, but for what is secret? -/
namespace Ev
def alikeW (ps : List Vr) (g h : Given) (n : Nat) : Bool := (List.range n).all fun j => (ps.getD j default).secret || decide (g.words.getD j 0 = h.words.getD j 0)
def alikeA (ay : List Vr) (g h : Given) (n : Nat) : Bool := (List.range n).all fun j => (ay.getD j default).secret || decide (g.arrays.getD j [] = h.arrays.getD j [])
def alike (ps ay : List Vr) (g h : Given) : Bool := decide (fits ps.length ay g = 0) && decide (fits ps.length ay h = 0) && alikeW ps g h ps.length && alikeA ay g h ay.length
theorem alikeW_step (ps : List Vr) (g h : Given) (n : Nat) : alikeW ps g h (n + 1) = (alikeW ps g h n && ((ps.getD n default).secret || decide (g.words.getD n 0 = h.words.getD n 0))) := by
  unfold alikeW; rw [List.range_succ, List.all_append]; simp
theorem alikeA_step (ay : List Vr) (g h : Given) (n : Nat) : alikeA ay g h (n + 1) = (alikeA ay g h n && ((ay.getD n default).secret || decide (g.arrays.getD n [] = h.arrays.getD n []))) := by
  unfold alikeA; rw [List.range_succ, List.all_append]; simp
theorem alikeW_no {ps : List Vr} {g h : Given} {n m : Nat} (hn : n < m) (hx : ((ps.getD n default).secret || decide (g.words.getD n 0 = h.words.getD n 0)) = false) : alikeW ps g h m = false := by
  unfold alikeW; rw [List.all_eq_false]; exact ⟨n, List.mem_range.2 hn, by simpa using hx⟩
theorem alikeA_no {ay : List Vr} {g h : Given} {n m : Nat} (hn : n < m) (hx : ((ay.getD n default).secret || decide (g.arrays.getD n [] = h.arrays.getD n [])) = false) : alikeA ay g h m = false := by
  unfold alikeA; rw [List.all_eq_false]; exact ⟨n, List.mem_range.2 hn, by simpa using hx⟩
theorem fits_lens {np : Nat} {ay : List Vr} {g : Given} (h : fits np ay g = 0) : g.words.length = np ∧ g.arrays.length = ay.length := by
  unfold fits at h
  split at h
  · exact absurd h (by decide)
  · omega
end Ev
namespace Go.Proofs.Ytljcgcllhcdleaa
open Go.RowKit
set_option linter.unusedSimpArgs false
set_option linter.unusedVariables false
theorem RGiven.at2 {w w' : World} {B : Nat} {v : Value} {g : Ev.Given} (h : RGiven w B v g) (hb : Below w.heap.size w w') (hB : B ≤ w.heap.size) : RGiven w' w'.heap.size v g := by
  obtain ⟨vw, va, h1, h2, h3⟩ := h
  exact ⟨vw, va, h1, SL.at_ h2 hb hB, h3.at_ hb hB⟩
theorem RLists.el {w : World} {B : Nat} {v : Value} {l : List (List Int)} (h : RLists w B v l) {k : Nat} (hk : k < l.length) :
    ∃ b o c A n, v = .slice (some ⟨b, o, none⟩) l.length c ∧ b < B ∧ w.cell? ⟨b, o + k, none⟩ = some (.slice A (l.getD k []).length n) ∧ RInts w B (.slice A (l.getD k []).length n) (l.getD k []) := by
  obtain ⟨vs, hl, hs, hr⟩ := h
  obtain ⟨b, o, c, e, hb, _, _, hc⟩ := SL.row hs (by omega)
  have hx : l[k]? = some (l.getD k []) := by simp [hk]
  have hu : vs[k]? = some (vs[k]'(by omega)) := List.getElem?_eq_getElem _
  have h1 := hr k _ _ hu hx
  obtain ⟨A, n, e1, _, _⟩ := SL.form h1
  have h2 := hc k _ hu
  rw [e1] at h2 h1
  exact ⟨b, o, c, A, n, e, hb, h2, h1⟩
set_option maxRecDepth 8000 in
set_option maxHeartbeats 6400000 in
theorem alike_any (ps ay : List Ev.Vr) (g h : Ev.Given) (vp va vb vg vh : Value) (w : World) (hp : RVars w w.heap.size vp ps) (ha : RVars w w.heap.size va ay) (hb : ∃ A n c, vb = .slice A n c) (hg : RGiven w w.heap.size vg g) (hh : RGiven w w.heap.size vh h)
    (hsg : g.words.length + g.arrays.flatten.length ≤ 1073741824) (hsh : h.words.length + h.arrays.flatten.length ≤ 1073741824) :
    Calls Try.prog 74 #[.agg #[vp, va, vb], vg, vh] w fun e w' => e = .returned (.bool (Ev.alike ps ay g h)) ∧ Below w.heap.size w w' := by
  have CG := Lib.hid (fun (u : World) (hu : Below w.heap.size w u) => fits_any ps ay g vp va vb vg u (SL.at_ hp hu (Nat.le_refl _)) (SL.at_ ha hu (Nat.le_refl _)) hb (hg.at2 hu (Nat.le_refl _)) hsg)
  have CH := Lib.hid (fun (u : World) (hu : Below w.heap.size w u) => fits_any ps ay h vp va vb vh u (SL.at_ hp hu (Nat.le_refl _)) (SL.at_ ha hu (Nat.le_refl _)) hb (hh.at2 hu (Nat.le_refl _)) hsh)
  have HP := Lib.hid hp
  have HA := Lib.hid ha
  obtain ⟨Ab, nb, cb, rfl⟩ := hb
  obtain ⟨vw, vx, rfl, hw, hx⟩ := hg
  obtain ⟨vw', vx', rfl, hw', hx'⟩ := hh
  obtain ⟨Ap, cp, rfl, _, hp2⟩ := SL.form hp
  obtain ⟨Av, cv, rfl, _, hv2⟩ := SL.form ha
  have HW := Lib.hid hw
  have HX := Lib.hid hx
  have HW' := Lib.hid hw'
  have HX' := Lib.hid hx'
  obtain ⟨Aw, cw, rfl, _, hw2⟩ := SL.form hw
  obtain ⟨_, _, hxs, _⟩ := hx
  obtain ⟨Ax, cx, rfl, _, _⟩ := SL.form hxs
  obtain ⟨Bw, dw, rfl, _, hw2'⟩ := SL.form hw'
  obtain ⟨_, _, hxs', _⟩ := hx'
  obtain ⟨Bx, dx, rfl, _, _⟩ := SL.form hxs'
  unfold maxLen at hp2 hv2 hw2 hw2'
  clear hp ha hw hw' hxs hxs' hsg hsh
  have hL1 := Lib.hid (fun hf => Ev.fits_lens (np := ps.length) (ay := ay) (g := g) hf)
  have hL2 := Lib.hid (fun hf => Ev.fits_lens (np := ps.length) (ay := ay) (g := h) hf)
  have HAL := Lib.hid (show Ev.alike ps ay g h = (decide (Ev.fits ps.length ay g = 0) && decide (Ev.fits ps.length ay h = 0) && Ev.alikeW ps g h ps.length && Ev.alikeA ay g h ay.length) from rfl)
  generalize Ev.fits ps.length ay g = fg at *
  generalize Ev.fits ps.length ay h = fh at *
  generalize Ev.alike ps ay g h = res at *
  have hbx := boxes3 w #[.slice Ap ps.length cp, .slice Av ay.length cv, .slice Ab nb cb] #[.slice Aw g.words.length cw, .slice Ax g.arrays.length cx] #[.slice Bw h.words.length dw, .slice Bx h.arrays.length dx] 49 45 45
  have sA : w.heap.size + 1 + 1 + 1 = (((w.alloc (.cells #[.slice Ap ps.length cp, .slice Av ay.length cv, .slice Ab nb cb] 49)).alloc (.cells #[.slice Aw g.words.length cw, .slice Ax g.arrays.length cx] 45)).alloc (.cells #[.slice Bw h.words.length dw, .slice Bx h.arrays.length dx] 45)).heap.size := by simp
  have bA : Below w.heap.size w (((w.alloc (.cells #[.slice Ap ps.length cp, .slice Av ay.length cv, .slice Ab nb cb] 49)).alloc (.cells #[.slice Aw g.words.length cw, .slice Ax g.arrays.length cx] 45)).alloc (.cells #[.slice Bw h.words.length dw, .slice Bx h.arrays.length dx] 45)) := by (repeat' (first | (with_reducible exact Below.refl _ _) | (with_reducible assumption) | (with_reducible refine Below.alloc ?_ ?_ _) | (with_reducible refine below_drewN ?_ _) | (with_reducible refine Below.drew ?_) | (with_reducible refine Below.setCell ?_ ?_ _) | (with_reducible refine Below.trans ?_ (Below.mono (by with_reducible assumption) ?_)) | go_size))
  go_enter Try.func74, Try.ntmps74
  go_upto_region 1 with fail
  obtain ⟨wA, hwA⟩ : ∃ wA, (((w.alloc (.cells #[.slice Ap ps.length cp, .slice Av ay.length cv, .slice Ab nb cb] 49)).alloc (.cells #[.slice Aw g.words.length cw, .slice Ax g.arrays.length cx] 45)).alloc (.cells #[.slice Bw h.words.length dw, .slice Bx h.arrays.length dx] 45)) = wA := ⟨_, rfl⟩
  rw [hwA] at hbx sA bA
  (try rw [hwA])
  clear hwA
  obtain ⟨hb0, hb1, hb2⟩ := hbx
  have p0 : wA.cell? ⟨w.heap.size, 0, none⟩ = some (.slice Ap ps.length cp) := hb0 0 _ rfl
  have p1 : wA.cell? ⟨w.heap.size, 1, none⟩ = some (.slice Av ay.length cv) := hb0 1 _ rfl
  have p2 : wA.cell? ⟨w.heap.size, 2, none⟩ = some (.slice Ab nb cb) := hb0 2 _ rfl
  have g0 : wA.cell? ⟨w.heap.size + 1, 0, none⟩ = some (.slice Aw g.words.length cw) := hb1 0 _ rfl
  have g1 : wA.cell? ⟨w.heap.size + 1, 1, none⟩ = some (.slice Ax g.arrays.length cx) := hb1 1 _ rfl
  have h0 : wA.cell? ⟨w.heap.size + 1 + 1, 0, none⟩ = some (.slice Bw h.words.length dw) := hb2 0 _ rfl
  have h1 : wA.cell? ⟨w.heap.size + 1 + 1, 1, none⟩ = some (.slice Bx h.arrays.length dx) := hb2 1 _ rfl
  have z0 : w.heap.size < wA.heap.size := by omega
  have z1 : w.heap.size + 1 < wA.heap.size := by omega
  have z2 : w.heap.size + 1 + 1 < wA.heap.size := by omega
  have ldf : ∀ u, Below wA.heap.size wA u → (Go.Instr.loadAt 49 (.pointer (some ⟨w.heap.size, 0, none⟩))).run Try.prog u = .ok (.agg #[.slice Ap ps.length cp, .slice Av ay.length cv, .slice Ab nb cb]) u := fun u hu => load_box Try.underlying49 (by kernel_rfl) rfl (by kernel_rfl) hb0 z0 hu
  have ldg : ∀ u, Below wA.heap.size wA u → (Go.Instr.loadAt 45 (.pointer (some ⟨w.heap.size + 1, 0, none⟩))).run Try.prog u = .ok (.agg #[.slice Aw g.words.length cw, .slice Ax g.arrays.length cx]) u := fun u hu => load_box Try.underlying45 (by kernel_rfl) rfl (by kernel_rfl) hb1 z1 hu
  have ldh : ∀ u, Below wA.heap.size wA u → (Go.Instr.loadAt 45 (.pointer (some ⟨w.heap.size + 1 + 1, 0, none⟩))).run Try.prog u = .ok (.agg #[.slice Bw h.words.length dw, .slice Bx h.arrays.length dx]) u := fun u hu => load_box Try.underlying45 (by kernel_rfl) rfl (by kernel_rfl) hb2 z2 hu
  have rfw := Below.refl wA.heap.size wA
  clear hb0 hb1 hb2
  have SA := Lib.hid sA
  clear sA
  by_cases hf : fg = 0
  case neg =>
    have hres : res = false := by rw [HAL.out, decide_eq_false hf]; rfl
    have q1 : (fg != 0) = true := bne_iff_ne.2 hf
    clear hf
    go_wp2_with (first | (refine wpList_load_box rfl 49 _ rfl rfl (ldf _ rfw) ?_) | (refine wpList_load_box rfl 45 _ rfl rfl (ldg _ rfw) ?_) | (refine wpList_load_boxg (by rfl) 49 _ rfl rfl (ldf _ hb1) ?_) | (refine wpList_load_boxg (by rfl) 45 _ rfl rfl (ldh _ hb1) ?_) | go_at_call 22; refine (CG.out _ (by (repeat' (first | (with_reducible exact Below.refl _ _) | (with_reducible assumption) | (with_reducible refine Below.alloc ?_ ?_ _) | (with_reducible refine below_drewN ?_ _) | (with_reducible refine Below.drew ?_) | (with_reducible refine Below.setCell ?_ ?_ _) | (with_reducible refine Below.trans ?_ (Below.mono (by with_reducible assumption) ?_)) | go_size)))).mono ?_; rintro e w1 ⟨rfl, hb1⟩)
    go_ret
    exact ⟨by rw [hres]; rfl, by (repeat' (first | (with_reducible exact Below.refl _ _) | (with_reducible assumption) | (with_reducible refine Below.alloc ?_ ?_ _) | (with_reducible refine below_drewN ?_ _) | (with_reducible refine Below.drew ?_) | (with_reducible refine Below.setCell ?_ ?_ _) | (with_reducible refine Below.trans ?_ (Below.mono (by with_reducible assumption) ?_)) | go_size))⟩
  case pos =>
  have q1 : (fg != 0) = false := by rw [hf]; rfl
  by_cases hf' : fh = 0
  case neg =>
    have hres : res = false := by rw [HAL.out, decide_eq_false hf', Bool.and_false]; rfl
    have q2 : (fh != 0) = true := bne_iff_ne.2 hf'
    have HF := Lib.hid hf
    clear hf hf'
    go_wp2_with (first | (refine wpList_load_box rfl 49 _ rfl rfl (ldf _ rfw) ?_) | (refine wpList_load_box rfl 45 _ rfl rfl (ldg _ rfw) ?_) | (refine wpList_load_boxg (by rfl) 49 _ rfl rfl (ldf _ hb1) ?_) | (refine wpList_load_boxg (by rfl) 45 _ rfl rfl (ldh _ hb1) ?_) | (go_at_call 22; refine (CH.out _ bw1).mono ?_; rintro e w2 ⟨rfl, hb2⟩) | (go_at_call 22; refine (CG.out _ bA).mono ?_; rintro e w1 ⟨rfl, hb1⟩; obtain ⟨kc1, kf1, s1⟩ := bfacts hb1; have bw1 : Below w.heap.size w w1 := (by (repeat' (first | (with_reducible exact Below.refl _ _) | (with_reducible assumption) | (with_reducible refine Below.alloc ?_ ?_ _) | (with_reducible refine below_drewN ?_ _) | (with_reducible refine Below.drew ?_) | (with_reducible refine Below.setCell ?_ ?_ _) | (with_reducible refine Below.trans ?_ (Below.mono (by with_reducible assumption) ?_)) | go_size)))))
    go_ret
    exact ⟨by rw [hres]; rfl, by (repeat' (first | (with_reducible exact Below.refl _ _) | (with_reducible assumption) | (with_reducible refine Below.alloc ?_ ?_ _) | (with_reducible refine below_drewN ?_ _) | (with_reducible refine Below.drew ?_) | (with_reducible refine Below.setCell ?_ ?_ _) | (with_reducible refine Below.trans ?_ (Below.mono (by with_reducible assumption) ?_)) | go_size))⟩
  case pos =>
  have q2 : (fh != 0) = false := by rw [hf']; rfl
  have HF := Lib.hid (And.intro hf hf')
  have hlg := hL1.out hf
  have hlh := hL2.out hf'
  have le1 : ps.length ≤ g.words.length := by omega
  have le2 : ps.length ≤ h.words.length := by omega
  have le3 : ay.length ≤ g.arrays.length := by omega
  have le4 : ay.length ≤ h.arrays.length := by omega
  clear hf hf' hlg hlh hL1 hL2
  go_upto_region 3 with (first | (refine wpList_load_box rfl 49 _ rfl rfl (ldf _ rfw) ?_) | (refine wpList_load_box rfl 45 _ rfl rfl (ldg _ rfw) ?_) | (refine wpList_load_boxg (by rfl) 49 _ rfl rfl (ldf _ hb1) ?_) | (refine wpList_load_boxg (by rfl) 45 _ rfl rfl (ldh _ hb1) ?_) | (go_at_call 22; refine (CH.out _ bw1).mono ?_; rintro e w2 ⟨rfl, hb2⟩) | (go_at_call 22; refine (CG.out _ bA).mono ?_; rintro e w1 ⟨rfl, hb1⟩; obtain ⟨kc1, kf1, s1⟩ := bfacts hb1; have bw1 : Below w.heap.size w w1 := (by (repeat' (first | (with_reducible exact Below.refl _ _) | (with_reducible assumption) | (with_reducible refine Below.alloc ?_ ?_ _) | (with_reducible refine below_drewN ?_ _) | (with_reducible refine Below.drew ?_) | (with_reducible refine Below.setCell ?_ ?_ _) | (with_reducible refine Below.trans ?_ (Below.mono (by with_reducible assumption) ?_)) | go_size)))))
  have b2 : Below wA.heap.size wA w2 := hb1.trans (hb2.mono s1)
  have bw2 : Below w.heap.size w w2 := bw1.trans (hb2.mono (by omega))
  have s2 := b2.size
  replace p0 : w2.cell? ⟨w.heap.size, 0, none⟩ = some (.slice Ap ps.length cp) := (b2.cell (p := ⟨w.heap.size, 0, none⟩) (by omega)).trans p0
  replace p1 : w2.cell? ⟨w.heap.size, 1, none⟩ = some (.slice Av ay.length cv) := (b2.cell (p := ⟨w.heap.size, 1, none⟩) (by omega)).trans p1
  replace g0 : w2.cell? ⟨w.heap.size + 1, 0, none⟩ = some (.slice Aw g.words.length cw) := (b2.cell (p := ⟨w.heap.size + 1, 0, none⟩) (by omega)).trans g0
  replace g1 : w2.cell? ⟨w.heap.size + 1, 1, none⟩ = some (.slice Ax g.arrays.length cx) := (b2.cell (p := ⟨w.heap.size + 1, 1, none⟩) (by omega)).trans g1
  replace h0 : w2.cell? ⟨w.heap.size + 1 + 1, 0, none⟩ = some (.slice Bw h.words.length dw) := (b2.cell (p := ⟨w.heap.size + 1 + 1, 0, none⟩) (by omega)).trans h0
  replace h1 : w2.cell? ⟨w.heap.size + 1 + 1, 1, none⟩ = some (.slice Bx h.arrays.length dx) := (b2.cell (p := ⟨w.heap.size + 1 + 1, 1, none⟩) (by omega)).trans h1
  replace z0 : w.heap.size < w2.heap.size := by omega
  replace z1 : w.heap.size + 1 < w2.heap.size := by omega
  replace z2 : w.heap.size + 1 + 1 < w2.heap.size := by omega
  have HP2 : Hid (RVars w2 w2.heap.size (.slice Ap ps.length cp) ps) := SL.at_ HP.out bw2 (Nat.le_refl _)
  have HA2 : Hid (RVars w2 w2.heap.size (.slice Av ay.length cv) ay) := SL.at_ HA.out bw2 (Nat.le_refl _)
  have HW2 : Hid (RInts w2 w2.heap.size (.slice Aw g.words.length cw) g.words) := SL.at_ HW.out bw2 (Nat.le_refl _)
  have HV2 : Hid (RInts w2 w2.heap.size (.slice Bw h.words.length dw) h.words) := SL.at_ HW'.out bw2 (Nat.le_refl _)
  have HX2 : Hid (RLists w2 w2.heap.size (.slice Ax g.arrays.length cx) g.arrays) := HX.out.at_ bw2 (Nat.le_refl _)
  have HY2 : Hid (RLists w2 w2.heap.size (.slice Bx h.arrays.length dx) h.arrays) := HX'.out.at_ bw2 (Nat.le_refl _)
  have BW := Lib.hid bw2
  clear p2 kc1 kf1 s1 hb1 hb2 bw1 bw2 b2 s2 bA q1 q2 CG CH HP HA HW HX HW' HX' SA
  go_wp2_with fail
  go_loopw [24] (fun u wr => ∃ j : Nat, j ≤ ps.length ∧ u = .int .i64 j ∧ Below w2.heap.size w2 wr ∧ Hid (Ev.alikeW ps g h j = true)) (fun u _ => ps.length - (intOf u).toNat)
  case atStart => exact ⟨0, by omega, rfl, Below.refl _ _, rfl⟩
  case round =>
    obtain ⟨j, hj, rfl, hB, hall⟩ := hrel
    have sB := hB.size
    by_cases hlt : j < ps.length
    · as_aux_lemma =>
      have hx : ps[j]? = some (ps.getD j default) := by simp [hlt]
      have HST := Lib.hid (Ev.alikeW_step ps g h j)
      have HNO := Lib.hid (fun hq => Ev.alikeW_no (ps := ps) (g := g) (h := h) hlt hq)
      generalize ps.getD j default = x at *
      obtain ⟨br, o, c, hv, hbr, _, _, _, e0, e1, e2⟩ := RVars.el HP2.out hx
      injection hv with hA _ hcr
      subst hA hcr
      have hgx : g.words[j]? = some (g.words.getD j 0) := by rw [List.getD_eq_getElem?_getD, List.getElem?_eq_getElem (show j < g.words.length by omega)]; rfl
      have hhx : h.words[j]? = some (h.words.getD j 0) := by rw [List.getD_eq_getElem?_getD, List.getElem?_eq_getElem (show j < h.words.length by omega)]; rfl
      generalize g.words.getD j 0 = y at *
      generalize h.words.getD j 0 = y' at *
      obtain ⟨bg, og, cg, hv, hbg, _, _, _, eg⟩ := RInts.at_ HW2.out hgx
      injection hv with hA _ hcr
      subst hA hcr
      obtain ⟨bh, oh, ch, hv, hbh, _, _, _, eh⟩ := RInts.at_ HV2.out hhx
      injection hv with hA _ hcr
      subst hA hcr
      clear hx hgx hhx
      replace e0 := (hB.cell (p := ⟨br, o + j * 3, none⟩) hbr).trans e0
      replace e1 := (hB.cell (p := ⟨br, o + j * 3 + 1, none⟩) hbr).trans e1
      replace e2 := (hB.cell (p := ⟨br, o + j * 3 + 2, none⟩) hbr).trans e2
      have BV : Below w2.heap.size w2 (wr.alloc (.cells #[.string ⟨x.name.toArray⟩, .bool x.secret, .int .i64 x.size] 88)) := hB.alloc sB _
      have BVH := Lib.hid BV
      replace eg := (BV.cell (p := ⟨bg, og + j, none⟩) hbg).trans eg
      replace eh := (BV.cell (p := ⟨bh, oh + j, none⟩) hbh).trans eh
      replace p0 := (BV.cell (p := ⟨w.heap.size, 0, none⟩) (by omega)).trans p0
      replace p1 := (BV.cell (p := ⟨w.heap.size, 1, none⟩) (by omega)).trans p1
      replace g0 := (BV.cell (p := ⟨w.heap.size + 1, 0, none⟩) (by omega)).trans g0
      replace g1 := (BV.cell (p := ⟨w.heap.size + 1, 1, none⟩) (by omega)).trans g1
      replace h0 := (BV.cell (p := ⟨w.heap.size + 1 + 1, 0, none⟩) (by omega)).trans h0
      replace h1 := (BV.cell (p := ⟨w.heap.size + 1 + 1, 1, none⟩) (by omega)).trans h1
      have v1 : (wr.alloc (.cells #[.string ⟨x.name.toArray⟩, .bool x.secret, .int .i64 x.size] 88)).cell? ⟨wr.heap.size, 1, none⟩ = some (.bool x.secret) := by go_simp
      go_upto_region 6 with fail
      obtain ⟨wv, hwv⟩ : ∃ wv, (wr.alloc (.cells #[.string ⟨x.name.toArray⟩, .bool x.secret, .int .i64 x.size] 88)) = wv := ⟨_, rfl⟩
      rw [hwv] at eg eh p0 p1 g0 g1 h0 h1 v1 BVH ⊢
      have BR := Lib.hid hB
      clear hwv BV hB e0 e1 e2
      cases hsx : x.secret with
      | true =>
        rw [hsx] at v1
        go_wp2_with fail
        go_quiet (fail)
        go_wp2_with fail
        go_roundw
        case rel => exact ⟨j + 1, by omega, by go_num, by have := BVH.out; (repeat' (first | (with_reducible exact Below.refl _ _) | (with_reducible assumption) | (with_reducible refine Below.alloc ?_ ?_ _) | (with_reducible refine below_drewN ?_ _) | (with_reducible refine Below.drew ?_) | (with_reducible refine Below.setCell ?_ ?_ _) | (with_reducible refine Below.trans ?_ (Below.mono (by with_reducible assumption) ?_)) | go_size)), by have e := HST.out; rw [hall.out, hsx] at e; exact e⟩
        case measure => simp [intOf]; omega
      | false =>
        rw [hsx] at v1
        by_cases hyy : y = y'
        · have hd := Lib.hid (decide_eq_true hyy)
          subst hyy
          go_wp2_with fail
          go_quiet (fail)
          go_wp2_with fail
          go_roundw
          case rel => exact ⟨j + 1, by omega, by go_num, by have := BVH.out; (repeat' (first | (with_reducible exact Below.refl _ _) | (with_reducible assumption) | (with_reducible refine Below.alloc ?_ ?_ _) | (with_reducible refine below_drewN ?_ _) | (with_reducible refine Below.drew ?_) | (with_reducible refine Below.setCell ?_ ?_ _) | (with_reducible refine Below.trans ?_ (Below.mono (by with_reducible assumption) ?_)) | go_size)), by have e := HST.out; rw [hall.out, hsx] at e; rw [Hid, e]; simp⟩
          case measure => simp [intOf]; omega
        · have hd : (y != y') = true := bne_iff_ne.2 hyy
          have hres : res = false := by rw [HAL.out, HNO.out (by rw [hsx, decide_eq_false hyy]; rfl)]; simp
          clear hyy
          go_wp2_with fail
          go_quiet (fail)
          go_wp2
          go_ret
          exact ⟨by rw [hres]; rfl, by have h1 := BVH.out; have h2 := BW.out; (repeat' (first | (with_reducible exact Below.refl _ _) | (with_reducible assumption) | (with_reducible refine Below.alloc ?_ ?_ _) | (with_reducible refine below_drewN ?_ _) | (with_reducible refine Below.drew ?_) | (with_reducible refine Below.setCell ?_ ?_ _) | (with_reducible refine Below.trans ?_ (Below.mono (by with_reducible assumption) ?_)) | go_size))⟩
    · have hje : j = ps.length := by omega
      as_aux_lemma =>
      subst hje
      have HWD : Hid (Ev.alikeW ps g h ps.length = true) := hall
      clear hall
      have p1w := (hB.cell (p := ⟨w.heap.size, 1, none⟩) z0).trans p1
      go_wp2_with fail
      go_loopw [49] (fun u wz => ∃ j : Nat, j ≤ ay.length ∧ u = .int .i64 j ∧ Below w2.heap.size w2 wz ∧ Hid (Ev.alikeA ay g h j = true)) (fun u _ => ay.length - (intOf u).toNat)
      case atStart => exact ⟨0, by omega, rfl, hB, rfl⟩
      case round =>
        obtain ⟨j, hj, rfl, hB, hall⟩ := hrel
        have sB := hB.size
        by_cases hlt : j < ay.length
        · as_aux_lemma =>
          have hx : ay[j]? = some (ay.getD j default) := by simp [hlt]
          have HST := Lib.hid (Ev.alikeA_step ay g h j)
          have HNO := Lib.hid (fun hq => Ev.alikeA_no (ay := ay) (g := g) (h := h) hlt hq)
          generalize ay.getD j default = x at *
          obtain ⟨br, o, c, hv, hbr, _, _, _, e0, e1, e2⟩ := RVars.el HA2.out hx
          injection hv with hA _ hcr
          subst hA hcr
          obtain ⟨bg, og, cg, Ag, ng, hv, hbg, eg, RG⟩ := RLists.el HX2.out (k := j) (by omega)
          injection hv with hA _ hcr
          subst hA hcr
          obtain ⟨bh, oh, ch, Ah, nh, hv, hbh, eh, RH⟩ := RLists.el HY2.out (k := j) (by omega)
          injection hv with hA _ hcr
          subst hA hcr
          generalize g.arrays.getD j [] = y at *
          generalize h.arrays.getD j [] = y' at *
          clear hx
          replace e0 := (hB.cell (p := ⟨br, o + j * 3, none⟩) hbr).trans e0
          replace e1 := (hB.cell (p := ⟨br, o + j * 3 + 1, none⟩) hbr).trans e1
          replace e2 := (hB.cell (p := ⟨br, o + j * 3 + 2, none⟩) hbr).trans e2
          have BV : Below w2.heap.size w2 (wr.alloc (.cells #[.string ⟨x.name.toArray⟩, .bool x.secret, .int .i64 x.size] 88)) := hB.alloc sB _
          have BVH := Lib.hid BV
          replace eg := (BV.cell (p := ⟨bg, og + j, none⟩) hbg).trans eg
          replace eh := (BV.cell (p := ⟨bh, oh + j, none⟩) hbh).trans eh
          replace p0 := (BV.cell (p := ⟨w.heap.size, 0, none⟩) (by omega)).trans p0
          replace p1 := (BV.cell (p := ⟨w.heap.size, 1, none⟩) (by omega)).trans p1
          replace g0 := (BV.cell (p := ⟨w.heap.size + 1, 0, none⟩) (by omega)).trans g0
          replace g1 := (BV.cell (p := ⟨w.heap.size + 1, 1, none⟩) (by omega)).trans g1
          replace h0 := (BV.cell (p := ⟨w.heap.size + 1 + 1, 0, none⟩) (by omega)).trans h0
          replace h1 := (BV.cell (p := ⟨w.heap.size + 1 + 1, 1, none⟩) (by omega)).trans h1
          have v1 : (wr.alloc (.cells #[.string ⟨x.name.toArray⟩, .bool x.secret, .int .i64 x.size] 88)).cell? ⟨wr.heap.size, 1, none⟩ = some (.bool x.secret) := by go_simp
          have RGv : Hid (RInts (wr.alloc (.cells #[.string ⟨x.name.toArray⟩, .bool x.secret, .int .i64 x.size] 88)) (wr.alloc (.cells #[.string ⟨x.name.toArray⟩, .bool x.secret, .int .i64 x.size] 88)).heap.size _ y) := SL.at_ RG BV (Nat.le_refl _)
          have RHv : Hid (RInts (wr.alloc (.cells #[.string ⟨x.name.toArray⟩, .bool x.secret, .int .i64 x.size] 88)) (wr.alloc (.cells #[.string ⟨x.name.toArray⟩, .bool x.secret, .int .i64 x.size] 88)).heap.size _ y') := SL.at_ RH BV (Nat.le_refl _)
          clear RG RH
          go_upto_region 12 with fail
          obtain ⟨wv, hwv⟩ : ∃ wv, (wr.alloc (.cells #[.string ⟨x.name.toArray⟩, .bool x.secret, .int .i64 x.size] 88)) = wv := ⟨_, rfl⟩
          rw [hwv] at eg eh p0 p1 g0 g1 h0 h1 v1 BVH RGv RHv ⊢
          have BR := Lib.hid hB
          clear hwv BV hB e0 e1 e2
          cases hsx : x.secret with
          | true =>
            rw [hsx] at v1
            go_wp2_with fail
            go_quiet (fail)
            go_wp2_with fail
            go_roundw
            case rel => exact ⟨j + 1, by omega, by go_num, by have := BVH.out; (repeat' (first | (with_reducible exact Below.refl _ _) | (with_reducible assumption) | (with_reducible refine Below.alloc ?_ ?_ _) | (with_reducible refine below_drewN ?_ _) | (with_reducible refine Below.drew ?_) | (with_reducible refine Below.setCell ?_ ?_ _) | (with_reducible refine Below.trans ?_ (Below.mono (by with_reducible assumption) ?_)) | go_size)), by have e := HST.out; rw [hall.out, hsx] at e; exact e⟩
            case measure => simp [intOf]; omega
          | false =>
            rw [hsx] at v1
            by_cases hyy : y = y'
            · have hd : decide (y = y') = true := decide_eq_true hyy
              have HD := Lib.hid hd
              clear hyy hd
              go_wp2_with fail
              go_quiet ((go_at_call 34; first | exact Calls.quiet_of (sameInts_is y y' _ _ (wv.drewN _) (SL.dr _ RGv.out) (SL.dr _ RHv.out) _ HD.out) | exact quiet_at (sameInts_is y y' _ _ (wv.drewN _) (SL.dr _ RGv.out) (SL.dr _ RHv.out) _ HD.out)))
              go_wp2_with fail
              go_roundw
              case rel => exact ⟨j + 1, by omega, by go_num, by have := BVH.out; (repeat' (first | (with_reducible exact Below.refl _ _) | (with_reducible assumption) | (with_reducible refine Below.alloc ?_ ?_ _) | (with_reducible refine below_drewN ?_ _) | (with_reducible refine Below.drew ?_) | (with_reducible refine Below.setCell ?_ ?_ _) | (with_reducible refine Below.trans ?_ (Below.mono (by with_reducible assumption) ?_)) | go_size)), by have e := HST.out; rw [hall.out, hsx, HD.out] at e; exact e⟩
              case measure => simp [intOf]; omega
            · have hd : decide (y = y') = false := decide_eq_false hyy
              have hres : res = false := by rw [HAL.out, HNO.out (by rw [hsx, hd]; rfl)]; simp
              have HD := Lib.hid hd
              clear hyy hd
              go_wp2_with fail
              go_quiet ((go_at_call 34; first | exact Calls.quiet_of (sameInts_is y y' _ _ (wv.drewN _) (SL.dr _ RGv.out) (SL.dr _ RHv.out) _ HD.out) | exact quiet_at (sameInts_is y y' _ _ (wv.drewN _) (SL.dr _ RGv.out) (SL.dr _ RHv.out) _ HD.out)))
              go_wp2
              go_ret
              exact ⟨by rw [hres]; rfl, by have h1 := BVH.out; have h2 := BW.out; (repeat' (first | (with_reducible exact Below.refl _ _) | (with_reducible assumption) | (with_reducible refine Below.alloc ?_ ?_ _) | (with_reducible refine below_drewN ?_ _) | (with_reducible refine Below.drew ?_) | (with_reducible refine Below.setCell ?_ ?_ _) | (with_reducible refine Below.trans ?_ (Below.mono (by with_reducible assumption) ?_)) | go_size))⟩
        · have hje : j = ay.length := by omega
          subst hje
          have hres : res = true := by rw [HAL.out, HWD.out, hall.out, HF.out.1, HF.out.2]; rfl
          go_wp2
          go_ret
          exact ⟨by rw [hres]; rfl, by have h2 := BW.out; (repeat' (first | (with_reducible exact Below.refl _ _) | (with_reducible assumption) | (with_reducible refine Below.alloc ?_ ?_ _) | (with_reducible refine below_drewN ?_ _) | (with_reducible refine Below.drew ?_) | (with_reducible refine Below.setCell ?_ ?_ _) | (with_reducible refine Below.trans ?_ (Below.mono (by with_reducible assumption) ?_)) | go_size))⟩
end Go.Proofs.Ytljcgcllhcdleaa
/- evlaw7.alike: are two given the same, but for what is secret, of flat instructions? -/
namespace Ev
def parVar (f : Flat) (j : Nat) : Vr := ⟨[], sec f.secret j, 0⟩
def parVars (f : Flat) (n : Nat) : List Vr := (List.range n).map (parVar f)
theorem parVars_step (f : Flat) (n : Nat) : parVars f (n + 1) = parVars f n ++ [parVar f n] := by unfold parVars; rw [List.range_succ, List.map_append]; rfl
theorem parVars_len (f : Flat) (n : Nat) : (parVars f n).length = n := by unfold parVars; simp
end Ev
namespace Go.Proofs.Ytljcgcllhcdleaa
open Go.RowKit
set_option linter.unusedSimpArgs false
set_option linter.unusedVariables false
theorem var_info2 : (Try.prog.info? 88).map (fun i => (i.zero, i.size, i.bytes)) = some (some (.agg #[.string .empty, .bool false, .int .i64 0]), 3, 32) := by kernel_rfl
set_option maxRecDepth 8000 in
set_option maxHeartbeats 6400000 in
theorem alikeLaw_any (f : Ev.Flat) (g h : Ev.Given) (np : Nat) (vf vg vh : Value) (w : World) (hf : RFlat w w.heap.size vf f) (hg : RGiven w w.heap.size vg g) (hh : RGiven w w.heap.size vh h)
    (hnp : f.params = (np : Int)) (hle : np ≤ f.secret.length) (hbig : f.secret.length ≤ 1048576) (hsg : g.words.length + g.arrays.flatten.length ≤ 1073741824) (hsh : h.words.length + h.arrays.flatten.length ≤ 1073741824) :
    Calls Try.prog 44 #[vf, vg, vh] w fun e w' => e = .returned (.bool (Ev.alike (Ev.parVars f np) f.arrays g h)) ∧ Below w.heap.size w w' := by
  obtain ⟨vc, vs, va, rfl, hc, hs, ha⟩ := hf
  have HG := Lib.hid hg
  have HH := Lib.hid hh
  obtain ⟨vw, vx, rfl, hw, hx⟩ := hg
  obtain ⟨vw', vx', rfl, hw', hx'⟩ := hh
  have HS := Lib.hid hs
  have HA := Lib.hid ha
  obtain ⟨Ac, cc, rfl, _, _⟩ := SL.form hc
  obtain ⟨As, cs, rfl, _, hs2⟩ := SL.form hs
  obtain ⟨Av, cv, rfl, _, hv2⟩ := SL.form ha
  obtain ⟨Aw, cw, rfl, _, _⟩ := SL.form hw
  obtain ⟨_, _, hxs, _⟩ := hx
  obtain ⟨Ax, cx, rfl, _, _⟩ := SL.form hxs
  obtain ⟨Bw, dw, rfl, _, _⟩ := SL.form hw'
  obtain ⟨_, _, hxs', _⟩ := hx'
  obtain ⟨Bx, dx, rfl, _, _⟩ := SL.form hxs'
  unfold maxLen at hs2 hv2
  obtain ⟨i0, hi0, hz0, hz1, hz2⟩ := info_parts var_info2
  have II := Lib.hid (⟨hi0, hz0, hz1, hz2⟩ : _ ∧ _ ∧ _ ∧ _)
  have HSUM := Lib.hid (And.intro hsg hsh)
  clear hc hs ha hw hw' hxs hxs' hi0 hz0 hz1 hz2 hsg hsh
  rw [hnp]
  have hbx := boxes3 w #[.slice Ac f.code.length cc, .slice As f.secret.length cs, .int .i64 f.params, .slice Av f.arrays.length cv] #[.slice Aw g.words.length cw, .slice Ax g.arrays.length cx] #[.slice Bw h.words.length dw, .slice Bx h.arrays.length dx] 26 45 45
  have sA : w.heap.size + 1 + 1 + 1 = (((w.alloc (.cells #[.slice Ac f.code.length cc, .slice As f.secret.length cs, .int .i64 f.params, .slice Av f.arrays.length cv] 26)).alloc (.cells #[.slice Aw g.words.length cw, .slice Ax g.arrays.length cx] 45)).alloc (.cells #[.slice Bw h.words.length dw, .slice Bx h.arrays.length dx] 45)).heap.size := by simp
  have bA : Below w.heap.size w (((w.alloc (.cells #[.slice Ac f.code.length cc, .slice As f.secret.length cs, .int .i64 f.params, .slice Av f.arrays.length cv] 26)).alloc (.cells #[.slice Aw g.words.length cw, .slice Ax g.arrays.length cx] 45)).alloc (.cells #[.slice Bw h.words.length dw, .slice Bx h.arrays.length dx] 45)) := by (repeat' (first | (with_reducible exact Below.refl _ _) | (with_reducible assumption) | (with_reducible refine Below.alloc ?_ ?_ _) | (with_reducible refine below_drewN ?_ _) | (with_reducible refine Below.drew ?_) | (with_reducible refine Below.setCell ?_ ?_ _) | (with_reducible refine Below.trans ?_ (Below.mono (by with_reducible assumption) ?_)) | go_size))
  rw [hnp] at hbx sA bA
  clear hnp
  go_enter Try.func44, Try.ntmps44
  go_upto_region 1 with fail
  obtain ⟨wA, hwA⟩ : ∃ wA, (((w.alloc (.cells #[.slice Ac f.code.length cc, .slice As f.secret.length cs, .int .i64 (np : Int), .slice Av f.arrays.length cv] 26)).alloc (.cells #[.slice Aw g.words.length cw, .slice Ax g.arrays.length cx] 45)).alloc (.cells #[.slice Bw h.words.length dw, .slice Bx h.arrays.length dx] 45)) = wA := ⟨_, rfl⟩
  rw [hwA] at hbx sA bA
  (try rw [hwA])
  clear hwA
  obtain ⟨hb0, hb1, hb2⟩ := hbx
  have z0 : w.heap.size < wA.heap.size := by omega
  have z1 : w.heap.size + 1 < wA.heap.size := by omega
  have z2 : w.heap.size + 1 + 1 < wA.heap.size := by omega
  have f1 : wA.cell? ⟨w.heap.size, 1, none⟩ = some (.slice As f.secret.length cs) := hb0 1 _ rfl
  have f2 : wA.cell? ⟨w.heap.size, 2, none⟩ = some (.int .i64 np) := hb0 2 _ rfl
  have f3 : wA.cell? ⟨w.heap.size, 3, none⟩ = some (.slice Av f.arrays.length cv) := hb0 3 _ rfl
  have ldg : ∀ u, Below wA.heap.size wA u → (Go.Instr.loadAt 45 (.pointer (some ⟨w.heap.size + 1, 0, none⟩))).run Try.prog u = .ok (.agg #[.slice Aw g.words.length cw, .slice Ax g.arrays.length cx]) u := fun u hu => load_box Try.underlying45 (by kernel_rfl) rfl (by kernel_rfl) hb1 z1 hu
  have ldh : ∀ u, Below wA.heap.size wA u → (Go.Instr.loadAt 45 (.pointer (some ⟨w.heap.size + 1 + 1, 0, none⟩))).run Try.prog u = .ok (.agg #[.slice Bw h.words.length dw, .slice Bx h.arrays.length dx]) u := fun u hu => load_box Try.underlying45 (by kernel_rfl) rfl (by kernel_rfl) hb2 z2 hu
  clear hb0 hb1 hb2
  have SA := Lib.hid sA
  have BA := Lib.hid bA
  clear sA bA
  go_wp2_with fail
  have m0 : (wA.alloc (.cells #[.slice none 0 0, .slice Av f.arrays.length cv, .slice none 0 0] 49)).cell? ⟨wA.heap.size, 0, none⟩ = some (.slice none 0 0) := by go_simp
  have m1 : (wA.alloc (.cells #[.slice none 0 0, .slice Av f.arrays.length cv, .slice none 0 0] 49)).cell? ⟨wA.heap.size, 1, none⟩ = some (.slice Av f.arrays.length cv) := by go_simp
  have m2 : (wA.alloc (.cells #[.slice none 0 0, .slice Av f.arrays.length cv, .slice none 0 0] 49)).cell? ⟨wA.heap.size, 2, none⟩ = some (.slice none 0 0) := by go_simp
  have mf : (wA.alloc (.cells #[.slice none 0 0, .slice Av f.arrays.length cv, .slice none 0 0] 49)).frozen? ⟨wA.heap.size, 0, none⟩ = false := by go_simp
  have sF : (wA.alloc (.cells #[.slice none 0 0, .slice Av f.arrays.length cv, .slice none 0 0] 49)).heap.size = wA.heap.size + 1 := by simp
  have bF : Below wA.heap.size wA (wA.alloc (.cells #[.slice none 0 0, .slice Av f.arrays.length cv, .slice none 0 0] 49)) := by (repeat' (first | (with_reducible exact Below.refl _ _) | (with_reducible assumption) | (with_reducible refine Below.alloc ?_ ?_ _) | (with_reducible refine below_drewN ?_ _) | (with_reducible refine Below.drew ?_) | (with_reducible refine Below.setCell ?_ ?_ _) | (with_reducible refine Below.trans ?_ (Below.mono (by with_reducible assumption) ?_)) | go_size))
  go_loopw [14] (fun u wr => ∃ (j : Nat) (vP : Value), j ≤ np ∧ u = .int .i64 j ∧ wr.cell? ⟨wA.heap.size, 0, none⟩ = some vP ∧ wr.cell? ⟨wA.heap.size, 1, none⟩ = some (.slice Av f.arrays.length cv) ∧ wr.cell? ⟨wA.heap.size, 2, none⟩ = some (.slice none 0 0) ∧
      wr.frozen? ⟨wA.heap.size, 0, none⟩ = false ∧ Hid (wr.ownsRow (wA.heap.size + 1) 88 3 vP j ((Ev.parVars f j).flatMap cellsV)) ∧ Below wA.heap.size wA wr ∧ wA.heap.size < wr.heap.size) (fun u _ => np - (intOf u).toNat)
  case atStart => exact ⟨0, _, by omega, rfl, m0, m1, m2, mf, World.ownsRow_nil _ _ _ _, bF, by omega⟩
  case round =>
    clear m0 m1 m2 mf sF bF
    obtain ⟨j, vP, hj, rfl, m0, m1, m2, mf, HO, hB, zm⟩ := hrel
    obtain ⟨AP, cP, rfl, _, hcP⟩ := SL.form (show SL wr wr.heap.size 3 vP j ((Ev.parVars f j).flatMap cellsV) from SL.of_own HO.out)
    have sB := hB.size
    by_cases hlt : j < np
    · obtain ⟨bs, os, cs', hv, hbs, _, _, hcs⟩ := RBools.row (SL.at_ HS.out BA.out (Nat.le_refl _)) (by omega)
      injection hv with hA _ hcr
      subst hA hcr
      have cj := (hB.cell (p := ⟨bs, os + j, none⟩) hbs).trans (hcs j (by omega))
      have f1w := (hB.cell (p := ⟨w.heap.size, 1, none⟩) z0).trans f1
      have y0 : w.heap.size < wA.heap.size + 1 := by omega
      have yb : bs < wA.heap.size + 1 := by omega
      have hjl : j < f.secret.length := by omega
      have hst : (Ev.parVars f (j + 1)).flatMap cellsV = (Ev.parVars f j).flatMap cellsV ++ [Value.string .empty, .bool (Ev.sec f.secret j), .int .i64 0] := by rw [Ev.parVars_step, List.flatMap_append]; rfl
      have HST := Lib.hid hst
      clear hst
      have hc3 : ∀ k u, [Value.string .empty, .bool (Ev.sec f.secret j), .int .i64 0][k]? = some u → (wr.alloc (.cells #[.string .empty, .bool (Ev.sec f.secret j), .int .i64 0] 88)).drew.cell? ((⟨wr.heap.size, 0, none⟩ : Addr).add k) = some u := fun k u hu => cell_three_new wr _ _ _ 88 k u hu
      have HC3 := Lib.hid hc3
      clear hc3 hcs
      generalize Ev.sec f.secret (j : Int) = sj at *
      have HB := Lib.hid hB
      clear hB
      go_upto_region 5 with fail
      refine wp_region_last (fun w' => w'.cell? ⟨wA.heap.size, 0, none⟩ = some (.slice AP j cP) ∧ Below (wA.heap.size + 1) wr w') [(0, true), (1, true), (2, true), (3, true), (4, true), (5, true), (6, true), (7, true), (8, false), (9, false), (10, true)] 11 (by kernel_rfl) (by kernel_rfl) (by kernel_rfl) (by kernel_rfl) (by kernel_rfl) (by decide) (⟨m0, Below.drew (Below.refl _ _)⟩) ?_
      simp only [List.pop_toArray, List.dropLast_cons_cons, List.dropLast_singleton]
      apply trail_light
      case hi => (simp only [List.getElem?_toArray, List.getElem?_cons_zero, List.getElem?_cons_succ]; exact rfl)
      case hl => first | exact light_no (by rfl) | (apply light_plain rfl; intro w9 hS9; obtain ⟨hS1, hS2⟩ := hS9; obtain ⟨kc9, kf9, s9⟩ := bfacts hS2; go_simp; try rfl) | (apply light_yes (by rfl); intro w9 hS9; obtain ⟨hS1, hS2⟩ := hS9; obtain ⟨kc9, kf9, s9⟩ := bfacts hS2; go_simp; try rfl)
      case hQ => exact fun _ _ _ h => h
      (try simp only [Act.put, List.setIfInBounds_toArray, List.set_cons_zero, List.set_cons_succ])
      apply trail_light
      case hi => (simp only [List.getElem?_toArray, List.getElem?_cons_zero, List.getElem?_cons_succ]; exact rfl)
      case hl => first | exact light_no (by rfl) | (apply light_plain rfl; intro w9 hS9; obtain ⟨hS1, hS2⟩ := hS9; obtain ⟨kc9, kf9, s9⟩ := bfacts hS2; go_simp; try rfl) | (apply light_yes (by rfl); intro w9 hS9; obtain ⟨hS1, hS2⟩ := hS9; obtain ⟨kc9, kf9, s9⟩ := bfacts hS2; go_simp; try rfl)
      case hQ => exact fun _ _ _ h => h
      (try simp only [Act.put, List.setIfInBounds_toArray, List.set_cons_zero, List.set_cons_succ])
      apply trail_light
      case hi => (simp only [List.getElem?_toArray, List.getElem?_cons_zero, List.getElem?_cons_succ]; exact rfl)
      case hl => first | exact light_no (by rfl) | (apply light_plain rfl; intro w9 hS9; obtain ⟨hS1, hS2⟩ := hS9; obtain ⟨kc9, kf9, s9⟩ := bfacts hS2; go_simp; try rfl) | (apply light_yes (by rfl); intro w9 hS9; obtain ⟨hS1, hS2⟩ := hS9; obtain ⟨kc9, kf9, s9⟩ := bfacts hS2; go_simp; try rfl)
      case hQ => exact fun _ _ _ h => h
      (try simp only [Act.put, List.setIfInBounds_toArray, List.set_cons_zero, List.set_cons_succ])
      apply trail_light
      case hi => (simp only [List.getElem?_toArray, List.getElem?_cons_zero, List.getElem?_cons_succ]; exact rfl)
      case hl => first | exact light_no (by rfl) | (apply light_plain rfl; intro w9 hS9; obtain ⟨hS1, hS2⟩ := hS9; obtain ⟨kc9, kf9, s9⟩ := bfacts hS2; go_simp; try rfl) | (apply light_yes (by rfl); intro w9 hS9; obtain ⟨hS1, hS2⟩ := hS9; obtain ⟨kc9, kf9, s9⟩ := bfacts hS2; go_simp; try rfl)
      case hQ => exact fun _ _ _ h => h
      (try simp only [Act.put, List.setIfInBounds_toArray, List.set_cons_zero, List.set_cons_succ])
      apply trail_light
      case hi => (simp only [List.getElem?_toArray, List.getElem?_cons_zero, List.getElem?_cons_succ]; exact rfl)
      case hl => first | exact light_no (by rfl) | (apply light_plain rfl; intro w9 hS9; skip; go_simp; try rfl) | (apply light_yes (by rfl); intro w9 hS9; skip; go_simp; try rfl)
      case hQ => exact fun _ _ _ h => h
      (try simp only [Act.put, List.setIfInBounds_toArray, List.set_cons_zero, List.set_cons_succ])
      apply trail_light
      case hi => (simp only [List.getElem?_toArray, List.getElem?_cons_zero, List.getElem?_cons_succ]; exact rfl)
      case hl => first | exact light_no (by rfl) | (apply light_plain rfl; intro w9 hS9; obtain ⟨hS1, hS2⟩ := hS9; obtain ⟨kc9, kf9, s9⟩ := bfacts hS2; go_simp; try rfl) | (apply light_yes (by rfl); intro w9 hS9; obtain ⟨hS1, hS2⟩ := hS9; obtain ⟨kc9, kf9, s9⟩ := bfacts hS2; go_simp; try rfl)
      case hQ => exact fun _ _ _ h => h
      (try simp only [Act.put, List.setIfInBounds_toArray, List.set_cons_zero, List.set_cons_succ])
      apply trail_light
      case hi => (simp only [List.getElem?_toArray, List.getElem?_cons_zero, List.getElem?_cons_succ]; exact rfl)
      case hl => first | exact light_no (by rfl) | (apply light_plain rfl; intro w9 hS9; obtain ⟨hS1, hS2⟩ := hS9; obtain ⟨kc9, kf9, s9⟩ := bfacts hS2; go_simp; try rfl) | (apply light_yes (by rfl); intro w9 hS9; obtain ⟨hS1, hS2⟩ := hS9; obtain ⟨kc9, kf9, s9⟩ := bfacts hS2; go_simp; try rfl)
      case hQ => exact fun _ _ _ h => h
      (try simp only [Act.put, List.setIfInBounds_toArray, List.set_cons_zero, List.set_cons_succ])
      apply trail_light
      case hi => (simp only [List.getElem?_toArray, List.getElem?_cons_zero, List.getElem?_cons_succ]; exact rfl)
      case hl => first | exact light_no (by rfl) | (apply light_plain rfl; intro w9 hS9; skip; go_simp; try rfl) | (apply light_yes (by rfl); intro w9 hS9; skip; go_simp; try rfl)
      case hQ => exact fun _ _ _ h => h
      (try simp only [Act.put, List.setIfInBounds_toArray, List.set_cons_zero, List.set_cons_succ])
      apply trail_heavy
      case hi => (simp only [List.getElem?_toArray, List.getElem?_cons_zero, List.getElem?_cons_succ]; exact rfl)
      go_wp2_with (first | (at_builtin; refine wpList_append_own_at _ rfl (.tmp 18) (.tmp 25) _ rfl (wA.heap.size + 1) 88 i0 (.agg #[.string .empty, .bool false, .int .i64 0]) 3 32 Try.underlying24 II.out.1 II.out.2.1 II.out.2.2.1 II.out.2.2.2 rfl (by decide) _ _ _ rfl (owns_below HO.out (by (repeat' (first | (with_reducible exact Below.refl _ _) | (with_reducible assumption) | (with_reducible refine Below.alloc ?_ ?_ _) | (with_reducible refine below_drewN ?_ _) | (with_reducible refine Below.drew ?_) | (with_reducible refine Below.setCell ?_ ?_ _) | (with_reducible refine Below.trans ?_ (Below.mono (by with_reducible assumption) ?_)) | go_size)))) ⟨wr.heap.size, 0, none⟩ 1 1 [.string .empty, .bool sj, .int .i64 0] rfl rfl HC3.out (fun x hx => by simp at hx; rcases hx with rfl | rfl | rfl <;> rfl) (by unfold maxLen; omega) (by omega) (by simp; omega) ?_; intro v7 w7 hown7 hg7 hn7 hat7; have hS7 : w7.cell? ⟨wA.heap.size, 0, none⟩ = some (.slice AP j cP) ∧ Below (wA.heap.size + 1) wr w7 := ⟨hg7.cell (show (wr.alloc (.cells #[.string .empty, .bool sj, .int .i64 0] 88)).drew.cell? ⟨wA.heap.size, 0, none⟩ = some (.slice AP j cP) by go_simp) (fun e => absurd (HO.out.lt wA.heap.size e.symm).1 (by omega)), (show Below (wA.heap.size + 1) wr (wr.alloc (.cells #[.string .empty, .bool sj, .int .i64 0] 88)).drew by (repeat' (first | (with_reducible exact Below.refl _ _) | (with_reducible assumption) | (with_reducible refine Below.alloc ?_ ?_ _) | (with_reducible refine below_drewN ?_ _) | (with_reducible refine Below.drew ?_) | (with_reducible refine Below.setCell ?_ ?_ _) | (with_reducible refine Below.trans ?_ (Below.mono (by with_reducible assumption) ?_)) | go_size))).grown hg7 (by simp; omega) (fun q hq => (HO.out.lt q hq).1)⟩) | fail)
      refine ⟨by first | exact hS7 | exact ⟨by go_simp, by (repeat' (first | (with_reducible exact Below.refl _ _) | (with_reducible assumption) | (with_reducible refine Below.alloc ?_ ?_ _) | (with_reducible refine below_drewN ?_ _) | (with_reducible refine Below.drew ?_) | (with_reducible refine Below.setCell ?_ ?_ _) | (with_reducible refine Below.trans ?_ (Below.mono (by with_reducible assumption) ?_)) | go_size))⟩, ?_⟩
      apply trail_heavy
      case hi => (simp only [List.getElem?_toArray, List.getElem?_cons_zero, List.getElem?_cons_succ]; exact rfl)
      go_wp2_with (first | (at_builtin; refine wpList_append_own_at _ rfl (.tmp 18) (.tmp 25) _ rfl (wA.heap.size + 1) 88 i0 (.agg #[.string .empty, .bool false, .int .i64 0]) 3 32 Try.underlying24 II.out.1 II.out.2.1 II.out.2.2.1 II.out.2.2.2 rfl (by decide) _ _ _ rfl (owns_below HO.out (by (repeat' (first | (with_reducible exact Below.refl _ _) | (with_reducible assumption) | (with_reducible refine Below.alloc ?_ ?_ _) | (with_reducible refine below_drewN ?_ _) | (with_reducible refine Below.drew ?_) | (with_reducible refine Below.setCell ?_ ?_ _) | (with_reducible refine Below.trans ?_ (Below.mono (by with_reducible assumption) ?_)) | go_size)))) ⟨wr.heap.size, 0, none⟩ 1 1 [.string .empty, .bool sj, .int .i64 0] rfl rfl HC3.out (fun x hx => by simp at hx; rcases hx with rfl | rfl | rfl <;> rfl) (by unfold maxLen; omega) (by omega) (by simp; omega) ?_; intro v7 w7 hown7 hg7 hn7 hat7; have hS7 : w7.cell? ⟨wA.heap.size, 0, none⟩ = some (.slice AP j cP) ∧ Below (wA.heap.size + 1) wr w7 := ⟨hg7.cell (show (wr.alloc (.cells #[.string .empty, .bool sj, .int .i64 0] 88)).drew.cell? ⟨wA.heap.size, 0, none⟩ = some (.slice AP j cP) by go_simp) (fun e => absurd (HO.out.lt wA.heap.size e.symm).1 (by omega)), (show Below (wA.heap.size + 1) wr (wr.alloc (.cells #[.string .empty, .bool sj, .int .i64 0] 88)).drew by (repeat' (first | (with_reducible exact Below.refl _ _) | (with_reducible assumption) | (with_reducible refine Below.alloc ?_ ?_ _) | (with_reducible refine below_drewN ?_ _) | (with_reducible refine Below.drew ?_) | (with_reducible refine Below.setCell ?_ ?_ _) | (with_reducible refine Below.trans ?_ (Below.mono (by with_reducible assumption) ?_)) | go_size))).grown hg7 (by simp; omega) (fun q hq => (HO.out.lt q hq).1)⟩) | fail)
      refine ⟨by first | exact hS7 | exact ⟨by go_simp, by (repeat' (first | (with_reducible exact Below.refl _ _) | (with_reducible assumption) | (with_reducible refine Below.alloc ?_ ?_ _) | (with_reducible refine below_drewN ?_ _) | (with_reducible refine Below.drew ?_) | (with_reducible refine Below.setCell ?_ ?_ _) | (with_reducible refine Below.trans ?_ (Below.mono (by with_reducible assumption) ?_)) | go_size))⟩, ?_⟩
      apply trail_light
      case hi => (simp only [List.getElem?_toArray, List.getElem?_cons_zero, List.getElem?_cons_succ]; exact rfl)
      case hl => first | exact light_no (by rfl) | (apply light_plain rfl; intro w9 hS9; obtain ⟨hS1, hS2⟩ := hS9; obtain ⟨kc9, kf9, s9⟩ := bfacts hS2; go_simp; try rfl) | (apply light_yes (by rfl); intro w9 hS9; obtain ⟨hS1, hS2⟩ := hS9; obtain ⟨kc9, kf9, s9⟩ := bfacts hS2; go_simp; try rfl)
      case hQ => exact fun _ _ _ h => h
      (try simp only [Act.put, List.setIfInBounds_toArray, List.set_cons_zero, List.set_cons_succ])
      refine trail_nil ?_
      refine last_at rfl ?_
      (try dsimp only)
      obtain ⟨A7, c7, rfl, _, _⟩ := SL.form (SL.of_own hown7)
      have n0 := hS7.1
      have n1 := (hS7.2.cell (p := ⟨wA.heap.size, 1, none⟩) (by show wA.heap.size < _; omega)).trans m1
      have n2 := (hS7.2.cell (p := ⟨wA.heap.size, 2, none⟩) (by show wA.heap.size < _; omega)).trans m2
      have nf := (hS7.2.frozen (p := ⟨wA.heap.size, 0, none⟩) (by show wA.heap.size < _; omega)).trans mf
      have s7 := hS7.2.size
      have hO7 : w7.ownsRow (wA.heap.size + 1) 88 3 (.slice A7 (j + 1) c7) (j + 1) ((Ev.parVars f (j + 1)).flatMap cellsV) := by
        rw [HST.out]; exact hown7
      have hne : ∀ q, (Value.slice A7 (j + 1) c7).ownBlock = some q → q ≠ wA.heap.size := fun q hq => by have := (hO7.lt q hq).1; omega
      have HO7 := Lib.hid hO7
      have HNE := Lib.hid hne
      have HB7 : Hid (Below wA.heap.size wA w7) := HB.out.trans (hS7.2.mono (by omega))
      have z7 : wA.heap.size < w7.heap.size := by omega
      clear hO7 hne hown7 hg7 hn7 hat7 hS7 m0 m1 m2 mf cj f1w HST HC3 HO HB
      go_wp2_with fail
      go_roundw
      case rel => exact ⟨j + 1, _, by omega, by go_num, by go_simp, by go_simp, by go_simp, by go_simp, ownsRow_setCell_other HO7.out (fun e => HNE.out _ e rfl) _, HB7.out.setCell (Nat.le_refl _) _, by simpa using z7⟩
      case measure => simp [intOf]; omega
    · have hje : j = np := by omega
      subst hje
      have HP : Hid (RVars wr wr.heap.size (.slice AP j cP) (Ev.parVars f j)) := by
        have h1 := SL.of_own HO.out
        show SL wr wr.heap.size 3 (.slice AP j cP) (Ev.parVars f j).length _
        rw [Ev.parVars_len]
        exact h1
      have bw : Below w.heap.size w wr := BA.out.trans (hB.mono (by have := SA.out; omega))
      have HC := Lib.hid (alike_any (Ev.parVars f j) f.arrays g h _ _ (.slice none 0 0) _ _ wr HP.out (SL.at_ HA.out bw (Nat.le_refl _)) ⟨_, _, _, rfl⟩ (HG.out.at2 bw (Nat.le_refl _)) (HH.out.at2 bw (Nat.le_refl _)) HSUM.out.1 HSUM.out.2)
      have BW := Lib.hid bw
      clear bw
      go_wp2_with (first | (refine wpList_load_box rfl 45 _ rfl rfl (ldg _ hB) ?_) | (refine wpList_load_box rfl 45 _ rfl rfl (ldh _ hB) ?_) | (go_at_call 74; refine HC.out.mono ?_; rintro e w5 ⟨rfl, hb5⟩))
      go_ret
      exact ⟨rfl, by have := BW.out; (repeat' (first | (with_reducible exact Below.refl _ _) | (with_reducible assumption) | (with_reducible refine Below.alloc ?_ ?_ _) | (with_reducible refine below_drewN ?_ _) | (with_reducible refine Below.drew ?_) | (with_reducible refine Below.setCell ?_ ?_ _) | (with_reducible refine Below.trans ?_ (Below.mono (by with_reducible assumption) ?_)) | go_size))⟩
end Go.Proofs.Ytljcgcllhcdleaa
/- What 'alike' says, in plain words. -/
namespace Ev
theorem fits_sizes {np : Nat} {ay : List Vr} {g : Given} (h : fits np ay g = 0) : ∀ b, b < g.arrays.length → ((g.arrays.getD b []).length : Int) = (ay.getD b default).size := by
  unfold fits at h
  split at h
  · exact absurd h (by decide)
  split at h
  · exact absurd h (by decide)
  rename_i h2
  have h3 : sizesOk g.arrays ay = true := by simpa using h2
  unfold sizesOk at h3
  rw [List.all_eq_true] at h3
  intro b hb
  simpa using h3 b (List.mem_range.2 hb)
theorem fits_words {f : Flat} {g : Given} {np : Nat} (h : fits np f.arrays g = 0) : (∀ x ∈ g.words, Wd x) ∧ ∀ a ∈ g.arrays, ∀ x ∈ a, Wd x := by
  unfold fits at h
  split at h
  · exact absurd h (by decide)
  split at h
  · exact absurd h (by decide)
  split at h
  case isFalse => exact absurd h (by decide)
  rename_i h2
  rw [List.all_eq_true] at h2
  have hw : ∀ x ∈ g.words ++ g.arrays.flatten, Wd x := fun x hx => by
    have := h2 x hx
    unfold isWord at this
    simp at this
    exact this
  refine ⟨fun x hx => hw x (by simp [hx]), fun a ha x hx => hw x ?_⟩
  rw [List.mem_append, List.mem_flatten]
  exact .inr ⟨a, ha, hx⟩
theorem parVars_at (f : Flat) {n p : Nat} (h : p < n) : ((parVars f n).getD p default).secret = f.secret.getD p false := by
  unfold parVars
  rw [List.getD_eq_getElem?_getD, List.getElem?_map, List.getElem?_range h]
  rfl
theorem alike_f {f : Flat} {g h : Given} {np : Nat} (hnp : f.params = (np : Int)) (ha : alike (parVars f np) f.arrays g h = true) : AlikeF f g h ∧ fits np f.arrays g = 0 ∧ fits np f.arrays h = 0 := by
  unfold alike at ha
  rw [parVars_len] at ha
  simp only [Bool.and_eq_true, decide_eq_true_eq] at ha
  obtain ⟨⟨⟨h1, h2⟩, h3⟩, h4⟩ := ha
  obtain ⟨l1, l2⟩ := fits_lens h1
  obtain ⟨l3, l4⟩ := fits_lens h2
  unfold alikeW at h3
  unfold alikeA at h4
  rw [List.all_eq_true] at h3 h4
  refine ⟨⟨by omega, by omega, fun p hp hs => ?_, fun b => ?_, fun b hs => ?_⟩, h1, h2⟩
  · have hp' : p < np := by omega
    have := h3 p (List.mem_range.2 hp')
    rw [parVars_at f hp', hs] at this
    simpa using this
  · by_cases hb : b < f.arrays.length
    · have e1 := fits_sizes h1 b (by omega)
      have e2 := fits_sizes h2 b (by omega)
      omega
    · rw [List.getD_eq_getElem?_getD, List.getD_eq_getElem?_getD, List.getElem?_eq_none (by omega), List.getElem?_eq_none (by omega)]
  · by_cases hb : b < f.arrays.length
    · have := h4 b (List.mem_range.2 hb)
      rw [hs] at this
      simpa using this
    · rw [List.getD_eq_getElem?_getD, List.getD_eq_getElem?_getD, List.getElem?_eq_none (by omega), List.getElem?_eq_none (by omega)]
end Ev
