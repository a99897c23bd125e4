import Derived.Test.YtpbflgemhcaooaaDoorPt33
import Derived.Test.YtpbflgemhcaooaaDoorPt34
import Derived.Test.YtpbflgemhcaooaaDoorPt37
import Derived.Test.YtpbflgemhcaooaaDoorPt39
import Derived.Test.YtpbflgemhcaooaaDoorPt27
import Derived.Test.YtpbflgemhcaooaaDoorPt11
import Derived.Test.YtpbflgemhcaooaaDoorPt12
import Derived.Test.YtpbflgemhcaooaaDoorPt9
import Derived.Test.YtpbflgemhcaooaaDoorCards
import Derived.Test.YtpbflgemhcaooaaDoorTie
import Derived.Stop.LaidErr
import Derived.Lib.LaidTab
import Derived.LaidMore
import Derived.MakeChecks
import Derived.ProofKit
import Derived.OpenShut
import Derived.JoinedCond
import Derived.SizedLaws
import Derived.Handed
import Derived.Shelf.Vars
import Derived.Deep.Slices
import Derived.Deep.Fields
import Derived.ChangeSame
import Derived.Test.YtpbflgemhcaooaaDoorPt8
import Derived.Test.YtpbflgemhcaooaaDoorProg
/- EvalTells: its walk. -/
namespace Ev
theorem ok_small {s : List UInt8} (h : nameOk s = true) : s.length ≤ 6 := by
  unfold nameOk at h
  simp only [Bool.and_eq_true, decide_eq_true_eq] at h
  omega
end Ev
namespace Go.Proofs.YtpbflgemhcaooaaDoor
open Go.RowKit
set_option linter.unusedSimpArgs false
set_option linter.unusedVariables false
/-- a slice of slices that reads so -/
def Hv.rl (l : List (List Int)) : Hv where
  R v w := RLists w w.heap.size v l
  ok v := ∃ A c, v = .slice A l.length c
  imp v w h := by obtain ⟨_, _, hs, _⟩ := h; obtain ⟨A, c, e, _⟩ := SL.form hs; exact ⟨A, c, e⟩
  dum := ⟨_, none, 0, rfl⟩
  stay v w w' hb h := h.at_ hb (Nat.le_refl _)
set_option maxRecDepth 8000 in
set_option maxHeartbeats 6400000 in
theorem evalTells_walk (s : List UInt8) (g : Ev.Given) (vg : Value) (w : World) (hv : Vars w) (hs : s.length ≤ 9223372036854775807) (hg : RGiven w w.heap.size vg g) (hn : g.words.length + g.arrays.length + g.arrays.flatten.length ≤ 1048576) :
    Calls Tryd.prog 11 #[.string ⟨(s).toArray⟩, vg] w fun e w' => e = .returned (.bool true) ∧ Below w.heap.size w w' := by
  have HV := Lib.hid hv
  have HG := Lib.hid hg
  have CP := Lib.hid (fun u hu => refParseFn s u hu hs)
  have HSM := Lib.hid (Ev.parse_sm s)
  have HWF := Lib.hid (Ev.parse_wf s)
  obtain ⟨er, her⟩ : ∃ er, (Ev.parseW s).2 = er := ⟨_, rfl⟩
  rw [her] at CP HWF
  generalize (Ev.parseW s).1 = f at *
  obtain ⟨vw, vx, rfl, hw, hx⟩ := hg
  obtain ⟨Aw, cw, rfl, _, _⟩ := SL.form hw
  obtain ⟨vs0, hxl, hxs, hxe⟩ := hx
  obtain ⟨Ax, cx, rfl, _, _⟩ := SL.form hxs
  have HNN := Lib.hid hn
  clear hv her hw hxl hxs hxe hn
  have bG : Below w.heap.size w (w.alloc (.cells #[.slice Aw g.words.length cw, .slice Ax g.arrays.length cx] 49)) := (Below.refl _ _).alloc (Nat.le_refl _) _
  have rG := heap_alloc_new w (.cells #[.slice Aw g.words.length cw, .slice Ax g.arrays.length cx] 49)
  obtain ⟨wA, hwA⟩ : ∃ wA, w.alloc (.cells #[.slice Aw g.words.length cw, .slice Ax g.arrays.length cx] 49) = wA := ⟨_, rfl⟩
  have HWA := Lib.hid hwA
  rw [hwA] at bG rG
  have B1 := Lib.hid bG
  have G1 := Lib.hid rG
  have HV1 := Lib.hid (HV.out.stays bG)
  clear hwA bG rG
  go_enter Tryd.func11, Tryd.ntmps11
  go_upto_region 1 with fail
  rw [HWA.out]
  clear HWA
  go_upto_region 2 with (go_at_call 14; refine (CP.out _ HV1.out).mono ?_; rintro e w2 ⟨v1, v2, v3, rfl, hr, hb2⟩; obtain ⟨D1, m1, rfl, hq1, hq2⟩ := SL.form hr.1; obtain ⟨D2, m2, rfl, hq3, hq4⟩ := SL.form hr.2.1; obtain ⟨D3, m3, rfl⟩ := hr.2.2.1.slice; clear hq1 hq2 hq3 hq4)
  have b3 : Below w2.heap.size w2 (w2.alloc (.cells #[.slice D1 f.params.length m1, .slice D2 f.arrays.length m2, .slice D3 f.body.length m3] 25)) := (Below.refl _ _).alloc (Nat.le_refl _) _
  have r3 := heap_alloc_new w2 (.cells #[.slice D1 f.params.length m1, .slice D2 f.arrays.length m2, .slice D3 f.body.length m3] 25)
  have HR := Lib.hid ((hr.loose5 (fun k hk => hk.2)).on5 b3)
  have hb23 := hb2.trans (b3.mono hb2.size)
  have HB := Lib.hid (B1.out.trans (hb23.mono B1.out.size))
  have G3 := Lib.hid ((hb23.block _ (Array.getElem?_eq_some_iff.1 G1.out).1).trans G1.out)
  clear hr hb2 b3 CP HV HV1 hb23 G1 B1
  generalize w2.alloc (.cells #[.slice D1 f.params.length m1, .slice D2 f.arrays.length m2, .slice D3 f.body.length m3] 25) = w3 at *
  generalize w2.heap.size = fb at *
  by_cases he : er = 0
  case neg =>
    have ge : (er != 0) = true := bne_iff_ne.2 he
    clear he
    go_wp2_with fail
    go_ret
    exact ⟨rfl, HB.out⟩
  case pos =>
  have HWB := Lib.hid (HWF.out he)
  subst he
  have R3 := Lib.hid r3
  have k0 := cell_of_block r3 0
  have k1 := cell_of_block r3 1
  have k2 := cell_of_block r3 2
  have g0 := cell_of_block G3.out 0
  have g1 := cell_of_block G3.out 1
  simp only [List.getElem?_toArray, List.getElem?_cons_zero, List.getElem?_cons_succ] at k0 k1 k2 g0 g1
  have zf := (Array.getElem?_eq_some_iff.1 r3).1
  have zg := (Array.getElem?_eq_some_iff.1 G3.out).1
  have CK := Lib.hid (refCheck4 f _ _ _ w3 HR.out HWB.out (by have := HSM.out.params; omega) (by have := HSM.out.arrays; omega))
  clear r3 HWF
  by_cases hc : Ev.checkC f = 0
  case neg =>
    have gc : (Ev.checkC f != 0) = true := bne_iff_ne.2 hc
    generalize Ev.checkC f = ce at *
    clear hc
    go_wp2_with (go_at_call 16; refine CK.out.mono ?_; rintro e w4 ⟨rfl, hb4⟩)
    go_ret
    exact ⟨rfl, HB.out.trans (hb4.mono HB.out.size)⟩
  case pos =>
  have HRF := Lib.hid (Ev.right_of HWB.out hc)
  have HDA := Lib.hid (Ev.check_dist hc)
  rw [hc] at CK
  clear hc
  go_upto_region 4 with (go_at_call 16; refine CK.out.mono ?_; rintro e w4 ⟨rfl, hb4⟩)
  replace k0 := (hb4.cell (p := ⟨fb, 0, none⟩) zf).trans k0
  replace k1 := (hb4.cell (p := ⟨fb, 1, none⟩) zf).trans k1
  replace k2 := (hb4.cell (p := ⟨fb, 2, none⟩) zf).trans k2
  replace g0 := (hb4.cell (p := ⟨w.heap.size, 0, none⟩) zg).trans g0
  replace g1 := (hb4.cell (p := ⟨w.heap.size, 1, none⟩) zg).trans g1
  have zf4 := Nat.lt_of_lt_of_le zf hb4.size
  have zg4 := Nat.lt_of_lt_of_le zg hb4.size
  have HR4 := Lib.hid (HR.out.on5 hb4)
  have HB4 := Lib.hid (HB.out.trans (hb4.mono HB.out.size))
  clear hb4 CK HR HB R3 G3 zf zg
  have C1 := Lib.hid (fun u (hu : Below w4.heap.size w4 u) => evFits_any (Ev.vrs f.params) (Ev.vrs f.arrays) g _ _ (.slice D3 f.body.length m3) _ u (HR4.out.1.on hu).vrs (HR4.out.2.1.on hu).vrs ⟨D3, f.body.length, m3, rfl⟩ (HG.out.at2 (HB4.out.trans (hu.mono HB4.out.size)) (Nat.le_refl _)) (by have := HNN.out; omega))
  have C2 := Lib.hid (fun u (hu : Below w4.heap.size w4 u) => fits_any (Ev.vrs f.params) (Ev.vrs f.arrays) g _ _ (.slice D3 f.body.length m3) _ u (HR4.out.1.on hu).vrs (HR4.out.2.1.on hu).vrs ⟨D3, f.body.length, m3, rfl⟩ (HG.out.at2 (HB4.out.trans (hu.mono HB4.out.size)) (Nat.le_refl _)) (by have := HNN.out; omega))
  rw [vrs_len] at C1 C2
  generalize Ev.fits f.params.length (Ev.vrs f.arrays) g = fe at *
  have HXL := Lib.hid (show RLists w4 w4.heap.size (.slice Ax g.arrays.length cx) g.arrays by
    obtain ⟨a1, a2, e1, e2, e3⟩ := HG.out.at2 HB4.out (Nat.le_refl _)
    injection e1 with e1
    have e4 : Value.slice Ax g.arrays.length cx = a2 := by
      have := congrArg (fun a : Array Value => a[1]?) e1
      simpa using this
    rw [e4]
    exact e3)
  have C3 := Lib.hid (fun u (hu : Below w4.heap.size w4 u) => arrays_any g.arrays (.slice Ax g.arrays.length cx) u (HXL.out.at_ hu (Nat.le_refl _)) (by have := HNN.out; omega) (fun a ha => by have := Ev.mem_flat ha; have := HNN.out; omega))
  have C4 := Lib.hid (fun u (hu : Below w4.heap.size w4 u) (v : Value) (hv : RLists u u.heap.size v g.arrays) => (by
    have h := quiet_below (sameArrays_any g.arrays g.arrays v _ u hv (HXL.out.at_ hu (Nat.le_refl _)))
    rw [decide_eq_true rfl] at h
    exact h : Calls Tryd.prog 40 #[v, .slice Ax g.arrays.length cx] u fun e w' => e = .returned (.bool true) ∧ Below u.heap.size u w'))
  refine wp_region_flock (fun k => match k with | 2 => some (Hv.is (.int .i64 fe)) | 5 => some (Hv.is (.int .i64 fe)) | 10 => some (Hv.rl g.arrays) | 13 => some (Hv.is (.bool true)) | _ => none) (by kernel_rfl) (by kernel_rfl) ?_
  apply flock_light rfl
  case h => first | exact light_no (by rfl) | ((first | apply light_plain rfl | apply light_yes (by rfl)); intro w9 hw9; obtain ⟨hb9, hh9⟩ := hw9; have hB9 : Below w4.heap.size w4 w9 := (by (repeat' first | with_reducible (first | exact Below.refl _ _ | assumption | refine Below.alloc ?_ ?_ _ | refine below_drewN ?_ _ | refine Below.drew ?_ | refine Below.setCell ?_ ?_ _ | refine Below.trans ?_ (Below.mono (by with_reducible assumption) ?_)) | go_size)); obtain ⟨kc9, kf9, s9⟩ := bfacts hb9; obtain ⟨kd9, kg9, _⟩ := bfacts hB9; skip; go_simp; try rfl)
  (try simp only [Act.put, List.setIfInBounds_toArray, List.set_cons_zero, List.set_cons_succ])
  apply flock_light rfl
  case h => first | exact light_no (by rfl) | ((first | apply light_plain rfl | apply light_yes (by rfl)); intro w9 hw9; obtain ⟨hb9, hh9⟩ := hw9; have hB9 : Below w4.heap.size w4 w9 := (by (repeat' first | with_reducible (first | exact Below.refl _ _ | assumption | refine Below.alloc ?_ ?_ _ | refine below_drewN ?_ _ | refine Below.drew ?_ | refine Below.setCell ?_ ?_ _ | refine Below.trans ?_ (Below.mono (by with_reducible assumption) ?_)) | go_size)); obtain ⟨kc9, kf9, s9⟩ := bfacts hb9; obtain ⟨kd9, kg9, _⟩ := bfacts hB9; skip; go_simp; try rfl)
  (try simp only [Act.put, List.setIfInBounds_toArray, List.set_cons_zero, List.set_cons_succ])
  refine flock_heavy _ rfl ?_ ?_
  · intro w9 hb9 hh9
    have hB9 : Below w4.heap.size w4 w9 := (by (repeat' first | with_reducible (first | exact Below.refl _ _ | assumption | refine Below.alloc ?_ ?_ _ | refine below_drewN ?_ _ | refine Below.drew ?_ | refine Below.setCell ?_ ?_ _ | refine Below.trans ?_ (Below.mono (by with_reducible assumption) ?_)) | go_size))
    obtain ⟨kc9, kf9, s9⟩ := bfacts hb9
    obtain ⟨kd9, kg9, _⟩ := bfacts hB9
    skip
    go_wp2_with (go_at_call 39; refine (C1.out _ hB9).mono ?_; rintro e w6 ⟨rfl, hb6⟩)
    refine grewTo_at (by rfl) (by (repeat' first | with_reducible (first | exact Below.refl _ _ | assumption | refine Below.alloc ?_ ?_ _ | refine below_drewN ?_ _ | refine Below.drew ?_ | refine Below.setCell ?_ ?_ _ | refine Below.trans ?_ (Below.mono (by with_reducible assumption) ?_)) | go_size)) ?_
    rfl
  intro x2 ok2
  (try simp only [Act.put, List.setIfInBounds_toArray, List.set_cons_zero, List.set_cons_succ])
  (try dsimp only [Hv.own, Hv.is, Hv.lit, Hv.box, Hv.sl] at ok2)
  first | subst ok2 | (obtain ⟨A2, c2, ok2⟩ := ok2; subst ok2) | (obtain ⟨A2, ok2⟩ := ok2; subst ok2) | skip
  apply flock_light rfl
  case h => first | exact light_no (by rfl) | ((first | apply light_plain rfl | apply light_yes (by rfl)); intro w9 hw9; obtain ⟨hb9, hh9⟩ := hw9; have hB9 : Below w4.heap.size w4 w9 := (by (repeat' first | with_reducible (first | exact Below.refl _ _ | assumption | refine Below.alloc ?_ ?_ _ | refine below_drewN ?_ _ | refine Below.drew ?_ | refine Below.setCell ?_ ?_ _ | refine Below.trans ?_ (Below.mono (by with_reducible assumption) ?_)) | go_size)); obtain ⟨kc9, kf9, s9⟩ := bfacts hb9; obtain ⟨kd9, kg9, _⟩ := bfacts hB9; skip; go_simp; try rfl)
  (try simp only [Act.put, List.setIfInBounds_toArray, List.set_cons_zero, List.set_cons_succ])
  apply flock_light rfl
  case h => first | exact light_no (by rfl) | ((first | apply light_plain rfl | apply light_yes (by rfl)); intro w9 hw9; obtain ⟨hb9, hh9⟩ := hw9; have hB9 : Below w4.heap.size w4 w9 := (by (repeat' first | with_reducible (first | exact Below.refl _ _ | assumption | refine Below.alloc ?_ ?_ _ | refine below_drewN ?_ _ | refine Below.drew ?_ | refine Below.setCell ?_ ?_ _ | refine Below.trans ?_ (Below.mono (by with_reducible assumption) ?_)) | go_size)); obtain ⟨kc9, kf9, s9⟩ := bfacts hb9; obtain ⟨kd9, kg9, _⟩ := bfacts hB9; skip; go_simp; try rfl)
  (try simp only [Act.put, List.setIfInBounds_toArray, List.set_cons_zero, List.set_cons_succ])
  refine flock_heavy _ rfl ?_ ?_
  · intro w9 hb9 hh9
    have hB9 : Below w4.heap.size w4 w9 := (by (repeat' first | with_reducible (first | exact Below.refl _ _ | assumption | refine Below.alloc ?_ ?_ _ | refine below_drewN ?_ _ | refine Below.drew ?_ | refine Below.setCell ?_ ?_ _ | refine Below.trans ?_ (Below.mono (by with_reducible assumption) ?_)) | go_size))
    obtain ⟨kc9, kf9, s9⟩ := bfacts hb9
    obtain ⟨kd9, kg9, _⟩ := bfacts hB9
    have r2 := hh9 _ (.head _) (by kernel_rfl); dsimp only [Hv.own, Hv.is, Hv.lit, Hv.box, Hv.sl] at r2; (first | replace r2 := lit_heap r2 | replace r2 := box_heap r2 | skip); skip
    go_wp2_with (go_at_call 24; refine (C2.out _ hB9).mono ?_; rintro e w6 ⟨rfl, hb6⟩)
    refine grewTo_at (by rfl) (by (repeat' first | with_reducible (first | exact Below.refl _ _ | assumption | refine Below.alloc ?_ ?_ _ | refine below_drewN ?_ _ | refine Below.drew ?_ | refine Below.setCell ?_ ?_ _ | refine Below.trans ?_ (Below.mono (by with_reducible assumption) ?_)) | go_size)) ?_
    rfl
  intro x5 ok5
  (try simp only [Act.put, List.setIfInBounds_toArray, List.set_cons_zero, List.set_cons_succ])
  (try dsimp only [Hv.own, Hv.is, Hv.lit, Hv.box, Hv.sl] at ok5)
  first | subst ok5 | (obtain ⟨A5, c5, ok5⟩ := ok5; subst ok5) | (obtain ⟨A5, ok5⟩ := ok5; subst ok5) | skip
  apply flock_light rfl
  case h => first | exact light_no (by rfl) | ((first | apply light_plain rfl | apply light_yes (by rfl)); intro w9 hw9; obtain ⟨hb9, hh9⟩ := hw9; have hB9 : Below w4.heap.size w4 w9 := (by (repeat' first | with_reducible (first | exact Below.refl _ _ | assumption | refine Below.alloc ?_ ?_ _ | refine below_drewN ?_ _ | refine Below.drew ?_ | refine Below.setCell ?_ ?_ _ | refine Below.trans ?_ (Below.mono (by with_reducible assumption) ?_)) | go_size)); obtain ⟨kc9, kf9, s9⟩ := bfacts hb9; obtain ⟨kd9, kg9, _⟩ := bfacts hB9; have r5 := hh9 _ (.head _) (by kernel_rfl); dsimp only [Hv.own, Hv.is, Hv.lit, Hv.box, Hv.sl] at r5; (first | replace r5 := lit_heap r5 | replace r5 := box_heap r5 | skip); have r2 := hh9 _ (.tail _ (.head _)) (by kernel_rfl); dsimp only [Hv.own, Hv.is, Hv.lit, Hv.box, Hv.sl] at r2; (first | replace r2 := lit_heap r2 | replace r2 := box_heap r2 | skip); skip; go_simp; try rfl)
  (try simp only [Act.put, List.setIfInBounds_toArray, List.set_cons_zero, List.set_cons_succ])
  apply flock_light rfl
  case h => first | exact light_no (by rfl) | ((first | apply light_plain rfl | apply light_yes (by rfl)); intro w9 hw9; obtain ⟨hb9, hh9⟩ := hw9; have hB9 : Below w4.heap.size w4 w9 := (by (repeat' first | with_reducible (first | exact Below.refl _ _ | assumption | refine Below.alloc ?_ ?_ _ | refine below_drewN ?_ _ | refine Below.drew ?_ | refine Below.setCell ?_ ?_ _ | refine Below.trans ?_ (Below.mono (by with_reducible assumption) ?_)) | go_size)); obtain ⟨kc9, kf9, s9⟩ := bfacts hb9; obtain ⟨kd9, kg9, _⟩ := bfacts hB9; have r5 := hh9 _ (.head _) (by kernel_rfl); dsimp only [Hv.own, Hv.is, Hv.lit, Hv.box, Hv.sl] at r5; (first | replace r5 := lit_heap r5 | replace r5 := box_heap r5 | skip); have r2 := hh9 _ (.tail _ (.head _)) (by kernel_rfl); dsimp only [Hv.own, Hv.is, Hv.lit, Hv.box, Hv.sl] at r2; (first | replace r2 := lit_heap r2 | replace r2 := box_heap r2 | skip); skip; go_simp; try rfl)
  (try simp only [Act.put, List.setIfInBounds_toArray, List.set_cons_zero, List.set_cons_succ])
  apply flock_light rfl
  case h => first | exact light_no (by rfl) | ((first | apply light_plain rfl | apply light_yes (by rfl)); intro w9 hw9; obtain ⟨hb9, hh9⟩ := hw9; have hB9 : Below w4.heap.size w4 w9 := (by (repeat' first | with_reducible (first | exact Below.refl _ _ | assumption | refine Below.alloc ?_ ?_ _ | refine below_drewN ?_ _ | refine Below.drew ?_ | refine Below.setCell ?_ ?_ _ | refine Below.trans ?_ (Below.mono (by with_reducible assumption) ?_)) | go_size)); obtain ⟨kc9, kf9, s9⟩ := bfacts hb9; obtain ⟨kd9, kg9, _⟩ := bfacts hB9; have r5 := hh9 _ (.head _) (by kernel_rfl); dsimp only [Hv.own, Hv.is, Hv.lit, Hv.box, Hv.sl] at r5; (first | replace r5 := lit_heap r5 | replace r5 := box_heap r5 | skip); have r2 := hh9 _ (.tail _ (.head _)) (by kernel_rfl); dsimp only [Hv.own, Hv.is, Hv.lit, Hv.box, Hv.sl] at r2; (first | replace r2 := lit_heap r2 | replace r2 := box_heap r2 | skip); skip; go_simp; try rfl)
  (try simp only [Act.put, List.setIfInBounds_toArray, List.set_cons_zero, List.set_cons_succ])
  apply flock_light rfl
  case h => first | exact light_no (by rfl) | ((first | apply light_plain rfl | apply light_yes (by rfl)); intro w9 hw9; obtain ⟨hb9, hh9⟩ := hw9; have hB9 : Below w4.heap.size w4 w9 := (by (repeat' first | with_reducible (first | exact Below.refl _ _ | assumption | refine Below.alloc ?_ ?_ _ | refine below_drewN ?_ _ | refine Below.drew ?_ | refine Below.setCell ?_ ?_ _ | refine Below.trans ?_ (Below.mono (by with_reducible assumption) ?_)) | go_size)); obtain ⟨kc9, kf9, s9⟩ := bfacts hb9; obtain ⟨kd9, kg9, _⟩ := bfacts hB9; have r5 := hh9 _ (.head _) (by kernel_rfl); dsimp only [Hv.own, Hv.is, Hv.lit, Hv.box, Hv.sl] at r5; (first | replace r5 := lit_heap r5 | replace r5 := box_heap r5 | skip); have r2 := hh9 _ (.tail _ (.head _)) (by kernel_rfl); dsimp only [Hv.own, Hv.is, Hv.lit, Hv.box, Hv.sl] at r2; (first | replace r2 := lit_heap r2 | replace r2 := box_heap r2 | skip); skip; go_simp; try rfl)
  (try simp only [Act.put, List.setIfInBounds_toArray, List.set_cons_zero, List.set_cons_succ])
  refine flock_heavy _ rfl ?_ ?_
  · intro w9 hb9 hh9
    have hB9 : Below w4.heap.size w4 w9 := (by (repeat' first | with_reducible (first | exact Below.refl _ _ | assumption | refine Below.alloc ?_ ?_ _ | refine below_drewN ?_ _ | refine Below.drew ?_ | refine Below.setCell ?_ ?_ _ | refine Below.trans ?_ (Below.mono (by with_reducible assumption) ?_)) | go_size))
    obtain ⟨kc9, kf9, s9⟩ := bfacts hb9
    obtain ⟨kd9, kg9, _⟩ := bfacts hB9
    have r5 := hh9 _ (.head _) (by kernel_rfl); dsimp only [Hv.own, Hv.is, Hv.lit, Hv.box, Hv.sl] at r5; (first | replace r5 := lit_heap r5 | replace r5 := box_heap r5 | skip); have r2 := hh9 _ (.tail _ (.head _)) (by kernel_rfl); dsimp only [Hv.own, Hv.is, Hv.lit, Hv.box, Hv.sl] at r2; (first | replace r2 := lit_heap r2 | replace r2 := box_heap r2 | skip); skip
    go_wp2_with (go_at_call 41; refine (C3.out _ hB9).mono ?_; rintro e w6 ⟨v6, vs6, rfl, hA6, hb6⟩)
    refine grewTo_at (by rfl) (by (repeat' first | with_reducible (first | exact Below.refl _ _ | assumption | refine Below.alloc ?_ ?_ _ | refine below_drewN ?_ _ | refine Below.drew ?_ | refine Below.setCell ?_ ?_ _ | refine Below.trans ?_ (Below.mono (by with_reducible assumption) ?_)) | go_size)) ?_
    exact hA6.reads
  intro x10 ok10
  (try simp only [Act.put, List.setIfInBounds_toArray, List.set_cons_zero, List.set_cons_succ])
  (try dsimp only [Hv.own, Hv.is, Hv.lit, Hv.box, Hv.sl] at ok10)
  first | subst ok10 | (obtain ⟨A10, c10, ok10⟩ := ok10; subst ok10) | (obtain ⟨A10, ok10⟩ := ok10; subst ok10) | skip
  apply flock_light rfl
  case h => first | exact light_no (by rfl) | ((first | apply light_plain rfl | apply light_yes (by rfl)); intro w9 hw9; obtain ⟨hb9, hh9⟩ := hw9; have hB9 : Below w4.heap.size w4 w9 := (by (repeat' first | with_reducible (first | exact Below.refl _ _ | assumption | refine Below.alloc ?_ ?_ _ | refine below_drewN ?_ _ | refine Below.drew ?_ | refine Below.setCell ?_ ?_ _ | refine Below.trans ?_ (Below.mono (by with_reducible assumption) ?_)) | go_size)); obtain ⟨kc9, kf9, s9⟩ := bfacts hb9; obtain ⟨kd9, kg9, _⟩ := bfacts hB9; have r5 := hh9 _ (.tail _ (.head _)) (by kernel_rfl); dsimp only [Hv.own, Hv.is, Hv.lit, Hv.box, Hv.sl] at r5; (first | replace r5 := lit_heap r5 | replace r5 := box_heap r5 | skip); have r2 := hh9 _ (.tail _ (.tail _ (.head _))) (by kernel_rfl); dsimp only [Hv.own, Hv.is, Hv.lit, Hv.box, Hv.sl] at r2; (first | replace r2 := lit_heap r2 | replace r2 := box_heap r2 | skip); skip; go_simp; try rfl)
  (try simp only [Act.put, List.setIfInBounds_toArray, List.set_cons_zero, List.set_cons_succ])
  apply flock_light rfl
  case h => first | exact light_no (by rfl) | ((first | apply light_plain rfl | apply light_yes (by rfl)); intro w9 hw9; obtain ⟨hb9, hh9⟩ := hw9; have hB9 : Below w4.heap.size w4 w9 := (by (repeat' first | with_reducible (first | exact Below.refl _ _ | assumption | refine Below.alloc ?_ ?_ _ | refine below_drewN ?_ _ | refine Below.drew ?_ | refine Below.setCell ?_ ?_ _ | refine Below.trans ?_ (Below.mono (by with_reducible assumption) ?_)) | go_size)); obtain ⟨kc9, kf9, s9⟩ := bfacts hb9; obtain ⟨kd9, kg9, _⟩ := bfacts hB9; have r5 := hh9 _ (.tail _ (.head _)) (by kernel_rfl); dsimp only [Hv.own, Hv.is, Hv.lit, Hv.box, Hv.sl] at r5; (first | replace r5 := lit_heap r5 | replace r5 := box_heap r5 | skip); have r2 := hh9 _ (.tail _ (.tail _ (.head _))) (by kernel_rfl); dsimp only [Hv.own, Hv.is, Hv.lit, Hv.box, Hv.sl] at r2; (first | replace r2 := lit_heap r2 | replace r2 := box_heap r2 | skip); skip; go_simp; try rfl)
  (try simp only [Act.put, List.setIfInBounds_toArray, List.set_cons_zero, List.set_cons_succ])
  refine flock_heavy _ rfl ?_ ?_
  · intro w9 hb9 hh9
    have hB9 : Below w4.heap.size w4 w9 := (by (repeat' first | with_reducible (first | exact Below.refl _ _ | assumption | refine Below.alloc ?_ ?_ _ | refine below_drewN ?_ _ | refine Below.drew ?_ | refine Below.setCell ?_ ?_ _ | refine Below.trans ?_ (Below.mono (by with_reducible assumption) ?_)) | go_size))
    obtain ⟨kc9, kf9, s9⟩ := bfacts hb9
    obtain ⟨kd9, kg9, _⟩ := bfacts hB9
    have r10 := hh9 _ (.head _) (by kernel_rfl); dsimp only [Hv.own, Hv.is, Hv.lit, Hv.box, Hv.sl] at r10; (first | replace r10 := lit_heap r10 | replace r10 := box_heap r10 | skip); have r5 := hh9 _ (.tail _ (.head _)) (by kernel_rfl); dsimp only [Hv.own, Hv.is, Hv.lit, Hv.box, Hv.sl] at r5; (first | replace r5 := lit_heap r5 | replace r5 := box_heap r5 | skip); have r2 := hh9 _ (.tail _ (.tail _ (.head _))) (by kernel_rfl); dsimp only [Hv.own, Hv.is, Hv.lit, Hv.box, Hv.sl] at r2; (first | replace r2 := lit_heap r2 | replace r2 := box_heap r2 | skip); skip
    go_wp2_with (go_at_call 40; refine (C4.out _ hB9 _ r10).mono ?_; rintro e w6 ⟨rfl, hb6⟩)
    refine grewTo_at (by rfl) (by (repeat' first | with_reducible (first | exact Below.refl _ _ | assumption | refine Below.alloc ?_ ?_ _ | refine below_drewN ?_ _ | refine Below.drew ?_ | refine Below.setCell ?_ ?_ _ | refine Below.trans ?_ (Below.mono (by with_reducible assumption) ?_)) | go_size)) ?_
    rfl
  intro x13 ok13
  (try simp only [Act.put, List.setIfInBounds_toArray, List.set_cons_zero, List.set_cons_succ])
  (try dsimp only [Hv.own, Hv.is, Hv.lit, Hv.box, Hv.sl] at ok13)
  first | subst ok13 | (obtain ⟨A13, c13, ok13⟩ := ok13; subst ok13) | (obtain ⟨A13, ok13⟩ := ok13; subst ok13) | skip
  apply flock_light rfl
  case h => first | exact light_no (by rfl) | ((first | apply light_plain rfl | apply light_yes (by rfl)); intro w9 hw9; obtain ⟨hb9, hh9⟩ := hw9; have hB9 : Below w4.heap.size w4 w9 := (by (repeat' first | with_reducible (first | exact Below.refl _ _ | assumption | refine Below.alloc ?_ ?_ _ | refine below_drewN ?_ _ | refine Below.drew ?_ | refine Below.setCell ?_ ?_ _ | refine Below.trans ?_ (Below.mono (by with_reducible assumption) ?_)) | go_size)); obtain ⟨kc9, kf9, s9⟩ := bfacts hb9; obtain ⟨kd9, kg9, _⟩ := bfacts hB9; have r13 := hh9 _ (.head _) (by kernel_rfl); dsimp only [Hv.own, Hv.is, Hv.lit, Hv.box, Hv.sl] at r13; (first | replace r13 := lit_heap r13 | replace r13 := box_heap r13 | skip); have r10 := hh9 _ (.tail _ (.head _)) (by kernel_rfl); dsimp only [Hv.own, Hv.is, Hv.lit, Hv.box, Hv.sl] at r10; (first | replace r10 := lit_heap r10 | replace r10 := box_heap r10 | skip); have r5 := hh9 _ (.tail _ (.tail _ (.head _))) (by kernel_rfl); dsimp only [Hv.own, Hv.is, Hv.lit, Hv.box, Hv.sl] at r5; (first | replace r5 := lit_heap r5 | replace r5 := box_heap r5 | skip); have r2 := hh9 _ (.tail _ (.tail _ (.tail _ (.head _)))) (by kernel_rfl); dsimp only [Hv.own, Hv.is, Hv.lit, Hv.box, Hv.sl] at r2; (first | replace r2 := lit_heap r2 | replace r2 := box_heap r2 | skip); skip; go_simp; try rfl)
  (try simp only [Act.put, List.setIfInBounds_toArray, List.set_cons_zero, List.set_cons_succ])
  apply flock_light rfl
  case h => first | exact light_no (by rfl) | ((first | apply light_plain rfl | apply light_yes (by rfl)); intro w9 hw9; obtain ⟨hb9, hh9⟩ := hw9; have hB9 : Below w4.heap.size w4 w9 := (by (repeat' first | with_reducible (first | exact Below.refl _ _ | assumption | refine Below.alloc ?_ ?_ _ | refine below_drewN ?_ _ | refine Below.drew ?_ | refine Below.setCell ?_ ?_ _ | refine Below.trans ?_ (Below.mono (by with_reducible assumption) ?_)) | go_size)); obtain ⟨kc9, kf9, s9⟩ := bfacts hb9; obtain ⟨kd9, kg9, _⟩ := bfacts hB9; have r13 := hh9 _ (.head _) (by kernel_rfl); dsimp only [Hv.own, Hv.is, Hv.lit, Hv.box, Hv.sl] at r13; (first | replace r13 := lit_heap r13 | replace r13 := box_heap r13 | skip); have r10 := hh9 _ (.tail _ (.head _)) (by kernel_rfl); dsimp only [Hv.own, Hv.is, Hv.lit, Hv.box, Hv.sl] at r10; (first | replace r10 := lit_heap r10 | replace r10 := box_heap r10 | skip); have r5 := hh9 _ (.tail _ (.tail _ (.head _))) (by kernel_rfl); dsimp only [Hv.own, Hv.is, Hv.lit, Hv.box, Hv.sl] at r5; (first | replace r5 := lit_heap r5 | replace r5 := box_heap r5 | skip); have r2 := hh9 _ (.tail _ (.tail _ (.tail _ (.head _)))) (by kernel_rfl); dsimp only [Hv.own, Hv.is, Hv.lit, Hv.box, Hv.sl] at r2; (first | replace r2 := lit_heap r2 | replace r2 := box_heap r2 | skip); skip; go_simp; try rfl)
  (try simp only [Act.put, List.setIfInBounds_toArray, List.set_cons_zero, List.set_cons_succ])
  refine flock_nil ?_
  intro w9 hb9 hh9
  have hB9 : Below w4.heap.size w4 w9 := (by (repeat' first | with_reducible (first | exact Below.refl _ _ | assumption | refine Below.alloc ?_ ?_ _ | refine below_drewN ?_ _ | refine Below.drew ?_ | refine Below.setCell ?_ ?_ _ | refine Below.trans ?_ (Below.mono (by with_reducible assumption) ?_)) | go_size))
  have r13 := hh9 _ (.head _); dsimp only [Hv.own, Hv.is, Hv.lit, Hv.box, Hv.sl] at r13; (first | replace r13 := lit_heap r13 | replace r13 := box_heap r13 | skip); have r10 := hh9 _ (.tail _ (.head _)); dsimp only [Hv.own, Hv.is, Hv.lit, Hv.box, Hv.sl] at r10; (first | replace r10 := lit_heap r10 | replace r10 := box_heap r10 | skip); have r5 := hh9 _ (.tail _ (.tail _ (.head _))); dsimp only [Hv.own, Hv.is, Hv.lit, Hv.box, Hv.sl] at r5; (first | replace r5 := lit_heap r5 | replace r5 := box_heap r5 | skip); have r2 := hh9 _ (.tail _ (.tail _ (.tail _ (.head _)))); dsimp only [Hv.own, Hv.is, Hv.lit, Hv.box, Hv.sl] at r2; (first | replace r2 := lit_heap r2 | replace r2 := box_heap r2 | skip); clear hh9
  (try dsimp only)
  have b49 := hB9
  replace k0 := (b49.cell (p := ⟨fb, 0, none⟩) zf4).trans k0
  replace k1 := (b49.cell (p := ⟨fb, 1, none⟩) zf4).trans k1
  replace k2 := (b49.cell (p := ⟨fb, 2, none⟩) zf4).trans k2
  replace g0 := (b49.cell (p := ⟨w.heap.size, 0, none⟩) zg4).trans g0
  replace g1 := (b49.cell (p := ⟨w.heap.size, 1, none⟩) zg4).trans g1
  have zf9 := Nat.lt_of_lt_of_le zf4 b49.size
  have zg9 := Nat.lt_of_lt_of_le zg4 b49.size
  have HR5 := Lib.hid (HR4.out.on5 b49)
  have HB5 := Lib.hid (HB4.out.trans (b49.mono HB4.out.size))
  clear b49 hB9 hb9 r2 r5 r10 r13 C1 C2 C3 C4 HXL HR4 HB4 zf4 zg4
  have CR := Lib.hid (evRun_any f g _ _ _ _ w9 _ HR5.out (fun k hk => hk) HRF.out (HG.out.at2 HB5.out (Nat.le_refl _)) (by have := HNN.out; omega) (fun a ha => by have := Ev.mem_flat ha; have := HNN.out; omega))
  go_upto_region 7 with (go_at_call 42; refine CR.out.mono ?_; rintro e w6 ⟨va, rfl, ha, hb6⟩; have HL := Lib.hid ha; obtain ⟨vsq, hq1, hq, hq2⟩ := ha; obtain ⟨xa, xc, rfl, hq3, hq4⟩ := SL.form hq; clear hq hq1 hq2 hq3 hq4)
  have b7 : Below w6.heap.size w6 (w6.alloc (.cells #[.int .i64 (Ev.runE f g).1.word, .bool (Ev.runE f g).1.trap, .slice xa (Ev.runE f g).1.arrays.length xc] 52)) := (Below.refl _ _).alloc (Nat.le_refl _) _
  have r7 := heap_alloc_new w6 (.cells #[.int .i64 (Ev.runE f g).1.word, .bool (Ev.runE f g).1.trap, .slice xa (Ev.runE f g).1.arrays.length xc] 52)
  generalize (w6.alloc (.cells #[.int .i64 (Ev.runE f g).1.word, .bool (Ev.runE f g).1.trap, .slice xa (Ev.runE f g).1.arrays.length xc] 52)) = w7 at *
  have b57 := hb6.trans (b7.mono hb6.size)
  replace k0 := (b57.cell (p := ⟨fb, 0, none⟩) zf9).trans k0
  replace k1 := (b57.cell (p := ⟨fb, 1, none⟩) zf9).trans k1
  replace k2 := (b57.cell (p := ⟨fb, 2, none⟩) zf9).trans k2
  replace g0 := (b57.cell (p := ⟨w.heap.size, 0, none⟩) zg9).trans g0
  replace g1 := (b57.cell (p := ⟨w.heap.size, 1, none⟩) zg9).trans g1
  have zf7 := Nat.lt_of_lt_of_le zf9 b57.size
  have zg7 := Nat.lt_of_lt_of_le zg9 b57.size
  have HB7 := Lib.hid (HB5.out.trans (b57.mono HB5.out.size))
  have L7 := Lib.hid (HL.out.at_ b7 (Nat.le_refl _))
  have HR7 := Lib.hid (HR5.out.on5 b57)
  have CS := Lib.hid (revRun_any f g _ _ _ _ w7 _ HR7.out (fun k hk => hk) HRF.out HDA.out (HG.out.at2 HB7.out (Nat.le_refl _)) (fun p hp => by have := Ev.ok_small (HWB.out.params p hp).name; unfold InS; omega) (fun p hp => by have := Ev.ok_small (HWB.out.arrays p hp).name; unfold InS; omega) (by have := HSM.out.arrays; omega) HSM.out.body HSM.out.all_ (by have := HNN.out; omega) (fun a ha => by have := Ev.mem_flat ha; have := HNN.out; omega))
  have R7 := Lib.hid r7
  have Z7 := Lib.hid (Array.getElem?_eq_some_iff.1 r7).1
  clear b57 b7 hb6 HL HR5 CR r7 HB5 zf9 zg9
  generalize w6.heap.size = ea at *
  generalize Ev.runE f g = E at *
  go_upto_region 8 with (go_at_call 26; refine CS.out.mono ?_; rintro e w8 ⟨va, rfl, ha, hb8⟩; have HL := Lib.hid ha; obtain ⟨vsq, hq1, hq, hq2⟩ := ha; obtain ⟨ya, yc, rfl, hq3, hq4⟩ := SL.form hq; clear hq hq1 hq2 hq3 hq4)
  have b9 : Below w8.heap.size w8 (w8.alloc (.cells #[.int .i64 E.1.word, .bool E.1.trap, .slice ya E.1.arrays.length yc] 52)) := (Below.refl _ _).alloc (Nat.le_refl _) _
  have r9 := heap_alloc_new w8 (.cells #[.int .i64 E.1.word, .bool E.1.trap, .slice ya E.1.arrays.length yc] 52)
  generalize (w8.alloc (.cells #[.int .i64 E.1.word, .bool E.1.trap, .slice ya E.1.arrays.length yc] 52)) = w10 at *
  have b79 := hb8.trans (b9.mono hb8.size)
  have HB9 := Lib.hid (HB7.out.trans (b79.mono HB7.out.size))
  have L9 := Lib.hid (L7.out.at_ b79 (Nat.le_refl _))
  have M9 := Lib.hid (HL.out.at_ b9 (Nat.le_refl _))
  have rA := (b79.block ea Z7.out).trans R7.out
  have e0 := cell_of_block rA 0
  have e1 := cell_of_block rA 1
  have e2 := cell_of_block rA 2
  have f0 := cell_of_block r9 0
  have f1 := cell_of_block r9 1
  have f2 := cell_of_block r9 2
  simp only [List.getElem?_toArray, List.getElem?_cons_zero, List.getElem?_cons_succ] at e0 e1 e2 f0 f1 f2
  have ze := (Array.getElem?_eq_some_iff.1 rA).1
  have zc := (Array.getElem?_eq_some_iff.1 r9).1
  have CE := Lib.hid (sameEnded_is E.1 _ _ w10 L9.out M9.out)
  clear b79 b9 hb8 HL L7 HR7 CS rA r9 R7 Z7 HB7 k0 k1 k2 g0 g1 zf7 zg7 L9 M9
  generalize w8.heap.size = ec at *
  go_wp2_with (go_at_call 27; refine CE.out.mono ?_; rintro e w11 ⟨rfl, hb11⟩)
  go_ret
  exact ⟨by first | rfl | simp, HB9.out.trans (hb11.mono HB9.out.size)⟩
end Go.Proofs.YtpbflgemhcaooaaDoor
/- What the listed variables of strconv hold, out of the row's condition. -/
namespace Go.Proofs.YtpbflgemhcaooaaDoor
open Go.ChangeShapes Go.WideShapes Go.ChangeAt Go.RowKit
theorem lTab : (Tryd.prog.globals[3]?).map (·.type) = some 220 := by kernel_rfl
theorem lSyn : (Tryd.prog.globals[1]?).map (·.type) = some 146 := by kernel_rfl
theorem lRng : (Tryd.prog.globals[2]?).map (·.type) = some 146 := by kernel_rfl
theorem lcT : Tryd.prog.cellsOf 220 = 20 := by kernel_rfl
theorem lcE : Tryd.prog.cellsOf 207 = 1 := by kernel_rfl
theorem lcS : Tryd.prog.cellsOf 229 = 1 := by kernel_rfl
theorem lcs : Tryd.prog.cellsOf 9 = 1 := by kernel_rfl
theorem lstar : "*" ++ "errors.errorString" = "*errors.errorString" := by decide
theorem lrow (u : TypeId) (h : Tryd.prog.typeName? 3 u = some "*errors.errorString") : u = 227 :=
  typeName_ptr_named (nm := "errors.errorString") (by rw [lstar]; kernel_rfl) (by kernel_rfl) (by decide) u (by rw [lstar]; exact h)
def laid5 : List (String × DataW Unit) := [("math/bits.deBruijn32tab", Rows.laid_math_bits_deBruijn32tab), ("math/bits.deBruijn64tab", Rows.laid_math_bits_deBruijn64tab), ("internal/strconv.uint64pow10", Rows.laid_internal_strconv_uint64pow10), ("strconv.ErrRange", Rows.laid_strconv_ErrRange), ("strconv.ErrSyntax", Rows.laid_strconv_ErrSyntax)]
theorem vars_of_laid {W : World} (h : laidMetH Tryd.prog laid5 W) : Vars W := by
  unfold laid5 at h
  rw [MakeChecks.laidMetH_plain _ _ _ (by kernel_rfl)] at h
  have h3 := h.tail.tail
  have t1 : Lib.TabIs Tryd.prog W "internal/strconv.uint64pow10" .u64 Lib.pow10Tab := Lib.tabIs_of_head gTab lTab Tryd.underlying220 Tryd.underlying207 lcE lcT h3
  obtain ⟨a0, _, e0, _⟩ := laid_sentinel h3.tail gRng lRng Tryd.underlying146 lrow Tryd.underlying227 Tryd.underlying229 rfl rfl Tryd.underlying9 lcS lcs
  obtain ⟨a1, _, e1, _⟩ := laid_sentinel h3.tail.tail gSyn lSyn Tryd.underlying146 lrow Tryd.underlying227 Tryd.underlying229 rfl rfl Tryd.underlying9 lcS lcs
  exact ⟨t1, ⟨_, _, e1⟩, _, _, e0⟩
theorem door_met (os : Os) (args : Array Value) : laidMetH Tryd.prog laid5 ((World.doorLaid Tryd.prog 62 os).forCall (fun _ _ => 0) ⟨#[], args, []⟩).memory :=
  laidMetH_of_parts3 (fuel := 8) (laidMet_of_run' 8 (by kernel_rfl) (by kernel_rfl)) (by kernel_rfl) (by kernel_rfl)
end Go.Proofs.YtpbflgemhcaooaaDoor
/- The plain wrap of a row that is narrowed and lists variables, the world's shape kept. -/
namespace Go.Proofs.YtpbflgemhcaooaaDoor
open Go.ChangeShapes Go.WideShapes Go.ChangeAt Go.RowKit
section
variable {H : Type} {enc : TypeId × Value → H}
theorem returnsInHanded_cond_and {a : Assume} {C : Checked} {os : Os} {f : FuncId} {fn : Func} {s : OpenSpec} {k : (H : Type) → List (DataW H) → Bool} (hk : s.cond = some k) {F : Stop.Interp} {conds : List PathCond} {apart fresh handsOn again : Bool} {X : World → Array Value → Prop}
    (hX : ∀ (w w' : World) (args : Array Value), w.heap = w'.heap → X w args → X w' args)
    (own : ownKnob C.prog.godebug = none) (started : os.Started) (noInit : C.prog.inits.idxOf? f = none) (hfn : C.prog.funcs[f]? = some fn)
    (witness : ∃ (w : World) (tape : Tape) (i : Input), w.os = os ∧ (w.forCall tape i).Shaped C.prog ∧ i.vars = [] ∧ Input.okWide C.prog (w.forCall tape i) .any w.heap.size f i ∧
      ((s.pre enc C.prog fn conds apart (w.forCall tape i).memory i.args ∧ X (w.forCall tape i).memory i.args) ∧ sizedMet enc C.prog fn s apart (w.forCall tape i).memory i.args) ∧ a.holds C.prog (lone (Frame.enter C.prog f i.args .normal) [] (w.forCall tape i)))
    (contract : ∀ (W : World) (base : Nat) (args : Array Value) (ds gs : List (DataW H)) (before : List MemPlace),
      (∀ (j : Nat) t v, fn.params[j]? = some t → args[j]? = some v → Value.okWide C.prog W .any base t v) →
      DataW.Whole enc C.prog fn.params.toList s.vars apart W args.toList ds gs before →
      k H (ds ++ gs) = true → X W args → W.ShapedOpen C.prog →
      Calls C.prog f args W fun e W' => ∃ v, e = .returned v ∧ (s.at F).post enc C.prog fn apart fresh handsOn again W args v W') :
    ReturnsInHanded a C os f .any (fun w args => (s.pre enc C.prog fn conds apart w args ∧ X w args) ∧ sizedMet enc C.prog fn s apart w args) ((s.at F).post enc C.prog fn apart fresh handsOn again) := by
  refine returnsInHanded_of_calls own started noInit witness ?_
  intro w tape i _ hsh _ hok hpre hholds
  obtain ⟨_, _, _, fn', hfn', _, _, _, _, hval⟩ := hok
  have e : fn' = fn := Option.some.inj (hfn'.symm.trans hfn)
  subst e
  obtain ⟨⟨hp, hx⟩, _⟩ := hpre
  obtain ⟨ds, gs, before, hw, _, hkk⟩ := (OpenSpec.pre_some hk conds apart _ _).1 hp
  have hw' := DataW.Whole.of_heap (w' := w.forCall tape i) (by rfl) hw
  refine (contract (w.forCall tape i) w.heap.size i.args ds gs before hval hw' hkk (hX _ _ _ (by rfl) hx) hsh).mono fun e W' ⟨v, he, hp⟩ => ?_
  subst he
  exact ChangeSpec.post_blind hp
theorem cond_witness {C : Checked} {os : Os} {f : FuncId} {fn : Func} {s : OpenSpec} {k : (H : Type) → List (DataW H) → Bool} (hk : s.cond = some k) {conds : List PathCond} {apart : Bool} {X : World → Array Value → Prop} (modest : Bool) (w0 : World) (args : Array Value) (fuel : Nat) (hos : w0.os = os)
    (hsh : (w0.forCall (fun _ _ => 0) ⟨#[], args, []⟩).Shaped C.prog)
    (hok : Input.okWideB C.prog (w0.forCall (fun _ _ => 0) ⟨#[], args, []⟩) f ⟨#[], args, []⟩ = true)
    {x : List (DataW H) × List (DataW H) × List MemPlace} (hx : DataW.whole enc C.prog (w0.forCall (fun _ _ => 0) ⟨#[], args, []⟩).memory fn.params.toList s.vars apart args.toList fuel = some x)
    (hconds : conds.all (PathCond.test C.prog ⟨fn.params.toList, x.1, s.bare.plain.varTypes C.prog, x.2.1⟩) = true) (hkk : k H (x.1 ++ x.2.1) = true)
    (hsz : s.bare.sizedB enc C.prog fn apart (w0.forCall (fun _ _ => 0) ⟨#[], args, []⟩).memory args fuel = true)
    (hxx : X (w0.forCall (fun _ _ => 0) ⟨#[], args, []⟩).memory args) :
    ∃ (w : World) (tape : Tape) (i : Input), w.os = os ∧ (w.forCall tape i).Shaped C.prog ∧ i.vars = [] ∧ Input.okWide C.prog (w.forCall tape i) .any w.heap.size f i ∧
      ((s.pre enc C.prog fn conds apart (w.forCall tape i).memory i.args ∧ X (w.forCall tape i).memory i.args) ∧ sizedMet enc C.prog fn s apart (w.forCall tape i).memory i.args) ∧ ({ modest := modest } : Assume).holds C.prog (lone (Frame.enter C.prog f i.args .normal) [] (w.forCall tape i)) :=
  ⟨w0, fun _ _ => 0, ⟨#[], args, []⟩, hos, hsh, (Input.okWide_of_okWideB (base := 0) hok).1, (Input.okWide_of_okWideB hok).2,
    ⟨⟨(OpenSpec.pre_some hk conds apart _ _).2 ⟨x.1, x.2.1, x.2.2, DataW.Whole_of_whole hx, hconds, hkk⟩, hxx⟩, sizedMet_of_sizedB hsz⟩, by
    simp only [Assume.holds]
    exact ⟨by simp, by simp, fun _ => Modest.zero, by simp, by simp⟩⟩
end
end Go.Proofs.YtpbflgemhcaooaaDoor
/- From the form's reading of an argument to plain data: slices of whatever elements. -/
namespace Go.Proofs.YtpbflgemhcaooaaDoor
open Go.RowKit Go.ChangeShapes Go.WideShapes Go.Deep
section
variable {H : Type} {enc : TypeId × Value → H} {P : Program} {w : World} {base : Nat} {spare : Nat → Bool} {held : Bool}

theorem plain_add (b off j : Nat) : (⟨b, off, none⟩ : Addr).add j = ⟨b, off + j, none⟩ := by
  unfold Addr.add
  by_cases h : j = 0
  · subst h; rfl
  · rw [if_neg h]

theorem pick_list {α : Type} (R : Nat → α → Prop) : ∀ n, (∀ i, i < n → ∃ a, R i a) → ∃ l : List α, l.length = n ∧ ∀ i a, l[i]? = some a → R i a
  | 0, _ => ⟨[], rfl, fun i a h => by simp at h⟩
  | n + 1, h => by
    obtain ⟨l, hl, hr⟩ := pick_list R n (fun i hi => h i (by omega))
    obtain ⟨a, ha⟩ := h n (by omega)
    refine ⟨l ++ [a], by simp [hl], fun i b hb => ?_⟩
    by_cases hi : i < n
    · rw [List.getElem?_append_left (by omega)] at hb
      exact hr i b hb
    · have hlt : i < (l ++ [a]).length := by
        rcases Nat.lt_or_ge i (l ++ [a]).length with h1 | h1
        · exact h1
        · simp [List.getElem?_eq_none h1] at hb
      have : i = n := by simp [hl] at hlt; omega
      subst this
      rw [List.getElem?_append_right (by omega)] at hb
      simp [hl] at hb
      subst hb
      exact ha

theorem flatten_at {α : Type} {size : Nat} : ∀ (css : List (List α)), (∀ c ∈ css, c.length = size) → ∀ k j, j < size → css.flatten[k * size + j]? = (css[k]?).bind (fun c => c[j]?)
  | [], _, k, j, _ => by simp
  | c :: r, h, 0, j, hj => by
    have hc : c.length = size := h c (by simp)
    simp only [List.flatten_cons, Nat.zero_mul, Nat.zero_add]
    rw [List.getElem?_append_left (by omega)]
    simp
  | c :: r, h, k + 1, j, hj => by
    have hc : c.length = size := h c (by simp)
    have ih := flatten_at r (fun c' h' => h c' (by simp [h'])) k j hj
    simp only [List.flatten_cons]
    rw [List.getElem?_append_right (by rw [hc, Nat.succ_mul]; omega)]
    have : (k + 1) * size + j - c.length = k * size + j := by rw [hc, Nat.succ_mul]; omega
    rw [this, ih]
    simp

theorem flatten_len {α : Type} {size : Nat} : ∀ (css : List (List α)), (∀ c ∈ css, c.length = size) → css.flatten.length = css.length * size
  | [], _ => by simp
  | c :: r, h => by
    have hc : c.length = size := h c (by simp)
    have ih := flatten_len r (fun c' h' => h c' (by simp [h']))
    simp [List.flatten_cons, ih, hc, Nat.succ_mul]
    omega

theorem open_SL {α : Type} (R : List Value → α → Prop) {size : Nat} {t e : TypeId} {fuel : Nat} {cs : List Value} {x : DataW H × List MemPlace} (hs : 0 < size) (hC : P.cellsOf e = size)
    (hel : ∀ fuel cs x, DataW.trod enc P w base spare held fuel e cs = some x → ∃ a, R cs a) (ht : P.underlying t = some (.slice e)) (h : DataW.trod enc P w base spare held fuel t cs = some x) :
    ∃ (v : Value) (css : List (List Value)) (l : List α), cs = [v] ∧ SL w w.heap.size size v l.length (List.flatten css) ∧ css.length = l.length ∧ (∀ c ∈ css, c.length = size) ∧ ∀ (i : Nat) c a, css[i]? = some c → l[i]? = some a → R c a := by
  rcases open_slice ht h with ⟨rfl, _⟩ | ⟨a, len, cap, m, n, D, Pl, rfl, _, hl, hm, hmm, _, hi⟩
  · exact ⟨_, [], [], rfl, SL.nil_ _ _ _, rfl, (by simp), (by simp)⟩
  · have hle : len ≤ m := by rw [hmm]; split <;> omega
    obtain ⟨ps, hpl, hp⟩ := pick_list (fun i (p : List Value × α) => w.cells? base (a.add (i * size)) size = some p.1 ∧ R p.1 p.2) len (fun i hlt => by
      obtain ⟨cs', hc, htr⟩ := hi i (by omega)
      obtain ⟨b, hb⟩ := hel _ _ _ htr
      exact ⟨(cs', b), by rw [hC] at hc; exact hc, hb⟩)
    have hlen : ∀ c ∈ ps.map (·.1), c.length = size := by
      intro c hc
      obtain ⟨p, hpm, rfl⟩ := List.mem_map.1 hc
      obtain ⟨i, hilt, hie⟩ := List.getElem_of_mem hpm
      have := (hp i p (by rw [List.getElem?_eq_getElem hilt, hie])).1
      obtain ⟨_, hlc, _⟩ := World.cells?_some this
      exact hlc
    refine ⟨_, ps.map (·.1), ps.map (·.2), rfl, ?_, by simp, hlen, ?_⟩
    · refine ⟨by rw [flatten_len _ hlen]; simp, some a, cap, by simp [hpl], by simpa [hpl] using hl, hm, (fun h => by cases h), fun hn => ?_⟩
      have h0 : 0 < len := by simpa [hpl] using hn
      obtain ⟨b, off, spot⟩ := a
      have hcell : ∀ i j, i < len → j < size → w.cell? ((⟨b, off, spot⟩ : Addr).add (i * size + j)) = (ps.map (·.1)).flatten[i * size + j]? := by
        intro i j hil hj
        have hilt : i < ps.length := by omega
        have hpi := hp i (ps[i]) (List.getElem?_eq_getElem hilt)
        obtain ⟨_, _, hat⟩ := World.cells?_some hpi.1
        have := hat j hj
        rw [← Go.Deep.add_add] 
        rw [this, flatten_at _ hlen i j hj]
        simp [hilt]
      have hfl : (ps.map (·.1)).flatten.length = len * size := by rw [flatten_len _ hlen]; simp [hpl]
      have c0 := hcell 0 0 h0 hs
      have hpos : 0 < (ps.map (·.1)).flatten.length := by rw [hfl]; exact Nat.mul_pos h0 hs
      simp only [Nat.zero_mul, Nat.zero_add] at c0
      rw [List.getElem?_eq_getElem hpos] at c0
      have hspot : spot = none := by simpa [Addr.add] using World.cell?_spot c0
      subst hspot
      have hlt := World.block_lt_of_cell? w _ c0
      refine ⟨b, off, rfl, by simpa [Addr.add] using hlt, fun j u hu => ?_⟩
      have hjl : j < len * size := by
        rcases Nat.lt_or_ge j (len * size) with h1 | h1
        · exact h1
        · rw [List.getElem?_eq_none (by omega)] at hu; cases hu
      have hdm : j = j / size * size + j % size := by rw [Nat.mul_comm]; exact (Nat.div_add_mod j size).symm
      have h1 : j / size < len := Nat.div_lt_of_lt_mul (by rw [Nat.mul_comm]; exact hjl)
      have := hcell (j / size) (j % size) h1 (Nat.mod_lt _ hs)
      rw [← hdm, hu] at this
      rw [plain_add] at this
      exact this
    · intro i c b hc hb
      simp only [List.getElem?_map, Option.map_eq_some_iff] at hc hb
      obtain ⟨p, hpi, rfl⟩ := hc
      obtain ⟨q, hqi, rfl⟩ := hb
      rw [hpi] at hqi
      cases hqi
      exact (hp i p hpi).2
end
end Go.Proofs.YtpbflgemhcaooaaDoor
/- Two closed facts of the program. -/
namespace Go.Proofs.YtpbflgemhcaooaaDoor
open Go
theorem Tryd.own : ownKnob Tryd.prog.godebug = none := by kernel_rfl
theorem Tryd.laidOut : laidOutB Tryd.prog = true := by kernel_rfl
end Go.Proofs.YtpbflgemhcaooaaDoor
