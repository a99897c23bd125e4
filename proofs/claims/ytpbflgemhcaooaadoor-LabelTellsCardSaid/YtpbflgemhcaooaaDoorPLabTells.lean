import Derived.Test.YtpbflgemhcaooaaDoorLb27
import Derived.Test.YtpbflgemhcaooaaDoorPRefCheckW
import Derived.Test.YtpbflgemhcaooaaDoorLb4
/- LabelTells: its walk. -/
namespace Go.Proofs.YtpbflgemhcaooaaDoor
open Go.RowKit
set_option linter.unusedSimpArgs false
set_option linter.unusedVariables false
set_option maxRecDepth 8000 in
set_option maxHeartbeats 3200000 in
theorem labelTells_walk (s : List UInt8) (w : World) (hv : Vars w) (hs : s.length ≤ 9223372036854775807) :
    Calls Tryd.prog 3 #[.string ⟨(s).toArray⟩] w fun e w' => e = .returned (.bool true) ∧ Below w.heap.size w w' := by
  have CP := Lib.hid (refParseFn s w hv hs)
  have HSM := Lib.hid (Ev.parse_sm s)
  have HWF := Lib.hid (Ev.parse_wf s)
  obtain ⟨er, her⟩ : ∃ er, (Ev.parseW s).2 = er := ⟨_, rfl⟩
  rw [her] at CP HWF
  generalize (Ev.parseW s).1 = f at *
  clear hv her
  go_enter Tryd.func3, Tryd.ntmps3
  go_upto_region 2 with (go_at_call 14; refine CP.out.mono ?_; rintro e w2 ⟨v1, v2, v3, rfl, hr, hb2⟩; obtain ⟨D1, m1, rfl, _, _⟩ := SL.form hr.1; obtain ⟨D2, m2, rfl, _, _⟩ := SL.form hr.2.1; obtain ⟨D3, m3, rfl⟩ := hr.2.2.1.slice)
  have b3 : Below w2.heap.size w2 (w2.alloc (.cells #[.slice D1 f.params.length m1, .slice D2 f.arrays.length m2, .slice D3 f.body.length m3] 25)) := (Below.refl _ _).alloc (Nat.le_refl _) _
  have r3 := heap_alloc_new w2 (.cells #[.slice D1 f.params.length m1, .slice D2 f.arrays.length m2, .slice D3 f.body.length m3] 25)
  have HR := Lib.hid ((hr.loose (fun k hk => hk.2)).on b3)
  have HB := Lib.hid (hb2.trans (b3.mono hb2.size))
  clear hr hb2 b3 CP
  generalize w2.alloc (.cells #[.slice D1 f.params.length m1, .slice D2 f.arrays.length m2, .slice D3 f.body.length m3] 25) = w3 at *
  generalize w2.heap.size = fb at *
  have zf := (Array.getElem?_eq_some_iff.1 r3).1
  have k0 : w3.cell? ⟨fb, 0, none⟩ = some (.slice D1 f.params.length m1) := cell_of_block r3 0
  have k1 : w3.cell? ⟨fb, 1, none⟩ = some (.slice D2 f.arrays.length m2) := cell_of_block r3 1
  have k2 : w3.cell? ⟨fb, 2, none⟩ = some (.slice D3 f.body.length m3) := cell_of_block r3 2
  clear r3
  by_cases he : er = 0
  case neg =>
    have ge : (er != 0) = true := bne_iff_ne.2 he
    clear he
    refine wp_region_chain (fun w' => Below (w3).heap.size (w3) w') (by kernel_rfl) (by kernel_rfl) (by (repeat' first | with_reducible (first | exact Below.refl _ _ | assumption | refine Below.alloc ?_ ?_ _ | refine below_drewN ?_ _ | refine Below.drew ?_ | refine Below.setCell ?_ ?_ _ | refine Below.trans ?_ (Below.mono (by with_reducible assumption) ?_)) | go_size)) ?_
    repeat (
      apply chain_cons
      case h =>
        refine fun w9 hb9 => ?_
        have hB9 : Below w3.heap.size w3 w9 := by (repeat' first | with_reducible (first | exact Below.refl _ _ | assumption | refine Below.alloc ?_ ?_ _ | refine below_drewN ?_ _ | refine Below.drew ?_ | refine Below.setCell ?_ ?_ _ | refine Below.trans ?_ (Below.mono (by with_reducible assumption) ?_)) | go_size)
        obtain ⟨kc9, kf9, s9⟩ := bfacts hb9
        obtain ⟨kd9, kg9, _⟩ := bfacts hB9
        go_wp2_with (fail)
        (try (fail; go_wp2_with fail))
        refine settled_intro (S := fun w' => Below (w3).heap.size (w3) w') ?_
        (repeat' first | with_reducible (first | exact Below.refl _ _ | assumption | refine Below.alloc ?_ ?_ _ | refine below_drewN ?_ _ | refine Below.drew ?_ | refine Below.setCell ?_ ?_ _ | refine Below.trans ?_ (Below.mono (by with_reducible assumption) ?_)) | go_size)
      case hp => first | rfl | (simp only [*]; done) | (simp only [*]; rfl))
    refine chain.nil ?_
    refine fun w2 hb2 => ?_
    have B2 : Below w3.heap.size w3 w2 := by (repeat' first | with_reducible (first | exact Below.refl _ _ | assumption | refine Below.alloc ?_ ?_ _ | refine below_drewN ?_ _ | refine Below.drew ?_ | refine Below.setCell ?_ ?_ _ | refine Below.trans ?_ (Below.mono (by with_reducible assumption) ?_)) | go_size)
    obtain ⟨kc2, kf2, s2⟩ := bfacts hb2
    obtain ⟨kd2, kg2, _⟩ := bfacts B2
    (try simp only [World.size_alloc, World.size_setCell, World.size_drew, World.heap_drewN, Nat.add_one_le_iff] at s2)
    clear hb2
    have hb2 := B2
    clear B2
    have B2 : Hid (Below w3.heap.size w3 w2) := hb2
    (try have z2 : w3.heap.size < w2.heap.size := by omega)
    (try dsimp only)
    go_wp2_with fail
    go_ret
    exact ⟨rfl, HB.out.trans (hb2.mono HB.out.size)⟩
  case pos =>
  have HWB := Lib.hid (HWF.out he)
  subst he
  have HP1 := HSM.out.params
  have HP2 := HSM.out.arrays
  have C1 := Lib.hid (fun u (hu : Below w3.heap.size w3 u) => lookCheck f _ _ _ u (HR.out.on hu) HWB.out.body (by omega) (by omega))
  have C2 := Lib.hid (fun u (hu : Below w3.heap.size w3 u) => refCheck4 f _ _ _ u (HR.out.on hu) HWB.out (by omega) (by omega))
  generalize Ev.checkC f = g at *
  clear HWF HSM HP1 HP2
  refine wp_region_chain (fun w' => Below (w3).heap.size (w3) w') (by kernel_rfl) (by kernel_rfl) (by (repeat' first | with_reducible (first | exact Below.refl _ _ | assumption | refine Below.alloc ?_ ?_ _ | refine below_drewN ?_ _ | refine Below.drew ?_ | refine Below.setCell ?_ ?_ _ | refine Below.trans ?_ (Below.mono (by with_reducible assumption) ?_)) | go_size)) ?_
  repeat (
    apply chain_cons
    case h =>
      refine fun w9 hb9 => ?_
      have hB9 : Below w3.heap.size w3 w9 := by (repeat' first | with_reducible (first | exact Below.refl _ _ | assumption | refine Below.alloc ?_ ?_ _ | refine below_drewN ?_ _ | refine Below.drew ?_ | refine Below.setCell ?_ ?_ _ | refine Below.trans ?_ (Below.mono (by with_reducible assumption) ?_)) | go_size)
      obtain ⟨kc9, kf9, s9⟩ := bfacts hb9
      obtain ⟨kd9, kg9, _⟩ := bfacts hB9
      go_wp2_with (fail)
      (try ((first | (go_at_call 15; refine (C1.out _ hb9).mono ?_; rintro _ _ ⟨rfl, hb8⟩) | (go_at_call 16; refine (C2.out _ hb9).mono ?_; rintro _ _ ⟨rfl, hb8⟩)); go_wp2_with fail))
      refine settled_intro (S := fun w' => Below (w3).heap.size (w3) w') ?_
      (repeat' first | with_reducible (first | exact Below.refl _ _ | assumption | refine Below.alloc ?_ ?_ _ | refine below_drewN ?_ _ | refine Below.drew ?_ | refine Below.setCell ?_ ?_ _ | refine Below.trans ?_ (Below.mono (by with_reducible assumption) ?_)) | go_size)
    case hp => first | rfl | (simp only [*]; done) | (simp only [*]; rfl))
  refine chain.nil ?_
  refine fun w2 hb2 => ?_
  have B2 : Below w3.heap.size w3 w2 := by (repeat' first | with_reducible (first | exact Below.refl _ _ | assumption | refine Below.alloc ?_ ?_ _ | refine below_drewN ?_ _ | refine Below.drew ?_ | refine Below.setCell ?_ ?_ _ | refine Below.trans ?_ (Below.mono (by with_reducible assumption) ?_)) | go_size)
  obtain ⟨kc2, kf2, s2⟩ := bfacts hb2
  obtain ⟨kd2, kg2, _⟩ := bfacts B2
  (try simp only [World.size_alloc, World.size_setCell, World.size_drew, World.heap_drewN, Nat.add_one_le_iff] at s2)
  clear hb2
  have hb2 := B2
  clear B2
  have B2 : Hid (Below w3.heap.size w3 w2) := hb2
  (try have z2 : w3.heap.size < w2.heap.size := by omega)
  (try dsimp only)
  go_wp2_with fail
  go_ret
  exact ⟨by simp, HB.out.trans (hb2.mono HB.out.size)⟩
end Go.Proofs.YtpbflgemhcaooaaDoor
