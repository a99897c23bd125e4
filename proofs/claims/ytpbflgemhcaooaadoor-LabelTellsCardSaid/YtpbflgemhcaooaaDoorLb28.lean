import Derived.Test.YtpbflgemhcaooaaDoorLb27
import Derived.Test.YtpbflgemhcaooaaDoorLb5
import Derived.Test.YtpbflgemhcaooaaDoorCards
import Derived.Test.YtpbflgemhcaooaaDoorTie
import Derived.Stop.LaidErr
import Derived.Lib.LaidTab
import Derived.LaidMore
import Derived.MakeChecks
import Derived.ProofKit
import Derived.OpenShut
import Derived.Deep.Slices
import Derived.Deep.Fields
import Derived.ChangeSame
import Derived.Test.YtpbflgemhcaooaaDoorLb4
import Derived.Test.YtpbflgemhcaooaaDoorProg
/- LabelPublic: its walk. -/
namespace Ev
theorem pub_small {f : Fn1} (h : SmF f) : (pubF f).params.length ≤ 1000000 ∧ (pubF f).arrays.length ≤ 1000000 := by
  have h1 := h.params
  have h2 := h.arrays
  simp only [pubF, List.length_map]
  omega
end Ev
namespace Go.Proofs.YtpbflgemhcaooaaDoor
open Go.RowKit
set_option linter.unusedSimpArgs false
set_option linter.unusedVariables false
set_option maxRecDepth 8000 in
set_option maxHeartbeats 6400000 in
theorem labelPublic_walk (s : List UInt8) (w : World) (hv : Vars w) (hs : s.length ≤ 9223372036854775807) :
    Calls Tryd.prog 4 #[.string ⟨(s).toArray⟩] w fun e w' => e = .returned (.bool true) ∧ Below w.heap.size w w' := by
  have HV := Lib.hid hv
  have CA := Lib.hid (alive4_any w hv)
  have CP := Lib.hid (fun u hu => refParseFn s u hu hs)
  have HSM := Lib.hid (Ev.parse_sm s)
  have HWF := Lib.hid (Ev.parse_wf s)
  have HLAW := Lib.hid (Ev.public_law (Ev.parseW s).1)
  obtain ⟨er, her⟩ : ∃ er, (Ev.parseW s).2 = er := ⟨_, rfl⟩
  rw [her] at CP HWF
  generalize (Ev.parseW s).1 = f at *
  clear hv her
  go_enter Tryd.func4, Tryd.ntmps4
  go_upto_region 3 with (go_at_call 17; refine CA.out.mono ?_; rintro e w1 ⟨rfl, hb1⟩)
  have HV1 := Lib.hid (HV.out.stays hb1)
  go_upto_region 4 with (go_at_call 14; refine (CP.out _ HV1.out).mono ?_; rintro e w2 ⟨v1, v2, v3, rfl, hr, hb2⟩; obtain ⟨D1, m1, rfl, _, _⟩ := SL.form hr.1; obtain ⟨D2, m2, rfl, _, _⟩ := SL.form hr.2.1; obtain ⟨D3, m3, rfl⟩ := hr.2.2.1.slice)
  have b3 : Below w2.heap.size w2 (w2.alloc (.cells #[.slice D1 f.params.length m1, .slice D2 f.arrays.length m2, .slice D3 f.body.length m3] 25)) := (Below.refl _ _).alloc (Nat.le_refl _) _
  have r3 := heap_alloc_new w2 (.cells #[.slice D1 f.params.length m1, .slice D2 f.arrays.length m2, .slice D3 f.body.length m3] 25)
  have HR := Lib.hid ((hr.loose (fun k hk => hk.2)).on b3)
  have HB := Lib.hid (hb1.trans ((hb2.mono hb1.size).trans (b3.mono (Nat.le_trans hb1.size hb2.size))))
  clear hr hb1 hb2 b3 CA CP HV HV1
  generalize w2.alloc (.cells #[.slice D1 f.params.length m1, .slice D2 f.arrays.length m2, .slice D3 f.body.length m3] 25) = w3 at *
  generalize w2.heap.size = fb at *
  by_cases he : er = 0
  case neg =>
    have ge : (er != 0) = true := bne_iff_ne.2 he
    clear he
    go_wp2_with fail
    go_ret
    exact ⟨rfl, HB.out⟩
  case pos =>
  have HWB := Lib.hid (HWF.out he).body
  subst he
  have zf := (Array.getElem?_eq_some_iff.1 r3).1
  have k0 : w3.cell? ⟨fb, 0, none⟩ = some (.slice D1 f.params.length m1) := cell_of_block r3 0
  have k1 : w3.cell? ⟨fb, 1, none⟩ = some (.slice D2 f.arrays.length m2) := cell_of_block r3 1
  have k2 : w3.cell? ⟨fb, 2, none⟩ = some (.slice D3 f.body.length m3) := cell_of_block r3 2
  have R3 := Lib.hid r3
  have C1 := Lib.hid (fun u (hu : Below w3.heap.size w3 u) => vars4_any f.params (.slice D1 f.params.length m1) u (HR.out.1.on hu) HSM.out.params)
  have C2 := Lib.hid (fun u (hu : Below w3.heap.size w3 u) => vars4_any f.arrays (.slice D2 f.arrays.length m2) u (HR.out.2.1.on hu) HSM.out.arrays)
  have C3 := Lib.hid (fun u (hu : Below w3.heap.size w3 u) => all4_all 10 f.body (.slice D3 f.body.length m3) u (fun k => k < w3.heap.size) (fun k hk => by have := hu.size; omega) (RStL.on HR.out.2.2.1 hu) HSM.out.body HSM.out.all_)
  obtain ⟨P1, hP1⟩ : ∃ P1, f.params.map Ev.pubP = P1 := ⟨_, rfl⟩
  obtain ⟨P2, hP2⟩ : ∃ P2, f.arrays.map Ev.pubP = P2 := ⟨_, rfl⟩
  obtain ⟨P3, hP3⟩ : ∃ P3, Ev.pubL f.body = P3 := ⟨_, rfl⟩
  have HPF := Lib.hid (show Ev.pubF f = ⟨P1, P2, P3⟩ by rw [← hP1, ← hP2, ← hP3]; rfl)
  have HPS := Lib.hid (Ev.pub_small HSM.out)
  have HSM2 := Lib.hid HSM.out
  have HPW := Lib.hid (Ev.pubL_wf f.body HWB.out)
  rw [hP1] at C1
  rw [hP2] at C2
  rw [hP3] at C3 HPW
  rw [HPF.out] at HPS HLAW
  clear r3 hP1 hP2 hP3
  go_upto_region 6 with fail
  refine wp_region_flockD_tail 11 (fun k => match k with | 2 => some (Bv.prs P1) | 5 => some (Bv.prs P2) | 8 => some (Bv.std 10 (fun k => k < w3.heap.size) P3) | 10 => some (Bv.box w3.heap.size #[.slice none 0 0, .slice none 0 0, .slice none 0 0] 25) | _ => none) (by kernel_rfl) (by kernel_rfl) (by kernel_rfl) (by kernel_rfl) ?_
  simp only [List.take_succ_cons, List.take_zero, List.drop_succ_cons, List.drop_zero]
  apply flockD_light rfl
  case h => first | exact light_no (by rfl) | ((first | apply light_plain rfl | apply light_yes (by rfl)); intro w9 hw9; obtain ⟨hb9, hh9⟩ := hw9; skip; go_simp; try rfl)
  (try simp only [Act.put, List.setIfInBounds_toArray, List.set_cons_zero, List.set_cons_succ])
  apply flockD_light rfl
  case h => first | exact light_no (by rfl) | ((first | apply light_plain rfl | apply light_yes (by rfl)); intro w9 hw9; obtain ⟨hb9, hh9⟩ := hw9; have hB9 : Below w3.heap.size w3 w9 := (by (repeat' first | with_reducible (first | exact Below.refl _ _ | assumption | refine Below.alloc ?_ ?_ _ | refine below_drewN ?_ _ | refine Below.drew ?_ | refine Below.setCell ?_ ?_ _ | refine Below.trans ?_ (Below.mono (by with_reducible assumption) ?_)) | go_size)); obtain ⟨kc9, kf9, s9⟩ := bfacts hb9; obtain ⟨kd9, kg9, _⟩ := bfacts hB9; skip; go_simp; try rfl)
  (try simp only [Act.put, List.setIfInBounds_toArray, List.set_cons_zero, List.set_cons_succ])
  refine flockD_heavy _ rfl ?_ ?_
  · intro w9 hb9 hh9
    have hB9 : Below w3.heap.size w3 w9 := (by (repeat' first | with_reducible (first | exact Below.refl _ _ | assumption | refine Below.alloc ?_ ?_ _ | refine below_drewN ?_ _ | refine Below.drew ?_ | refine Below.setCell ?_ ?_ _ | refine Below.trans ?_ (Below.mono (by with_reducible assumption) ?_)) | go_size))
    obtain ⟨kc9, kf9, s9⟩ := bfacts hb9
    obtain ⟨kd9, kg9, _⟩ := bfacts hB9
    skip
    go_wp2_with (go_at_call 18; with_reducible refine (C1.out _ hB9).mono ?_; rintro e w6 ⟨v6, rfl, hR6, hK6, hb6⟩)
    refine bornTo_at (by rfl) (by (repeat' first | with_reducible (first | exact Below.refl _ _ | assumption | refine Below.alloc ?_ ?_ _ | refine below_drewN ?_ _ | refine Below.drew ?_ | refine Below.setCell ?_ ?_ _ | refine Below.trans ?_ (Below.mono (by with_reducible assumption) ?_)) | go_size)) ?_
    exact ⟨hR6, hK6, Nat.le_refl _⟩
  intro x2 y2 ok2
  (try simp only [Act.put, List.setIfInBounds_toArray, List.set_cons_zero, List.set_cons_succ])
  (try dsimp only [Bv.box, Bv.prs, Bv.std] at ok2)
  first | subst ok2 | (obtain ⟨A2, c2, ok2⟩ := ok2; subst ok2) | (obtain ⟨A2, ok2⟩ := ok2; subst ok2) | skip
  apply flockD_light rfl
  case h => first | exact light_no (by rfl) | ((first | apply light_plain rfl | apply light_yes (by rfl)); intro w9 hw9; obtain ⟨hb9, hh9⟩ := hw9; skip; go_simp; try rfl)
  (try simp only [Act.put, List.setIfInBounds_toArray, List.set_cons_zero, List.set_cons_succ])
  apply flockD_light rfl
  case h => first | exact light_no (by rfl) | ((first | apply light_plain rfl | apply light_yes (by rfl)); intro w9 hw9; obtain ⟨hb9, hh9⟩ := hw9; have hB9 : Below w3.heap.size w3 w9 := (by (repeat' first | with_reducible (first | exact Below.refl _ _ | assumption | refine Below.alloc ?_ ?_ _ | refine below_drewN ?_ _ | refine Below.drew ?_ | refine Below.setCell ?_ ?_ _ | refine Below.trans ?_ (Below.mono (by with_reducible assumption) ?_)) | go_size)); obtain ⟨kc9, kf9, s9⟩ := bfacts hb9; obtain ⟨kd9, kg9, _⟩ := bfacts hB9; skip; go_simp; try rfl)
  (try simp only [Act.put, List.setIfInBounds_toArray, List.set_cons_zero, List.set_cons_succ])
  refine flockD_heavy _ rfl ?_ ?_
  · intro w9 hb9 hh9
    have hB9 : Below w3.heap.size w3 w9 := (by (repeat' first | with_reducible (first | exact Below.refl _ _ | assumption | refine Below.alloc ?_ ?_ _ | refine below_drewN ?_ _ | refine Below.drew ?_ | refine Below.setCell ?_ ?_ _ | refine Below.trans ?_ (Below.mono (by with_reducible assumption) ?_)) | go_size))
    obtain ⟨kc9, kf9, s9⟩ := bfacts hb9
    obtain ⟨kd9, kg9, _⟩ := bfacts hB9
    have r2 := hh9 _ (.head _) (by kernel_rfl); dsimp only [Bv.box, Bv.prs, Bv.std] at r2; (first | replace r2 := lit_heap r2 | replace r2 := box_heap r2 | skip); skip
    go_wp2_with (go_at_call 18; with_reducible refine (C2.out _ hB9).mono ?_; rintro e w6 ⟨v6, rfl, hR6, hK6, hb6⟩)
    refine bornTo_at (by rfl) (by (repeat' first | with_reducible (first | exact Below.refl _ _ | assumption | refine Below.alloc ?_ ?_ _ | refine below_drewN ?_ _ | refine Below.drew ?_ | refine Below.setCell ?_ ?_ _ | refine Below.trans ?_ (Below.mono (by with_reducible assumption) ?_)) | go_size)) ?_
    exact ⟨hR6, hK6, Nat.le_refl _⟩
  intro x5 y5 ok5
  (try simp only [Act.put, List.setIfInBounds_toArray, List.set_cons_zero, List.set_cons_succ])
  (try dsimp only [Bv.box, Bv.prs, Bv.std] at ok5)
  first | subst ok5 | (obtain ⟨A5, c5, ok5⟩ := ok5; subst ok5) | (obtain ⟨A5, ok5⟩ := ok5; subst ok5) | skip
  apply flockD_light rfl
  case h => first | exact light_no (by rfl) | ((first | apply light_plain rfl | apply light_yes (by rfl)); intro w9 hw9; obtain ⟨hb9, hh9⟩ := hw9; skip; go_simp; try rfl)
  (try simp only [Act.put, List.setIfInBounds_toArray, List.set_cons_zero, List.set_cons_succ])
  apply flockD_light rfl
  case h => first | exact light_no (by rfl) | ((first | apply light_plain rfl | apply light_yes (by rfl)); intro w9 hw9; obtain ⟨hb9, hh9⟩ := hw9; have hB9 : Below w3.heap.size w3 w9 := (by (repeat' first | with_reducible (first | exact Below.refl _ _ | assumption | refine Below.alloc ?_ ?_ _ | refine below_drewN ?_ _ | refine Below.drew ?_ | refine Below.setCell ?_ ?_ _ | refine Below.trans ?_ (Below.mono (by with_reducible assumption) ?_)) | go_size)); obtain ⟨kc9, kf9, s9⟩ := bfacts hb9; obtain ⟨kd9, kg9, _⟩ := bfacts hB9; skip; go_simp; try rfl)
  (try simp only [Act.put, List.setIfInBounds_toArray, List.set_cons_zero, List.set_cons_succ])
  refine flockD_heavy _ rfl ?_ ?_
  · intro w9 hb9 hh9
    have hB9 : Below w3.heap.size w3 w9 := (by (repeat' first | with_reducible (first | exact Below.refl _ _ | assumption | refine Below.alloc ?_ ?_ _ | refine below_drewN ?_ _ | refine Below.drew ?_ | refine Below.setCell ?_ ?_ _ | refine Below.trans ?_ (Below.mono (by with_reducible assumption) ?_)) | go_size))
    obtain ⟨kc9, kf9, s9⟩ := bfacts hb9
    obtain ⟨kd9, kg9, _⟩ := bfacts hB9
    have r5 := hh9 _ (.head _) (by kernel_rfl); dsimp only [Bv.box, Bv.prs, Bv.std] at r5; (first | replace r5 := lit_heap r5 | replace r5 := box_heap r5 | skip); have r2 := hh9 _ (.tail _ (.head _)) (by kernel_rfl); dsimp only [Bv.box, Bv.prs, Bv.std] at r2; (first | replace r2 := lit_heap r2 | replace r2 := box_heap r2 | skip); skip
    go_wp2_with (go_at_call 19; refine (C3.out _ hB9).mono ?_; rintro e w6 ⟨v6, rfl, hR6, hb6⟩)
    refine bornTo_at (by rfl) (by (repeat' first | with_reducible (first | exact Below.refl _ _ | assumption | refine Below.alloc ?_ ?_ _ | refine below_drewN ?_ _ | refine Below.drew ?_ | refine Below.setCell ?_ ?_ _ | refine Below.trans ?_ (Below.mono (by with_reducible assumption) ?_)) | go_size)) ?_
    exact ⟨hR6, Nat.le_refl _⟩
  intro x8 y8 ok8
  (try simp only [Act.put, List.setIfInBounds_toArray, List.set_cons_zero, List.set_cons_succ])
  (try dsimp only [Bv.box, Bv.prs, Bv.std] at ok8)
  first | subst ok8 | (obtain ⟨A8, c8, ok8⟩ := ok8; subst ok8) | (obtain ⟨A8, ok8⟩ := ok8; subst ok8) | skip
  apply flockD_light rfl
  case h => first | exact light_no (by rfl) | ((first | apply light_plain rfl | apply light_yes (by rfl)); intro w9 hw9; obtain ⟨hb9, hh9⟩ := hw9; have hB9 : Below w3.heap.size w3 w9 := (by (repeat' first | with_reducible (first | exact Below.refl _ _ | assumption | refine Below.alloc ?_ ?_ _ | refine below_drewN ?_ _ | refine Below.drew ?_ | refine Below.setCell ?_ ?_ _ | refine Below.trans ?_ (Below.mono (by with_reducible assumption) ?_)) | go_size)); obtain ⟨kc9, kf9, s9⟩ := bfacts hb9; obtain ⟨kd9, kg9, _⟩ := bfacts hB9; have r8 := hh9 _ (.head _) (by kernel_rfl); dsimp only [Bv.box, Bv.prs, Bv.std] at r8; (first | replace r8 := lit_heap r8 | replace r8 := box_heap r8 | skip); have r5 := hh9 _ (.tail _ (.head _)) (by kernel_rfl); dsimp only [Bv.box, Bv.prs, Bv.std] at r5; (first | replace r5 := lit_heap r5 | replace r5 := box_heap r5 | skip); have r2 := hh9 _ (.tail _ (.tail _ (.head _))) (by kernel_rfl); dsimp only [Bv.box, Bv.prs, Bv.std] at r2; (first | replace r2 := lit_heap r2 | replace r2 := box_heap r2 | skip); skip; go_simp; try rfl)
  (try simp only [Act.put, List.setIfInBounds_toArray, List.set_cons_zero, List.set_cons_succ])
  refine flockD_heavy _ rfl ?_ ?_
  · intro w9 hb9 hh9
    have hB9 : Below w3.heap.size w3 w9 := (by (repeat' first | with_reducible (first | exact Below.refl _ _ | assumption | refine Below.alloc ?_ ?_ _ | refine below_drewN ?_ _ | refine Below.drew ?_ | refine Below.setCell ?_ ?_ _ | refine Below.trans ?_ (Below.mono (by with_reducible assumption) ?_)) | go_size))
    obtain ⟨kc9, kf9, s9⟩ := bfacts hb9
    obtain ⟨kd9, kg9, _⟩ := bfacts hB9
    skip
    go_wp2_with fail
    refine bornTo_at (by rfl) (by (repeat' first | with_reducible (first | exact Below.refl _ _ | assumption | refine Below.alloc ?_ ?_ _ | refine below_drewN ?_ _ | refine Below.drew ?_ | refine Below.setCell ?_ ?_ _ | refine Below.trans ?_ (Below.mono (by with_reducible assumption) ?_)) | go_size)) ?_
    exact ⟨_, rfl, by go_size, by go_size, by go_size, heap_alloc_new _ _⟩
  intro x10 y10 ok10
  (try simp only [Act.put, List.setIfInBounds_toArray, List.set_cons_zero, List.set_cons_succ])
  (try dsimp only [Bv.box, Bv.prs, Bv.std] at ok10)
  first | subst ok10 | (obtain ⟨A10, c10, ok10⟩ := ok10; subst ok10) | (obtain ⟨A10, ok10⟩ := ok10; subst ok10) | skip
  refine flockD_nil ?_
  intro w9 hb9 hh9 hd9
  have hB9 : Below w3.heap.size w3 w9 := (by (repeat' first | with_reducible (first | exact Below.refl _ _ | assumption | refine Below.alloc ?_ ?_ _ | refine below_drewN ?_ _ | refine Below.drew ?_ | refine Below.setCell ?_ ?_ _ | refine Below.trans ?_ (Below.mono (by with_reducible assumption) ?_)) | go_size))
  have r10 := hh9 _ (.head _); dsimp only [Bv.box, Bv.prs, Bv.std] at r10; (first | replace r10 := lit_heap r10 | replace r10 := box_heap r10 | skip); have r8 := hh9 _ (.tail _ (.head _)); dsimp only [Bv.box, Bv.prs, Bv.std] at r8; (first | replace r8 := lit_heap r8 | replace r8 := box_heap r8 | skip); have r5 := hh9 _ (.tail _ (.tail _ (.head _))); dsimp only [Bv.box, Bv.prs, Bv.std] at r5; (first | replace r5 := lit_heap r5 | replace r5 := box_heap r5 | skip); have r2 := hh9 _ (.tail _ (.tail _ (.tail _ (.head _)))); dsimp only [Bv.box, Bv.prs, Bv.std] at r2; (first | replace r2 := lit_heap r2 | replace r2 := box_heap r2 | skip); clear hh9
  have d9_2_5 := (pw_get hd9 2 3 (by decide) rfl rfl).symm
  have d9_2_8 := (pw_get hd9 1 3 (by decide) rfl rfl).symm
  have d9_2_10 := (pw_get hd9 0 3 (by decide) rfl rfl).symm
  have d9_5_8 := (pw_get hd9 1 2 (by decide) rfl rfl).symm
  have d9_5_10 := (pw_get hd9 0 2 (by decide) rfl rfl).symm
  have d9_8_10 := (pw_get hd9 0 1 (by decide) rfl rfl).symm
  clear hd9
  (try dsimp only)
  obtain ⟨h100, h101, h102, h103⟩ := bvbox r10
  have R10 := Lib.hid h103
  have R2 := Lib.hid r2
  have R5 := Lib.hid r5
  have R8 := Lib.hid r8
  have D2 := Lib.hid (fun k (hk : y2.1 ≤ k ∧ k < y2.2) => apart_ne d9_2_10 hk.1 hk.2 h101 h102)
  have D5 := Lib.hid (fun k (hk : y5.1 ≤ k ∧ k < y5.2) => apart_ne d9_5_10 hk.1 hk.2 h101 h102)
  have D8 := Lib.hid (fun k (hk : k < w3.heap.size ∨ (y8.1 ≤ k ∧ k < y8.2)) => show k ≠ A10 from hk.elim (fun h => by omega) (fun h => apart_ne d9_8_10 h.1 h.2 h101 h102))
  have HB9 := Lib.hid hB9
  have z10 := (Array.getElem?_eq_some_iff.1 h103).1
  clear r2 r5 r8 r10 h103 h101 h102 hb9 hB9 d9_2_5 d9_2_8 d9_2_10 d9_5_8 d9_5_10 d9_8_10 C1 C2 C3 k0 k1 k2
  go_upto_region 7 with (refine wpList_put_all (cells := #[.slice A2 P1.length c2, .slice A5 P2.length c5, .slice A8 P3.length c8]) rfl 25 _ _ rfl rfl rfl R10.out rfl (by kernel_rfl) (by simp [Value.oneCell']) ?_; intro w4 hr4 hf4 hz4)
  have hs9 := HB9.out.size
  have s4 := hf4.size
  have HG : Hid (RFn w4 (fun k => k < w4.heap.size) (.slice A2 P1.length c2) (.slice A5 P2.length c5) (.slice A8 P3.length c8) ⟨P1, P2, P3⟩) := Lib.hid ⟨SL.keep (K := fun k => k ≠ A10) R2.out.1 (fun a n c e => D2.out _ (R2.out.2.1 a n c e)) s4 (fun k hk hkl => hf4.block k hkl hk), SL.keep (K := fun k => k ≠ A10) R5.out.1 (fun a n c e => D5.out _ (R5.out.2.1 a n c e)) s4 (fun k hk hkl => hf4.block k hkl hk), RStL.wide (fun k hk => by have := R8.out.2; rcases hk with hk | hk <;> omega) 10 _ _ (RStL.keep s4 (fun k hk hkl => hf4.block k hkl (D8.out k hk)) 10 _ _ R8.out.1), fun a n c e => by have := R2.out.2.1 a n c e; have := R2.out.2.2; omega, fun a n c e => by have := R5.out.2.1 a n c e; have := R5.out.2.2; omega⟩
  have HB4 : Hid (Below w3.heap.size w3 w4) := Lib.hid ⟨hf4.os.trans HB9.out.os, hf4.tape.trans HB9.out.tape, hf4.output.trans HB9.out.output, Nat.le_trans hs9 s4, fun k hk => (hf4.block k (by omega) (by omega)).trans (HB9.out.block k hk)⟩
  have HR4 := Lib.hid (HR.out.on HB4.out)
  have R34 := Lib.hid ((HB4.out.block fb zf).trans R3.out)
  have CG := Lib.hid (lookCheck ⟨P1, P2, P3⟩ _ _ _ w4 HG.out HPW.out HPS.out.1 HPS.out.2)
  have R44 := Lib.hid hr4
  have z44 := (Array.getElem?_eq_some_iff.1 hr4).1
  clear hr4 hf4 hz4 R10 R2 R5 R8 D2 D5 D8 HB9 R3 HG HPW HPS HPF HWF HSM h100 hs9
  generalize Ev.checkC ⟨P1, P2, P3⟩ = g at *
  have gne : (g != 10) = true := bne_iff_ne.2 HLAW.out.1
  go_upto_region 8 with (first | (refine wpList_load_box rfl 25 _ rfl rfl (load_box Tryd.underlying25 (by kernel_rfl) (by rfl) (by kernel_rfl) (fun j v hj => (cell_of_block R44.out j).trans hj) z44 (Below.refl _ _)) ?_) | (go_at_call 15; refine CG.out.mono ?_; rintro e w5 ⟨rfl, hb5⟩))
  have HB5 := Lib.hid (HB4.out.trans (hb5.mono HB4.out.size))
  have R35 := Lib.hid ((hb5.block fb (by have := HB4.out.size; omega)).trans R34.out)
  have z35 := (Array.getElem?_eq_some_iff.1 R35.out).1
  have CF := Lib.hid (lookCheck f _ _ _ w5 (HR4.out.on hb5) HWB.out (by have := HSM2.out.params; omega) (by have := HSM2.out.arrays; omega))
  have HL2 := Lib.hid HLAW.out.2
  clear hb5 CG HR4 R34 R44 z44 z10 zf HLAW HB4
  by_cases hc : Ev.checkC f = 0
  case pos =>
    have hg := HL2.out hc
    have gc : (Ev.checkC f != 0) = false := by rw [hc]; rfl
    have gg : (g == 0) = true := beq_iff_eq.2 hg
    rw [hc] at CF
    clear hc hg gc
    go_wp2_with (first | (refine wpList_load_boxg (by rfl) 25 _ rfl rfl (load_box Tryd.underlying25 (by kernel_rfl) (by rfl) (by kernel_rfl) (fun j v hj => (cell_of_block R35.out j).trans hj) z35 (Below.refl _ _)) ?_) | (go_at_call 15; refine CF.out.mono ?_; rintro e w6 ⟨rfl, hb6⟩))
    go_ret
    exact ⟨rfl, HB.out.trans (Below.mono (HB5.out.trans (hb6.mono HB5.out.size)) HB.out.size)⟩
  case neg =>
    have gc : (Ev.checkC f != 0) = true := bne_iff_ne.2 hc
    clear hc
    go_wp2_with (first | (refine wpList_load_boxg (by rfl) 25 _ rfl rfl (load_box Tryd.underlying25 (by kernel_rfl) (by rfl) (by kernel_rfl) (fun j v hj => (cell_of_block R35.out j).trans hj) z35 (Below.refl _ _)) ?_) | (go_at_call 15; refine CF.out.mono ?_; rintro e w6 ⟨rfl, hb6⟩))
    go_ret
    exact ⟨rfl, HB.out.trans (Below.mono (HB5.out.trans (hb6.mono HB5.out.size)) HB.out.size)⟩
end Go.Proofs.YtpbflgemhcaooaaDoor
/- What the listed variables of strconv hold, out of the row's condition. -/
namespace Go.Proofs.YtpbflgemhcaooaaDoor
open Go.ChangeShapes Go.WideShapes Go.ChangeAt Go.RowKit
theorem lTab : (Tryd.prog.globals[3]?).map (·.type) = some 220 := by kernel_rfl
theorem lSyn : (Tryd.prog.globals[1]?).map (·.type) = some 146 := by kernel_rfl
theorem lRng : (Tryd.prog.globals[2]?).map (·.type) = some 146 := by kernel_rfl
theorem lcT : Tryd.prog.cellsOf 220 = 20 := by kernel_rfl
theorem lcE : Tryd.prog.cellsOf 207 = 1 := by kernel_rfl
theorem lcS : Tryd.prog.cellsOf 229 = 1 := by kernel_rfl
theorem lcs : Tryd.prog.cellsOf 9 = 1 := by kernel_rfl
theorem lstar : "*" ++ "errors.errorString" = "*errors.errorString" := by decide
theorem lrow (u : TypeId) (h : Tryd.prog.typeName? 3 u = some "*errors.errorString") : u = 227 :=
  typeName_ptr_named (nm := "errors.errorString") (by rw [lstar]; kernel_rfl) (by kernel_rfl) (by decide) u (by rw [lstar]; exact h)
def laid5 : List (String × DataW Unit) := [("math/bits.deBruijn32tab", Rows.laid_math_bits_deBruijn32tab), ("math/bits.deBruijn64tab", Rows.laid_math_bits_deBruijn64tab), ("internal/strconv.uint64pow10", Rows.laid_internal_strconv_uint64pow10), ("strconv.ErrRange", Rows.laid_strconv_ErrRange), ("strconv.ErrSyntax", Rows.laid_strconv_ErrSyntax)]
theorem vars_of_laid {W : World} (h : laidMetH Tryd.prog laid5 W) : Vars W := by
  unfold laid5 at h
  rw [MakeChecks.laidMetH_plain _ _ _ (by kernel_rfl)] at h
  have h3 := h.tail.tail
  have t1 : Lib.TabIs Tryd.prog W "internal/strconv.uint64pow10" .u64 Lib.pow10Tab := Lib.tabIs_of_head gTab lTab Tryd.underlying220 Tryd.underlying207 lcE lcT h3
  obtain ⟨a0, _, e0, _⟩ := laid_sentinel h3.tail gRng lRng Tryd.underlying146 lrow Tryd.underlying227 Tryd.underlying229 rfl rfl Tryd.underlying9 lcS lcs
  obtain ⟨a1, _, e1, _⟩ := laid_sentinel h3.tail.tail gSyn lSyn Tryd.underlying146 lrow Tryd.underlying227 Tryd.underlying229 rfl rfl Tryd.underlying9 lcS lcs
  exact ⟨t1, ⟨_, _, e1⟩, _, _, e0⟩
theorem door_met (os : Os) (args : Array Value) : laidMetH Tryd.prog laid5 ((World.doorLaid Tryd.prog 62 os).forCall (fun _ _ => 0) ⟨#[], args, []⟩).memory :=
  laidMetH_of_parts3 (fuel := 8) (laidMet_of_run' 8 (by kernel_rfl) (by kernel_rfl)) (by kernel_rfl) (by kernel_rfl)
end Go.Proofs.YtpbflgemhcaooaaDoor
/- From the form's reading of an argument to plain data: slices of whatever elements. -/
namespace Go.Proofs.YtpbflgemhcaooaaDoor
open Go.RowKit Go.ChangeShapes Go.WideShapes Go.Deep
section
variable {H : Type} {enc : TypeId × Value → H} {P : Program} {w : World} {base : Nat} {spare : Nat → Bool} {held : Bool}

theorem plain_add (b off j : Nat) : (⟨b, off, none⟩ : Addr).add j = ⟨b, off + j, none⟩ := by
  unfold Addr.add
  by_cases h : j = 0
  · subst h; rfl
  · rw [if_neg h]

theorem pick_list {α : Type} (R : Nat → α → Prop) : ∀ n, (∀ i, i < n → ∃ a, R i a) → ∃ l : List α, l.length = n ∧ ∀ i a, l[i]? = some a → R i a
  | 0, _ => ⟨[], rfl, fun i a h => by simp at h⟩
  | n + 1, h => by
    obtain ⟨l, hl, hr⟩ := pick_list R n (fun i hi => h i (by omega))
    obtain ⟨a, ha⟩ := h n (by omega)
    refine ⟨l ++ [a], by simp [hl], fun i b hb => ?_⟩
    by_cases hi : i < n
    · rw [List.getElem?_append_left (by omega)] at hb
      exact hr i b hb
    · have hlt : i < (l ++ [a]).length := by
        rcases Nat.lt_or_ge i (l ++ [a]).length with h1 | h1
        · exact h1
        · simp [List.getElem?_eq_none h1] at hb
      have : i = n := by simp [hl] at hlt; omega
      subst this
      rw [List.getElem?_append_right (by omega)] at hb
      simp [hl] at hb
      subst hb
      exact ha

theorem flatten_at {α : Type} {size : Nat} : ∀ (css : List (List α)), (∀ c ∈ css, c.length = size) → ∀ k j, j < size → css.flatten[k * size + j]? = (css[k]?).bind (fun c => c[j]?)
  | [], _, k, j, _ => by simp
  | c :: r, h, 0, j, hj => by
    have hc : c.length = size := h c (by simp)
    simp only [List.flatten_cons, Nat.zero_mul, Nat.zero_add]
    rw [List.getElem?_append_left (by omega)]
    simp
  | c :: r, h, k + 1, j, hj => by
    have hc : c.length = size := h c (by simp)
    have ih := flatten_at r (fun c' h' => h c' (by simp [h'])) k j hj
    simp only [List.flatten_cons]
    rw [List.getElem?_append_right (by rw [hc, Nat.succ_mul]; omega)]
    have : (k + 1) * size + j - c.length = k * size + j := by rw [hc, Nat.succ_mul]; omega
    rw [this, ih]
    simp

theorem flatten_len {α : Type} {size : Nat} : ∀ (css : List (List α)), (∀ c ∈ css, c.length = size) → css.flatten.length = css.length * size
  | [], _ => by simp
  | c :: r, h => by
    have hc : c.length = size := h c (by simp)
    have ih := flatten_len r (fun c' h' => h c' (by simp [h']))
    simp [List.flatten_cons, ih, hc, Nat.succ_mul]
    omega

theorem open_SL {α : Type} (R : List Value → α → Prop) {size : Nat} {t e : TypeId} {fuel : Nat} {cs : List Value} {x : DataW H × List MemPlace} (hs : 0 < size) (hC : P.cellsOf e = size)
    (hel : ∀ fuel cs x, DataW.trod enc P w base spare held fuel e cs = some x → ∃ a, R cs a) (ht : P.underlying t = some (.slice e)) (h : DataW.trod enc P w base spare held fuel t cs = some x) :
    ∃ (v : Value) (css : List (List Value)) (l : List α), cs = [v] ∧ SL w w.heap.size size v l.length (List.flatten css) ∧ css.length = l.length ∧ (∀ c ∈ css, c.length = size) ∧ ∀ (i : Nat) c a, css[i]? = some c → l[i]? = some a → R c a := by
  rcases open_slice ht h with ⟨rfl, _⟩ | ⟨a, len, cap, m, n, D, Pl, rfl, _, hl, hm, hmm, _, hi⟩
  · exact ⟨_, [], [], rfl, SL.nil_ _ _ _, rfl, (by simp), (by simp)⟩
  · have hle : len ≤ m := by rw [hmm]; split <;> omega
    obtain ⟨ps, hpl, hp⟩ := pick_list (fun i (p : List Value × α) => w.cells? base (a.add (i * size)) size = some p.1 ∧ R p.1 p.2) len (fun i hlt => by
      obtain ⟨cs', hc, htr⟩ := hi i (by omega)
      obtain ⟨b, hb⟩ := hel _ _ _ htr
      exact ⟨(cs', b), by rw [hC] at hc; exact hc, hb⟩)
    have hlen : ∀ c ∈ ps.map (·.1), c.length = size := by
      intro c hc
      obtain ⟨p, hpm, rfl⟩ := List.mem_map.1 hc
      obtain ⟨i, hilt, hie⟩ := List.getElem_of_mem hpm
      have := (hp i p (by rw [List.getElem?_eq_getElem hilt, hie])).1
      obtain ⟨_, hlc, _⟩ := World.cells?_some this
      exact hlc
    refine ⟨_, ps.map (·.1), ps.map (·.2), rfl, ?_, by simp, hlen, ?_⟩
    · refine ⟨by rw [flatten_len _ hlen]; simp, some a, cap, by simp [hpl], by simpa [hpl] using hl, hm, (fun h => by cases h), fun hn => ?_⟩
      have h0 : 0 < len := by simpa [hpl] using hn
      obtain ⟨b, off, spot⟩ := a
      have hcell : ∀ i j, i < len → j < size → w.cell? ((⟨b, off, spot⟩ : Addr).add (i * size + j)) = (ps.map (·.1)).flatten[i * size + j]? := by
        intro i j hil hj
        have hilt : i < ps.length := by omega
        have hpi := hp i (ps[i]) (List.getElem?_eq_getElem hilt)
        obtain ⟨_, _, hat⟩ := World.cells?_some hpi.1
        have := hat j hj
        rw [← Go.Deep.add_add] 
        rw [this, flatten_at _ hlen i j hj]
        simp [hilt]
      have hfl : (ps.map (·.1)).flatten.length = len * size := by rw [flatten_len _ hlen]; simp [hpl]
      have c0 := hcell 0 0 h0 hs
      have hpos : 0 < (ps.map (·.1)).flatten.length := by rw [hfl]; exact Nat.mul_pos h0 hs
      simp only [Nat.zero_mul, Nat.zero_add] at c0
      rw [List.getElem?_eq_getElem hpos] at c0
      have hspot : spot = none := by simpa [Addr.add] using World.cell?_spot c0
      subst hspot
      have hlt := World.block_lt_of_cell? w _ c0
      refine ⟨b, off, rfl, by simpa [Addr.add] using hlt, fun j u hu => ?_⟩
      have hjl : j < len * size := by
        rcases Nat.lt_or_ge j (len * size) with h1 | h1
        · exact h1
        · rw [List.getElem?_eq_none (by omega)] at hu; cases hu
      have hdm : j = j / size * size + j % size := by rw [Nat.mul_comm]; exact (Nat.div_add_mod j size).symm
      have h1 : j / size < len := Nat.div_lt_of_lt_mul (by rw [Nat.mul_comm]; exact hjl)
      have := hcell (j / size) (j % size) h1 (Nat.mod_lt _ hs)
      rw [← hdm, hu] at this
      rw [plain_add] at this
      exact this
    · intro i c b hc hb
      simp only [List.getElem?_map, Option.map_eq_some_iff] at hc hb
      obtain ⟨p, hpi, rfl⟩ := hc
      obtain ⟨q, hqi, rfl⟩ := hb
      rw [hpi] at hqi
      cases hqi
      exact (hp i p hpi).2
end
end Go.Proofs.YtpbflgemhcaooaaDoor
/- Two closed facts of the program. -/
namespace Go.Proofs.YtpbflgemhcaooaaDoor
open Go
theorem Tryd.own : ownKnob Tryd.prog.godebug = none := by kernel_rfl
theorem Tryd.laidOut : laidOutB Tryd.prog = true := by kernel_rfl
end Go.Proofs.YtpbflgemhcaooaaDoor
/- A table, out of the form's reading of an argument. -/
namespace Go.Proofs.YtpbflgemhcaooaaDoor
open Go.RowKit Go.ChangeShapes Go.WideShapes Go.Deep
set_option linter.unusedSimpArgs false
set_option linter.unusedVariables false
theorem Tryd.cells3 : Tryd.prog.cellsOf 3 = 1 := by kernel_rfl
theorem Tryd.cells56 : Tryd.prog.cellsOf 56 = 18 := by kernel_rfl
theorem Tryd.cells58 : Tryd.prog.cellsOf 58 = 18 := by kernel_rfl
section
variable {H : Type} {enc : TypeId × Value → H} {P : Program} {w : World} {base : Nat} {spare : Nat → Bool} {held : Bool}
def I64 (n : Int) : Prop := -9223372036854775808 ≤ n ∧ n ≤ 9223372036854775807
theorem trod_i64 {t : TypeId} (ht : P.underlying t = some (.int .i64)) {fuel : Nat} {cs : List Value} {x : DataW H × List MemPlace} (h : DataW.trod enc P w base spare held fuel t cs = some x) : ∃ n, cs = [.int .i64 n] ∧ I64 n := by
  obtain ⟨n, rfl, _, hw⟩ := DataW.trod_int ht h
  exact ⟨n, rfl, bounds_i64 hw⟩
theorem trod_parts {t : TypeId} {fs : Array Field} {fuel : Nat} {cs : List Value} {x : DataW H × List MemPlace} (ht : P.underlying t = some (.struct fs)) (h : DataW.trod enc P w base spare held fuel t cs = some x) :
    cs.length = P.cellsOf t ∧ ∃ (n : Nat) (xs : List (DataW H × List MemPlace)), xs.length = fs.size ∧ x.1 = .agg (xs.map (·.1)) ∧ ∀ (j : Nat) (u : TypeId) (o : Nat), (fs.toList.map fun f => (f.type, f.offset))[j]? = some (u, o) → DataW.trod enc P w base spare held n u ((cs.drop o).take (P.cellsOf u)) = xs[j]? := by
  obtain ⟨xs, n, _, rfl, hl, hxl, hf⟩ := DataW.trod_struct ht h
  refine ⟨hl, n, xs, hxl, rfl, fun j u o hj => ?_⟩
  rw [List.getElem?_map, Option.map_eq_some_iff] at hj
  obtain ⟨f, hj, hfe⟩ := hj
  simp only [Prod.mk.injEq] at hfe
  obtain ⟨rfl, rfl⟩ := hfe
  have hj : fs[j]? = some f := by simpa using hj
  exact hf j f hj
end
section
variable {H : Type} {enc : TypeId × Value → H} {w : World} {base : Nat} {spare : Nat → Bool} {held : Bool} {fuel : Nat} {cs : List Value} {x : DataW H × List MemPlace}
theorem open_table (h : DataW.trod enc Tryd.prog w base spare held fuel 58 cs = some x) :
    ∃ t : List Int, cs = t.map (Value.int .i64) ∧ t.length = 18 ∧ ∀ n ∈ t, I64 n := by
  obtain ⟨hl, n, xs, hxl, hx, hf⟩ := trod_parts Tryd.underlying58 h
  rw [Tryd.cells58] at hl
  have hxl1 : xs.length = 1 := hxl
  obtain ⟨x0, hx0⟩ : ∃ x0, xs[0]? = some x0 := ⟨xs[0], List.getElem?_eq_getElem (by omega)⟩
  have h0 := hf 0 56 0 rfl
  rw [Tryd.cells56, List.drop_zero, List.take_of_length_le (by omega), hx0] at h0
  obtain ⟨ys, m, _, _, _, hyl, hy⟩ := DataW.trod_array Tryd.underlying56 h0
  rw [Tryd.cells3] at hy
  have hat : ∀ i, i < 18 → ∃ n, cs[i]? = some (.int .i64 n) ∧ I64 n := fun i hi => by
    have := hy i hi
    rw [List.getElem?_eq_getElem (by omega)] at this
    obtain ⟨n, e, hn⟩ := trod_i64 Tryd.underlying3 this
    refine ⟨n, ?_, hn⟩
    have e' := congrArg (fun l : List Value => l[0]?) e
    simp only [List.getElem?_take, List.getElem?_drop] at e'
    simpa using e'
  obtain ⟨t, ht, hr⟩ := pick_list (fun i n => cs[i]? = some (.int .i64 n) ∧ I64 n) 18 hat
  refine ⟨t, ?_, ht, fun n hn => ?_⟩
  · apply List.ext_getElem?
    intro i
    by_cases hi : i < 18
    · have hti : t[i]? = some t[i] := List.getElem?_eq_getElem (by omega)
      rw [(hr i _ hti).1, List.getElem?_map, hti]
      rfl
    · rw [List.getElem?_eq_none (by omega), List.getElem?_eq_none (by simp; omega)]
  · obtain ⟨i, hi, rfl⟩ := List.getElem_of_mem hn
    exact (hr i _ (List.getElem?_eq_getElem hi)).2
end
theorem arg_struct {P : Program} {w : World} {base : Nat} {r : Reach} {t : TypeId} {v : Value} {fs : Array Field} (ht : P.underlying t = some (.struct fs)) (hv : Value.okWide P w r base t v) {l : List Value} (h : v.cells.toList = l) : v = .agg l.toArray := by
  obtain ⟨cs, rfl, _⟩ := okWide_struct ht hv
  simp only [Value.cells] at h
  subst h
  simp
end Go.Proofs.YtpbflgemhcaooaaDoor
