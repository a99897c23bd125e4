import Derived.Test.YtljcgcllhcdleaaMm27
import Derived.Test.YtljcgcllhcdleaaMm30
import Derived.Test.YtljcgcllhcdleaaMm32
import Derived.Test.YtljcgcllhcdleaaMm33
import Derived.Test.YtljcgcllhcdleaaMm28
import Derived.Test.YtljcgcllhcdleaaMm34
import Derived.Test.YtljcgcllhcdleaaMm36
import Derived.Deep.DeepCutAuto
/- MachMore: the law's walk. -/
namespace Go.Proofs.Ytljcgcllhcdleaa
open Go.RowKit
set_option linter.unusedSimpArgs false
set_option linter.unusedVariables false
set_option maxRecDepth 20000 in
set_option maxHeartbeats 6400000 in
theorem machMore_walk (b : List Int) (p : Int) (ay : List Ev.Vr) (t : List Int) (g : Ev.Given) (mode most more : Int) (vb va vg : Value) (w : World) (hb : RBytes w w.heap.size vb b) (ha : RVars w w.heap.size va ay) (hg : RGiven w w.heap.size vg g)
    (hl : t.length = 18) (hr : ∀ x ∈ t, -9223372036854775808 ≤ x ∧ x ≤ 9223372036854775807) (hy : Ev.Byt b) (hbl : b.length ≤ 1099511627776) (h2 : g.arrays.length ≤ 1073741824) (h3 : ∀ a ∈ g.arrays, a.length ≤ 1073741824) :
    Calls Try.prog 14 #[.agg #[vb, .int .i64 p, va], tableV t, vg, .int .i64 mode, .int .i64 most, .int .i64 more] w fun e w' => e = .returned (.bool true) ∧ Below w.heap.size w w' := by
  have CW := Lib.hid (fun u => refWrong_any t u hl hr)
  have CD := Lib.hid (fun u (h : Below w.heap.size w u) => words_any g vg u (RGiven.atM hg h) h2)
  have CR1 := Lib.hid (fun u (h : Below w.heap.size w u) (ht : Ev.wrong t = 0) (hw : Ev.wordsOk g = true) (hm : most ≤ 36000) (hp : 0 ≤ p) => machRunD_any b p ay t g mode most vb va vg u (SL.at_ hb h (Nat.le_refl _)) (SL.at_ ha h (Nat.le_refl _)) (RGiven.atM hg h) hl ht hy hbl (mgiven_of hw h2 h3) hm hp)
  have CR2 := Lib.hid (fun u (h : Below w.heap.size w u) (ht : Ev.wrong t = 0) (hw : Ev.wordsOk g = true) (hm : more ≤ 36000) (hp : 0 ≤ p) => machRunD_any b p ay t g mode more vb va vg u (SL.at_ hb h (Nat.le_refl _)) (SL.at_ ha h (Nat.le_refl _)) (RGiven.atM hg h) hl ht hy hbl (mgiven_of hw h2 h3) hm hp)
  have PM := Lib.hid (fun (hm : most ≤ more) h => @Ev.image_more b p ay.length t g mode most more hm h)
  have PE := Lib.hid (@Ev.image_err b p ay.length t g mode most)
  obtain ⟨Aa, ca, rfl, ha1, ha2⟩ := SL.form ha
  obtain ⟨Ab, cb, rfl, hb1, hb2⟩ := SL.form hb
  obtain ⟨vw, vx, rfl, hw, hx⟩ := hg
  obtain ⟨Aw, cw, rfl, hw1, hw2⟩ := SL.form hw
  obtain ⟨Ax, cx, rfl, hx1, hx2⟩ := slice_form hx
  unfold maxLen at ha2 hb2 hw2 hx2
  have HL := Lib.hid hl
  unfold tableV at CW CR1 CR2 ⊢
  generalize hT : (t.map (Value.int .i64)).toArray = ta at *
  have HTA := Lib.hid hT
  generalize Ev.runImage b p ay.length t g mode most = R at *
  generalize Ev.runImage b p ay.length t g mode more = S at *
  clear hb ha hw hx hl hr hy hT h3
  go_enter Try.func14, Try.ntmps14
  go_upto_region 1 with fail
  obtain ⟨hbx0, hbx1, hbx2⟩ := boxes3 w #[.slice Ab b.length cb, .int .i64 p, .slice Aa ay.length ca] ta #[.slice Aw g.words.length cw, .slice Ax g.arrays.length cx] 76 29 45
  have sA : w.heap.size + 3 = (((w.alloc (.cells #[.slice Ab b.length cb, .int .i64 p, .slice Aa ay.length ca] 76)).alloc (.cells ta 29)).alloc (.cells #[.slice Aw g.words.length cw, .slice Ax g.arrays.length cx] 45)).heap.size := by simp
  have bA : Below w.heap.size w (((w.alloc (.cells #[.slice Ab b.length cb, .int .i64 p, .slice Aa ay.length ca] 76)).alloc (.cells ta 29)).alloc (.cells #[.slice Aw g.words.length cw, .slice Ax g.arrays.length cx] 45)) := by (repeat' (first | (with_reducible exact Below.refl _ _) | (with_reducible assumption) | (with_reducible refine Below.alloc ?_ ?_ _) | (with_reducible refine below_drewN ?_ _) | (with_reducible refine Below.drew ?_) | (with_reducible refine Below.setCell ?_ ?_ _) | (with_reducible refine Below.trans ?_ (Below.mono (by with_reducible assumption) ?_)) | go_size))
  generalize ((w.alloc (.cells #[.slice Ab b.length cb, .int .i64 p, .slice Aa ay.length ca] 76)).alloc (.cells ta 29)).alloc (.cells #[.slice Aw g.words.length cw, .slice Ax g.arrays.length cx] 45) = wA at *
  have z0 : w.heap.size < wA.heap.size := by omega
  have z1 : w.heap.size + 1 < wA.heap.size := by omega
  have z2 : w.heap.size + 1 + 1 < wA.heap.size := by omega
  have sA' : w.heap.size ≤ wA.heap.size := by omega
  clear sA
  have f1h := Lib.hid (show wA.cell? ⟨w.heap.size, 1, none⟩ = some (.int .i64 p) from hbx0 1 _ rfl)
  have f2h := Lib.hid (show wA.cell? ⟨w.heap.size, 2, none⟩ = some (.slice Aa ay.length ca) from hbx0 2 _ rfl)
  have ldf : ∀ u, Below wA.heap.size wA u → (Go.Instr.loadAt 76 (.pointer (some ⟨w.heap.size, 0, none⟩))).run Try.prog u = .ok (.agg #[.slice Ab b.length cb, .int .i64 p, .slice Aa ay.length ca]) u := fun u hu => load_box Try.underlying76 (by kernel_rfl) rfl (by kernel_rfl) hbx0 z0 hu
  have ldt : ∀ u, Below wA.heap.size wA u → (Go.Instr.loadAt 29 (.pointer (some ⟨w.heap.size + 1, 0, none⟩))).run Try.prog u = .ok (.agg ta) u := fun u hu => load_box Try.underlying29 (by kernel_rfl) (by rw [← HTA.out]) (by rw [← HTA.out, List.length_map, HL.out]; kernel_rfl) hbx1 z1 hu
  have ldg : ∀ u, Below wA.heap.size wA u → (Go.Instr.loadAt 45 (.pointer (some ⟨w.heap.size + 1 + 1, 0, none⟩))).run Try.prog u = .ok (.agg #[.slice Aw g.words.length cw, .slice Ax g.arrays.length cx]) u := fun u hu => load_box Try.underlying45 (by kernel_rfl) rfl (by kernel_rfl) hbx2 z2 hu
  clear hbx0 hbx1 hbx2
  have HBA := Lib.hid bA
  clear bA
  go_upto_region 3 with (go_at_call 51; refine (alive_mach _).mono ?_; rintro e w3 ⟨rfl, hb3⟩)
  have hwA3 : Hid (Below w.heap.size w w3) := Lib.hid (HBA.out.trans (hb3.mono sA'))
  have HBr := hb3
  have s3 := hb3.size
  have f1r := (HBr.cell (p := ⟨w.heap.size, 1, none⟩) z0).trans f1h.out
  have f2r := (HBr.cell (p := ⟨w.heap.size, 2, none⟩) z0).trans f2h.out
  by_cases hwt : Ev.wrong t = 0
  · have hw0 := Lib.hid hwt
    have CW2 := CW.out
    rw [hwt] at CW2
    have CW3 := Lib.hid CW2
    clear CW CW2 hwt
    cases hwo : Ev.wordsOk g
    · have CD2 := CD.out
      rw [hwo] at CD2
      have CD3 := Lib.hid CD2
      clear CD CD2 CR1 CR2 hwo PM PE
      go_wp2_with (first | (refine wpList_load_box rfl 29 _ rfl rfl (ldt _ HBr) ?_) | (refine wpList_load_boxg (by rfl) 45 _ rfl rfl (ldg _ HB4) ?_) | (go_at_call 18; refine (CW3.out _).mono ?_; rintro e w4 ⟨rfl, hb4⟩; have HB4 : Below wA.heap.size wA w4 := HBr.trans (hb4.mono s3)) | (go_at_call 47; refine (CD3.out _ (hwA3.out.trans (hb4.mono (by omega)))).mono ?_; rintro e w5 ⟨rfl, hb5⟩; have HB5 : Below wA.heap.size wA w5 := HB4.trans (hb5.mono HB4.size); have f1q := (HB5.cell (p := ⟨w.heap.size, 1, none⟩) z0).trans f1h.out; have f2q := (HB5.cell (p := ⟨w.heap.size, 2, none⟩) z0).trans f2h.out))
      go_ret
      exact ⟨rfl, by have e0 := HBA.out; have e1 := HB4.size; (repeat' (first | (with_reducible exact Below.refl _ _) | (with_reducible assumption) | (with_reducible refine Below.alloc ?_ ?_ _) | (with_reducible refine below_drewN ?_ _) | (with_reducible refine Below.drew ?_) | (with_reducible refine Below.setCell ?_ ?_ _) | (with_reducible refine Below.trans ?_ (Below.mono (by with_reducible assumption) ?_)) | go_size))⟩
    · have CD2 := CD.out
      rw [hwo] at CD2
      have CD3 := Lib.hid CD2
      have HWO := Lib.hid hwo
      clear CD CD2 hwo
      rcases (show more < most ∨ (most ≤ more ∧ 36000 < more) ∨ (most ≤ more ∧ more ≤ 36000 ∧ p < 0) ∨ (most ≤ more ∧ more ≤ 36000 ∧ 0 ≤ p ∧ 100 < (ay.length : Int)) ∨ (most ≤ more ∧ more ≤ 36000 ∧ 0 ≤ p ∧ (ay.length : Int) ≤ 100) by omega) with h | h | h | h | h
      · skip
        clear CR1 CR2 PM PE
        go_wp2_with (first | (refine wpList_load_box rfl 29 _ rfl rfl (ldt _ HBr) ?_) | (refine wpList_load_boxg (by rfl) 45 _ rfl rfl (ldg _ HB4) ?_) | (go_at_call 18; refine (CW3.out _).mono ?_; rintro e w4 ⟨rfl, hb4⟩; have HB4 : Below wA.heap.size wA w4 := HBr.trans (hb4.mono s3)) | (go_at_call 47; refine (CD3.out _ (hwA3.out.trans (hb4.mono (by omega)))).mono ?_; rintro e w5 ⟨rfl, hb5⟩; have HB5 : Below wA.heap.size wA w5 := HB4.trans (hb5.mono HB4.size); have f1q := (HB5.cell (p := ⟨w.heap.size, 1, none⟩) z0).trans f1h.out; have f2q := (HB5.cell (p := ⟨w.heap.size, 2, none⟩) z0).trans f2h.out))
        go_ret
        exact ⟨rfl, by have e0 := HBA.out; have e1 := HB5; have e2 := HB5.size; (repeat' (first | (with_reducible exact Below.refl _ _) | (with_reducible assumption) | (with_reducible refine Below.alloc ?_ ?_ _) | (with_reducible refine below_drewN ?_ _) | (with_reducible refine Below.drew ?_) | (with_reducible refine Below.setCell ?_ ?_ _) | (with_reducible refine Below.trans ?_ (Below.mono (by with_reducible assumption) ?_)) | go_size))⟩
      · obtain ⟨ha, hb⟩ := h
        clear CR1 CR2 PM PE
        go_wp2_with (first | (refine wpList_load_box rfl 29 _ rfl rfl (ldt _ HBr) ?_) | (refine wpList_load_boxg (by rfl) 45 _ rfl rfl (ldg _ HB4) ?_) | (go_at_call 18; refine (CW3.out _).mono ?_; rintro e w4 ⟨rfl, hb4⟩; have HB4 : Below wA.heap.size wA w4 := HBr.trans (hb4.mono s3)) | (go_at_call 47; refine (CD3.out _ (hwA3.out.trans (hb4.mono (by omega)))).mono ?_; rintro e w5 ⟨rfl, hb5⟩; have HB5 : Below wA.heap.size wA w5 := HB4.trans (hb5.mono HB4.size); have f1q := (HB5.cell (p := ⟨w.heap.size, 1, none⟩) z0).trans f1h.out; have f2q := (HB5.cell (p := ⟨w.heap.size, 2, none⟩) z0).trans f2h.out))
        go_ret
        exact ⟨rfl, by have e0 := HBA.out; have e1 := HB5; have e2 := HB5.size; (repeat' (first | (with_reducible exact Below.refl _ _) | (with_reducible assumption) | (with_reducible refine Below.alloc ?_ ?_ _) | (with_reducible refine below_drewN ?_ _) | (with_reducible refine Below.drew ?_) | (with_reducible refine Below.setCell ?_ ?_ _) | (with_reducible refine Below.trans ?_ (Below.mono (by with_reducible assumption) ?_)) | go_size))⟩
      · obtain ⟨ha, hb, hc⟩ := h
        clear CR1 CR2 PM PE
        go_wp2_with (first | (refine wpList_load_box rfl 29 _ rfl rfl (ldt _ HBr) ?_) | (refine wpList_load_boxg (by rfl) 45 _ rfl rfl (ldg _ HB4) ?_) | (go_at_call 18; refine (CW3.out _).mono ?_; rintro e w4 ⟨rfl, hb4⟩; have HB4 : Below wA.heap.size wA w4 := HBr.trans (hb4.mono s3)) | (go_at_call 47; refine (CD3.out _ (hwA3.out.trans (hb4.mono (by omega)))).mono ?_; rintro e w5 ⟨rfl, hb5⟩; have HB5 : Below wA.heap.size wA w5 := HB4.trans (hb5.mono HB4.size); have f1q := (HB5.cell (p := ⟨w.heap.size, 1, none⟩) z0).trans f1h.out; have f2q := (HB5.cell (p := ⟨w.heap.size, 2, none⟩) z0).trans f2h.out))
        go_ret
        exact ⟨rfl, by have e0 := HBA.out; have e1 := HB5; have e2 := HB5.size; (repeat' (first | (with_reducible exact Below.refl _ _) | (with_reducible assumption) | (with_reducible refine Below.alloc ?_ ?_ _) | (with_reducible refine below_drewN ?_ _) | (with_reducible refine Below.drew ?_) | (with_reducible refine Below.setCell ?_ ?_ _) | (with_reducible refine Below.trans ?_ (Below.mono (by with_reducible assumption) ?_)) | go_size))⟩
      · obtain ⟨ha, hb, hc, hd⟩ := h
        clear CR1 CR2 PM PE
        go_wp2_with (first | (refine wpList_load_box rfl 29 _ rfl rfl (ldt _ HBr) ?_) | (refine wpList_load_boxg (by rfl) 45 _ rfl rfl (ldg _ HB4) ?_) | (go_at_call 18; refine (CW3.out _).mono ?_; rintro e w4 ⟨rfl, hb4⟩; have HB4 : Below wA.heap.size wA w4 := HBr.trans (hb4.mono s3)) | (go_at_call 47; refine (CD3.out _ (hwA3.out.trans (hb4.mono (by omega)))).mono ?_; rintro e w5 ⟨rfl, hb5⟩; have HB5 : Below wA.heap.size wA w5 := HB4.trans (hb5.mono HB4.size); have f1q := (HB5.cell (p := ⟨w.heap.size, 1, none⟩) z0).trans f1h.out; have f2q := (HB5.cell (p := ⟨w.heap.size, 2, none⟩) z0).trans f2h.out))
        go_ret
        exact ⟨rfl, by have e0 := HBA.out; have e1 := HB5; have e2 := HB5.size; (repeat' (first | (with_reducible exact Below.refl _ _) | (with_reducible assumption) | (with_reducible refine Below.alloc ?_ ?_ _) | (with_reducible refine below_drewN ?_ _) | (with_reducible refine Below.drew ?_) | (with_reducible refine Below.setCell ?_ ?_ _) | (with_reducible refine Below.trans ?_ (Below.mono (by with_reducible assumption) ?_)) | go_size))⟩
      · obtain ⟨ha, hb, hc, hd⟩ := h
        have C1 := Lib.hid (fun u hu => CR1.out u hu hw0.out HWO.out (by omega) hc)
        have C2 := Lib.hid (fun u hu => CR2.out u hu hw0.out HWO.out hb hc)
        have PM' := Lib.hid (PM.out ha)
        clear CR1 CR2 PM
        go_upto_region 5 with (first | (refine wpList_load_box rfl 29 _ rfl rfl (ldt _ HBr) ?_) | (refine wpList_load_boxg (by rfl) 45 _ rfl rfl (ldg _ HB4) ?_) | (go_at_call 18; refine (CW3.out _).mono ?_; rintro e w4 ⟨rfl, hb4⟩; have HB4 : Below wA.heap.size wA w4 := HBr.trans (hb4.mono s3)) | (go_at_call 47; refine (CD3.out _ (hwA3.out.trans (hb4.mono (by omega)))).mono ?_; rintro e w5 ⟨rfl, hb5⟩; have HB5 : Below wA.heap.size wA w5 := HB4.trans (hb5.mono HB4.size); have f1q := (HB5.cell (p := ⟨w.heap.size, 1, none⟩) z0).trans f1h.out; have f2q := (HB5.cell (p := ⟨w.heap.size, 2, none⟩) z0).trans f2h.out))
        have HB5' := Lib.hid HB5
        clear HB4 hb4 hb5 f1q f2q f1r f2r
        have s5 := HB5.size
        refine wp_region_flockD_tail 14 (fun k => match k with | 0 => some (Bv.is (.agg #[.slice Ab b.length cb, .int .i64 p, .slice Aa ay.length ca])) | 1 => some (Bv.is (.agg ta)) | 2 => some (Bv.is (.agg #[.slice Aw g.words.length cw, .slice Ax g.arrays.length cx])) | 5 => some (Bv.ran R) | 6 => some (Bv.is (.agg #[.slice Ab b.length cb, .int .i64 p, .slice Aa ay.length ca])) | 7 => some (Bv.is (.agg ta)) | 8 => some (Bv.is (.agg #[.slice Aw g.words.length cw, .slice Ax g.arrays.length cx])) | 11 => some (Bv.ran S) | 12 => some (Bv.box wA.heap.size #[.int .i64 0, .bool false, .slice none 0 0, .int .i64 0, .int .i64 0, .int .i64 0, .slice none 0 0] 82) | 13 => some (Bv.box wA.heap.size #[.int .i64 0, .bool false, .slice none 0 0, .int .i64 0, .int .i64 0, .int .i64 0, .slice none 0 0] 82) | _ => none) (by kernel_rfl) (by kernel_rfl) (by kernel_rfl) (by kernel_rfl) ?_
        simp only [List.take_succ_cons, List.take_zero, List.drop_succ_cons, List.drop_zero]
        refine flockD_heavy _ rfl ?_ ?_
        · intro w9 hb9 hh9
          have hB9 : Below wA.heap.size wA w9 := (by (repeat' (first | (with_reducible exact Below.refl _ _) | (with_reducible assumption) | (with_reducible refine Below.alloc ?_ ?_ _) | (with_reducible refine below_drewN ?_ _) | (with_reducible refine Below.drew ?_) | (with_reducible refine Below.setCell ?_ ?_ _) | (with_reducible refine Below.trans ?_ (Below.mono (by with_reducible assumption) ?_)) | go_size)))
          obtain ⟨kc9, kf9, s9⟩ := bfacts hb9
          obtain ⟨kd9, kg9, _⟩ := bfacts hB9
          have ldf9 := ldf _ hB9; have ldt9 := ldt _ hB9; have ldg9 := ldg _ hB9
          refine wpList_load_box rfl 76 _ rfl rfl ldf9 ?_
          refine bornTo_at (by rfl) (by (repeat' (first | (with_reducible exact Below.refl _ _) | (with_reducible assumption) | (with_reducible refine Below.alloc ?_ ?_ _) | (with_reducible refine below_drewN ?_ _) | (with_reducible refine Below.drew ?_) | (with_reducible refine Below.setCell ?_ ?_ _) | (with_reducible refine Below.trans ?_ (Below.mono (by with_reducible assumption) ?_)) | go_size))) ?_
          exact rfl
        intro x0 y0 ok0
        (try simp only [Act.put, List.setIfInBounds_toArray, List.set_cons_zero, List.set_cons_succ])
        (try dsimp only [Bv.is, Bv.box, Bv.ran] at ok0)
        first | subst ok0 | (obtain ⟨A0, c0, ok0⟩ := ok0; subst ok0) | (obtain ⟨A0, ok0⟩ := ok0; subst ok0) | skip
        refine flockD_heavy _ rfl ?_ ?_
        · intro w9 hb9 hh9
          have hB9 : Below wA.heap.size wA w9 := (by (repeat' (first | (with_reducible exact Below.refl _ _) | (with_reducible assumption) | (with_reducible refine Below.alloc ?_ ?_ _) | (with_reducible refine below_drewN ?_ _) | (with_reducible refine Below.drew ?_) | (with_reducible refine Below.setCell ?_ ?_ _) | (with_reducible refine Below.trans ?_ (Below.mono (by with_reducible assumption) ?_)) | go_size)))
          obtain ⟨kc9, kf9, s9⟩ := bfacts hb9
          obtain ⟨kd9, kg9, _⟩ := bfacts hB9
          have ldf9 := ldf _ hB9; have ldt9 := ldt _ hB9; have ldg9 := ldg _ hB9
          refine wpList_load_box rfl 29 _ rfl rfl ldt9 ?_
          refine bornTo_at (by rfl) (by (repeat' (first | (with_reducible exact Below.refl _ _) | (with_reducible assumption) | (with_reducible refine Below.alloc ?_ ?_ _) | (with_reducible refine below_drewN ?_ _) | (with_reducible refine Below.drew ?_) | (with_reducible refine Below.setCell ?_ ?_ _) | (with_reducible refine Below.trans ?_ (Below.mono (by with_reducible assumption) ?_)) | go_size))) ?_
          exact rfl
        intro x1 y1 ok1
        (try simp only [Act.put, List.setIfInBounds_toArray, List.set_cons_zero, List.set_cons_succ])
        (try dsimp only [Bv.is, Bv.box, Bv.ran] at ok1)
        first | subst ok1 | (obtain ⟨A1, c1, ok1⟩ := ok1; subst ok1) | (obtain ⟨A1, ok1⟩ := ok1; subst ok1) | skip
        refine flockD_heavy _ rfl ?_ ?_
        · intro w9 hb9 hh9
          have hB9 : Below wA.heap.size wA w9 := (by (repeat' (first | (with_reducible exact Below.refl _ _) | (with_reducible assumption) | (with_reducible refine Below.alloc ?_ ?_ _) | (with_reducible refine below_drewN ?_ _) | (with_reducible refine Below.drew ?_) | (with_reducible refine Below.setCell ?_ ?_ _) | (with_reducible refine Below.trans ?_ (Below.mono (by with_reducible assumption) ?_)) | go_size)))
          obtain ⟨kc9, kf9, s9⟩ := bfacts hb9
          obtain ⟨kd9, kg9, _⟩ := bfacts hB9
          have ldf9 := ldf _ hB9; have ldt9 := ldt _ hB9; have ldg9 := ldg _ hB9
          refine wpList_load_box rfl 45 _ rfl rfl ldg9 ?_
          refine bornTo_at (by rfl) (by (repeat' (first | (with_reducible exact Below.refl _ _) | (with_reducible assumption) | (with_reducible refine Below.alloc ?_ ?_ _) | (with_reducible refine below_drewN ?_ _) | (with_reducible refine Below.drew ?_) | (with_reducible refine Below.setCell ?_ ?_ _) | (with_reducible refine Below.trans ?_ (Below.mono (by with_reducible assumption) ?_)) | go_size))) ?_
          exact rfl
        intro x2 y2 ok2
        (try simp only [Act.put, List.setIfInBounds_toArray, List.set_cons_zero, List.set_cons_succ])
        (try dsimp only [Bv.is, Bv.box, Bv.ran] at ok2)
        first | subst ok2 | (obtain ⟨A2, c2, ok2⟩ := ok2; subst ok2) | (obtain ⟨A2, ok2⟩ := ok2; subst ok2) | skip
        apply flockD_light rfl
        case h => first | exact light_no (by rfl) | (apply light_plain rfl; intro w9 hw9; obtain ⟨hb9, hh9⟩ := hw9; skip; go_simp; try rfl) | (apply light_yes (by rfl); intro w9 hw9; obtain ⟨hb9, hh9⟩ := hw9; skip; go_simp; try rfl)
        (try simp only [Act.put, List.setIfInBounds_toArray, List.set_cons_zero, List.set_cons_succ])
        apply flockD_light rfl
        case h => first | exact light_no (by rfl) | (apply light_plain rfl; intro w9 hw9; obtain ⟨hb9, hh9⟩ := hw9; skip; go_simp; try rfl) | (apply light_yes (by rfl); intro w9 hw9; obtain ⟨hb9, hh9⟩ := hw9; skip; go_simp; try rfl)
        (try simp only [Act.put, List.setIfInBounds_toArray, List.set_cons_zero, List.set_cons_succ])
        refine flockD_heavy _ rfl ?_ ?_
        · intro w9 hb9 hh9
          have hB9 : Below wA.heap.size wA w9 := (by (repeat' (first | (with_reducible exact Below.refl _ _) | (with_reducible assumption) | (with_reducible refine Below.alloc ?_ ?_ _) | (with_reducible refine below_drewN ?_ _) | (with_reducible refine Below.drew ?_) | (with_reducible refine Below.setCell ?_ ?_ _) | (with_reducible refine Below.trans ?_ (Below.mono (by with_reducible assumption) ?_)) | go_size)))
          obtain ⟨kc9, kf9, s9⟩ := bfacts hb9
          obtain ⟨kd9, kg9, _⟩ := bfacts hB9
          have r2 := hh9 _ (.head _) (by kernel_rfl); dsimp only [Bv.is, Bv.box, Bv.ran] at r2; (first | replace r2 := lit_heap r2 | replace r2 := box_heap r2 | skip); have r1 := hh9 _ (.tail _ (.head _)) (by kernel_rfl); dsimp only [Bv.is, Bv.box, Bv.ran] at r1; (first | replace r1 := lit_heap r1 | replace r1 := box_heap r1 | skip); have r0 := hh9 _ (.tail _ (.tail _ (.head _))) (by kernel_rfl); dsimp only [Bv.is, Bv.box, Bv.ran] at r0; (first | replace r0 := lit_heap r0 | replace r0 := box_heap r0 | skip); have ldf9 := ldf _ hB9; have ldt9 := ldt _ hB9; have ldg9 := ldg _ hB9
          go_wp2_with (go_at_call 49; refine (C1.out _ (HBA.out.trans (hB9.mono sA'))).mono ?_; rintro e w6 ⟨x1, rfl, hQ1, hb6⟩)
          refine bornTo_at (by rfl) (by (repeat' (first | (with_reducible exact Below.refl _ _) | (with_reducible assumption) | (with_reducible refine Below.alloc ?_ ?_ _) | (with_reducible refine below_drewN ?_ _) | (with_reducible refine Below.drew ?_) | (with_reducible refine Below.setCell ?_ ?_ _) | (with_reducible refine Below.trans ?_ (Below.mono (by with_reducible assumption) ?_)) | go_size))) ?_
          exact hQ1
        intro x5 y5 ok5
        (try simp only [Act.put, List.setIfInBounds_toArray, List.set_cons_zero, List.set_cons_succ])
        (try dsimp only [Bv.is, Bv.box, Bv.ran] at ok5)
        first | subst ok5 | (obtain ⟨A5, c5, ok5⟩ := ok5; subst ok5) | (obtain ⟨A5, ok5⟩ := ok5; subst ok5) | skip
        refine flockD_heavy _ rfl ?_ ?_
        · intro w9 hb9 hh9
          have hB9 : Below wA.heap.size wA w9 := (by (repeat' (first | (with_reducible exact Below.refl _ _) | (with_reducible assumption) | (with_reducible refine Below.alloc ?_ ?_ _) | (with_reducible refine below_drewN ?_ _) | (with_reducible refine Below.drew ?_) | (with_reducible refine Below.setCell ?_ ?_ _) | (with_reducible refine Below.trans ?_ (Below.mono (by with_reducible assumption) ?_)) | go_size)))
          obtain ⟨kc9, kf9, s9⟩ := bfacts hb9
          obtain ⟨kd9, kg9, _⟩ := bfacts hB9
          have ldf9 := ldf _ hB9; have ldt9 := ldt _ hB9; have ldg9 := ldg _ hB9
          refine wpList_load_box rfl 76 _ rfl rfl ldf9 ?_
          refine bornTo_at (by rfl) (by (repeat' (first | (with_reducible exact Below.refl _ _) | (with_reducible assumption) | (with_reducible refine Below.alloc ?_ ?_ _) | (with_reducible refine below_drewN ?_ _) | (with_reducible refine Below.drew ?_) | (with_reducible refine Below.setCell ?_ ?_ _) | (with_reducible refine Below.trans ?_ (Below.mono (by with_reducible assumption) ?_)) | go_size))) ?_
          exact rfl
        intro x6 y6 ok6
        (try simp only [Act.put, List.setIfInBounds_toArray, List.set_cons_zero, List.set_cons_succ])
        (try dsimp only [Bv.is, Bv.box, Bv.ran] at ok6)
        first | subst ok6 | (obtain ⟨A6, c6, ok6⟩ := ok6; subst ok6) | (obtain ⟨A6, ok6⟩ := ok6; subst ok6) | skip
        refine flockD_heavy _ rfl ?_ ?_
        · intro w9 hb9 hh9
          have hB9 : Below wA.heap.size wA w9 := (by (repeat' (first | (with_reducible exact Below.refl _ _) | (with_reducible assumption) | (with_reducible refine Below.alloc ?_ ?_ _) | (with_reducible refine below_drewN ?_ _) | (with_reducible refine Below.drew ?_) | (with_reducible refine Below.setCell ?_ ?_ _) | (with_reducible refine Below.trans ?_ (Below.mono (by with_reducible assumption) ?_)) | go_size)))
          obtain ⟨kc9, kf9, s9⟩ := bfacts hb9
          obtain ⟨kd9, kg9, _⟩ := bfacts hB9
          have ldf9 := ldf _ hB9; have ldt9 := ldt _ hB9; have ldg9 := ldg _ hB9
          refine wpList_load_box rfl 29 _ rfl rfl ldt9 ?_
          refine bornTo_at (by rfl) (by (repeat' (first | (with_reducible exact Below.refl _ _) | (with_reducible assumption) | (with_reducible refine Below.alloc ?_ ?_ _) | (with_reducible refine below_drewN ?_ _) | (with_reducible refine Below.drew ?_) | (with_reducible refine Below.setCell ?_ ?_ _) | (with_reducible refine Below.trans ?_ (Below.mono (by with_reducible assumption) ?_)) | go_size))) ?_
          exact rfl
        intro x7 y7 ok7
        (try simp only [Act.put, List.setIfInBounds_toArray, List.set_cons_zero, List.set_cons_succ])
        (try dsimp only [Bv.is, Bv.box, Bv.ran] at ok7)
        first | subst ok7 | (obtain ⟨A7, c7, ok7⟩ := ok7; subst ok7) | (obtain ⟨A7, ok7⟩ := ok7; subst ok7) | skip
        refine flockD_heavy _ rfl ?_ ?_
        · intro w9 hb9 hh9
          have hB9 : Below wA.heap.size wA w9 := (by (repeat' (first | (with_reducible exact Below.refl _ _) | (with_reducible assumption) | (with_reducible refine Below.alloc ?_ ?_ _) | (with_reducible refine below_drewN ?_ _) | (with_reducible refine Below.drew ?_) | (with_reducible refine Below.setCell ?_ ?_ _) | (with_reducible refine Below.trans ?_ (Below.mono (by with_reducible assumption) ?_)) | go_size)))
          obtain ⟨kc9, kf9, s9⟩ := bfacts hb9
          obtain ⟨kd9, kg9, _⟩ := bfacts hB9
          have ldf9 := ldf _ hB9; have ldt9 := ldt _ hB9; have ldg9 := ldg _ hB9
          refine wpList_load_box rfl 45 _ rfl rfl ldg9 ?_
          refine bornTo_at (by rfl) (by (repeat' (first | (with_reducible exact Below.refl _ _) | (with_reducible assumption) | (with_reducible refine Below.alloc ?_ ?_ _) | (with_reducible refine below_drewN ?_ _) | (with_reducible refine Below.drew ?_) | (with_reducible refine Below.setCell ?_ ?_ _) | (with_reducible refine Below.trans ?_ (Below.mono (by with_reducible assumption) ?_)) | go_size))) ?_
          exact rfl
        intro x8 y8 ok8
        (try simp only [Act.put, List.setIfInBounds_toArray, List.set_cons_zero, List.set_cons_succ])
        (try dsimp only [Bv.is, Bv.box, Bv.ran] at ok8)
        first | subst ok8 | (obtain ⟨A8, c8, ok8⟩ := ok8; subst ok8) | (obtain ⟨A8, ok8⟩ := ok8; subst ok8) | skip
        apply flockD_light rfl
        case h => first | exact light_no (by rfl) | (apply light_plain rfl; intro w9 hw9; obtain ⟨hb9, hh9⟩ := hw9; skip; go_simp; try rfl) | (apply light_yes (by rfl); intro w9 hw9; obtain ⟨hb9, hh9⟩ := hw9; skip; go_simp; try rfl)
        (try simp only [Act.put, List.setIfInBounds_toArray, List.set_cons_zero, List.set_cons_succ])
        apply flockD_light rfl
        case h => first | exact light_no (by rfl) | (apply light_plain rfl; intro w9 hw9; obtain ⟨hb9, hh9⟩ := hw9; skip; go_simp; try rfl) | (apply light_yes (by rfl); intro w9 hw9; obtain ⟨hb9, hh9⟩ := hw9; skip; go_simp; try rfl)
        (try simp only [Act.put, List.setIfInBounds_toArray, List.set_cons_zero, List.set_cons_succ])
        refine flockD_heavy _ rfl ?_ ?_
        · intro w9 hb9 hh9
          have hB9 : Below wA.heap.size wA w9 := (by (repeat' (first | (with_reducible exact Below.refl _ _) | (with_reducible assumption) | (with_reducible refine Below.alloc ?_ ?_ _) | (with_reducible refine below_drewN ?_ _) | (with_reducible refine Below.drew ?_) | (with_reducible refine Below.setCell ?_ ?_ _) | (with_reducible refine Below.trans ?_ (Below.mono (by with_reducible assumption) ?_)) | go_size)))
          obtain ⟨kc9, kf9, s9⟩ := bfacts hb9
          obtain ⟨kd9, kg9, _⟩ := bfacts hB9
          have r8 := hh9 _ (.head _) (by kernel_rfl); dsimp only [Bv.is, Bv.box, Bv.ran] at r8; (first | replace r8 := lit_heap r8 | replace r8 := box_heap r8 | skip); have r7 := hh9 _ (.tail _ (.head _)) (by kernel_rfl); dsimp only [Bv.is, Bv.box, Bv.ran] at r7; (first | replace r7 := lit_heap r7 | replace r7 := box_heap r7 | skip); have r6 := hh9 _ (.tail _ (.tail _ (.head _))) (by kernel_rfl); dsimp only [Bv.is, Bv.box, Bv.ran] at r6; (first | replace r6 := lit_heap r6 | replace r6 := box_heap r6 | skip); have r5 := hh9 _ (.tail _ (.tail _ (.tail _ (.head _)))) (by kernel_rfl); dsimp only [Bv.is, Bv.box, Bv.ran] at r5; (first | replace r5 := lit_heap r5 | replace r5 := box_heap r5 | skip); have r2 := hh9 _ (.tail _ (.tail _ (.tail _ (.tail _ (.head _))))) (by kernel_rfl); dsimp only [Bv.is, Bv.box, Bv.ran] at r2; (first | replace r2 := lit_heap r2 | replace r2 := box_heap r2 | skip); have r1 := hh9 _ (.tail _ (.tail _ (.tail _ (.tail _ (.tail _ (.head _)))))) (by kernel_rfl); dsimp only [Bv.is, Bv.box, Bv.ran] at r1; (first | replace r1 := lit_heap r1 | replace r1 := box_heap r1 | skip); have r0 := hh9 _ (.tail _ (.tail _ (.tail _ (.tail _ (.tail _ (.tail _ (.head _))))))) (by kernel_rfl); dsimp only [Bv.is, Bv.box, Bv.ran] at r0; (first | replace r0 := lit_heap r0 | replace r0 := box_heap r0 | skip); have ldf9 := ldf _ hB9; have ldt9 := ldt _ hB9; have ldg9 := ldg _ hB9
          go_wp2_with (go_at_call 49; refine (C2.out _ (HBA.out.trans (hB9.mono sA'))).mono ?_; rintro e w6 ⟨x1, rfl, hQ1, hb6⟩)
          refine bornTo_at (by rfl) (by (repeat' (first | (with_reducible exact Below.refl _ _) | (with_reducible assumption) | (with_reducible refine Below.alloc ?_ ?_ _) | (with_reducible refine below_drewN ?_ _) | (with_reducible refine Below.drew ?_) | (with_reducible refine Below.setCell ?_ ?_ _) | (with_reducible refine Below.trans ?_ (Below.mono (by with_reducible assumption) ?_)) | go_size))) ?_
          exact hQ1
        intro x11 y11 ok11
        (try simp only [Act.put, List.setIfInBounds_toArray, List.set_cons_zero, List.set_cons_succ])
        (try dsimp only [Bv.is, Bv.box, Bv.ran] at ok11)
        first | subst ok11 | (obtain ⟨A11, c11, ok11⟩ := ok11; subst ok11) | (obtain ⟨A11, ok11⟩ := ok11; subst ok11) | skip
        refine flockD_heavy _ rfl ?_ ?_
        · intro w9 hb9 hh9
          have hB9 : Below wA.heap.size wA w9 := (by (repeat' (first | (with_reducible exact Below.refl _ _) | (with_reducible assumption) | (with_reducible refine Below.alloc ?_ ?_ _) | (with_reducible refine below_drewN ?_ _) | (with_reducible refine Below.drew ?_) | (with_reducible refine Below.setCell ?_ ?_ _) | (with_reducible refine Below.trans ?_ (Below.mono (by with_reducible assumption) ?_)) | go_size)))
          obtain ⟨kc9, kf9, s9⟩ := bfacts hb9
          obtain ⟨kd9, kg9, _⟩ := bfacts hB9
          have ldf9 := ldf _ hB9; have ldt9 := ldt _ hB9; have ldg9 := ldg _ hB9
          go_wp2_with fail
          refine bornTo_at (by rfl) (by (repeat' (first | (with_reducible exact Below.refl _ _) | (with_reducible assumption) | (with_reducible refine Below.alloc ?_ ?_ _) | (with_reducible refine below_drewN ?_ _) | (with_reducible refine Below.drew ?_) | (with_reducible refine Below.setCell ?_ ?_ _) | (with_reducible refine Below.trans ?_ (Below.mono (by with_reducible assumption) ?_)) | go_size))) ?_
          exact ⟨_, rfl, by go_size, Nat.le_refl _, by go_size, heap_alloc_new _ _⟩
        intro x12 y12 ok12
        (try simp only [Act.put, List.setIfInBounds_toArray, List.set_cons_zero, List.set_cons_succ])
        (try dsimp only [Bv.is, Bv.box, Bv.ran] at ok12)
        first | subst ok12 | (obtain ⟨A12, c12, ok12⟩ := ok12; subst ok12) | (obtain ⟨A12, ok12⟩ := ok12; subst ok12) | skip
        refine flockD_heavy _ rfl ?_ ?_
        · intro w9 hb9 hh9
          have hB9 : Below wA.heap.size wA w9 := (by (repeat' (first | (with_reducible exact Below.refl _ _) | (with_reducible assumption) | (with_reducible refine Below.alloc ?_ ?_ _) | (with_reducible refine below_drewN ?_ _) | (with_reducible refine Below.drew ?_) | (with_reducible refine Below.setCell ?_ ?_ _) | (with_reducible refine Below.trans ?_ (Below.mono (by with_reducible assumption) ?_)) | go_size)))
          obtain ⟨kc9, kf9, s9⟩ := bfacts hb9
          obtain ⟨kd9, kg9, _⟩ := bfacts hB9
          have ldf9 := ldf _ hB9; have ldt9 := ldt _ hB9; have ldg9 := ldg _ hB9
          go_wp2_with fail
          refine bornTo_at (by rfl) (by (repeat' (first | (with_reducible exact Below.refl _ _) | (with_reducible assumption) | (with_reducible refine Below.alloc ?_ ?_ _) | (with_reducible refine below_drewN ?_ _) | (with_reducible refine Below.drew ?_) | (with_reducible refine Below.setCell ?_ ?_ _) | (with_reducible refine Below.trans ?_ (Below.mono (by with_reducible assumption) ?_)) | go_size))) ?_
          exact ⟨_, rfl, by go_size, Nat.le_refl _, by go_size, heap_alloc_new _ _⟩
        intro x13 y13 ok13
        (try simp only [Act.put, List.setIfInBounds_toArray, List.set_cons_zero, List.set_cons_succ])
        (try dsimp only [Bv.is, Bv.box, Bv.ran] at ok13)
        first | subst ok13 | (obtain ⟨A13, c13, ok13⟩ := ok13; subst ok13) | (obtain ⟨A13, ok13⟩ := ok13; subst ok13) | skip
        refine flockD_nil ?_
        intro w9 hb9 hh9 hd9
        have hB9 : Below wA.heap.size wA w9 := (by (repeat' (first | (with_reducible exact Below.refl _ _) | (with_reducible assumption) | (with_reducible refine Below.alloc ?_ ?_ _) | (with_reducible refine below_drewN ?_ _) | (with_reducible refine Below.drew ?_) | (with_reducible refine Below.setCell ?_ ?_ _) | (with_reducible refine Below.trans ?_ (Below.mono (by with_reducible assumption) ?_)) | go_size)))
        have r13 := hh9 _ (.head _); dsimp only [Bv.is, Bv.box, Bv.ran] at r13; (first | replace r13 := lit_heap r13 | replace r13 := box_heap r13 | skip); have r12 := hh9 _ (.tail _ (.head _)); dsimp only [Bv.is, Bv.box, Bv.ran] at r12; (first | replace r12 := lit_heap r12 | replace r12 := box_heap r12 | skip); have r11 := hh9 _ (.tail _ (.tail _ (.head _))); dsimp only [Bv.is, Bv.box, Bv.ran] at r11; (first | replace r11 := lit_heap r11 | replace r11 := box_heap r11 | skip); have r8 := hh9 _ (.tail _ (.tail _ (.tail _ (.head _)))); dsimp only [Bv.is, Bv.box, Bv.ran] at r8; (first | replace r8 := lit_heap r8 | replace r8 := box_heap r8 | skip); have r7 := hh9 _ (.tail _ (.tail _ (.tail _ (.tail _ (.head _))))); dsimp only [Bv.is, Bv.box, Bv.ran] at r7; (first | replace r7 := lit_heap r7 | replace r7 := box_heap r7 | skip); have r6 := hh9 _ (.tail _ (.tail _ (.tail _ (.tail _ (.tail _ (.head _)))))); dsimp only [Bv.is, Bv.box, Bv.ran] at r6; (first | replace r6 := lit_heap r6 | replace r6 := box_heap r6 | skip); have r5 := hh9 _ (.tail _ (.tail _ (.tail _ (.tail _ (.tail _ (.tail _ (.head _))))))); dsimp only [Bv.is, Bv.box, Bv.ran] at r5; (first | replace r5 := lit_heap r5 | replace r5 := box_heap r5 | skip); have r2 := hh9 _ (.tail _ (.tail _ (.tail _ (.tail _ (.tail _ (.tail _ (.tail _ (.head _)))))))); dsimp only [Bv.is, Bv.box, Bv.ran] at r2; (first | replace r2 := lit_heap r2 | replace r2 := box_heap r2 | skip); have r1 := hh9 _ (.tail _ (.tail _ (.tail _ (.tail _ (.tail _ (.tail _ (.tail _ (.tail _ (.head _))))))))); dsimp only [Bv.is, Bv.box, Bv.ran] at r1; (first | replace r1 := lit_heap r1 | replace r1 := box_heap r1 | skip); have r0 := hh9 _ (.tail _ (.tail _ (.tail _ (.tail _ (.tail _ (.tail _ (.tail _ (.tail _ (.tail _ (.head _)))))))))); dsimp only [Bv.is, Bv.box, Bv.ran] at r0; (first | replace r0 := lit_heap r0 | replace r0 := box_heap r0 | skip); clear hh9
        have d9_5_11 := (pw_get hd9 2 6 (by decide) rfl rfl).symm
        have d9_5_12 := (pw_get hd9 1 6 (by decide) rfl rfl).symm
        have d9_5_13 := (pw_get hd9 0 6 (by decide) rfl rfl).symm
        have d9_11_12 := (pw_get hd9 1 2 (by decide) rfl rfl).symm
        have d9_11_13 := (pw_get hd9 0 2 (by decide) rfl rfl).symm
        have d9_12_13 := (pw_get hd9 0 1 (by decide) rfl rfl).symm
        clear hd9
        (try dsimp only)
        clear r0 r1 r2 r6 r7 r8 hb9
        obtain ⟨n_lo12, g12, n12, p12⟩ := bvbox r12
        obtain ⟨n_lo13, g13, n13, p13⟩ := bvbox r13
        clear r12 r13
        have d1 := apart_ne d9_12_13 g12 n12 g13 n13
        have d2 := d1.symm
        have DR : Hid (Dep y5.1 y5.2 (row7 (row7 w9 A12 (.int .i64 R.ended.word) (.bool R.ended.trap) (.slice A5.1 R.ended.arrays.length A5.2) (.int .i64 R.err) (.int .i64 R.steps) (.int .i64 R.mode) (.slice c5.1 R.leaks.length c5.2)) A13 (.int .i64 S.ended.word) (.bool S.ended.trap) (.slice A11.1 S.ended.arrays.length A11.2) (.int .i64 S.err) (.int .i64 S.steps) (.int .i64 S.mode) (.slice c11.1 S.leaks.length c11.2)) (fun u => RRan u (.agg #[.int .i64 R.ended.word, .bool R.ended.trap, .slice A5.1 R.ended.arrays.length A5.2, .int .i64 R.err, .int .i64 R.steps, .int .i64 R.mode, .slice c5.1 R.leaks.length c5.2]) R)) := Lib.hid (Dep.row7 (Dep.row7 r5 (apart_box d9_5_12 g12 n12) (.int .i64 R.ended.word) (.bool R.ended.trap) (.slice A5.1 R.ended.arrays.length A5.2) (.int .i64 R.err) (.int .i64 R.steps) (.int .i64 R.mode) (.slice c5.1 R.leaks.length c5.2)) (apart_box d9_5_13 g13 n13) (.int .i64 S.ended.word) (.bool S.ended.trap) (.slice A11.1 S.ended.arrays.length A11.2) (.int .i64 S.err) (.int .i64 S.steps) (.int .i64 S.mode) (.slice c11.1 S.leaks.length c11.2))
        have DS : Hid (Dep y11.1 y11.2 (row7 (row7 w9 A12 (.int .i64 R.ended.word) (.bool R.ended.trap) (.slice A5.1 R.ended.arrays.length A5.2) (.int .i64 R.err) (.int .i64 R.steps) (.int .i64 R.mode) (.slice c5.1 R.leaks.length c5.2)) A13 (.int .i64 S.ended.word) (.bool S.ended.trap) (.slice A11.1 S.ended.arrays.length A11.2) (.int .i64 S.err) (.int .i64 S.steps) (.int .i64 S.mode) (.slice c11.1 S.leaks.length c11.2)) (fun u => RRan u (.agg #[.int .i64 S.ended.word, .bool S.ended.trap, .slice A11.1 S.ended.arrays.length A11.2, .int .i64 S.err, .int .i64 S.steps, .int .i64 S.mode, .slice c11.1 S.leaks.length c11.2]) S)) := Lib.hid (Dep.row7 (Dep.row7 r11 (apart_box d9_11_12 g12 n12) (.int .i64 R.ended.word) (.bool R.ended.trap) (.slice A5.1 R.ended.arrays.length A5.2) (.int .i64 R.err) (.int .i64 R.steps) (.int .i64 R.mode) (.slice c5.1 R.leaks.length c5.2)) (apart_box d9_11_13 g13 n13) (.int .i64 S.ended.word) (.bool S.ended.trap) (.slice A11.1 S.ended.arrays.length A11.2) (.int .i64 S.err) (.int .i64 S.steps) (.int .i64 S.mode) (.slice c11.1 S.leaks.length c11.2))
        have q12 : A12 < w9.heap.size := (Array.getElem?_eq_some_iff.1 p12).1
        have q13 : A13 < w9.heap.size := (Array.getElem?_eq_some_iff.1 p13).1
        have p12' : (row7 (row7 w9 A12 (.int .i64 R.ended.word) (.bool R.ended.trap) (.slice A5.1 R.ended.arrays.length A5.2) (.int .i64 R.err) (.int .i64 R.steps) (.int .i64 R.mode) (.slice c5.1 R.leaks.length c5.2)) A13 (.int .i64 S.ended.word) (.bool S.ended.trap) (.slice A11.1 S.ended.arrays.length A11.2) (.int .i64 S.err) (.int .i64 S.steps) (.int .i64 S.mode) (.slice c11.1 S.leaks.length c11.2)).heap[A12]? = some (.cells #[.int .i64 R.ended.word, .bool R.ended.trap, .slice A5.1 R.ended.arrays.length A5.2, .int .i64 R.err, .int .i64 R.steps, .int .i64 R.mode, .slice c5.1 R.leaks.length c5.2] 82 (0, 0)) := (row7_other (.int .i64 S.ended.word) (.bool S.ended.trap) (.slice A11.1 S.ended.arrays.length A11.2) (.int .i64 S.err) (.int .i64 S.steps) (.int .i64 S.mode) (.slice c11.1 S.leaks.length c11.2) d1).trans (row7_same p12)
        have p13' : (row7 (row7 w9 A12 (.int .i64 R.ended.word) (.bool R.ended.trap) (.slice A5.1 R.ended.arrays.length A5.2) (.int .i64 R.err) (.int .i64 R.steps) (.int .i64 R.mode) (.slice c5.1 R.leaks.length c5.2)) A13 (.int .i64 S.ended.word) (.bool S.ended.trap) (.slice A11.1 S.ended.arrays.length A11.2) (.int .i64 S.err) (.int .i64 S.steps) (.int .i64 S.mode) (.slice c11.1 S.leaks.length c11.2)).heap[A13]? = some (.cells #[.int .i64 S.ended.word, .bool S.ended.trap, .slice A11.1 S.ended.arrays.length A11.2, .int .i64 S.err, .int .i64 S.steps, .int .i64 S.mode, .slice c11.1 S.leaks.length c11.2] 82 (0, 0)) := row7_same ((row7_other (.int .i64 R.ended.word) (.bool R.ended.trap) (.slice A5.1 R.ended.arrays.length A5.2) (.int .i64 R.err) (.int .i64 R.steps) (.int .i64 R.mode) (.slice c5.1 R.leaks.length c5.2) d2).trans p13)
        have zE : (row7 (row7 w9 A12 (.int .i64 R.ended.word) (.bool R.ended.trap) (.slice A5.1 R.ended.arrays.length A5.2) (.int .i64 R.err) (.int .i64 R.steps) (.int .i64 R.mode) (.slice c5.1 R.leaks.length c5.2)) A13 (.int .i64 S.ended.word) (.bool S.ended.trap) (.slice A11.1 S.ended.arrays.length A11.2) (.int .i64 S.err) (.int .i64 S.steps) (.int .i64 S.mode) (.slice c11.1 S.leaks.length c11.2)).heap.size = w9.heap.size := (row7_size _ A13 (.int .i64 S.ended.word) (.bool S.ended.trap) (.slice A11.1 S.ended.arrays.length A11.2) (.int .i64 S.err) (.int .i64 S.steps) (.int .i64 S.mode) (.slice c11.1 S.leaks.length c11.2)).trans (row7_size w9 A12 (.int .i64 R.ended.word) (.bool R.ended.trap) (.slice A5.1 R.ended.arrays.length A5.2) (.int .i64 R.err) (.int .i64 R.steps) (.int .i64 R.mode) (.slice c5.1 R.leaks.length c5.2))
        have BE : Hid (Below wA.heap.size wA (row7 (row7 w9 A12 (.int .i64 R.ended.word) (.bool R.ended.trap) (.slice A5.1 R.ended.arrays.length A5.2) (.int .i64 R.err) (.int .i64 R.steps) (.int .i64 R.mode) (.slice c5.1 R.leaks.length c5.2)) A13 (.int .i64 S.ended.word) (.bool S.ended.trap) (.slice A11.1 S.ended.arrays.length A11.2) (.int .i64 S.err) (.int .i64 S.steps) (.int .i64 S.mode) (.slice c11.1 S.leaks.length c11.2))) := Lib.hid (row7_below (row7_below hB9 n_lo12 (.int .i64 R.ended.word) (.bool R.ended.trap) (.slice A5.1 R.ended.arrays.length A5.2) (.int .i64 R.err) (.int .i64 R.steps) (.int .i64 R.mode) (.slice c5.1 R.leaks.length c5.2)) n_lo13 (.int .i64 S.ended.word) (.bool S.ended.trap) (.slice A11.1 S.ended.arrays.length A11.2) (.int .i64 S.err) (.int .i64 S.steps) (.int .i64 S.mode) (.slice c11.1 S.leaks.length c11.2))
        have P12 := Lib.hid p12'
        have P13 := Lib.hid p13'
        have q12' : A12 < (row7 (row7 w9 A12 (.int .i64 R.ended.word) (.bool R.ended.trap) (.slice A5.1 R.ended.arrays.length A5.2) (.int .i64 R.err) (.int .i64 R.steps) (.int .i64 R.mode) (.slice c5.1 R.leaks.length c5.2)) A13 (.int .i64 S.ended.word) (.bool S.ended.trap) (.slice A11.1 S.ended.arrays.length A11.2) (.int .i64 S.err) (.int .i64 S.steps) (.int .i64 S.mode) (.slice c11.1 S.leaks.length c11.2)).heap.size := by omega
        have q13' : A13 < (row7 (row7 w9 A12 (.int .i64 R.ended.word) (.bool R.ended.trap) (.slice A5.1 R.ended.arrays.length A5.2) (.int .i64 R.err) (.int .i64 R.steps) (.int .i64 R.mode) (.slice c5.1 R.leaks.length c5.2)) A13 (.int .i64 S.ended.word) (.bool S.ended.trap) (.slice A11.1 S.ended.arrays.length A11.2) (.int .i64 S.err) (.int .i64 S.steps) (.int .i64 S.mode) (.slice c11.1 S.leaks.length c11.2)).heap.size := by omega
        clear zE p12' p13'
        clear hB9 r5 r11 d9_5_11 d9_5_12 d9_5_13 d9_11_12 d9_11_13 d9_12_13
        have l12 := fun j => box_loose p12 j
        have l13 := fun j => box_loose p13 j
        have k12 := fun j => cell_of_block p12 j
        have k13 := fun j => cell_of_block p13 j
        clear p12 p13
        have a0 := k12 0
        have a1 := k12 1
        have a2 := k12 2
        have a3 := k12 3
        have a4 := k12 4
        have a5 := k12 5
        have a6 := k12 6
        have e0 := k13 0
        have e1 := k13 1
        have e2 := k13 2
        have e3 := k13 3
        have e4 := k13 4
        have e5 := k13 5
        have e6 := k13 6
        simp at a0 a1 a2 a3 a4 a5 a6 e0 e1 e2 e3 e4 e5 e6
        clear k12 k13
        go_upto_region 6 with fail
        change (_ : Prop)
        generalize hwE : ((((((((((((((w9.setCell ⟨A12, 0, none⟩ (.int .i64 R.ended.word)).setCell ⟨A12, 1, none⟩ (.bool R.ended.trap)).setCell ⟨A12, 2, none⟩ (.slice A5.1 R.ended.arrays.length A5.2)).setCell ⟨A12, 3, none⟩ (.int .i64 R.err)).setCell ⟨A12, 4, none⟩ (.int .i64 R.steps)).setCell ⟨A12, 5, none⟩ (.int .i64 R.mode)).setCell ⟨A12, 6, none⟩ (.slice c5.1 R.leaks.length c5.2)).setCell ⟨A13, 0, none⟩ (.int .i64 S.ended.word)).setCell ⟨A13, 1, none⟩ (.bool S.ended.trap)).setCell ⟨A13, 2, none⟩ (.slice A11.1 S.ended.arrays.length A11.2)).setCell ⟨A13, 3, none⟩ (.int .i64 S.err)).setCell ⟨A13, 4, none⟩ (.int .i64 S.steps)).setCell ⟨A13, 5, none⟩ (.int .i64 S.mode)).setCell ⟨A13, 6, none⟩ (.slice c11.1 S.leaks.length c11.2)) = wE
        have hwE' : row7 (row7 w9 A12 (.int .i64 R.ended.word) (.bool R.ended.trap) (.slice A5.1 R.ended.arrays.length A5.2) (.int .i64 R.err) (.int .i64 R.steps) (.int .i64 R.mode) (.slice c5.1 R.leaks.length c5.2)) A13 (.int .i64 S.ended.word) (.bool S.ended.trap) (.slice A11.1 S.ended.arrays.length A11.2) (.int .i64 S.err) (.int .i64 S.steps) (.int .i64 S.mode) (.slice c11.1 S.leaks.length c11.2) = wE := hwE
        clear hwE
        rw [hwE'] at DR DS BE P12 P13 q12' q13'
        clear hwE' a0 a1 a2 a3 a4 a5 a6 e0 e1 e2 e3 e4 e5 e6 l12 l13
        have ldr : ∀ u, Below wE.heap.size wE u → (Go.Instr.loadAt 82 (.pointer (some ⟨A12, 0, none⟩))).run Try.prog u = .ok (.agg #[.int .i64 R.ended.word, .bool R.ended.trap, .slice A5.1 R.ended.arrays.length A5.2, .int .i64 R.err, .int .i64 R.steps, .int .i64 R.mode, .slice c5.1 R.leaks.length c5.2]) u := fun u hu => load_box Try.underlying82 (by kernel_rfl) rfl (by kernel_rfl) (fun j v hj => (cell_of_block P12.out j).trans hj) q12' hu
        have lds : ∀ u, Below wE.heap.size wE u → (Go.Instr.loadAt 82 (.pointer (some ⟨A13, 0, none⟩))).run Try.prog u = .ok (.agg #[.int .i64 S.ended.word, .bool S.ended.trap, .slice A11.1 S.ended.arrays.length A11.2, .int .i64 S.err, .int .i64 S.steps, .int .i64 S.mode, .slice c11.1 S.leaks.length c11.2]) u := fun u hu => load_box Try.underlying82 (by kernel_rfl) rfl (by kernel_rfl) (fun j v hj => (cell_of_block P13.out j).trans hj) q13' hu
        have f3h := Lib.hid (show wE.cell? ⟨A12, 3, none⟩ = some (.int .i64 R.err) from (cell_of_block P12.out 3).trans rfl)
        have f4h := Lib.hid (show wE.cell? ⟨A12, 4, none⟩ = some (.int .i64 R.steps) from (cell_of_block P12.out 4).trans rfl)
        have f6h := Lib.hid (show wE.cell? ⟨A12, 6, none⟩ = some (.slice c5.1 R.leaks.length c5.2) from (cell_of_block P12.out 6).trans rfl)
        have BWE := Lib.hid (HBA.out.trans (BE.out.mono sA'))
        have LDR := Lib.hid ldr
        have LDS := Lib.hid lds
        clear ldr lds P12 P13 CW3 CD3 C1 C2 hw0 HWO HBA HB5 HB5' BE
        by_cases he : R.err = 12
        · have hlk : R.leaks.length = 0 := by
            rcases PE.out with ⟨_, h⟩ | ⟨h0, _⟩
            · rw [h]; rfl
            · omega
          have f3 := f3h.out
          have f6 := f6h.out
          rw [he] at f3
          rw [hlk] at f6
          clear LDR LDS DR DS PE PM' ldf ldt ldg he hlk
          go_wp2_with fail
          go_ret
          exact ⟨rfl, BWE.out⟩
        · obtain rfl : S = R := PM'.out he
          have he1 : (S.err == 12) = false := by simpa using he
          have CRS := Lib.hid (sameRan_one S _ _ wE DR.out.here DS.out.here)
          have f3 := f3h.out
          have f4 := f4h.out
          have f6 := f6h.out
          have hpe := PE.out
          clear DR DS PE PM' ldf ldt ldg he
          by_cases he0 : S.err = 0
          · rcases hpe with ⟨h, _⟩ | ⟨h0, h1, h2, h3⟩
            · exact absurd he0 h
            rw [he0] at f3
            rw [← h1] at f4 h2 h3
            clear h0 h1 he0 he1 f3h f4h f6h
            go_wp2_with (first | (refine wpList_load_box rfl 82 (.tmp 13) rfl rfl (LDR.out _ (Below.refl _ _)) ?_) | (refine wpList_load_box rfl 82 (.tmp 14) rfl rfl (LDS.out _ (Below.refl _ _)) ?_))
            go_at_call 48
            (with_reducible refine CRS.out.mono ?_)
            rintro e w8 ⟨rfl, hb8⟩
            have g3 := (hb8.cell (p := ⟨A12, 3, none⟩) q12').trans f3
            have g4 := (hb8.cell (p := ⟨A12, 4, none⟩) q12').trans f4
            have g6 := (hb8.cell (p := ⟨A12, 6, none⟩) q12').trans f6
            clear LDR LDS CRS f3
            go_wp2_with fail
            all_goals
              go_ret
              exact ⟨rfl, by have e0 := BWE.out; have e1 := e0.size; (repeat' (first | (with_reducible exact Below.refl _ _) | (with_reducible assumption) | (with_reducible refine Below.alloc ?_ ?_ _) | (with_reducible refine below_drewN ?_ _) | (with_reducible refine Below.drew ?_) | (with_reducible refine Below.setCell ?_ ?_ _) | (with_reducible refine Below.trans ?_ (Below.mono (by with_reducible assumption) ?_)) | go_size))⟩
          · have he2 : (S.err == 0) = false := by simpa using he0
            have he3 : (S.err != 0) = true := by simpa using he0
            clear hpe he0 f4 f6 f3h f4h f6h
            go_wp2_with (first | (refine wpList_load_box rfl 82 (.tmp 13) rfl rfl (LDR.out _ (Below.refl _ _)) ?_) | (refine wpList_load_box rfl 82 (.tmp 14) rfl rfl (LDS.out _ (Below.refl _ _)) ?_))
            go_at_call 48
            (with_reducible refine CRS.out.mono ?_)
            rintro e w8 ⟨rfl, hb8⟩
            have g3 := (hb8.cell (p := ⟨A12, 3, none⟩) q12').trans f3
            clear LDR LDS CRS f3
            go_wp2_with fail
            all_goals
              go_ret
              exact ⟨rfl, by have e0 := BWE.out; have e1 := e0.size; (repeat' (first | (with_reducible exact Below.refl _ _) | (with_reducible assumption) | (with_reducible refine Below.alloc ?_ ?_ _) | (with_reducible refine below_drewN ?_ _) | (with_reducible refine Below.drew ?_) | (with_reducible refine Below.setCell ?_ ?_ _) | (with_reducible refine Below.trans ?_ (Below.mono (by with_reducible assumption) ?_)) | go_size))⟩
  · have hw0 : (Ev.wrong t != 0) = true := by simpa using hwt
    clear hwt CD CR1 CR2 PM PE
    go_wp2_with (first | (refine wpList_load_box rfl 29 _ rfl rfl (ldt _ HBr) ?_) | (go_at_call 18; refine (CW.out _).mono ?_; rintro e w4 ⟨rfl, hb4⟩))
    go_ret
    exact ⟨rfl, by have e0 := hwA3.out; have e1 := e0.size; (repeat' (first | (with_reducible exact Below.refl _ _) | (with_reducible assumption) | (with_reducible refine Below.alloc ?_ ?_ _) | (with_reducible refine below_drewN ?_ _) | (with_reducible refine Below.drew ?_) | (with_reducible refine Below.setCell ?_ ?_ _) | (with_reducible refine Below.trans ?_ (Below.mono (by with_reducible assumption) ?_)) | go_size))⟩
end Go.Proofs.Ytljcgcllhcdleaa
