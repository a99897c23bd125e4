import Derived.Test.YtljcgcllhcdleaaMt37
import Derived.Test.YtljcgcllhcdleaaMt40
import Derived.Test.YtljcgcllhcdleaaMt42
import Derived.Test.YtljcgcllhcdleaaMt34
import Derived.Test.YtljcgcllhcdleaaMt38
import Derived.Deep.DeepCutAuto
/- MachTells: the law's walk. -/
namespace Ev
theorem len_flattenM {l : List (List Int)} {a : List Int} (h : a ∈ l) : a.length ≤ l.flatten.length := by
  induction l with
  | nil => cases h
  | cons b r ih =>
    rw [List.flatten_cons, List.length_append]
    rcases List.mem_cons.1 h with rfl | h
    · omega
    · have := ih h; omega
end Ev
namespace Go.Proofs.Ytljcgcllhcdleaa
open Go.RowKit
set_option linter.unusedSimpArgs false
set_option linter.unusedVariables false
theorem mgiven_of {g : Ev.Given} (h : Ev.wordsOk g = true) (h2 : g.arrays.length ≤ 1073741824) (h3 : ∀ a ∈ g.arrays, a.length ≤ 1073741824) : MGiven g := by
  unfold Ev.wordsOk at h
  rw [List.all_eq_true] at h
  have hw : ∀ a ∈ g.arrays ++ [g.words], ∀ x ∈ a, Ev.Wd x := fun a ha x hx => by
    have := List.all_eq_true.1 (h a ha) x hx
    unfold Ev.isWord at this
    simp at this
    exact this
  exact ⟨hw _ (by simp), fun a ha => hw a (by simp [ha]), h3, h2⟩
theorem RGiven.atM {w w' : World} {v : Value} {g : Ev.Given} (h : RGiven w w.heap.size v g) (hb : Below w.heap.size w w') : RGiven w' w'.heap.size v g := by
  obtain ⟨vw, va, h1, h2, h3⟩ := h
  exact ⟨vw, va, h1, SL.at_ h2 hb (Nat.le_refl _), h3.at_ hb (Nat.le_refl _)⟩
theorem RRan.stays {w w' : World} {v : Value} {r : Ev.Ran} (h : RRan w v r) (hb : Below w.heap.size w w') : RRan w' v r := by
  obtain ⟨va, vl, h1, h2, h3⟩ := h
  exact ⟨va, vl, h1, h2.at_ hb (Nat.le_refl _), h3.stays hb⟩
theorem slice_form {w : World} {B : Nat} {v : Value} {l : List (List Int)} (h : RLists w B v l) : ∃ A c, v = .slice A l.length c ∧ l.length ≤ c ∧ c ≤ maxLen := by
  obtain ⟨_, _, h, _⟩ := h; exact SL.form h
set_option maxRecDepth 20000 in
set_option maxHeartbeats 6400000 in
theorem machTells_walk (b : List Int) (p : Int) (ay : List Ev.Vr) (t : List Int) (g : Ev.Given) (mode most : Int) (vb va vg : Value) (w : World) (hb : RBytes w w.heap.size vb b) (ha : RVars w w.heap.size va ay) (hg : RGiven w w.heap.size vg g)
    (hl : t.length = 18) (hr : ∀ x ∈ t, -9223372036854775808 ≤ x ∧ x ≤ 9223372036854775807) (hy : Ev.Byt b) (hbl : b.length ≤ 1099511627776) (h2 : g.arrays.length ≤ 1073741824) (h3 : ∀ a ∈ g.arrays, a.length ≤ 1073741824) :
    Calls Try.prog 13 #[.agg #[vb, .int .i64 p, va], tableV t, vg, .int .i64 mode, .int .i64 most] w fun e w' => e = .returned (.bool true) ∧ Below w.heap.size w w' := by
  have CL1 := Lib.hid (fun u (h : Below w.heap.size w u) => load_any b p ay.length ay vb va u (SL.at_ hb h (Nat.le_refl _)) (SL.at_ ha h (Nat.le_refl _)) hy rfl hbl)
  have CL2 := Lib.hid (fun u (h : Below w.heap.size w u) => refLoad_any b p ay.length ay vb va u (SL.at_ hb h (Nat.le_refl _)) (SL.at_ ha h (Nat.le_refl _)) hy rfl hbl)
  have CW := Lib.hid (fun u => refWrong_any t u hl hr)
  have CD := Lib.hid (fun u (h : Below w.heap.size w u) => words_any g vg u (RGiven.atM hg h) h2)
  have CR1 := Lib.hid (fun u (h : Below w.heap.size w u) (ht : Ev.wrong t = 0) (hw : Ev.wordsOk g = true) (hm : most ≤ 36000) (hp : 0 ≤ p) => machRun_any b p ay t g mode most vb va vg u (SL.at_ hb h (Nat.le_refl _)) (SL.at_ ha h (Nat.le_refl _)) (RGiven.atM hg h) hl ht hy hbl (mgiven_of hw h2 h3) hm hp)
  have CR2 := Lib.hid (fun u (h : Below w.heap.size w u) (ht : Ev.wrong t = 0) (hw : Ev.wordsOk g = true) (hm : most ≤ 36000) (hp : 0 ≤ p) => runImage_any b p ay t g mode most vb va vg u (SL.at_ hb h (Nat.le_refl _)) (SL.at_ ha h (Nat.le_refl _)) (RGiven.atM hg h) hl ht hy hbl (mgiven_of hw h2 h3) hm hp)
  obtain ⟨Aa, ca, rfl, ha1, ha2⟩ := SL.form ha
  obtain ⟨Ab, cb, rfl, hb1, hb2⟩ := SL.form hb
  obtain ⟨vw, vx, rfl, hw, hx⟩ := hg
  obtain ⟨Aw, cw, rfl, hw1, hw2⟩ := SL.form hw
  obtain ⟨Ax, cx, rfl, hx1, hx2⟩ := slice_form hx
  unfold maxLen at ha2 hb2 hw2 hx2
  have HL := Lib.hid hl
  unfold tableV at CW CR1 CR2 ⊢
  generalize hT : (t.map (Value.int .i64)).toArray = ta at *
  have HTA := Lib.hid hT
  have hcl := Ev.load_len b ay.length
  generalize Ev.runImage b p ay.length t g mode most = R at *
  generalize Ev.loadErr b ay.length = le at *
  generalize Ev.load b ay.length = code at *
  clear hb ha hw hx hl hr hy hT h3
  go_enter Try.func13, Try.ntmps13
  go_upto_region 1 with fail
  obtain ⟨hbx0, hbx1, hbx2⟩ := boxes3 w #[.slice Ab b.length cb, .int .i64 p, .slice Aa ay.length ca] ta #[.slice Aw g.words.length cw, .slice Ax g.arrays.length cx] 76 29 45
  have sA : w.heap.size + 3 = (((w.alloc (.cells #[.slice Ab b.length cb, .int .i64 p, .slice Aa ay.length ca] 76)).alloc (.cells ta 29)).alloc (.cells #[.slice Aw g.words.length cw, .slice Ax g.arrays.length cx] 45)).heap.size := by simp
  have bA : Below w.heap.size w (((w.alloc (.cells #[.slice Ab b.length cb, .int .i64 p, .slice Aa ay.length ca] 76)).alloc (.cells ta 29)).alloc (.cells #[.slice Aw g.words.length cw, .slice Ax g.arrays.length cx] 45)) := by (repeat' (first | (with_reducible exact Below.refl _ _) | (with_reducible assumption) | (with_reducible refine Below.alloc ?_ ?_ _) | (with_reducible refine below_drewN ?_ _) | (with_reducible refine Below.drew ?_) | (with_reducible refine Below.setCell ?_ ?_ _) | (with_reducible refine Below.trans ?_ (Below.mono (by with_reducible assumption) ?_)) | go_size))
  generalize ((w.alloc (.cells #[.slice Ab b.length cb, .int .i64 p, .slice Aa ay.length ca] 76)).alloc (.cells ta 29)).alloc (.cells #[.slice Aw g.words.length cw, .slice Ax g.arrays.length cx] 45) = wA at *
  have z0 : w.heap.size < wA.heap.size := by omega
  have z1 : w.heap.size + 1 < wA.heap.size := by omega
  have z2 : w.heap.size + 1 + 1 < wA.heap.size := by omega
  have sA' : w.heap.size ≤ wA.heap.size := by omega
  clear sA
  have f1c : wA.cell? ⟨w.heap.size, 1, none⟩ = some (.int .i64 p) := hbx0 1 _ rfl
  have f2c : wA.cell? ⟨w.heap.size, 2, none⟩ = some (.slice Aa ay.length ca) := hbx0 2 _ rfl
  have ldf : ∀ u, Below wA.heap.size wA u → (Go.Instr.loadAt 76 (.pointer (some ⟨w.heap.size, 0, none⟩))).run Try.prog u = .ok (.agg #[.slice Ab b.length cb, .int .i64 p, .slice Aa ay.length ca]) u := fun u hu => load_box Try.underlying76 (by kernel_rfl) rfl (by kernel_rfl) hbx0 z0 hu
  have ldt : ∀ u, Below wA.heap.size wA u → (Go.Instr.loadAt 29 (.pointer (some ⟨w.heap.size + 1, 0, none⟩))).run Try.prog u = .ok (.agg ta) u := fun u hu => load_box Try.underlying29 (by kernel_rfl) (by rw [← HTA.out]) (by rw [← HTA.out, List.length_map, HL.out]; kernel_rfl) hbx1 z1 hu
  have ldg : ∀ u, Below wA.heap.size wA u → (Go.Instr.loadAt 45 (.pointer (some ⟨w.heap.size + 1 + 1, 0, none⟩))).run Try.prog u = .ok (.agg #[.slice Aw g.words.length cw, .slice Ax g.arrays.length cx]) u := fun u hu => load_box Try.underlying45 (by kernel_rfl) rfl (by kernel_rfl) hbx2 z2 hu
  clear hbx0 hbx1 hbx2
  have HBA := Lib.hid bA
  clear bA
  have rfw := Below.refl wA.heap.size wA
  go_upto_region 2 with (first | (refine wpList_load_box rfl 76 _ rfl rfl (ldf _ rfw) ?_) | (go_at_call 45; refine (CL1.out _ HBA.out).mono ?_; rintro e w1 ⟨v1, rfl, hR1, hb1⟩))
  have HR1 := Lib.hid hR1
  have HB1 := Lib.hid hb1
  clear hR1 rfw
  go_upto_region 3 with (first | (refine wpList_load_box rfl 76 _ rfl rfl (ldf _ HB1.out) ?_) | (go_at_call 46; refine (CL2.out _ (HBA.out.trans (HB1.out.mono sA'))).mono ?_; rintro e w2 ⟨v2, rfl, hR2, hb2⟩))
  have HB2 : Hid (Below wA.heap.size wA w2) := HB1.out.trans (hb2.mono HB1.out.size)
  have HC1 : Hid (RCode w2 w2.heap.size v1 code) := SL.at_ HR1.out hb2 (Nat.le_refl _)
  have HC2 := Lib.hid hR2
  obtain ⟨A1, c1, hv1, hc11, hc12⟩ := SL.form HC1.out
  obtain ⟨A2, c2, hv2, hc21, hc22⟩ := SL.form HC2.out
  subst hv1 hv2
  unfold maxLen at hc12 hc22
  clear hR2 hb1 hb2 HR1 CL1 CL2 HB1
  go_upto_region 6 with fail
  go_loopw [38] (fun z wr => ∃ j : Nat, j ≤ code.length ∧ z = .int .i64 (j : Int) ∧ ∃ n, wr = w2.drewN n) (fun z _ => code.length - (intOf z).toNat)
  case atStart => exact ⟨0, by omega, rfl, 0, rfl⟩
  case round =>
    obtain ⟨j, hj, rfl, nw, rfl⟩ := hrel
    by_cases hlt : j < code.length
    · obtain ⟨x, hx⟩ : ∃ x, code[j]? = some x := ⟨code[j], List.getElem?_eq_getElem hlt⟩
      obtain ⟨b1, o1, r1, hv, hbb1, _, _, _, p0, p1, p2, p3, p4, p5⟩ := RCode.at_ HC1.out hx
      injection hv with hA _ hcr
      subst hA hcr
      obtain ⟨b2, o2, r2, hv, hbb2, _, _, _, q0, q1, q2, q3, q4, q5⟩ := RCode.at_ HC2.out hx
      injection hv with hA _ hcr
      subst hA hcr
      have hn := fun w => neq_instr x x w false (by simp)
      unfold aggI at hn
      clear hx ldf ldt ldg
      go_wp2_with fail
      go_quiet (fail)
      go_wp2_with fail
      go_roundw
      case rel => exact ⟨j + 1, by omega, by go_num, by (first | exact ⟨0, rfl⟩ | exact ⟨_, rfl⟩ | (simp only [World.drewN_drewN, World.drew_is_drewN]; exact ⟨_, rfl⟩))⟩
      case measure => simp [intOf]; omega
    · have hbr : Hid (Below wA.heap.size wA (w2.drewN nw)) := below_drewN HB2.out nw
      clear HC1 HC2 HB2
      generalize w2.drewN nw = w3 at *
      have hwA3 : Hid (Below w.heap.size w w3) := HBA.out.trans (hbr.out.mono sA')
      have HBr := hbr.out
      have s3 := hbr.out.size
      have f1r := (HBr.cell (p := ⟨w.heap.size, 1, none⟩) z0).trans f1c
      have f2r := (HBr.cell (p := ⟨w.heap.size, 2, none⟩) z0).trans f2c
      have f1h := Lib.hid f1c
      have f2h := Lib.hid f2c
      clear f1c f2c
      by_cases hwt : Ev.wrong t = 0
      · have hw0 := Lib.hid hwt
        have CW2 := CW.out
        rw [hwt] at CW2
        have CW3 := Lib.hid CW2
        clear CW CW2 hwt
        cases hwo : Ev.wordsOk g
        · have CD2 := CD.out
          rw [hwo] at CD2
          have CD3 := Lib.hid CD2
          clear CD CD2 CR1 CR2 hwo
          go_wp2_with (first | (refine wpList_load_box rfl 29 _ rfl rfl (ldt _ HBr) ?_) | (refine wpList_load_boxg (by rfl) 45 _ rfl rfl (ldg _ HB4) ?_) | (go_at_call 18; refine (CW3.out _).mono ?_; rintro e w4 ⟨rfl, hb4⟩; have HB4 : Below wA.heap.size wA w4 := HBr.trans (hb4.mono s3)) | (go_at_call 47; refine (CD3.out _ (hwA3.out.trans (hb4.mono (by omega)))).mono ?_; rintro e w5 ⟨rfl, hb5⟩))
          go_ret
          exact ⟨rfl, by have e0 := HBA.out; have e1 := HB4.size; (repeat' (first | (with_reducible exact Below.refl _ _) | (with_reducible assumption) | (with_reducible refine Below.alloc ?_ ?_ _) | (with_reducible refine below_drewN ?_ _) | (with_reducible refine Below.drew ?_) | (with_reducible refine Below.setCell ?_ ?_ _) | (with_reducible refine Below.trans ?_ (Below.mono (by with_reducible assumption) ?_)) | go_size))⟩
        · have CD2 := CD.out
          rw [hwo] at CD2
          have CD3 := Lib.hid CD2
          have HWO := Lib.hid hwo
          clear CD CD2 hwo
          rcases (show 36000 < most ∨ (most ≤ 36000 ∧ p < 0) ∨ (most ≤ 36000 ∧ 0 ≤ p ∧ 100 < (ay.length : Int)) ∨ (most ≤ 36000 ∧ 0 ≤ p ∧ (ay.length : Int) ≤ 100) by omega) with h | h | h | h
          · clear CR1 CR2
            go_wp2_with (first | (refine wpList_load_box rfl 29 _ rfl rfl (ldt _ HBr) ?_) | (refine wpList_load_boxg (by rfl) 45 _ rfl rfl (ldg _ HB4) ?_) | (go_at_call 18; refine (CW3.out _).mono ?_; rintro e w4 ⟨rfl, hb4⟩; have HB4 : Below wA.heap.size wA w4 := HBr.trans (hb4.mono s3)) | (go_at_call 47; refine (CD3.out _ (hwA3.out.trans (hb4.mono (by omega)))).mono ?_; rintro e w5 ⟨rfl, hb5⟩; have HB5 : Below wA.heap.size wA w5 := HB4.trans (hb5.mono HB4.size); have f1q := (HB5.cell (p := ⟨w.heap.size, 1, none⟩) z0).trans f1h.out; have f2q := (HB5.cell (p := ⟨w.heap.size, 2, none⟩) z0).trans f2h.out))
            go_ret
            exact ⟨rfl, by have e0 := HBA.out; have e1 := HB5; have e2 := HB5.size; (repeat' (first | (with_reducible exact Below.refl _ _) | (with_reducible assumption) | (with_reducible refine Below.alloc ?_ ?_ _) | (with_reducible refine below_drewN ?_ _) | (with_reducible refine Below.drew ?_) | (with_reducible refine Below.setCell ?_ ?_ _) | (with_reducible refine Below.trans ?_ (Below.mono (by with_reducible assumption) ?_)) | go_size))⟩
          · obtain ⟨ha, hb⟩ := h
            clear CR1 CR2
            go_wp2_with (first | (refine wpList_load_box rfl 29 _ rfl rfl (ldt _ HBr) ?_) | (refine wpList_load_boxg (by rfl) 45 _ rfl rfl (ldg _ HB4) ?_) | (go_at_call 18; refine (CW3.out _).mono ?_; rintro e w4 ⟨rfl, hb4⟩; have HB4 : Below wA.heap.size wA w4 := HBr.trans (hb4.mono s3)) | (go_at_call 47; refine (CD3.out _ (hwA3.out.trans (hb4.mono (by omega)))).mono ?_; rintro e w5 ⟨rfl, hb5⟩; have HB5 : Below wA.heap.size wA w5 := HB4.trans (hb5.mono HB4.size); have f1q := (HB5.cell (p := ⟨w.heap.size, 1, none⟩) z0).trans f1h.out; have f2q := (HB5.cell (p := ⟨w.heap.size, 2, none⟩) z0).trans f2h.out))
            go_ret
            exact ⟨rfl, by have e0 := HBA.out; have e1 := HB5; have e2 := HB5.size; (repeat' (first | (with_reducible exact Below.refl _ _) | (with_reducible assumption) | (with_reducible refine Below.alloc ?_ ?_ _) | (with_reducible refine below_drewN ?_ _) | (with_reducible refine Below.drew ?_) | (with_reducible refine Below.setCell ?_ ?_ _) | (with_reducible refine Below.trans ?_ (Below.mono (by with_reducible assumption) ?_)) | go_size))⟩
          · obtain ⟨ha, hb, hc⟩ := h
            clear CR1 CR2
            go_wp2_with (first | (refine wpList_load_box rfl 29 _ rfl rfl (ldt _ HBr) ?_) | (refine wpList_load_boxg (by rfl) 45 _ rfl rfl (ldg _ HB4) ?_) | (go_at_call 18; refine (CW3.out _).mono ?_; rintro e w4 ⟨rfl, hb4⟩; have HB4 : Below wA.heap.size wA w4 := HBr.trans (hb4.mono s3)) | (go_at_call 47; refine (CD3.out _ (hwA3.out.trans (hb4.mono (by omega)))).mono ?_; rintro e w5 ⟨rfl, hb5⟩; have HB5 : Below wA.heap.size wA w5 := HB4.trans (hb5.mono HB4.size); have f1q := (HB5.cell (p := ⟨w.heap.size, 1, none⟩) z0).trans f1h.out; have f2q := (HB5.cell (p := ⟨w.heap.size, 2, none⟩) z0).trans f2h.out))
            go_ret
            exact ⟨rfl, by have e0 := HBA.out; have e1 := HB5; have e2 := HB5.size; (repeat' (first | (with_reducible exact Below.refl _ _) | (with_reducible assumption) | (with_reducible refine Below.alloc ?_ ?_ _) | (with_reducible refine below_drewN ?_ _) | (with_reducible refine Below.drew ?_) | (with_reducible refine Below.setCell ?_ ?_ _) | (with_reducible refine Below.trans ?_ (Below.mono (by with_reducible assumption) ?_)) | go_size))⟩
          · obtain ⟨ha, hb, hc⟩ := h
            have C1 := Lib.hid (fun u hu => CR1.out u hu hw0.out HWO.out ha hb)
            have C2 := Lib.hid (fun u hu => CR2.out u hu hw0.out HWO.out ha hb)
            clear CR1 CR2
            go_upto_region 13 with (first | (refine wpList_load_box rfl 29 _ rfl rfl (ldt _ HBr) ?_) | (refine wpList_load_boxg (by rfl) 45 _ rfl rfl (ldg _ HB4) ?_) | (go_at_call 18; refine (CW3.out _).mono ?_; rintro e w4 ⟨rfl, hb4⟩; have HB4 : Below wA.heap.size wA w4 := HBr.trans (hb4.mono s3)) | (go_at_call 47; refine (CD3.out _ (hwA3.out.trans (hb4.mono (by omega)))).mono ?_; rintro e w5 ⟨rfl, hb5⟩; have HB5 : Below wA.heap.size wA w5 := HB4.trans (hb5.mono HB4.size); have f1q := (HB5.cell (p := ⟨w.heap.size, 1, none⟩) z0).trans f1h.out; have f2q := (HB5.cell (p := ⟨w.heap.size, 2, none⟩) z0).trans f2h.out))
            have HB5' := Lib.hid HB5
            clear HB4 hb4 hb5 f1q f2q f1r f2r
            have s5 := HB5.size
            refine wp_region_trail (fun w' => Below ((w5).heap.size) (w5) w') [(0, true), (1, true), (2, true), (3, true), (4, true), (6, true), (7, true), (8, true), (9, true), (10, true), (5, false), (11, false), (12, false), (13, true)] (by kernel_rfl) (by kernel_rfl) (by kernel_rfl) (by decide) (by (repeat' (first | (with_reducible exact Below.refl _ _) | (with_reducible assumption) | (with_reducible refine Below.alloc ?_ ?_ _) | (with_reducible refine below_drewN ?_ _) | (with_reducible refine Below.drew ?_) | (with_reducible refine Below.setCell ?_ ?_ _) | (with_reducible refine Below.trans ?_ (Below.mono (by with_reducible assumption) ?_)) | go_size))) ?_
            apply trail_light
            case hi => (simp only [List.getElem?_toArray, List.getElem?_cons_zero, List.getElem?_cons_succ]; exact rfl)
            case hl => first | exact light_no (by rfl) | (apply light_plain rfl; intro w9 hb9; have hB9 : Below wA.heap.size wA w9 := (by (repeat' (first | (with_reducible exact Below.refl _ _) | (with_reducible assumption) | (with_reducible refine Below.alloc ?_ ?_ _) | (with_reducible refine below_drewN ?_ _) | (with_reducible refine Below.drew ?_) | (with_reducible refine Below.setCell ?_ ?_ _) | (with_reducible refine Below.trans ?_ (Below.mono (by with_reducible assumption) ?_)) | go_size))); exact exec_load rfl rfl (by first | exact ldf w9 hB9 | exact ldt w9 hB9 | exact ldg w9 hB9 | exact ldi w9 hB9 | exact ldh w9 hB9)) | (apply light_yes (by rfl); intro w9 hb9; have hB9 : Below wA.heap.size wA w9 := (by (repeat' (first | (with_reducible exact Below.refl _ _) | (with_reducible assumption) | (with_reducible refine Below.alloc ?_ ?_ _) | (with_reducible refine below_drewN ?_ _) | (with_reducible refine Below.drew ?_) | (with_reducible refine Below.setCell ?_ ?_ _) | (with_reducible refine Below.trans ?_ (Below.mono (by with_reducible assumption) ?_)) | go_size))); exact exec_load rfl rfl (by first | exact ldf w9 hB9 | exact ldt w9 hB9 | exact ldg w9 hB9 | exact ldi w9 hB9 | exact ldh w9 hB9)) | (apply light_plain rfl; intro w9 hb9; have hB9 : Below wA.heap.size wA w9 := (by (repeat' (first | (with_reducible exact Below.refl _ _) | (with_reducible assumption) | (with_reducible refine Below.alloc ?_ ?_ _) | (with_reducible refine below_drewN ?_ _) | (with_reducible refine Below.drew ?_) | (with_reducible refine Below.setCell ?_ ?_ _) | (with_reducible refine Below.trans ?_ (Below.mono (by with_reducible assumption) ?_)) | go_size))); obtain ⟨kc9, kf9, s9⟩ := bfacts hb9; obtain ⟨kd9, kg9, _⟩ := bfacts hB9; go_simp; try rfl) | (apply light_yes (by rfl); intro w9 hb9; have hB9 : Below wA.heap.size wA w9 := (by (repeat' (first | (with_reducible exact Below.refl _ _) | (with_reducible assumption) | (with_reducible refine Below.alloc ?_ ?_ _) | (with_reducible refine below_drewN ?_ _) | (with_reducible refine Below.drew ?_) | (with_reducible refine Below.setCell ?_ ?_ _) | (with_reducible refine Below.trans ?_ (Below.mono (by with_reducible assumption) ?_)) | go_size))); obtain ⟨kc9, kf9, s9⟩ := bfacts hb9; obtain ⟨kd9, kg9, _⟩ := bfacts hB9; go_simp; try rfl)
            case hQ => exact fun _ _ _ h => h
            (try simp only [Act.put, List.setIfInBounds_toArray, List.set_cons_zero, List.set_cons_succ])
            apply trail_light
            case hi => (simp only [List.getElem?_toArray, List.getElem?_cons_zero, List.getElem?_cons_succ]; exact rfl)
            case hl => first | exact light_no (by rfl) | (apply light_plain rfl; intro w9 hb9; have hB9 : Below wA.heap.size wA w9 := (by (repeat' (first | (with_reducible exact Below.refl _ _) | (with_reducible assumption) | (with_reducible refine Below.alloc ?_ ?_ _) | (with_reducible refine below_drewN ?_ _) | (with_reducible refine Below.drew ?_) | (with_reducible refine Below.setCell ?_ ?_ _) | (with_reducible refine Below.trans ?_ (Below.mono (by with_reducible assumption) ?_)) | go_size))); exact exec_load rfl rfl (by first | exact ldf w9 hB9 | exact ldt w9 hB9 | exact ldg w9 hB9 | exact ldi w9 hB9 | exact ldh w9 hB9)) | (apply light_yes (by rfl); intro w9 hb9; have hB9 : Below wA.heap.size wA w9 := (by (repeat' (first | (with_reducible exact Below.refl _ _) | (with_reducible assumption) | (with_reducible refine Below.alloc ?_ ?_ _) | (with_reducible refine below_drewN ?_ _) | (with_reducible refine Below.drew ?_) | (with_reducible refine Below.setCell ?_ ?_ _) | (with_reducible refine Below.trans ?_ (Below.mono (by with_reducible assumption) ?_)) | go_size))); exact exec_load rfl rfl (by first | exact ldf w9 hB9 | exact ldt w9 hB9 | exact ldg w9 hB9 | exact ldi w9 hB9 | exact ldh w9 hB9)) | (apply light_plain rfl; intro w9 hb9; have hB9 : Below wA.heap.size wA w9 := (by (repeat' (first | (with_reducible exact Below.refl _ _) | (with_reducible assumption) | (with_reducible refine Below.alloc ?_ ?_ _) | (with_reducible refine below_drewN ?_ _) | (with_reducible refine Below.drew ?_) | (with_reducible refine Below.setCell ?_ ?_ _) | (with_reducible refine Below.trans ?_ (Below.mono (by with_reducible assumption) ?_)) | go_size))); obtain ⟨kc9, kf9, s9⟩ := bfacts hb9; obtain ⟨kd9, kg9, _⟩ := bfacts hB9; go_simp; try rfl) | (apply light_yes (by rfl); intro w9 hb9; have hB9 : Below wA.heap.size wA w9 := (by (repeat' (first | (with_reducible exact Below.refl _ _) | (with_reducible assumption) | (with_reducible refine Below.alloc ?_ ?_ _) | (with_reducible refine below_drewN ?_ _) | (with_reducible refine Below.drew ?_) | (with_reducible refine Below.setCell ?_ ?_ _) | (with_reducible refine Below.trans ?_ (Below.mono (by with_reducible assumption) ?_)) | go_size))); obtain ⟨kc9, kf9, s9⟩ := bfacts hb9; obtain ⟨kd9, kg9, _⟩ := bfacts hB9; go_simp; try rfl)
            case hQ => exact fun _ _ _ h => h
            (try simp only [Act.put, List.setIfInBounds_toArray, List.set_cons_zero, List.set_cons_succ])
            apply trail_light
            case hi => (simp only [List.getElem?_toArray, List.getElem?_cons_zero, List.getElem?_cons_succ]; exact rfl)
            case hl => first | exact light_no (by rfl) | (apply light_plain rfl; intro w9 hb9; have hB9 : Below wA.heap.size wA w9 := (by (repeat' (first | (with_reducible exact Below.refl _ _) | (with_reducible assumption) | (with_reducible refine Below.alloc ?_ ?_ _) | (with_reducible refine below_drewN ?_ _) | (with_reducible refine Below.drew ?_) | (with_reducible refine Below.setCell ?_ ?_ _) | (with_reducible refine Below.trans ?_ (Below.mono (by with_reducible assumption) ?_)) | go_size))); exact exec_load rfl rfl (by first | exact ldf w9 hB9 | exact ldt w9 hB9 | exact ldg w9 hB9 | exact ldi w9 hB9 | exact ldh w9 hB9)) | (apply light_yes (by rfl); intro w9 hb9; have hB9 : Below wA.heap.size wA w9 := (by (repeat' (first | (with_reducible exact Below.refl _ _) | (with_reducible assumption) | (with_reducible refine Below.alloc ?_ ?_ _) | (with_reducible refine below_drewN ?_ _) | (with_reducible refine Below.drew ?_) | (with_reducible refine Below.setCell ?_ ?_ _) | (with_reducible refine Below.trans ?_ (Below.mono (by with_reducible assumption) ?_)) | go_size))); exact exec_load rfl rfl (by first | exact ldf w9 hB9 | exact ldt w9 hB9 | exact ldg w9 hB9 | exact ldi w9 hB9 | exact ldh w9 hB9)) | (apply light_plain rfl; intro w9 hb9; have hB9 : Below wA.heap.size wA w9 := (by (repeat' (first | (with_reducible exact Below.refl _ _) | (with_reducible assumption) | (with_reducible refine Below.alloc ?_ ?_ _) | (with_reducible refine below_drewN ?_ _) | (with_reducible refine Below.drew ?_) | (with_reducible refine Below.setCell ?_ ?_ _) | (with_reducible refine Below.trans ?_ (Below.mono (by with_reducible assumption) ?_)) | go_size))); obtain ⟨kc9, kf9, s9⟩ := bfacts hb9; obtain ⟨kd9, kg9, _⟩ := bfacts hB9; go_simp; try rfl) | (apply light_yes (by rfl); intro w9 hb9; have hB9 : Below wA.heap.size wA w9 := (by (repeat' (first | (with_reducible exact Below.refl _ _) | (with_reducible assumption) | (with_reducible refine Below.alloc ?_ ?_ _) | (with_reducible refine below_drewN ?_ _) | (with_reducible refine Below.drew ?_) | (with_reducible refine Below.setCell ?_ ?_ _) | (with_reducible refine Below.trans ?_ (Below.mono (by with_reducible assumption) ?_)) | go_size))); obtain ⟨kc9, kf9, s9⟩ := bfacts hb9; obtain ⟨kd9, kg9, _⟩ := bfacts hB9; go_simp; try rfl)
            case hQ => exact fun _ _ _ h => h
            (try simp only [Act.put, List.setIfInBounds_toArray, List.set_cons_zero, List.set_cons_succ])
            apply trail_light
            case hi => (simp only [List.getElem?_toArray, List.getElem?_cons_zero, List.getElem?_cons_succ]; exact rfl)
            case hl => first | exact light_no (by rfl) | (apply light_plain rfl; intro w9 _; go_simp; try rfl) | (apply light_yes (by rfl); intro w9 _; go_simp; try rfl)
            case hQ => exact fun _ _ _ h => h
            (try simp only [Act.put, List.setIfInBounds_toArray, List.set_cons_zero, List.set_cons_succ])
            apply trail_light
            case hi => (simp only [List.getElem?_toArray, List.getElem?_cons_zero, List.getElem?_cons_succ]; exact rfl)
            case hl => first | exact light_no (by rfl) | (apply light_plain rfl; intro w9 _; go_simp; try rfl) | (apply light_yes (by rfl); intro w9 _; go_simp; try rfl)
            case hQ => exact fun _ _ _ h => h
            (try simp only [Act.put, List.setIfInBounds_toArray, List.set_cons_zero, List.set_cons_succ])
            apply trail_light
            case hi => (simp only [List.getElem?_toArray, List.getElem?_cons_zero, List.getElem?_cons_succ]; exact rfl)
            case hl => first | exact light_no (by rfl) | (apply light_plain rfl; intro w9 hb9; have hB9 : Below wA.heap.size wA w9 := (by (repeat' (first | (with_reducible exact Below.refl _ _) | (with_reducible assumption) | (with_reducible refine Below.alloc ?_ ?_ _) | (with_reducible refine below_drewN ?_ _) | (with_reducible refine Below.drew ?_) | (with_reducible refine Below.setCell ?_ ?_ _) | (with_reducible refine Below.trans ?_ (Below.mono (by with_reducible assumption) ?_)) | go_size))); exact exec_load rfl rfl (by first | exact ldf w9 hB9 | exact ldt w9 hB9 | exact ldg w9 hB9 | exact ldi w9 hB9 | exact ldh w9 hB9)) | (apply light_yes (by rfl); intro w9 hb9; have hB9 : Below wA.heap.size wA w9 := (by (repeat' (first | (with_reducible exact Below.refl _ _) | (with_reducible assumption) | (with_reducible refine Below.alloc ?_ ?_ _) | (with_reducible refine below_drewN ?_ _) | (with_reducible refine Below.drew ?_) | (with_reducible refine Below.setCell ?_ ?_ _) | (with_reducible refine Below.trans ?_ (Below.mono (by with_reducible assumption) ?_)) | go_size))); exact exec_load rfl rfl (by first | exact ldf w9 hB9 | exact ldt w9 hB9 | exact ldg w9 hB9 | exact ldi w9 hB9 | exact ldh w9 hB9)) | (apply light_plain rfl; intro w9 hb9; have hB9 : Below wA.heap.size wA w9 := (by (repeat' (first | (with_reducible exact Below.refl _ _) | (with_reducible assumption) | (with_reducible refine Below.alloc ?_ ?_ _) | (with_reducible refine below_drewN ?_ _) | (with_reducible refine Below.drew ?_) | (with_reducible refine Below.setCell ?_ ?_ _) | (with_reducible refine Below.trans ?_ (Below.mono (by with_reducible assumption) ?_)) | go_size))); obtain ⟨kc9, kf9, s9⟩ := bfacts hb9; obtain ⟨kd9, kg9, _⟩ := bfacts hB9; go_simp; try rfl) | (apply light_yes (by rfl); intro w9 hb9; have hB9 : Below wA.heap.size wA w9 := (by (repeat' (first | (with_reducible exact Below.refl _ _) | (with_reducible assumption) | (with_reducible refine Below.alloc ?_ ?_ _) | (with_reducible refine below_drewN ?_ _) | (with_reducible refine Below.drew ?_) | (with_reducible refine Below.setCell ?_ ?_ _) | (with_reducible refine Below.trans ?_ (Below.mono (by with_reducible assumption) ?_)) | go_size))); obtain ⟨kc9, kf9, s9⟩ := bfacts hb9; obtain ⟨kd9, kg9, _⟩ := bfacts hB9; go_simp; try rfl)
            case hQ => exact fun _ _ _ h => h
            (try simp only [Act.put, List.setIfInBounds_toArray, List.set_cons_zero, List.set_cons_succ])
            apply trail_light
            case hi => (simp only [List.getElem?_toArray, List.getElem?_cons_zero, List.getElem?_cons_succ]; exact rfl)
            case hl => first | exact light_no (by rfl) | (apply light_plain rfl; intro w9 hb9; have hB9 : Below wA.heap.size wA w9 := (by (repeat' (first | (with_reducible exact Below.refl _ _) | (with_reducible assumption) | (with_reducible refine Below.alloc ?_ ?_ _) | (with_reducible refine below_drewN ?_ _) | (with_reducible refine Below.drew ?_) | (with_reducible refine Below.setCell ?_ ?_ _) | (with_reducible refine Below.trans ?_ (Below.mono (by with_reducible assumption) ?_)) | go_size))); exact exec_load rfl rfl (by first | exact ldf w9 hB9 | exact ldt w9 hB9 | exact ldg w9 hB9 | exact ldi w9 hB9 | exact ldh w9 hB9)) | (apply light_yes (by rfl); intro w9 hb9; have hB9 : Below wA.heap.size wA w9 := (by (repeat' (first | (with_reducible exact Below.refl _ _) | (with_reducible assumption) | (with_reducible refine Below.alloc ?_ ?_ _) | (with_reducible refine below_drewN ?_ _) | (with_reducible refine Below.drew ?_) | (with_reducible refine Below.setCell ?_ ?_ _) | (with_reducible refine Below.trans ?_ (Below.mono (by with_reducible assumption) ?_)) | go_size))); exact exec_load rfl rfl (by first | exact ldf w9 hB9 | exact ldt w9 hB9 | exact ldg w9 hB9 | exact ldi w9 hB9 | exact ldh w9 hB9)) | (apply light_plain rfl; intro w9 hb9; have hB9 : Below wA.heap.size wA w9 := (by (repeat' (first | (with_reducible exact Below.refl _ _) | (with_reducible assumption) | (with_reducible refine Below.alloc ?_ ?_ _) | (with_reducible refine below_drewN ?_ _) | (with_reducible refine Below.drew ?_) | (with_reducible refine Below.setCell ?_ ?_ _) | (with_reducible refine Below.trans ?_ (Below.mono (by with_reducible assumption) ?_)) | go_size))); obtain ⟨kc9, kf9, s9⟩ := bfacts hb9; obtain ⟨kd9, kg9, _⟩ := bfacts hB9; go_simp; try rfl) | (apply light_yes (by rfl); intro w9 hb9; have hB9 : Below wA.heap.size wA w9 := (by (repeat' (first | (with_reducible exact Below.refl _ _) | (with_reducible assumption) | (with_reducible refine Below.alloc ?_ ?_ _) | (with_reducible refine below_drewN ?_ _) | (with_reducible refine Below.drew ?_) | (with_reducible refine Below.setCell ?_ ?_ _) | (with_reducible refine Below.trans ?_ (Below.mono (by with_reducible assumption) ?_)) | go_size))); obtain ⟨kc9, kf9, s9⟩ := bfacts hb9; obtain ⟨kd9, kg9, _⟩ := bfacts hB9; go_simp; try rfl)
            case hQ => exact fun _ _ _ h => h
            (try simp only [Act.put, List.setIfInBounds_toArray, List.set_cons_zero, List.set_cons_succ])
            apply trail_light
            case hi => (simp only [List.getElem?_toArray, List.getElem?_cons_zero, List.getElem?_cons_succ]; exact rfl)
            case hl => first | exact light_no (by rfl) | (apply light_plain rfl; intro w9 hb9; have hB9 : Below wA.heap.size wA w9 := (by (repeat' (first | (with_reducible exact Below.refl _ _) | (with_reducible assumption) | (with_reducible refine Below.alloc ?_ ?_ _) | (with_reducible refine below_drewN ?_ _) | (with_reducible refine Below.drew ?_) | (with_reducible refine Below.setCell ?_ ?_ _) | (with_reducible refine Below.trans ?_ (Below.mono (by with_reducible assumption) ?_)) | go_size))); exact exec_load rfl rfl (by first | exact ldf w9 hB9 | exact ldt w9 hB9 | exact ldg w9 hB9 | exact ldi w9 hB9 | exact ldh w9 hB9)) | (apply light_yes (by rfl); intro w9 hb9; have hB9 : Below wA.heap.size wA w9 := (by (repeat' (first | (with_reducible exact Below.refl _ _) | (with_reducible assumption) | (with_reducible refine Below.alloc ?_ ?_ _) | (with_reducible refine below_drewN ?_ _) | (with_reducible refine Below.drew ?_) | (with_reducible refine Below.setCell ?_ ?_ _) | (with_reducible refine Below.trans ?_ (Below.mono (by with_reducible assumption) ?_)) | go_size))); exact exec_load rfl rfl (by first | exact ldf w9 hB9 | exact ldt w9 hB9 | exact ldg w9 hB9 | exact ldi w9 hB9 | exact ldh w9 hB9)) | (apply light_plain rfl; intro w9 hb9; have hB9 : Below wA.heap.size wA w9 := (by (repeat' (first | (with_reducible exact Below.refl _ _) | (with_reducible assumption) | (with_reducible refine Below.alloc ?_ ?_ _) | (with_reducible refine below_drewN ?_ _) | (with_reducible refine Below.drew ?_) | (with_reducible refine Below.setCell ?_ ?_ _) | (with_reducible refine Below.trans ?_ (Below.mono (by with_reducible assumption) ?_)) | go_size))); obtain ⟨kc9, kf9, s9⟩ := bfacts hb9; obtain ⟨kd9, kg9, _⟩ := bfacts hB9; go_simp; try rfl) | (apply light_yes (by rfl); intro w9 hb9; have hB9 : Below wA.heap.size wA w9 := (by (repeat' (first | (with_reducible exact Below.refl _ _) | (with_reducible assumption) | (with_reducible refine Below.alloc ?_ ?_ _) | (with_reducible refine below_drewN ?_ _) | (with_reducible refine Below.drew ?_) | (with_reducible refine Below.setCell ?_ ?_ _) | (with_reducible refine Below.trans ?_ (Below.mono (by with_reducible assumption) ?_)) | go_size))); obtain ⟨kc9, kf9, s9⟩ := bfacts hb9; obtain ⟨kd9, kg9, _⟩ := bfacts hB9; go_simp; try rfl)
            case hQ => exact fun _ _ _ h => h
            (try simp only [Act.put, List.setIfInBounds_toArray, List.set_cons_zero, List.set_cons_succ])
            apply trail_light
            case hi => (simp only [List.getElem?_toArray, List.getElem?_cons_zero, List.getElem?_cons_succ]; exact rfl)
            case hl => first | exact light_no (by rfl) | (apply light_plain rfl; intro w9 _; go_simp; try rfl) | (apply light_yes (by rfl); intro w9 _; go_simp; try rfl)
            case hQ => exact fun _ _ _ h => h
            (try simp only [Act.put, List.setIfInBounds_toArray, List.set_cons_zero, List.set_cons_succ])
            apply trail_light
            case hi => (simp only [List.getElem?_toArray, List.getElem?_cons_zero, List.getElem?_cons_succ]; exact rfl)
            case hl => first | exact light_no (by rfl) | (apply light_plain rfl; intro w9 _; go_simp; try rfl) | (apply light_yes (by rfl); intro w9 _; go_simp; try rfl)
            case hQ => exact fun _ _ _ h => h
            (try simp only [Act.put, List.setIfInBounds_toArray, List.set_cons_zero, List.set_cons_succ])
            apply trail_heavy
            case hi => (simp only [List.getElem?_toArray, List.getElem?_cons_zero, List.getElem?_cons_succ]; exact rfl)
            go_wp2_with (first | (go_at_call 49; refine (C1.out _ (by have e0 := HBA.out; (repeat' (first | (with_reducible exact Below.refl _ _) | (with_reducible assumption) | (with_reducible refine Below.alloc ?_ ?_ _) | (with_reducible refine below_drewN ?_ _) | (with_reducible refine Below.drew ?_) | (with_reducible refine Below.setCell ?_ ?_ _) | (with_reducible refine Below.trans ?_ (Below.mono (by with_reducible assumption) ?_)) | go_size)))).mono ?_; rintro e w6 ⟨x1, rfl, hQ1, hb6⟩; have HQ1 := Lib.hid hQ1; clear hQ1; have s6 : w5.heap.size ≤ w6.heap.size := hb6.size; have B6 : Below w5.heap.size w5 w6 := (by (repeat' (first | (with_reducible exact Below.refl _ _) | (with_reducible assumption) | (with_reducible refine Below.alloc ?_ ?_ _) | (with_reducible refine below_drewN ?_ _) | (with_reducible refine Below.drew ?_) | (with_reducible refine Below.setCell ?_ ?_ _) | (with_reducible refine Below.trans ?_ (Below.mono (by with_reducible assumption) ?_)) | go_size)))) | (go_at_call 50; refine (C2.out _ (by have e0 := HBA.out; (repeat' (first | (with_reducible exact Below.refl _ _) | (with_reducible assumption) | (with_reducible refine Below.alloc ?_ ?_ _) | (with_reducible refine below_drewN ?_ _) | (with_reducible refine Below.drew ?_) | (with_reducible refine Below.setCell ?_ ?_ _) | (with_reducible refine Below.trans ?_ (Below.mono (by with_reducible assumption) ?_)) | go_size)))).mono ?_; rintro e w7 ⟨x2, rfl, hQ2, hb7⟩; have HQ2 := Lib.hid hQ2; clear hQ2; have s7 := hb7.size) | (go_at_call 48; refine (sameRan_one R _ _ _ (HQ1.out.stays hb7) HQ2.out).mono ?_; rintro e w8 ⟨rfl, hb8⟩))
            refine ⟨by (repeat' (first | (with_reducible exact Below.refl _ _) | (with_reducible assumption) | (with_reducible refine Below.alloc ?_ ?_ _) | (with_reducible refine below_drewN ?_ _) | (with_reducible refine Below.drew ?_) | (with_reducible refine Below.setCell ?_ ?_ _) | (with_reducible refine Below.trans ?_ (Below.mono (by with_reducible assumption) ?_)) | go_size)), ?_⟩
            apply trail_heavy
            case hi => (simp only [List.getElem?_toArray, List.getElem?_cons_zero, List.getElem?_cons_succ]; exact rfl)
            go_wp2_with (first | (go_at_call 49; refine (C1.out _ (by have e0 := HBA.out; (repeat' (first | (with_reducible exact Below.refl _ _) | (with_reducible assumption) | (with_reducible refine Below.alloc ?_ ?_ _) | (with_reducible refine below_drewN ?_ _) | (with_reducible refine Below.drew ?_) | (with_reducible refine Below.setCell ?_ ?_ _) | (with_reducible refine Below.trans ?_ (Below.mono (by with_reducible assumption) ?_)) | go_size)))).mono ?_; rintro e w6 ⟨x1, rfl, hQ1, hb6⟩; have HQ1 := Lib.hid hQ1; clear hQ1; have s6 : w5.heap.size ≤ w6.heap.size := hb6.size; have B6 : Below w5.heap.size w5 w6 := (by (repeat' (first | (with_reducible exact Below.refl _ _) | (with_reducible assumption) | (with_reducible refine Below.alloc ?_ ?_ _) | (with_reducible refine below_drewN ?_ _) | (with_reducible refine Below.drew ?_) | (with_reducible refine Below.setCell ?_ ?_ _) | (with_reducible refine Below.trans ?_ (Below.mono (by with_reducible assumption) ?_)) | go_size)))) | (go_at_call 50; refine (C2.out _ (by have e0 := HBA.out; (repeat' (first | (with_reducible exact Below.refl _ _) | (with_reducible assumption) | (with_reducible refine Below.alloc ?_ ?_ _) | (with_reducible refine below_drewN ?_ _) | (with_reducible refine Below.drew ?_) | (with_reducible refine Below.setCell ?_ ?_ _) | (with_reducible refine Below.trans ?_ (Below.mono (by with_reducible assumption) ?_)) | go_size)))).mono ?_; rintro e w7 ⟨x2, rfl, hQ2, hb7⟩; have HQ2 := Lib.hid hQ2; clear hQ2; have s7 := hb7.size) | (go_at_call 48; refine (sameRan_one R _ _ _ (HQ1.out.stays hb7) HQ2.out).mono ?_; rintro e w8 ⟨rfl, hb8⟩))
            refine ⟨by (repeat' (first | (with_reducible exact Below.refl _ _) | (with_reducible assumption) | (with_reducible refine Below.alloc ?_ ?_ _) | (with_reducible refine below_drewN ?_ _) | (with_reducible refine Below.drew ?_) | (with_reducible refine Below.setCell ?_ ?_ _) | (with_reducible refine Below.trans ?_ (Below.mono (by with_reducible assumption) ?_)) | go_size)), ?_⟩
            apply trail_heavy
            case hi => (simp only [List.getElem?_toArray, List.getElem?_cons_zero, List.getElem?_cons_succ]; exact rfl)
            go_wp2_with (first | (go_at_call 49; refine (C1.out _ (by have e0 := HBA.out; (repeat' (first | (with_reducible exact Below.refl _ _) | (with_reducible assumption) | (with_reducible refine Below.alloc ?_ ?_ _) | (with_reducible refine below_drewN ?_ _) | (with_reducible refine Below.drew ?_) | (with_reducible refine Below.setCell ?_ ?_ _) | (with_reducible refine Below.trans ?_ (Below.mono (by with_reducible assumption) ?_)) | go_size)))).mono ?_; rintro e w6 ⟨x1, rfl, hQ1, hb6⟩; have HQ1 := Lib.hid hQ1; clear hQ1; have s6 : w5.heap.size ≤ w6.heap.size := hb6.size; have B6 : Below w5.heap.size w5 w6 := (by (repeat' (first | (with_reducible exact Below.refl _ _) | (with_reducible assumption) | (with_reducible refine Below.alloc ?_ ?_ _) | (with_reducible refine below_drewN ?_ _) | (with_reducible refine Below.drew ?_) | (with_reducible refine Below.setCell ?_ ?_ _) | (with_reducible refine Below.trans ?_ (Below.mono (by with_reducible assumption) ?_)) | go_size)))) | (go_at_call 50; refine (C2.out _ (by have e0 := HBA.out; (repeat' (first | (with_reducible exact Below.refl _ _) | (with_reducible assumption) | (with_reducible refine Below.alloc ?_ ?_ _) | (with_reducible refine below_drewN ?_ _) | (with_reducible refine Below.drew ?_) | (with_reducible refine Below.setCell ?_ ?_ _) | (with_reducible refine Below.trans ?_ (Below.mono (by with_reducible assumption) ?_)) | go_size)))).mono ?_; rintro e w7 ⟨x2, rfl, hQ2, hb7⟩; have HQ2 := Lib.hid hQ2; clear hQ2; have s7 := hb7.size) | (go_at_call 48; refine (sameRan_one R _ _ _ (HQ1.out.stays hb7) HQ2.out).mono ?_; rintro e w8 ⟨rfl, hb8⟩))
            refine ⟨by (repeat' (first | (with_reducible exact Below.refl _ _) | (with_reducible assumption) | (with_reducible refine Below.alloc ?_ ?_ _) | (with_reducible refine below_drewN ?_ _) | (with_reducible refine Below.drew ?_) | (with_reducible refine Below.setCell ?_ ?_ _) | (with_reducible refine Below.trans ?_ (Below.mono (by with_reducible assumption) ?_)) | go_size)), ?_⟩
            apply trail_light
            case hi => (simp only [List.getElem?_toArray, List.getElem?_cons_zero, List.getElem?_cons_succ]; exact rfl)
            case hl => first | exact light_no (by rfl) | (apply light_plain rfl; intro w9 _; go_simp; try rfl) | (apply light_yes (by rfl); intro w9 _; go_simp; try rfl)
            case hQ => exact fun _ _ _ h => h
            (try simp only [Act.put, List.setIfInBounds_toArray, List.set_cons_zero, List.set_cons_succ])
            refine trail_nil ?_
            (try dsimp only)
            go_wp2_with fail
            go_ret
            exact ⟨rfl, by have e0 := HBA.out; have e1 := HB5; have e2 := HB5.size; (repeat' (first | (with_reducible exact Below.refl _ _) | (with_reducible assumption) | (with_reducible refine Below.alloc ?_ ?_ _) | (with_reducible refine below_drewN ?_ _) | (with_reducible refine Below.drew ?_) | (with_reducible refine Below.setCell ?_ ?_ _) | (with_reducible refine Below.trans ?_ (Below.mono (by with_reducible assumption) ?_)) | go_size))⟩
      · have hw0 : (Ev.wrong t != 0) = true := by simpa using hwt
        clear hwt CD CR1 CR2
        go_wp2_with (first | (refine wpList_load_box rfl 29 _ rfl rfl (ldt _ HBr) ?_) | (go_at_call 18; refine (CW.out _).mono ?_; rintro e w4 ⟨rfl, hb4⟩))
        go_ret
        exact ⟨rfl, by have e0 := hwA3.out; have e1 := e0.size; (repeat' (first | (with_reducible exact Below.refl _ _) | (with_reducible assumption) | (with_reducible refine Below.alloc ?_ ?_ _) | (with_reducible refine below_drewN ?_ _) | (with_reducible refine Below.drew ?_) | (with_reducible refine Below.setCell ?_ ?_ _) | (with_reducible refine Below.trans ?_ (Below.mono (by with_reducible assumption) ?_)) | go_size))⟩
end Go.Proofs.Ytljcgcllhcdleaa
