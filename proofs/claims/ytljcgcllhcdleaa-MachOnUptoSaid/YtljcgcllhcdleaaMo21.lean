import Derived.Test.YtljcgcllhcdleaaMo16
import Derived.Test.YtljcgcllhcdleaaMo18
import Derived.Test.YtljcgcllhcdleaaMo19
import Derived.Test.YtljcgcllhcdleaaMo17
import Derived.Test.YtljcgcllhcdleaaMo20
import Derived.Deep.DeepCutAuto
/- MachOn: the law's walk. -/
namespace Go.Proofs.Ytljcgcllhcdleaa
open Go.RowKit
set_option linter.unusedSimpArgs false
set_option linter.unusedVariables false
theorem part_load2 {w u : World} {b o : Nat} {T T' : TypeId} {cs : Array Value} {all : Array Value} {d : TypeDesc} (hu : Try.prog.underlying T = some d) (hd : d.isRow = true) (hs : cs.toList.toArray = cs) (hi : (Try.prog.info? T).map (·.size) = some cs.toList.length)
    (h : Hid (w.heap[b]? = some (.cells all T' (0, 0)))) (hc : ∀ (j : Nat) v, cs[j]? = some v → all[o + j]? = some v) (hbl : Below w.heap.size w u) : (Go.Instr.loadAt T (.pointer (some ⟨b, o, none⟩))).run Try.prog u = .ok (.agg cs) u := by
  have hlt := (Array.getElem?_eq_some_iff.1 h.out).1
  have h := run_loadAt_mid (P := Try.prog) u b o T cs.toList d (fun j v hj => (cell_of_block ((hbl.block b hlt).trans h.out) (o + j)).trans (hc j v (by simpa using hj))) hu hd hi
  rw [hs] at h
  exact h
theorem part3 {y0 y1 y2 y3 y4 y5 y6 : Value} : ∀ (j : Nat) v, (#[y0, y1, y2] : Array Value)[j]? = some v → (#[y0, y1, y2, y3, y4, y5, y6] : Array Value)[0 + j]? = some v := by
  intro j v h
  rcases j with _ | _ | _ | j
  · exact h
  · exact h
  · exact h
  · simp at h
theorem ran_parts {w : World} {r : Ev.Ran} {x y z u : Value} {e st mo : Int} (h : RRan w (.agg #[x, y, z, .int .i64 e, .int .i64 st, .int .i64 mo, u]) r) : REnded w (.agg #[x, y, z]) r.ended ∧ RLeaks w u r.leaks := by
  obtain ⟨va, vl, e, h1, h2⟩ := h
  injection e with e
  simp only [Array.mk.injEq, List.cons.injEq] at e
  obtain ⟨rfl, rfl, rfl, _, _, _, rfl, _⟩ := e
  exact ⟨⟨_, rfl, h1⟩, h2⟩
theorem slice_inj {A B : Option Addr} {n m c d : Nat} (h : Value.slice A n c = .slice B m d) : A = B ∧ n = m ∧ c = d := by injection h with h1 h2 h3; exact ⟨h1, h2, h3⟩
theorem sameEnded_on (x : Ev.Ended) (u v : Value) (w : World) (hx : REnded w u x) (hy : REnded w v x) :
    Calls Try.prog 24 #[u, v] w fun e w' => e = .returned (.bool true) ∧ Below w.heap.size w w' :=
  (sameEnded_any x x u v w hx hy).mono fun e w' ⟨h, hb⟩ => ⟨by rw [h]; simp, hb⟩
set_option maxRecDepth 20000 in
set_option maxHeartbeats 100000000 in
theorem machOn_walk (b : List Int) (p : Int) (ay : List Ev.Vr) (t : List Int) (g : Ev.Given) (most : Int) (vb va vg : Value) (w : World) (hb : RBytes w w.heap.size vb b) (ha : RVars w w.heap.size va ay) (hg : RGiven w w.heap.size vg g)
    (hl : t.length = 18) (hr : ∀ x ∈ t, -9223372036854775808 ≤ x ∧ x ≤ 9223372036854775807) (hy : Ev.Byt b) (hbl : b.length ≤ 1099511627776) (h2 : g.arrays.length ≤ 1073741824) (h3 : ∀ a ∈ g.arrays, a.length ≤ 1073741824) :
    Calls Try.prog 15 #[.agg #[vb, .int .i64 p, va], tableV t, vg, .int .i64 most] w fun e w' => e = .returned (.bool true) ∧ Below w.heap.size w w' := by
  have CW := Lib.hid (fun u => refWrong_any t u hl hr)
  have CD := Lib.hid (fun u (h : Below w.heap.size w u) => words_any g vg u (RGiven.atM hg h) h2)
  have CR1 := Lib.hid (fun u (h : Below w.heap.size w u) (ht : Ev.wrong t = 0) (hw : Ev.wordsOk g = true) (hm : most ≤ 36000) (hp : 0 ≤ p) => machRunD_any b p ay t g 0 most vb va vg u (SL.at_ hb h (Nat.le_refl _)) (SL.at_ ha h (Nat.le_refl _)) (RGiven.atM hg h) hl ht hy hbl (mgiven_of hw h2 h3) hm hp)
  have CR2 := Lib.hid (fun u (h : Below w.heap.size w u) (ht : Ev.wrong t = 0) (hw : Ev.wordsOk g = true) (hm : most ≤ 36000) (hp : 0 ≤ p) => machRunD_any b p ay t g 1 most vb va vg u (SL.at_ hb h (Nat.le_refl _)) (SL.at_ ha h (Nat.le_refl _)) (RGiven.atM hg h) hl ht hy hbl (mgiven_of hw h2 h3) hm hp)
  have CLD := Lib.hid (fun u (h : Below w.heap.size w u) => load_any b p ay.length ay vb va u (SL.at_ hb h (Nat.le_refl _)) (SL.at_ ha h (Nat.le_refl _)) hy rfl hbl)
  have PM := Lib.hid (fun (ht : Ev.wrong t = 0) (h : ∀ (k : Nat) i, (Ev.load b ay.length)[k]? = some i → i.op ≠ 22 ∧ i.op ≠ 23) => @Ev.image_on b p ay.length t g most ht h)
  obtain ⟨Aa, ca, rfl, ha1, ha2⟩ := SL.form ha
  obtain ⟨Ab, cb, rfl, hb1, hb2⟩ := SL.form hb
  obtain ⟨vw, vx, rfl, hw, hx⟩ := hg
  obtain ⟨Aw, cw, rfl, hw1, hw2⟩ := SL.form hw
  obtain ⟨Ax, cx, rfl, hx1, hx2⟩ := slice_form hx
  unfold maxLen at ha2 hb2 hw2 hx2
  have HL := Lib.hid hl
  unfold tableV at CW CR1 CR2 ⊢
  generalize hT : (t.map (Value.int .i64)).toArray = ta at *
  have HTA := Lib.hid hT
  generalize Ev.runImage b p ay.length t g 0 most = R at *
  generalize Ev.runImage b p ay.length t g 1 most = S at *
  generalize Ev.load b ay.length = l at *
  generalize Ev.loadErr b ay.length = le at *
  clear hb ha hw hx hl hr hy hT h3
  go_enter Try.func15, Try.ntmps15
  go_upto_region 1 with fail
  obtain ⟨hbx0, hbx1, hbx2⟩ := boxes3 w #[.slice Ab b.length cb, .int .i64 p, .slice Aa ay.length ca] ta #[.slice Aw g.words.length cw, .slice Ax g.arrays.length cx] 76 29 45
  have sA : w.heap.size + 3 = (((w.alloc (.cells #[.slice Ab b.length cb, .int .i64 p, .slice Aa ay.length ca] 76)).alloc (.cells ta 29)).alloc (.cells #[.slice Aw g.words.length cw, .slice Ax g.arrays.length cx] 45)).heap.size := by simp
  have bA : Below w.heap.size w (((w.alloc (.cells #[.slice Ab b.length cb, .int .i64 p, .slice Aa ay.length ca] 76)).alloc (.cells ta 29)).alloc (.cells #[.slice Aw g.words.length cw, .slice Ax g.arrays.length cx] 45)) := by (repeat' first | with_reducible (first | exact Below.refl _ _ | assumption | refine Below.alloc ?_ ?_ _ | refine below_drewN ?_ _ | refine Below.drew ?_ | refine Below.setCell ?_ ?_ _ | refine Below.trans ?_ (Below.mono (by with_reducible assumption) ?_)) | go_size)
  generalize ((w.alloc (.cells #[.slice Ab b.length cb, .int .i64 p, .slice Aa ay.length ca] 76)).alloc (.cells ta 29)).alloc (.cells #[.slice Aw g.words.length cw, .slice Ax g.arrays.length cx] 45) = wA at *
  have z0 : w.heap.size < wA.heap.size := by omega
  have z1 : w.heap.size + 1 < wA.heap.size := by omega
  have z2 : w.heap.size + 1 + 1 < wA.heap.size := by omega
  have sA' : w.heap.size ≤ wA.heap.size := by omega
  clear sA
  have f1h := Lib.hid (show wA.cell? ⟨w.heap.size, 1, none⟩ = some (.int .i64 p) from hbx0 1 _ rfl)
  have f2h := Lib.hid (show wA.cell? ⟨w.heap.size, 2, none⟩ = some (.slice Aa ay.length ca) from hbx0 2 _ rfl)
  have ldf : ∀ u, Below wA.heap.size wA u → (Go.Instr.loadAt 76 (.pointer (some ⟨w.heap.size, 0, none⟩))).run Try.prog u = .ok (.agg #[.slice Ab b.length cb, .int .i64 p, .slice Aa ay.length ca]) u := fun u hu => load_box Try.underlying76 (by kernel_rfl) rfl (by kernel_rfl) hbx0 z0 hu
  have ldt : ∀ u, Below wA.heap.size wA u → (Go.Instr.loadAt 29 (.pointer (some ⟨w.heap.size + 1, 0, none⟩))).run Try.prog u = .ok (.agg ta) u := fun u hu => load_box Try.underlying29 (by kernel_rfl) (by rw [← HTA.out]) (by rw [← HTA.out, List.length_map, HL.out]; kernel_rfl) hbx1 z1 hu
  have ldg : ∀ u, Below wA.heap.size wA u → (Go.Instr.loadAt 45 (.pointer (some ⟨w.heap.size + 1 + 1, 0, none⟩))).run Try.prog u = .ok (.agg #[.slice Aw g.words.length cw, .slice Ax g.arrays.length cx]) u := fun u hu => load_box Try.underlying45 (by kernel_rfl) rfl (by kernel_rfl) hbx2 z2 hu
  clear hbx0 hbx1 hbx2
  have HBA := Lib.hid bA
  clear bA
  go_upto_region 3 with (go_at_call 51; refine (alive_mach _).mono ?_; rintro e w3 ⟨rfl, hb3⟩)
  have hwA3 : Hid (Below w.heap.size w w3) := Lib.hid (HBA.out.trans (hb3.mono sA'))
  have HBr := hb3
  have s3 := hb3.size
  have f1r := (HBr.cell (p := ⟨w.heap.size, 1, none⟩) z0).trans f1h.out
  have f2r := (HBr.cell (p := ⟨w.heap.size, 2, none⟩) z0).trans f2h.out
  by_cases hwt : Ev.wrong t = 0
  · have hw0 := Lib.hid hwt
    have CW2 := CW.out
    rw [hwt] at CW2
    have CW3 := Lib.hid CW2
    clear CW CW2 hwt
    cases hwo : Ev.wordsOk g
    · have CD2 := CD.out
      rw [hwo] at CD2
      have CD3 := Lib.hid CD2
      clear CD CD2 CR1 CR2 hwo PM CLD
      go_wp2_with (first | (refine wpList_load_box rfl 29 _ rfl rfl (ldt _ HBr) ?_) | (refine wpList_load_boxg (by rfl) 45 _ rfl rfl (ldg _ HB4) ?_) | (go_at_call 18; refine (CW3.out _).mono ?_; rintro e w4 ⟨rfl, hb4⟩; have HB4 : Below wA.heap.size wA w4 := HBr.trans (hb4.mono s3)) | (go_at_call 47; refine (CD3.out _ (hwA3.out.trans (hb4.mono (by omega)))).mono ?_; rintro e w5 ⟨rfl, hb5⟩; have HB5 : Below wA.heap.size wA w5 := HB4.trans (hb5.mono HB4.size); have f1q := (HB5.cell (p := ⟨w.heap.size, 1, none⟩) z0).trans f1h.out; have f2q := (HB5.cell (p := ⟨w.heap.size, 2, none⟩) z0).trans f2h.out))
      go_ret
      exact ⟨rfl, by have e0 := HBA.out; have e1 := HB4.size; (repeat' first | with_reducible (first | exact Below.refl _ _ | assumption | refine Below.alloc ?_ ?_ _ | refine below_drewN ?_ _ | refine Below.drew ?_ | refine Below.setCell ?_ ?_ _ | refine Below.trans ?_ (Below.mono (by with_reducible assumption) ?_)) | go_size)⟩
    · have CD2 := CD.out
      rw [hwo] at CD2
      have CD3 := Lib.hid CD2
      have HWO := Lib.hid hwo
      clear CD CD2 hwo
      rcases (show 36000 < most ∨ (most ≤ 36000 ∧ p < 0) ∨ (most ≤ 36000 ∧ 0 ≤ p ∧ 100 < (ay.length : Int)) ∨ (most ≤ 36000 ∧ 0 ≤ p ∧ (ay.length : Int) ≤ 100) by omega) with h | h | h | h
      · skip
        clear CR1 CR2 PM CLD
        go_wp2_with (first | (refine wpList_load_box rfl 29 _ rfl rfl (ldt _ HBr) ?_) | (refine wpList_load_boxg (by rfl) 45 _ rfl rfl (ldg _ HB4) ?_) | (go_at_call 18; refine (CW3.out _).mono ?_; rintro e w4 ⟨rfl, hb4⟩; have HB4 : Below wA.heap.size wA w4 := HBr.trans (hb4.mono s3)) | (go_at_call 47; refine (CD3.out _ (hwA3.out.trans (hb4.mono (by omega)))).mono ?_; rintro e w5 ⟨rfl, hb5⟩; have HB5 : Below wA.heap.size wA w5 := HB4.trans (hb5.mono HB4.size); have f1q := (HB5.cell (p := ⟨w.heap.size, 1, none⟩) z0).trans f1h.out; have f2q := (HB5.cell (p := ⟨w.heap.size, 2, none⟩) z0).trans f2h.out))
        go_ret
        exact ⟨rfl, by have e0 := HBA.out; have e1 := HB5; have e2 := HB5.size; (repeat' first | with_reducible (first | exact Below.refl _ _ | assumption | refine Below.alloc ?_ ?_ _ | refine below_drewN ?_ _ | refine Below.drew ?_ | refine Below.setCell ?_ ?_ _ | refine Below.trans ?_ (Below.mono (by with_reducible assumption) ?_)) | go_size)⟩
      · obtain ⟨ha, hb⟩ := h
        clear CR1 CR2 PM CLD
        go_wp2_with (first | (refine wpList_load_box rfl 29 _ rfl rfl (ldt _ HBr) ?_) | (refine wpList_load_boxg (by rfl) 45 _ rfl rfl (ldg _ HB4) ?_) | (go_at_call 18; refine (CW3.out _).mono ?_; rintro e w4 ⟨rfl, hb4⟩; have HB4 : Below wA.heap.size wA w4 := HBr.trans (hb4.mono s3)) | (go_at_call 47; refine (CD3.out _ (hwA3.out.trans (hb4.mono (by omega)))).mono ?_; rintro e w5 ⟨rfl, hb5⟩; have HB5 : Below wA.heap.size wA w5 := HB4.trans (hb5.mono HB4.size); have f1q := (HB5.cell (p := ⟨w.heap.size, 1, none⟩) z0).trans f1h.out; have f2q := (HB5.cell (p := ⟨w.heap.size, 2, none⟩) z0).trans f2h.out))
        go_ret
        exact ⟨rfl, by have e0 := HBA.out; have e1 := HB5; have e2 := HB5.size; (repeat' first | with_reducible (first | exact Below.refl _ _ | assumption | refine Below.alloc ?_ ?_ _ | refine below_drewN ?_ _ | refine Below.drew ?_ | refine Below.setCell ?_ ?_ _ | refine Below.trans ?_ (Below.mono (by with_reducible assumption) ?_)) | go_size)⟩
      · obtain ⟨ha, hb, hc⟩ := h
        clear CR1 CR2 PM CLD
        go_wp2_with (first | (refine wpList_load_box rfl 29 _ rfl rfl (ldt _ HBr) ?_) | (refine wpList_load_boxg (by rfl) 45 _ rfl rfl (ldg _ HB4) ?_) | (go_at_call 18; refine (CW3.out _).mono ?_; rintro e w4 ⟨rfl, hb4⟩; have HB4 : Below wA.heap.size wA w4 := HBr.trans (hb4.mono s3)) | (go_at_call 47; refine (CD3.out _ (hwA3.out.trans (hb4.mono (by omega)))).mono ?_; rintro e w5 ⟨rfl, hb5⟩; have HB5 : Below wA.heap.size wA w5 := HB4.trans (hb5.mono HB4.size); have f1q := (HB5.cell (p := ⟨w.heap.size, 1, none⟩) z0).trans f1h.out; have f2q := (HB5.cell (p := ⟨w.heap.size, 2, none⟩) z0).trans f2h.out))
        go_ret
        exact ⟨rfl, by have e0 := HBA.out; have e1 := HB5; have e2 := HB5.size; (repeat' first | with_reducible (first | exact Below.refl _ _ | assumption | refine Below.alloc ?_ ?_ _ | refine below_drewN ?_ _ | refine Below.drew ?_ | refine Below.setCell ?_ ?_ _ | refine Below.trans ?_ (Below.mono (by with_reducible assumption) ?_)) | go_size)⟩
      · obtain ⟨hb, hc, hd⟩ := h
        have C1 := Lib.hid (fun u hu => CR1.out u hu hw0.out HWO.out hb hc)
        have C2 := Lib.hid (fun u hu => CR2.out u hu hw0.out HWO.out hb hc)
        have PM' := Lib.hid (PM.out hw0.out)
        clear CR1 CR2 PM
        go_upto_region 5 with (first | (refine wpList_load_box rfl 29 _ rfl rfl (ldt _ HBr) ?_) | (refine wpList_load_boxg (by rfl) 45 _ rfl rfl (ldg _ HB4) ?_) | (go_at_call 18; refine (CW3.out _).mono ?_; rintro e w4 ⟨rfl, hb4⟩; have HB4 : Below wA.heap.size wA w4 := HBr.trans (hb4.mono s3)) | (go_at_call 47; refine (CD3.out _ (hwA3.out.trans (hb4.mono (by omega)))).mono ?_; rintro e w5 ⟨rfl, hb5⟩; have HB5 : Below wA.heap.size wA w5 := HB4.trans (hb5.mono HB4.size); have f1q := (HB5.cell (p := ⟨w.heap.size, 1, none⟩) z0).trans f1h.out; have f2q := (HB5.cell (p := ⟨w.heap.size, 2, none⟩) z0).trans f2h.out))
        have HB5' := Lib.hid HB5
        clear HB4 hb4 hb5 f1q f2q f1r f2r
        have s5 := HB5.size
        have b5 := HBA.out.trans (HB5.mono sA')
        go_upto_region 6 with (first | (refine wpList_load_box rfl 76 _ rfl rfl (ldf _ HB5) ?_) | (go_at_call 45; refine (CLD.out _ b5).mono ?_; rintro e w6 ⟨vl, rfl, hlc, hb6⟩; obtain ⟨Al, cl, rfl, hll, hlm⟩ := SL.form hlc))
        unfold maxLen at hlm
        have HLC := Lib.hid hlc
        have HB6 : Below wA.heap.size wA w6 := HB5.trans (hb6.mono s5)
        have s6 := HB6.size
        clear hlc hb6 b5 s5 HB5 HB5' CLD
        by_cases hle : le = 0
        case neg =>
          have g0 : (le != 0) = true := bne_iff_ne.2 hle
          clear hle
          go_wp2_with fail
          go_ret
          exact ⟨rfl, by have e0 := HBA.out; (repeat' first | with_reducible (first | exact Below.refl _ _ | assumption | refine Below.alloc ?_ ?_ _ | refine below_drewN ?_ _ | refine Below.drew ?_ | refine Below.setCell ?_ ?_ _ | refine Below.trans ?_ (Below.mono (by with_reducible assumption) ?_)) | go_size)⟩
        case pos =>
        subst hle
        go_wp2_with fail
        go_loopw [57] (fun kk wr => ∃ k : Nat, k ≤ l.length ∧ kk = .int .i64 (k : Int) ∧ Hid (∀ (j : Nat) i, j < k → l[j]? = some i → i.op ≠ 22 ∧ i.op ≠ 23) ∧ Below w6.heap.size w6 wr) (fun kk _ => l.length - (intOf kk).toNat)
        case atStart => exact ⟨0, by omega, rfl, Lib.hid (fun j i h => by omega), by (repeat' first | with_reducible (first | exact Below.refl _ _ | assumption | refine Below.alloc ?_ ?_ _ | refine below_drewN ?_ _ | refine Below.drew ?_ | refine Below.setCell ?_ ?_ _ | refine Below.trans ?_ (Below.mono (by with_reducible assumption) ?_)) | go_size)⟩
        case round =>
          obtain ⟨k, hk, rfl, HN, hB⟩ := hrel
          have sB := hB.size
          by_cases hlt : k < l.length
          case pos => as_aux_lemma =>
            obtain ⟨i, hi⟩ : ∃ i, l[k]? = some i := ⟨l[k], List.getElem?_eq_getElem hlt⟩
            obtain ⟨b1, o1, r1, hv, hb1, _, _, _, p0, p1, p2, p3, p4, p5⟩ := RCode.at_ (SL.at_ HLC.out hB (Nat.le_refl _)) hi
            obtain ⟨hA, -, hcr⟩ := slice_inj hv
            clear hv
            subst hA hcr
            have HI := Lib.hid hi
            clear hi
            have BW : Below w.heap.size w w6 := HBA.out.trans (HB6.mono sA')
            have sW := BW.size
            by_cases h22 : i.op = 22
            · have g1 : (i.op == 22) = true := beq_iff_eq.2 h22
              clear h22
              go_wp2_with fail
              go_ret
              exact ⟨rfl, by (repeat' first | with_reducible (first | exact Below.refl _ _ | assumption | refine Below.alloc ?_ ?_ _ | refine below_drewN ?_ _ | refine Below.drew ?_ | refine Below.setCell ?_ ?_ _ | refine Below.trans ?_ (Below.mono (by with_reducible assumption) ?_)) | go_size)⟩
            by_cases h23 : i.op = 23
            · have g1 : (i.op == 22) = false := beq_eq_false_iff_ne.2 h22
              have g2 : (i.op == 23) = true := beq_iff_eq.2 h23
              clear h22 h23
              go_wp2_with fail
              go_ret
              exact ⟨rfl, by (repeat' first | with_reducible (first | exact Below.refl _ _ | assumption | refine Below.alloc ?_ ?_ _ | refine below_drewN ?_ _ | refine Below.drew ?_ | refine Below.setCell ?_ ?_ _ | refine Below.trans ?_ (Below.mono (by with_reducible assumption) ?_)) | go_size)⟩
            have g1 : (i.op == 22) = false := beq_eq_false_iff_ne.2 h22
            have g2 : (i.op == 23) = false := beq_eq_false_iff_ne.2 h23
            have HNI := Lib.hid (⟨h22, h23⟩ : i.op ≠ 22 ∧ i.op ≠ 23)
            clear h22 h23
            go_wp2_with fail
            go_roundw
            case rel =>
              refine ⟨k + 1, by omega, by go_num, Lib.hid (fun j i' hj hi' => ?_), by (repeat' first | with_reducible (first | exact Below.refl _ _ | assumption | refine Below.alloc ?_ ?_ _ | refine below_drewN ?_ _ | refine Below.drew ?_ | refine Below.setCell ?_ ?_ _ | refine Below.trans ?_ (Below.mono (by with_reducible assumption) ?_)) | go_size)⟩
              by_cases e : j = k
              · subst e
                rw [HI.out] at hi'
                injection hi' with hi'
                rw [← hi']
                exact HNI.out
              · exact HN.out j i' (by omega) hi'
            case measure => simp [intOf]; omega
          case neg =>
            obtain rfl : k = l.length := by omega
            have PO := Lib.hid (PM'.out (fun j i hi => HN.out j i (List.getElem?_eq_some_iff.1 hi).1 hi))
            have HB5 : Below wA.heap.size wA wr := HB6.trans (hB.mono s6)
            have s5 := HB5.size
            clear HN PM' HLC hB sB HB6 s6 hll hlm
            go_upto_region 14 with fail
            refine wp_region_flockD_tail 12 (fun k => match k with | 0 => some (Bv.is (.agg #[.slice Ab b.length cb, .int .i64 p, .slice Aa ay.length ca])) | 1 => some (Bv.is (.agg ta)) | 2 => some (Bv.is (.agg #[.slice Aw g.words.length cw, .slice Ax g.arrays.length cx])) | 4 => some (Bv.ran R) | 5 => some (Bv.is (.agg #[.slice Ab b.length cb, .int .i64 p, .slice Aa ay.length ca])) | 6 => some (Bv.is (.agg ta)) | 7 => some (Bv.is (.agg #[.slice Aw g.words.length cw, .slice Ax g.arrays.length cx])) | 9 => some (Bv.ran S) | 10 => some (Bv.box wA.heap.size #[.int .i64 0, .bool false, .slice none 0 0, .int .i64 0, .int .i64 0, .int .i64 0, .slice none 0 0] 82) | 11 => some (Bv.box wA.heap.size #[.int .i64 0, .bool false, .slice none 0 0, .int .i64 0, .int .i64 0, .int .i64 0, .slice none 0 0] 82) | _ => none) (by kernel_rfl) (by kernel_rfl) (by kernel_rfl) (by kernel_rfl) ?_
            simp only [List.take_succ_cons, List.take_zero, List.drop_succ_cons, List.drop_zero]
            refine flockD_heavy _ rfl ?_ ?_
            · intro w9 hb9 hh9
              have hB9 : Below wA.heap.size wA w9 := (by (repeat' first | with_reducible (first | exact Below.refl _ _ | assumption | refine Below.alloc ?_ ?_ _ | refine below_drewN ?_ _ | refine Below.drew ?_ | refine Below.setCell ?_ ?_ _ | refine Below.trans ?_ (Below.mono (by with_reducible assumption) ?_)) | go_size))
              obtain ⟨kc9, kf9, s9⟩ := bfacts hb9
              obtain ⟨kd9, kg9, _⟩ := bfacts hB9
              have ldf9 := ldf _ hB9; have ldt9 := ldt _ hB9; have ldg9 := ldg _ hB9
              refine wpList_load_box rfl 76 _ rfl rfl ldf9 ?_
              refine bornTo_at (by rfl) (by (repeat' first | with_reducible (first | exact Below.refl _ _ | assumption | refine Below.alloc ?_ ?_ _ | refine below_drewN ?_ _ | refine Below.drew ?_ | refine Below.setCell ?_ ?_ _ | refine Below.trans ?_ (Below.mono (by with_reducible assumption) ?_)) | go_size)) ?_
              exact rfl
            intro x0 y0 ok0
            (try simp only [Act.put, List.setIfInBounds_toArray, List.set_cons_zero, List.set_cons_succ])
            (try dsimp only [Bv.box, Bv.is, Bv.ran] at ok0)
            first | subst ok0 | (obtain ⟨A0, c0, ok0⟩ := ok0; subst ok0) | (obtain ⟨A0, ok0⟩ := ok0; subst ok0) | skip
            refine flockD_heavy _ rfl ?_ ?_
            · intro w9 hb9 hh9
              have hB9 : Below wA.heap.size wA w9 := (by (repeat' first | with_reducible (first | exact Below.refl _ _ | assumption | refine Below.alloc ?_ ?_ _ | refine below_drewN ?_ _ | refine Below.drew ?_ | refine Below.setCell ?_ ?_ _ | refine Below.trans ?_ (Below.mono (by with_reducible assumption) ?_)) | go_size))
              obtain ⟨kc9, kf9, s9⟩ := bfacts hb9
              obtain ⟨kd9, kg9, _⟩ := bfacts hB9
              have ldf9 := ldf _ hB9; have ldt9 := ldt _ hB9; have ldg9 := ldg _ hB9
              refine wpList_load_box rfl 29 _ rfl rfl ldt9 ?_
              refine bornTo_at (by rfl) (by (repeat' first | with_reducible (first | exact Below.refl _ _ | assumption | refine Below.alloc ?_ ?_ _ | refine below_drewN ?_ _ | refine Below.drew ?_ | refine Below.setCell ?_ ?_ _ | refine Below.trans ?_ (Below.mono (by with_reducible assumption) ?_)) | go_size)) ?_
              exact rfl
            intro x1 y1 ok1
            (try simp only [Act.put, List.setIfInBounds_toArray, List.set_cons_zero, List.set_cons_succ])
            (try dsimp only [Bv.box, Bv.is, Bv.ran] at ok1)
            first | subst ok1 | (obtain ⟨A1, c1, ok1⟩ := ok1; subst ok1) | (obtain ⟨A1, ok1⟩ := ok1; subst ok1) | skip
            refine flockD_heavy _ rfl ?_ ?_
            · intro w9 hb9 hh9
              have hB9 : Below wA.heap.size wA w9 := (by (repeat' first | with_reducible (first | exact Below.refl _ _ | assumption | refine Below.alloc ?_ ?_ _ | refine below_drewN ?_ _ | refine Below.drew ?_ | refine Below.setCell ?_ ?_ _ | refine Below.trans ?_ (Below.mono (by with_reducible assumption) ?_)) | go_size))
              obtain ⟨kc9, kf9, s9⟩ := bfacts hb9
              obtain ⟨kd9, kg9, _⟩ := bfacts hB9
              have ldf9 := ldf _ hB9; have ldt9 := ldt _ hB9; have ldg9 := ldg _ hB9
              refine wpList_load_box rfl 45 _ rfl rfl ldg9 ?_
              refine bornTo_at (by rfl) (by (repeat' first | with_reducible (first | exact Below.refl _ _ | assumption | refine Below.alloc ?_ ?_ _ | refine below_drewN ?_ _ | refine Below.drew ?_ | refine Below.setCell ?_ ?_ _ | refine Below.trans ?_ (Below.mono (by with_reducible assumption) ?_)) | go_size)) ?_
              exact rfl
            intro x2 y2 ok2
            (try simp only [Act.put, List.setIfInBounds_toArray, List.set_cons_zero, List.set_cons_succ])
            (try dsimp only [Bv.box, Bv.is, Bv.ran] at ok2)
            first | subst ok2 | (obtain ⟨A2, c2, ok2⟩ := ok2; subst ok2) | (obtain ⟨A2, ok2⟩ := ok2; subst ok2) | skip
            apply flockD_light rfl
            case h => first | exact light_no (by rfl) | ((first | apply light_plain rfl | apply light_yes (by rfl)); intro w9 hw9; obtain ⟨hb9, hh9⟩ := hw9; skip; go_simp; try rfl)
            (try simp only [Act.put, List.setIfInBounds_toArray, List.set_cons_zero, List.set_cons_succ])
            refine flockD_heavy _ rfl ?_ ?_
            · intro w9 hb9 hh9
              have hB9 : Below wA.heap.size wA w9 := (by (repeat' first | with_reducible (first | exact Below.refl _ _ | assumption | refine Below.alloc ?_ ?_ _ | refine below_drewN ?_ _ | refine Below.drew ?_ | refine Below.setCell ?_ ?_ _ | refine Below.trans ?_ (Below.mono (by with_reducible assumption) ?_)) | go_size))
              obtain ⟨kc9, kf9, s9⟩ := bfacts hb9
              obtain ⟨kd9, kg9, _⟩ := bfacts hB9
              have r2 := hh9 _ (.head _) (by kernel_rfl); dsimp only [Bv.box, Bv.is, Bv.ran] at r2; (first | replace r2 := lit_heap r2 | replace r2 := box_heap r2 | skip); have r1 := hh9 _ (.tail _ (.head _)) (by kernel_rfl); dsimp only [Bv.box, Bv.is, Bv.ran] at r1; (first | replace r1 := lit_heap r1 | replace r1 := box_heap r1 | skip); have r0 := hh9 _ (.tail _ (.tail _ (.head _))) (by kernel_rfl); dsimp only [Bv.box, Bv.is, Bv.ran] at r0; (first | replace r0 := lit_heap r0 | replace r0 := box_heap r0 | skip); have ldf9 := ldf _ hB9; have ldt9 := ldt _ hB9; have ldg9 := ldg _ hB9
              go_wp2_with (go_at_call 49; refine (C1.out _ (HBA.out.trans (hB9.mono sA'))).mono ?_; rintro e w6 ⟨x1, rfl, hQ1, hb6⟩)
              refine bornTo_at (by rfl) (by (repeat' first | with_reducible (first | exact Below.refl _ _ | assumption | refine Below.alloc ?_ ?_ _ | refine below_drewN ?_ _ | refine Below.drew ?_ | refine Below.setCell ?_ ?_ _ | refine Below.trans ?_ (Below.mono (by with_reducible assumption) ?_)) | go_size)) ?_
              exact hQ1
            intro x4 y4 ok4
            (try simp only [Act.put, List.setIfInBounds_toArray, List.set_cons_zero, List.set_cons_succ])
            (try dsimp only [Bv.box, Bv.is, Bv.ran] at ok4)
            first | subst ok4 | (obtain ⟨A4, c4, ok4⟩ := ok4; subst ok4) | (obtain ⟨A4, ok4⟩ := ok4; subst ok4) | skip
            refine flockD_heavy _ rfl ?_ ?_
            · intro w9 hb9 hh9
              have hB9 : Below wA.heap.size wA w9 := (by (repeat' first | with_reducible (first | exact Below.refl _ _ | assumption | refine Below.alloc ?_ ?_ _ | refine below_drewN ?_ _ | refine Below.drew ?_ | refine Below.setCell ?_ ?_ _ | refine Below.trans ?_ (Below.mono (by with_reducible assumption) ?_)) | go_size))
              obtain ⟨kc9, kf9, s9⟩ := bfacts hb9
              obtain ⟨kd9, kg9, _⟩ := bfacts hB9
              have ldf9 := ldf _ hB9; have ldt9 := ldt _ hB9; have ldg9 := ldg _ hB9
              refine wpList_load_box rfl 76 _ rfl rfl ldf9 ?_
              refine bornTo_at (by rfl) (by (repeat' first | with_reducible (first | exact Below.refl _ _ | assumption | refine Below.alloc ?_ ?_ _ | refine below_drewN ?_ _ | refine Below.drew ?_ | refine Below.setCell ?_ ?_ _ | refine Below.trans ?_ (Below.mono (by with_reducible assumption) ?_)) | go_size)) ?_
              exact rfl
            intro x5 y5 ok5
            (try simp only [Act.put, List.setIfInBounds_toArray, List.set_cons_zero, List.set_cons_succ])
            (try dsimp only [Bv.box, Bv.is, Bv.ran] at ok5)
            first | subst ok5 | (obtain ⟨A5, c5, ok5⟩ := ok5; subst ok5) | (obtain ⟨A5, ok5⟩ := ok5; subst ok5) | skip
            refine flockD_heavy _ rfl ?_ ?_
            · intro w9 hb9 hh9
              have hB9 : Below wA.heap.size wA w9 := (by (repeat' first | with_reducible (first | exact Below.refl _ _ | assumption | refine Below.alloc ?_ ?_ _ | refine below_drewN ?_ _ | refine Below.drew ?_ | refine Below.setCell ?_ ?_ _ | refine Below.trans ?_ (Below.mono (by with_reducible assumption) ?_)) | go_size))
              obtain ⟨kc9, kf9, s9⟩ := bfacts hb9
              obtain ⟨kd9, kg9, _⟩ := bfacts hB9
              have ldf9 := ldf _ hB9; have ldt9 := ldt _ hB9; have ldg9 := ldg _ hB9
              refine wpList_load_box rfl 29 _ rfl rfl ldt9 ?_
              refine bornTo_at (by rfl) (by (repeat' first | with_reducible (first | exact Below.refl _ _ | assumption | refine Below.alloc ?_ ?_ _ | refine below_drewN ?_ _ | refine Below.drew ?_ | refine Below.setCell ?_ ?_ _ | refine Below.trans ?_ (Below.mono (by with_reducible assumption) ?_)) | go_size)) ?_
              exact rfl
            intro x6 y6 ok6
            (try simp only [Act.put, List.setIfInBounds_toArray, List.set_cons_zero, List.set_cons_succ])
            (try dsimp only [Bv.box, Bv.is, Bv.ran] at ok6)
            first | subst ok6 | (obtain ⟨A6, c6, ok6⟩ := ok6; subst ok6) | (obtain ⟨A6, ok6⟩ := ok6; subst ok6) | skip
            refine flockD_heavy _ rfl ?_ ?_
            · intro w9 hb9 hh9
              have hB9 : Below wA.heap.size wA w9 := (by (repeat' first | with_reducible (first | exact Below.refl _ _ | assumption | refine Below.alloc ?_ ?_ _ | refine below_drewN ?_ _ | refine Below.drew ?_ | refine Below.setCell ?_ ?_ _ | refine Below.trans ?_ (Below.mono (by with_reducible assumption) ?_)) | go_size))
              obtain ⟨kc9, kf9, s9⟩ := bfacts hb9
              obtain ⟨kd9, kg9, _⟩ := bfacts hB9
              have ldf9 := ldf _ hB9; have ldt9 := ldt _ hB9; have ldg9 := ldg _ hB9
              refine wpList_load_box rfl 45 _ rfl rfl ldg9 ?_
              refine bornTo_at (by rfl) (by (repeat' first | with_reducible (first | exact Below.refl _ _ | assumption | refine Below.alloc ?_ ?_ _ | refine below_drewN ?_ _ | refine Below.drew ?_ | refine Below.setCell ?_ ?_ _ | refine Below.trans ?_ (Below.mono (by with_reducible assumption) ?_)) | go_size)) ?_
              exact rfl
            intro x7 y7 ok7
            (try simp only [Act.put, List.setIfInBounds_toArray, List.set_cons_zero, List.set_cons_succ])
            (try dsimp only [Bv.box, Bv.is, Bv.ran] at ok7)
            first | subst ok7 | (obtain ⟨A7, c7, ok7⟩ := ok7; subst ok7) | (obtain ⟨A7, ok7⟩ := ok7; subst ok7) | skip
            apply flockD_light rfl
            case h => first | exact light_no (by rfl) | ((first | apply light_plain rfl | apply light_yes (by rfl)); intro w9 hw9; obtain ⟨hb9, hh9⟩ := hw9; skip; go_simp; try rfl)
            (try simp only [Act.put, List.setIfInBounds_toArray, List.set_cons_zero, List.set_cons_succ])
            refine flockD_heavy _ rfl ?_ ?_
            · intro w9 hb9 hh9
              have hB9 : Below wA.heap.size wA w9 := (by (repeat' first | with_reducible (first | exact Below.refl _ _ | assumption | refine Below.alloc ?_ ?_ _ | refine below_drewN ?_ _ | refine Below.drew ?_ | refine Below.setCell ?_ ?_ _ | refine Below.trans ?_ (Below.mono (by with_reducible assumption) ?_)) | go_size))
              obtain ⟨kc9, kf9, s9⟩ := bfacts hb9
              obtain ⟨kd9, kg9, _⟩ := bfacts hB9
              have r7 := hh9 _ (.head _) (by kernel_rfl); dsimp only [Bv.box, Bv.is, Bv.ran] at r7; (first | replace r7 := lit_heap r7 | replace r7 := box_heap r7 | skip); have r6 := hh9 _ (.tail _ (.head _)) (by kernel_rfl); dsimp only [Bv.box, Bv.is, Bv.ran] at r6; (first | replace r6 := lit_heap r6 | replace r6 := box_heap r6 | skip); have r5 := hh9 _ (.tail _ (.tail _ (.head _))) (by kernel_rfl); dsimp only [Bv.box, Bv.is, Bv.ran] at r5; (first | replace r5 := lit_heap r5 | replace r5 := box_heap r5 | skip); have r4 := hh9 _ (.tail _ (.tail _ (.tail _ (.head _)))) (by kernel_rfl); dsimp only [Bv.box, Bv.is, Bv.ran] at r4; (first | replace r4 := lit_heap r4 | replace r4 := box_heap r4 | skip); have r2 := hh9 _ (.tail _ (.tail _ (.tail _ (.tail _ (.head _))))) (by kernel_rfl); dsimp only [Bv.box, Bv.is, Bv.ran] at r2; (first | replace r2 := lit_heap r2 | replace r2 := box_heap r2 | skip); have r1 := hh9 _ (.tail _ (.tail _ (.tail _ (.tail _ (.tail _ (.head _)))))) (by kernel_rfl); dsimp only [Bv.box, Bv.is, Bv.ran] at r1; (first | replace r1 := lit_heap r1 | replace r1 := box_heap r1 | skip); have r0 := hh9 _ (.tail _ (.tail _ (.tail _ (.tail _ (.tail _ (.tail _ (.head _))))))) (by kernel_rfl); dsimp only [Bv.box, Bv.is, Bv.ran] at r0; (first | replace r0 := lit_heap r0 | replace r0 := box_heap r0 | skip); have ldf9 := ldf _ hB9; have ldt9 := ldt _ hB9; have ldg9 := ldg _ hB9
              go_wp2_with (go_at_call 49; refine (C2.out _ (HBA.out.trans (hB9.mono sA'))).mono ?_; rintro e w6 ⟨x1, rfl, hQ1, hb6⟩)
              refine bornTo_at (by rfl) (by (repeat' first | with_reducible (first | exact Below.refl _ _ | assumption | refine Below.alloc ?_ ?_ _ | refine below_drewN ?_ _ | refine Below.drew ?_ | refine Below.setCell ?_ ?_ _ | refine Below.trans ?_ (Below.mono (by with_reducible assumption) ?_)) | go_size)) ?_
              exact hQ1
            intro x9 y9 ok9
            (try simp only [Act.put, List.setIfInBounds_toArray, List.set_cons_zero, List.set_cons_succ])
            (try dsimp only [Bv.box, Bv.is, Bv.ran] at ok9)
            first | subst ok9 | (obtain ⟨A9, c9, ok9⟩ := ok9; subst ok9) | (obtain ⟨A9, ok9⟩ := ok9; subst ok9) | skip
            refine flockD_heavy _ rfl ?_ ?_
            · intro w9 hb9 hh9
              have hB9 : Below wA.heap.size wA w9 := (by (repeat' first | with_reducible (first | exact Below.refl _ _ | assumption | refine Below.alloc ?_ ?_ _ | refine below_drewN ?_ _ | refine Below.drew ?_ | refine Below.setCell ?_ ?_ _ | refine Below.trans ?_ (Below.mono (by with_reducible assumption) ?_)) | go_size))
              obtain ⟨kc9, kf9, s9⟩ := bfacts hb9
              obtain ⟨kd9, kg9, _⟩ := bfacts hB9
              have ldf9 := ldf _ hB9; have ldt9 := ldt _ hB9; have ldg9 := ldg _ hB9
              go_wp2_with fail
              refine bornTo_at (by rfl) (by (repeat' first | with_reducible (first | exact Below.refl _ _ | assumption | refine Below.alloc ?_ ?_ _ | refine below_drewN ?_ _ | refine Below.drew ?_ | refine Below.setCell ?_ ?_ _ | refine Below.trans ?_ (Below.mono (by with_reducible assumption) ?_)) | go_size)) ?_
              exact ⟨_, rfl, by go_size, Nat.le_refl _, by go_size, heap_alloc_new _ _⟩
            intro x10 y10 ok10
            (try simp only [Act.put, List.setIfInBounds_toArray, List.set_cons_zero, List.set_cons_succ])
            (try dsimp only [Bv.box, Bv.is, Bv.ran] at ok10)
            first | subst ok10 | (obtain ⟨A10, c10, ok10⟩ := ok10; subst ok10) | (obtain ⟨A10, ok10⟩ := ok10; subst ok10) | skip
            refine flockD_heavy _ rfl ?_ ?_
            · intro w9 hb9 hh9
              have hB9 : Below wA.heap.size wA w9 := (by (repeat' first | with_reducible (first | exact Below.refl _ _ | assumption | refine Below.alloc ?_ ?_ _ | refine below_drewN ?_ _ | refine Below.drew ?_ | refine Below.setCell ?_ ?_ _ | refine Below.trans ?_ (Below.mono (by with_reducible assumption) ?_)) | go_size))
              obtain ⟨kc9, kf9, s9⟩ := bfacts hb9
              obtain ⟨kd9, kg9, _⟩ := bfacts hB9
              have ldf9 := ldf _ hB9; have ldt9 := ldt _ hB9; have ldg9 := ldg _ hB9
              go_wp2_with fail
              refine bornTo_at (by rfl) (by (repeat' first | with_reducible (first | exact Below.refl _ _ | assumption | refine Below.alloc ?_ ?_ _ | refine below_drewN ?_ _ | refine Below.drew ?_ | refine Below.setCell ?_ ?_ _ | refine Below.trans ?_ (Below.mono (by with_reducible assumption) ?_)) | go_size)) ?_
              exact ⟨_, rfl, by go_size, Nat.le_refl _, by go_size, heap_alloc_new _ _⟩
            intro x11 y11 ok11
            (try simp only [Act.put, List.setIfInBounds_toArray, List.set_cons_zero, List.set_cons_succ])
            (try dsimp only [Bv.box, Bv.is, Bv.ran] at ok11)
            first | subst ok11 | (obtain ⟨A11, c11, ok11⟩ := ok11; subst ok11) | (obtain ⟨A11, ok11⟩ := ok11; subst ok11) | skip
            refine flockD_nil ?_
            intro w9 hb9 hh9 hd9
            have hB9 : Below wA.heap.size wA w9 := (by (repeat' first | with_reducible (first | exact Below.refl _ _ | assumption | refine Below.alloc ?_ ?_ _ | refine below_drewN ?_ _ | refine Below.drew ?_ | refine Below.setCell ?_ ?_ _ | refine Below.trans ?_ (Below.mono (by with_reducible assumption) ?_)) | go_size))
            have r11 := hh9 _ (.head _); dsimp only [Bv.box, Bv.is, Bv.ran] at r11; (first | replace r11 := lit_heap r11 | replace r11 := box_heap r11 | skip); have r10 := hh9 _ (.tail _ (.head _)); dsimp only [Bv.box, Bv.is, Bv.ran] at r10; (first | replace r10 := lit_heap r10 | replace r10 := box_heap r10 | skip); have r9 := hh9 _ (.tail _ (.tail _ (.head _))); dsimp only [Bv.box, Bv.is, Bv.ran] at r9; (first | replace r9 := lit_heap r9 | replace r9 := box_heap r9 | skip); have r7 := hh9 _ (.tail _ (.tail _ (.tail _ (.head _)))); dsimp only [Bv.box, Bv.is, Bv.ran] at r7; (first | replace r7 := lit_heap r7 | replace r7 := box_heap r7 | skip); have r6 := hh9 _ (.tail _ (.tail _ (.tail _ (.tail _ (.head _))))); dsimp only [Bv.box, Bv.is, Bv.ran] at r6; (first | replace r6 := lit_heap r6 | replace r6 := box_heap r6 | skip); have r5 := hh9 _ (.tail _ (.tail _ (.tail _ (.tail _ (.tail _ (.head _)))))); dsimp only [Bv.box, Bv.is, Bv.ran] at r5; (first | replace r5 := lit_heap r5 | replace r5 := box_heap r5 | skip); have r4 := hh9 _ (.tail _ (.tail _ (.tail _ (.tail _ (.tail _ (.tail _ (.head _))))))); dsimp only [Bv.box, Bv.is, Bv.ran] at r4; (first | replace r4 := lit_heap r4 | replace r4 := box_heap r4 | skip); have r2 := hh9 _ (.tail _ (.tail _ (.tail _ (.tail _ (.tail _ (.tail _ (.tail _ (.head _)))))))); dsimp only [Bv.box, Bv.is, Bv.ran] at r2; (first | replace r2 := lit_heap r2 | replace r2 := box_heap r2 | skip); have r1 := hh9 _ (.tail _ (.tail _ (.tail _ (.tail _ (.tail _ (.tail _ (.tail _ (.tail _ (.head _))))))))); dsimp only [Bv.box, Bv.is, Bv.ran] at r1; (first | replace r1 := lit_heap r1 | replace r1 := box_heap r1 | skip); have r0 := hh9 _ (.tail _ (.tail _ (.tail _ (.tail _ (.tail _ (.tail _ (.tail _ (.tail _ (.tail _ (.head _)))))))))); dsimp only [Bv.box, Bv.is, Bv.ran] at r0; (first | replace r0 := lit_heap r0 | replace r0 := box_heap r0 | skip); clear hh9
            have d9_4_9 := (pw_get hd9 2 6 (by decide) rfl rfl).symm
            have d9_4_10 := (pw_get hd9 1 6 (by decide) rfl rfl).symm
            have d9_4_11 := (pw_get hd9 0 6 (by decide) rfl rfl).symm
            have d9_9_10 := (pw_get hd9 1 2 (by decide) rfl rfl).symm
            have d9_9_11 := (pw_get hd9 0 2 (by decide) rfl rfl).symm
            have d9_10_11 := (pw_get hd9 0 1 (by decide) rfl rfl).symm
            clear hd9
            (try dsimp only)
            clear r0 r1 r2 r5 r6 r7 hb9
            obtain ⟨n_lo10, g10, n10, p10⟩ := bvbox r10
            obtain ⟨n_lo11, g11, n11, p11⟩ := bvbox r11
            clear r10 r11
            have d1 := apart_ne d9_10_11 g10 n10 g11 n11
            have d2 := d1.symm
            have DR : Hid (Dep y4.1 y4.2 (row7 (row7 w9 A10 (.int .i64 R.ended.word) (.bool R.ended.trap) (.slice A4.1 R.ended.arrays.length A4.2) (.int .i64 R.err) (.int .i64 R.steps) (.int .i64 R.mode) (.slice c4.1 R.leaks.length c4.2)) A11 (.int .i64 S.ended.word) (.bool S.ended.trap) (.slice A9.1 S.ended.arrays.length A9.2) (.int .i64 S.err) (.int .i64 S.steps) (.int .i64 S.mode) (.slice c9.1 S.leaks.length c9.2)) (fun u => RRan u (.agg #[.int .i64 R.ended.word, .bool R.ended.trap, .slice A4.1 R.ended.arrays.length A4.2, .int .i64 R.err, .int .i64 R.steps, .int .i64 R.mode, .slice c4.1 R.leaks.length c4.2]) R)) := Lib.hid (Dep.row7 (Dep.row7 r4 (apart_box d9_4_10 g10 n10) (.int .i64 R.ended.word) (.bool R.ended.trap) (.slice A4.1 R.ended.arrays.length A4.2) (.int .i64 R.err) (.int .i64 R.steps) (.int .i64 R.mode) (.slice c4.1 R.leaks.length c4.2)) (apart_box d9_4_11 g11 n11) (.int .i64 S.ended.word) (.bool S.ended.trap) (.slice A9.1 S.ended.arrays.length A9.2) (.int .i64 S.err) (.int .i64 S.steps) (.int .i64 S.mode) (.slice c9.1 S.leaks.length c9.2))
            have DS : Hid (Dep y9.1 y9.2 (row7 (row7 w9 A10 (.int .i64 R.ended.word) (.bool R.ended.trap) (.slice A4.1 R.ended.arrays.length A4.2) (.int .i64 R.err) (.int .i64 R.steps) (.int .i64 R.mode) (.slice c4.1 R.leaks.length c4.2)) A11 (.int .i64 S.ended.word) (.bool S.ended.trap) (.slice A9.1 S.ended.arrays.length A9.2) (.int .i64 S.err) (.int .i64 S.steps) (.int .i64 S.mode) (.slice c9.1 S.leaks.length c9.2)) (fun u => RRan u (.agg #[.int .i64 S.ended.word, .bool S.ended.trap, .slice A9.1 S.ended.arrays.length A9.2, .int .i64 S.err, .int .i64 S.steps, .int .i64 S.mode, .slice c9.1 S.leaks.length c9.2]) S)) := Lib.hid (Dep.row7 (Dep.row7 r9 (apart_box d9_9_10 g10 n10) (.int .i64 R.ended.word) (.bool R.ended.trap) (.slice A4.1 R.ended.arrays.length A4.2) (.int .i64 R.err) (.int .i64 R.steps) (.int .i64 R.mode) (.slice c4.1 R.leaks.length c4.2)) (apart_box d9_9_11 g11 n11) (.int .i64 S.ended.word) (.bool S.ended.trap) (.slice A9.1 S.ended.arrays.length A9.2) (.int .i64 S.err) (.int .i64 S.steps) (.int .i64 S.mode) (.slice c9.1 S.leaks.length c9.2))
            have q10 : A10 < w9.heap.size := (Array.getElem?_eq_some_iff.1 p10).1
            have q11 : A11 < w9.heap.size := (Array.getElem?_eq_some_iff.1 p11).1
            have p10' : (row7 (row7 w9 A10 (.int .i64 R.ended.word) (.bool R.ended.trap) (.slice A4.1 R.ended.arrays.length A4.2) (.int .i64 R.err) (.int .i64 R.steps) (.int .i64 R.mode) (.slice c4.1 R.leaks.length c4.2)) A11 (.int .i64 S.ended.word) (.bool S.ended.trap) (.slice A9.1 S.ended.arrays.length A9.2) (.int .i64 S.err) (.int .i64 S.steps) (.int .i64 S.mode) (.slice c9.1 S.leaks.length c9.2)).heap[A10]? = some (.cells #[.int .i64 R.ended.word, .bool R.ended.trap, .slice A4.1 R.ended.arrays.length A4.2, .int .i64 R.err, .int .i64 R.steps, .int .i64 R.mode, .slice c4.1 R.leaks.length c4.2] 82 (0, 0)) := (row7_other (.int .i64 S.ended.word) (.bool S.ended.trap) (.slice A9.1 S.ended.arrays.length A9.2) (.int .i64 S.err) (.int .i64 S.steps) (.int .i64 S.mode) (.slice c9.1 S.leaks.length c9.2) d1).trans (row7_same p10)
            have p11' : (row7 (row7 w9 A10 (.int .i64 R.ended.word) (.bool R.ended.trap) (.slice A4.1 R.ended.arrays.length A4.2) (.int .i64 R.err) (.int .i64 R.steps) (.int .i64 R.mode) (.slice c4.1 R.leaks.length c4.2)) A11 (.int .i64 S.ended.word) (.bool S.ended.trap) (.slice A9.1 S.ended.arrays.length A9.2) (.int .i64 S.err) (.int .i64 S.steps) (.int .i64 S.mode) (.slice c9.1 S.leaks.length c9.2)).heap[A11]? = some (.cells #[.int .i64 S.ended.word, .bool S.ended.trap, .slice A9.1 S.ended.arrays.length A9.2, .int .i64 S.err, .int .i64 S.steps, .int .i64 S.mode, .slice c9.1 S.leaks.length c9.2] 82 (0, 0)) := row7_same ((row7_other (.int .i64 R.ended.word) (.bool R.ended.trap) (.slice A4.1 R.ended.arrays.length A4.2) (.int .i64 R.err) (.int .i64 R.steps) (.int .i64 R.mode) (.slice c4.1 R.leaks.length c4.2) d2).trans p11)
            have zE : (row7 (row7 w9 A10 (.int .i64 R.ended.word) (.bool R.ended.trap) (.slice A4.1 R.ended.arrays.length A4.2) (.int .i64 R.err) (.int .i64 R.steps) (.int .i64 R.mode) (.slice c4.1 R.leaks.length c4.2)) A11 (.int .i64 S.ended.word) (.bool S.ended.trap) (.slice A9.1 S.ended.arrays.length A9.2) (.int .i64 S.err) (.int .i64 S.steps) (.int .i64 S.mode) (.slice c9.1 S.leaks.length c9.2)).heap.size = w9.heap.size := (row7_size _ A11 (.int .i64 S.ended.word) (.bool S.ended.trap) (.slice A9.1 S.ended.arrays.length A9.2) (.int .i64 S.err) (.int .i64 S.steps) (.int .i64 S.mode) (.slice c9.1 S.leaks.length c9.2)).trans (row7_size w9 A10 (.int .i64 R.ended.word) (.bool R.ended.trap) (.slice A4.1 R.ended.arrays.length A4.2) (.int .i64 R.err) (.int .i64 R.steps) (.int .i64 R.mode) (.slice c4.1 R.leaks.length c4.2))
            have BE : Hid (Below wA.heap.size wA (row7 (row7 w9 A10 (.int .i64 R.ended.word) (.bool R.ended.trap) (.slice A4.1 R.ended.arrays.length A4.2) (.int .i64 R.err) (.int .i64 R.steps) (.int .i64 R.mode) (.slice c4.1 R.leaks.length c4.2)) A11 (.int .i64 S.ended.word) (.bool S.ended.trap) (.slice A9.1 S.ended.arrays.length A9.2) (.int .i64 S.err) (.int .i64 S.steps) (.int .i64 S.mode) (.slice c9.1 S.leaks.length c9.2))) := Lib.hid (row7_below (row7_below hB9 n_lo10 (.int .i64 R.ended.word) (.bool R.ended.trap) (.slice A4.1 R.ended.arrays.length A4.2) (.int .i64 R.err) (.int .i64 R.steps) (.int .i64 R.mode) (.slice c4.1 R.leaks.length c4.2)) n_lo11 (.int .i64 S.ended.word) (.bool S.ended.trap) (.slice A9.1 S.ended.arrays.length A9.2) (.int .i64 S.err) (.int .i64 S.steps) (.int .i64 S.mode) (.slice c9.1 S.leaks.length c9.2))
            have P10 := Lib.hid p10'
            have P11 := Lib.hid p11'
            have q10' : A10 < (row7 (row7 w9 A10 (.int .i64 R.ended.word) (.bool R.ended.trap) (.slice A4.1 R.ended.arrays.length A4.2) (.int .i64 R.err) (.int .i64 R.steps) (.int .i64 R.mode) (.slice c4.1 R.leaks.length c4.2)) A11 (.int .i64 S.ended.word) (.bool S.ended.trap) (.slice A9.1 S.ended.arrays.length A9.2) (.int .i64 S.err) (.int .i64 S.steps) (.int .i64 S.mode) (.slice c9.1 S.leaks.length c9.2)).heap.size := by omega
            have q11' : A11 < (row7 (row7 w9 A10 (.int .i64 R.ended.word) (.bool R.ended.trap) (.slice A4.1 R.ended.arrays.length A4.2) (.int .i64 R.err) (.int .i64 R.steps) (.int .i64 R.mode) (.slice c4.1 R.leaks.length c4.2)) A11 (.int .i64 S.ended.word) (.bool S.ended.trap) (.slice A9.1 S.ended.arrays.length A9.2) (.int .i64 S.err) (.int .i64 S.steps) (.int .i64 S.mode) (.slice c9.1 S.leaks.length c9.2)).heap.size := by omega
            clear zE p10' p11'
            clear hB9 r4 r9 d9_4_9 d9_4_10 d9_4_11 d9_9_10 d9_9_11 d9_10_11
            have l10 := fun j => box_loose p10 j
            have l11 := fun j => box_loose p11 j
            have k10 := fun j => cell_of_block p10 j
            have k11 := fun j => cell_of_block p11 j
            clear p10 p11
            have a0 := k10 0
            have a1 := k10 1
            have a2 := k10 2
            have a3 := k10 3
            have a4 := k10 4
            have a5 := k10 5
            have a6 := k10 6
            have e0 := k11 0
            have e1 := k11 1
            have e2 := k11 2
            have e3 := k11 3
            have e4 := k11 4
            have e5 := k11 5
            have e6 := k11 6
            simp at a0 a1 a2 a3 a4 a5 a6 e0 e1 e2 e3 e4 e5 e6
            clear k10 k11
            go_upto_region 15 with fail
            change (_ : Prop)
            generalize hwE : ((((((((((((((w9.setCell ⟨A10, 0, none⟩ (.int .i64 R.ended.word)).setCell ⟨A10, 1, none⟩ (.bool R.ended.trap)).setCell ⟨A10, 2, none⟩ (.slice A4.1 R.ended.arrays.length A4.2)).setCell ⟨A10, 3, none⟩ (.int .i64 R.err)).setCell ⟨A10, 4, none⟩ (.int .i64 R.steps)).setCell ⟨A10, 5, none⟩ (.int .i64 R.mode)).setCell ⟨A10, 6, none⟩ (.slice c4.1 R.leaks.length c4.2)).setCell ⟨A11, 0, none⟩ (.int .i64 S.ended.word)).setCell ⟨A11, 1, none⟩ (.bool S.ended.trap)).setCell ⟨A11, 2, none⟩ (.slice A9.1 S.ended.arrays.length A9.2)).setCell ⟨A11, 3, none⟩ (.int .i64 S.err)).setCell ⟨A11, 4, none⟩ (.int .i64 S.steps)).setCell ⟨A11, 5, none⟩ (.int .i64 S.mode)).setCell ⟨A11, 6, none⟩ (.slice c9.1 S.leaks.length c9.2)) = wE
            have hwE' : row7 (row7 w9 A10 (.int .i64 R.ended.word) (.bool R.ended.trap) (.slice A4.1 R.ended.arrays.length A4.2) (.int .i64 R.err) (.int .i64 R.steps) (.int .i64 R.mode) (.slice c4.1 R.leaks.length c4.2)) A11 (.int .i64 S.ended.word) (.bool S.ended.trap) (.slice A9.1 S.ended.arrays.length A9.2) (.int .i64 S.err) (.int .i64 S.steps) (.int .i64 S.mode) (.slice c9.1 S.leaks.length c9.2) = wE := hwE
            clear hwE
            rw [hwE'] at DR DS BE P10 P11 q10' q11'
            clear hwE' a0 a1 a2 a3 a4 a5 a6 e0 e1 e2 e3 e4 e5 e6 l10 l11
            have BWE := Lib.hid (HBA.out.trans (BE.out.mono sA'))
            obtain ⟨a4, n4⟩ := A4
            obtain ⟨k4, m4⟩ := c4
            obtain ⟨a9, n9⟩ := A9
            obtain ⟨k9, m9⟩ := c9
            dsimp only at DR DS P10 P11
            dsimp only
            obtain ⟨o1, o2, o3, o4, o5⟩ := PO.out
            rw [← o1, ← o2, ← o3, ← o4] at P11
            obtain ⟨er, lr⟩ := ran_parts DR.out.here
            obtain ⟨es, ls⟩ := ran_parts DS.out.here
            rw [← o3] at es
            rw [← o4] at ls
            have HML := Lib.hid o4
            have HLS := Lib.hid o5
            have LXR : Hid (∀ u, Below wE.heap.size wE u → (Go.Instr.loadAt 51 (.pointer (some ⟨A10, 0, none⟩))).run Try.prog u = .ok (.agg #[.int .i64 R.ended.word, .bool R.ended.trap, .slice a4 R.ended.arrays.length n4]) u) := Lib.hid (fun u hu => part_load2 Try.underlying51 (by kernel_rfl) rfl (by kernel_rfl) P10 part3 hu)
            have LXS : Hid (∀ u, Below wE.heap.size wE u → (Go.Instr.loadAt 51 (.pointer (some ⟨A11, 0, none⟩))).run Try.prog u = .ok (.agg #[.int .i64 R.ended.word, .bool R.ended.trap, .slice a9 R.ended.arrays.length n9]) u) := Lib.hid (fun u hu => part_load2 Try.underlying51 (by kernel_rfl) rfl (by kernel_rfl) P11 part3 hu)
            have CSE := Lib.hid (sameEnded_on R.ended _ _ wE er es)
            have HLR := Lib.hid lr
            have HLV := Lib.hid ls
            have f3r : wE.cell? ⟨A10, 3, none⟩ = some (.int .i64 R.err) := (cell_of_block P10.out 3).trans rfl
            have f3s : wE.cell? ⟨A11, 3, none⟩ = some (.int .i64 R.err) := (cell_of_block P11.out 3).trans rfl
            have f4r : wE.cell? ⟨A10, 4, none⟩ = some (.int .i64 R.steps) := (cell_of_block P10.out 4).trans rfl
            have f4s : wE.cell? ⟨A11, 4, none⟩ = some (.int .i64 R.steps) := (cell_of_block P11.out 4).trans rfl
            have f6r := Lib.hid (show wE.cell? ⟨A10, 6, none⟩ = some (.slice k4 R.leaks.length m4) from (cell_of_block P10.out 6).trans rfl)
            have f6s := Lib.hid (show wE.cell? ⟨A11, 6, none⟩ = some (.slice k9 R.leaks.length m9) from (cell_of_block P11.out 6).trans rfl)
            have gE : (R.err != R.err) = false := by simp
            have gS : (R.steps != R.steps) = false := by simp
            have gL : ((R.leaks.length : Int) != (R.leaks.length : Int)) = false := by simp
            clear o1 o2 o3 o4 o5 er lr es ls PO DR DS P10 P11 C1 C2 CW3 CD3 HBA HB5 BE
            go_upto_region 17 with (first | (refine wpList_load_boxg (by rfl) 51 (.tmp 93) rfl rfl (LXR.out _ (Below.refl _ _)) ?_) | (refine wpList_load_boxg (by rfl) 51 (.tmp 95) rfl rfl (LXS.out _ (Below.refl _ _)) ?_) | (go_at_call 24; refine CSE.out.mono ?_; rintro e w8 ⟨rfl, hb8⟩; have g6r := (hb8.cell (p := ⟨A10, 6, none⟩) q10').trans f6r.out; have g6s := (hb8.cell (p := ⟨A11, 6, none⟩) q11').trans f6s.out))
            have s8 := hb8.size
            have e0 := BWE.out.size
            have b8 : Below w.heap.size w w8 := BWE.out.trans (hb8.mono e0)
            replace HLR := Lib.hid (HLR.out.stays hb8)
            replace HLV := Lib.hid (HLV.out.stays hb8)
            have hq10 : A10 < w8.heap.size := by omega
            have hq11 : A11 < w8.heap.size := by omega
            clear BWE hb8 s8 e0 CSE LXR LXS f3r f3s f4r f4s f6r f6s gE gS gL q10' q11'
            generalize R.leaks = L at *
            generalize S.leaks = M at *
            have hLm : L.length ≤ 9223372036854775807 := by
              obtain ⟨us, h1, h2, h3⟩ := HLR.out
              obtain ⟨_, _, e, h4, h5⟩ := SL.form h2
              unfold maxLen at h5
              omega
            have sb8 := b8.size
            go_wp2_with fail
            go_loopw [112] (fun kk wr => ∃ k : Nat, k ≤ L.length ∧ kk = .int .i64 (k : Int) ∧ Below w8.heap.size w8 wr) (fun kk _ => L.length - (intOf kk).toNat)
            case atStart => exact ⟨0, by omega, rfl, by (repeat' first | with_reducible (first | exact Below.refl _ _ | assumption | refine Below.alloc ?_ ?_ _ | refine below_drewN ?_ _ | refine Below.drew ?_ | refine Below.setCell ?_ ?_ _ | refine Below.trans ?_ (Below.mono (by with_reducible assumption) ?_)) | go_size)⟩
            case round =>
              obtain ⟨k, hk, rfl, hB⟩ := hrel
              have sB := hB.size
              by_cases hkl : k < L.length
              case neg =>
                go_wp2_with fail
                go_ret
                exact ⟨rfl, by (repeat' first | with_reducible (first | exact Below.refl _ _ | assumption | refine Below.alloc ?_ ?_ _ | refine below_drewN ?_ _ | refine Below.drew ?_ | refine Below.setCell ?_ ?_ _ | refine Below.trans ?_ (Below.mono (by with_reducible assumption) ?_)) | go_size)⟩
              case pos =>
              obtain ⟨x, hx⟩ : ∃ x, L[k]? = some x := ⟨L[k], List.getElem?_eq_getElem hkl⟩
              obtain ⟨y, hy⟩ : ∃ y, M[k]? = some y := ⟨M[k]'(by rw [← HML.out]; exact hkl), List.getElem?_eq_getElem _⟩
              obtain ⟨b1, o1, r1, A1, c1, hv, hb1, p1, p2, p3, RA⟩ := RLeaks.row (HLR.out.stays hB) hx
              obtain ⟨hA, -, hcr⟩ := slice_inj hv
              clear hv
              subst hA hcr
              obtain ⟨b2, o2, r2, A2, c2, hv, hb2, q1, q2, q3, RB⟩ := RLeaks.row (HLV.out.stays hB) hy
              obtain ⟨hA, -, hcr⟩ := slice_inj hv
              clear hv
              subst hA hcr
              obtain ⟨l1, l2, l3, l4⟩ := HLS.out k x y hx hy
              rw [← l1] at q1
              rw [← l2] at q2
              have HIN := Lib.hid l4
              clear hx hy l1 l2 l4
              obtain ⟨_, _, e, ha1, ha2⟩ := SL.form RA
              obtain ⟨e1, -, e3⟩ := slice_inj e
              clear e
              subst e1 e3
              obtain ⟨_, _, e, hb3, hb4⟩ := SL.form RB
              obtain ⟨e1, -, e3⟩ := slice_inj e
              clear e
              subst e1 e3
              unfold maxLen at ha2 hb4
              have RA := Lib.hid RA
              have RB := Lib.hid RB
              have t6r := (hB.cell (p := ⟨A10, 6, none⟩) hq10).trans g6r
              have t6s := (hB.cell (p := ⟨A11, 6, none⟩) hq11).trans g6s
              have hq10w : A10 < wr.heap.size := by omega
              have hq11w : A11 < wr.heap.size := by omega
              go_upto_region 21 with fail
              have bX : Below wr.heap.size wr ((wr.alloc (.cells #[.int .i64 x.pc, .int .i64 x.op, .slice A1 x.vals.length c1] 72)).alloc (.cells #[.int .i64 x.pc, .int .i64 x.op, .slice A2 y.vals.length c2] 72)) := by (repeat' first | with_reducible (first | exact Below.refl _ _ | assumption | refine Below.alloc ?_ ?_ _ | refine below_drewN ?_ _ | refine Below.drew ?_ | refine Below.setCell ?_ ?_ _ | refine Below.trans ?_ (Below.mono (by with_reducible assumption) ?_)) | go_size)
              have HBX : Hid (((wr.alloc (.cells #[.int .i64 x.pc, .int .i64 x.op, .slice A1 x.vals.length c1] 72)).alloc (.cells #[.int .i64 x.pc, .int .i64 x.op, .slice A2 y.vals.length c2] 72)).heap[wr.heap.size]? = some (.cells #[.int .i64 x.pc, .int .i64 x.op, .slice A1 x.vals.length c1] 72 (0, 0))) := (box_on (box_new wr _) ((Below.refl _ _).alloc (Nat.le_refl _) _))
              have HBY : Hid (((wr.alloc (.cells #[.int .i64 x.pc, .int .i64 x.op, .slice A1 x.vals.length c1] 72)).alloc (.cells #[.int .i64 x.pc, .int .i64 x.op, .slice A2 y.vals.length c2] 72)).heap[wr.heap.size + 1]? = some (.cells #[.int .i64 x.pc, .int .i64 x.op, .slice A2 y.vals.length c2] 72 (0, 0))) := by
                have h := box_new (wr.alloc (.cells #[.int .i64 x.pc, .int .i64 x.op, .slice A1 x.vals.length c1] 72)) (.cells #[.int .i64 x.pc, .int .i64 x.op, .slice A2 y.vals.length c2] 72)
                rw [World.size_alloc] at h
                exact h
              replace RA := Lib.hid (SL.at_ RA.out bX (Nat.le_refl _))
              replace RB := Lib.hid (SL.at_ RB.out bX (Nat.le_refl _))
              have b9 := hB.trans (bX.mono sB)
              clear p1 p2 p3 q1 q2 q3 t6r t6s hq10w hq11w hB bX
              generalize ((wr.alloc (.cells #[.int .i64 x.pc, .int .i64 x.op, .slice A1 x.vals.length c1] 72)).alloc (.cells #[.int .i64 x.pc, .int .i64 x.op, .slice A2 y.vals.length c2] 72)) = wX at *
              have x0 : wX.cell? ⟨wr.heap.size, 0, none⟩ = some (.int .i64 x.pc) := box_cell HBX 0 rfl
              have x1 : wX.cell? ⟨wr.heap.size, 1, none⟩ = some (.int .i64 x.op) := box_cell HBX 1 rfl
              have x2 : wX.cell? ⟨wr.heap.size, 2, none⟩ = some (.slice A1 x.vals.length c1) := box_cell HBX 2 rfl
              have y0 : wX.cell? ⟨wr.heap.size + 1, 0, none⟩ = some (.int .i64 x.pc) := box_cell HBY 0 rfl
              have y1 : wX.cell? ⟨wr.heap.size + 1, 1, none⟩ = some (.int .i64 x.op) := box_cell HBY 1 rfl
              have y2 : wX.cell? ⟨wr.heap.size + 1, 2, none⟩ = some (.slice A2 y.vals.length c2) := box_cell HBY 2 rfl
              have gP : (x.pc != x.pc) = false := by simp
              have gO : (x.op != x.op) = false := by simp
              have gV : decide ((x.vals.length : Int) < (y.vals.length : Int)) = false := decide_eq_false (by omega)
              have zX := box_lt HBX
              have zY := box_lt HBY
              clear HBX HBY
              go_upto_region 23 with fail
              clear x0 x1 y0 y1 gP gO gV
              go_wp2_with fail
              go_loopw [146] (fun jj wz => ∃ j : Nat, j ≤ y.vals.length ∧ jj = .int .i64 (j : Int) ∧ wX = wz) (fun jj _ => y.vals.length - (intOf jj).toNat)
              case atStart => exact ⟨0, by omega, rfl, rfl⟩
              case round =>
                obtain ⟨j, hj, rfl, rfl⟩ := hrel
                by_cases hjl : j < y.vals.length
                case neg =>
                  go_wp2_with fail
                  go_roundw
                  case rel => exact ⟨k + 1, by omega, by go_num, b9⟩
                  case measure => simp [intOf]; omega
                case pos =>
                obtain ⟨n, hn⟩ : ∃ n, y.vals[j]? = some n := ⟨y.vals[j], List.getElem?_eq_getElem hjl⟩
                obtain ⟨b3, o3, r3, hv, hb3', _, _, _, z0⟩ := RInts.at_ RB.out hn
                obtain ⟨hA, -, hcr⟩ := slice_inj hv
                clear hv
                subst hA hcr
                have HNI := Lib.hid (HIN.out n (List.mem_of_getElem? hn))
                clear hn
                go_wp2_with fail
                go_loopw [153, 20] (fun mm bb wz => ∃ (m : Nat) (D : Bool), m ≤ x.vals.length ∧ mm = .int .i64 (m : Int) ∧ bb = .bool D ∧ Hid (n ∈ x.vals.take m → D = true) ∧ wX = wz) (fun mm _ _ => x.vals.length - (intOf mm).toNat)
                case atStart => exact ⟨0, false, by omega, rfl, rfl, Lib.hid (fun h => by simp at h), rfl⟩
                case round =>
                  obtain ⟨m, D, hm, rfl, rfl, HD, rfl⟩ := hrel
                  by_cases hml : m < x.vals.length
                  case neg =>
                    obtain rfl : m = x.vals.length := by omega
                    obtain rfl : D = true := HD.out (by rw [List.take_length]; exact HNI.out)
                    go_wp2_with fail
                    go_roundw
                    case rel => exact ⟨j + 1, by omega, by go_num, by first | rfl | trivial⟩
                    case measure => simp [intOf]; omega
                  case pos =>
                  obtain ⟨v, hv⟩ : ∃ v, x.vals[m]? = some v := ⟨x.vals[m], List.getElem?_eq_getElem hml⟩
                  obtain ⟨b4, o4, r4, he, hb4', _, _, _, z1⟩ := RInts.at_ RA.out hv
                  obtain ⟨hA, -, hcr⟩ := slice_inj he
                  clear he
                  subst hA hcr
                  have HTK := Lib.hid (show x.vals.take (m + 1) = x.vals.take m ++ [v] by rw [List.take_add_one, hv]; rfl)
                  clear hv
                  cases D with
                  | true =>
                    go_wp2_with fail
                    go_roundw
                    case rel => exact ⟨m + 1, true, by omega, by go_num, rfl, Lib.hid (fun _ => rfl), by first | rfl | trivial⟩
                    case measure => simp [intOf]; omega
                  | false =>
                    obtain ⟨q, hq⟩ : ∃ q, (v == n) = q := ⟨_, rfl⟩
                    have HQ := Lib.hid hq
                    go_wp2_with fail
                    go_roundw
                    case rel =>
                      refine ⟨m + 1, q, by omega, by go_num, by first | rfl | (rw [HQ.out]) | (simp only [HQ.out]), Lib.hid (fun h => ?_), by first | rfl | trivial⟩
                      rw [HTK.out, List.mem_append] at h
                      rcases h with h | h
                      · exact absurd (HD.out h) (by simp)
                      · simp at h
                        rw [← HQ.out, h]
                        exact beq_self_eq_true _
                    case measure => simp [intOf]; omega
  · have hw0 : (Ev.wrong t != 0) = true := by simpa using hwt
    clear hwt CD CR1 CR2 PM CLD
    go_wp2_with (first | (refine wpList_load_box rfl 29 _ rfl rfl (ldt _ HBr) ?_) | (go_at_call 18; refine (CW.out _).mono ?_; rintro e w4 ⟨rfl, hb4⟩))
    go_ret
    exact ⟨rfl, by have e0 := hwA3.out; have e1 := e0.size; (repeat' first | with_reducible (first | exact Below.refl _ _ | assumption | refine Below.alloc ?_ ?_ _ | refine below_drewN ?_ _ | refine Below.drew ?_ | refine Below.setCell ?_ ?_ _ | refine Below.trans ?_ (Below.mono (by with_reducible assumption) ?_)) | go_size)⟩
end Go.Proofs.Ytljcgcllhcdleaa
