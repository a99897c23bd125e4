import Derived.Test.YtpbflgemhcaooaaDoorPk40
import Derived.Test.YtpbflgemhcaooaaDoorPk32
/- EvalPublic: its walk. -/
namespace Go.Proofs.YtpbflgemhcaooaaDoor
open Go.RowKit
set_option linter.unusedSimpArgs false
set_option linter.unusedVariables false
theorem two_boxes (w : World) (c0 c1 : Array Value) (t0 t1 : TypeId) :
    ((w.alloc (.cells c0 t0)).alloc (.cells c1 t1)).heap[w.heap.size]? = some (.cells c0 t0 (0, 0)) ∧ ((w.alloc (.cells c0 t0)).alloc (.cells c1 t1)).heap[w.heap.size + 1]? = some (.cells c1 t1 (0, 0)) := by
  have z : ∀ (v : World) (o : Obj), (v.alloc o).heap.size = v.heap.size + 1 := fun v o => by simp
  refine ⟨(((Below.refl (w.alloc (.cells c0 t0)).heap.size _).alloc (Nat.le_refl _) _).block w.heap.size (by simp)).trans (heap_alloc_new w _), ?_⟩
  have := heap_alloc_new (w.alloc (.cells c0 t0)) (.cells c1 t1)
  rw [z] at this
  exact this
set_option maxRecDepth 8000 in
set_option maxHeartbeats 12800000 in
theorem evalPublic_walk (s : List UInt8) (g h : Ev.Given) (vg vh : Value) (w : World) (hv : Vars w) (hs : s.length ≤ 9223372036854775807) (hg : RGiven w w.heap.size vg g) (hh : RGiven w w.heap.size vh h)
    (hn : g.words.length + g.arrays.length + g.arrays.flatten.length ≤ 1048576) (hm : h.words.length + h.arrays.length + h.arrays.flatten.length ≤ 1048576) :
    Calls Tryd.prog 12 #[.string ⟨(s).toArray⟩, vg, vh] w fun e w' => e = .returned (.bool true) ∧ Below w.heap.size w w' := by
  have HV := Lib.hid hv
  have HG := Lib.hid hg
  have HH := Lib.hid hh
  have CP := Lib.hid (fun u hu => refParseFn s u hu hs)
  have HSM := Lib.hid (Ev.parse_sm s)
  have HWF := Lib.hid (Ev.parse_wf s)
  obtain ⟨er, her⟩ : ∃ er, (Ev.parseW s).2 = er := ⟨_, rfl⟩
  rw [her] at CP HWF
  generalize (Ev.parseW s).1 = f at *
  obtain ⟨vw, vx, rfl, hw, hx⟩ := hg
  obtain ⟨Aw, cw, rfl, _, _⟩ := SL.form hw
  obtain ⟨vs0, hxl, hxs, hxe⟩ := hx
  obtain ⟨Ax, cx, rfl, _, _⟩ := SL.form hxs
  clear hw hxl hxs hxe
  obtain ⟨vw', vx', rfl, hw, hx⟩ := hh
  obtain ⟨Bw, dw, rfl, _, _⟩ := SL.form hw
  obtain ⟨vs1, hxl, hxs, hxe⟩ := hx
  obtain ⟨Bx, dx, rfl, _, _⟩ := SL.form hxs
  have HNN := Lib.hid hn
  have HMM := Lib.hid hm
  clear hv her hw hxl hxs hxe hn hm
  obtain ⟨rG, rH⟩ := two_boxes w #[.slice Aw g.words.length cw, .slice Ax g.arrays.length cx] #[.slice Bw h.words.length dw, .slice Bx h.arrays.length dx] 49 49
  have bG : Below w.heap.size w ((w.alloc (.cells #[.slice Aw g.words.length cw, .slice Ax g.arrays.length cx] 49)).alloc (.cells #[.slice Bw h.words.length dw, .slice Bx h.arrays.length dx] 49)) := by (repeat' first | with_reducible (first | exact Below.refl _ _ | assumption | refine Below.alloc ?_ ?_ _ | refine below_drewN ?_ _ | refine Below.drew ?_ | refine Below.setCell ?_ ?_ _ | refine Below.trans ?_ (Below.mono (by with_reducible assumption) ?_)) | go_size)
  obtain ⟨wA, hwA⟩ : ∃ wA, ((w.alloc (.cells #[.slice Aw g.words.length cw, .slice Ax g.arrays.length cx] 49)).alloc (.cells #[.slice Bw h.words.length dw, .slice Bx h.arrays.length dx] 49)) = wA := ⟨_, rfl⟩
  have HWA := Lib.hid hwA
  rw [hwA] at bG rG rH
  have CA := Lib.hid (alive5_any wA (HV.out.stays bG))
  have RG := Lib.hid rG
  have RH := Lib.hid rH
  have BG := Lib.hid bG
  have zG := (Array.getElem?_eq_some_iff.1 rG).1
  have zH := (Array.getElem?_eq_some_iff.1 rH).1
  clear hwA bG rG rH
  go_enter Tryd.func12, Tryd.ntmps12
  go_upto_region 1 with fail
  rw [HWA.out]
  go_upto_region 3 with (go_at_call 43; refine CA.out.mono ?_; rintro e w1 ⟨rfl, hb1⟩)
  have B1 := Lib.hid (BG.out.trans (hb1.mono BG.out.size))
  have G1 := Lib.hid ((hb1.block _ zG).trans RG.out)
  have H1 := Lib.hid ((hb1.block _ zH).trans RH.out)
  have HV1 := Lib.hid (HV.out.stays B1.out)
  clear CA HWA BG RG RH zG zH hb1
  go_upto_region 4 with (go_at_call 14; refine (CP.out _ HV1.out).mono ?_; rintro e w2 ⟨v1, v2, v3, rfl, hr, hb2⟩; obtain ⟨D1, m1, rfl, hq1, hq2⟩ := SL.form hr.1; obtain ⟨D2, m2, rfl, hq3, hq4⟩ := SL.form hr.2.1; obtain ⟨D3, m3, rfl⟩ := hr.2.2.1.slice; clear hq1 hq2 hq3 hq4)
  have b3 : Below w2.heap.size w2 (w2.alloc (.cells #[.slice D1 f.params.length m1, .slice D2 f.arrays.length m2, .slice D3 f.body.length m3] 25)) := (Below.refl _ _).alloc (Nat.le_refl _) _
  have r3 := heap_alloc_new w2 (.cells #[.slice D1 f.params.length m1, .slice D2 f.arrays.length m2, .slice D3 f.body.length m3] 25)
  have HR := Lib.hid ((hr.loose5 (fun k hk => hk.2)).on5 b3)
  have hb23 := hb2.trans (b3.mono hb2.size)
  have HB := Lib.hid (B1.out.trans (hb23.mono B1.out.size))
  have G3 := Lib.hid ((hb23.block _ (Array.getElem?_eq_some_iff.1 G1.out).1).trans G1.out)
  have H3 := Lib.hid ((hb23.block _ (Array.getElem?_eq_some_iff.1 H1.out).1).trans H1.out)
  clear hr hb2 b3 CP HV HV1 hb23 G1 H1 B1
  generalize w2.alloc (.cells #[.slice D1 f.params.length m1, .slice D2 f.arrays.length m2, .slice D3 f.body.length m3] 25) = w3 at *
  generalize w2.heap.size = fb at *
  by_cases he : er = 0
  case neg =>
    have ge : (er != 0) = true := bne_iff_ne.2 he
    clear he
    go_wp2_with fail
    go_ret
    exact ⟨rfl, HB.out⟩
  case pos =>
  have HWB := Lib.hid (HWF.out he)
  subst he
  have R3 := Lib.hid r3
  have k0 := cell_of_block r3 0
  have k1 := cell_of_block r3 1
  have k2 := cell_of_block r3 2
  have g0 := cell_of_block G3.out 0
  have g1 := cell_of_block G3.out 1
  have h0 := cell_of_block H3.out 0
  have h1 := cell_of_block H3.out 1
  simp only [List.getElem?_toArray, List.getElem?_cons_zero, List.getElem?_cons_succ] at k0 k1 k2 g0 g1 h0 h1
  have zf := (Array.getElem?_eq_some_iff.1 r3).1
  have zg := (Array.getElem?_eq_some_iff.1 G3.out).1
  have zh := (Array.getElem?_eq_some_iff.1 H3.out).1
  have CK := Lib.hid (refCheck4 f _ _ _ w3 HR.out HWB.out (by have := HSM.out.params; omega) (by have := HSM.out.arrays; omega))
  clear r3 HWF
  by_cases hc : Ev.checkC f = 0
  case neg =>
    have gc : (Ev.checkC f != 0) = true := bne_iff_ne.2 hc
    generalize Ev.checkC f = ce at *
    clear hc
    go_wp2_with (go_at_call 16; refine CK.out.mono ?_; rintro e w4 ⟨rfl, hb4⟩)
    go_ret
    exact ⟨rfl, HB.out.trans (hb4.mono HB.out.size)⟩
  case pos =>
  have HRF := Lib.hid (Ev.right_of HWB.out hc)
  have HUA := Lib.hid (Ev.check_parts hc).2
  rw [hc] at CK
  clear hc
  have CF := Lib.hid (fun u (hu : Below w3.heap.size w3 u) => alike_any (Ev.vrs f.params) (Ev.vrs f.arrays) g h _ _ (.slice D3 f.body.length m3) _ _ u (HR.out.1.on hu).vrs (HR.out.2.1.on hu).vrs ⟨D3, f.body.length, m3, rfl⟩ (HG.out.at2 (HB.out.trans (hu.mono HB.out.size)) (Nat.le_refl _)) (HH.out.at2 (HB.out.trans (hu.mono HB.out.size)) (Nat.le_refl _)) (by have := HNN.out; omega) (by have := HMM.out; omega))
  cases hf : Ev.alike (Ev.vrs f.params) (Ev.vrs f.arrays) g h with
  | false =>
    rw [hf] at CF
    clear hf
    go_wp2_with (first | (go_at_call 16; refine CK.out.mono ?_; rintro e w4 ⟨rfl, hb4⟩; replace k0 := (hb4.cell (p := ⟨fb, 0, none⟩) zf).trans k0; replace k1 := (hb4.cell (p := ⟨fb, 1, none⟩) zf).trans k1; replace k2 := (hb4.cell (p := ⟨fb, 2, none⟩) zf).trans k2; replace g0 := (hb4.cell (p := ⟨w.heap.size, 0, none⟩) zg).trans g0; replace g1 := (hb4.cell (p := ⟨w.heap.size, 1, none⟩) zg).trans g1; replace h0 := (hb4.cell (p := ⟨w.heap.size + 1, 0, none⟩) zh).trans h0; replace h1 := (hb4.cell (p := ⟨w.heap.size + 1, 1, none⟩) zh).trans h1; have zf4 := Nat.lt_of_lt_of_le zf hb4.size; have zg4 := Nat.lt_of_lt_of_le zg hb4.size; have zh4 := Nat.lt_of_lt_of_le zh hb4.size) | (go_at_call 44; refine (CF.out _ hb4).mono ?_; rintro e w5 ⟨rfl, hb5⟩))
    go_ret
    exact ⟨rfl, HB.out.trans ((hb4.trans (hb5.mono hb4.size)).mono HB.out.size)⟩
  | true =>
  have HLAW := Lib.hid (Ev.secret_law HRF.out HUA.out hf)
  rw [hf] at CF
  clear hf
  go_upto_region 6 with (first | (go_at_call 16; refine CK.out.mono ?_; rintro e w4 ⟨rfl, hb4⟩; replace k0 := (hb4.cell (p := ⟨fb, 0, none⟩) zf).trans k0; replace k1 := (hb4.cell (p := ⟨fb, 1, none⟩) zf).trans k1; replace k2 := (hb4.cell (p := ⟨fb, 2, none⟩) zf).trans k2; replace g0 := (hb4.cell (p := ⟨w.heap.size, 0, none⟩) zg).trans g0; replace g1 := (hb4.cell (p := ⟨w.heap.size, 1, none⟩) zg).trans g1; replace h0 := (hb4.cell (p := ⟨w.heap.size + 1, 0, none⟩) zh).trans h0; replace h1 := (hb4.cell (p := ⟨w.heap.size + 1, 1, none⟩) zh).trans h1; have zf4 := Nat.lt_of_lt_of_le zf hb4.size; have zg4 := Nat.lt_of_lt_of_le zg hb4.size; have zh4 := Nat.lt_of_lt_of_le zh hb4.size) | (go_at_call 44; refine (CF.out _ hb4).mono ?_; rintro e w5 ⟨rfl, hb5⟩))
  have b35 := hb4.trans (hb5.mono hb4.size)
  replace k0 := (hb5.cell (p := ⟨fb, 0, none⟩) zf4).trans k0
  replace k1 := (hb5.cell (p := ⟨fb, 1, none⟩) zf4).trans k1
  replace k2 := (hb5.cell (p := ⟨fb, 2, none⟩) zf4).trans k2
  replace g0 := (hb5.cell (p := ⟨w.heap.size, 0, none⟩) zg4).trans g0
  replace g1 := (hb5.cell (p := ⟨w.heap.size, 1, none⟩) zg4).trans g1
  replace h0 := (hb5.cell (p := ⟨w.heap.size + 1, 0, none⟩) zh4).trans h0
  replace h1 := (hb5.cell (p := ⟨w.heap.size + 1, 1, none⟩) zh4).trans h1
  have zf5 := Nat.lt_of_lt_of_le zf4 hb5.size
  have zg5 := Nat.lt_of_lt_of_le zg4 hb5.size
  have zh5 := Nat.lt_of_lt_of_le zh4 hb5.size
  have HR5 := Lib.hid (HR.out.on5 b35)
  have HB5 := Lib.hid (HB.out.trans (b35.mono HB.out.size))
  have CR := Lib.hid (evRun_any f g _ _ _ _ w5 _ HR5.out (fun k hk => hk) HRF.out (HG.out.at2 HB5.out (Nat.le_refl _)) (by have := HNN.out; omega) (fun a ha => by have := Ev.mem_flat ha; have := HNN.out; omega))
  rw [HLAW.out.1] at CR
  clear hb4 hb5 b35 CK CF HR HB R3 G3 H3 zf zg zh zf4 zg4 zh4
  go_upto_region 7 with (go_at_call 42; refine CR.out.mono ?_; rintro e w6 ⟨va, rfl, ha, hb6⟩; have HL := Lib.hid ha; obtain ⟨vsq, hq1, hq, hq2⟩ := ha; obtain ⟨xa, xc, rfl, hq3, hq4⟩ := SL.form hq; clear hq hq1 hq2 hq3 hq4)
  have b7 : Below w6.heap.size w6 (w6.alloc (.cells #[.int .i64 (Ev.runE f g).1.word, .bool (Ev.runE f g).1.trap, .slice xa (Ev.runE f g).1.arrays.length xc] 52)) := (Below.refl _ _).alloc (Nat.le_refl _) _
  have r7 := heap_alloc_new w6 (.cells #[.int .i64 (Ev.runE f g).1.word, .bool (Ev.runE f g).1.trap, .slice xa (Ev.runE f g).1.arrays.length xc] 52)
  generalize (w6.alloc (.cells #[.int .i64 (Ev.runE f g).1.word, .bool (Ev.runE f g).1.trap, .slice xa (Ev.runE f g).1.arrays.length xc] 52)) = w7 at *
  have b57 := hb6.trans (b7.mono hb6.size)
  replace k0 := (b57.cell (p := ⟨fb, 0, none⟩) zf5).trans k0
  replace k1 := (b57.cell (p := ⟨fb, 1, none⟩) zf5).trans k1
  replace k2 := (b57.cell (p := ⟨fb, 2, none⟩) zf5).trans k2
  replace g0 := (b57.cell (p := ⟨w.heap.size, 0, none⟩) zg5).trans g0
  replace g1 := (b57.cell (p := ⟨w.heap.size, 1, none⟩) zg5).trans g1
  replace h0 := (b57.cell (p := ⟨w.heap.size + 1, 0, none⟩) zh5).trans h0
  replace h1 := (b57.cell (p := ⟨w.heap.size + 1, 1, none⟩) zh5).trans h1
  have zf7 := Nat.lt_of_lt_of_le zf5 b57.size
  have zg7 := Nat.lt_of_lt_of_le zg5 b57.size
  have zh7 := Nat.lt_of_lt_of_le zh5 b57.size
  have HB7 := Lib.hid (HB5.out.trans (b57.mono HB5.out.size))
  have L7 := Lib.hid (HL.out.at_ b7 (Nat.le_refl _))
  have HR7 := Lib.hid (HR5.out.on5 b57)
  have CS := Lib.hid (evRun_any f h _ _ _ _ w7 _ HR7.out (fun k hk => hk) HRF.out (HH.out.at2 HB7.out (Nat.le_refl _)) (by have := HMM.out; omega) (fun a ha => by have := Ev.mem_flat ha; have := HMM.out; omega))
  rw [HLAW.out.2.1] at CS
  have R7 := Lib.hid r7
  have Z7 := Lib.hid (Array.getElem?_eq_some_iff.1 r7).1
  clear b57 b7 hb6 HL HR5 CR r7 HB5 zf5 zg5 zh5
  generalize w6.heap.size = ea at *
  go_upto_region 8 with (go_at_call 42; refine CS.out.mono ?_; rintro e w8 ⟨va, rfl, ha, hb8⟩; have HL := Lib.hid ha; obtain ⟨vsq, hq1, hq, hq2⟩ := ha; obtain ⟨ya, yc, rfl, hq3, hq4⟩ := SL.form hq; clear hq hq1 hq2 hq3 hq4)
  have b9 : Below w8.heap.size w8 (w8.alloc (.cells #[.int .i64 (Ev.runE f h).1.word, .bool (Ev.runE f h).1.trap, .slice ya (Ev.runE f h).1.arrays.length yc] 52)) := (Below.refl _ _).alloc (Nat.le_refl _) _
  have r9 := heap_alloc_new w8 (.cells #[.int .i64 (Ev.runE f h).1.word, .bool (Ev.runE f h).1.trap, .slice ya (Ev.runE f h).1.arrays.length yc] 52)
  generalize (w8.alloc (.cells #[.int .i64 (Ev.runE f h).1.word, .bool (Ev.runE f h).1.trap, .slice ya (Ev.runE f h).1.arrays.length yc] 52)) = w9 at *
  have b79 := hb8.trans (b9.mono hb8.size)
  replace k1 := (b79.cell (p := ⟨fb, 1, none⟩) zf7).trans k1
  have zf9 := Nat.lt_of_lt_of_le zf7 b79.size
  have HB9 := Lib.hid (HB7.out.trans (b79.mono HB7.out.size))
  have L9 := Lib.hid (L7.out.at_ b79 (Nat.le_refl _))
  have M9 := Lib.hid (HL.out.at_ b9 (Nat.le_refl _))
  have HR9 := Lib.hid (HR7.out.on5 b79)
  have rA := (b79.block ea Z7.out).trans R7.out
  have RA9 := Lib.hid rA
  have RC9 := Lib.hid r9
  have e1 := cell_of_block rA 1
  have e2 := cell_of_block rA 2
  have f1 := cell_of_block r9 1
  have f2 := cell_of_block r9 2
  simp only [List.getElem?_toArray, List.getElem?_cons_zero, List.getElem?_cons_succ] at e1 e2 f1 f2
  have ze := (Array.getElem?_eq_some_iff.1 rA).1
  have zc := (Array.getElem?_eq_some_iff.1 r9).1
  obtain ⟨_, _, q3, q4, q5, q6⟩ := HLAW.out
  have HPA := Lib.hid q6
  have Q4 := Lib.hid q4
  have Q5 := Lib.hid q5
  clear b79 b9 hb8 HL L7 HR7 CS rA r9 R7 Z7 HB7 HLAW q6 k0 k2 g0 g1 h0 h1 zf7 zg7 zh7
  generalize Ev.runE f g = E at *
  generalize Ev.runE f h = F at *
  generalize w8.heap.size = ec at *
  rw [← q3] at f1
  rw [q4] at e2
  rw [q5] at f2
  clear q3 q4 q5
  generalize E.1.trap = tr at *
  have hsm : f.arrays.length ≤ 1000000 := by have := HSM.out.arrays; omega
  go_upto_region 11 with fail
  go_loopw [81] (fun ii wr => ∃ i : Nat, i ≤ f.arrays.length ∧ ii = .int .i64 (i : Int) ∧ Hid (Below w9.heap.size w9 wr)) (fun ii _ => f.arrays.length - (intOf ii).toNat)
  case atStart => exact ⟨0, by omega, rfl, Lib.hid (Below.refl _ _)⟩
  case round =>
  obtain ⟨i, hi', rfl, HBR⟩ := hrel
  by_cases hlt : i < f.arrays.length
  case pos =>
    have HLT := Lib.hid hlt
    obtain ⟨p, hp⟩ : ∃ p, f.arrays[i]? = some p := ⟨_, List.getElem?_eq_getElem hlt⟩
    have HP := Lib.hid hp
    obtain ⟨ba, oa, rfl, hba, hpa⟩ : ∃ ba oa, D2 = some ⟨ba, oa, none⟩ ∧ ba < w9.heap.size ∧ ParsAt w9 ba oa f.arrays := by
      rcases (RPars.at_ HR9.out.2.1).2 with h | h
      · rw [h] at hlt; simp at hlt
      · exact h
    obtain ⟨p0, p1, p2⟩ := hpa i p hp
    replace p0 := (HBR.out.cell (p := ⟨ba, oa + i * 3, none⟩) hba).trans p0
    replace p1 := (HBR.out.cell (p := ⟨ba, oa + i * 3 + 1, none⟩) hba).trans p1
    replace p2 := (HBR.out.cell (p := ⟨ba, oa + i * 3 + 2, none⟩) hba).trans p2
    have zb : ba < wr.heap.size := Nat.lt_of_lt_of_le hba HBR.out.size
    clear hp hpa
    go_upto_region 13 with fail
    have b8 : Below wr.heap.size wr (wr.alloc (.cells #[.string ⟨p.name.toArray⟩, .bool p.secret, .int .i64 p.size] 35)) := (Below.refl _ _).alloc (Nat.le_refl _) _
    have a8 := heap_alloc_new wr (.cells #[.string ⟨p.name.toArray⟩, .bool p.secret, .int .i64 p.size] 35)
    generalize (wr.alloc (.cells #[.string ⟨p.name.toArray⟩, .bool p.secret, .int .i64 p.size] 35)) = wv at *
    have a81 := cell_of_block a8 1
    simp only [List.getElem?_toArray, List.getElem?_cons_zero, List.getElem?_cons_succ] at a81
    have B8 := Lib.hid (HBR.out.trans (b8.mono HBR.out.size))
    have za8 := (Array.getElem?_eq_some_iff.1 a8).1
    have e2v := (B8.out.cell (p := ⟨ea, 2, none⟩) ze).trans e2
    have f2v := (B8.out.cell (p := ⟨ec, 2, none⟩) zc).trans f2
    have zev := Nat.lt_of_lt_of_le ze B8.out.size
    have zcv := Nat.lt_of_lt_of_le zc B8.out.size
    obtain ⟨bg, og, cg, Ag, ng, hv, hbg, eg, RG⟩ := RLists.el L9.out (k := i) (by rw [Q4.out]; exact hlt)
    injection hv with hA hB hcr
    subst hA hcr
    obtain ⟨bh, oh, ch, Ah, nh, hv, hbh, eh, RH⟩ := RLists.el M9.out (k := i) (by rw [Q5.out]; exact hlt)
    injection hv with hA hB' hcr
    subst hA hcr
    have HSS := Lib.hid (HPA.out i p HP.out)
    have egv := (B8.out.cell (p := ⟨bg, og + i, none⟩) hbg).trans eg
    have ehv := (B8.out.cell (p := ⟨bh, oh + i, none⟩) hbh).trans eh
    have zbg := Nat.lt_of_lt_of_le hbg B8.out.size
    have zbh := Nat.lt_of_lt_of_le hbh B8.out.size
    have RGv := Lib.hid (SL.at_ RG B8.out (Nat.le_refl _))
    have RHv := Lib.hid (SL.at_ RH B8.out (Nat.le_refl _))
    clear b8 a8 p0 p1 p2 hB hB' RG RH eg eh e2 f2 e1 f1 k1
    generalize E.1.arrays.getD i [] = y at *
    generalize F.1.arrays.getD i [] = y' at *
    cases hsx : p.secret with
    | true =>
      rw [hsx] at a81
      clear hsx
      go_quiet (fail)
      go_wp2_with fail
      go_roundw
      case rel => exact ⟨i + 1, by have := HLT.out; omega, by go_num, Lib.hid (B8.out.trans (below_drewN (Below.refl _ _) _))⟩
      case measure => have := HLT.out; simp [intOf]; omega
    | false =>
      have hyy := HSS.out hsx
      have HD := Lib.hid (show decide (y = y') = true from decide_eq_true hyy)
      rw [hsx] at a81
      clear hsx hyy HSS
      go_quiet ((go_at_call 45; first | exact Calls.quiet_of (sameInts_is y y' _ _ (wv.drewN _) (SL.dr _ RGv.out) (SL.dr _ RHv.out) _ HD.out) | exact quiet_at (sameInts_is y y' _ _ (wv.drewN _) (SL.dr _ RGv.out) (SL.dr _ RHv.out) _ HD.out)))
      go_wp2_with fail
      go_roundw
      case rel => exact ⟨i + 1, by have := HLT.out; omega, by go_num, Lib.hid (B8.out.trans (below_drewN (Below.refl _ _) _))⟩
      case measure => have := HLT.out; simp [intOf]; omega
  case neg =>
    go_wp2_with fail
    go_ret
    exact ⟨rfl, HB9.out.trans (HBR.out.mono HB9.out.size)⟩
end Go.Proofs.YtpbflgemhcaooaaDoor
