import Derived.Test.YtpbflgemhcaooaaDoorPk16
import Derived.Test.YtpbflgemhcaooaaDoorPk31
import Derived.Test.YtpbflgemhcaooaaDoorPk32
import Derived.Test.YtpbflgemhcaooaaDoorPk4
import Derived.Deep.DeepCutAuto
import Derived.Test.YtpbflgemhcaooaaDoorPk8
import Derived.Test.YtpbflgemhcaooaaDoorProg
import Derived.Maps.RangeWalk
import Derived.Maps.OwnSet
import Derived.StringKeys
/- evlaw5.fn, evlaw5.alive. -/
namespace Ev
def ev0 : List UInt8 := [40, 102, 110, 32, 40, 40, 112, 117, 98, 32, 97, 41, 41, 32, 40, 40, 112, 117, 98, 32, 116, 32, 50, 41, 41, 32, 40, 112, 117, 116, 32, 116, 32, 49, 32, 40, 42, 32, 97, 32, 97, 41, 41, 32, 40, 114, 101, 116, 32, 40, 43, 32, 40, 97, 116, 32, 116, 32, 49, 41, 32, 49, 41, 41, 41]
def ev1 : List UInt8 := [40, 102, 110, 32, 40, 40, 112, 117, 98, 32, 97, 41, 41, 32, 40, 40, 112, 117, 98, 32, 116, 32, 50, 41, 41, 32, 40, 114, 101, 116, 32, 40, 97, 116, 32, 116, 32, 97, 41, 41, 41]
end Ev
namespace Go.Proofs.YtpbflgemhcaooaaDoor
open Go.RowKit
set_option linter.unusedSimpArgs false
set_option linter.unusedVariables false
theorem ev0_ok : (Ev.parseW Ev.ev0).2 = 0 := by kernel_rfl
theorem ev0_is : Ev.checkC (Ev.parseW Ev.ev0).1 = 0 := by kernel_rfl
theorem ev0_run : Ev.runE (Ev.parseW Ev.ev0).1 ⟨[5], [[0, 0]]⟩ = (⟨26, false, [[0, 25]]⟩, 0) := by kernel_rfl
theorem ev1_ok : (Ev.parseW Ev.ev1).2 = 0 := by kernel_rfl
theorem ev1_is : Ev.checkC (Ev.parseW Ev.ev1).1 = 0 := by kernel_rfl
theorem ev1_run : Ev.runE (Ev.parseW Ev.ev1).1 ⟨[2], [[0, 0]]⟩ = (⟨0, true, [[0, 0]]⟩, 0) := by kernel_rfl
theorem RFn.loose5 {w : World} {K : Nat → Prop} {v1 v2 v3 : Value} {f : Ev.Fn1} (h : RFn w K v1 v2 v3 f) (hk : ∀ k, K k → k < w.heap.size) : RFn w (fun k => k < w.heap.size) v1 v2 v3 f :=
  ⟨h.1, h.2.1, RStL.wide hk 10 _ _ h.2.2.1, fun a n c e => hk _ (h.2.2.2.1 a n c e), fun a n c e => hk _ (h.2.2.2.2 a n c e)⟩
theorem RFn.on5 {w w' : World} {v1 v2 v3 : Value} {f : Ev.Fn1} (h : RFn w (fun k => k < w.heap.size) v1 v2 v3 f) (hb : Below w.heap.size w w') : RFn w' (fun k => k < w'.heap.size) v1 v2 v3 f :=
  ⟨h.1.on hb, h.2.1.on hb, RStL.wide (fun k hk => Nat.lt_of_lt_of_le hk hb.size) 10 _ _ (RStL.keep hb.size (fun k _ hk => hb.block k hk) _ _ _ h.2.2.1), fun a n c e => Nat.lt_of_lt_of_le (h.2.2.2.1 a n c e) hb.size, fun a n c e => Nat.lt_of_lt_of_le (h.2.2.2.2 a n c e) hb.size⟩
set_option maxRecDepth 6000 in
set_option maxHeartbeats 3200000 in
theorem fn5_any (s : List UInt8) (w : World) (hv : Vars w) (hs : s.length ≤ 9223372036854775807) :
    Calls Tryd.prog 83 #[.string ⟨(s).toArray⟩] w fun e w' => ∃ v1 v2 v3, e = .returned (.agg #[v1, v2, v3]) ∧ RFn w' (fun k => w.heap.size ≤ k ∧ k < w'.heap.size) v1 v2 v3 (Ev.parseW s).1 ∧ Below w.heap.size w w' := by
  have CP := Lib.hid (fun u hu => refParseFn s u hu hs)
  have HV := Lib.hid hv
  clear hv
  go_enter Tryd.func83, Tryd.ntmps83
  go_upto_region 1 with fail
  have b1 : Below w.heap.size w (w.alloc (.cells #[.slice none 0 0, .slice none 0 0, .slice none 0 0] 25)) := (Below.refl _ _).alloc (Nat.le_refl _) _
  have r1 := heap_alloc_new w (.cells #[.slice none 0 0, .slice none 0 0, .slice none 0 0] 25)
  generalize w.alloc (.cells #[.slice none 0 0, .slice none 0 0, .slice none 0 0] 25) = w1 at *
  have HV1 := Lib.hid (HV.out.stays b1)
  have z1 := (Array.getElem?_eq_some_iff.1 r1).1
  have ZW1 := Lib.hid z1
  go_upto_region 2 with (go_at_call 14; refine (CP.out _ HV1.out).mono ?_; rintro e w2 ⟨v1, v2, v3, rfl, hr, hb2⟩; obtain ⟨A1, c1, rfl, _, _⟩ := SL.form hr.1; obtain ⟨A2, c2, rfl, _, _⟩ := SL.form hr.2.1; obtain ⟨A3, c3, rfl⟩ := hr.2.2.1.slice)
  have HR := Lib.hid hr
  have b3 : Below w2.heap.size w2 (w2.alloc (.cells #[.slice A1 (Ev.parseW s).1.params.length c1, .slice A2 (Ev.parseW s).1.arrays.length c2, .slice A3 (Ev.parseW s).1.body.length c3] 25)) := (Below.refl _ _).alloc (Nat.le_refl _) _
  have r3 := heap_alloc_new w2 (.cells #[.slice A1 (Ev.parseW s).1.params.length c1, .slice A2 (Ev.parseW s).1.arrays.length c2, .slice A3 (Ev.parseW s).1.body.length c3] 25)
  have r1' := (b3.block w.heap.size (Nat.lt_of_lt_of_le z1 hb2.size)).trans ((hb2.block w.heap.size z1).trans r1)
  have B13 : Below w.heap.size w _ := b1.trans ((hb2.mono b1.size).trans (b3.mono (Nat.le_trans b1.size hb2.size)))
  have HB := Lib.hid B13
  have s3 : w.heap.size < w2.heap.size := Nat.lt_of_lt_of_le z1 hb2.size
  have HB3 := Lib.hid b3
  clear hr b1 r1 z1 hb2 b3 B13
  generalize w2.alloc (.cells #[.slice A1 (Ev.parseW s).1.params.length c1, .slice A2 (Ev.parseW s).1.arrays.length c2, .slice A3 (Ev.parseW s).1.body.length c3] 25) = w3 at *
  have zr3 := (Array.getElem?_eq_some_iff.1 r3).1
  have R3 := Lib.hid r3
  have R1 := Lib.hid r1'
  clear r3 r1'
  go_wp2_with (first | (refine wpList_load_box rfl 25 _ rfl rfl (load_box Tryd.underlying25 (by kernel_rfl) (by rfl) (by kernel_rfl) (fun j v hj => (cell_of_block R3.out j).trans hj) zr3 (Below.refl _ _)) ?_) | (refine wpList_put_all (cells := #[.slice A1 (Ev.parseW s).1.params.length c1, .slice A2 (Ev.parseW s).1.arrays.length c2, .slice A3 (Ev.parseW s).1.body.length c3]) rfl 25 _ _ rfl rfl rfl R1.out rfl (by kernel_rfl) (by simp [Value.oneCell']) ?_; intro w4 hr4 hf4 hz4))
  have hl2 := load_whole Tryd.underlying25 (by kernel_rfl) (by rfl) (by kernel_rfl) hr4
  refine bodyPost_ret (v := .agg #[.slice A1 (Ev.parseW s).1.params.length c1, .slice A2 (Ev.parseW s).1.arrays.length c2, .slice A3 (Ev.parseW s).1.body.length c3]) (by simp [results, Tryd.f83, Sem.run_bind, asAddr, Act.put, hl2]) rfl ?_
  have s23 := HB3.out.size
  have sf := hf4.size
  have bl : ∀ k, w.heap.size < k → k < w2.heap.size → w4.heap[k]? = w2.heap[k]? := fun k h1 h2 => (hf4.block k (by omega) (by omega)).trans (HB3.out.block k h2)
  obtain ⟨h1, h2, h3, h4, h5⟩ := HR.out
  have kk : ∀ k, (w1.heap.size ≤ k ∧ k < w2.heap.size) → w4.heap[k]? = w2.heap[k]? := fun k hk => bl k (by have := ZW1.out; omega) hk.2
  refine ⟨_, _, _, rfl, ⟨SL.keep h1 h4 (by omega) (fun k hk _ => kk k hk), SL.keep h2 h5 (by omega) (fun k hk _ => kk k hk), ?_, ?_, ?_⟩, ?_⟩
  · exact RStL.wide (fun k hk => ⟨by have := ZW1.out; omega, by omega⟩) 10 _ _ (RStL.keep (by omega) (fun k hk _ => kk k hk) 10 _ _ h3)
  · exact fun a n c e => ⟨by have := (h4 a n c e).1; have := ZW1.out; omega, by have := (h4 a n c e).2; omega⟩
  · exact fun a n c e => ⟨by have := (h5 a n c e).1; have := ZW1.out; omega, by have := (h5 a n c e).2; omega⟩
  · exact ⟨hf4.os.trans HB.out.os, hf4.tape.trans HB.out.tape, hf4.output.trans HB.out.output, Nat.le_trans HB.out.size hf4.size, fun k hk => (hf4.block k (by have := HB.out.size; omega) (by omega)).trans (HB.out.block k hk)⟩
theorem lit_row {w : World} {k n : Nat} {cs : Array Value} {t : TypeId} {xs : List Value} (h : w.heap[k]? = some (.cells cs t (0, 0))) (hc : cs.toList = xs) (hn : xs.length = n) (hm : n ≤ maxLen) : SL w w.heap.size 1 (.slice (some ⟨k, 0, none⟩) n n) n xs := by
  refine ⟨by omega, some ⟨k, 0, none⟩, n, rfl, Nat.le_refl _, hm, fun e => (by cases e), fun _ => ⟨k, 0, rfl, (Array.getElem?_eq_some_iff.1 h).1, fun j u hu => ?_⟩⟩
  rw [Nat.zero_add]
  refine (cell_of_block h j).trans ?_
  rw [← hc] at hu
  simpa using hu
theorem right5 {s : List UInt8} (h : (Ev.parseW s).2 = 0) (k : Ev.checkC (Ev.parseW s).1 = 0) : Ev.RightF (Ev.parseW s).1 := Ev.right_of (Ev.parse_wf s h) k
/-- a run of what is given in literals -/
theorem run5 (P : Ev.Fn1) (x : Int) (R : Ev.Ended × Int) (hrun : Ev.runE P ⟨[x], [[0, 0]]⟩ = R) (hr : Ev.RightF P) (v1 v2 v3 : Value) (u : World) (h : RFn u (fun k => k < u.heap.size) v1 v2 v3 P) :
    Calls Tryd.prog 42 #[.agg #[v1, v2, v3], .agg #[.slice (some ⟨u.heap.size, 0, none⟩) 1 1, .slice (some ⟨u.heap.size + 1 + 1, 0, none⟩) 1 1]] (((u.alloc (.cells #[.int .i64 x] 3)).alloc (.cells #[.int .i64 0, .int .i64 0] 3)).alloc (.cells #[.slice (some ⟨u.heap.size + 1, 0, none⟩) 2 2] 46))
      fun e w' => ∃ va, e = .returned (.tuple #[.agg #[.int .i64 R.1.word, .bool R.1.trap, va], .int .i64 R.2]) ∧ RLists w' w'.heap.size va R.1.arrays ∧ Below u.heap.size u w' := by
  obtain ⟨n0, n1, n2, nz⟩ := three_boxes u #[.int .i64 x] #[.int .i64 0, .int .i64 0] #[.slice (some ⟨u.heap.size + 1, 0, none⟩) 2 2] 3 3 46
  have bb : Below u.heap.size u (((u.alloc (.cells #[.int .i64 x] 3)).alloc (.cells #[.int .i64 0, .int .i64 0] 3)).alloc (.cells #[.slice (some ⟨u.heap.size + 1, 0, none⟩) 2 2] 46)) := by (repeat' first | with_reducible (first | exact Below.refl _ _ | assumption | refine Below.alloc ?_ ?_ _ | refine below_drewN ?_ _ | refine Below.drew ?_ | refine Below.setCell ?_ ?_ _ | refine Below.trans ?_ (Below.mono (by with_reducible assumption) ?_)) | go_size)
  generalize (((u.alloc (.cells #[.int .i64 x] 3)).alloc (.cells #[.int .i64 0, .int .i64 0] 3)).alloc (.cells #[.slice (some ⟨u.heap.size + 1, 0, none⟩) 2 2] 46)) = w at *
  have hg : RGiven w w.heap.size (.agg #[.slice (some ⟨u.heap.size, 0, none⟩) 1 1, .slice (some ⟨u.heap.size + 1 + 1, 0, none⟩) 1 1]) ⟨[x], [[0, 0]]⟩ := by
    refine ⟨_, _, rfl, lit_row n0 rfl rfl (by decide), [.slice (some ⟨u.heap.size + 1, 0, none⟩) 2 2], rfl, lit_row n2 rfl rfl (by decide), fun k u' a hu ha => ?_⟩
    match k, hu, ha with
    | 0, hu, ha =>
      simp at hu ha
      subst hu ha
      exact lit_row n1 rfl rfl (by decide)
    | k + 1, hu, ha => simp at hu
  have := evRun_any P ⟨[x], [[0, 0]]⟩ v1 v2 v3 _ w _ (h.on5 bb) (fun k hk => hk) hr hg (by show 1 ≤ 1073741823; decide) (fun a ha => by simp at ha; subst ha; decide)
  rw [hrun] at this
  exact this.mono fun e w' ⟨va, h1, h2, h3⟩ => ⟨va, h1, h2, bb.trans (h3.mono bb.size)⟩
theorem arrays_lit (u : World) : Calls Tryd.prog 41 #[.slice (some ⟨u.heap.size + 1, 0, none⟩) 1 1] ((u.alloc (.cells #[.int .i64 1] 3)).alloc (.cells #[.slice (some ⟨u.heap.size, 0, none⟩) 1 1] 46))
      fun e w' => ∃ A c, e = .returned (.slice A 1 c) ∧ Below u.heap.size u w' := by
  have z : ∀ (v : World) (o : Obj), (v.alloc o).heap.size = v.heap.size + 1 := fun v o => by simp
  have n0 : ((u.alloc (.cells #[.int .i64 1] 3)).alloc (.cells #[.slice (some ⟨u.heap.size, 0, none⟩) 1 1] 46)).heap[u.heap.size]? = some (.cells #[.int .i64 1] 3 (0, 0)) :=
    (((Below.refl (u.alloc (.cells #[.int .i64 1] 3)).heap.size _).alloc (Nat.le_refl _) _).block u.heap.size (by simp)).trans (heap_alloc_new u _)
  have n1 : ((u.alloc (.cells #[.int .i64 1] 3)).alloc (.cells #[.slice (some ⟨u.heap.size, 0, none⟩) 1 1] 46)).heap[u.heap.size + 1]? = some (.cells #[.slice (some ⟨u.heap.size, 0, none⟩) 1 1] 46 (0, 0)) := by
    have := heap_alloc_new (u.alloc (.cells #[.int .i64 1] 3)) (.cells #[.slice (some ⟨u.heap.size, 0, none⟩) 1 1] 46)
    rw [z] at this
    exact this
  have bb : Below u.heap.size u ((u.alloc (.cells #[.int .i64 1] 3)).alloc (.cells #[.slice (some ⟨u.heap.size, 0, none⟩) 1 1] 46)) := by (repeat' first | with_reducible (first | exact Below.refl _ _ | assumption | refine Below.alloc ?_ ?_ _ | refine below_drewN ?_ _ | refine Below.drew ?_ | refine Below.setCell ?_ ?_ _ | refine Below.trans ?_ (Below.mono (by with_reducible assumption) ?_)) | go_size)
  generalize ((u.alloc (.cells #[.int .i64 1] 3)).alloc (.cells #[.slice (some ⟨u.heap.size, 0, none⟩) 1 1] 46)) = w at *
  refine (arrays_any [[1]] _ w ⟨[.slice (some ⟨u.heap.size, 0, none⟩) 1 1], rfl, lit_row n1 rfl rfl (by decide), fun k u' a hu ha => ?_⟩ (by decide) (fun a ha => by simp at ha; subst ha; decide)).mono fun e w' ⟨v', vs, h1, h2, h3⟩ => ?_
  · match k, hu, ha with
    | 0, hu, ha =>
      simp at hu ha
      subst hu ha
      exact lit_row n0 rfl rfl (by decide)
    | k + 1, hu, ha => simp at hu
  · obtain ⟨A, c, e1, _, _⟩ := SL.form (SL.of_own h2.outer)
    have hl : vs.length = 1 := h2.len
    rw [hl] at e1
    exact ⟨A, c, by rw [h1, e1], bb.trans (h3.mono bb.size)⟩
set_option maxRecDepth 40000 in
set_option maxHeartbeats 3200000 in
theorem alive5_any (w : World) (hv : Vars w) : Calls Tryd.prog 43 #[] w fun e w' => e = .returned (.bool true) ∧ Below w.heap.size w w' := by
  have HV := Lib.hid hv
  have C0 := Lib.hid (fun u hu => fn5_any Ev.ev0 u hu (by decide))
  have C1 := Lib.hid (fun u hu => fn5_any Ev.ev1 u hu (by decide))
  have D0 := Lib.hid (run5 (Ev.parseW Ev.ev0).1 5 _ ev0_run (right5 ev0_ok ev0_is))
  have D1 := Lib.hid (run5 (Ev.parseW Ev.ev1).1 2 _ ev1_run (right5 ev1_ok ev1_is))
  generalize (Ev.parseW Ev.ev0).1 = P0 at *
  generalize (Ev.parseW Ev.ev1).1 = P1 at *
  unfold Ev.ev0 at C0
  unfold Ev.ev1 at C1
  clear hv
  go_enter Tryd.func43, Tryd.ntmps43
  go_upto_region 1 with fail
  go_upto_region 2 with (first | (go_at_call 83; refine (C0.out _ HV.out).mono ?_; rintro e wa ⟨v1, v2, v3, rfl, hr, hba⟩; have HR := Lib.hid (hr.loose5 (fun k hk => hk.2)); have hsa := hba.size) | (go_at_call 42; refine (D0.out _ _ _ _ HR.out).mono ?_; rintro e wb ⟨va, rfl, ha, hbb⟩; have HL0 := Lib.hid ha; obtain ⟨vsq, hq1, hs, hq2⟩ := ha; obtain ⟨aa, ac, rfl, hq3, hq4⟩ := SL.form hs; clear hs hq1 hq2 hq3 hq4))
  have b0 := hba.trans (hbb.mono hsa)
  have bE : Below wb.heap.size wb (wb.alloc (.cells #[.int .i64 26, .bool false, .slice aa 1 ac] 52)) := (Below.refl _ _).alloc (Nat.le_refl _) _
  have rE := heap_alloc_new wb (.cells #[.int .i64 26, .bool false, .slice aa 1 ac] 52)
  have B1 := Lib.hid (b0.trans (bE.mono b0.size))
  have L1 := Lib.hid (HL0.out.at_ bE (Nat.le_refl _))
  change Hid (RLists _ _ (.slice aa 1 ac) [[0, 25]]) at L1
  clear hba hbb hsa b0 bE HL0 HR D0 C0
  generalize (wb.alloc (.cells #[.int .i64 26, .bool false, .slice aa 1 ac] 52)) = wE at *
  generalize wb.heap.size = eb at *
  have RE := Lib.hid rE
  have HV2 := Lib.hid (HV.out.stays B1.out)
  have zE := (Array.getElem?_eq_some_iff.1 rE).1
  clear rE
  go_upto_region 3 with (first | (go_at_call 83; refine (C1.out _ HV2.out).mono ?_; rintro e wc ⟨v4, v5, v6, rfl, hr, hba⟩; have HR := Lib.hid (hr.loose5 (fun k hk => hk.2)); have hsa := hba.size) | (go_at_call 42; refine (D1.out _ _ _ _ HR.out).mono ?_; rintro e wd ⟨va, rfl, ha, hbb⟩; have HL0 := Lib.hid ha; obtain ⟨vsq, hq1, hs, hq2⟩ := ha; obtain ⟨ab, ad, rfl, hq3, hq4⟩ := SL.form hs; clear hs hq1 hq2 hq3 hq4))
  have b0 := hba.trans (hbb.mono hsa)
  have bE : Below wd.heap.size wd (wd.alloc (.cells #[.int .i64 0, .bool true, .slice ab 1 ad] 52)) := (Below.refl _ _).alloc (Nat.le_refl _) _
  have rF := heap_alloc_new wd (.cells #[.int .i64 0, .bool true, .slice ab 1 ad] 52)
  have B2 := b0.trans (bE.mono b0.size)
  have HB2 := Lib.hid (B1.out.trans (B2.mono B1.out.size))
  have L2 := Lib.hid (L1.out.at_ B2 (Nat.le_refl _))
  have RE2 := (B2.block eb zE).trans RE.out
  clear hba hbb hsa b0 bE HL0 HR D1 C1 L1 RE HV2 B2
  generalize (wd.alloc (.cells #[.int .i64 0, .bool true, .slice ab 1 ad] 52)) = wF at *
  generalize wd.heap.size = fb at *
  have e0 := cell_of_block RE2 0
  have e1 := cell_of_block RE2 1
  have e2 := cell_of_block RE2 2
  have f1 := cell_of_block rF 1
  simp only [List.getElem?_toArray, List.getElem?_cons_zero, List.getElem?_cons_succ] at e0 e1 e2 f1
  have ze := (Array.getElem?_eq_some_iff.1 RE2).1
  have zf := (Array.getElem?_eq_some_iff.1 rF).1
  obtain ⟨vs, hl1, hl2, hl3⟩ := L2.out
  obtain ⟨b, o, c, e, hb, hq1, hq2, hc⟩ := SL.row hl2 (by decide)
  injection e with h1 h3 h2
  subst h1 h2
  clear h3 hq1 hq2
  obtain ⟨u, hu⟩ : ∃ u, vs[0]? = some u := ⟨vs[0]'(by rw [hl1]; decide), List.getElem?_eq_getElem _⟩
  have hc0 := hc 0 u hu
  have hru := hl3 0 u [0, 25] hu rfl
  obtain ⟨b', o', c', e', hb', hq1, hq2, hq3, hc1⟩ := RInts.at_ hru (k := 1) rfl
  subst e'
  clear hq1 hq2 hq3
  simp only [List.length_cons, List.length_nil, Nat.zero_add, Nat.reduceAdd, Nat.add_zero] at hc0 hc1
  have CF := Lib.hid (evFits_any [] [] ⟨[], []⟩ _ _ (.slice none 0 0) (.agg #[.slice none 0 0, .slice none 0 0]) wF (SL.nil_ wF wF.heap.size 3) (SL.nil_ wF wF.heap.size 3) ⟨none, 0, 0, rfl⟩ ⟨_, _, rfl, SL.nil_ _ _ _, [], rfl, SL.nil_ _ _ _, fun k u a h => by simp at h⟩ (by show 0 ≤ 1073741823; decide))
  change Hid (Calls _ _ _ _ fun e w' => e = .returned (.int .i64 0) ∧ Below wF.heap.size wF w') at CF
  have CA := Lib.hid (fun (u : World) => arrays_lit u)
  clear L2 hl1 hl2 hl3 hc hu hru RE2 rF
  go_wp2_with (first | (go_at_call 39; refine CF.out.mono ?_; rintro e wg ⟨rfl, hbg⟩) | (go_at_call 41; refine (CA.out _).mono ?_; rintro e wh ⟨vh, ch, rfl, hbh⟩))
  go_ret
  exact ⟨rfl, HB2.out.trans ((hbg.trans (hbh.mono hbg.size)).mono HB2.out.size)⟩
end Go.Proofs.YtpbflgemhcaooaaDoor
/- Maps with text keys in memory: what a block's map reads as, as a function of the key; looked up, set, deleted from, cleared. -/
namespace Go.Proofs.YtpbflgemhcaooaaDoor
open Go.RowKit
open Go.ChangeMaps (setBlock)
open Go.Maps (Keyed)
set_option linter.unusedSimpArgs false
set_option linter.unusedVariables false
def InS (p : List UInt8) : Prop := p.length ≤ 281474976710656
theorem str_inj {p q : List UInt8} (h : Value.string ⟨p.toArray⟩ = .string ⟨q.toArray⟩) : p = q := by
  injection h with h
  injection h with h
  simpa using h
theorem strK : Keyed Tryd.prog 9 := Go.Maps.string_keyed Tryd.underlying9
theorem key_str {p : List UInt8} (h : InS p) : keyOf Tryd.prog 9 (.string ⟨p.toArray⟩) = some (.string p) := WideMaps.keyOf_string_mk Tryd.underlying9 (by show p.toArray.size ≤ _; unfold InS at h; simp [maxLen]; omega)
abbrev SMapF := List UInt8 → Option Value
def smapPut (m : SMapF) (p : List UInt8) (v : Option Value) : SMapF := fun q => if q = p then v else m q
structure StrMap (es : Array MapEntry) (clock : Nat) (m : SMapF) : Prop where
  keys : ∀ x ∈ es.toList, ∃ p, x.key = .string ⟨p.toArray⟩ ∧ InS p
  stamped : Go.MapKept.Stamped es clock
  reads : ∀ p v, m p = some v ↔ ∃ x ∈ es.toList, x.key = .string ⟨p.toArray⟩ ∧ x.val = v
/-- the block b is a map that reads as m -/
def SMapIn (w : World) (b : Nat) (m : SMapF) : Prop := ∃ es clock, w.heap[b]? = some (.map es clock) ∧ StrMap es clock m
section
variable {es : Array MapEntry} {clock : Nat} {m : SMapF} {w w' : World} {b : Nat}
theorem StrMap.keyed (h : StrMap es clock m) : ∀ e ∈ es.toList, ∃ l, keyOf Tryd.prog 9 e.key = some l := fun e he => by
  obtain ⟨p, hp, h64⟩ := h.keys e he
  exact ⟨_, by rw [hp]; exact key_str h64⟩
theorem StrMap.pair (h : StrMap es clock m) : es.toList.Pairwise (fun x y => x.key ≠ y.key) := ((Go.MapKept.stamped_iff es clock).1 h.stamped).2.2
theorem StrMap.nil (clock : Nat) : StrMap #[] clock (fun _ => none) := ⟨fun x hx => by simp at hx, (Go.MapKept.stamped_iff _ _).2 ⟨fun x hx => by simp at hx, by simp, by simp⟩, fun p v => by simp⟩
theorem StrMap.at_ (h : StrMap es clock m) {x : MapEntry} {p : List UInt8} (hx : x ∈ es.toList) (hk : x.key = .string ⟨p.toArray⟩) : m p = some x.val := (h.reads p x.val).2 ⟨x, hx, hk, rfl⟩
theorem StrMap.none_ (h : StrMap es clock m) {p : List UInt8} (hn : ∀ x ∈ es.toList, x.key ≠ .string ⟨p.toArray⟩) : m p = none := by
  cases hm : m p with
  | none => rfl
  | some v => obtain ⟨x, hx, hk, _⟩ := (h.reads p v).1 hm; exact absurd hk (hn x hx)
theorem SMapIn.lt (h : SMapIn w b m) : b < w.heap.size := by obtain ⟨es, c, hb, _⟩ := h; exact (Array.getElem?_eq_some_iff.1 hb).1
theorem SMapIn.on (h : SMapIn w b m) (hb : Below w.heap.size w w') : SMapIn w' b m := by
  have hlt := h.lt
  obtain ⟨es, c, h1, h2⟩ := h
  exact ⟨es, c, (hb.block b hlt).trans h1, h2⟩
theorem SMapIn.same (h : SMapIn w b m) (hs : w'.heap[b]? = w.heap[b]?) : SMapIn w' b m := by
  obtain ⟨es, c, h1, h2⟩ := h
  exact ⟨es, c, hs.trans h1, h2⟩
theorem SMapIn.made (w : World) : SMapIn (w.alloc (.map #[] 0)) w.heap.size (fun _ => none) := ⟨#[], 0, heap_alloc_new w _, StrMap.nil 0⟩
/-- the world but for a map's block -/
def STurned (w w' : World) (b : Nat) : Prop := ∃ es clock es' clock', w.heap[b]? = some (.map es clock) ∧ w' = setBlock w b (.map es' clock')
theorem STurned.size (h : STurned w w' b) : w'.heap.size = w.heap.size := by obtain ⟨_, _, _, _, _, rfl⟩ := h; simp [setBlock]
theorem STurned.other (h : STurned w w' b) {c : Nat} (hc : c ≠ b) : w'.heap[c]? = w.heap[c]? := by
  obtain ⟨es, c1, es', c2, hb, rfl⟩ := h
  unfold setBlock
  simp only
  rw [Array.getElem?_setIfInBounds_ne (by omega)]
theorem STurned.grown (h : STurned w w' b) : w.grownBy w' (some b) := by
  have hs := h.size
  have ho := fun c hc => h.other (c := c) hc
  obtain ⟨es, c1, es', c2, hb, rfl⟩ := h
  exact ⟨rfl, rfl, rfl, by rw [hs]; exact Nat.le_refl _, fun i _ hi => ho i (fun e => hi (by rw [e]))⟩
theorem STurned.below (h : STurned w w' b) {B : Nat} (hB : B ≤ b) (hw : B ≤ w.heap.size) : Below B w w' := (Below.refl B w).grown h.grown hw (fun q hq => by injection hq with hq; omega)
theorem STurned.cell (h : STurned w w' b) {c o : Nat} (hc : c ≠ b) : w'.cell? ⟨c, o, none⟩ = w.cell? ⟨c, o, none⟩ := by
  unfold World.cell?
  dsimp only
  rw [h.other hc]
theorem STurned.frozen (h : STurned w w' b) {c o : Nat} (hc : c ≠ b) : w'.frozen? ⟨c, o, none⟩ = w.frozen? ⟨c, o, none⟩ := by
  unfold World.frozen?
  dsimp only
  rw [h.other hc]
theorem set_atS (w : World) (hb : b < w.heap.size) (o : Obj) : (setBlock w b o).heap[b]? = some o := by
  unfold setBlock
  simp [Array.getElem?_setIfInBounds_self_of_lt hb]
/-- looked up -/
theorem SMapIn.lookup (h : SMapIn w b m) {T e : TypeId} {z : Value} (ht : Tryd.prog.underlying T = some (.map 9 e)) (hz : (zeroValue e).run Tryd.prog w = .ok z w) {p : List UInt8} (hp : InS p) (ok : Bool) :
    (Go.Instr.lookup T (.map (some b)) (.string ⟨p.toArray⟩) ok).run Tryd.prog w = .ok (if ok then .tuple #[(m p).getD z, .bool (m p).isSome] else (m p).getD z) w := by
  obtain ⟨es, clock, hb, F⟩ := h
  rcases strK.find w (key_str hp) es.toList F.keyed with ⟨h1, h2⟩ | ⟨j, e0, h1, h2, h3⟩
  · rw [F.none_ h2]
    cases ok <;> simp [Go.Instr.lookup, run_underlying ht, Go.MapKept.run_getObj_map hb, strK.check w _ (key_str hp), h1, hz, Result.andThen]
  · rw [F.at_ (List.mem_of_getElem? h2) h3]
    cases ok <;> simp [Go.Instr.lookup, run_underlying ht, Go.MapKept.run_getObj_map hb, strK.check w _ (key_str hp), h1, Result.andThen]
/-- set -/
theorem StrMap.push (F : StrMap es clock m) {p : List UInt8} (hp : InS p) (hn : ∀ x ∈ es.toList, x.key ≠ .string ⟨p.toArray⟩) (v : Value) : StrMap (es.push ⟨.string ⟨p.toArray⟩, v, clock⟩) (clock + 1) (smapPut m p (some v)) := by
  refine ⟨fun x hx => ?_, Go.MapKept.stamped_push F.stamped hn, fun q u => ?_⟩
  · simp only [Array.toList_push, List.mem_append, List.mem_singleton] at hx
    rcases hx with hx | rfl
    · exact F.keys x hx
    · exact ⟨p, rfl, hp⟩
  · unfold smapPut
    simp only [Array.toList_push, List.mem_append, List.mem_singleton]
    by_cases hq : q = p
    · subst hq
      rw [if_pos rfl]
      refine ⟨fun h => ?_, fun ⟨x, hx, hk, hv⟩ => ?_⟩
      · injection h with h
        exact ⟨_, .inr rfl, rfl, h⟩
      · rcases hx with hx | rfl
        · exact absurd hk (hn x hx)
        · exact congrArg some hv
    · rw [if_neg hq, F.reads]
      refine ⟨fun ⟨x, hx, hk, hv⟩ => ⟨x, .inl hx, hk, hv⟩, fun ⟨x, hx, hk, hv⟩ => ?_⟩
      rcases hx with hx | rfl
      · exact ⟨x, hx, hk, hv⟩
      · replace hk := str_inj hk
        exact absurd hk.symm hq
theorem StrMap.set (F : StrMap es clock m) {p : List UInt8} {j : Nat} {e0 : MapEntry} (h2 : es.toList[j]? = some e0) (h3 : e0.key = .string ⟨p.toArray⟩) (hp : InS p) (v : Value) : StrMap (es.modify j (fun e => ⟨.string ⟨p.toArray⟩, v, e.born⟩)) clock (smapPut m p (some v)) := by
  have hj : es[j]? = some e0 := by simpa using h2
  have hl : (es.modify j (fun e => (⟨.string ⟨p.toArray⟩, v, e.born⟩ : MapEntry))).toList = es.toList.set j ⟨.string ⟨p.toArray⟩, v, e0.born⟩ := by
    rw [Array.toList_modify]
    exact Go.ChangeMaps.modify_eq_set _ _ _ _ h2
  have hs := Go.MapKept.stamped_modify F.stamped j (fun e => ⟨.string ⟨p.toArray⟩, v, e.born⟩) (fun _ _ => rfl) (fun e' _ he' => by rw [hj] at he'; injection he' with he'; rw [← he', h3])
  have hpw := ((Go.MapKept.stamped_iff _ _).1 hs).2.2
  have hin : (⟨.string ⟨p.toArray⟩, v, e0.born⟩ : MapEntry) ∈ (es.modify j (fun e => (⟨.string ⟨p.toArray⟩, v, e.born⟩ : MapEntry))).toList := by
    rw [hl]
    exact List.mem_set (List.getElem?_eq_some_iff.1 h2).1 _
  refine ⟨fun x hx => ?_, hs, fun q u => ?_⟩
  · rw [hl] at hx
    rcases List.mem_or_eq_of_mem_set hx with hx | rfl
    · exact F.keys x hx
    · exact ⟨p, rfl, hp⟩
  · unfold smapPut
    by_cases hq : q = p
    · subst hq
      rw [if_pos rfl]
      refine ⟨fun h => ?_, fun ⟨x, hx, hk, hv⟩ => ?_⟩
      · injection h with h
        exact ⟨_, hin, rfl, h⟩
      · have := Go.entry_eq_of_key hpw hx hin hk
        rw [this] at hv
        exact congrArg some hv
    · rw [if_neg hq, F.reads]
      refine ⟨fun ⟨x, hx, hk, hv⟩ => ?_, fun ⟨x, hx, hk, hv⟩ => ?_⟩
      · obtain ⟨i, hi⟩ := List.getElem?_of_mem hx
        have hne : j ≠ i := fun e => by
          subst e
          rw [h2] at hi
          injection hi with hi
          rw [← hi, h3] at hk
          replace hk := str_inj hk
          exact hq hk.symm
        refine ⟨x, ?_, hk, hv⟩
        rw [hl]
        exact List.mem_of_getElem? (i := i) (by rw [List.getElem?_set_ne hne]; exact hi)
      · rw [hl] at hx
        rcases List.mem_or_eq_of_mem_set hx with hx | rfl
        · exact ⟨x, hx, hk, hv⟩
        · replace hk := str_inj hk
          exact absurd hk.symm hq
theorem SMapIn.update (h : SMapIn w b m) {T e : TypeId} (ht : Tryd.prog.underlying T = some (.map 9 e)) {p : List UInt8} (hp : InS p) (v : Value) :
    ∃ w', (Go.Instr.mapUpdate T (.map (some b)) (.string ⟨p.toArray⟩) v).run Tryd.prog w = .ok () w' ∧ SMapIn w' b (smapPut m p (some v)) ∧ STurned w w' b := by
  have hlt := h.lt
  obtain ⟨es, clock, hb, F⟩ := h
  rcases strK.find w (key_str hp) es.toList F.keyed with ⟨h1, h2⟩ | ⟨j, e0, h1, h2, h3⟩
  · refine ⟨setBlock w b (.map (es.push ⟨.string ⟨p.toArray⟩, v, clock⟩) (clock + 1)), ?_, ⟨_, _, set_atS w hlt _, F.push hp h2 v⟩, ⟨es, clock, _, _, hb, rfl⟩⟩
    simp [Go.Instr.mapUpdate, run_underlying ht, Go.MapKept.run_getObj_map hb, strK.check w false (key_str hp), h1, Go.MapKept.run_setObj_map _ hb, Result.andThen, setBlock]
  · have hj : es[j]? = some e0 := by simpa using h2
    refine ⟨setBlock w b (.map (es.modify j (fun e => ⟨.string ⟨p.toArray⟩, v, e.born⟩)) clock), ?_, ⟨_, _, set_atS w hlt _, F.set h2 h3 hp v⟩, ⟨es, clock, _, _, hb, rfl⟩⟩
    simp [Go.Instr.mapUpdate, run_underlying ht, Go.MapKept.run_getObj_map hb, strK.check w false (key_str hp), h1, hj, h3, strK.stays w (key_str hp), Go.MapKept.run_setObj_map _ hb, Result.andThen, setBlock]
/-- deleted from -/
theorem StrMap.drop (F : StrMap es clock m) {p : List UInt8} {j : Nat} {e0 : MapEntry} (h2 : es.toList[j]? = some e0) (h3 : e0.key = .string ⟨p.toArray⟩) : StrMap (es.eraseIdxIfInBounds j) clock (smapPut m p none) := by
  have hjs : j < es.size := by have := (List.getElem?_eq_some_iff.1 h2).1; simpa using this
  have hl : (es.eraseIdxIfInBounds j).toList = es.toList.eraseIdx j := by
    unfold Array.eraseIdxIfInBounds
    rw [dif_pos hjs]
    simp
  refine ⟨fun x hx => ?_, Go.MapKept.stamped_erase F.stamped j, fun q u => ?_⟩
  · rw [hl] at hx
    exact F.keys x ((List.eraseIdx_sublist _ _).subset hx)
  · unfold smapPut
    rw [hl]
    by_cases hq : q = p
    · subst hq
      rw [if_pos rfl]
      refine ⟨(fun h => by cases h), fun ⟨x, hx, hk, _⟩ => ?_⟩
      exfalso
      obtain ⟨i, hne, hi⟩ := List.mem_eraseIdx_iff_getElem?.1 hx
      have hpw := F.pair
      rw [List.pairwise_iff_getElem] at hpw
      obtain ⟨il, ie⟩ := List.getElem?_eq_some_iff.1 hi
      obtain ⟨jl, je⟩ := List.getElem?_eq_some_iff.1 h2
      rcases Nat.lt_or_ge i j with h | h
      · exact hpw i j il jl h (by rw [ie, je, hk, h3])
      · exact hpw j i jl il (by omega) (by rw [ie, je, hk, h3])
    · rw [if_neg hq, F.reads]
      refine ⟨fun ⟨x, hx, hk, hv⟩ => ?_, fun ⟨x, hx, hk, hv⟩ => ⟨x, (List.eraseIdx_sublist _ _).subset hx, hk, hv⟩⟩
      obtain ⟨i, hi⟩ := List.getElem?_of_mem hx
      refine ⟨x, List.mem_eraseIdx_iff_getElem?.2 ⟨i, fun e => ?_, hi⟩, hk, hv⟩
      subst e
      rw [h2] at hi
      injection hi with hi
      rw [← hi, h3] at hk
      replace hk := str_inj hk
      exact hq hk.symm
theorem SMapIn.drop (h : SMapIn w b m) {T e : TypeId} (ht : Tryd.prog.underlying T = some (.map 9 e)) {p : List UInt8} (hp : InS p) (ty : TypeId) :
    ∃ w', (Builtin.delete_ #[T, 9] ty #[.map (some b), .string ⟨p.toArray⟩]).run Tryd.prog w = .ok (.tuple #[]) w' ∧ SMapIn w' b (smapPut m p none) ∧ STurned w w' b := by
  have hlt := h.lt
  obtain ⟨es, clock, hb, F⟩ := h
  rcases strK.find w (key_str hp) es.toList F.keyed with ⟨h1, h2⟩ | ⟨j, e0, h1, h2, h3⟩
  · refine ⟨setBlock w b (.map es clock), ?_, ⟨_, _, set_atS w hlt _, ?_⟩, ⟨es, clock, _, _, hb, rfl⟩⟩
    · simp [Builtin.delete_, run_underlying ht, Go.MapKept.run_getObj_map hb, strK.check w _ (key_str hp), h1, Go.MapKept.run_setObj_map _ hb, Result.andThen, setBlock]
    · have : smapPut m p none = m := by
        funext q
        unfold smapPut
        by_cases hq : q = p
        · rw [if_pos hq, hq, F.none_ h2]
        · rw [if_neg hq]
      rw [this]
      exact F
  · refine ⟨setBlock w b (.map (es.eraseIdxIfInBounds j) clock), ?_, ⟨_, _, set_atS w hlt _, F.drop h2 h3⟩, ⟨es, clock, _, _, hb, rfl⟩⟩
    simp [Builtin.delete_, run_underlying ht, Go.MapKept.run_getObj_map hb, strK.check w _ (key_str hp), h1, Go.MapKept.run_setObj_map _ hb, Result.andThen, setBlock]
/-- cleared -/
theorem SMapIn.clear (h : SMapIn w b m) {T e : TypeId} (ht : Tryd.prog.underlying T = some (.map 9 e)) (ty : TypeId) :
    ∃ w', (Builtin.clear_ #[T] ty #[.map (some b)]).run Tryd.prog w = .ok (.tuple #[]) w' ∧ SMapIn w' b (fun _ => none) ∧ STurned w w' b := by
  have hlt := h.lt
  obtain ⟨es, clock, hb, F⟩ := h
  refine ⟨setBlock w b (.map #[] clock), ?_, ⟨_, _, set_atS w hlt _, StrMap.nil clock⟩, ⟨es, clock, _, _, hb, rfl⟩⟩
  simp [Builtin.clear_, run_underlying ht, Go.MapKept.run_getObj_map hb, Go.MapKept.run_setObj_map _ hb, Result.andThen, setBlock]
end
/-! ### at the operation, for the walk -/
section
variable {ops : Array Oper} {rest : List Oper} {o : Oper} {a : Act} {w : World} {Q : Exit → Act → World → Prop}
theorem wpList_lookupS_at (hg : o.guard = none) (x y : Operand) (T : TypeId) (ok : Bool) (ho : o.op = Op.lookup T x y ok) {b : Nat} {p : List UInt8} {v : Value} (hx : a.eval x = .map (some b)) (hy : a.eval y = .string ⟨p.toArray⟩)
    (hr : (Go.Instr.lookup T (.map (some b)) (.string ⟨p.toArray⟩) ok).run Tryd.prog w = .ok v w) (hK : wpList Tryd.prog ops Q rest (a.put o.dst v) w) : wpList Tryd.prog ops Q (o :: rest) a w := by
  refine wpList_plain hg fun K' hK' => ?_
  unfold Oper.wp
  simp [execOp, ho, hx, hy, hr, Result.andThen]
  exact hK' _ _ hK
theorem wpList_lookupS_atg (hw : Region.wanted o (yielded ops a.tmps) = true) (x y : Operand) (T : TypeId) (ok : Bool) (ho : o.op = Op.lookup T x y ok) {b : Nat} {p : List UInt8} {v : Value} (hx : a.eval x = .map (some b)) (hy : a.eval y = .string ⟨p.toArray⟩)
    (hr : (Go.Instr.lookup T (.map (some b)) (.string ⟨p.toArray⟩) ok).run Tryd.prog w = .ok v w) (hK : wpList Tryd.prog ops Q rest (a.put o.dst v) w) : wpList Tryd.prog ops Q (o :: rest) a w := by
  refine wpList_step fun K' hK' => ?_
  rw [if_pos hw]
  unfold Oper.wp
  simp [execOp, ho, hx, hy, hr, Result.andThen]
  exact hK' _ _ hK
theorem wpList_updateS_at (hg : o.guard = none) (x y z : Operand) (T e : TypeId) (ho : o.op = Op.mapUpdate T x y z) (ht : Tryd.prog.underlying T = some (.map 9 e)) {b : Nat} {p : List UInt8} {v : Value} {m : SMapF} (hx : a.eval x = .map (some b)) (hy : a.eval y = .string ⟨p.toArray⟩) (hz : a.eval z = v)
    (hm : SMapIn w b m) (hp : InS p) (hK : ∀ w', SMapIn w' b (smapPut m p (some v)) → STurned w w' b → wpList Tryd.prog ops Q rest (a.put o.dst undef) w') : wpList Tryd.prog ops Q (o :: rest) a w := by
  refine wpList_plain hg fun K' hK' => ?_
  obtain ⟨w', hr, h1, h2⟩ := hm.update ht hp v
  unfold Oper.wp
  simp [execOp, ho, hx, hy, hz, hr, Result.andThen]
  exact hK' _ _ (hK w' h1 h2)
theorem wpList_deleteS_at (hg : o.guard = none) (x y : Operand) (T e : TypeId) (ho : o.op = Op.call { callee := Callee.builtin Builtin.delete, args := #[x, y], argTypes := #[T, 9] }) (ht : Tryd.prog.underlying T = some (.map 9 e)) {b : Nat} {p : List UInt8} {m : SMapF} (hx : a.eval x = .map (some b)) (hy : a.eval y = .string ⟨p.toArray⟩)
    (hm : SMapIn w b m) (hp : InS p) (hK : ∀ w', SMapIn w' b (smapPut m p none) → STurned w w' b → wpList Tryd.prog ops Q rest (a.put o.dst (.tuple #[])) w') : wpList Tryd.prog ops Q (o :: rest) a w := by
  refine wpList_plain hg fun K' hK' => ?_
  obtain ⟨w', hr, h1, h2⟩ := hm.drop ht hp o.type
  unfold Oper.wp
  simp [execOp, ho, resolve, invoke, builtin, hx, hy, hr, Result.andThen]
  exact hK' _ _ (hK w' h1 h2)
theorem wpList_clearS_at (hg : o.guard = none) (x : Operand) (T e : TypeId) (ho : o.op = Op.call { callee := Callee.builtin Builtin.clear, args := #[x], argTypes := #[T] }) (ht : Tryd.prog.underlying T = some (.map 9 e)) {b : Nat} {m : SMapF} (hx : a.eval x = .map (some b))
    (hm : SMapIn w b m) (hK : ∀ w', SMapIn w' b (fun _ => none) → STurned w w' b → wpList Tryd.prog ops Q rest (a.put o.dst (.tuple #[])) w') : wpList Tryd.prog ops Q (o :: rest) a w := by
  refine wpList_plain hg fun K' hK' => ?_
  obtain ⟨w', hr, h1, h2⟩ := hm.clear ht o.type
  unfold Oper.wp
  simp [execOp, ho, resolve, invoke, builtin, hx, hr, Result.andThen]
  exact hK' _ _ (hK w' h1 h2)
end
end Go.Proofs.YtpbflgemhcaooaaDoor
/- A range over a map with text keys, under way. -/
namespace Go.Proofs.YtpbflgemhcaooaaDoor
open Go.RowKit
open Go.ChangeMaps (setBlock)
open Go.Maps (Keyed)
set_option linter.unusedSimpArgs false
set_option linter.unusedVariables false
def SRangeIn (w : World) (b r : Nat) (m : SMapF) (left : List UInt8 → Bool) (cnt : Nat) : Prop := ∃ es clock since seen c0, w.heap[b]? = some (.map es clock) ∧ StrMap es clock m ∧ w.heap[r]? = some (.mapIter (some b) since seen c0) ∧ (∀ x ∈ es.toList, x.born < since) ∧ since ≤ c0 ∧ since ≤ clock ∧
  (∀ p, left p = true ↔ ∃ x ∈ es.toList, x.key = .string ⟨p.toArray⟩ ∧ seen.contains x.born = false) ∧ (leftOf es seen).size = cnt
section
variable {w w' : World} {b r : Nat} {m : SMapF} {left : List UInt8 → Bool} {cnt : Nat}
theorem SRangeIn.map (h : SRangeIn w b r m left cnt) : SMapIn w b m := by obtain ⟨es, clock, _, _, _, h1, h2, _⟩ := h; exact ⟨es, clock, h1, h2⟩
theorem SRangeIn.same (h : SRangeIn w b r m left cnt) (hb : w'.heap[b]? = w.heap[b]?) (hr : w'.heap[r]? = w.heap[r]?) : SRangeIn w' b r m left cnt := by
  obtain ⟨es, clock, since, seen, c0, h1, h2, h3, h4⟩ := h
  exact ⟨es, clock, since, seen, c0, hb.trans h1, h2, hr.trans h3, h4⟩
theorem SRangeIn.lt (h : SRangeIn w b r m left cnt) : r < w.heap.size := by obtain ⟨_, _, _, _, _, _, _, h3, _⟩ := h; exact (Array.getElem?_eq_some_iff.1 h3).1
theorem SRangeIn.ne (h : SRangeIn w b r m left cnt) : r ≠ b := by
  obtain ⟨_, _, _, _, _, h1, _, h3, _⟩ := h
  intro e
  rw [e, h1] at h3
  cases h3
theorem SMapIn.range (h : SMapIn w b m) {T e : TypeId} (ht : Tryd.prog.underlying T = some (.map 9 e)) :
    ∃ w' cnt, (Go.Instr.range T (.map (some b))).run Tryd.prog w = .ok (.pointer (some ⟨w.heap.size, 0, none⟩)) w' ∧ SRangeIn w' b w.heap.size m (fun p => (m p).isSome) cnt ∧ Below w.heap.size w w' ∧ w'.heap.size = w.heap.size + 1 := by
  have hlt := h.lt
  obtain ⟨es, clock, hb, F⟩ := h
  refine ⟨w.alloc (.mapIter (some b) clock #[] clock), _, run_range_map w T _ e b es clock ht hb, ⟨es, clock, clock, #[], clock, ?_, F, heap_alloc_new w _, ((Go.MapKept.stamped_iff es clock).1 F.stamped).1, Nat.le_refl _, Nat.le_refl _, fun p => ?_, rfl⟩, (Below.refl _ _).alloc (Nat.le_refl _) _, by simp⟩
  · exact (Below.block ((Below.refl w.heap.size w).alloc (Nat.le_refl _) _) b hlt).trans hb
  · rw [Option.isSome_iff_exists]
    refine ⟨fun ⟨v, hv⟩ => ?_, fun ⟨x, hx, hk, _⟩ => ⟨_, F.at_ hx hk⟩⟩
    obtain ⟨x, hx, hk, _⟩ := (F.reads p v).1 hv
    exact ⟨x, hx, hk, by simp⟩
theorem SRangeIn.next (h : SRangeIn w b r m left cnt) (ty : TypeId) :
    (cnt = 0 ∧ (∀ p, left p = false) ∧ (Go.Instr.next (.pointer (some ⟨r, 0, none⟩)) false ty).run Tryd.prog w = .ok (.tuple #[.bool false]) w) ∨
    ∃ p v w' cnt', InS p ∧ left p = true ∧ m p = some v ∧ (Go.Instr.next (.pointer (some ⟨r, 0, none⟩)) false ty).run Tryd.prog w = .ok (.tuple #[.bool true, .string ⟨p.toArray⟩, v]) w' ∧ SRangeIn w' b r m (fun q => left q && !decide (q = p)) cnt' ∧ cnt' < cnt ∧ w.grownBy w' (some r) ∧ w'.heap.size = w.heap.size ∧
      (Go.Instr.entry (.pointer (some ⟨r, 0, none⟩))).run Tryd.prog w' = .ok (.tuple #[.string ⟨p.toArray⟩, v]) w' := by
  have hne := h.ne
  obtain ⟨es, clock, since, seen, c0, hb, F, hr, hold, hsc, hsk, hl, rfl⟩ := h
  have hst := (Go.MapKept.stamped_iff es clock).1 F.stamped
  rcases run_next_at (P := Tryd.prog) w ty r b since c0 seen es clock hr hb hold hsc with ⟨h0, hrun⟩ | ⟨e, he, w1, hal, hrun⟩
  · refine Or.inl ⟨h0, fun p => ?_, hrun⟩
    cases hp : left p with
    | false => rfl
    | true =>
      obtain ⟨x, hx, _, hs⟩ := (hl p).1 hp
      rw [all_seen es seen h0 x hx] at hs
      cases hs
  · obtain ⟨hem, hes⟩ := mem_left he
    obtain ⟨p, hp, h64⟩ := F.keys e hem
    have hr1 : w1.heap[r]? = some (.mapIter (some b) since seen c0) := by rcases hal with rfl | rfl <;> exact hr
    have hb1 : w1.heap[b]? = some (.map es clock) := by rcases hal with rfl | rfl <;> exact hb
    have hset := Go.MapKept.heap_set (o' := .mapIter (some b) since (seen.push e.born) clock) hr1
    have hb' : (setBlock w1 r (.mapIter (some b) since (seen.push e.born) clock)).heap[b]? = some (.map es clock) := (hset.2 b (fun e1 => hne e1.symm)).trans hb1
    have hen := run_entry_at (P := Tryd.prog) _ r b since seen es clock e hset.1 hb' hem hst.2.1
    rw [hp] at hrun hen
    refine Or.inr ⟨p, e.val, _, _, h64, (hl p).2 ⟨e, hem, hp, hes⟩, F.at_ hem hp, hrun, ⟨es, clock, since, seen.push e.born, clock, hb', F, hset.1, hold, hsk, hsk, fun q => ?_, rfl⟩, left_shrinks es seen e he, ?_, ?_, hen⟩
    · rw [Bool.and_eq_true, Bool.not_eq_true', decide_eq_false_iff_not, hl]
      refine ⟨fun ⟨⟨x, hx, hk, hs⟩, hq⟩ => ⟨x, hx, hk, ?_⟩, fun ⟨x, hx, hk, hs⟩ => ⟨⟨x, hx, hk, ?_⟩, ?_⟩⟩
      · rw [contains_push, hs, Bool.false_or, beq_eq_false_iff_ne]
        intro hbe
        have := born_inj hst.2.1 hx hem hbe
        rw [this, hp] at hk
        replace hk := str_inj hk
        exact hq hk.symm
      · rw [contains_push, Bool.or_eq_false_iff] at hs
        exact hs.1
      · intro hq
        subst hq
        have := entry_eq_of_key hst.2.2 hx hem (hk.trans hp.symm)
        rw [contains_push, this] at hs
        simp at hs
    · rcases hal with rfl | rfl <;> exact ⟨rfl, rfl, rfl, by simp [setBlock], fun i _ hi => hset.2 i (fun e1 => hi (by rw [e1]))⟩
    · rcases hal with rfl | rfl <;> simp [setBlock]
end
/-! ### at the operation, for the walk -/
section
variable {ops : Array Oper} {rest : List Oper} {o : Oper} {a : Act} {w : World} {Q : Exit → Act → World → Prop}
theorem wpList_rangeS_at (hg : o.guard = none) (x : Operand) (T e : TypeId) (ho : o.op = Op.range T x) (ht : Tryd.prog.underlying T = some (.map 9 e)) {b : Nat} {m : SMapF} (hx : a.eval x = .map (some b)) (hm : SMapIn w b m)
    (hK : ∀ w' cnt, SRangeIn w' b w.heap.size m (fun p => (m p).isSome) cnt → Below w.heap.size w w' → w'.heap.size = w.heap.size + 1 → wpList Tryd.prog ops Q rest (a.put o.dst (.pointer (some ⟨w.heap.size, 0, none⟩))) w') : wpList Tryd.prog ops Q (o :: rest) a w := by
  refine wpList_plain hg fun K' hK' => ?_
  obtain ⟨w', cnt, hr, h1, h2, h3⟩ := hm.range ht
  unfold Oper.wp
  simp [execOp, ho, hx, hr, Result.andThen]
  exact hK' _ _ (hK w' cnt h1 h2 h3)
theorem wpList_nextS_at (hg : o.guard = none) (x : Operand) (ho : o.op = Op.next x false) {b r : Nat} {m : SMapF} {left : List UInt8 → Bool} {cnt : Nat} (hx : a.eval x = .pointer (some ⟨r, 0, none⟩)) (hm : SRangeIn w b r m left cnt)
    (hDone : cnt = 0 → (∀ p, left p = false) → wpList Tryd.prog ops Q rest (a.put o.dst (.tuple #[.bool false])) w)
    (hMore : ∀ p v w' cnt', InS p → left p = true → m p = some v → SRangeIn w' b r m (fun q => left q && !decide (q = p)) cnt' → cnt' < cnt → w.grownBy w' (some r) → w'.heap.size = w.heap.size → (Go.Instr.entry (.pointer (some ⟨r, 0, none⟩))).run Tryd.prog w' = .ok (.tuple #[.string ⟨p.toArray⟩, v]) w' →
      wpList Tryd.prog ops Q rest (a.put o.dst (.tuple #[.bool true, .string ⟨p.toArray⟩, v])) w') : wpList Tryd.prog ops Q (o :: rest) a w := by
  refine wpList_plain hg fun K' hK' => ?_
  unfold Oper.wp
  rcases hm.next o.type with ⟨h0, hl, hrun⟩ | ⟨p, v, w', cnt', h1, h2, h3, hrun, h4, h5, h6, h7, h8⟩
  · simp [execOp, ho, hx, hrun, Result.andThen]
    exact hK' _ _ (hDone h0 hl)
  · simp [execOp, ho, hx, hrun, Result.andThen]
    exact hK' _ _ (hMore p v w' cnt' h1 h2 h3 h4 h5 h6 h7 h8)
end
end Go.Proofs.YtpbflgemhcaooaaDoor
