import Derived.Test.YtpbflgemhcaooaaDoorPt23
import Derived.Test.YtpbflgemhcaooaaDoorPt19
import Derived.Test.YtpbflgemhcaooaaDoorPt37
import Derived.Maps.AppendAt
import Derived.Deep.DeepCutAuto
/- evref1's checker: statements. -/
namespace Ev
theorem wf_sn {t : St1} (h : WfS t) : t.name.length ≤ 6 := by
  have hn : ∀ s, nameOk s = true → s.length ≤ 6 := fun s hs => by
    unfold nameOk at hs
    simp only [Bool.and_eq_true, decide_eq_true_eq] at hs
    omega
  cases h with
  | let_ s b a h1 h2 => exact hn s h1
  | set_ s a h1 h2 => exact hn s h1
  | put s a c h1 h2 h3 => exact hn s h1
  | if_ a thn els h1 h2 h3 => exact Nat.zero_le _
  | for_ n s thn h1 h2 h3 h4 => exact hn s h3
  | ret a h1 => exact Nat.zero_le _
end Ev
namespace Go.Proofs.YtpbflgemhcaooaaDoor
open Go.RowKit
set_option linter.unusedSimpArgs false
set_option linter.unusedVariables false
theorem KAt.fr {w w' : World} {kb ab : Nat} {A : List Ev.Par} {k k' : Ev.LK} (h : KAt w kb ab A k) (hF : PFr kb w w') (hr : w'.heap[kb]? = some (.cells #[.map (some ab), .int .i64 k'.work, .int .i64 k'.lets] 99 (0, 0))) : KAt w' kb ab A k' :=
  ⟨hr, h.m.same (hF.block ab h.m.lt h.ne)⟩
theorem KAt.work {w : World} {kb ab : Nat} {A : List Ev.Par} {k : Ev.LK} (h : KAt w kb ab A k) (n : Int) : KAt (w.setCell ⟨kb, 1, none⟩ (.int .i64 n)) kb ab A ⟨n, k.lets⟩ := h.fr (PFr.put1 w kb 1 _) (heap_setCell_same w kb 1 _ _ _ h.r)
theorem KAt.lets {w : World} {kb ab : Nat} {A : List Ev.Par} {k : Ev.LK} (h : KAt w kb ab A k) (n : Int) : KAt (w.setCell ⟨kb, 2, none⟩ (.int .i64 n)) kb ab A ⟨k.work, n⟩ := h.fr (PFr.put1 w kb 2 _) (heap_setCell_same w kb 2 _ _ _ h.r)
/-- a map's block is not one with cells -/
theorem SMapIn.nb {w : World} {b g : Nat} {m : SMapF} (h : SMapIn w b m) {cs : Array Value} {T : TypeId} {z : Nat × Nat} (hr : w.heap[g]? = some (.cells cs T z)) : b ≠ g := fun e => by
  obtain ⟨es, c, h1, _⟩ := h
  rw [e, hr] at h1
  cases h1
theorem SRangeIn.left_eq {w : World} {b r : Nat} {m : SMapF} {left : List UInt8 → Bool} {cnt : Nat} (h : SRangeIn w b r m left cnt) : w.rangeLeft b r = cnt := by
  obtain ⟨es, clock, since, seen, c0, hb, _, hr, _, _, _, _, hc⟩ := h
  simp only [World.rangeLeft, hb, hr]
  exact hc
theorem fld0 (a b : Bool) (u : World) : (Instr.field 102 (.agg #[.bool a, .bool b]) 0).run Tryd.prog u = .ok (.bool a) u := by kernel_rfl
theorem fld1 (a b : Bool) (u : World) : (Instr.field 102 (.agg #[.bool a, .bool b]) 1).run Tryd.prog u = .ok (.bool b) u := by kernel_rfl
theorem name_had (l : List Ev.Par) (n : List UInt8) : (0 ≤ Ev.nameI l n) ↔ (Ev.findP l n).isSome = true := by
  rcases Ev.find_cases l n with ⟨h1, h2⟩ | ⟨m, p, h1, _, h3⟩
  · rw [h2]; simp; omega
  · rw [h3, h1]; simp
/-- what was copied up to now -/
def copyF (l : List Ev.Par) (left : List UInt8 → Bool) : SMapF := fun p => if left p = true then none else nmF l p
theorem copyF_put (l : List Ev.Par) (left : List UInt8 → Bool) (p : List UInt8) (v : Value) (h : nmF l p = some v) : smapPut (copyF l left) p (some v) = copyF l (fun q => left q && !decide (q = p)) := by
  funext q
  unfold smapPut copyF
  by_cases e : q = p
  · subst e
    simp [h]
  · simp [e]
theorem copyF_all (l : List Ev.Par) (left : List UInt8 → Bool) (h : ∀ p, left p = false) : copyF l left = nmF l := by
  funext q
  unfold copyF
  rw [h q, if_neg (by decide)]
theorem copyF_none (l : List Ev.Par) : copyF l (fun p => (nmF l p).isSome) = fun _ => none := by
  funext q
  unfold copyF
  cases h : nmF l q with
  | none => simp [h]
  | some v => simp [h]
def KBlDo (d : Nat) : Prop := ∀ (ts : List Ev.St1) (A l : List Ev.Par) (v : Value) (k : Ev.LK) (kb ab nb : Nat) (dark : Bool) (w : World) (K : Nat → Prop), (∀ j, K j → j ≠ kb ∧ j < w.heap.size) → KAt w kb ab A k → SMapIn w nb (nmF l) → RStL d w K v ts → (∀ t ∈ ts, Ev.WfS t) → Ev.CkOk l k →
  Calls Tryd.prog 59 #[.pointer (some ⟨kb, 0, none⟩), v, .map (some nb), .bool dark] w fun r w' => r = .returned (.int .i64 (Ev.blC A l dark k ts).1) ∧ PFr kb w w' ∧ ((Ev.blC A l dark k ts).1 = 0 → KAt w' kb ab A (Ev.blC A l dark k ts).2)
set_option maxRecDepth 8000 in
set_option maxHeartbeats 12800000 in
theorem kbl_step (d : Nat) (ih : ∀ d', d = d' + 1 → KBlDo d') : KBlDo d := by
  intro ts A l v k kb ab nb dark w K hK hk hl hr hw hc
  obtain ⟨a, c, rfl⟩ := hr.slice
  have hfew := hr.few
  obtain ⟨R, hR⟩ : ∃ R, Ev.blC A l dark k ts = R := ⟨_, rfl⟩
  rw [hR]
  have HE := Lib.hid hR
  have HKK := Lib.hid (show ∀ j, K j → j ≠ kb from fun j h => (hK j h).1)
  have HKL := Lib.hid (show ∀ j, K j → j < w.heap.size from fun j h => (hK j h).2)
  have HAB := Lib.hid (show ab < w.heap.size from hk.m.lt)
  have HR := Lib.hid hr
  have HW := Lib.hid hw
  have HK0 := Lib.hid hk
  have HL := Lib.hid hl
  have HC := Lib.hid hc
  have hnl := hl.lt
  have hkl := hk.lt
  clear hR hK hr hw hk hl hc
  have hmm := @run_makeMap Tryd.prog
  go_enter Tryd.func59, Tryd.ntmps59
  go_upto_region 2 with fail
  clear hmm
  have b1 : Below w.heap.size w (w.alloc (.map #[] 0)) := (Below.refl _ _).alloc (Nat.le_refl _) _
  have HM1 := Lib.hid (SMapIn.made w)
  have HL1 := Lib.hid (HL.out.on b1)
  have HB1 := Lib.hid b1
  have hs1 : (w.alloc (.map #[] 0)).heap.size = w.heap.size + 1 := by simp
  clear b1
  generalize w.alloc (.map #[] 0) = w1 at *
  go_upto_region 3 with (at_range; refine wpList_rangeS_at rfl _ 100 _ rfl Tryd.underlying100 rfl HL1.out ?_; intro w2 cnt2 hr2 hb2 hs2)
  have HM2 := Lib.hid (HM1.out.on hb2)
  have HB2 := Lib.hid (HB1.out.trans (hb2.mono HB1.out.size))
  have HR2 := Lib.hid hr2
  clear hr2 hb2 HM1 HL1 HB1
  obtain ⟨ri, hri⟩ : ∃ ri, w1.heap.size = ri := ⟨_, rfl⟩
  rw [hri] at HR2 hs2 hs1 ⊢
  clear hri
  obtain ⟨mb, hmb⟩ : ∃ mb, w.heap.size = mb := ⟨_, rfl⟩
  have HMB := Lib.hid hmb
  rw [hmb] at HM2 hs1 hnl hkl ⊢
  clear hmb
  have hrm : ri = mb + 1 := hs1
  have HRM := Lib.hid hrm
  clear hrm hs1 hs2
  simp only [Act.put, List.setIfInBounds_toArray, List.set_cons_zero, List.set_cons_succ]
  go_loopw [31] (fun _ wy => ∃ (left : List UInt8 → Bool) (cnt : Nat), Hid (SRangeIn wy nb ri (nmF l) left cnt) ∧ Hid (SMapIn wy mb (copyF l left)) ∧ Hid (Below w.heap.size w wy)) (fun _ wy => wy.rangeLeft nb ri)
  case atStart => exact ⟨_, _, HR2, Lib.hid (by rw [copyF_none]; exact HM2.out), HB2⟩
  case round =>
  clear HR2 HM2 HB2
  obtain ⟨left, cnt, HRg, HMy, HBy⟩ := hrel
  go_wp2_with (at_next; refine wpList_nextS_at rfl _ rfl rfl HRg.out ?_ ?_)
  case refine_2 =>
    intro p v w6 cnt6 hps hlp hmp hr6 hlt6 hg6 hs6 hen
    obtain ⟨q, hq, rfl⟩ : ∃ q, Ev.findP l p = some q ∧ v = vV q := by
      unfold nmF at hmp
      cases hq : Ev.findP l p with
      | none => rw [hq] at hmp; cases hmp
      | some q => rw [hq] at hmp; injection hmp with hmp; exact ⟨q, rfl, hmp.symm⟩
    have HPUT := Lib.hid (copyF_put l left p (vV q) hmp)
    have hwm1 : w.heap.size ≤ mb := Nat.le_of_eq HMB.out
    have hwm2 : mb ≤ w.heap.size := Nat.le_of_eq HMB.out.symm
    have hrm : mb < ri := by have := HRM.out; omega
    have hrl := HRg.out.lt
    have hml := HMy.out.lt
    have HM6 := Lib.hid (HMy.out.same (hg6.block mb hml (fun e => by injection e with e; omega)))
    have HB6 := Lib.hid (HBy.out.grown hg6 HBy.out.size (fun k hk => by injection hk with hk; omega))
    have HPS := Lib.hid hps
    have HR6 := Lib.hid hr6
    have HEN := Lib.hid (hr6.left_eq)
    have HEL := Lib.hid (HRg.out.left_eq)
    have hsz6 := HB6.out.size
    unfold vV at hen
    clear hps hlp hmp hr6 hg6 hs6 hq
    go_wp2_with (at_mapUpdate; refine wpList_updateS_at rfl _ _ _ 100 _ rfl Tryd.underlying100 rfl rfl rfl (HM6.out.on (by (repeat' first | with_reducible (first | exact Below.refl _ _ | assumption | refine Below.alloc ?_ ?_ _ | refine below_drewN ?_ _ | refine Below.drew ?_ | refine Below.setCell ?_ ?_ _ | refine Below.trans ?_ (Below.mono (by with_reducible assumption) ?_)) | go_size))) HPS.out ?_; intro w7 hm7 ht7)
    have b6 : Below w6.heap.size w6 (w6.alloc (.cells #[.bool q.secret, .bool (decide (q.size < 0))] 102)) := (Below.refl _ _).alloc (Nat.le_refl _) _
    have HM7 := Lib.hid (show SMapIn w7 mb (copyF l (fun x => left x && !decide (x = p))) by rw [← HPUT.out]; exact hm7)
    have HR7 := Lib.hid (HR6.out.same ((ht7.other (c := nb) (by omega)).trans (b6.block nb (by omega))) ((ht7.other (c := ri) (by omega)).trans (b6.block ri HR6.out.lt)))
    have HB7 := Lib.hid ((HB6.out.trans (b6.mono HB6.out.size)).trans (ht7.below (B := w.heap.size) (by omega) (Nat.le_trans HB6.out.size b6.size)))
    have HE7 := Lib.hid HR7.out.left_eq
    clear hm7 ht7 hen b6
    go_frame
    go_roundw
    case rel => exact ⟨_, cnt6, HR7, HM7, HB7⟩
    case measure => rw [HE7.out, HEL.out]; exact hlt6
  case refine_1 =>
  intro _ hl0
  have HIN := Lib.hid (show SMapIn wr mb (nmF l) by have h := HMy.out; rw [copyF_all l left hl0] at h; exact h)
  have HFB := Lib.hid (show PFr kb w wr from PFr.of HBy.out)
  have HKA := Lib.hid (HK0.out.on HBy.out)
  have HRA := Lib.hid (RStL.on HR.out HBy.out)
  clear hl0 HRg HMy HBy HK0 HL HR
  go_upto_region 7 with fail
  go_loopw [41] (fun ii wy => ∃ (i : Nat) (li : List Ev.Par) (ki : Ev.LK), i ≤ ts.length ∧ ii = .int .i64 (i : Int) ∧ Hid (SMapIn wy mb (nmF li)) ∧ Hid (KAt wy kb ab A ki) ∧ Hid (Ev.CkOk li ki) ∧ Hid (Ev.blC A li dark ki (ts.drop i) = R) ∧ Hid (PFr kb w wy) ∧ Hid (RStL d wy K (.slice a ts.length c) ts)) (fun ii _ => ts.length - (intOf ii).toNat)
  case atStart => exact ⟨0, l, k, by omega, rfl, HIN, HKA, HC, Lib.hid (by rw [List.drop_zero]; exact HE.out), HFB, HRA⟩
  case round =>
  clear HIN HKA HC HFB HRA
  obtain ⟨i, li, ki, hi, rfl, HIN, HKI, HCI, HBI, HFI, HRI⟩ := hrel
  by_cases hlt : i < ts.length
  case neg =>
    have HX := Lib.hid (show (0, ki) = R by
      rw [← HBI.out, List.drop_eq_nil_of_le (by omega), Ev.blC_nil])
    go_wp2_with fail
    go_ret
    refine ⟨by rw [← HX.out]; rfl, HFI.out, fun h => ?_⟩
    rw [← HX.out]
    exact HKI.out
  case pos =>
  obtain ⟨t, ht⟩ : ∃ t, ts[i]? = some t := ⟨_, List.getElem?_eq_getElem hlt⟩
  obtain ⟨d', b, off, c', x, hd, hva, hKb, hst, hpt⟩ := HRI.out.el ht
  obtain ⟨h1, h2⟩ := slice_two hva
  clear hva
  subst h1 h2
  have hdr : ts.drop i = t :: ts.drop (i + 1) := by
    rw [List.getElem?_eq_getElem hlt] at ht
    injection ht with ht
    rw [← ht]
    exact List.drop_eq_getElem_cons hlt
  have HWT := Lib.hid (Ev.wf_st (HW.out t (List.mem_of_getElem? ht)))
  have HNA := Lib.hid (Ev.wf_sn (HW.out t (List.mem_of_getElem? ht)))
  have HB2 : (if (Ev.stC A li dark ki t).1.2 ≠ 0 then ((Ev.stC A li dark ki t).1.2, (Ev.stC A li dark ki t).2) else Ev.blC A (Ev.stC A li dark ki t).1.1 dark (Ev.stC A li dark ki t).2 (ts.drop (i + 1))) = R := by
    rw [← HBI.out, hdr, Ev.blC_cons]
  have HCN := fun e => ck_next (A := A) (dark := dark) (t := t) HCI.out e
  obtain ⟨wk, lt⟩ := ki
  obtain ⟨hc1, hc2, hc3, hc4, hc5⟩ := HCI.out
  dsimp only at hc1 hc2 hc3 hc4 hc5
  obtain ⟨Z, hZ⟩ : ∃ Z, Ev.stC A li dark ⟨wk, lt⟩ t = Z := ⟨_, rfl⟩
  have HZ := Lib.hid ((Ev.stC_eq A li dark ⟨wk, lt⟩ t).symm.trans hZ)
  rw [hZ] at HB2 HCN
  have HBAD := Lib.hid (show ∀ (e : Int) (k' : Ev.LK), Z = (([], e), k') → e ≠ 0 → (e, k') = R from fun e k' h he => by
    rw [← HB2, h, if_pos he])
  have HGOOD := Lib.hid (show ∀ (l' : List Ev.Par) (k' : Ev.LK), Z = ((l', 0), k') → Ev.blC A l' dark k' (ts.drop (i + 1)) = R ∧ Ev.CkOk l' k' from fun l' k' h => by
    rw [h] at HB2 HCN
    exact ⟨by rw [← HB2, if_neg (by simp)], HCN rfl⟩)
  have HLT := Lib.hid hlt
  have HIH := Lib.hid (ih d' hd)
  obtain ⟨x4, x5, x6⟩ := x
  obtain ⟨e4, f4, rfl⟩ := hpt.1.form
  obtain ⟨e5, f5, rfl⟩ := hpt.2.1.slice
  obtain ⟨e6, f6, rfl⟩ := hpt.2.2.slice
  have HPT := Lib.hid hpt
  obtain ⟨hbl, y0, y1, y2, y3, y4, y5, y6⟩ := hst
  dsimp only at y4 y5 y6
  have hfew2 : t.args.length ≤ 2 := HWT.out.few
  clear ht hd hpt hKb hdr HB2 HCN hZ HBI HCI
  go_upto_region 9 with fail
  have b4 : Below wr.heap.size wr (wr.alloc (.cells #[.int .i64 t.kind, .int .i64 t.n, .string ⟨t.name.toArray⟩, .bool t.secret, .slice e4 t.args.length f4, .slice e5 t.thn.length f5, .slice e6 t.els.length f6] 109)) := (Below.refl _ _).alloc (Nat.le_refl _) _
  have r4 := heap_alloc_new wr (.cells #[.int .i64 t.kind, .int .i64 t.n, .string ⟨t.name.toArray⟩, .bool t.secret, .slice e4 t.args.length f4, .slice e5 t.thn.length f5, .slice e6 t.els.length f6] 109)
  have K4 := Lib.hid (HKI.out.on b4)
  have N4 := Lib.hid (HIN.out.on b4)
  have P4 := Lib.hid (show RExL 9 _ K (.slice e4 t.args.length f4) t.args ∧ RStL d' _ K (.slice e5 t.thn.length f5) t.thn ∧ RStL d' _ K (.slice e6 t.els.length f6) t.els from ⟨HPT.out.1.on b4, RStL.on HPT.out.2.1 b4, RStL.on HPT.out.2.2 b4⟩)
  have T4 := Lib.hid (RStL.on HRI.out b4)
  have F4 := Lib.hid (HFI.out.trans (PFr.of b4))
  have hgk : wr.heap.size ≠ kb := fun e => by have := HKI.out.lt; omega
  clear y0 y1 y2 y3 y4 y5 y6 hbl b4 HKI HIN HPT HRI HFI
  generalize wr.alloc (.cells #[.int .i64 t.kind, .int .i64 t.n, .string ⟨t.name.toArray⟩, .bool t.secret, .slice e4 t.args.length f4, .slice e5 t.thn.length f5, .slice e6 t.els.length f6] 109) = w4 at *
  generalize wr.heap.size = g at *
  have k1 : w4.cell? ⟨kb, 1, none⟩ = some (.int .i64 wk) := (K4.out.cell 1).trans rfl
  have zk := K4.out.lt
  have fk : w4.frozen? ⟨kb, 1, none⟩ = false := by
    unfold World.frozen?
    rw [K4.out.r]
    simp
  have PW := PFr.put1 w4 kb 1 (.int .i64 (wk + 1))
  have HKO := Lib.hid (K4.out.work (wk + 1))
  have HN := Lib.hid (show SMapIn (w4.setCell ⟨kb, 1, none⟩ (.int .i64 (wk + 1))) mb (nmF li) from N4.out.same (PW.block mb N4.out.lt (N4.out.nb K4.out.r)))
  have HX1 := Lib.hid (RExL.fr P4.out.1 PW HKK.out)
  have HX2 := Lib.hid (RStL.fr P4.out.2.1 PW HKK.out)
  have HX3 := Lib.hid (RStL.fr P4.out.2.2 PW HKK.out)
  have HTS := Lib.hid (RStL.fr T4.out PW HKK.out)
  have HF := Lib.hid (F4.out.trans PW)
  have HG := Lib.hid ((PW.block g (Array.getElem?_eq_some_iff.1 r4).1 hgk).trans r4)
  clear r4 PW K4 N4 P4 T4 F4
  go_upto_region 10 with fail
  clear k1 fk zk
  generalize w4.setCell ⟨kb, 1, none⟩ (.int .i64 (wk + 1)) = w1 at *
  have k1 : w1.cell? ⟨kb, 1, none⟩ = some (.int .i64 (wk + 1)) := (HKO.out.cell 1).trans rfl
  have zk1 := HKO.out.lt
  have ZK1 := Lib.hid zk1
  by_cases h300 : 300 < wk + 1
  case pos =>
    have g0 : decide (300 < wk + 1) = true := decide_eq_true h300
    have HX := Lib.hid (HBAD.out 4 ⟨wk + 1, lt⟩ (by rw [← HZ.out, if_pos h300]) (by decide))
    clear h300
    go_wp2_with fail
    go_ret
    refine ⟨by rw [← HX.out]; rfl, HF.out, fun h => ?_⟩
    rw [← HX.out] at h; cases h
  case neg =>
  rw [if_neg h300] at HZ
  have b4 : w1.cell? ⟨g, 4, none⟩ = some (.slice e4 t.args.length f4) := cell_of_block HG.out 4
  have zg := (Array.getElem?_eq_some_iff.1 HG.out).1
  go_upto_region 14 with fail
  obtain ⟨i1, hi1, hz0, hz1, hz2⟩ := info_parts Tryd.boolInfo
  have IC := Lib.hid (⟨hi1, hz0, hz1, hz2⟩ : _ ∧ _ ∧ _ ∧ _)
  clear hi1 hz0 hz1 hz2 k1
  go_loopw [60, 14] (fun ii vv wr => ∃ (j : Nat) (S : List Bool), j ≤ t.args.length ∧ S.length = j ∧ ii = .int .i64 (j : Int) ∧ Hid (wr.ownsRow w1.heap.size 4 1 vv S.length (S.map Value.bool)) ∧ Hid (Ev.ArgsOn A li dark t.args (t.args.drop j) S) ∧ Below w1.heap.size w1 wr) (fun ii _ _ => t.args.length - (intOf ii).toNat)
  case atStart => exact ⟨0, [], by omega, rfl, rfl, Lib.hid (World.ownsRow_nil _ _ _ _), Lib.hid (by rw [List.drop_zero]; exact Ev.ArgsOn.start _ _ _ _), by (repeat' first | with_reducible (first | exact Below.refl _ _ | assumption | refine Below.alloc ?_ ?_ _ | refine below_drewN ?_ _ | refine Below.drew ?_ | refine Below.setCell ?_ ?_ _ | refine Below.trans ?_ (Below.mono (by with_reducible assumption) ?_)) | go_size)⟩
  case round =>
  obtain ⟨_, S, hj, rfl, rfl, HO, HA, hbr⟩ := hrel
  obtain ⟨sa, sc, rfl, _, _⟩ := SL.form (SL.of_own HO.out)
  by_cases hlj : S.length < t.args.length
  case pos =>
    obtain ⟨e, he⟩ : ∃ e, t.args[S.length]? = some e := ⟨_, List.getElem?_eq_getElem hlj⟩
    have hdr : t.args.drop S.length = e :: t.args.drop (S.length + 1) := by
      rw [List.getElem?_eq_getElem hlj] at he
      injection he with he
      rw [← he]
      exact List.drop_eq_getElem_cons hlj
    rw [hdr] at HA
    obtain ⟨dx, bx, ox, cx, vx, hdx, hva, hxa, hxr⟩ := (HX1.out.on hbr).el he
    obtain ⟨h1, h2⟩ := slice_two hva
    clear hva
    subst h1 h2
    have HWE := Lib.hid (HWT.out.args e (List.mem_of_getElem? he))
    obtain ⟨ya, yc, rfl⟩ := hxr.form
    have HXR := Lib.hid hxr
    obtain ⟨hbl, y0, y1, y2, y3⟩ := hxa
    clear he hdx hxr hdr
    go_upto_region 16 with fail
    have b5 : Below wr.heap.size wr (wr.alloc (.cells #[.int .i64 e.kind, .int .i64 e.n, .string ⟨e.name.toArray⟩, .slice ya e.args.length yc] 140)) := (Below.refl _ _).alloc (Nat.le_refl _) _
    have r5 := heap_alloc_new wr (.cells #[.int .i64 e.kind, .int .i64 e.n, .string ⟨e.name.toArray⟩, .slice ya e.args.length yc] 140)
    have HO5 := Lib.hid (owns_below HO.out b5)
    clear y0 y1 y2 y3 hbl
    generalize wr.alloc (.cells #[.int .i64 e.kind, .int .i64 e.n, .string ⟨e.name.toArray⟩, .slice ya e.args.length yc] 140) = w5 at *
    have R5 := Lib.hid r5
    have z5 := (Array.getElem?_eq_some_iff.1 r5).1
    have HB5 := Lib.hid (hbr.trans (b5.mono hbr.size))
    have CI := Lib.hid (kx_all dx e A li (.slice ya e.args.length yc) ⟨wk + 1, lt⟩ kb ab mb dark w5 K (HKO.out.on HB5.out) (HN.out.on HB5.out) (HXR.out.on b5) HWE.out)
    unfold exV at CI
    clear r5 b5 hbr
    go_upto_region 17 with (first | (refine wpList_load_box rfl 140 _ rfl rfl (load_box Tryd.underlying140 (by kernel_rfl) (by rfl) (by kernel_rfl) (fun j v hj => (cell_of_block R5.out j).trans hj) z5 (Below.refl _ _)) ?_) | (go_at_call 91; refine CI.out.mono ?_; rintro r w6 ⟨rfl, hb6⟩))
    by_cases h0 : (Ev.exC A li dark e).2 = 0
    case neg =>
      have HB := Lib.hid (HA.out.bad h0)
      have HX := Lib.hid (HBAD.out (Ev.exC A li dark e).2 ⟨wk + 1, lt⟩ (by rw [← HZ.out, HB.out, if_pos h0]) h0)
      have g0 : ((Ev.exC A li dark e).2 != 0) = true := bne_iff_ne.2 h0
      have H0 := Lib.hid h0
      clear HA CI h0
      go_wp2_with fail
      go_ret
      refine ⟨by rw [← HX.out]; rfl, HF.out.trans (PFr.of (HB5.out.trans (hb6.mono HB5.out.size))), fun h => ?_⟩
      rw [← HX.out] at h; exact absurd h H0.out
    case pos =>
      have HG0 := Lib.hid (HA.out.good h0)
      have g0 : ((Ev.exC A li dark e).2 != 0) = false := by rw [h0]; rfl
      generalize (Ev.exC A li dark e).1 = s at *
      have hb61 : Below w1.heap.size w1 w6 := HB5.out.trans (hb6.mono HB5.out.size)
      have OWN6 := Lib.hid (owns_below HO5.out hb6)
      have hs6 := hb61.size
      clear HA CI h0
      go_upto_region 20 with (at_builtin; refine wpList_append_own_at _ rfl (.tmp 75) (.tmp 77) _ rfl w1.heap.size 4 i1 (.bool false) 1 1 Tryd.underlying38 IC.out.1 IC.out.2.1 IC.out.2.2.1 IC.out.2.2.2 rfl (by decide) _ _ _ rfl (OWN6.out.alloc _) ⟨w6.heap.size, 0, none⟩ 1 1 [.bool s] rfl rfl (cell_one_new _ _ _) (fun x hx => by simp at hx; subst hx; rfl) (by unfold maxLen; omega) (by omega) (by simp; omega) ?_; intro v7 w7 hown7 hg7 hn7 hat7; obtain ⟨A7, c7, rfl, _, _⟩ := SL.form (SL.of_own hown7))
      have hb7 : Below w1.heap.size w1 w7 := (hb61.alloc hs6 _).grown hg7 (by simp; omega) (fun k hk => (OWN6.out.lt k hk).1)
      have HOWN := Lib.hid hown7
      clear hown7 hg7 hat7 hn7 OWN6 hb6 hb61 hs6
      go_wp2_with fail
      go_roundw
      case rel => exact ⟨S.length + 1, S ++ [s], by omega, by simp, by go_num, Lib.hid (by have h := HOWN.out; simpa using h), HG0, hb7⟩
      case measure => simp [intOf]; omega
  case neg =>
  have HIN2 := Lib.hid (show S.length = t.args.length by omega)
  have HD := Lib.hid (Ev.ArgsOn.done (show Ev.ArgsOn A li dark t.args [] S by
    have h := HA.out
    rw [HIN2.out, List.drop_length] at h
    exact h))
  rw [HD.out, if_neg (by simp)] at HZ
  dsimp only at HZ
  have HGR := Lib.hid ((hbr.block g zg).trans HG.out)
  have HKR := Lib.hid (HKO.out.on hbr)
  have HNR := Lib.hid (HN.out.on hbr)
  have HR1 := Lib.hid (HX1.out.on hbr)
  have HR2 := Lib.hid (RStL.on HX2.out hbr)
  have HR3 := Lib.hid (RStL.on HX3.out hbr)
  have HTR := Lib.hid (RStL.on HTS.out hbr)
  have HFR := Lib.hid (HF.out.trans (PFr.of hbr))
  have hbs := hbr.size
  have HNS := Lib.hid (show InS t.name by have := HNA.out; unfold InS; omega)
  obtain ⟨q, hq⟩ : ∃ q, (Ev.findP li t.name).getD Ev.noPar = q := ⟨_, rfl⟩
  obtain ⟨p, hp⟩ : ∃ p, (Ev.findP A t.name).getD Ev.noPar = p := ⟨_, rfl⟩
  obtain ⟨had, hhad⟩ : ∃ had, (Ev.findP li t.name).isSome = had := ⟨_, rfl⟩
  obtain ⟨arr, harr⟩ : ∃ arr, (Ev.findP A t.name).isSome = arr := ⟨_, rfl⟩
  have HLK1 := Lib.hid (show ∀ u, Below wr.heap.size wr u → (Go.Instr.lookup 100 (.map (some mb)) (.string ⟨(t.name).toArray⟩) true).run Tryd.prog u = .ok (.tuple #[.agg #[.bool q.secret, .bool (decide (q.size < 0))], .bool had]) u from fun u hu => by
    rw [HNR.out.look (T := 100) Tryd.underlying100 (fun u => Tryd.zeroValue102 u) HNS.out true rfl u hu, ← hq, ← hhad]
    unfold nmF
    cases Ev.findP li t.name <;> rfl)
  have HLK2 := Lib.hid (show ∀ u, Below wr.heap.size wr u → (Go.Instr.lookup 97 (.map (some ab)) (.string ⟨(t.name).toArray⟩) true).run Tryd.prog u = .ok (.tuple #[.agg #[.string ⟨p.name.toArray⟩, .bool p.secret, .int .i64 p.size], .bool arr]) u from fun u hu => by
    rw [HKR.out.m.look (T := 97) Tryd.underlying97 (fun u => Tryd.zeroValue35 u) HNS.out true rfl u hu, ← hp, ← harr]
    unfold arF
    cases Ev.findP A t.name <;> rfl)
  have HHAD := Lib.hid hhad
  have HARR := Lib.hid harr
  have HQ := Lib.hid hq
  have c2 : wr.cell? ⟨g, 2, none⟩ = some (.string ⟨(t.name).toArray⟩) := cell_of_block HGR.out 2
  have zgr : g < wr.heap.size := Nat.lt_of_lt_of_le zg hbs
  clear hhad harr hq hp HX1 HX2 HX3 HTS HF HKO HN HG HA HD b4 zg zk1 IC hbr
  go_upto_region 22 with (at_lookup; refine wpList_lookupS_at rfl _ _ 100 true rfl rfl rfl (HLK1.out _ (by (repeat' first | with_reducible (first | exact Below.refl _ _ | assumption | refine Below.alloc ?_ ?_ _ | refine below_drewN ?_ _ | refine Below.drew ?_ | refine Below.setCell ?_ ?_ _ | refine Below.trans ?_ (Below.mono (by with_reducible assumption) ?_)) | go_size))) ?_)
  have b2 : Below wr.heap.size wr (wr.alloc (.cells #[.bool q.secret, .bool (decide (q.size < 0))] 102)) := (Below.refl _ _).alloc (Nat.le_refl _) _
  have HB2 := Lib.hid b2
  have c22 := (b2.cell (p := ⟨g, 2, none⟩) zgr).trans c2
  have k0 : (wr.alloc (.cells #[.bool q.secret, .bool (decide (q.size < 0))] 102)).cell? ⟨kb, 0, none⟩ = some (.map (some ab)) := ((HKR.out.on b2).cell 0).trans rfl
  have zk2 := (HKR.out.on b2).lt
  have zg2 := Nat.lt_of_lt_of_le zgr b2.size
  clear c2 b2
  generalize wr.alloc (.cells #[.bool q.secret, .bool (decide (q.size < 0))] 102) = w2 at *
  refine wp_region_trail (fun w' => Below w2.heap.size w2 w') [(0, true), (1, true), (2, true), (3, true), (4, true), (5, true), (6, true), (7, true), (8, true), (9, true), (10, false), (11, false), (12, true)] (by kernel_rfl) (by kernel_rfl) (by kernel_rfl) (by decide) (by (repeat' first | with_reducible (first | exact Below.refl _ _ | assumption | refine Below.alloc ?_ ?_ _ | refine below_drewN ?_ _ | refine Below.drew ?_ | refine Below.setCell ?_ ?_ _ | refine Below.trans ?_ (Below.mono (by with_reducible assumption) ?_)) | go_size)) ?_
  apply trail_light
  case hi => (simp only [List.getElem?_toArray, List.getElem?_cons_zero, List.getElem?_cons_succ]; exact rfl)
  case hl => first | exact light_no (by rfl) | ((first | apply light_plain rfl | apply light_yes (by rfl)); intro w9 hS9; skip; first | (exact exec_load rfl rfl (by first | exact ldi9 | exact ldt9)) | (go_simp; try rfl))
  case hQ => exact fun _ _ _ h => h
  (try simp only [Act.put, List.setIfInBounds_toArray, List.set_cons_zero, List.set_cons_succ])
  apply trail_light
  case hi => (simp only [List.getElem?_toArray, List.getElem?_cons_zero, List.getElem?_cons_succ]; exact rfl)
  case hl => first | exact light_no (by rfl) | ((first | apply light_plain rfl | apply light_yes (by rfl)); intro w9 hS9; obtain ⟨kc9, kf9, s9⟩ := bfacts hS9; have hk9 := HLK2.out w9 (HB2.out.trans (Below.mono hS9 HB2.out.size)); first | (exact exec_load rfl rfl (by first | exact ldi9 | exact ldt9)) | (go_simp; try rfl))
  case hQ => exact fun _ _ _ h => h
  (try simp only [Act.put, List.setIfInBounds_toArray, List.set_cons_zero, List.set_cons_succ])
  apply trail_light
  case hi => (simp only [List.getElem?_toArray, List.getElem?_cons_zero, List.getElem?_cons_succ]; exact rfl)
  case hl => first | exact light_no (by rfl) | ((first | apply light_plain rfl | apply light_yes (by rfl)); intro w9 hS9; obtain ⟨kc9, kf9, s9⟩ := bfacts hS9; have hk9 := HLK2.out w9 (HB2.out.trans (Below.mono hS9 HB2.out.size)); first | (exact exec_load rfl rfl (by first | exact ldi9 | exact ldt9)) | (go_simp; try rfl))
  case hQ => exact fun _ _ _ h => h
  (try simp only [Act.put, List.setIfInBounds_toArray, List.set_cons_zero, List.set_cons_succ])
  apply trail_light
  case hi => (simp only [List.getElem?_toArray, List.getElem?_cons_zero, List.getElem?_cons_succ]; exact rfl)
  case hl => first | exact light_no (by rfl) | ((first | apply light_plain rfl | apply light_yes (by rfl)); intro w9 hS9; obtain ⟨kc9, kf9, s9⟩ := bfacts hS9; have hk9 := HLK2.out w9 (HB2.out.trans (Below.mono hS9 HB2.out.size)); first | (exact exec_load rfl rfl (by first | exact ldi9 | exact ldt9)) | (go_simp; try rfl))
  case hQ => exact fun _ _ _ h => h
  (try simp only [Act.put, List.setIfInBounds_toArray, List.set_cons_zero, List.set_cons_succ])
  apply trail_light
  case hi => (simp only [List.getElem?_toArray, List.getElem?_cons_zero, List.getElem?_cons_succ]; exact rfl)
  case hl => first | exact light_no (by rfl) | ((first | apply light_plain rfl | apply light_yes (by rfl)); intro w9 hS9; obtain ⟨kc9, kf9, s9⟩ := bfacts hS9; have hk9 := HLK2.out w9 (HB2.out.trans (Below.mono hS9 HB2.out.size)); first | (exact exec_load rfl rfl (by first | exact ldi9 | exact ldt9)) | (go_simp; try rfl))
  case hQ => exact fun _ _ _ h => h
  (try simp only [Act.put, List.setIfInBounds_toArray, List.set_cons_zero, List.set_cons_succ])
  apply trail_light
  case hi => (simp only [List.getElem?_toArray, List.getElem?_cons_zero, List.getElem?_cons_succ]; exact rfl)
  case hl => first | exact light_no (by rfl) | ((first | apply light_plain rfl | apply light_yes (by rfl)); intro w9 hS9; obtain ⟨kc9, kf9, s9⟩ := bfacts hS9; have hk9 := HLK2.out w9 (HB2.out.trans (Below.mono hS9 HB2.out.size)); first | (exact exec_load rfl rfl (by first | exact ldi9 | exact ldt9)) | (go_simp; try rfl))
  case hQ => exact fun _ _ _ h => h
  (try simp only [Act.put, List.setIfInBounds_toArray, List.set_cons_zero, List.set_cons_succ])
  apply trail_light
  case hi => (simp only [List.getElem?_toArray, List.getElem?_cons_zero, List.getElem?_cons_succ]; exact rfl)
  case hl => first | exact light_no (by rfl) | ((first | apply light_plain rfl | apply light_yes (by rfl)); intro w9 hS9; obtain ⟨kc9, kf9, s9⟩ := bfacts hS9; have hk9 := HLK2.out w9 (HB2.out.trans (Below.mono hS9 HB2.out.size)); first | (exact exec_load rfl rfl (by first | exact ldi9 | exact ldt9)) | (go_simp; try rfl))
  case hQ => exact fun _ _ _ h => h
  (try simp only [Act.put, List.setIfInBounds_toArray, List.set_cons_zero, List.set_cons_succ])
  apply trail_light
  case hi => (simp only [List.getElem?_toArray, List.getElem?_cons_zero, List.getElem?_cons_succ]; exact rfl)
  case hl => first | exact light_no (by rfl) | ((first | apply light_plain rfl | apply light_yes (by rfl)); intro w9 hS9; skip; first | (exact exec_load rfl rfl (by first | exact ldi9 | exact ldt9)) | (go_simp; try rfl))
  case hQ => exact fun _ _ _ h => h
  (try simp only [Act.put, List.setIfInBounds_toArray, List.set_cons_zero, List.set_cons_succ])
  apply trail_light
  case hi => (simp only [List.getElem?_toArray, List.getElem?_cons_zero, List.getElem?_cons_succ]; exact rfl)
  case hl => first | exact light_no (by rfl) | ((first | apply light_plain rfl | apply light_yes (by rfl)); intro w9 hS9; skip; first | (exact exec_load rfl rfl (by first | exact ldi9 | exact ldt9)) | (go_simp; try rfl))
  case hQ => exact fun _ _ _ h => h
  (try simp only [Act.put, List.setIfInBounds_toArray, List.set_cons_zero, List.set_cons_succ])
  apply trail_light
  case hi => (simp only [List.getElem?_toArray, List.getElem?_cons_zero, List.getElem?_cons_succ]; exact rfl)
  case hl => first | exact light_no (by rfl) | ((first | apply light_plain rfl | apply light_yes (by rfl)); intro w9 hS9; skip; first | (exact exec_load rfl rfl (by first | exact ldi9 | exact ldt9)) | (go_simp; try rfl))
  case hQ => exact fun _ _ _ h => h
  (try simp only [Act.put, List.setIfInBounds_toArray, List.set_cons_zero, List.set_cons_succ])
  apply trail_heavy
  case hi => (simp only [List.getElem?_toArray, List.getElem?_cons_zero, List.getElem?_cons_succ]; exact rfl)
  go_wp2_with (fail)
  refine ⟨by (repeat' first | with_reducible (first | exact Below.refl _ _ | assumption | refine Below.alloc ?_ ?_ _ | refine below_drewN ?_ _ | refine Below.drew ?_ | refine Below.setCell ?_ ?_ _ | refine Below.trans ?_ (Below.mono (by with_reducible assumption) ?_)) | go_size), ?_⟩
  apply trail_heavy
  case hi => (simp only [List.getElem?_toArray, List.getElem?_cons_zero, List.getElem?_cons_succ]; exact rfl)
  go_wp2_with (fail)
  refine ⟨by (repeat' first | with_reducible (first | exact Below.refl _ _ | assumption | refine Below.alloc ?_ ?_ _ | refine below_drewN ?_ _ | refine Below.drew ?_ | refine Below.setCell ?_ ?_ _ | refine Below.trans ?_ (Below.mono (by with_reducible assumption) ?_)) | go_size), ?_⟩
  apply trail_light
  case hi => (simp only [List.getElem?_toArray, List.getElem?_cons_zero, List.getElem?_cons_succ]; exact rfl)
  case hl => first | exact light_no (by rfl) | ((first | apply light_plain rfl | apply light_yes (by rfl)); intro w9 hS9; skip; first | (exact exec_load rfl rfl (by first | exact ldi9 | exact ldt9)) | (go_simp; try rfl))
  case hQ => exact fun _ _ _ h => h
  (try simp only [Act.put, List.setIfInBounds_toArray, List.set_cons_zero, List.set_cons_succ])
  refine trail_nil ?_
  (try dsimp only)
  go_upto_region 23 with fail
  have HB3 := Lib.hid (HB2.out.trans (Below.mono (((Below.refl w2.heap.size w2).alloc (Nat.le_refl _) (.cells #[.string ⟨p.name.toArray⟩, .bool p.secret, .int .i64 p.size] 35)).drew) HB2.out.size))
  clear HLK2 HLK1 zk2 zg2 c22 k0 HB2
  generalize (w2.alloc (.cells #[.string ⟨p.name.toArray⟩, .bool p.secret, .int .i64 p.size] 35)).drew = w3 at *
  have G3 := Lib.hid ((HB3.out.block g zgr).trans HGR.out)
  have K3 := Lib.hid (HKR.out.on HB3.out)
  have N3 := Lib.hid (HNR.out.on HB3.out)
  have X1 := Lib.hid (HR1.out.on HB3.out)
  have X2 := Lib.hid (RStL.on HR2.out HB3.out)
  have X3 := Lib.hid (RStL.on HR3.out HB3.out)
  have T3 := Lib.hid (RStL.on HTR.out HB3.out)
  have F3 := Lib.hid (HFR.out.trans (PFr.of HB3.out))
  have O3 := Lib.hid (owns_below HO.out HB3.out)
  have hgk3 : g ≠ kb := hgk
  have zg3 := (Array.getElem?_eq_some_iff.1 G3.out).1
  have zk3 := K3.out.lt
  have c0 : w3.cell? ⟨g, 0, none⟩ = some (.int .i64 t.kind) := cell_of_block G3.out 0
  clear HGR HKR HNR HR1 HR2 HR3 HTR HFR HO HB3 zgr hbs
  rcases HWT.out.kinds with ⟨hkd, a1, ha⟩ | ⟨hkd, a1, ha⟩ | ⟨hkd, a1, a2, ha⟩ | ⟨hkd, a1, ha⟩ | ⟨hkd, ha, hn0, hn8⟩ | ⟨hkd, a1, ha⟩
  case inl => as_aux_lemma =>
    rw [hkd] at c0
    rw [hkd, if_neg (by decide), if_neg (by decide)] at HZ
    unfold Ev.oneC at HZ
    rw [if_pos rfl] at HZ
    obtain ⟨s0, rfl⟩ : ∃ s0, S = [s0] := one_of (by have h := HIN2.out; rw [ha] at h; exact h)
    replace hlj : ¬ 1 < t.args.length := hlj
    obtain ⟨sb, so, rfl, hsb, e0⟩ := row_bit0 O3.out
    change Hid ((if 0 ≤ Ev.nameI li t.name ∨ 0 ≤ Ev.nameI A t.name then (([], 7), (⟨wk + 1, lt⟩ : Ev.LK)) else if t.secret = false ∧ (s0 = true ∨ dark = true) then (([], 10), ⟨wk + 1, lt⟩) else if 24 < lt + 1 then (([], 4), ⟨wk + 1, lt + 1⟩) else ((li ++ [⟨t.name, t.secret, 0⟩], 0), ⟨wk + 1, lt + 1⟩)) = Z) at HZ
    clear hkd ha
    have HNO : Hid ((0 ≤ Ev.nameI li t.name ∨ 0 ≤ Ev.nameI A t.name) ↔ (had = true ∨ arr = true)) := Lib.hid (by rw [name_had, name_had, HHAD.out, HARR.out])
    by_cases hno : had = true ∨ arr = true
    case pos =>
      rw [if_pos (HNO.out.2 hno)] at HZ
      have HX := Lib.hid (HBAD.out 7 ⟨wk + 1, lt⟩ HZ.out.symm (by decide))
      cases had with
      | true =>
        clear hno
        go_wp2_with fail
        go_ret
        refine ⟨by rw [← HX.out]; rfl, F3.out, fun h => ?_⟩
        rw [← HX.out] at h; cases h
      | false =>
        obtain rfl : arr = true := by rcases hno with h | h; (cases h); exact h
        go_wp2_with fail
        go_ret
        refine ⟨by rw [← HX.out]; rfl, F3.out, fun h => ?_⟩
        rw [← HX.out] at h; cases h
    case neg =>
    rw [if_neg (fun h => hno (HNO.out.1 h))] at HZ
    obtain rfl : had = false := by cases had; rfl; exact absurd (.inl rfl) hno
    obtain rfl : arr = false := by cases arr; rfl; exact absurd (.inr rfl) hno
    have HFN : Hid (Ev.findP li t.name = none) := Lib.hid (by have h := HHAD.out; cases hh : Ev.findP li t.name with | none => rfl | some v => rw [hh] at h; cases h)
    clear hno HNO
    obtain ⟨sec, hsec⟩ : ∃ sec, t.secret = sec := ⟨_, rfl⟩
    have q3 : w3.cell? ⟨g, 3, none⟩ = some (.bool sec) := by rw [← hsec]; exact cell_of_block G3.out 3
    rw [hsec] at HZ
    have HSEC := Lib.hid hsec
    clear hsec
    go_upto_region 27 with fail
    go_cut [105, 106, 107, 108, 109, 110, 111, 112, 113, 114, 115] (fun _ _ _ _ _ _ _ _ _ _ y wy => y = .bool (!sec && (s0 || dark)) ∧ w3 = wy)
    case first =>
      cases sec with
      | true =>
        go_wp2_with fail
        go_meet
        exact ⟨rfl, rfl⟩
      | false =>
        cases s0 with
        | true =>
          go_wp2_with fail
          go_meet
          exact ⟨rfl, rfl⟩
        | false =>
          go_wp2_with fail
          go_meet
          exact ⟨by simp, rfl⟩
    case rest =>
    obtain ⟨rfl, rfl⟩ := hcut
    have HBT := Lib.hid (bad_bit sec s0 dark)
    generalize (!sec && (s0 || dark)) = GG at *
    cases GG with
    | true =>
      rw [if_pos (HBT.out.1 rfl)] at HZ
      have HX := Lib.hid (HBAD.out 10 ⟨wk + 1, lt⟩ HZ.out.symm (by decide))
      go_wp2_with fail
      go_ret
      refine ⟨by rw [← HX.out]; rfl, F3.out, fun h => ?_⟩
      rw [← HX.out] at h; cases h
    | false =>
    rw [if_neg (fun h => by have := HBT.out.2 h; cases this)] at HZ
    have k2 : w3.cell? ⟨kb, 2, none⟩ = some (.int .i64 lt) := (K3.out.cell 2).trans rfl
    have f2 : w3.frozen? ⟨kb, 2, none⟩ = false := by
      unfold World.frozen?
      rw [K3.out.r]
      simp
    go_upto_region 30 with fail
    have PW := PFr.put1 w3 kb 2 (.int .i64 (lt + 1))
    have K4 := Lib.hid (K3.out.lets (lt + 1))
    have N4 := Lib.hid (show SMapIn (w3.setCell ⟨kb, 2, none⟩ (.int .i64 (lt + 1))) mb (nmF li) from N3.out.same (PW.block mb N3.out.lt (N3.out.nb K3.out.r)))
    have G4 := Lib.hid ((PW.block g zg3 hgk3).trans G3.out)
    have F4 := Lib.hid (F3.out.trans PW)
    have T4 := Lib.hid (RStL.fr T3.out PW HKK.out)
    clear PW K3 N3 G3 F3 T3 X1 X2 X3 O3 k2 f2 c0 zk3 zg3 q3 e0
    generalize w3.setCell ⟨kb, 2, none⟩ (.int .i64 (lt + 1)) = w4 at *
    have k2 : w4.cell? ⟨kb, 2, none⟩ = some (.int .i64 (lt + 1)) := (K4.out.cell 2).trans rfl
    have zk4 := K4.out.lt
    by_cases h24 : 24 < lt + 1
    case pos =>
      have g24 : decide (24 < lt + 1) = true := decide_eq_true h24
      have HX := Lib.hid (HBAD.out 4 ⟨wk + 1, lt + 1⟩ (by rw [← HZ.out, if_pos h24]) (by decide))
      clear h24
      go_wp2_with fail
      go_ret
      refine ⟨by rw [← HX.out]; rfl, F4.out, fun h => ?_⟩
      rw [← HX.out] at h; cases h
    case neg =>
    have HX := Lib.hid (HGOOD.out (li ++ [⟨t.name, t.secret, 0⟩]) ⟨wk + 1, lt + 1⟩ (by rw [← HZ.out, if_neg h24, HSEC.out]))
    have q2 : w4.cell? ⟨g, 2, none⟩ = some (.string ⟨(t.name).toArray⟩) := cell_of_block G4.out 2
    have q3 : w4.cell? ⟨g, 3, none⟩ = some (.bool t.secret) := cell_of_block G4.out 3
    go_wp2_with (at_mapUpdate; refine wpList_updateS_at rfl _ _ _ 100 _ rfl Tryd.underlying100 rfl rfl rfl N4.out HNS.out ?_; intro w7 hm7 ht7)
    have N7 := Lib.hid (show SMapIn w7 mb (nmF (li ++ [⟨t.name, t.secret, 0⟩])) by rw [nmF_snoc]; exact hm7)
    have hmw := HMB.out
    have hab := HAB.out
    have hkl3 := HKL.out
    have hkm : mb ≠ kb := fun e => (N4.out.nb K4.out.r) e
    have P7 : PFr mb w4 w7 := ⟨ht7.grown.os, ht7.grown.tape, ht7.grown.output, Nat.le_of_eq ht7.size.symm, fun k _ hne => ht7.other hne⟩
    have K7 := Lib.hid (show KAt w7 kb ab A ⟨wk + 1, lt + 1⟩ from ⟨(ht7.other (fun e => hkm e.symm)).trans K4.out.r, K4.out.m.same (ht7.other (by omega))⟩)
    have F7 := Lib.hid (show PFr kb w w7 from ⟨P7.os.trans F4.out.os, P7.tape.trans F4.out.tape, P7.output.trans F4.out.output, Nat.le_trans F4.out.size P7.size, fun k hk hne => (ht7.other (by omega)).trans (F4.out.block k hk hne)⟩)
    have T7 := Lib.hid (RStL.keep (Nat.le_of_eq ht7.size.symm) (fun k hk _ => ht7.other (by have := hkl3 k hk; omega)) d _ _ T4.out)
    clear hm7 ht7 P7 hmw hab hkl3 hkm
    (try go_frame)
    go_roundw
    case rel => exact ⟨i + 1, _, ⟨wk + 1, lt + 1⟩, by have := HLT.out; omega, by have := HLT.out; go_num, N7, K7, Lib.hid HX.out.2, Lib.hid HX.out.1, F7, T7⟩
    case measure => have := HLT.out; simp [intOf]; omega
  case inr.inl => as_aux_lemma =>
    rw [hkd] at c0
    rw [hkd, if_neg (by decide), if_neg (by decide)] at HZ
    unfold Ev.oneC at HZ
    rw [if_neg (by decide), if_pos rfl] at HZ
    obtain ⟨s0, rfl⟩ : ∃ s0, S = [s0] := one_of (by have h := HIN2.out; rw [ha] at h; exact h)
    replace hlj : ¬ 1 < t.args.length := hlj
    obtain ⟨sb, so, rfl, hsb, e0⟩ := row_bit0 O3.out
    change Hid ((match Ev.findP li t.name with | none => (([], 6), (⟨wk + 1, lt⟩ : Ev.LK)) | some v => if v.size < 0 then (([], 6), ⟨wk + 1, lt⟩) else if v.secret = false ∧ (s0 = true ∨ dark = true) then (([], 10), ⟨wk + 1, lt⟩) else ((li, 0), ⟨wk + 1, lt⟩)) = Z) at HZ
    have c2 : w3.cell? ⟨g, 2, none⟩ = some (.string ⟨(t.name).toArray⟩) := cell_of_block G3.out 2
    clear hkd ha
    cases hf : Ev.findP li t.name with
    | none =>
      have hh : false = had := by rw [← HHAD.out, hf]; rfl
      subst hh
      have HX := Lib.hid (HBAD.out 6 ⟨wk + 1, lt⟩ (by rw [← HZ.out, hf]) (by decide))
      clear hf
      go_wp2_with fail
      go_ret
      refine ⟨by rw [← HX.out]; rfl, F3.out, fun h => ?_⟩
      rw [← HX.out] at h; cases h
    | some q' =>
      have hqq : q' = q := by rw [← HQ.out, hf]; rfl
      subst hqq
      have fl0 := fld0
      have fl1 := fld1
      have hh : true = had := by rw [← HHAD.out, hf]; rfl
      subst hh
      have HLK3 := Lib.hid (show ∀ u, Below w3.heap.size w3 u → (Go.Instr.lookup 100 (.map (some mb)) (.string ⟨(t.name).toArray⟩) false).run Tryd.prog u = .ok (.agg #[.bool q'.secret, .bool (decide (q'.size < 0))]) u from fun u hu => by
        rw [N3.out.look (T := 100) Tryd.underlying100 (fun u => Tryd.zeroValue102 u) HNS.out false rfl u hu]
        unfold nmF
        rw [hf]
        rfl)
      rw [hf] at HZ
      dsimp only at HZ
      clear hf
      by_cases h0 : q'.size < 0
      case pos =>
        have g0 : decide (q'.size < 0) = true := decide_eq_true h0
        have HX := Lib.hid (HBAD.out 6 ⟨wk + 1, lt⟩ (by rw [← HZ.out, if_pos h0]) (by decide))
        clear h0
        rw [g0] at HLK3
        go_wp2_with (first | (at_lookup; refine wpList_lookupS_at rfl _ _ 100 false rfl rfl rfl (HLK3.out _ (by (repeat' first | with_reducible (first | exact Below.refl _ _ | assumption | refine Below.alloc ?_ ?_ _ | refine below_drewN ?_ _ | refine Below.drew ?_ | refine Below.setCell ?_ ?_ _ | refine Below.trans ?_ (Below.mono (by with_reducible assumption) ?_)) | go_size))) ?_) | (at_lookup; refine wpList_lookupS_atg (by rfl) _ _ 100 false rfl rfl rfl (HLK3.out _ (by (repeat' first | with_reducible (first | exact Below.refl _ _ | assumption | refine Below.alloc ?_ ?_ _ | refine below_drewN ?_ _ | refine Below.drew ?_ | refine Below.setCell ?_ ?_ _ | refine Below.trans ?_ (Below.mono (by with_reducible assumption) ?_)) | go_size))) ?_))
        go_ret
        refine ⟨by rw [← HX.out]; rfl, F3.out, fun h => ?_⟩
        rw [← HX.out] at h; cases h
      case neg =>
      have g0 : decide (q'.size < 0) = false := decide_eq_false h0
      rw [if_neg h0] at HZ
      rw [g0] at HLK3
      clear h0
      obtain ⟨qs, hqs⟩ : ∃ qs, q'.secret = qs := ⟨_, rfl⟩
      rw [hqs] at HZ HLK3
      clear hqs
      cases qs with
      | true =>
        have HX := Lib.hid (HGOOD.out li ⟨wk + 1, lt⟩ (by rw [← HZ.out, if_neg (by simp)]))
        go_wp2_with (first | (at_lookup; refine wpList_lookupS_at rfl _ _ 100 false rfl rfl rfl (HLK3.out _ (by (repeat' first | with_reducible (first | exact Below.refl _ _ | assumption | refine Below.alloc ?_ ?_ _ | refine below_drewN ?_ _ | refine Below.drew ?_ | refine Below.setCell ?_ ?_ _ | refine Below.trans ?_ (Below.mono (by with_reducible assumption) ?_)) | go_size))) ?_) | (at_lookup; refine wpList_lookupS_atg (by rfl) _ _ 100 false rfl rfl rfl (HLK3.out _ (by (repeat' first | with_reducible (first | exact Below.refl _ _ | assumption | refine Below.alloc ?_ ?_ _ | refine below_drewN ?_ _ | refine Below.drew ?_ | refine Below.setCell ?_ ?_ _ | refine Below.trans ?_ (Below.mono (by with_reducible assumption) ?_)) | go_size))) ?_))
        go_roundw
        case rel => exact ⟨i + 1, li, ⟨wk + 1, lt⟩, by have := HLT.out; omega, by have := HLT.out; go_num, N3, K3, Lib.hid HX.out.2, Lib.hid HX.out.1, F3, T3⟩
        case measure => have := HLT.out; simp [intOf]; omega
      | false =>
        cases s0 with
        | true =>
          have HX := Lib.hid (HBAD.out 10 ⟨wk + 1, lt⟩ (by rw [← HZ.out, if_pos (by simp)]) (by decide))
          go_wp2_with (first | (at_lookup; refine wpList_lookupS_at rfl _ _ 100 false rfl rfl rfl (HLK3.out _ (by (repeat' first | with_reducible (first | exact Below.refl _ _ | assumption | refine Below.alloc ?_ ?_ _ | refine below_drewN ?_ _ | refine Below.drew ?_ | refine Below.setCell ?_ ?_ _ | refine Below.trans ?_ (Below.mono (by with_reducible assumption) ?_)) | go_size))) ?_) | (at_lookup; refine wpList_lookupS_atg (by rfl) _ _ 100 false rfl rfl rfl (HLK3.out _ (by (repeat' first | with_reducible (first | exact Below.refl _ _ | assumption | refine Below.alloc ?_ ?_ _ | refine below_drewN ?_ _ | refine Below.drew ?_ | refine Below.setCell ?_ ?_ _ | refine Below.trans ?_ (Below.mono (by with_reducible assumption) ?_)) | go_size))) ?_))
          go_ret
          refine ⟨by rw [← HX.out]; rfl, F3.out, fun h => ?_⟩
          rw [← HX.out] at h; cases h
        | false =>
          cases dark with
          | true =>
            have HX := Lib.hid (HBAD.out 10 ⟨wk + 1, lt⟩ (by rw [← HZ.out, if_pos (by simp)]) (by decide))
            go_wp2_with (first | (at_lookup; refine wpList_lookupS_at rfl _ _ 100 false rfl rfl rfl (HLK3.out _ (by (repeat' first | with_reducible (first | exact Below.refl _ _ | assumption | refine Below.alloc ?_ ?_ _ | refine below_drewN ?_ _ | refine Below.drew ?_ | refine Below.setCell ?_ ?_ _ | refine Below.trans ?_ (Below.mono (by with_reducible assumption) ?_)) | go_size))) ?_) | (at_lookup; refine wpList_lookupS_atg (by rfl) _ _ 100 false rfl rfl rfl (HLK3.out _ (by (repeat' first | with_reducible (first | exact Below.refl _ _ | assumption | refine Below.alloc ?_ ?_ _ | refine below_drewN ?_ _ | refine Below.drew ?_ | refine Below.setCell ?_ ?_ _ | refine Below.trans ?_ (Below.mono (by with_reducible assumption) ?_)) | go_size))) ?_))
            go_ret
            refine ⟨by rw [← HX.out]; rfl, F3.out, fun h => ?_⟩
            rw [← HX.out] at h; cases h
          | false =>
            have HX := Lib.hid (HGOOD.out li ⟨wk + 1, lt⟩ (by rw [← HZ.out, if_neg (by simp)]))
            go_wp2_with (first | (at_lookup; refine wpList_lookupS_at rfl _ _ 100 false rfl rfl rfl (HLK3.out _ (by (repeat' first | with_reducible (first | exact Below.refl _ _ | assumption | refine Below.alloc ?_ ?_ _ | refine below_drewN ?_ _ | refine Below.drew ?_ | refine Below.setCell ?_ ?_ _ | refine Below.trans ?_ (Below.mono (by with_reducible assumption) ?_)) | go_size))) ?_) | (at_lookup; refine wpList_lookupS_atg (by rfl) _ _ 100 false rfl rfl rfl (HLK3.out _ (by (repeat' first | with_reducible (first | exact Below.refl _ _ | assumption | refine Below.alloc ?_ ?_ _ | refine below_drewN ?_ _ | refine Below.drew ?_ | refine Below.setCell ?_ ?_ _ | refine Below.trans ?_ (Below.mono (by with_reducible assumption) ?_)) | go_size))) ?_))
            go_roundw
            case rel => exact ⟨i + 1, li, ⟨wk + 1, lt⟩, by have := HLT.out; omega, by have := HLT.out; go_num, N3, K3, Lib.hid HX.out.2, Lib.hid HX.out.1, F3, T3⟩
            case measure => have := HLT.out; simp [intOf]; omega
  case inr.inr.inl => as_aux_lemma =>
    rw [hkd] at c0
    rw [hkd, if_neg (by decide), if_neg (by decide)] at HZ
    unfold Ev.oneC at HZ
    rw [if_neg (by decide), if_neg (by decide), if_pos rfl] at HZ
    obtain ⟨s0, s1, rfl⟩ : ∃ s0 s1, S = [s0, s1] := two_of (by have h := HIN2.out; rw [ha] at h; exact h)
    replace hlj : ¬ 2 < t.args.length := hlj
    obtain ⟨sb, so, rfl, hsb, e0, e1⟩ := row_bit1 O3.out
    have hx : t.args[0]? = some a1 := by rw [ha]; rfl
    obtain ⟨dx, bx, ox, cx, vx, hdx, hva, hxa, hxr⟩ := X1.out.el hx
    obtain ⟨h1, h3⟩ := slice_two hva
    clear hva
    subst h1 h3
    have hln : (0 : Int) < (t.args.length : Int) := by simp [ha]
    rw [ha] at HZ
    have c2 : w3.cell? ⟨g, 2, none⟩ = some (.string ⟨(t.name).toArray⟩) := cell_of_block G3.out 2
    have c4 : w3.cell? ⟨g, 4, none⟩ = some (.slice (some ⟨bx, ox, none⟩) t.args.length f4) := cell_of_block G3.out 4
    obtain ⟨ya, yc, rfl⟩ := hxr.form
    have CP := Lib.hid (fun u (hu : Below w3.heap.size w3 u) => place_any A ⟨wk + 1, lt⟩ kb ab t.name HNS.out a1 (.slice ya a1.args.length yc) ⟨_, _, rfl⟩ s0 dark u (K3.out.on hu))
    unfold exV at CP
    rw [show ox + 0 * 4 = ox by omega] at hxa
    obtain ⟨hbl, y0, y1, y2, y3⟩ := hxa
    change Hid ((if (Ev.plC A t.name a1 s0 dark).2 ≠ 0 then (([], (Ev.plC A t.name a1 s0 dark).2), (⟨wk + 1, lt⟩ : Ev.LK)) else if (Ev.plC A t.name a1 s0 dark).1 = false ∧ (s1 = true ∨ dark = true) then (([], 10), ⟨wk + 1, lt⟩) else ((li, 0), ⟨wk + 1, lt⟩)) = Z) at HZ
    generalize Ev.plC A t.name a1 s0 dark = Y at *
    clear hkd ha hx hxr hdx
    go_upto_region 39 with fail
    refine wp_region_chain (fun w' => Below (w3).heap.size (w3) w') (by kernel_rfl) (by kernel_rfl) (by (repeat' first | with_reducible (first | exact Below.refl _ _ | assumption | refine Below.alloc ?_ ?_ _ | refine below_drewN ?_ _ | refine Below.drew ?_ | refine Below.setCell ?_ ?_ _ | refine Below.trans ?_ (Below.mono (by with_reducible assumption) ?_)) | go_size)) ?_
    repeat (
      apply chain_cons
      case h =>
        refine fun w9 hb9 => ?_
        have hB9 : Below w3.heap.size w3 w9 := by (repeat' first | with_reducible (first | exact Below.refl _ _ | assumption | refine Below.alloc ?_ ?_ _ | refine below_drewN ?_ _ | refine Below.drew ?_ | refine Below.setCell ?_ ?_ _ | refine Below.trans ?_ (Below.mono (by with_reducible assumption) ?_)) | go_size)
        obtain ⟨kc9, kf9, s9⟩ := bfacts hb9
        obtain ⟨kd9, kg9, _⟩ := bfacts hB9
        go_wp2_with (fail)
        (try (go_at_call 92; refine (CP.out _ hb9).mono ?_; rintro _ _ ⟨rfl, hb8⟩; go_wp2_with fail))
        refine settled_intro (S := fun w' => Below (w3).heap.size (w3) w') ?_
        (repeat' first | with_reducible (first | exact Below.refl _ _ | assumption | refine Below.alloc ?_ ?_ _ | refine below_drewN ?_ _ | refine Below.drew ?_ | refine Below.setCell ?_ ?_ _ | refine Below.trans ?_ (Below.mono (by with_reducible assumption) ?_)) | go_size)
      case hp => first | rfl | (simp only [*]; done) | (simp only [*]; rfl))
    refine chain.nil ?_
    refine fun w39 hb39 => ?_
    have B39 : Below w3.heap.size w3 w39 := by (repeat' first | with_reducible (first | exact Below.refl _ _ | assumption | refine Below.alloc ?_ ?_ _ | refine below_drewN ?_ _ | refine Below.drew ?_ | refine Below.setCell ?_ ?_ _ | refine Below.trans ?_ (Below.mono (by with_reducible assumption) ?_)) | go_size)
    obtain ⟨kc39, kf39, s39⟩ := bfacts hb39
    obtain ⟨kd39, kg39, _⟩ := bfacts B39
    (try simp only [World.size_alloc, World.size_setCell, World.size_drew, World.heap_drewN, Nat.add_one_le_iff] at s39)
    clear hb39
    have hb39 := B39
    clear B39
    have B39 : Hid (Below w3.heap.size w3 w39) := hb39
    (try have z39 : w3.heap.size < w39.heap.size := by omega)
    (try dsimp only)
    have HBW := Lib.hid hb39
    have N9 := Lib.hid (N3.out.on hb39)
    have K9 := Lib.hid (K3.out.on hb39)
    have F9 := Lib.hid (F3.out.trans (PFr.of hb39))
    have T9 := Lib.hid (RStL.on T3.out hb39)
    clear CP e0 c2 c4 y0 y1 y2 y3
    by_cases h0 : Y.2 = 0
    case neg =>
      have g0 : (Y.2 != 0) = true := bne_iff_ne.2 h0
      have H0 := Lib.hid h0
      have HX := Lib.hid (HBAD.out Y.2 ⟨wk + 1, lt⟩ (by rw [← HZ.out, if_pos h0]) h0)
      clear h0
      go_wp2_with fail
      go_ret
      refine ⟨by rw [← HX.out]; rfl, F9.out, fun h => ?_⟩
      rw [← HX.out] at h; exact absurd h H0.out
    case pos =>
    have g0 : (Y.2 != 0) = false := by rw [h0]; rfl
    rw [if_neg (not_not_intro h0)] at HZ
    clear h0
    obtain ⟨z, hz⟩ : ∃ z, Y.1 = z := ⟨_, rfl⟩
    rw [hz] at HZ ⊢
    clear hz
    go_upto_region 42 with fail
    cases z with
    | true =>
      have HX := Lib.hid (HGOOD.out li ⟨wk + 1, lt⟩ (by rw [← HZ.out, if_neg (by simp)]))
      go_wp2_with fail
      go_roundw
      case rel => exact ⟨i + 1, li, ⟨wk + 1, lt⟩, by have := HLT.out; omega, by have := HLT.out; go_num, N9, K9, Lib.hid HX.out.2, Lib.hid HX.out.1, F9, T9⟩
      case measure => have := HLT.out; simp [intOf]; omega
    | false =>
      cases s1 with
      | true =>
        have HX := Lib.hid (HBAD.out 10 ⟨wk + 1, lt⟩ (by rw [← HZ.out, if_pos (by simp)]) (by decide))
        go_wp2_with fail
        go_ret
        refine ⟨by rw [← HX.out]; rfl, F9.out, fun h => ?_⟩
        rw [← HX.out] at h; cases h
      | false =>
        cases dark with
        | true =>
          have HX := Lib.hid (HBAD.out 10 ⟨wk + 1, lt⟩ (by rw [← HZ.out, if_pos (by simp)]) (by decide))
          go_wp2_with fail
          go_ret
          refine ⟨by rw [← HX.out]; rfl, F9.out, fun h => ?_⟩
          rw [← HX.out] at h; cases h
        | false =>
          have HX := Lib.hid (HGOOD.out li ⟨wk + 1, lt⟩ (by rw [← HZ.out, if_neg (by simp)]))
          go_wp2_with fail
          go_roundw
          case rel => exact ⟨i + 1, li, ⟨wk + 1, lt⟩, by have := HLT.out; omega, by have := HLT.out; go_num, N9, K9, Lib.hid HX.out.2, Lib.hid HX.out.1, F9, T9⟩
          case measure => have := HLT.out; simp [intOf]; omega
  case inr.inr.inr.inl => as_aux_lemma =>
    rw [hkd] at c0
    rw [if_pos hkd] at HZ
    obtain ⟨s0, rfl⟩ : ∃ s0, S = [s0] := one_of (by have h := HIN2.out; rw [ha] at h; exact h)
    replace hlj : ¬ 1 < t.args.length := hlj
    obtain ⟨sb, so, rfl, hsb, e0⟩ := row_bit0 O3.out
    have hsl : w1.heap.size ≤ sb := (O3.out.lt sb rfl).1
    have hsk : sb ≠ kb := by have := ZK1.out; omega
    simp only [List.length_cons, List.length_nil, Nat.zero_add, Int.natCast_one]
    obtain ⟨D, hD⟩ : ∃ D, (dark || s0) = D := ⟨_, rfl⟩
    change Hid ((if (Ev.blC A li (dark || s0) ⟨wk + 1, lt⟩ t.thn).1 ≠ 0 then (([], (Ev.blC A li (dark || s0) ⟨wk + 1, lt⟩ t.thn).1), (Ev.blC A li (dark || s0) ⟨wk + 1, lt⟩ t.thn).2)
      else if (Ev.blC A li (dark || s0) (Ev.blC A li (dark || s0) ⟨wk + 1, lt⟩ t.thn).2 t.els).1 ≠ 0 then (([], (Ev.blC A li (dark || s0) (Ev.blC A li (dark || s0) ⟨wk + 1, lt⟩ t.thn).2 t.els).1), (Ev.blC A li (dark || s0) (Ev.blC A li (dark || s0) ⟨wk + 1, lt⟩ t.thn).2 t.els).2)
      else ((li, 0), (Ev.blC A li (dark || s0) (Ev.blC A li (dark || s0) ⟨wk + 1, lt⟩ t.thn).2 t.els).2)) = Z) at HZ
    rw [hD] at HZ
    have HDD := Lib.hid hD
    have UP1 := Lib.hid (Ev.blC_up A D t.thn li ⟨wk + 1, lt⟩)
    have CB1 := Lib.hid (fun u hu h1 h2 h3 => HIH.out t.thn A li (.slice e5 t.thn.length f5) ⟨wk + 1, lt⟩ kb ab mb D u K (fun m hm => ⟨HKK.out m hm, Nat.lt_of_lt_of_le (HKL.out m hm) hu⟩) h1 h2 h3 HWT.out.thn ⟨by show (li.length : Int) ≤ wk + 1 + 4; omega, by show 0 ≤ wk + 1; omega, by show wk + 1 ≤ 300; omega, hc4, hc5⟩)
    have CB2 := Lib.hid (fun (h0 : (Ev.blC A li D ⟨wk + 1, lt⟩ t.thn).1 = 0) u hu h1 h2 h3 => HIH.out t.els A li (.slice e6 t.els.length f6) (Ev.blC A li D ⟨wk + 1, lt⟩ t.thn).2 kb ab mb D u K (fun m hm => ⟨HKK.out m hm, Nat.lt_of_lt_of_le (HKL.out m hm) hu⟩) h1 h2 h3 HWT.out.els ⟨by have := (UP1.out h0).work; simp only at this; omega, by have := (UP1.out h0).work; simp only at this; omega, (UP1.out h0).most (by show wk + 1 ≤ 300; omega), by have := (UP1.out h0).lets; simp only at this; omega, (UP1.out h0).few hc5⟩)
    generalize Ev.blC A li D ⟨wk + 1, lt⟩ t.thn = B1 at *
    obtain ⟨B2, hB2⟩ : ∃ B2, Ev.blC A li D B1.2 t.els = B2 := ⟨_, rfl⟩
    rw [hB2] at HZ CB2
    clear hD hB2 UP1 hkd ha hsl
    have qq : w3.cell? ⟨g, 5, none⟩ = some (.slice e5 t.thn.length f5) := cell_of_block G3.out 5
    have zz1 := zg3
    have zz2 := hsb
    have CC1 := Lib.hid (CB1.out w3.drew F3.out.size (K3.out.on ((Below.refl _ _).drew)) (N3.out.on ((Below.refl _ _).drew)) (RStL.on X2.out ((Below.refl _ _).drew)))
    go_upto_region 45 with fail
    cases dark with
    | true =>
      obtain rfl : true = D := HDD.out
      refine wp_region_trail (fun w' => w'.cell? ⟨g, 5, none⟩ = some (.slice e5 t.thn.length f5) ∧ w'.cell? ⟨sb, so, none⟩ = some (.bool s0)) [(0, true), (1, true), (2, true), (3, true), (4, true), (5, true), (6, true), (7, true), (8, true), (9, true), (10, false), (11, true)] (by kernel_rfl) (by kernel_rfl) (by kernel_rfl) (by decide) (⟨qq, e0⟩) ?_
      apply trail_light
      case hi => (simp only [List.getElem?_toArray, List.getElem?_cons_zero, List.getElem?_cons_succ]; exact rfl)
      case hl => first | exact light_no (by rfl) | ((first | apply light_plain rfl | apply light_yes (by rfl)); intro w9 hS9; skip; first | (exact exec_load rfl rfl (by first | exact ldi9 | exact ldt9)) | (go_simp; try rfl))
      case hQ => exact fun _ _ _ h => h
      (try simp only [Act.put, List.setIfInBounds_toArray, List.set_cons_zero, List.set_cons_succ])
      apply trail_light
      case hi => (simp only [List.getElem?_toArray, List.getElem?_cons_zero, List.getElem?_cons_succ]; exact rfl)
      case hl => first | exact light_no (by rfl) | ((first | apply light_plain rfl | apply light_yes (by rfl)); intro w9 hS9; obtain ⟨h91, h92⟩ := hS9; first | (exact exec_load rfl rfl (by first | exact ldi9 | exact ldt9)) | (go_simp; try rfl))
      case hQ => exact fun _ _ _ h => h
      (try simp only [Act.put, List.setIfInBounds_toArray, List.set_cons_zero, List.set_cons_succ])
      apply trail_light
      case hi => (simp only [List.getElem?_toArray, List.getElem?_cons_zero, List.getElem?_cons_succ]; exact rfl)
      case hl => first | exact light_no (by rfl) | ((first | apply light_plain rfl | apply light_yes (by rfl)); intro w9 hS9; obtain ⟨h91, h92⟩ := hS9; first | (exact exec_load rfl rfl (by first | exact ldi9 | exact ldt9)) | (go_simp; try rfl))
      case hQ => exact fun _ _ _ h => h
      (try simp only [Act.put, List.setIfInBounds_toArray, List.set_cons_zero, List.set_cons_succ])
      apply trail_light
      case hi => (simp only [List.getElem?_toArray, List.getElem?_cons_zero, List.getElem?_cons_succ]; exact rfl)
      case hl => first | exact light_no (by rfl) | ((first | apply light_plain rfl | apply light_yes (by rfl)); intro w9 hS9; skip; first | (exact exec_load rfl rfl (by first | exact ldi9 | exact ldt9)) | (go_simp; try rfl))
      case hQ => exact fun _ _ _ h => h
      (try simp only [Act.put, List.setIfInBounds_toArray, List.set_cons_zero, List.set_cons_succ])
      apply trail_light
      case hi => (simp only [List.getElem?_toArray, List.getElem?_cons_zero, List.getElem?_cons_succ]; exact rfl)
      case hl => first | exact light_no (by rfl) | ((first | apply light_plain rfl | apply light_yes (by rfl)); intro w9 hS9; skip; first | (exact exec_load rfl rfl (by first | exact ldi9 | exact ldt9)) | (go_simp; try rfl))
      case hQ => exact fun _ _ _ h => h
      (try simp only [Act.put, List.setIfInBounds_toArray, List.set_cons_zero, List.set_cons_succ])
      apply trail_light
      case hi => (simp only [List.getElem?_toArray, List.getElem?_cons_zero, List.getElem?_cons_succ]; exact rfl)
      case hl => first | exact light_no (by rfl) | ((first | apply light_plain rfl | apply light_yes (by rfl)); intro w9 hS9; skip; first | (exact exec_load rfl rfl (by first | exact ldi9 | exact ldt9)) | (go_simp; try rfl))
      case hQ => exact fun _ _ _ h => h
      (try simp only [Act.put, List.setIfInBounds_toArray, List.set_cons_zero, List.set_cons_succ])
      apply trail_light
      case hi => (simp only [List.getElem?_toArray, List.getElem?_cons_zero, List.getElem?_cons_succ]; exact rfl)
      case hl => first | exact light_no (by rfl) | ((first | apply light_plain rfl | apply light_yes (by rfl)); intro w9 hS9; skip; first | (exact exec_load rfl rfl (by first | exact ldi9 | exact ldt9)) | (go_simp; try rfl))
      case hQ => exact fun _ _ _ h => h
      (try simp only [Act.put, List.setIfInBounds_toArray, List.set_cons_zero, List.set_cons_succ])
      apply trail_light
      case hi => (simp only [List.getElem?_toArray, List.getElem?_cons_zero, List.getElem?_cons_succ]; exact rfl)
      case hl => first | exact light_no (by rfl) | ((first | apply light_plain rfl | apply light_yes (by rfl)); intro w9 hS9; obtain ⟨h91, h92⟩ := hS9; first | (exact exec_load rfl rfl (by first | exact ldi9 | exact ldt9)) | (go_simp; try rfl))
      case hQ => exact fun _ _ _ h => h
      (try simp only [Act.put, List.setIfInBounds_toArray, List.set_cons_zero, List.set_cons_succ])
      apply trail_light
      case hi => (simp only [List.getElem?_toArray, List.getElem?_cons_zero, List.getElem?_cons_succ]; exact rfl)
      case hl => first | exact light_no (by rfl) | ((first | apply light_plain rfl | apply light_yes (by rfl)); intro w9 hS9; obtain ⟨h91, h92⟩ := hS9; first | (exact exec_load rfl rfl (by first | exact ldi9 | exact ldt9)) | (go_simp; try rfl))
      case hQ => exact fun _ _ _ h => h
      (try simp only [Act.put, List.setIfInBounds_toArray, List.set_cons_zero, List.set_cons_succ])
      apply trail_light
      case hi => (simp only [List.getElem?_toArray, List.getElem?_cons_zero, List.getElem?_cons_succ]; exact rfl)
      case hl => first | exact light_no (by rfl) | ((first | apply light_plain rfl | apply light_yes (by rfl)); intro w9 hS9; obtain ⟨h91, h92⟩ := hS9; first | (exact exec_load rfl rfl (by first | exact ldi9 | exact ldt9)) | (go_simp; try rfl))
      case hQ => exact fun _ _ _ h => h
      (try simp only [Act.put, List.setIfInBounds_toArray, List.set_cons_zero, List.set_cons_succ])
      apply trail_heavy
      case hi => (simp only [List.getElem?_toArray, List.getElem?_cons_zero, List.getElem?_cons_succ]; exact rfl)
      go_wp2_with ((go_at_call 59; refine CC1.out.mono ?_; rintro r w5 ⟨rfl, hF5, hK5⟩; replace hF5 : PFr kb w3 w5 := (PFr.of ((Below.refl _ _).drew)).trans hF5; have qq5 := (cell_sameL (hF5.block g zz1 hgk3) 5).trans qq; have ee5 := (cell_sameL (hF5.block sb zz2 hsk) so).trans e0))
      refine ⟨⟨qq5, ee5⟩, ?_⟩
      apply trail_light
      case hi => (simp only [List.getElem?_toArray, List.getElem?_cons_zero, List.getElem?_cons_succ]; exact rfl)
      case hl => first | exact light_no (by rfl) | ((first | apply light_plain rfl | apply light_yes (by rfl)); intro w9 hS9; skip; first | (exact exec_load rfl rfl (by first | exact ldi9 | exact ldt9)) | (go_simp; try rfl))
      case hQ => exact fun _ _ _ h => h
      (try simp only [Act.put, List.setIfInBounds_toArray, List.set_cons_zero, List.set_cons_succ])
      refine trail_nil ?_
      (try dsimp only)
      have G5 := Lib.hid ((hF5.block g zg3 hgk3).trans G3.out)
      have F5 := Lib.hid (F3.out.trans hF5)
      have HF5 := Lib.hid hF5
      have HK5 := Lib.hid hK5
      clear hF5 hK5 qq qq5 c0
      by_cases h0 : B1.1 = 0
      case neg =>
        have g0 : (B1.1 != 0) = true := bne_iff_ne.2 h0
        have H0 := Lib.hid h0
        have HX := Lib.hid (HBAD.out B1.1 B1.2 (by rw [← HZ.out, if_pos h0]) h0)
        clear h0 e0
        go_wp2_with fail
        go_ret
        refine ⟨by rw [← HX.out]; rfl, F5.out, fun h => ?_⟩
        rw [← HX.out] at h; exact absurd h H0.out
      case pos =>
      have g0 : (B1.1 != 0) = false := by rw [h0]; rfl
      have K5 := Lib.hid (HK5.out h0)
      have N5 := Lib.hid (show SMapIn w5 mb (nmF li) from N3.out.same (HF5.out.block mb N3.out.lt (N3.out.nb K3.out.r)))
      have X5 := Lib.hid (RStL.fr X3.out HF5.out HKK.out)
      have T5 := Lib.hid (RStL.fr T3.out HF5.out HKK.out)
      have H0 := Lib.hid h0
      have qq2 : w5.cell? ⟨g, 6, none⟩ = some (.slice e6 t.els.length f6) := cell_of_block G5.out 6
      have zz3 := (Array.getElem?_eq_some_iff.1 G5.out).1
      have zz4 : sb < w5.heap.size := Nat.lt_of_lt_of_le hsb HF5.out.size
      have CC2 := Lib.hid (CB2.out h0 w5.drew F5.out.size (K5.out.on ((Below.refl _ _).drew)) (N5.out.on ((Below.refl _ _).drew)) (RStL.on X5.out ((Below.refl _ _).drew)))
      clear h0 e0 HF5 HK5 G3 K3 N3 X1 X2 X3 T3 F3 O3
      go_upto_region 48 with fail
      refine wp_region_trail (fun w' => w'.cell? ⟨g, 6, none⟩ = some (.slice e6 t.els.length f6) ∧ w'.cell? ⟨sb, so, none⟩ = some (.bool s0)) [(0, true), (1, true), (2, true), (3, true), (4, true), (5, true), (6, true), (7, true), (8, true), (9, true), (10, false), (11, true)] (by kernel_rfl) (by kernel_rfl) (by kernel_rfl) (by decide) (⟨qq2, ee5⟩) ?_
      apply trail_light
      case hi => (simp only [List.getElem?_toArray, List.getElem?_cons_zero, List.getElem?_cons_succ]; exact rfl)
      case hl => first | exact light_no (by rfl) | ((first | apply light_plain rfl | apply light_yes (by rfl)); intro w9 hS9; skip; first | (exact exec_load rfl rfl (by first | exact ldi9 | exact ldt9)) | (go_simp; try rfl))
      case hQ => exact fun _ _ _ h => h
      (try simp only [Act.put, List.setIfInBounds_toArray, List.set_cons_zero, List.set_cons_succ])
      apply trail_light
      case hi => (simp only [List.getElem?_toArray, List.getElem?_cons_zero, List.getElem?_cons_succ]; exact rfl)
      case hl => first | exact light_no (by rfl) | ((first | apply light_plain rfl | apply light_yes (by rfl)); intro w9 hS9; obtain ⟨h91, h92⟩ := hS9; first | (exact exec_load rfl rfl (by first | exact ldi9 | exact ldt9)) | (go_simp; try rfl))
      case hQ => exact fun _ _ _ h => h
      (try simp only [Act.put, List.setIfInBounds_toArray, List.set_cons_zero, List.set_cons_succ])
      apply trail_light
      case hi => (simp only [List.getElem?_toArray, List.getElem?_cons_zero, List.getElem?_cons_succ]; exact rfl)
      case hl => first | exact light_no (by rfl) | ((first | apply light_plain rfl | apply light_yes (by rfl)); intro w9 hS9; obtain ⟨h91, h92⟩ := hS9; first | (exact exec_load rfl rfl (by first | exact ldi9 | exact ldt9)) | (go_simp; try rfl))
      case hQ => exact fun _ _ _ h => h
      (try simp only [Act.put, List.setIfInBounds_toArray, List.set_cons_zero, List.set_cons_succ])
      apply trail_light
      case hi => (simp only [List.getElem?_toArray, List.getElem?_cons_zero, List.getElem?_cons_succ]; exact rfl)
      case hl => first | exact light_no (by rfl) | ((first | apply light_plain rfl | apply light_yes (by rfl)); intro w9 hS9; skip; first | (exact exec_load rfl rfl (by first | exact ldi9 | exact ldt9)) | (go_simp; try rfl))
      case hQ => exact fun _ _ _ h => h
      (try simp only [Act.put, List.setIfInBounds_toArray, List.set_cons_zero, List.set_cons_succ])
      apply trail_light
      case hi => (simp only [List.getElem?_toArray, List.getElem?_cons_zero, List.getElem?_cons_succ]; exact rfl)
      case hl => first | exact light_no (by rfl) | ((first | apply light_plain rfl | apply light_yes (by rfl)); intro w9 hS9; skip; first | (exact exec_load rfl rfl (by first | exact ldi9 | exact ldt9)) | (go_simp; try rfl))
      case hQ => exact fun _ _ _ h => h
      (try simp only [Act.put, List.setIfInBounds_toArray, List.set_cons_zero, List.set_cons_succ])
      apply trail_light
      case hi => (simp only [List.getElem?_toArray, List.getElem?_cons_zero, List.getElem?_cons_succ]; exact rfl)
      case hl => first | exact light_no (by rfl) | ((first | apply light_plain rfl | apply light_yes (by rfl)); intro w9 hS9; skip; first | (exact exec_load rfl rfl (by first | exact ldi9 | exact ldt9)) | (go_simp; try rfl))
      case hQ => exact fun _ _ _ h => h
      (try simp only [Act.put, List.setIfInBounds_toArray, List.set_cons_zero, List.set_cons_succ])
      apply trail_light
      case hi => (simp only [List.getElem?_toArray, List.getElem?_cons_zero, List.getElem?_cons_succ]; exact rfl)
      case hl => first | exact light_no (by rfl) | ((first | apply light_plain rfl | apply light_yes (by rfl)); intro w9 hS9; skip; first | (exact exec_load rfl rfl (by first | exact ldi9 | exact ldt9)) | (go_simp; try rfl))
      case hQ => exact fun _ _ _ h => h
      (try simp only [Act.put, List.setIfInBounds_toArray, List.set_cons_zero, List.set_cons_succ])
      apply trail_light
      case hi => (simp only [List.getElem?_toArray, List.getElem?_cons_zero, List.getElem?_cons_succ]; exact rfl)
      case hl => first | exact light_no (by rfl) | ((first | apply light_plain rfl | apply light_yes (by rfl)); intro w9 hS9; obtain ⟨h91, h92⟩ := hS9; first | (exact exec_load rfl rfl (by first | exact ldi9 | exact ldt9)) | (go_simp; try rfl))
      case hQ => exact fun _ _ _ h => h
      (try simp only [Act.put, List.setIfInBounds_toArray, List.set_cons_zero, List.set_cons_succ])
      apply trail_light
      case hi => (simp only [List.getElem?_toArray, List.getElem?_cons_zero, List.getElem?_cons_succ]; exact rfl)
      case hl => first | exact light_no (by rfl) | ((first | apply light_plain rfl | apply light_yes (by rfl)); intro w9 hS9; obtain ⟨h91, h92⟩ := hS9; first | (exact exec_load rfl rfl (by first | exact ldi9 | exact ldt9)) | (go_simp; try rfl))
      case hQ => exact fun _ _ _ h => h
      (try simp only [Act.put, List.setIfInBounds_toArray, List.set_cons_zero, List.set_cons_succ])
      apply trail_light
      case hi => (simp only [List.getElem?_toArray, List.getElem?_cons_zero, List.getElem?_cons_succ]; exact rfl)
      case hl => first | exact light_no (by rfl) | ((first | apply light_plain rfl | apply light_yes (by rfl)); intro w9 hS9; obtain ⟨h91, h92⟩ := hS9; first | (exact exec_load rfl rfl (by first | exact ldi9 | exact ldt9)) | (go_simp; try rfl))
      case hQ => exact fun _ _ _ h => h
      (try simp only [Act.put, List.setIfInBounds_toArray, List.set_cons_zero, List.set_cons_succ])
      apply trail_heavy
      case hi => (simp only [List.getElem?_toArray, List.getElem?_cons_zero, List.getElem?_cons_succ]; exact rfl)
      go_wp2_with ((go_at_call 59; refine CC2.out.mono ?_; rintro r w6 ⟨rfl, hF6, hK6⟩; replace hF6 : PFr kb w5 w6 := (PFr.of ((Below.refl _ _).drew)).trans hF6; have qq6 := (cell_sameL (hF6.block g zz3 hgk3) 6).trans qq2; have ee6 := (cell_sameL (hF6.block sb zz4 hsk) so).trans ee5))
      refine ⟨⟨qq6, ee6⟩, ?_⟩
      apply trail_light
      case hi => (simp only [List.getElem?_toArray, List.getElem?_cons_zero, List.getElem?_cons_succ]; exact rfl)
      case hl => first | exact light_no (by rfl) | ((first | apply light_plain rfl | apply light_yes (by rfl)); intro w9 hS9; skip; first | (exact exec_load rfl rfl (by first | exact ldi9 | exact ldt9)) | (go_simp; try rfl))
      case hQ => exact fun _ _ _ h => h
      (try simp only [Act.put, List.setIfInBounds_toArray, List.set_cons_zero, List.set_cons_succ])
      refine trail_nil ?_
      (try dsimp only)
      have F6 := Lib.hid (F5.out.trans hF6)
      have HF6 := Lib.hid hF6
      have HK6 := Lib.hid hK6
      clear hF6 hK6 qq2 qq6
      by_cases h1 : B2.1 = 0
      case neg =>
        have g1 : (B2.1 != 0) = true := bne_iff_ne.2 h1
        have H1 := Lib.hid h1
        have HX := Lib.hid (HBAD.out B2.1 B2.2 (by rw [← HZ.out, if_neg (not_not_intro H0.out), if_pos h1]) h1)
        clear h1
        go_wp2_with fail
        go_ret
        refine ⟨by rw [← HX.out]; rfl, F6.out, fun h => ?_⟩
        rw [← HX.out] at h; exact absurd h H1.out
      case pos =>
      have g1 : (B2.1 != 0) = false := by rw [h1]; rfl
      have K6 := Lib.hid (HK6.out h1)
      have N6 := Lib.hid (show SMapIn w6 mb (nmF li) from N5.out.same (HF6.out.block mb N5.out.lt (N5.out.nb K5.out.r)))
      have T6 := Lib.hid (RStL.fr T5.out HF6.out HKK.out)
      have HX := Lib.hid (HGOOD.out li B2.2 (by rw [← HZ.out, if_neg (not_not_intro H0.out), if_neg (not_not_intro h1)]))
      clear h1
      go_wp2_with fail
      go_roundw
      case rel => exact ⟨i + 1, li, B2.2, by have := HLT.out; omega, by have := HLT.out; go_num, N6, K6, Lib.hid HX.out.2, Lib.hid HX.out.1, F6, T6⟩
      case measure => have := HLT.out; simp [intOf]; omega
    | false =>
      obtain rfl : s0 = D := HDD.out
      refine wp_region_trail (fun w' => w'.cell? ⟨g, 5, none⟩ = some (.slice e5 t.thn.length f5) ∧ w'.cell? ⟨sb, so, none⟩ = some (.bool s0)) [(0, true), (1, true), (2, true), (3, true), (4, true), (5, true), (6, true), (7, true), (8, true), (9, true), (10, false), (11, true)] (by kernel_rfl) (by kernel_rfl) (by kernel_rfl) (by decide) (⟨qq, e0⟩) ?_
      apply trail_light
      case hi => (simp only [List.getElem?_toArray, List.getElem?_cons_zero, List.getElem?_cons_succ]; exact rfl)
      case hl => first | exact light_no (by rfl) | ((first | apply light_plain rfl | apply light_yes (by rfl)); intro w9 hS9; skip; first | (exact exec_load rfl rfl (by first | exact ldi9 | exact ldt9)) | (go_simp; try rfl))
      case hQ => exact fun _ _ _ h => h
      (try simp only [Act.put, List.setIfInBounds_toArray, List.set_cons_zero, List.set_cons_succ])
      apply trail_light
      case hi => (simp only [List.getElem?_toArray, List.getElem?_cons_zero, List.getElem?_cons_succ]; exact rfl)
      case hl => first | exact light_no (by rfl) | ((first | apply light_plain rfl | apply light_yes (by rfl)); intro w9 hS9; obtain ⟨h91, h92⟩ := hS9; first | (exact exec_load rfl rfl (by first | exact ldi9 | exact ldt9)) | (go_simp; try rfl))
      case hQ => exact fun _ _ _ h => h
      (try simp only [Act.put, List.setIfInBounds_toArray, List.set_cons_zero, List.set_cons_succ])
      apply trail_light
      case hi => (simp only [List.getElem?_toArray, List.getElem?_cons_zero, List.getElem?_cons_succ]; exact rfl)
      case hl => first | exact light_no (by rfl) | ((first | apply light_plain rfl | apply light_yes (by rfl)); intro w9 hS9; obtain ⟨h91, h92⟩ := hS9; first | (exact exec_load rfl rfl (by first | exact ldi9 | exact ldt9)) | (go_simp; try rfl))
      case hQ => exact fun _ _ _ h => h
      (try simp only [Act.put, List.setIfInBounds_toArray, List.set_cons_zero, List.set_cons_succ])
      apply trail_light
      case hi => (simp only [List.getElem?_toArray, List.getElem?_cons_zero, List.getElem?_cons_succ]; exact rfl)
      case hl => first | exact light_no (by rfl) | ((first | apply light_plain rfl | apply light_yes (by rfl)); intro w9 hS9; skip; first | (exact exec_load rfl rfl (by first | exact ldi9 | exact ldt9)) | (go_simp; try rfl))
      case hQ => exact fun _ _ _ h => h
      (try simp only [Act.put, List.setIfInBounds_toArray, List.set_cons_zero, List.set_cons_succ])
      apply trail_light
      case hi => (simp only [List.getElem?_toArray, List.getElem?_cons_zero, List.getElem?_cons_succ]; exact rfl)
      case hl => first | exact light_no (by rfl) | ((first | apply light_plain rfl | apply light_yes (by rfl)); intro w9 hS9; skip; first | (exact exec_load rfl rfl (by first | exact ldi9 | exact ldt9)) | (go_simp; try rfl))
      case hQ => exact fun _ _ _ h => h
      (try simp only [Act.put, List.setIfInBounds_toArray, List.set_cons_zero, List.set_cons_succ])
      apply trail_light
      case hi => (simp only [List.getElem?_toArray, List.getElem?_cons_zero, List.getElem?_cons_succ]; exact rfl)
      case hl => first | exact light_no (by rfl) | ((first | apply light_plain rfl | apply light_yes (by rfl)); intro w9 hS9; skip; first | (exact exec_load rfl rfl (by first | exact ldi9 | exact ldt9)) | (go_simp; try rfl))
      case hQ => exact fun _ _ _ h => h
      (try simp only [Act.put, List.setIfInBounds_toArray, List.set_cons_zero, List.set_cons_succ])
      apply trail_light
      case hi => (simp only [List.getElem?_toArray, List.getElem?_cons_zero, List.getElem?_cons_succ]; exact rfl)
      case hl => first | exact light_no (by rfl) | ((first | apply light_plain rfl | apply light_yes (by rfl)); intro w9 hS9; skip; first | (exact exec_load rfl rfl (by first | exact ldi9 | exact ldt9)) | (go_simp; try rfl))
      case hQ => exact fun _ _ _ h => h
      (try simp only [Act.put, List.setIfInBounds_toArray, List.set_cons_zero, List.set_cons_succ])
      apply trail_light
      case hi => (simp only [List.getElem?_toArray, List.getElem?_cons_zero, List.getElem?_cons_succ]; exact rfl)
      case hl => first | exact light_no (by rfl) | ((first | apply light_plain rfl | apply light_yes (by rfl)); intro w9 hS9; obtain ⟨h91, h92⟩ := hS9; first | (exact exec_load rfl rfl (by first | exact ldi9 | exact ldt9)) | (go_simp; try rfl))
      case hQ => exact fun _ _ _ h => h
      (try simp only [Act.put, List.setIfInBounds_toArray, List.set_cons_zero, List.set_cons_succ])
      apply trail_light
      case hi => (simp only [List.getElem?_toArray, List.getElem?_cons_zero, List.getElem?_cons_succ]; exact rfl)
      case hl => first | exact light_no (by rfl) | ((first | apply light_plain rfl | apply light_yes (by rfl)); intro w9 hS9; obtain ⟨h91, h92⟩ := hS9; first | (exact exec_load rfl rfl (by first | exact ldi9 | exact ldt9)) | (go_simp; try rfl))
      case hQ => exact fun _ _ _ h => h
      (try simp only [Act.put, List.setIfInBounds_toArray, List.set_cons_zero, List.set_cons_succ])
      apply trail_light
      case hi => (simp only [List.getElem?_toArray, List.getElem?_cons_zero, List.getElem?_cons_succ]; exact rfl)
      case hl => first | exact light_no (by rfl) | ((first | apply light_plain rfl | apply light_yes (by rfl)); intro w9 hS9; obtain ⟨h91, h92⟩ := hS9; first | (exact exec_load rfl rfl (by first | exact ldi9 | exact ldt9)) | (go_simp; try rfl))
      case hQ => exact fun _ _ _ h => h
      (try simp only [Act.put, List.setIfInBounds_toArray, List.set_cons_zero, List.set_cons_succ])
      apply trail_heavy
      case hi => (simp only [List.getElem?_toArray, List.getElem?_cons_zero, List.getElem?_cons_succ]; exact rfl)
      go_wp2_with ((go_at_call 59; refine CC1.out.mono ?_; rintro r w5 ⟨rfl, hF5, hK5⟩; replace hF5 : PFr kb w3 w5 := (PFr.of ((Below.refl _ _).drew)).trans hF5; have qq5 := (cell_sameL (hF5.block g zz1 hgk3) 5).trans qq; have ee5 := (cell_sameL (hF5.block sb zz2 hsk) so).trans e0))
      refine ⟨⟨qq5, ee5⟩, ?_⟩
      apply trail_light
      case hi => (simp only [List.getElem?_toArray, List.getElem?_cons_zero, List.getElem?_cons_succ]; exact rfl)
      case hl => first | exact light_no (by rfl) | ((first | apply light_plain rfl | apply light_yes (by rfl)); intro w9 hS9; skip; first | (exact exec_load rfl rfl (by first | exact ldi9 | exact ldt9)) | (go_simp; try rfl))
      case hQ => exact fun _ _ _ h => h
      (try simp only [Act.put, List.setIfInBounds_toArray, List.set_cons_zero, List.set_cons_succ])
      refine trail_nil ?_
      (try dsimp only)
      have G5 := Lib.hid ((hF5.block g zg3 hgk3).trans G3.out)
      have F5 := Lib.hid (F3.out.trans hF5)
      have HF5 := Lib.hid hF5
      have HK5 := Lib.hid hK5
      clear hF5 hK5 qq qq5 c0
      by_cases h0 : B1.1 = 0
      case neg =>
        have g0 : (B1.1 != 0) = true := bne_iff_ne.2 h0
        have H0 := Lib.hid h0
        have HX := Lib.hid (HBAD.out B1.1 B1.2 (by rw [← HZ.out, if_pos h0]) h0)
        clear h0 e0
        go_wp2_with fail
        go_ret
        refine ⟨by rw [← HX.out]; rfl, F5.out, fun h => ?_⟩
        rw [← HX.out] at h; exact absurd h H0.out
      case pos =>
      have g0 : (B1.1 != 0) = false := by rw [h0]; rfl
      have K5 := Lib.hid (HK5.out h0)
      have N5 := Lib.hid (show SMapIn w5 mb (nmF li) from N3.out.same (HF5.out.block mb N3.out.lt (N3.out.nb K3.out.r)))
      have X5 := Lib.hid (RStL.fr X3.out HF5.out HKK.out)
      have T5 := Lib.hid (RStL.fr T3.out HF5.out HKK.out)
      have H0 := Lib.hid h0
      have qq2 : w5.cell? ⟨g, 6, none⟩ = some (.slice e6 t.els.length f6) := cell_of_block G5.out 6
      have zz3 := (Array.getElem?_eq_some_iff.1 G5.out).1
      have zz4 : sb < w5.heap.size := Nat.lt_of_lt_of_le hsb HF5.out.size
      have CC2 := Lib.hid (CB2.out h0 w5.drew F5.out.size (K5.out.on ((Below.refl _ _).drew)) (N5.out.on ((Below.refl _ _).drew)) (RStL.on X5.out ((Below.refl _ _).drew)))
      clear h0 e0 HF5 HK5 G3 K3 N3 X1 X2 X3 T3 F3 O3
      go_upto_region 48 with fail
      refine wp_region_trail (fun w' => w'.cell? ⟨g, 6, none⟩ = some (.slice e6 t.els.length f6) ∧ w'.cell? ⟨sb, so, none⟩ = some (.bool s0)) [(0, true), (1, true), (2, true), (3, true), (4, true), (5, true), (6, true), (7, true), (8, true), (9, true), (10, false), (11, true)] (by kernel_rfl) (by kernel_rfl) (by kernel_rfl) (by decide) (⟨qq2, ee5⟩) ?_
      apply trail_light
      case hi => (simp only [List.getElem?_toArray, List.getElem?_cons_zero, List.getElem?_cons_succ]; exact rfl)
      case hl => first | exact light_no (by rfl) | ((first | apply light_plain rfl | apply light_yes (by rfl)); intro w9 hS9; skip; first | (exact exec_load rfl rfl (by first | exact ldi9 | exact ldt9)) | (go_simp; try rfl))
      case hQ => exact fun _ _ _ h => h
      (try simp only [Act.put, List.setIfInBounds_toArray, List.set_cons_zero, List.set_cons_succ])
      apply trail_light
      case hi => (simp only [List.getElem?_toArray, List.getElem?_cons_zero, List.getElem?_cons_succ]; exact rfl)
      case hl => first | exact light_no (by rfl) | ((first | apply light_plain rfl | apply light_yes (by rfl)); intro w9 hS9; obtain ⟨h91, h92⟩ := hS9; first | (exact exec_load rfl rfl (by first | exact ldi9 | exact ldt9)) | (go_simp; try rfl))
      case hQ => exact fun _ _ _ h => h
      (try simp only [Act.put, List.setIfInBounds_toArray, List.set_cons_zero, List.set_cons_succ])
      apply trail_light
      case hi => (simp only [List.getElem?_toArray, List.getElem?_cons_zero, List.getElem?_cons_succ]; exact rfl)
      case hl => first | exact light_no (by rfl) | ((first | apply light_plain rfl | apply light_yes (by rfl)); intro w9 hS9; obtain ⟨h91, h92⟩ := hS9; first | (exact exec_load rfl rfl (by first | exact ldi9 | exact ldt9)) | (go_simp; try rfl))
      case hQ => exact fun _ _ _ h => h
      (try simp only [Act.put, List.setIfInBounds_toArray, List.set_cons_zero, List.set_cons_succ])
      apply trail_light
      case hi => (simp only [List.getElem?_toArray, List.getElem?_cons_zero, List.getElem?_cons_succ]; exact rfl)
      case hl => first | exact light_no (by rfl) | ((first | apply light_plain rfl | apply light_yes (by rfl)); intro w9 hS9; skip; first | (exact exec_load rfl rfl (by first | exact ldi9 | exact ldt9)) | (go_simp; try rfl))
      case hQ => exact fun _ _ _ h => h
      (try simp only [Act.put, List.setIfInBounds_toArray, List.set_cons_zero, List.set_cons_succ])
      apply trail_light
      case hi => (simp only [List.getElem?_toArray, List.getElem?_cons_zero, List.getElem?_cons_succ]; exact rfl)
      case hl => first | exact light_no (by rfl) | ((first | apply light_plain rfl | apply light_yes (by rfl)); intro w9 hS9; skip; first | (exact exec_load rfl rfl (by first | exact ldi9 | exact ldt9)) | (go_simp; try rfl))
      case hQ => exact fun _ _ _ h => h
      (try simp only [Act.put, List.setIfInBounds_toArray, List.set_cons_zero, List.set_cons_succ])
      apply trail_light
      case hi => (simp only [List.getElem?_toArray, List.getElem?_cons_zero, List.getElem?_cons_succ]; exact rfl)
      case hl => first | exact light_no (by rfl) | ((first | apply light_plain rfl | apply light_yes (by rfl)); intro w9 hS9; skip; first | (exact exec_load rfl rfl (by first | exact ldi9 | exact ldt9)) | (go_simp; try rfl))
      case hQ => exact fun _ _ _ h => h
      (try simp only [Act.put, List.setIfInBounds_toArray, List.set_cons_zero, List.set_cons_succ])
      apply trail_light
      case hi => (simp only [List.getElem?_toArray, List.getElem?_cons_zero, List.getElem?_cons_succ]; exact rfl)
      case hl => first | exact light_no (by rfl) | ((first | apply light_plain rfl | apply light_yes (by rfl)); intro w9 hS9; skip; first | (exact exec_load rfl rfl (by first | exact ldi9 | exact ldt9)) | (go_simp; try rfl))
      case hQ => exact fun _ _ _ h => h
      (try simp only [Act.put, List.setIfInBounds_toArray, List.set_cons_zero, List.set_cons_succ])
      apply trail_light
      case hi => (simp only [List.getElem?_toArray, List.getElem?_cons_zero, List.getElem?_cons_succ]; exact rfl)
      case hl => first | exact light_no (by rfl) | ((first | apply light_plain rfl | apply light_yes (by rfl)); intro w9 hS9; obtain ⟨h91, h92⟩ := hS9; first | (exact exec_load rfl rfl (by first | exact ldi9 | exact ldt9)) | (go_simp; try rfl))
      case hQ => exact fun _ _ _ h => h
      (try simp only [Act.put, List.setIfInBounds_toArray, List.set_cons_zero, List.set_cons_succ])
      apply trail_light
      case hi => (simp only [List.getElem?_toArray, List.getElem?_cons_zero, List.getElem?_cons_succ]; exact rfl)
      case hl => first | exact light_no (by rfl) | ((first | apply light_plain rfl | apply light_yes (by rfl)); intro w9 hS9; obtain ⟨h91, h92⟩ := hS9; first | (exact exec_load rfl rfl (by first | exact ldi9 | exact ldt9)) | (go_simp; try rfl))
      case hQ => exact fun _ _ _ h => h
      (try simp only [Act.put, List.setIfInBounds_toArray, List.set_cons_zero, List.set_cons_succ])
      apply trail_light
      case hi => (simp only [List.getElem?_toArray, List.getElem?_cons_zero, List.getElem?_cons_succ]; exact rfl)
      case hl => first | exact light_no (by rfl) | ((first | apply light_plain rfl | apply light_yes (by rfl)); intro w9 hS9; obtain ⟨h91, h92⟩ := hS9; first | (exact exec_load rfl rfl (by first | exact ldi9 | exact ldt9)) | (go_simp; try rfl))
      case hQ => exact fun _ _ _ h => h
      (try simp only [Act.put, List.setIfInBounds_toArray, List.set_cons_zero, List.set_cons_succ])
      apply trail_heavy
      case hi => (simp only [List.getElem?_toArray, List.getElem?_cons_zero, List.getElem?_cons_succ]; exact rfl)
      go_wp2_with ((go_at_call 59; refine CC2.out.mono ?_; rintro r w6 ⟨rfl, hF6, hK6⟩; replace hF6 : PFr kb w5 w6 := (PFr.of ((Below.refl _ _).drew)).trans hF6; have qq6 := (cell_sameL (hF6.block g zz3 hgk3) 6).trans qq2; have ee6 := (cell_sameL (hF6.block sb zz4 hsk) so).trans ee5))
      refine ⟨⟨qq6, ee6⟩, ?_⟩
      apply trail_light
      case hi => (simp only [List.getElem?_toArray, List.getElem?_cons_zero, List.getElem?_cons_succ]; exact rfl)
      case hl => first | exact light_no (by rfl) | ((first | apply light_plain rfl | apply light_yes (by rfl)); intro w9 hS9; skip; first | (exact exec_load rfl rfl (by first | exact ldi9 | exact ldt9)) | (go_simp; try rfl))
      case hQ => exact fun _ _ _ h => h
      (try simp only [Act.put, List.setIfInBounds_toArray, List.set_cons_zero, List.set_cons_succ])
      refine trail_nil ?_
      (try dsimp only)
      have F6 := Lib.hid (F5.out.trans hF6)
      have HF6 := Lib.hid hF6
      have HK6 := Lib.hid hK6
      clear hF6 hK6 qq2 qq6
      by_cases h1 : B2.1 = 0
      case neg =>
        have g1 : (B2.1 != 0) = true := bne_iff_ne.2 h1
        have H1 := Lib.hid h1
        have HX := Lib.hid (HBAD.out B2.1 B2.2 (by rw [← HZ.out, if_neg (not_not_intro H0.out), if_pos h1]) h1)
        clear h1
        go_wp2_with fail
        go_ret
        refine ⟨by rw [← HX.out]; rfl, F6.out, fun h => ?_⟩
        rw [← HX.out] at h; exact absurd h H1.out
      case pos =>
      have g1 : (B2.1 != 0) = false := by rw [h1]; rfl
      have K6 := Lib.hid (HK6.out h1)
      have N6 := Lib.hid (show SMapIn w6 mb (nmF li) from N5.out.same (HF6.out.block mb N5.out.lt (N5.out.nb K5.out.r)))
      have T6 := Lib.hid (RStL.fr T5.out HF6.out HKK.out)
      have HX := Lib.hid (HGOOD.out li B2.2 (by rw [← HZ.out, if_neg (not_not_intro H0.out), if_neg (not_not_intro h1)]))
      clear h1
      go_wp2_with fail
      go_roundw
      case rel => exact ⟨i + 1, li, B2.2, by have := HLT.out; omega, by have := HLT.out; go_num, N6, K6, Lib.hid HX.out.2, Lib.hid HX.out.1, F6, T6⟩
      case measure => have := HLT.out; simp [intOf]; omega
  case inr.inr.inr.inr.inl => as_aux_lemma =>
    rw [hkd] at c0
    rw [if_neg (by rw [hkd]; decide), if_pos hkd] at HZ
    obtain rfl : S = [] := by have h := HIN2.out; rw [ha] at h; exact List.eq_nil_of_length_eq_zero h
    replace hlj : ¬ 0 < t.args.length := hlj
    simp only [List.length_cons, List.length_nil, Nat.zero_add, Int.natCast_one, Int.natCast_zero]
    obtain ⟨N, hN⟩ : ∃ N : Nat, t.n = (N : Int) := ⟨t.n.toNat, by omega⟩
    have hN8 : N ≤ 8 := by omega
    have HNN := Lib.hid hN
    rw [hN] at HZ
    change Hid ((if 0 ≤ Ev.nameI li t.name ∨ 0 ≤ Ev.nameI A t.name then (([], 7), (⟨wk + 1, lt⟩ : Ev.LK)) else if (Ev.timesC (fun k => Ev.blC A (li ++ [⟨t.name, false, -1⟩]) dark k t.thn) N ⟨wk + 1, lt⟩).1 ≠ 0 then (([], (Ev.timesC (fun k => Ev.blC A (li ++ [⟨t.name, false, -1⟩]) dark k t.thn) N ⟨wk + 1, lt⟩).1), (Ev.timesC (fun k => Ev.blC A (li ++ [⟨t.name, false, -1⟩]) dark k t.thn) N ⟨wk + 1, lt⟩).2) else ((li, 0), (Ev.timesC (fun k => Ev.blC A (li ++ [⟨t.name, false, -1⟩]) dark k t.thn) N ⟨wk + 1, lt⟩).2)) = Z) at HZ
    clear hkd ha hn0 hn8 hN
    have HNO : Hid ((0 ≤ Ev.nameI li t.name ∨ 0 ≤ Ev.nameI A t.name) ↔ (had = true ∨ arr = true)) := Lib.hid (by rw [name_had, name_had, HHAD.out, HARR.out])
    by_cases hno : had = true ∨ arr = true
    case pos =>
      rw [if_pos (HNO.out.2 hno)] at HZ
      have HX := Lib.hid (HBAD.out 7 ⟨wk + 1, lt⟩ HZ.out.symm (by decide))
      cases had with
      | true =>
        clear hno
        go_wp2_with fail
        go_ret
        refine ⟨by rw [← HX.out]; rfl, F3.out, fun h => ?_⟩
        rw [← HX.out] at h; cases h
      | false =>
        obtain rfl : arr = true := by rcases hno with h | h; (cases h); exact h
        go_wp2_with fail
        go_ret
        refine ⟨by rw [← HX.out]; rfl, F3.out, fun h => ?_⟩
        rw [← HX.out] at h; cases h
    case neg =>
    rw [if_neg (fun h => hno (HNO.out.1 h))] at HZ
    obtain rfl : had = false := by cases had; rfl; exact absurd (.inl rfl) hno
    obtain rfl : arr = false := by cases arr; rfl; exact absurd (.inr rfl) hno
    have HFN : Hid (Ev.findP li t.name = none) := Lib.hid (by have h := HHAD.out; cases hh : Ev.findP li t.name with | none => rfl | some v => rw [hh] at h; cases h)
    clear hno HNO
    have q2 : w3.cell? ⟨g, 2, none⟩ = some (.string ⟨(t.name).toArray⟩) := cell_of_block G3.out 2
    go_upto_region 55 with (at_mapUpdate; refine wpList_updateS_at rfl _ _ _ 100 _ rfl Tryd.underlying100 rfl rfl rfl N3.out HNS.out ?_; intro w7 hm7 ht7)
    have hmw := HMB.out
    have hab := HAB.out
    have hkl3 := HKL.out
    have hkm : mb ≠ kb := fun e => (N3.out.nb K3.out.r) e
    have hgm : mb ≠ g := fun e => (N3.out.nb G3.out) e
    have N7 := Lib.hid (show SMapIn w7 mb (nmF (li ++ [⟨t.name, false, -1⟩])) by rw [nmF_snoc]; exact hm7)
    have K7 := Lib.hid (show KAt w7 kb ab A ⟨wk + 1, lt⟩ from ⟨(ht7.other (fun e => hkm e.symm)).trans K3.out.r, K3.out.m.same (ht7.other (by omega))⟩)
    have F7 := Lib.hid (show PFr kb w w7 from ⟨ht7.grown.os.trans F3.out.os, ht7.grown.tape.trans F3.out.tape, ht7.grown.output.trans F3.out.output, Nat.le_trans F3.out.size (Nat.le_of_eq ht7.size.symm), fun k hk hne => (ht7.other (by omega)).trans (F3.out.block k hk hne)⟩)
    have T7 := Lib.hid (RStL.keep (Nat.le_of_eq ht7.size.symm) (fun k hk _ => ht7.other (by have := hkl3 k hk; omega)) d _ _ T3.out)
    have X7 := Lib.hid (RStL.keep (Nat.le_of_eq ht7.size.symm) (fun k hk _ => ht7.other (by have := hkl3 k hk; omega)) d' _ _ X2.out)
    have G7 := Lib.hid ((ht7.other (fun e => hgm e.symm)).trans G3.out)
    clear hm7 ht7 hmw hab hkl3 hkm hgm N3 K3 F3 T3 X1 X2 X3 G3 O3 c0 zk3 zg3 q2
    have q1 : w7.cell? ⟨g, 1, none⟩ = some (.int .i64 (N : Int)) := by rw [← HNN.out]; exact cell_of_block G7.out 1
    (try go_frame)
    go_upto_region 56 with fail
    obtain ⟨f, hf⟩ : ∃ f, (fun k => Ev.blC A (li ++ [⟨t.name, false, -1⟩]) dark k t.thn) = f := ⟨_, rfl⟩
    have HFF := Lib.hid (fun k => (congrFun hf k).symm)
    rw [hf] at HZ
    clear hf
    obtain ⟨TT, hTT⟩ : ∃ TT, Ev.timesC f N ⟨wk + 1, lt⟩ = TT := ⟨_, rfl⟩
    rw [hTT] at HZ
    have HTT := Lib.hid hTT
    clear hTT
    have HIL := Lib.hid (show ((li ++ [(⟨t.name, false, -1⟩ : Ev.Par)]).length : Int) ≤ wk + 1 + 4 by simp; omega)
    go_loopw [231] (fun zz wx => ∃ (j : Nat) (kj : Ev.LK), j ≤ N ∧ zz = .int .i64 (j : Int) ∧ Hid (KAt wx kb ab A kj) ∧ Hid (Ev.Up ⟨wk + 1, lt⟩ kj) ∧ Hid (TT = Ev.timesC f (N - j) kj) ∧ Hid (PFr kb w7 wx)) (fun zz _ => N - (intOf zz).toNat)
    case atStart => exact ⟨0, ⟨wk + 1, lt⟩, by omega, rfl, K7, Lib.hid (Ev.Up.refl _), Lib.hid HTT.out.symm, Lib.hid (PFr.refl' _ _)⟩
    case round =>
    clear q1
    obtain ⟨j, kj, hj, rfl, HKx, HUP, HTi, HFx⟩ := hrel
    have hgl := (Array.getElem?_eq_some_iff.1 G7.out).1
    have GX := Lib.hid ((HFx.out.block g hgl hgk3).trans G7.out)
    have q5 : wr.cell? ⟨g, 5, none⟩ = some (.slice e5 t.thn.length f5) := cell_of_block GX.out 5
    have q2 : wr.cell? ⟨g, 2, none⟩ = some (.string ⟨(t.name).toArray⟩) := cell_of_block GX.out 2
    have hml := N7.out.lt
    have NX := Lib.hid (show SMapIn wr mb (nmF (li ++ [⟨t.name, false, -1⟩])) from N7.out.same (HFx.out.block mb hml (N7.out.nb K7.out.r)))
    have FX := Lib.hid (F7.out.trans HFx.out)
    have TX := Lib.hid (RStL.fr T7.out HFx.out HKK.out)
    have XX := Lib.hid (RStL.fr X7.out HFx.out HKK.out)
    clear hml hgl
    by_cases hlt2 : j < N
    case pos =>
      have CB := Lib.hid (HIH.out t.thn A (li ++ [⟨t.name, false, -1⟩]) (.slice e5 t.thn.length f5) kj kb ab mb dark wr K (fun m hm => ⟨HKK.out m hm, Nat.lt_of_lt_of_le (HKL.out m hm) FX.out.size⟩) HKx.out NX.out XX.out HWT.out.thn ⟨by have := HUP.out.work; have := HIL.out; simp only at *; omega, by have := HUP.out.work; simp only at this; omega, HUP.out.most (by show wk + 1 ≤ 300; omega), by have := HUP.out.lets; simp only at this; omega, HUP.out.few hc5⟩)
      have HTN := Lib.hid (show TT = if (f kj).1 ≠ 0 then f kj else Ev.timesC f (N - (j + 1)) (f kj).2 by
        rw [HTi.out, show N - j = (N - (j + 1)) + 1 by omega]
        rfl)
      have HUN := Lib.hid (Ev.blC_up A dark t.thn (li ++ [⟨t.name, false, -1⟩]) kj)
      rw [← HFF.out kj] at CB HUN
      generalize f kj = B at *
      clear HTi
      go_upto_region 58 with (go_at_call 59; refine CB.out.mono ?_; rintro r w5 ⟨rfl, hF5, hK5⟩)
      by_cases h0 : B.1 = 0
      case neg =>
        have g0 : (B.1 != 0) = true := bne_iff_ne.2 h0
        have H0 := Lib.hid h0
        have HX := Lib.hid (HBAD.out B.1 B.2 (by rw [← HZ.out, HTN.out, if_pos h0, if_pos h0]) h0)
        clear h0
        go_wp2_with fail
        go_ret
        refine ⟨by rw [← HX.out]; rfl, FX.out.trans hF5, fun h => ?_⟩
        rw [← HX.out] at h; exact absurd h H0.out
      case pos =>
        have g0 : (B.1 != 0) = false := by rw [h0]; rfl
        have HK5 := Lib.hid (hK5 h0)
        have HU5 := Lib.hid (HUP.out.trans (HUN.out h0))
        have HT5 := Lib.hid (show TT = Ev.timesC f (N - (j + 1)) B.2 by rw [HTN.out, if_neg (not_not_intro h0)])
        have HF5 := Lib.hid (HFx.out.trans hF5)
        clear h0 hK5 hF5 CB HTN HUN q5 q2
        go_wp2_with fail
        go_roundw
        case rel => exact ⟨j + 1, B.2, by omega, by go_num, HK5, HU5, HT5, HF5⟩
        case measure => simp [intOf]; omega
    case neg =>
      have HX := Lib.hid (HGOOD.out li kj (by
        have e : TT = (0, kj) := by rw [HTi.out, show N - j = 0 by omega]; rfl
        rw [← HZ.out, e, if_neg (by simp)]))
      have HBK := Lib.hid (nmF_back li t.name (vV ⟨t.name, false, -1⟩) HFN.out)
      clear q5
      go_wp2_with (at_delete; refine wpList_deleteS_at rfl _ _ 100 _ rfl Tryd.underlying100 rfl rfl NX.out HNS.out ?_; intro w8 hm8 ht8)
      have hmw := HMB.out
      have hab := HAB.out
      have hkl3 := HKL.out
      have hkm : mb ≠ kb := fun e => (NX.out.nb HKx.out.r) e
      have N8 := Lib.hid (show SMapIn w8 mb (nmF li) by have h := hm8; rw [nmF_snoc] at h; rw [← HBK.out]; exact h)
      have K8 := Lib.hid (show KAt w8 kb ab A kj from ⟨(ht8.other (fun e => hkm e.symm)).trans HKx.out.r, HKx.out.m.same (ht8.other (by omega))⟩)
      have F8 := Lib.hid (show PFr kb w w8 from ⟨ht8.grown.os.trans FX.out.os, ht8.grown.tape.trans FX.out.tape, ht8.grown.output.trans FX.out.output, Nat.le_trans FX.out.size (Nat.le_of_eq ht8.size.symm), fun k hk hne => (ht8.other (by omega)).trans (FX.out.block k hk hne)⟩)
      have T8 := Lib.hid (RStL.keep (Nat.le_of_eq ht8.size.symm) (fun k hk _ => ht8.other (by have := hkl3 k hk; omega)) d _ _ TX.out)
      clear hm8 ht8 hmw hab hkl3 hkm q2
      (try go_frame)
      go_roundw
      case rel => exact ⟨i + 1, li, kj, by have := HLT.out; omega, by have := HLT.out; go_num, N8, K8, Lib.hid HX.out.2, Lib.hid HX.out.1, F8, T8⟩
      case measure => have := HLT.out; simp [intOf]; omega
  case inr.inr.inr.inr.inr => as_aux_lemma =>
    rw [hkd] at c0
    rw [hkd, if_neg (by decide), if_neg (by decide)] at HZ
    unfold Ev.oneC at HZ
    rw [if_neg (by decide), if_neg (by decide), if_neg (by decide)] at HZ
    clear hkd ha
    cases dark with
    | true =>
      have HX := Lib.hid (HBAD.out 10 ⟨wk + 1, lt⟩ (by rw [← HZ.out, if_pos rfl]) (by decide))
      go_wp2_with fail
      go_ret
      refine ⟨by rw [← HX.out]; rfl, F3.out, fun h => ?_⟩
      rw [← HX.out] at h; cases h
    | false =>
      have HX := Lib.hid (HGOOD.out li ⟨wk + 1, lt⟩ (by rw [← HZ.out, if_neg (by decide)]))
      go_wp2_with fail
      go_roundw
      case rel => exact ⟨i + 1, li, ⟨wk + 1, lt⟩, by have := HLT.out; omega, by have := HLT.out; go_num, N3, K3, Lib.hid HX.out.2, Lib.hid HX.out.1, F3, T3⟩
      case measure => have := HLT.out; simp [intOf]; omega
theorem kbl_all : ∀ d, KBlDo d
  | 0 => kbl_step 0 (fun d' h => (by omega))
  | d + 1 => kbl_step (d + 1) (fun d' h => (by obtain rfl : d = d' := by omega
                                               exact kbl_all d))
end Go.Proofs.YtpbflgemhcaooaaDoor
