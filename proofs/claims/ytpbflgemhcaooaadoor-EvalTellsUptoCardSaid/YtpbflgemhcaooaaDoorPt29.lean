import Derived.Test.YtpbflgemhcaooaaDoorPt28
import Derived.Test.YtpbflgemhcaooaaDoorPt8
import Derived.Test.YtpbflgemhcaooaaDoorPt12
import Derived.Deep.DeepCutAuto
/- The reference's evaluation: statements. -/
namespace Ev
theorem wf_tnm {t : St1} (h : WfS t) : t.name.length ≤ 6 := by
  have hn : ∀ s, nameOk s = true → s.length ≤ 6 := fun s hs => by
    unfold nameOk at hs
    simp only [Bool.and_eq_true, decide_eq_true_eq] at hs
    omega
  cases h with
  | let_ s b a h1 h2 => exact hn s h1
  | set_ s a h1 h2 => exact hn s h1
  | put s a c h1 h2 h3 => exact hn s h1
  | if_ a thn els h1 h2 h3 => exact Nat.zero_le _
  | for_ n s thn h1 h2 h3 h4 => exact hn s h3
  | ret a h1 => exact Nat.zero_le _
end Ev
namespace Go.Proofs.YtpbflgemhcaooaaDoor
open Go.RowKit
set_option linter.unusedSimpArgs false
set_option linter.unusedVariables false
theorem ts_mr {lo hi eb nb : Nat} : ∀ i, TS eb i → MR lo hi eb nb i := fun i h => .inr (.inl h)
/-- a row lies elsewhere -/
theorem own_sfr {S : Nat → Prop} {w w' : World} {lo size n : Nat} {T : TypeId} {v : Value} {xs : List Value} (h : w.ownsRow lo T size v n xs) (hF : SFr S w w') (hS : ∀ k, lo ≤ k → ¬ S k) : w'.ownsRow lo T size v n xs :=
  ownsRow_same h (fun g hg => hF.block g (h.lt g hg).2 (hS g (h.lt g hg).1))
set_option maxRecDepth 8000 in
set_option maxHeartbeats 25600000 in
theorem revBlock (d : Nat) (ih : ∀ d', d = d' + 1 → RBDo d') : RBDo d := by
  intro ts A L dark l a eb ab nb lo hi v vs w K hin hok hr hK hw hfew hsm ht
  obtain ⟨aa, c, rfl⟩ := hr.slice
  have HSM := Lib.hid hsm
  obtain ⟨R, hR⟩ : ∃ R, Ev.blE A l a ts = R := ⟨_, rfl⟩
  rw [hR]
  have HE := Lib.hid hR
  have HIN := Lib.hid hin
  have HR := Lib.hid hr
  have HKM := Lib.hid hK
  have HW := Lib.hid hw
  have HT := Lib.hid ht
  have HOK := Lib.hid hok
  have HNL := Lib.hid (show nb < w.heap.size from hin.n.lt)
  have HEL := Lib.hid (show eb < w.heap.size from hin.m.lt)
  have HHS := Lib.hid (show hi ≤ w.heap.size from hin.m.hs)
  have HMW := Lib.hid (show ∀ k, w.heap.size ≤ k → ¬ MR lo hi eb nb k from fun k hk h => by
    have := hin.n.lt; have := hin.m.lt; have := hin.m.hs
    rcases h with h | h | h <;> omega)
  clear hR hin hr hK hw ht hok hsm
  go_enter Tryd.func73, Tryd.ntmps73
  go_upto_region 2 with fail
  obtain ⟨i1, hi1, hz0, hz1, hz2⟩ := info_parts evInt
  have IC := Lib.hid (⟨hi1, hz0, hz1, hz2⟩ : _ ∧ _ ∧ _ ∧ _)
  clear hi1 hz0 hz1 hz2
  obtain ⟨i2, hi1, hz0, hz1, hz2⟩ := info_parts revStr
  have IS := Lib.hid (⟨hi1, hz0, hz1, hz2⟩ : _ ∧ _ ∧ _ ∧ _)
  clear hi1 hz0 hz1 hz2
  go_loopw [17, 6] (fun ii vv wr => ∃ (i : Nat) (li : Ev.Nms) (ai : Ev.Ars) (mine : List (List UInt8)), i ≤ ts.length ∧ ii = .int .i64 (i : Int) ∧ mine.length ≤ i ∧ Hid (wr.ownsRow w.heap.size 9 1 vv mine.length (strs mine)) ∧ Hid (∀ n ∈ mine, InS n) ∧ Hid (RBl w wr eb ab nb lo hi vs A dark l ts R i li ai mine)) (fun ii _ _ => ts.length - (intOf ii).toNat)
  case atStart => exact ⟨0, l, a, [], by omega, rfl, Nat.le_refl _, Lib.hid (World.ownsRow_nil _ _ _ _), Lib.hid (fun n h => by cases h), Lib.hid ⟨HIN.out, SFr.refl _ _, ⟨L, HOK.out, by rw [List.drop_zero]; exact HT.out⟩, by rw [List.drop_zero]; exact HE.out, Ev.Laid.start l⟩⟩
  case round =>
  obtain ⟨i, li, ai, mine, hi', rfl, hml, HMI, HMS, HB⟩ := hrel
  obtain ⟨ma, mc, rfl, hm1, hm2⟩ := SL.form (SL.of_own HMI.out)
  unfold maxLen at hm2
  by_cases hlt : i < ts.length
  case neg =>
    clear ih
    generalize wr = wq at *
    have HX := Lib.hid (show (⟨li, ai, none⟩ : Ev.EO) = R from by
      have h := HB.out.bl
      rw [List.drop_eq_nil_of_le (by omega), Ev.blE_nil] at h
      exact h)
    go_upto_region 39 with fail
    go_loopw [156] (fun ii wx => ∃ (j : Nat) (m : SMapF), j ≤ mine.length ∧ ii = .int .i64 (j : Int) ∧ Hid (SMapIn wx nb m) ∧ Hid (∀ q, m q = if q ∈ mine.take j then none else nvF li q) ∧ Hid (SFr (fun k => k = nb) wq wx)) (fun ii _ => mine.length - (intOf ii).toNat)
    case atStart => exact ⟨0, nvF li, by omega, rfl, Lib.hid HB.out.r.n, Lib.hid (fun q => by simp), Lib.hid (SFr.refl _ _)⟩
    case round =>
    obtain ⟨j, m, hj, rfl, HM, HMQ, HFX⟩ := hrel
    have MI := Lib.hid (own_sfr HMI.out HFX.out (fun k hk h => by have := HNL.out; omega))
    clear hlt
    by_cases hlj : j < mine.length
    case pos =>
      have HLJ := Lib.hid hlj
      obtain ⟨n, hn⟩ : ∃ n, mine[j]? = some n := ⟨_, List.getElem?_eq_getElem hlj⟩
      obtain ⟨b, o, c', e, hb, hq1, hq2, hc⟩ := SL.row (SL.of_own MI.out) (by omega)
      injection e with h1 h2 h3
      subst h1 h3
      have r0 := hc j (.string ⟨n.toArray⟩) (by rw [List.getElem?_map, hn]; rfl)
      have HIS := Lib.hid (HMS.out n (List.mem_of_getElem? hn))
      have HTK := Lib.hid (show mine.take (j + 1) = mine.take j ++ [n] by rw [List.take_add_one, hn]; rfl)
      clear h2 hc hq1 hq2 hn
      go_wp2_with (at_delete; refine wpList_deleteS_at rfl _ _ 137 _ rfl Tryd.underlying137 rfl rfl HM.out HIS.out ?_; intro w8 hm8 ht8)
      go_roundw
      case rel =>
        refine ⟨j + 1, _, by have := HLJ.out; omega, by go_num, Lib.hid hm8, Lib.hid fun q => ?_, Lib.hid (HFX.out.trans (stu_sfr ht8) (fun _ _ h => h))⟩
        rw [HTK.out]
        show (if q = n then none else m q) = _
        rw [HMQ.out q]
        by_cases hq : q = n
        · subst hq
          rw [if_pos rfl, if_pos (by simp)]
        · rw [if_neg hq]
          by_cases hq2 : q ∈ mine.take j
          · rw [if_pos hq2, if_pos (by simp [hq2])]
          · rw [if_neg hq2, if_neg (by simp [hq2, hq])]
      case measure => have := HLJ.out; simp [intOf]; omega
    case neg =>
      have hje : j = mine.length := by omega
      have HMM := Lib.hid (show m = nvF ((⟨li, ai, none⟩ : Ev.EO).back l).l from by
        funext q
        rw [HMQ.out q, hje, List.take_length]
        have := Ev.laid_gone HB.out.ex q
        show _ = (Ev.lkN (li.drop (li.length - l.length)) q).map (Value.int .i64)
        rw [← this]
        by_cases hq : q ∈ mine
        · rw [if_pos hq, if_pos hq]; rfl
        · rw [if_neg hq, if_neg hq]; rfl)
      clear hje
      go_wp2_with fail
      go_end0
      refine ⟨rfl, HB.out.fr.trans HFX.out (fun k _ h => .inr (.inr h)), by rw [← HX.out]; exact HB.out.r.m.turn HFX.out HB.out.r.nl HB.out.r.ne HB.out.r.na, ⟨m, HM.out⟩, fun _ => ?_⟩
      rw [← HX.out, ← HMM.out]
      exact HM.out
  case pos =>
  obtain ⟨t, htt⟩ : ∃ t, ts[i]? = some t := ⟨_, List.getElem?_eq_getElem hlt⟩
  have HLT := Lib.hid hlt
  have HTT := Lib.hid htt
  have htm := List.mem_of_getElem? htt
  have HWW := Lib.hid (HW.out t htm)
  have HSP := Lib.hid (HSM.out t htm).parts
  have HWT := Lib.hid (Ev.wf_st (HW.out t htm))
  obtain ⟨Li, hni, hty⟩ := HB.out.nm
  rw [drop_cons_at htt] at hty
  have HTY := Lib.hid hty.cons.1.parts
  have HNI := Lib.hid hni
  clear hni hty
  have HZ := Lib.hid (Ev.stE_eq A li ai t)
  have HNX := Lib.hid (fun w' mine' he hr hf hx => RBl.next (w' := w') (mine' := mine') HB.out htt (HW.out t htm) he hr hf hx)
  have HST := Lib.hid (fun he => RBl.stop HB.out htt he)
  obtain ⟨d', b, off, c', x, hd, hva, hKb, hst, hpt⟩ := (RStL.sfr HR.out HB.out.fr HKM.out).el htt
  obtain ⟨h1, h2⟩ := slice_two hva
  clear hva
  subst h1 h2
  have HIH := Lib.hid (ih d' hd)
  have HLE := Lib.hid HB.out.ex
  have HFI := Lib.hid HB.out.fr
  have HRI := Lib.hid HB.out.r
  obtain ⟨x4, x5, x6⟩ := x
  obtain ⟨e4, f4, rfl⟩ := hpt.1.form
  obtain ⟨e5, f5, rfl⟩ := hpt.2.1.slice
  obtain ⟨e6, f6, rfl⟩ := hpt.2.2.slice
  have HPT := Lib.hid hpt
  obtain ⟨hbl, y0, y1, y2, y3, y4, y5, y6⟩ := hst
  dsimp only at y4 y5 y6
  have hfew2 : t.args.length ≤ 2 := HWT.out.few
  have HWS := Lib.hid (show w.heap.size ≤ wr.heap.size from HFI.out.size)
  clear htt hd hpt hKb htm ih
  go_upto_region 4 with fail
  have b4 : Below wr.heap.size wr (wr.alloc (.cells #[.int .i64 t.kind, .int .i64 t.n, .string ⟨t.name.toArray⟩, .bool t.secret, .slice e4 t.args.length f4, .slice e5 t.thn.length f5, .slice e6 t.els.length f6] 109)) := (Below.refl _ _).alloc (Nat.le_refl _) _
  have r4 := heap_alloc_new wr (.cells #[.int .i64 t.kind, .int .i64 t.n, .string ⟨t.name.toArray⟩, .bool t.secret, .slice e4 t.args.length f4, .slice e5 t.thn.length f5, .slice e6 t.els.length f6] 109)
  clear y0 y1 y2 y3 y4 y5 y6 hbl
  generalize wr.alloc (.cells #[.int .i64 t.kind, .int .i64 t.n, .string ⟨t.name.toArray⟩, .bool t.secret, .slice e4 t.args.length f4, .slice e5 t.thn.length f5, .slice e6 t.els.length f6] 109) = w4 at *
  have R4 := Lib.hid (HRI.out.on b4)
  have F4 := Lib.hid (show SFr (MR lo hi eb nb) w w4 from HFI.out.on b4)
  have P4 := Lib.hid (show RExL 9 w4 K (.slice e4 t.args.length f4) t.args ∧ RStL d' w4 K (.slice e5 t.thn.length f5) t.thn ∧ RStL d' w4 K (.slice e6 t.els.length f6) t.els from
    ⟨HPT.out.1.on b4, RStL.keep b4.size (fun k _ hk => b4.block k hk) _ _ _ HPT.out.2.1, RStL.keep b4.size (fun k _ hk => b4.block k hk) _ _ _ HPT.out.2.2⟩)
  have M4 := Lib.hid (owns_below HMI.out b4)
  have G4 := Lib.hid r4
  have zg := (Array.getElem?_eq_some_iff.1 r4).1
  have HWG := Lib.hid (show w.heap.size ≤ wr.heap.size from HWS.out)
  have HEB := Lib.hid (show eb < w4.heap.size from R4.out.m.lt)
  have HLW := Lib.hid (show hi ≤ w4.heap.size from R4.out.m.hs)
  have g4 := cell_of_block r4 4
  simp only [List.getElem?_toArray, List.getElem?_cons_zero, List.getElem?_cons_succ] at g4
  clear b4 r4 HRI HFI HPT HMI HB
  generalize hgg : wr.heap.size = g at G4 g4 zg HWG ⊢
  have HGG := Lib.hid hgg
  clear hgg
  have HGM := Lib.hid (HMW.out g HWG.out)
  go_upto_region 6 with fail
  go_loopw [24, 9] (fun ii vv wx => ∃ (j : Nat) (S : List Int) (ej : Option (Option Int)), j ≤ t.args.length ∧ ii = .int .i64 (j : Int) ∧ S.length ≤ j ∧ Hid (wx.ownsRow w4.heap.size 3 1 vv S.length (S.map (Value.int .i64))) ∧ Hid (SFr (TS eb) w4 wx) ∧ Hid (EM wx eb ab lo hi vs A ai ej) ∧ Hid (ej = none → S.length = j ∧ Ev.ArgsE A ai li t.args (t.args.drop j) S) ∧ Hid (ej.isSome = true → ej = some none ∧ Ev.exsE A ai li t.args = none)) (fun ii _ _ => t.args.length - (intOf ii).toNat)
  case atStart => exact ⟨0, [], none, by omega, rfl, Nat.le_refl _, Lib.hid (World.ownsRow_nil _ _ _ _), Lib.hid (SFr.refl _ _), Lib.hid R4.out.m, Lib.hid (fun _ => ⟨rfl, by rw [List.drop_zero]; exact Ev.ArgsE.start _ _ _ _⟩), Lib.hid (fun h => by cases h)⟩
  case round =>
  obtain ⟨j, S, ej, hj, rfl, hsj, HO, HF, HM, HON, HOFF⟩ := hrel
  obtain ⟨sa, sc, rfl, hs1, hs2⟩ := SL.form (SL.of_own HO.out)
  have hsw := HF.out.size
  have zgr := Nat.lt_of_lt_of_le zg hsw
  have RG := Lib.hid ((HF.out.block g zg (by have := HGM.out; exact fun h => this (ts_mr _ h))).trans G4.out)
  have ztr := HM.out.lt
  have g4r := cell_of_block RG.out 4
  simp only [List.getElem?_toArray, List.getElem?_cons_zero, List.getElem?_cons_succ] at g4r
  by_cases hlj : j < t.args.length
  case pos =>
    have HLJ := Lib.hid hlj
    obtain ⟨x, hx⟩ : ∃ x, t.args[j]? = some x := ⟨_, List.getElem?_eq_getElem hlj⟩
    obtain ⟨d9, b', off', c', vy, hd, hva, hKb, hxa, hxr⟩ := (RExL.sfr P4.out.1 HF.out (fun k hk h => HKM.out k hk (ts_mr k h))).elK hx
    obtain ⟨h1, h2⟩ := slice_two hva
    clear hva
    subst h1 h2
    obtain ⟨ya, yc, rfl⟩ := hxr.form
    have HXR := Lib.hid hxr
    have HWX := Lib.hid (HWT.out.args x (List.mem_of_getElem? hx))
    have HDR := Lib.hid (drop_cons_at hx)
    obtain ⟨hbl, y0, y1, y2, y3⟩ := hxa
    clear hx hxr hd hKb
    go_upto_region 8 with fail
    have b6 : Below wr.heap.size wr (wr.alloc (.cells #[.int .i64 x.kind, .int .i64 x.n, .string ⟨x.name.toArray⟩, .slice ya x.args.length yc] 140)) := (Below.refl _ _).alloc (Nat.le_refl _) _
    have r6 := heap_alloc_new wr (.cells #[.int .i64 x.kind, .int .i64 x.n, .string ⟨x.name.toArray⟩, .slice ya x.args.length yc] 140)
    clear y0 y1 y2 y3 hbl g4r
    generalize wr.alloc (.cells #[.int .i64 x.kind, .int .i64 x.n, .string ⟨x.name.toArray⟩, .slice ya x.args.length yc] 140) = w6 at *
    have R6 := Lib.hid r6
    have z6 := (Array.getElem?_eq_some_iff.1 r6).1
    have HF6 := Lib.hid (show SFr (TS eb) w4 w6 from HF.out.on b6)
    have OWN6 := Lib.hid (owns_below HO.out b6)
    have HM6 := Lib.hid (HM.out.on b6)
    have zt6 := Nat.lt_of_lt_of_le ztr b6.size
    have hs6 := HF6.out.size
    have HX6 := Lib.hid (show RExL d9 w6 K (.slice ya x.args.length yc) x.args from HXR.out.on b6)
    have t2 : w6.cell? ⟨eb, 2, none⟩ = some (.bool ej.isSome) := HM6.out.cell 2
    clear b6 r6 HXR HF HO HM RG
    cases ej with
    | some xx =>
      have t2 : w6.cell? ⟨eb, 2, none⟩ = some (.bool true) := t2
      clear HON
      go_wp2_with fail
      go_roundw
      case rel => exact ⟨j + 1, S, some xx, by have := HLJ.out; omega, by go_num, by omega, OWN6, HF6, HM6, Lib.hid (fun h => by cases h), HOFF⟩
      case measure => have := HLJ.out; simp [intOf]; omega
    | none =>
    have t2 : w6.cell? ⟨eb, 2, none⟩ = some (.bool false) := t2
    obtain ⟨hSj, hA⟩ := HON.out rfl
    rw [HDR.out] at hA
    have HA := Lib.hid hA
    have HSJ := Lib.hid hSj
    have CI := Lib.hid (revX_all d9 x A li ai eb ab nb lo hi (.slice ya x.args.length yc) vs w6 K (R4.out.to HF6.out HM6.out) HX6.out (fun k hk h => HKM.out k hk (ts_mr k h)) HWX.out)
    unfold exV at CI
    obtain ⟨RX, hRX⟩ : ∃ RX, Ev.exE A ai li x = RX := ⟨_, rfl⟩
    rw [hRX] at CI
    have HRX := Lib.hid hRX
    clear hRX hA hSj HON HOFF
    cases RX with
    | none =>
      have HBAD := Lib.hid (HA.out.bad HRX.out)
      change Hid (Calls _ _ _ _ fun r w' => r = .returned (.int .i64 0) ∧ SFr (TS eb) w6 w' ∧ EM w' eb ab lo hi vs A ai (some none)) at CI
      clear HA HRX
      go_upto_region 10 with (first | (refine wpList_load_box rfl 140 _ rfl rfl (load_box Tryd.underlying140 (by kernel_rfl) (by rfl) (by kernel_rfl) (fun j v hj => (cell_of_block R6.out j).trans hj) z6 (Below.refl _ _)) ?_) | (go_at_call 98; refine CI.out.mono ?_; rintro r w5 ⟨rfl, hF5, hM5⟩; have OWN5 := Lib.hid (ownsRow_same OWN6.out (fun g hg => hF5.block g (OWN6.out.lt g hg).2 (by have := OWN6.out.lt g hg; have := HEB.out; show ¬ g = eb; omega))); have HF5 := Lib.hid hF5; have HM5 := Lib.hid hM5; clear hF5 hM5; have hs5 := HF5.out.size) | (at_builtin; refine wpList_append_own_at _ rfl (.tmp 33) (.tmp 38) _ rfl w4.heap.size 3 i1 (.int .i64 0) 1 8 Tryd.underlying46 IC.out.1 IC.out.2.1 IC.out.2.2.1 IC.out.2.2.2 rfl (by decide) _ _ _ rfl (OWN5.out.alloc _) ⟨w5.heap.size, 0, none⟩ 1 1 [.int .i64 0] rfl rfl (cell_one_new _ _ _) (fun x hx => by simp at hx; subst hx; rfl) (by unfold maxLen; omega) (by omega) (by simp; omega) ?_; intro v7 w7 hown7 hg7 hn7 hat7; obtain ⟨A7, c7, rfl, _, _⟩ := SL.form (SL.of_own hown7)))
      have b5 : Below w5.heap.size w5 (w5.alloc (.cells #[.int .i64 0] 3)) := (Below.refl _ _).alloc (Nat.le_refl _) _
      have HM7 := Lib.hid ((HM5.out.on b5).keep hg7.size (fun k hk => hg7.block k (by have := HM5.out.lt; have := HM5.out.m.lt; have := HM5.out.hs; have := b5.size; omega) (fun h => by have := OWN5.out.lt k h.symm; have := HLW.out; have := HM5.out.el; have := HM5.out.al; have := HM5.out.le; omega)))
      have HF7 := Lib.hid (show SFr (TS eb) w4 w7 from (HF6.out.trans (HF5.out.on b5) (fun _ _ h => h)).trans (S' := fun k => OWN5.out.lt = OWN5.out.lt ∧ Value.ownBlock (.slice sa S.length sc) = some k) ⟨hg7.os, hg7.tape, hg7.output, hg7.size, fun k hk hn => hg7.block k hk (fun h => hn ⟨rfl, h.symm⟩)⟩ (fun k hk h => by have := OWN5.out.lt k h.2; omega))
      have HOWN := Lib.hid hown7
      clear hown7 hg7 hn7 hat7 OWN5 HF5 HM5 b5
      go_wp2_with fail
      go_roundw
      case rel => exact ⟨j + 1, S ++ [0], some none, by have := HLJ.out; omega, by go_num, by simp; omega, Lib.hid (by have h := HOWN.out; simpa using h), HF7, HM7, Lib.hid (fun h => by cases h), Lib.hid (fun _ => ⟨rfl, HBAD.out⟩)⟩
      case measure => have := HLJ.out; simp [intOf]; omega
    | some y =>
      have HG := Lib.hid (HA.out.good HRX.out)
      change Hid (Calls _ _ _ _ fun r w' => r = .returned (.int .i64 y) ∧ SFr (TS eb) w6 w' ∧ EM w' eb ab lo hi vs A ai none) at CI
      clear HA HRX
      go_upto_region 10 with (first | (refine wpList_load_box rfl 140 _ rfl rfl (load_box Tryd.underlying140 (by kernel_rfl) (by rfl) (by kernel_rfl) (fun j v hj => (cell_of_block R6.out j).trans hj) z6 (Below.refl _ _)) ?_) | (go_at_call 98; refine CI.out.mono ?_; rintro r w5 ⟨rfl, hF5, hM5⟩; have OWN5 := Lib.hid (ownsRow_same OWN6.out (fun g hg => hF5.block g (OWN6.out.lt g hg).2 (by have := OWN6.out.lt g hg; have := HEB.out; show ¬ g = eb; omega))); have HF5 := Lib.hid hF5; have HM5 := Lib.hid hM5; clear hF5 hM5; have hs5 := HF5.out.size) | (at_builtin; refine wpList_append_own_at _ rfl (.tmp 33) (.tmp 38) _ rfl w4.heap.size 3 i1 (.int .i64 0) 1 8 Tryd.underlying46 IC.out.1 IC.out.2.1 IC.out.2.2.1 IC.out.2.2.2 rfl (by decide) _ _ _ rfl (OWN5.out.alloc _) ⟨w5.heap.size, 0, none⟩ 1 1 [.int .i64 y] rfl rfl (cell_one_new _ _ _) (fun x hx => by simp at hx; subst hx; rfl) (by unfold maxLen; omega) (by omega) (by simp; omega) ?_; intro v7 w7 hown7 hg7 hn7 hat7; obtain ⟨A7, c7, rfl, _, _⟩ := SL.form (SL.of_own hown7)))
      have b5 : Below w5.heap.size w5 (w5.alloc (.cells #[.int .i64 y] 3)) := (Below.refl _ _).alloc (Nat.le_refl _) _
      have HM7 := Lib.hid ((HM5.out.on b5).keep hg7.size (fun k hk => hg7.block k (by have := HM5.out.lt; have := HM5.out.m.lt; have := HM5.out.hs; have := b5.size; omega) (fun h => by have := OWN5.out.lt k h.symm; have := HLW.out; have := HM5.out.el; have := HM5.out.al; have := HM5.out.le; omega)))
      have HF7 := Lib.hid (show SFr (TS eb) w4 w7 from (HF6.out.trans (HF5.out.on b5) (fun _ _ h => h)).trans (S' := fun k => OWN5.out.lt = OWN5.out.lt ∧ Value.ownBlock (.slice sa S.length sc) = some k) ⟨hg7.os, hg7.tape, hg7.output, hg7.size, fun k hk hn => hg7.block k hk (fun h => hn ⟨rfl, h.symm⟩)⟩ (fun k hk h => by have := OWN5.out.lt k h.2; omega))
      have HOWN := Lib.hid hown7
      clear hown7 hg7 hn7 hat7 OWN5 HF5 HM5 b5
      go_wp2_with fail
      go_roundw
      case rel => exact ⟨j + 1, S ++ [y], none, by have := HLJ.out; omega, by go_num, by simp; omega, Lib.hid (by have h := HOWN.out; simpa using h), HF7, HM7, Lib.hid (fun _ => ⟨by have := HSJ.out; simp; omega, HG.out⟩), Lib.hid (fun h => by cases h)⟩
      case measure => have := HLJ.out; simp [intOf]; omega
  case neg =>
  have t2 : wr.cell? ⟨eb, 2, none⟩ = some (.bool ej.isSome) := HM.out.cell 2
  clear g4 g4r
  cases ej with
  | some xx =>
    have t2 : wr.cell? ⟨eb, 2, none⟩ = some (.bool true) := t2
    obtain ⟨hx1, hx2⟩ := HOFF.out rfl
    obtain rfl : xx = none := by injection hx1
    rw [hx2] at HZ
    dsimp only at HZ
    have HXR := Lib.hid (show (⟨li, ai, some none⟩ : Ev.EO) = R from by rw [← HST.out (by rw [HZ.out]; rfl), HZ.out])
    have HNB := Lib.hid (R4.out.n.same (HF.out.block nb R4.out.n.lt R4.out.ne))
    clear hx1 hx2 HON HOFF
    go_wp2_with fail
    (try simp only [Exit.inBlock, Exit.then])
    refine bodyPost_ret (results_none rfl _ _ _) rfl ?_
    refine ⟨rfl, F4.out.trans HF.out (fun k _ h => ts_mr k h), by rw [← HXR.out]; exact HM.out, ⟨_, HNB.out⟩, fun h => ?_⟩
    rw [← HXR.out] at h
    cases h
  | none =>
  have t2 : wr.cell? ⟨eb, 2, none⟩ = some (.bool false) := t2
  obtain ⟨hSj, hA⟩ := HON.out rfl
  have HIN2 := Lib.hid (show S.length = t.args.length by omega)
  have HD := Lib.hid (Ev.ArgsE.done (show Ev.ArgsE A ai li t.args [] S by
    have h := hA
    rw [show j = t.args.length by omega, List.drop_length] at h
    exact h))
  rw [HD.out] at HZ
  dsimp only at HZ
  have HSW := Lib.hid ((Ev.exsE_word R4.out.wn R4.out.wa HWT.out.args HD.out).2)
  have RR := Lib.hid (R4.out.to HF.out HM.out)
  have FR := Lib.hid (show SFr (MR lo hi eb nb) w wr from F4.out.trans HF.out (fun k _ h => ts_mr k h))
  have MRR := Lib.hid (own_sfr M4.out HF.out (fun k hk h => HMW.out k hk (ts_mr k h)))
  have T2 := Lib.hid (RStL.sfr P4.out.2.1 HF.out (fun k hk h => HKM.out k hk (ts_mr k h)))
  have T3 := Lib.hid (RStL.sfr P4.out.2.2 HF.out (fun k hk h => HKM.out k hk (ts_mr k h)))
  have HPS := Lib.hid (Ev.stE_pres A t li ai HWW.out R4.out.wn R4.out.wa)
  have c0 := cell_of_block RG.out 0
  have c1 := cell_of_block RG.out 1
  have c2 := cell_of_block RG.out 2
  have c5 := cell_of_block RG.out 5
  have c6 := cell_of_block RG.out 6
  simp only [List.getElem?_toArray, List.getElem?_cons_zero, List.getElem?_cons_succ] at c0 c1 c2 c5 c6
  have HNS := Lib.hid (show InS t.name by have := Ev.wf_tnm HWW.out; unfold InS; omega)
  clear hA hSj HON HOFF HM IC R4 F4 M4 P4 hsw hj hsj
  rcases HWT.out.kinds with ⟨hkd, e1, ha⟩ | ⟨hkd, e1, ha⟩ | ⟨hkd, e1, e2, ha⟩ | ⟨hkd, e1, ha⟩ | ⟨hkd, ha, hn0, hn8⟩ | ⟨hkd, e1, ha⟩
  case inl =>
    rw [hkd] at c0
    rw [hkd, if_pos rfl] at HZ
    obtain ⟨n, rfl⟩ : ∃ n, S = [n] := one_of (by have h := HIN2.out; rw [ha] at h; exact h)
    obtain ⟨g', rfl, hg, hcs⟩ := row_ints HO.out (by simp)
    have r0 := hcs 0 n rfl
    simp only [List.length_cons, List.length_nil, Nat.zero_add, Nat.reduceAdd]
    have HO1 := Lib.hid (show Ev.stE A li ai t = ⟨(t.name, n) :: li, ai, none⟩ from HZ.out)
    have HNO := Lib.hid (Ev.nm_no HNI.out (HTY.out.let_ hkd).1)
    have HW32 := Lib.hid (HSW.out n (by simp))
    clear hkd ha hcs HZ HIH
    go_upto_region 14 with fail
    refine wp_region_flock_tail 6 (fun k => match k with  | _ => none) (by kernel_rfl) (by kernel_rfl) (by kernel_rfl) (by kernel_rfl) ?_
    simp only [List.take_succ_cons, List.take_zero, List.drop_succ_cons, List.drop_zero]
    apply flock_light rfl
    case h => first | exact light_no (by rfl) | ((first | apply light_plain rfl | apply light_yes (by rfl)); intro w9 hw9; obtain ⟨hb9, hh9⟩ := hw9; skip; go_simp; try rfl)
    (try simp only [Act.put, List.setIfInBounds_toArray, List.set_cons_zero, List.set_cons_succ])
    apply flock_light rfl
    case h => first | exact light_no (by rfl) | ((first | apply light_plain rfl | apply light_yes (by rfl)); intro w9 hw9; obtain ⟨hb9, hh9⟩ := hw9; skip; go_simp; try rfl)
    (try simp only [Act.put, List.setIfInBounds_toArray, List.set_cons_zero, List.set_cons_succ])
    apply flock_light rfl
    case h => first | exact light_no (by rfl) | ((first | apply light_plain rfl | apply light_yes (by rfl)); intro w9 hw9; obtain ⟨hb9, hh9⟩ := hw9; have hB9 : Below wr.heap.size wr w9 := (by (repeat' first | with_reducible (first | exact Below.refl _ _ | assumption | refine Below.alloc ?_ ?_ _ | refine below_drewN ?_ _ | refine Below.drew ?_ | refine Below.setCell ?_ ?_ _ | refine Below.trans ?_ (Below.mono (by with_reducible assumption) ?_)) | go_size)); obtain ⟨kc9, kf9, s9⟩ := bfacts hb9; obtain ⟨kd9, kg9, _⟩ := bfacts hB9; skip; go_simp; try rfl)
    (try simp only [Act.put, List.setIfInBounds_toArray, List.set_cons_zero, List.set_cons_succ])
    apply flock_light rfl
    case h => first | exact light_no (by rfl) | ((first | apply light_plain rfl | apply light_yes (by rfl)); intro w9 hw9; obtain ⟨hb9, hh9⟩ := hw9; skip; go_simp; try rfl)
    (try simp only [Act.put, List.setIfInBounds_toArray, List.set_cons_zero, List.set_cons_succ])
    apply flock_light rfl
    case h => first | exact light_no (by rfl) | ((first | apply light_plain rfl | apply light_yes (by rfl)); intro w9 hw9; obtain ⟨hb9, hh9⟩ := hw9; have hB9 : Below wr.heap.size wr w9 := (by (repeat' first | with_reducible (first | exact Below.refl _ _ | assumption | refine Below.alloc ?_ ?_ _ | refine below_drewN ?_ _ | refine Below.drew ?_ | refine Below.setCell ?_ ?_ _ | refine Below.trans ?_ (Below.mono (by with_reducible assumption) ?_)) | go_size)); obtain ⟨kc9, kf9, s9⟩ := bfacts hb9; obtain ⟨kd9, kg9, _⟩ := bfacts hB9; skip; go_simp; try rfl)
    (try simp only [Act.put, List.setIfInBounds_toArray, List.set_cons_zero, List.set_cons_succ])
    apply flock_light rfl
    case h => first | exact light_no (by rfl) | ((first | apply light_plain rfl | apply light_yes (by rfl)); intro w9 hw9; obtain ⟨hb9, hh9⟩ := hw9; have hB9 : Below wr.heap.size wr w9 := (by (repeat' first | with_reducible (first | exact Below.refl _ _ | assumption | refine Below.alloc ?_ ?_ _ | refine below_drewN ?_ _ | refine Below.drew ?_ | refine Below.setCell ?_ ?_ _ | refine Below.trans ?_ (Below.mono (by with_reducible assumption) ?_)) | go_size)); obtain ⟨kc9, kf9, s9⟩ := bfacts hb9; obtain ⟨kd9, kg9, _⟩ := bfacts hB9; skip; go_simp; try rfl)
    (try simp only [Act.put, List.setIfInBounds_toArray, List.set_cons_zero, List.set_cons_succ])
    refine flock_nil ?_
    intro w9 hb9 hh9
    have hB9 : Below wr.heap.size wr w9 := (by (repeat' first | with_reducible (first | exact Below.refl _ _ | assumption | refine Below.alloc ?_ ?_ _ | refine below_drewN ?_ _ | refine Below.drew ?_ | refine Below.setCell ?_ ?_ _ | refine Below.trans ?_ (Below.mono (by with_reducible assumption) ?_)) | go_size))
    clear hh9
    (try dsimp only)
    have N9 := Lib.hid (RR.out.n.on hB9)
    have R9 := Lib.hid (RR.out.on hB9)
    have F9 := Lib.hid (FR.out.on hB9)
    have M9 := Lib.hid (owns_below MRR.out hB9)
    have c29 := (hB9.cell (p := ⟨g, 2, none⟩) zgr).trans c2
    have zg9 := Nat.lt_of_lt_of_le zgr hB9.size
    have HGN := Lib.hid (show g ≠ nb by have := HWG.out; have := HNL.out; omega)
    clear hB9 hb9
    go_upto_region 15 with (at_mapUpdate; refine wpList_updateS_at rfl _ _ _ 137 _ rfl Tryd.underlying137 rfl rfl rfl N9.out HNS.out ?_; intro w7 hm7 ht7)
    have T7 := stu_sfr ht7
    have N7 := Lib.hid (show SMapIn w7 nb (nvF ((t.name, n) :: li)) by rw [nvF_cons]; exact hm7)
    have E7 := Lib.hid (R9.out.m.turn T7 R9.out.nl R9.out.ne R9.out.na)
    have F7 := Lib.hid (F9.out.trans T7 (fun k _ h => .inr (.inr h)))
    have M7 := Lib.hid (own_sfr M9.out T7 (fun k hk h => by have := HNL.out; omega))
    have c27 := (cell_sameE (o := 2) (T7.block g zg9 HGN.out)).trans c29
    have zg7 := Nat.lt_of_lt_of_le zg9 T7.size
    have zw7 := F7.out.size
    clear T7 hm7 ht7 N9 F9 M9 c29 c2
    go_upto_region 36 with (at_builtin; refine wpList_append_own_at _ rfl (.tmp 55) (.tmp 58) _ rfl w.heap.size 9 i2 (.string ⟨#[]⟩) 1 16 Tryd.underlying64 IS.out.1 IS.out.2.1 IS.out.2.2.1 IS.out.2.2.2 rfl (by decide) _ _ _ rfl (M7.out.alloc _) ⟨w7.heap.size, 0, none⟩ 1 1 [.string ⟨t.name.toArray⟩] rfl rfl (cell_one_new _ _ _) (fun x hx => by simp at hx; subst hx; rfl) (by unfold maxLen; omega) (by omega) (by simp; omega) ?_; intro v8 w8 hown8 hg8 hn8 hat8; obtain ⟨A8, c8, rfl, _, _⟩ := SL.form (SL.of_own hown8))
    have b7 : Below w7.heap.size w7 (w7.alloc (.cells #[.string ⟨t.name.toArray⟩] 9)) := (Below.refl _ _).alloc (Nat.le_refl _) _
    have hfr : SFr (fun k => w.heap.size ≤ k) w7 w8 := (SFr.of b7).trans (S' := fun k => w.heap.size ≤ k) ⟨hg8.os, hg8.tape, hg8.output, hg8.size, fun k hk hn => hg8.block k hk (fun h => hn ((M7.out.lt k h.symm).1))⟩ (fun _ _ h => h)
    have RW := Lib.hid (show RIn w8 eb ab nb lo hi vs A ai ((t.name, n) :: li) from
      ⟨E7.out.sfr hfr (fun k hk h => by have := HHS.out; have := HEL.out; have := R9.out.m.al; have := R9.out.m.le; have := HHS.out; omega), N7.out.same (hfr.block nb N7.out.lt (fun h => by have := HNL.out; omega)), R9.out.nl, R9.out.ne, R9.out.na, fun p hp => by
        rcases List.mem_cons.1 hp with rfl | hp
        · exact HW32.out
        · exact R9.out.wn p hp, R9.out.wa⟩)
    have FW := Lib.hid (F7.out.trans hfr (fun k hk h => absurd hk (by omega)))
    have MW := Lib.hid (show w8.ownsRow w.heap.size 9 1 (.slice A8 (mine.length + 1) c8) (mine ++ [t.name]).length (strs (mine ++ [t.name])) by have h := hown8; simpa [strs] using h)
    have HM2 := Lib.hid (show ∀ q ∈ mine ++ [t.name], InS q from fun q hq => by
      rcases List.mem_append.1 hq with hq | hq
      · exact HMS.out q hq
      · rw [List.mem_singleton] at hq; rw [hq]; exact HNS.out)
    clear hown8 hg8 hn8 hat8 hfr b7 c27
    have t2' : w8.cell? ⟨eb, 2, none⟩ = some (.bool false) := RW.out.m.cell 2
    have zt' := RW.out.m.lt
    clear t2
    go_wp2_with fail
    go_roundw
    case rel => exact ⟨i + 1, (t.name, n) :: li, ai, mine ++ [t.name], by have := HLT.out; omega, by go_num, by simp; omega, MW, HM2, Lib.hid (by have h := HNX.out; rw [HO1.out] at h; exact h w8 (mine ++ [t.name]) rfl RW.out FW.out (HLE.out.let_ HNO.out))⟩
    case measure => have := HLT.out; simp [intOf]; omega
  case inr.inl =>
    rw [hkd] at c0
    rw [hkd, if_neg (by decide), if_pos rfl] at HZ
    obtain ⟨n, rfl⟩ : ∃ n, S = [n] := one_of (by have h := HIN2.out; rw [ha] at h; exact h)
    obtain ⟨g', rfl, hg, hcs⟩ := row_ints HO.out (by simp)
    have r0 := hcs 0 n rfl
    simp only [List.length_cons, List.length_nil, Nat.zero_add, Nat.reduceAdd]
    have HO1 := Lib.hid (show Ev.stE A li ai t = ⟨Ev.setN li t.name n, ai, none⟩ from HZ.out)
    obtain ⟨v, hv, _⟩ := HTY.out.set_ hkd
    have HHN := Lib.hid (HNI.out.has hv)
    have HW32 := Lib.hid (HSW.out n (by simp))
    clear hkd ha hcs HZ HIH hv
    go_upto_region 17 with fail
    refine wp_region_flock_tail 6 (fun k => match k with  | _ => none) (by kernel_rfl) (by kernel_rfl) (by kernel_rfl) (by kernel_rfl) ?_
    simp only [List.take_succ_cons, List.take_zero, List.drop_succ_cons, List.drop_zero]
    apply flock_light rfl
    case h => first | exact light_no (by rfl) | ((first | apply light_plain rfl | apply light_yes (by rfl)); intro w9 hw9; obtain ⟨hb9, hh9⟩ := hw9; skip; go_simp; try rfl)
    (try simp only [Act.put, List.setIfInBounds_toArray, List.set_cons_zero, List.set_cons_succ])
    apply flock_light rfl
    case h => first | exact light_no (by rfl) | ((first | apply light_plain rfl | apply light_yes (by rfl)); intro w9 hw9; obtain ⟨hb9, hh9⟩ := hw9; skip; go_simp; try rfl)
    (try simp only [Act.put, List.setIfInBounds_toArray, List.set_cons_zero, List.set_cons_succ])
    apply flock_light rfl
    case h => first | exact light_no (by rfl) | ((first | apply light_plain rfl | apply light_yes (by rfl)); intro w9 hw9; obtain ⟨hb9, hh9⟩ := hw9; have hB9 : Below wr.heap.size wr w9 := (by (repeat' first | with_reducible (first | exact Below.refl _ _ | assumption | refine Below.alloc ?_ ?_ _ | refine below_drewN ?_ _ | refine Below.drew ?_ | refine Below.setCell ?_ ?_ _ | refine Below.trans ?_ (Below.mono (by with_reducible assumption) ?_)) | go_size)); obtain ⟨kc9, kf9, s9⟩ := bfacts hb9; obtain ⟨kd9, kg9, _⟩ := bfacts hB9; skip; go_simp; try rfl)
    (try simp only [Act.put, List.setIfInBounds_toArray, List.set_cons_zero, List.set_cons_succ])
    apply flock_light rfl
    case h => first | exact light_no (by rfl) | ((first | apply light_plain rfl | apply light_yes (by rfl)); intro w9 hw9; obtain ⟨hb9, hh9⟩ := hw9; skip; go_simp; try rfl)
    (try simp only [Act.put, List.setIfInBounds_toArray, List.set_cons_zero, List.set_cons_succ])
    apply flock_light rfl
    case h => first | exact light_no (by rfl) | ((first | apply light_plain rfl | apply light_yes (by rfl)); intro w9 hw9; obtain ⟨hb9, hh9⟩ := hw9; have hB9 : Below wr.heap.size wr w9 := (by (repeat' first | with_reducible (first | exact Below.refl _ _ | assumption | refine Below.alloc ?_ ?_ _ | refine below_drewN ?_ _ | refine Below.drew ?_ | refine Below.setCell ?_ ?_ _ | refine Below.trans ?_ (Below.mono (by with_reducible assumption) ?_)) | go_size)); obtain ⟨kc9, kf9, s9⟩ := bfacts hb9; obtain ⟨kd9, kg9, _⟩ := bfacts hB9; skip; go_simp; try rfl)
    (try simp only [Act.put, List.setIfInBounds_toArray, List.set_cons_zero, List.set_cons_succ])
    apply flock_light rfl
    case h => first | exact light_no (by rfl) | ((first | apply light_plain rfl | apply light_yes (by rfl)); intro w9 hw9; obtain ⟨hb9, hh9⟩ := hw9; have hB9 : Below wr.heap.size wr w9 := (by (repeat' first | with_reducible (first | exact Below.refl _ _ | assumption | refine Below.alloc ?_ ?_ _ | refine below_drewN ?_ _ | refine Below.drew ?_ | refine Below.setCell ?_ ?_ _ | refine Below.trans ?_ (Below.mono (by with_reducible assumption) ?_)) | go_size)); obtain ⟨kc9, kf9, s9⟩ := bfacts hb9; obtain ⟨kd9, kg9, _⟩ := bfacts hB9; skip; go_simp; try rfl)
    (try simp only [Act.put, List.setIfInBounds_toArray, List.set_cons_zero, List.set_cons_succ])
    refine flock_nil ?_
    intro w9 hb9 hh9
    have hB9 : Below wr.heap.size wr w9 := (by (repeat' first | with_reducible (first | exact Below.refl _ _ | assumption | refine Below.alloc ?_ ?_ _ | refine below_drewN ?_ _ | refine Below.drew ?_ | refine Below.setCell ?_ ?_ _ | refine Below.trans ?_ (Below.mono (by with_reducible assumption) ?_)) | go_size))
    clear hh9
    (try dsimp only)
    have N9 := Lib.hid (RR.out.n.on hB9)
    have R9 := Lib.hid (RR.out.on hB9)
    have F9 := Lib.hid (FR.out.on hB9)
    have M9 := Lib.hid (owns_below MRR.out hB9)
    clear hB9 hb9
    go_upto_region 36 with (at_mapUpdate; refine wpList_updateS_at rfl _ _ _ 137 _ rfl Tryd.underlying137 rfl rfl rfl N9.out HNS.out ?_; intro w7 hm7 ht7)
    have T7 := stu_sfr ht7
    have RW := Lib.hid (show RIn w7 eb ab nb lo hi vs A ai (Ev.setN li t.name n) from ⟨R9.out.m.turn T7 R9.out.nl R9.out.ne R9.out.na, by rw [nvF_set HHN.out]; exact hm7, R9.out.nl, R9.out.ne, R9.out.na, Ev.setN_word R9.out.wn _ HW32.out, R9.out.wa⟩)
    have FW := Lib.hid (F9.out.trans T7 (fun k _ h => .inr (.inr h)))
    have MW := Lib.hid (own_sfr M9.out T7 (fun k hk h => by have := HNL.out; omega))
    clear T7 hm7 ht7
    have t2' : w7.cell? ⟨eb, 2, none⟩ = some (.bool false) := RW.out.m.cell 2
    have zt' := RW.out.m.lt
    clear t2
    go_wp2_with fail
    go_roundw
    case rel => exact ⟨i + 1, Ev.setN li t.name n, ai, mine, by have := HLT.out; omega, by go_num, by omega, MW, HMS, Lib.hid (by have h := HNX.out; rw [HO1.out] at h; exact h w7 mine rfl RW.out FW.out (HLE.out.same (Ev.setN_fst _ _ _)))⟩
    case measure => have := HLT.out; simp [intOf]; omega
  case inr.inr.inl =>
    rw [hkd] at c0
    rw [hkd, if_neg (by decide), if_neg (by decide), if_pos rfl] at HZ
    obtain ⟨n, y, rfl⟩ : ∃ n y, S = [n, y] := two_of (by have h := HIN2.out; rw [ha] at h; exact h)
    obtain ⟨g', rfl, hg, hcs⟩ := row_ints HO.out (by simp)
    have r0 := hcs 0 n rfl
    have r1 := hcs 1 y rfl
    have hn0 : 0 ≤ n := (HSW.out n (by simp)).1
    have HWY := Lib.hid (HSW.out y (by simp))
    obtain ⟨p, hp'⟩ := Ev.plC_some (HTY.out.put hkd).1
    have hal := Ev.arrI_lt hp'
    obtain ⟨k, hk⟩ : ∃ k, Ev.arrI A t.name = k := ⟨_, rfl⟩
    rw [hk] at hal HZ
    obtain ⟨q, hq⟩ : ∃ q, ai[k]? = some q := ⟨_, List.getElem?_eq_getElem (by rw [RR.out.m.len]; exact hal)⟩
    have HXY := Lib.hid (show Ev.stE A li ai t = if n < (q.length : Int) then (⟨li, ai.set k (q.set n.toNat y), none⟩ : Ev.EO) else ⟨li, ai, some none⟩ by
      have h := HZ.out
      rw [show ai.getD k [] = q by rw [List.getD_eq_getElem?_getD, hq]; rfl] at h
      exact h)
    obtain ⟨X, ca, hvk, hlc, hcm, hrow⟩ := RR.out.m.rows.at_ hq
    have HLK := Lib.hid (RR.out.m.m.look (T := 134) Tryd.underlying134 (fun u => Tryd.zeroValue46 u) HNS.out false (show rvF A vs t.name = some (.slice X q.length ca) by unfold rvF; rw [hk]; exact hvk))
    simp only [Bool.false_eq_true, if_false, Option.getD_some] at HLK
    have t0 : wr.cell? ⟨eb, 0, none⟩ = some (.map (some ab)) := RR.out.m.cell 0
    have t1 : wr.cell? ⟨eb, 1, none⟩ = some (.bool false) := RR.out.m.cell 1
    have HROW := Lib.hid hrow
    have HQ := Lib.hid hq
    have HVK := Lib.hid hvk
    unfold maxLen at hcm
    simp only [List.length_cons, List.length_nil, Nat.zero_add, Nat.reduceAdd]
    clear ha hcs HZ hp' hal hk hq hvk hrow HIH
    by_cases hnq : n < (q.length : Int)
    case neg =>
      have g0 : decide ((q.length : Int) ≤ n) = true := decide_eq_true (by omega)
      have HO1 := Lib.hid (show Ev.stE A li ai t = ⟨li, ai, some none⟩ by rw [HXY.out, if_neg hnq])
      have HXR := Lib.hid (show (⟨li, ai, some none⟩ : Ev.EO) = R from by rw [← HST.out (by rw [HO1.out]; rfl), HO1.out])
      clear hnq HNX HST hkd
      go_upto_region 19 with fail
      refine wp_region_chain (fun w' => Below (wr).heap.size (wr) w') (by kernel_rfl) (by kernel_rfl) (by (repeat' first | with_reducible (first | exact Below.refl _ _ | assumption | refine Below.alloc ?_ ?_ _ | refine below_drewN ?_ _ | refine Below.drew ?_ | refine Below.setCell ?_ ?_ _ | refine Below.trans ?_ (Below.mono (by with_reducible assumption) ?_)) | go_size)) ?_
      repeat (
        apply chain_cons
        case h =>
          refine fun w9 hb9 => ?_
          have hB9 : Below wr.heap.size wr w9 := by (repeat' first | with_reducible (first | exact Below.refl _ _ | assumption | refine Below.alloc ?_ ?_ _ | refine below_drewN ?_ _ | refine Below.drew ?_ | refine Below.setCell ?_ ?_ _ | refine Below.trans ?_ (Below.mono (by with_reducible assumption) ?_)) | go_size)
          obtain ⟨kc9, kf9, s9⟩ := bfacts hb9
          obtain ⟨kd9, kg9, _⟩ := bfacts hB9
          go_wp2_with (at_lookup; refine wpList_lookupS_at rfl _ _ 134 false rfl rfl rfl (HLK.out _ (by (repeat' first | with_reducible (first | exact Below.refl _ _ | assumption | refine Below.alloc ?_ ?_ _ | refine below_drewN ?_ _ | refine Below.drew ?_ | refine Below.setCell ?_ ?_ _ | refine Below.trans ?_ (Below.mono (by with_reducible assumption) ?_)) | go_size))) ?_)
          (try (fail; go_wp2_with fail))
          refine settled_intro (S := fun w' => Below (wr).heap.size (wr) w') ?_
          (repeat' first | with_reducible (first | exact Below.refl _ _ | assumption | refine Below.alloc ?_ ?_ _ | refine below_drewN ?_ _ | refine Below.drew ?_ | refine Below.setCell ?_ ?_ _ | refine Below.trans ?_ (Below.mono (by with_reducible assumption) ?_)) | go_size)
        case hp => first | rfl | (simp only [*]; done) | (simp only [*]; rfl))
      refine chain.nil ?_
      refine fun w19 hb19 => ?_
      have B19 : Below wr.heap.size wr w19 := by (repeat' first | with_reducible (first | exact Below.refl _ _ | assumption | refine Below.alloc ?_ ?_ _ | refine below_drewN ?_ _ | refine Below.drew ?_ | refine Below.setCell ?_ ?_ _ | refine Below.trans ?_ (Below.mono (by with_reducible assumption) ?_)) | go_size)
      obtain ⟨kc19, kf19, s19⟩ := bfacts hb19
      obtain ⟨kd19, kg19, _⟩ := bfacts B19
      (try simp only [World.size_alloc, World.size_setCell, World.size_drew, World.heap_drewN, Nat.add_one_le_iff] at s19)
      clear hb19
      have hb19 := B19
      clear B19
      have B19 : Hid (Below wr.heap.size wr w19) := hb19
      (try have z19 : wr.heap.size < w19.heap.size := by omega)
      (try dsimp only)
      have hbw : Below wr.heap.size wr w19 := hb19
      have R9 := Lib.hid (RR.out.on hbw)
      have F9 := Lib.hid (FR.out.on hbw)
      have t2' : w19.cell? ⟨eb, 2, none⟩ = some (.bool false) := R9.out.m.cell 2
      have t1' : w19.cell? ⟨eb, 1, none⟩ = some (.bool false) := R9.out.m.cell 1
      have f1 := R9.out.m.free 1
      have f2 := R9.out.m.free 2
      have zt9 := R9.out.m.lt
      clear hb19 kc19 kf19 kd19 kg19 s19 B19 hbw t2 t1 t0
      go_wp2_with fail
      (try simp only [Exit.inBlock, Exit.then])
      refine bodyPost_ret (results_none rfl _ _ _) rfl ?_
      have PF := (SFr.put (S := TS eb) w19 eb 2 (.bool true) rfl).trans (SFr.put (S := TS eb) _ eb 1 (.bool true) rfl) (fun _ _ h => h)
      refine ⟨rfl, F9.out.trans PF (fun k _ h => ts_mr k h), by rw [← HXR.out]; exact R9.out.m.trap, ⟨_, R9.out.n.same (PF.block nb R9.out.n.lt R9.out.ne)⟩, fun h => ?_⟩
      rw [← HXR.out] at h
      cases h
    case pos =>
      have g0 : decide ((q.length : Int) ≤ n) = false := decide_eq_false (by omega)
      obtain ⟨N, hN⟩ : ∃ N : Nat, n = (N : Int) := ⟨n.toNat, by omega⟩
      subst hN
      have hNq : N < q.length := by omega
      have hqN : q[N]? = some q[N] := List.getElem?_eq_getElem hNq
      obtain ⟨gq, rfl, h11, h12, h13, h14, h15⟩ := HROW.out (by omega)
      have u0 := h15 N _ hqN
      have HO1 := Lib.hid (show Ev.stE A li ai t = ⟨li, ai.set k (q.set N y), none⟩ by rw [HXY.out, if_pos hnq, Int.toNat_natCast])
      have HP2 := HPS.out
      rw [HO1.out] at HP2
      have HPQ := Lib.hid HP2.1
      have HGB := Lib.hid (show lo ≤ gq ∧ gq < hi from ⟨h11, h13⟩)
      have H14 := Lib.hid h14
      have H12 := Lib.hid h12
      generalize q[N] = z at *
      clear hnq HXY hqN h15 h14 h13 h11 HROW HST hkd HP2
      go_upto_region 19 with fail
      refine wp_region_chain (fun w' => Below (wr).heap.size (wr) w') (by kernel_rfl) (by kernel_rfl) (by (repeat' first | with_reducible (first | exact Below.refl _ _ | assumption | refine Below.alloc ?_ ?_ _ | refine below_drewN ?_ _ | refine Below.drew ?_ | refine Below.setCell ?_ ?_ _ | refine Below.trans ?_ (Below.mono (by with_reducible assumption) ?_)) | go_size)) ?_
      repeat (
        apply chain_cons
        case h =>
          refine fun w9 hb9 => ?_
          have hB9 : Below wr.heap.size wr w9 := by (repeat' first | with_reducible (first | exact Below.refl _ _ | assumption | refine Below.alloc ?_ ?_ _ | refine below_drewN ?_ _ | refine Below.drew ?_ | refine Below.setCell ?_ ?_ _ | refine Below.trans ?_ (Below.mono (by with_reducible assumption) ?_)) | go_size)
          obtain ⟨kc9, kf9, s9⟩ := bfacts hb9
          obtain ⟨kd9, kg9, _⟩ := bfacts hB9
          go_wp2_with (at_lookup; refine wpList_lookupS_at rfl _ _ 134 false rfl rfl rfl (HLK.out _ (by (repeat' first | with_reducible (first | exact Below.refl _ _ | assumption | refine Below.alloc ?_ ?_ _ | refine below_drewN ?_ _ | refine Below.drew ?_ | refine Below.setCell ?_ ?_ _ | refine Below.trans ?_ (Below.mono (by with_reducible assumption) ?_)) | go_size))) ?_)
          (try (fail; go_wp2_with fail))
          refine settled_intro (S := fun w' => Below (wr).heap.size (wr) w') ?_
          (repeat' first | with_reducible (first | exact Below.refl _ _ | assumption | refine Below.alloc ?_ ?_ _ | refine below_drewN ?_ _ | refine Below.drew ?_ | refine Below.setCell ?_ ?_ _ | refine Below.trans ?_ (Below.mono (by with_reducible assumption) ?_)) | go_size)
        case hp => first | rfl | (simp only [*]; done) | (simp only [*]; rfl))
      refine chain.nil ?_
      refine fun w19 hb19 => ?_
      have B19 : Below wr.heap.size wr w19 := by (repeat' first | with_reducible (first | exact Below.refl _ _ | assumption | refine Below.alloc ?_ ?_ _ | refine below_drewN ?_ _ | refine Below.drew ?_ | refine Below.setCell ?_ ?_ _ | refine Below.trans ?_ (Below.mono (by with_reducible assumption) ?_)) | go_size)
      obtain ⟨kc19, kf19, s19⟩ := bfacts hb19
      obtain ⟨kd19, kg19, _⟩ := bfacts B19
      (try simp only [World.size_alloc, World.size_setCell, World.size_drew, World.heap_drewN, Nat.add_one_le_iff] at s19)
      clear hb19
      have hb19 := B19
      clear B19
      have B19 : Hid (Below wr.heap.size wr w19) := hb19
      (try have z19 : wr.heap.size < w19.heap.size := by omega)
      (try dsimp only)
      have hbw : Below wr.heap.size wr w19 := hb19
      have HLK2 := Lib.hid (fun u (hu : Below w19.heap.size w19 u) => HLK.out u (hbw.trans (hu.mono hbw.size)))
      have R9 := Lib.hid (RR.out.on hbw)
      have F9 := Lib.hid (FR.out.on hbw)
      have M9 := Lib.hid (owns_below MRR.out hbw)
      have t09 : w19.cell? ⟨eb, 0, none⟩ = some (.map (some ab)) := R9.out.m.cell 0
      have zt9 := R9.out.m.lt
      have r09 := (hbw.cell (p := ⟨g', 0, none⟩) hg).trans r0
      have r19 := (hbw.cell (p := ⟨g', 1, none⟩) hg).trans r1
      have u09 := (hbw.cell (p := ⟨gq, N, none⟩) h12).trans u0
      have c29 := (hbw.cell (p := ⟨g, 2, none⟩) zgr).trans c2
      have zg9 := Nat.lt_of_lt_of_le zgr hbw.size
      have zh9 := Nat.lt_of_lt_of_le hg hbw.size
      have zq9 := Nat.lt_of_lt_of_le h12 hbw.size
      have f09 : w19.frozen? ⟨gq, N, none⟩ = false := by
        have h := H14.out N
        unfold World.frozen? at h ⊢
        dsimp only at h ⊢
        rw [hbw.block gq H12.out]
        exact h
      clear hb19 kc19 kf19 kd19 kg19 s19 B19 HLK hbw t0 t1 t2 r0 r1 u0 c2 h12
      go_upto_region 21 with fail
      refine wp_region_flock_tail 14 (fun k => match k with | 6 => some (Hv.is (.slice (some ⟨gq, 0, none⟩) q.length ca)) | _ => none) (by kernel_rfl) (by kernel_rfl) (by kernel_rfl) (by kernel_rfl) ?_
      simp only [List.take_succ_cons, List.take_zero, List.drop_succ_cons, List.drop_zero]
      apply flock_light rfl
      case h => first | exact light_no (by rfl) | ((first | apply light_plain rfl | apply light_yes (by rfl)); intro w9 hw9; obtain ⟨hb9, hh9⟩ := hw9; skip; go_simp; try rfl)
      (try simp only [Act.put, List.setIfInBounds_toArray, List.set_cons_zero, List.set_cons_succ])
      apply flock_light rfl
      case h => first | exact light_no (by rfl) | ((first | apply light_plain rfl | apply light_yes (by rfl)); intro w9 hw9; obtain ⟨hb9, hh9⟩ := hw9; have hB9 : Below w19.heap.size w19 w9 := (by (repeat' first | with_reducible (first | exact Below.refl _ _ | assumption | refine Below.alloc ?_ ?_ _ | refine below_drewN ?_ _ | refine Below.drew ?_ | refine Below.setCell ?_ ?_ _ | refine Below.trans ?_ (Below.mono (by with_reducible assumption) ?_)) | go_size)); obtain ⟨kc9, kf9, s9⟩ := bfacts hb9; obtain ⟨kd9, kg9, _⟩ := bfacts hB9; skip; go_simp; try rfl)
      (try simp only [Act.put, List.setIfInBounds_toArray, List.set_cons_zero, List.set_cons_succ])
      apply flock_light rfl
      case h => first | exact light_no (by rfl) | ((first | apply light_plain rfl | apply light_yes (by rfl)); intro w9 hw9; obtain ⟨hb9, hh9⟩ := hw9; skip; go_simp; try rfl)
      (try simp only [Act.put, List.setIfInBounds_toArray, List.set_cons_zero, List.set_cons_succ])
      apply flock_light rfl
      case h => first | exact light_no (by rfl) | ((first | apply light_plain rfl | apply light_yes (by rfl)); intro w9 hw9; obtain ⟨hb9, hh9⟩ := hw9; have hB9 : Below w19.heap.size w19 w9 := (by (repeat' first | with_reducible (first | exact Below.refl _ _ | assumption | refine Below.alloc ?_ ?_ _ | refine below_drewN ?_ _ | refine Below.drew ?_ | refine Below.setCell ?_ ?_ _ | refine Below.trans ?_ (Below.mono (by with_reducible assumption) ?_)) | go_size)); obtain ⟨kc9, kf9, s9⟩ := bfacts hb9; obtain ⟨kd9, kg9, _⟩ := bfacts hB9; skip; go_simp; try rfl)
      (try simp only [Act.put, List.setIfInBounds_toArray, List.set_cons_zero, List.set_cons_succ])
      apply flock_light rfl
      case h => first | exact light_no (by rfl) | ((first | apply light_plain rfl | apply light_yes (by rfl)); intro w9 hw9; obtain ⟨hb9, hh9⟩ := hw9; skip; go_simp; try rfl)
      (try simp only [Act.put, List.setIfInBounds_toArray, List.set_cons_zero, List.set_cons_succ])
      apply flock_light rfl
      case h => first | exact light_no (by rfl) | ((first | apply light_plain rfl | apply light_yes (by rfl)); intro w9 hw9; obtain ⟨hb9, hh9⟩ := hw9; have hB9 : Below w19.heap.size w19 w9 := (by (repeat' first | with_reducible (first | exact Below.refl _ _ | assumption | refine Below.alloc ?_ ?_ _ | refine below_drewN ?_ _ | refine Below.drew ?_ | refine Below.setCell ?_ ?_ _ | refine Below.trans ?_ (Below.mono (by with_reducible assumption) ?_)) | go_size)); obtain ⟨kc9, kf9, s9⟩ := bfacts hb9; obtain ⟨kd9, kg9, _⟩ := bfacts hB9; skip; go_simp; try rfl)
      (try simp only [Act.put, List.setIfInBounds_toArray, List.set_cons_zero, List.set_cons_succ])
      refine flock_heavy _ rfl ?_ ?_
      · intro w9 hb9 hh9
        have hB9 : Below w19.heap.size w19 w9 := (by (repeat' first | with_reducible (first | exact Below.refl _ _ | assumption | refine Below.alloc ?_ ?_ _ | refine below_drewN ?_ _ | refine Below.drew ?_ | refine Below.setCell ?_ ?_ _ | refine Below.trans ?_ (Below.mono (by with_reducible assumption) ?_)) | go_size))
        obtain ⟨kc9, kf9, s9⟩ := bfacts hb9
        obtain ⟨kd9, kg9, _⟩ := bfacts hB9
        skip
        go_wp2_with (at_lookup; refine wpList_lookupS_at rfl _ _ 134 false rfl rfl rfl (HLK2.out _ (by (repeat' first | with_reducible (first | exact Below.refl _ _ | assumption | refine Below.alloc ?_ ?_ _ | refine below_drewN ?_ _ | refine Below.drew ?_ | refine Below.setCell ?_ ?_ _ | refine Below.trans ?_ (Below.mono (by with_reducible assumption) ?_)) | go_size))) ?_)
        refine grewTo_at (by rfl) (by (repeat' first | with_reducible (first | exact Below.refl _ _ | assumption | refine Below.alloc ?_ ?_ _ | refine below_drewN ?_ _ | refine Below.drew ?_ | refine Below.setCell ?_ ?_ _ | refine Below.trans ?_ (Below.mono (by with_reducible assumption) ?_)) | go_size)) ?_
        rfl
      intro x6 ok6
      (try simp only [Act.put, List.setIfInBounds_toArray, List.set_cons_zero, List.set_cons_succ])
      (try dsimp only [Hv.own, Hv.is, Hv.lit, Hv.box, Hv.sl] at ok6)
      first | subst ok6 | (obtain ⟨A6, c6, ok6⟩ := ok6; subst ok6) | (obtain ⟨A6, ok6⟩ := ok6; subst ok6) | skip
      apply flock_light rfl
      case h => first | exact light_no (by rfl) | ((first | apply light_plain rfl | apply light_yes (by rfl)); intro w9 hw9; obtain ⟨hb9, hh9⟩ := hw9; skip; go_simp; try rfl)
      (try simp only [Act.put, List.setIfInBounds_toArray, List.set_cons_zero, List.set_cons_succ])
      apply flock_light rfl
      case h => first | exact light_no (by rfl) | ((first | apply light_plain rfl | apply light_yes (by rfl)); intro w9 hw9; obtain ⟨hb9, hh9⟩ := hw9; have hB9 : Below w19.heap.size w19 w9 := (by (repeat' first | with_reducible (first | exact Below.refl _ _ | assumption | refine Below.alloc ?_ ?_ _ | refine below_drewN ?_ _ | refine Below.drew ?_ | refine Below.setCell ?_ ?_ _ | refine Below.trans ?_ (Below.mono (by with_reducible assumption) ?_)) | go_size)); obtain ⟨kc9, kf9, s9⟩ := bfacts hb9; obtain ⟨kd9, kg9, _⟩ := bfacts hB9; skip; go_simp; try rfl)
      (try simp only [Act.put, List.setIfInBounds_toArray, List.set_cons_zero, List.set_cons_succ])
      apply flock_light rfl
      case h => first | exact light_no (by rfl) | ((first | apply light_plain rfl | apply light_yes (by rfl)); intro w9 hw9; obtain ⟨hb9, hh9⟩ := hw9; have hB9 : Below w19.heap.size w19 w9 := (by (repeat' first | with_reducible (first | exact Below.refl _ _ | assumption | refine Below.alloc ?_ ?_ _ | refine below_drewN ?_ _ | refine Below.drew ?_ | refine Below.setCell ?_ ?_ _ | refine Below.trans ?_ (Below.mono (by with_reducible assumption) ?_)) | go_size)); obtain ⟨kc9, kf9, s9⟩ := bfacts hb9; obtain ⟨kd9, kg9, _⟩ := bfacts hB9; skip; go_simp; try rfl)
      (try simp only [Act.put, List.setIfInBounds_toArray, List.set_cons_zero, List.set_cons_succ])
      apply flock_light rfl
      case h => first | exact light_no (by rfl) | ((first | apply light_plain rfl | apply light_yes (by rfl)); intro w9 hw9; obtain ⟨hb9, hh9⟩ := hw9; skip; go_simp; try rfl)
      (try simp only [Act.put, List.setIfInBounds_toArray, List.set_cons_zero, List.set_cons_succ])
      apply flock_light rfl
      case h => first | exact light_no (by rfl) | ((first | apply light_plain rfl | apply light_yes (by rfl)); intro w9 hw9; obtain ⟨hb9, hh9⟩ := hw9; have hB9 : Below w19.heap.size w19 w9 := (by (repeat' first | with_reducible (first | exact Below.refl _ _ | assumption | refine Below.alloc ?_ ?_ _ | refine below_drewN ?_ _ | refine Below.drew ?_ | refine Below.setCell ?_ ?_ _ | refine Below.trans ?_ (Below.mono (by with_reducible assumption) ?_)) | go_size)); obtain ⟨kc9, kf9, s9⟩ := bfacts hb9; obtain ⟨kd9, kg9, _⟩ := bfacts hB9; skip; go_simp; try rfl)
      (try simp only [Act.put, List.setIfInBounds_toArray, List.set_cons_zero, List.set_cons_succ])
      apply flock_light rfl
      case h => first | exact light_no (by rfl) | ((first | apply light_plain rfl | apply light_yes (by rfl)); intro w9 hw9; obtain ⟨hb9, hh9⟩ := hw9; have hB9 : Below w19.heap.size w19 w9 := (by (repeat' first | with_reducible (first | exact Below.refl _ _ | assumption | refine Below.alloc ?_ ?_ _ | refine below_drewN ?_ _ | refine Below.drew ?_ | refine Below.setCell ?_ ?_ _ | refine Below.trans ?_ (Below.mono (by with_reducible assumption) ?_)) | go_size)); obtain ⟨kc9, kf9, s9⟩ := bfacts hb9; obtain ⟨kd9, kg9, _⟩ := bfacts hB9; skip; go_simp; try rfl)
      (try simp only [Act.put, List.setIfInBounds_toArray, List.set_cons_zero, List.set_cons_succ])
      apply flock_light rfl
      case h => first | exact light_no (by rfl) | ((first | apply light_plain rfl | apply light_yes (by rfl)); intro w9 hw9; obtain ⟨hb9, hh9⟩ := hw9; have hB9 : Below w19.heap.size w19 w9 := (by (repeat' first | with_reducible (first | exact Below.refl _ _ | assumption | refine Below.alloc ?_ ?_ _ | refine below_drewN ?_ _ | refine Below.drew ?_ | refine Below.setCell ?_ ?_ _ | refine Below.trans ?_ (Below.mono (by with_reducible assumption) ?_)) | go_size)); obtain ⟨kc9, kf9, s9⟩ := bfacts hb9; obtain ⟨kd9, kg9, _⟩ := bfacts hB9; have r6 := hh9 _ (.head _) (by kernel_rfl); dsimp only [Hv.own, Hv.is, Hv.lit, Hv.box, Hv.sl] at r6; (first | replace r6 := lit_heap r6 | replace r6 := box_heap r6 | skip); skip; go_simp; try rfl)
      (try simp only [Act.put, List.setIfInBounds_toArray, List.set_cons_zero, List.set_cons_succ])
      refine flock_nil ?_
      intro w9 hb9 hh9
      have hB9 : Below w19.heap.size w19 w9 := (by (repeat' first | with_reducible (first | exact Below.refl _ _ | assumption | refine Below.alloc ?_ ?_ _ | refine below_drewN ?_ _ | refine Below.drew ?_ | refine Below.setCell ?_ ?_ _ | refine Below.trans ?_ (Below.mono (by with_reducible assumption) ?_)) | go_size))
      have r6 := hh9 _ (.head _); dsimp only [Hv.own, Hv.is, Hv.lit, Hv.box, Hv.sl] at r6; (first | replace r6 := lit_heap r6 | replace r6 := box_heap r6 | skip); clear hh9
      (try dsimp only)
      have R8 := Lib.hid (R9.out.on hB9)
      have F8 := Lib.hid (F9.out.on hB9)
      have M8 := Lib.hid (owns_below M9.out hB9)
      have u08 := (hB9.cell (p := ⟨gq, N, none⟩) zq9).trans u09
      have f08 : w9.frozen? ⟨gq, N, none⟩ = false := by
        have h := f09
        unfold World.frozen? at h ⊢
        dsimp only at h ⊢
        rw [hB9.block gq zq9]
        exact h
      have zq8 := Nat.lt_of_lt_of_le zq9 hB9.size
      clear hB9 hb9 u09 f09
      go_upto_region 36 with fail
      have PF := SFr.put (S := fun j => j = gq) w9 gq N (.int .i64 y) rfl
      have RW := Lib.hid (show RIn (w9.setCell ⟨gq, N, none⟩ (.int .i64 y)) eb ab nb lo hi vs A (ai.set k (q.set N y)) li from
        ⟨R8.out.m.setA HQ.out HVK.out N y, R8.out.n.same (PF.block nb R8.out.n.lt (by have := HGB.out; have := R8.out.nl; omega)), R8.out.nl, R8.out.ne, R8.out.na, R8.out.wn, HPQ.out.wa⟩)
      have FW := Lib.hid (F8.out.trans (SFr.put (S := MR lo hi eb nb) w9 gq N (.int .i64 y) (.inl HGB.out)) (fun _ _ h => h))
      have MW := Lib.hid (own_sfr M8.out (SFr.put (S := MR lo hi eb nb) w9 gq N (.int .i64 y) (.inl HGB.out)) HMW.out)
      have HN3 := Lib.hid (by have h := HNX.out; rw [HO1.out] at h; exact h _ mine rfl RW.out FW.out (HLE.out.same rfl))
      clear PF u08 f08
      generalize w9.setCell ⟨gq, N, none⟩ (.int .i64 y) = w7 at *
      have t2' : w7.cell? ⟨eb, 2, none⟩ = some (.bool false) := RW.out.m.cell 2
      have zt' := RW.out.m.lt
      go_wp2_with fail
      go_roundw
      case rel => exact ⟨i + 1, _, _, mine, by have := HLT.out; omega, by go_num, by omega, MW, HMS, HN3⟩
      case measure => have := HLT.out; simp [intOf]; omega
  case inr.inr.inr.inl =>
    rw [hkd] at c0
    rw [hkd, if_neg (by decide), if_neg (by decide), if_neg (by decide), if_pos rfl] at HZ
    obtain ⟨n, rfl⟩ : ∃ n, S = [n] := one_of (by have h := HIN2.out; rw [ha] at h; exact h)
    obtain ⟨g', rfl, hg, hcs⟩ := row_ints HO.out (by simp)
    have r0 := hcs 0 n rfl
    simp only [List.length_cons, List.length_nil, Nat.zero_add, Nat.reduceAdd]
    have HK1 := Lib.hid (show ¬ t.kind = 1 by rw [hkd]; decide)
    by_cases h0 : n = 0
    case neg =>
      have HO1 := Lib.hid (show Ev.stE A li ai t = (Ev.blE A li ai t.thn).back li from by rw [HZ.out]; exact if_pos h0)
      have g0 : (n == 0) = false := beq_eq_false_iff_ne.2 h0
      have HP2 := HPS.out
      rw [HO1.out] at HP2
      clear h0
      have CB := Lib.hid (HIH.out t.thn A Li _ li ai eb ab nb lo hi _ vs wr K RR.out HNI.out T2.out HKM.out HWT.out.thn HSP.out.1 HSP.out.2.2.1 (HTY.out.thn hkd))
      clear hkd ha hcs HZ HIH
      go_upto_region 36 with (go_at_call 73; refine CB.out.mono ?_; rintro r w5 ⟨rfl, hF5, hM5, hm5, hN5⟩)
      have HF5 := Lib.hid hF5
      have HM5 := Lib.hid hM5
      have Hm5 := Lib.hid hm5
      have HN5 := Lib.hid hN5
      have FW := Lib.hid (FR.out.trans hF5 (fun _ _ h => h))
      have HPQ := Lib.hid HP2
      clear hF5 hM5 hm5 hN5 CB HP2
      cases he : (Ev.blE A li ai t.thn).e with
      | none =>
        rw [he] at HM5
        have RW := Lib.hid (show RIn w5 eb ab nb lo hi vs A (Ev.blE A li ai t.thn).a ((Ev.blE A li ai t.thn).back li).l from ⟨HM5.out, HN5.out he, RR.out.nl, RR.out.ne, RR.out.na, HPQ.out.1.wn, HPQ.out.1.wa⟩)
        have MW := Lib.hid (own_sfr MRR.out HF5.out HMW.out)
        have HN3 := Lib.hid (by have h := HNX.out; rw [HO1.out] at h; exact h w5 mine he RW.out FW.out (HLE.out.same (HPQ.out.2.trans (if_neg (fun h => HK1.out h.1)))))
        clear he
        have t2' : w5.cell? ⟨eb, 2, none⟩ = some (.bool false) := RW.out.m.cell 2
        have zt' := RW.out.m.lt
        clear t2
        go_wp2_with fail
        go_roundw
        case rel => exact ⟨i + 1, _, _, mine, by have := HLT.out; omega, by go_num, by omega, MW, HMS, HN3⟩
        case measure => have := HLT.out; simp [intOf]; omega
      | some xx =>
        rw [he] at HM5
        have HXR := Lib.hid (show (Ev.blE A li ai t.thn).back li = R from by rw [← HO1.out]; exact HST.out (by rw [HO1.out]; show (Ev.blE A li ai t.thn).e.isSome = true; rw [he]; rfl))
        have t2' : w5.cell? ⟨eb, 2, none⟩ = some (.bool true) := HM5.out.cell 2
        have zt' := HM5.out.lt
        have HEE := Lib.hid (show R.e = some xx from by rw [← HXR.out]; exact he)
        clear t2 he
        go_wp2_with fail
        (try simp only [Exit.inBlock, Exit.then])
        refine bodyPost_ret (results_none rfl _ _ _) rfl ?_
        refine ⟨rfl, FW.out, by rw [HEE.out, ← HXR.out]; exact HM5.out, Hm5.out, fun h => ?_⟩
        rw [HEE.out] at h
        cases h
    case pos =>
      have HO1 := Lib.hid (show Ev.stE A li ai t = (Ev.blE A li ai t.els).back li from by rw [HZ.out]; exact if_neg (not_not_intro h0))
      have g0 : (n == 0) = true := beq_iff_eq.2 h0
      have HP2 := HPS.out
      rw [HO1.out] at HP2
      clear h0
      have CB := Lib.hid (HIH.out t.els A Li _ li ai eb ab nb lo hi _ vs wr K RR.out HNI.out T3.out HKM.out HWT.out.els HSP.out.2.1 HSP.out.2.2.2 (HTY.out.els hkd))
      clear hkd ha hcs HZ HIH
      go_upto_region 36 with (go_at_call 73; refine CB.out.mono ?_; rintro r w5 ⟨rfl, hF5, hM5, hm5, hN5⟩)
      have HF5 := Lib.hid hF5
      have HM5 := Lib.hid hM5
      have Hm5 := Lib.hid hm5
      have HN5 := Lib.hid hN5
      have FW := Lib.hid (FR.out.trans hF5 (fun _ _ h => h))
      have HPQ := Lib.hid HP2
      clear hF5 hM5 hm5 hN5 CB HP2
      cases he : (Ev.blE A li ai t.els).e with
      | none =>
        rw [he] at HM5
        have RW := Lib.hid (show RIn w5 eb ab nb lo hi vs A (Ev.blE A li ai t.els).a ((Ev.blE A li ai t.els).back li).l from ⟨HM5.out, HN5.out he, RR.out.nl, RR.out.ne, RR.out.na, HPQ.out.1.wn, HPQ.out.1.wa⟩)
        have MW := Lib.hid (own_sfr MRR.out HF5.out HMW.out)
        have HN3 := Lib.hid (by have h := HNX.out; rw [HO1.out] at h; exact h w5 mine he RW.out FW.out (HLE.out.same (HPQ.out.2.trans (if_neg (fun h => HK1.out h.1)))))
        clear he
        have t2' : w5.cell? ⟨eb, 2, none⟩ = some (.bool false) := RW.out.m.cell 2
        have zt' := RW.out.m.lt
        clear t2
        go_wp2_with fail
        go_roundw
        case rel => exact ⟨i + 1, _, _, mine, by have := HLT.out; omega, by go_num, by omega, MW, HMS, HN3⟩
        case measure => have := HLT.out; simp [intOf]; omega
      | some xx =>
        rw [he] at HM5
        have HXR := Lib.hid (show (Ev.blE A li ai t.els).back li = R from by rw [← HO1.out]; exact HST.out (by rw [HO1.out]; show (Ev.blE A li ai t.els).e.isSome = true; rw [he]; rfl))
        have t2' : w5.cell? ⟨eb, 2, none⟩ = some (.bool true) := HM5.out.cell 2
        have zt' := HM5.out.lt
        have HEE := Lib.hid (show R.e = some xx from by rw [← HXR.out]; exact he)
        clear t2 he
        go_wp2_with fail
        (try simp only [Exit.inBlock, Exit.then])
        refine bodyPost_ret (results_none rfl _ _ _) rfl ?_
        refine ⟨rfl, FW.out, by rw [HEE.out, ← HXR.out]; exact HM5.out, Hm5.out, fun h => ?_⟩
        rw [HEE.out] at h
        cases h
  case inr.inr.inr.inr.inl =>
    rw [hkd] at c0
    rw [hkd, if_neg (by decide), if_neg (by decide), if_neg (by decide), if_neg (by decide), if_pos rfl] at HZ
    obtain ⟨N, hN⟩ : ∃ N : Nat, t.n = (N : Int) := ⟨t.n.toNat, by omega⟩
    have hN8 : N ≤ 8 := by omega
    have HTN := Lib.hid (HTY.out.loop hkd).2.2
    rw [hN] at c1 HZ HTN
    obtain ⟨f, hf⟩ : ∃ f, (fun (j : Int) (l' : Ev.Nms) (a : Ev.Ars) => (Ev.blE A ((t.name, j) :: l') a t.thn).back l') = f := ⟨_, rfl⟩
    have HFF := Lib.hid (fun j l' a => (congrFun (congrFun (congrFun hf j) l') a).symm)
    have HNO := Lib.hid (Ev.nm_no HNI.out (HTY.out.loop hkd).1)
    have HK1 := Lib.hid (show ¬ t.kind = 1 by rw [hkd]; decide)
    have HTM := Lib.hid (show Ev.timesE f (N - 0) ((0 : Nat) : Int) li ai = Ev.stE A li ai t from by rw [HZ.out, ← hf]; rfl)
    obtain ⟨O, hO⟩ : ∃ O, Ev.stE A li ai t = O := ⟨_, rfl⟩
    have HOO := Lib.hid hO
    rw [hO] at HTM
    clear hkd ha hn0 hn8 hN HZ hf hO HPS
    go_upto_region 28 with fail
    generalize wr = w1 at *
    go_loopw [122] (fun zz wx => ∃ (j : Nat) (mm : SMapF) (lj : Ev.Nms) (aj : Ev.Ars) (ej : Option (Option Int)), j ≤ N ∧ zz = .int .i64 (j : Int) ∧ Hid (RFor w1 wx eb ab nb lo hi vs A f N t.name li O j mm lj aj ej)) (fun zz _ => N - (intOf zz).toNat)
    case atStart => exact ⟨0, nvF li, li, ai, none, by omega, rfl, Lib.hid ⟨RR.out.m, RR.out.n, SFr.refl _ _, fun _ => ⟨rfl, RR.out.wn, RR.out.wa, fun q _ => rfl, HTM.out⟩, fun h => by cases h⟩⟩
    case round =>
    obtain ⟨j, mm, lj, aj, ej, hj', rfl, HFA⟩ := hrel
    have RGX := Lib.hid ((HFA.out.fr.block g zgr HGM.out).trans RG.out)
    have T2X := Lib.hid (RStL.sfr T2.out HFA.out.fr HKM.out)
    have c2x := cell_of_block RGX.out 2
    have c5x := cell_of_block RGX.out 5
    simp only [List.getElem?_toArray, List.getElem?_cons_zero, List.getElem?_cons_succ] at c2x c5x
    have zgx := Nat.lt_of_lt_of_le zgr HFA.out.fr.size
    have HGN := Lib.hid (show g ≠ nb by have := HWG.out; have := HNL.out; omega)
    clear t2 c0 c1 c2 c5 c6 zgr ztr
    by_cases hltj : j < N
    case pos =>
      go_upto_region 31 with (at_mapUpdate; refine wpList_updateS_at rfl _ _ _ 137 _ rfl Tryd.underlying137 rfl rfl rfl HFA.out.n HNS.out ?_; intro w7 hm7 ht7)
      have T7 := stu_sfr ht7
      have E7 := Lib.hid (HFA.out.m.turn T7 RR.out.nl RR.out.ne RR.out.na)
      have F7 := Lib.hid (HFA.out.fr.trans T7 (fun k _ h => .inr (.inr h)))
      have HM7 := Lib.hid hm7
      have TT7 := Lib.hid (RStL.sfr T2X.out T7 (fun k hk h => HKM.out k hk (.inr (.inr h))))
      have c57 := (cell_sameE (o := 5) (T7.block g zgx HGN.out)).trans c5x
      have zg7 := Nat.lt_of_lt_of_le zgx T7.size
      have HJN := Lib.hid hj'
      clear T7 hm7 ht7 c2x c5x hj'
      cases ej with
      | none =>
        have HON := Lib.hid (HFA.out.on rfl)
        have HNJ := Lib.hid (show Ev.NmOk Li lj from HON.out.1.trans HNI.out)
        have RI7 := Lib.hid (show RIn w7 eb ab nb lo hi vs A aj ((t.name, (j : Int)) :: lj) from ⟨E7.out, by
          have e : nvF ((t.name, (j : Int)) :: lj) = smapPut mm t.name (some (.int .i64 (j : Int))) := by
            rw [nvF_cons]
            funext q
            unfold smapPut
            by_cases hq : q = t.name
            · rw [if_pos hq, if_pos hq]
            · rw [if_neg hq, if_neg hq, HON.out.2.2.2.1 q hq]
          rw [e]; exact HM7.out, RR.out.nl, RR.out.ne, RR.out.na, for_words HON.out.2.1 (by omega) (by omega), HON.out.2.2.1⟩)
        have CB := Lib.hid (HIH.out t.thn A (Li ++ [⟨t.name, false, -1⟩]) dark ((t.name, (j : Int)) :: lj) aj eb ab nb lo hi _ vs w7 K RI7.out (for_names HNJ.out) TT7.out HKM.out HWT.out.thn HSP.out.1 HSP.out.2.2.1 (HTN.out (by show 0 < N; omega)))
        have HLB := Lib.hid (Ev.loop_back (A := A) (nm := t.name) (j := (j : Int)) HON.out.2.1 HON.out.2.2.1 HWT.out.thn (by omega) (by omega))
        have HPP := Lib.hid (for_pres (A := A) (nm := t.name) (j := (j : Int)) HNJ.out HON.out.2.1 HON.out.2.2.1 HWT.out.thn (by omega) (by omega))
        have HTS := Lib.hid (HON.out.2.2.2.2.symm.trans (times_step hltj lj aj))
        rw [HFF.out] at HTS
        clear HIH
        go_wp2_with (go_at_call 73; refine CB.out.mono ?_; rintro r w5 ⟨rfl, hF5, hM5, hm5, hN5⟩)
        generalize Ev.blE A ((t.name, (j : Int)) :: lj) aj t.thn = o at *
        obtain ⟨m5, h51, h52⟩ : ∃ m5, SMapIn w5 nb m5 ∧ (o.e = none → ∀ q, q ≠ t.name → m5 q = nvF (o.back lj).l q) := by
          cases he : o.e with
          | none =>
            obtain ⟨yy, hyy⟩ := HLB.out
            refine ⟨_, hN5 he, fun _ q hq => ?_⟩
            rw [hyy]
            exact nvF_ne _ _ _ q hq
          | some xx =>
            obtain ⟨m6, hm6⟩ := hm5
            exact ⟨m6, hm6, fun h => by cases h⟩
        go_roundw
        case rel =>
          refine ⟨j + 1, m5, (o.back lj).l, o.a, o.e, by omega, by go_num, Lib.hid ⟨hM5, h51, F7.out.trans hF5 (fun _ _ h => h), fun he => ⟨HPP.out.1.trans HNI.out.symm, HPP.out.2.1, HPP.out.2.2, h52 he, ?_⟩, fun he => ?_⟩⟩
          · have h := HTS.out
            rw [if_neg (by show ¬ o.e.isSome = true; rw [he]; decide)] at h
            exact h.symm
          · have h := HTS.out
            rw [if_pos (show (o.back lj).e.isSome = true from he)] at h
            exact h
        case measure => simp [intOf]; omega
      | some ex =>
        have CB := Lib.hid (revBlEnd d' t.thn _ w7 K TT7.out (fun s hs => (Ev.wf_st (HWT.out.thn s hs)).few) E7.out rfl (nb := nb))
        clear HIH
        go_wp2_with (go_at_call 73; refine CB.out.mono ?_; rintro r w5 ⟨rfl, hb5⟩)
        go_roundw
        case rel => exact ⟨j + 1, _, lj, aj, some ex, by omega, by go_num, Lib.hid ⟨E7.out.on hb5, HM7.out.on hb5, F7.out.on hb5, fun h => (by cases h), HFA.out.off⟩⟩
        case measure => simp [intOf]; omega
    case neg =>
      clear HIH
      go_upto_region 36 with (at_delete; refine wpList_deleteS_at rfl _ _ 137 _ rfl Tryd.underlying137 rfl rfl HFA.out.n HNS.out ?_; intro w8 hm8 ht8)
      have T8 := stu_sfr ht8
      have E8 := Lib.hid (HFA.out.m.turn T8 RR.out.nl RR.out.ne RR.out.na)
      have F8 := Lib.hid (show SFr (MR lo hi eb nb) w1 w8 from HFA.out.fr.trans T8 (fun k _ h => .inr (.inr h)))
      have HM8 := Lib.hid hm8
      have FW := Lib.hid (FR.out.trans F8.out (fun _ _ h => h))
      have MW := Lib.hid (own_sfr MRR.out F8.out HMW.out)
      have t2' : w8.cell? ⟨eb, 2, none⟩ = some (.bool ej.isSome) := E8.out.cell 2
      have zt' := E8.out.lt
      clear T8 hm8 ht8 c2x c5x
      cases ej with
      | none =>
        have t2' : w8.cell? ⟨eb, 2, none⟩ = some (.bool false) := t2'
        obtain ⟨o1, o2, o3, o4, o5⟩ := HFA.out.on rfl
        rw [show N - j = 0 by omega] at o5
        have HOE := Lib.hid (show (⟨lj, aj, none⟩ : Ev.EO) = O from o5)
        have RW := Lib.hid (show RIn w8 eb ab nb lo hi vs A aj lj from ⟨E8.out, by
          have e : nvF lj = smapPut mm t.name none := by
            funext q
            unfold smapPut
            by_cases hq : q = t.name
            · rw [if_pos hq, hq]
              show (Ev.lkN lj t.name).map _ = none
              rw [Ev.lkN_none (by rw [o1]; exact HNO.out)]
              rfl
            · rw [if_neg hq, o4 q hq]
          rw [e]; exact HM8.out, RR.out.nl, RR.out.ne, RR.out.na, o2, o3⟩)
        have HN3 := Lib.hid (by have h := HNX.out; rw [HOO.out, ← HOE.out] at h; exact h w8 mine rfl RW.out FW.out (HLE.out.same o1))
        clear o1 o2 o3 o4 o5
        go_wp2_with fail
        go_roundw
        case rel => exact ⟨i + 1, lj, aj, mine, by have := HLT.out; omega, by go_num, by omega, MW, HMS, HN3⟩
        case measure => have := HLT.out; simp [intOf]; omega
      | some xx =>
        have t2' : w8.cell? ⟨eb, 2, none⟩ = some (.bool true) := t2'
        have HOE := Lib.hid (show O = ⟨lj, aj, some xx⟩ from HFA.out.off rfl)
        have HXR := Lib.hid (show (⟨lj, aj, some xx⟩ : Ev.EO) = R from by rw [← HST.out (by rw [HOO.out, HOE.out]; rfl), HOO.out, HOE.out])
        go_wp2_with fail
        (try simp only [Exit.inBlock, Exit.then])
        refine bodyPost_ret (results_none rfl _ _ _) rfl ?_
        refine ⟨rfl, FW.out, by rw [← HXR.out]; exact E8.out, ⟨_, HM8.out⟩, fun h => ?_⟩
        rw [← HXR.out] at h
        cases h
  case inr.inr.inr.inr.inr =>
    rw [hkd] at c0
    rw [hkd, if_neg (by decide), if_neg (by decide), if_neg (by decide), if_neg (by decide), if_neg (by decide)] at HZ
    obtain ⟨n, rfl⟩ : ∃ n, S = [n] := one_of (by have h := HIN2.out; rw [ha] at h; exact h)
    obtain ⟨g', rfl, hg, hcs⟩ := row_ints HO.out (by simp)
    have r0 := hcs 0 n rfl
    simp only [List.length_cons, List.length_nil, Nat.zero_add, Nat.reduceAdd]
    have HO1 := Lib.hid (show Ev.stE A li ai t = ⟨li, ai, some (some n)⟩ from HZ.out)
    have HXR := Lib.hid (show (⟨li, ai, some (some n)⟩ : Ev.EO) = R from by rw [← HST.out (by rw [HO1.out]; rfl), HO1.out])
    have f2 := RR.out.m.free 2
    have f3 := RR.out.m.free 3
    have t3 : wr.cell? ⟨eb, 3, none⟩ = some (.int .i64 0) := RR.out.m.cell 3
    clear hkd ha hcs HZ HIH
    go_upto_region 36 with fail
    have EW := Lib.hid (RR.out.m.ret n)
    have PF := (SFr.put (S := TS eb) wr eb 2 (.bool true) rfl).trans (SFr.put (S := TS eb) _ eb 3 (.int .i64 n) rfl) (fun _ _ h => h)
    have FW := Lib.hid (FR.out.trans PF (fun k _ h => ts_mr k h))
    have NW := Lib.hid (RR.out.n.same (PF.block nb RR.out.n.lt RR.out.ne))
    clear PF f2 f3 t3
    generalize (wr.setCell ⟨eb, 2, none⟩ (.bool true)).setCell ⟨eb, 3, none⟩ (.int .i64 n) = w7 at *
    have t2' : w7.cell? ⟨eb, 2, none⟩ = some (.bool true) := EW.out.cell 2
    have zt' := EW.out.lt
    clear t2
    go_wp2_with fail
    (try simp only [Exit.inBlock, Exit.then])
    refine bodyPost_ret (results_none rfl _ _ _) rfl ?_
    refine ⟨rfl, FW.out, by rw [← HXR.out]; exact EW.out, ⟨_, NW.out⟩, fun h => ?_⟩
    rw [← HXR.out] at h
    cases h
theorem revBlock_all : ∀ d, RBDo d
  | 0 => revBlock 0 (fun d' h => (by omega))
  | d + 1 => revBlock (d + 1) (fun d' h => (by obtain rfl : d = d' := by omega
                                               exact revBlock_all d))
end Go.Proofs.YtpbflgemhcaooaaDoor
