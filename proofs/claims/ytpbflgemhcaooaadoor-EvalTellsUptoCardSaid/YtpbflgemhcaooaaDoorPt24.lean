import Derived.Test.YtpbflgemhcaooaaDoorPt22
import Derived.Test.YtpbflgemhcaooaaDoorPt23
import Derived.Test.YtpbflgemhcaooaaDoorPt8
import Derived.Deep.DeepCutAuto
/- The reference's evaluation: an expression's word. -/
namespace Go.Proofs.YtpbflgemhcaooaaDoor
open Go.RowKit
set_option linter.unusedSimpArgs false
set_option linter.unusedVariables false
def RXDo (d : Nat) : Prop := ∀ (e : Ev.Ex) (A : List Ev.Par) (l : Ev.Nms) (a : Ev.Ars) (eb ab nb lo hi : Nat) (vx : Value) (vs : List Value) (w : World) (K : Nat → Prop),
  RIn w eb ab nb lo hi vs A a l → RExL d w K vx e.args → (∀ k, K k → k ≠ eb) → Ev.WfE e →
  Calls Tryd.prog 98 #[.pointer (some ⟨eb, 0, none⟩), exV e vx, .map (some nb)] w fun r w' => r = .returned (.int .i64 ((Ev.exE A a l e).getD 0)) ∧ SFr (TS eb) w w' ∧ EM w' eb ab lo hi vs A a (Ev.endX (Ev.exE A a l e))
set_option maxRecDepth 6000 in
set_option maxHeartbeats 6400000 in
theorem revX (d : Nat) (ih : ∀ d', d = d' + 1 → RXDo d') : RXDo d := by
  intro e A l a eb ab nb lo hi vx vs w K hin hr hK hw
  have HIN := Lib.hid hin
  have HR := Lib.hid hr
  have HW := Lib.hid (Ev.wf_args hw)
  have HKD := Lib.hid (Ev.wf_kinds hw)
  have HK := Lib.hid hK
  have HNM := Lib.hid (show InS e.name by have := Ev.wf_nm hw; unfold InS; omega)
  obtain ⟨ax, cx, rfl⟩ := hr.form
  have hlen3 : e.args.length ≤ 3 := HW.out.2.2
  obtain ⟨R, hR⟩ : ∃ R, Ev.exE A a l e = R := ⟨_, rfl⟩
  rw [hR]
  have HE := Lib.hid ((Ev.exE_eq A a l e).symm.trans hR)
  have htl := hin.m.lt
  have HHS := Lib.hid hin.m.hs
  clear hR hin hr hK hw
  unfold exV
  go_enter Tryd.func98, Tryd.ntmps98
  go_upto_region 3 with fail
  have b1 : Below w.heap.size w (w.alloc (.cells #[.int .i64 e.kind, .int .i64 e.n, .string ⟨e.name.toArray⟩, .slice ax e.args.length cx] 140)) := (Below.refl _ _).alloc (Nat.le_refl _) _
  have r1 := heap_alloc_new w (.cells #[.int .i64 e.kind, .int .i64 e.n, .string ⟨e.name.toArray⟩, .slice ax e.args.length cx] 140)
  generalize w.alloc (.cells #[.int .i64 e.kind, .int .i64 e.n, .string ⟨e.name.toArray⟩, .slice ax e.args.length cx] 140) = w1 at *
  have HB1 := Lib.hid b1
  have R1 := Lib.hid r1
  have zg := (Array.getElem?_eq_some_iff.1 r1).1
  have HIN1 := Lib.hid (HIN.out.on b1)
  have HR1 := Lib.hid (show RExL d w1 K (.slice ax e.args.length cx) e.args from HR.out.on b1)
  have HEB := Lib.hid (Nat.lt_of_lt_of_le htl b1.size)
  have HLW := Lib.hid (Nat.le_trans HHS.out b1.size)
  have HGE := Lib.hid (show w.heap.size ≠ eb by omega)
  clear b1 r1
  generalize hgg : w.heap.size = g at R1 zg HGE ⊢
  have HGG := Lib.hid hgg
  clear hgg
  obtain ⟨i1, hi1, hz0, hz1, hz2⟩ := info_parts evInt
  have IC := Lib.hid (⟨hi1, hz0, hz1, hz2⟩ : _ ∧ _ ∧ _ ∧ _)
  clear hi1 hz0 hz1 hz2
  go_loopw [15, 7] (fun ii vv wr => ∃ (i : Nat) (S : List Int), i ≤ e.args.length ∧ S.length = i ∧ ii = .int .i64 (i : Int) ∧ Hid (wr.ownsRow w1.heap.size 3 1 vv S.length (S.map (Value.int .i64))) ∧ Hid (Ev.ArgsE A a l e.args (e.args.drop i) S) ∧ Hid (SFr (TS eb) w1 wr) ∧ Hid (EM wr eb ab lo hi vs A a none)) (fun ii _ _ => e.args.length - (intOf ii).toNat)
  case atStart => exact ⟨0, [], by omega, rfl, rfl, Lib.hid (World.ownsRow_nil _ _ _ _), Lib.hid (by rw [List.drop_zero]; exact Ev.ArgsE.start _ _ _ _), Lib.hid (SFr.refl _ _), Lib.hid HIN1.out.m⟩
  case round =>
  obtain ⟨_, S, hil, rfl, rfl, HO, HA, HF, HM⟩ := hrel
  obtain ⟨sa, sc, rfl, _, _⟩ := SL.form (SL.of_own HO.out)
  have hsw := HF.out.size
  have HIR := Lib.hid (HIN1.out.to HF.out HM.out)
  have RG := Lib.hid ((HF.out.block g zg HGE.out).trans R1.out)
  have zgr := Nat.lt_of_lt_of_le zg hsw
  by_cases hlt : S.length < e.args.length
  case pos =>
    obtain ⟨x, hx⟩ : ∃ x, e.args[S.length]? = some x := ⟨_, List.getElem?_eq_getElem hlt⟩
    obtain ⟨d', b', off, c', vy, hd, hva, hKb, hxa, hxr⟩ := (RExL.sfr HR1.out HF.out (fun k hk => HK.out k hk)).elK hx
    obtain ⟨h1, h2⟩ := slice_two hva
    clear hva
    subst h1 h2
    have hdr : e.args.drop S.length = x :: e.args.drop (S.length + 1) := by
      rw [List.getElem?_eq_getElem hlt] at hx
      injection hx with hx
      rw [← hx]
      exact List.drop_eq_getElem_cons hlt
    rw [hdr] at HA
    have hxm := List.mem_of_getElem? hx
    obtain ⟨ya, yc, rfl⟩ := hxr.form
    have HXR := Lib.hid hxr
    have HIH := Lib.hid (ih d' hd)
    have HWX := Lib.hid (HW.out.1 x hxm)
    obtain ⟨hbl, y0, y1, y2, y3⟩ := hxa
    have ztr := HM.out.lt
    clear hx hxr hdr hd hxm hKb ih
    go_upto_region 5 with fail
    have b4 : Below wr.heap.size wr (wr.alloc (.cells #[.int .i64 x.kind, .int .i64 x.n, .string ⟨x.name.toArray⟩, .slice ya x.args.length yc] 140)) := (Below.refl _ _).alloc (Nat.le_refl _) _
    have r4 := heap_alloc_new wr (.cells #[.int .i64 x.kind, .int .i64 x.n, .string ⟨x.name.toArray⟩, .slice ya x.args.length yc] 140)
    clear y0 y1 y2 y3 hbl
    generalize wr.alloc (.cells #[.int .i64 x.kind, .int .i64 x.n, .string ⟨x.name.toArray⟩, .slice ya x.args.length yc] 140) = w4 at *
    have R4 := Lib.hid r4
    have z4 := (Array.getElem?_eq_some_iff.1 r4).1
    have HF4 := Lib.hid (show SFr (TS eb) w1 w4 from HF.out.on b4)
    have OWN4 := Lib.hid (owns_below HO.out b4)
    have CI := Lib.hid (HIH.out x A l a eb ab nb lo hi (.slice ya x.args.length yc) vs w4 K (HIR.out.on b4) (HXR.out.on b4) HK.out HWX.out)
    unfold exV at CI
    obtain ⟨RX, hRX⟩ : ∃ RX, Ev.exE A a l x = RX := ⟨_, rfl⟩
    rw [hRX] at CI
    have HRX := Lib.hid hRX
    have zt4 := Nat.lt_of_lt_of_le ztr b4.size
    have hs4 := HF4.out.size
    clear r4 b4 hRX HIH
    cases RX with
    | none =>
      have HBAD := Lib.hid (HA.out.bad HRX.out)
      rw [HBAD.out] at HE
      have HRN := Lib.hid (show none = R from HE.out)
      change Hid (Calls _ _ _ _ fun r w' => r = .returned (.int .i64 0) ∧ SFr (TS eb) w4 w' ∧ EM w' eb ab lo hi vs A a (some none)) at CI
      clear HA HE HBAD HRX
      go_upto_region 6 with (first | (refine wpList_load_box rfl 140 _ rfl rfl (load_box Tryd.underlying140 (by kernel_rfl) (by rfl) (by kernel_rfl) (fun j v hj => (cell_of_block R4.out j).trans hj) z4 (Below.refl _ _)) ?_) | (go_at_call 98; refine CI.out.mono ?_; rintro r w5 ⟨rfl, hF5, hM5⟩; have OWN5 := Lib.hid (ownsRow_same OWN4.out (fun g hg => hF5.block g (OWN4.out.lt g hg).2 (by have := OWN4.out.lt g hg; have := HEB.out; show ¬ g = eb; omega))); have HF5 := Lib.hid hF5; have HM5 := Lib.hid hM5; clear hF5 hM5; have hs5 := HF5.out.size) | (at_builtin; refine wpList_append_own_at _ rfl (.tmp 19) (.tmp 24) _ rfl w1.heap.size 3 i1 (.int .i64 0) 1 8 Tryd.underlying46 IC.out.1 IC.out.2.1 IC.out.2.2.1 IC.out.2.2.2 rfl (by decide) _ _ _ rfl (OWN5.out.alloc _) ⟨w5.heap.size, 0, none⟩ 1 1 [.int .i64 0] rfl rfl (cell_one_new _ _ _) (fun x hx => by simp at hx; subst hx; rfl) (by unfold maxLen; omega) (by omega) (by simp; omega) ?_; intro v7 w7 hown7 hg7 hn7 hat7; obtain ⟨A7, c7, rfl, _, _⟩ := SL.form (SL.of_own hown7)))
      have b5 : Below w5.heap.size w5 (w5.alloc (.cells #[.int .i64 0] 3)) := (Below.refl _ _).alloc (Nat.le_refl _) _
      have HM7 := Lib.hid ((HM5.out.on b5).keep hg7.size (fun k hk => hg7.block k (by have := HM5.out.lt; have := HM5.out.m.lt; have := HM5.out.hs; have := b5.size; omega) (fun h => by have := OWN5.out.lt k h.symm; have := HLW.out; have := HM5.out.el; have := HM5.out.al; have := HM5.out.le; omega)))
      have HF7 := Lib.hid (show SFr (TS eb) w1 w7 from (HF4.out.trans (HF5.out.on b5) (fun _ _ h => h)).trans (S' := fun k => OWN5.out.lt = OWN5.out.lt ∧ Value.ownBlock (.slice sa S.length sc) = some k) ⟨hg7.os, hg7.tape, hg7.output, hg7.size, fun k hk hn => hg7.block k hk (fun h => hn ⟨rfl, h.symm⟩)⟩ (fun k hk h => by have := OWN5.out.lt k h.2; omega))
      clear hown7 hg7 hn7 hat7 OWN5 HF5 HM5 b5
      have c2 : w7.cell? ⟨eb, 2, none⟩ = some (.bool true) := HM7.out.cell 2
      have zt := HM7.out.lt
      go_wp2_with fail
      go_ret
      refine ⟨by rw [← HRN.out]; rfl, (SFr.of HB1.out).trans HF7.out (fun _ _ h => h), by rw [← HRN.out]; exact HM7.out⟩
    | some y =>
      have HG := Lib.hid (HA.out.good HRX.out)
      change Hid (Calls _ _ _ _ fun r w' => r = .returned (.int .i64 y) ∧ SFr (TS eb) w4 w' ∧ EM w' eb ab lo hi vs A a none) at CI
      clear HA HRX
      go_upto_region 6 with (first | (refine wpList_load_box rfl 140 _ rfl rfl (load_box Tryd.underlying140 (by kernel_rfl) (by rfl) (by kernel_rfl) (fun j v hj => (cell_of_block R4.out j).trans hj) z4 (Below.refl _ _)) ?_) | (go_at_call 98; refine CI.out.mono ?_; rintro r w5 ⟨rfl, hF5, hM5⟩; have OWN5 := Lib.hid (ownsRow_same OWN4.out (fun g hg => hF5.block g (OWN4.out.lt g hg).2 (by have := OWN4.out.lt g hg; have := HEB.out; show ¬ g = eb; omega))); have HF5 := Lib.hid hF5; have HM5 := Lib.hid hM5; clear hF5 hM5; have hs5 := HF5.out.size) | (at_builtin; refine wpList_append_own_at _ rfl (.tmp 19) (.tmp 24) _ rfl w1.heap.size 3 i1 (.int .i64 0) 1 8 Tryd.underlying46 IC.out.1 IC.out.2.1 IC.out.2.2.1 IC.out.2.2.2 rfl (by decide) _ _ _ rfl (OWN5.out.alloc _) ⟨w5.heap.size, 0, none⟩ 1 1 [.int .i64 y] rfl rfl (cell_one_new _ _ _) (fun x hx => by simp at hx; subst hx; rfl) (by unfold maxLen; omega) (by omega) (by simp; omega) ?_; intro v7 w7 hown7 hg7 hn7 hat7; obtain ⟨A7, c7, rfl, _, _⟩ := SL.form (SL.of_own hown7)))
      have b5 : Below w5.heap.size w5 (w5.alloc (.cells #[.int .i64 y] 3)) := (Below.refl _ _).alloc (Nat.le_refl _) _
      have HM7 := Lib.hid ((HM5.out.on b5).keep hg7.size (fun k hk => hg7.block k (by have := HM5.out.lt; have := HM5.out.m.lt; have := HM5.out.hs; have := b5.size; omega) (fun h => by have := OWN5.out.lt k h.symm; have := HLW.out; have := HM5.out.el; have := HM5.out.al; have := HM5.out.le; omega)))
      have HF7 := Lib.hid (show SFr (TS eb) w1 w7 from (HF4.out.trans (HF5.out.on b5) (fun _ _ h => h)).trans (S' := fun k => OWN5.out.lt = OWN5.out.lt ∧ Value.ownBlock (.slice sa S.length sc) = some k) ⟨hg7.os, hg7.tape, hg7.output, hg7.size, fun k hk hn => hg7.block k hk (fun h => hn ⟨rfl, h.symm⟩)⟩ (fun k hk h => by have := OWN5.out.lt k h.2; omega))
      have HOWN := Lib.hid hown7
      clear hown7 hg7 hn7 hat7 OWN5 HF5 HM5 b5
      have c2 : w7.cell? ⟨eb, 2, none⟩ = some (.bool false) := HM7.out.cell 2
      have zt := HM7.out.lt
      go_wp2_with fail
      go_roundw
      case rel => exact ⟨S.length + 1, S ++ [y], by omega, by simp, by go_num, Lib.hid (by have h := HOWN.out; simpa using h), HG, HF7, HM7⟩
      case measure => simp [intOf]; omega
  case neg =>
  have HIN2 := Lib.hid (show S.length = e.args.length by omega)
  have HD := Lib.hid (Ev.ArgsE.done (show Ev.ArgsE A a l e.args [] S by
    have h := HA.out
    rw [HIN2.out, List.drop_length] at h
    exact h))
  rw [HD.out] at HE
  dsimp only at HE
  have c0 := cell_of_block RG.out 0
  have c1 := cell_of_block RG.out 1
  have c2 := cell_of_block RG.out 2
  simp only [List.getElem?_toArray, List.getElem?_cons_zero, List.getElem?_cons_succ] at c0 c1 c2
  have HSW := Lib.hid ((Ev.exsE_word HIN.out.wn HIN.out.wa HW.out.1 HD.out).2)
  have HFW := Lib.hid (show SFr (TS eb) w wr from (SFr.of HB1.out).trans HF.out (fun _ _ h => h))
  clear hil HA IC ih hlen3 HR HR1
  rcases HKD.out with ⟨hkd, ha⟩ | ⟨hkd, ha⟩ | ⟨hkd, ha⟩ | ⟨hkd, ha⟩ | ⟨hkd, ha⟩
  case inl =>
    rw [hkd] at c0
    rw [hkd, if_neg (by decide), if_neg (by decide), if_neg (by decide), if_neg (by decide)] at HE
    clear hkd ha
    go_wp2_with fail
    go_ret
    exact ⟨by rw [← HE.out]; rfl, HFW.out, by rw [← HE.out]; exact HM.out⟩
  case inr.inl =>
    rw [hkd] at c0
    rw [hkd, if_pos rfl] at HE
    have HLK := Lib.hid (HIR.out.n.look (T := 137) Tryd.underlying137 (fun u => Tryd.zeroValue3 u) HNM.out false rfl)
    simp only [Bool.false_eq_true, if_false, nvF_get] at HLK
    clear hkd ha
    go_wp2_with (at_lookup; refine wpList_lookupS_at rfl _ _ 137 false rfl rfl rfl (HLK.out _ (by (repeat' first | with_reducible (first | exact Below.refl _ _ | assumption | refine Below.alloc ?_ ?_ _ | refine below_drewN ?_ _ | refine Below.drew ?_ | refine Below.setCell ?_ ?_ _ | refine Below.trans ?_ (Below.mono (by with_reducible assumption) ?_)) | go_size))) ?_)
    go_ret
    exact ⟨by rw [← HE.out]; rfl, HFW.out, by rw [← HE.out]; exact HM.out⟩
  case inr.inr.inl =>
    rw [hkd] at c0
    rw [hkd, if_neg (by decide), if_pos rfl] at HE
    obtain ⟨x, y, rfl⟩ : ∃ x y, S = [x, y] := two_of (HIN2.out.trans ha)
    obtain ⟨g', rfl, hg, hcs⟩ := row_ints HO.out (by simp)
    have r0 := hcs 0 x rfl
    have r1 := hcs 1 y rfl
    have HXY := Lib.hid (show some (Ev.two e.n x y) = R from HE.out)
    have CT := Lib.hid (fun u => refTwo_any e.n x y u)
    replace hlt : ¬ 2 < e.args.length := hlt
    simp only [List.length_cons, List.length_nil, Nat.zero_add, Nat.reduceAdd]
    clear hkd ha hcs HE
    go_upto_region 21 with fail
    refine wp_region_chain (fun w' => Below (wr).heap.size (wr) w') (by kernel_rfl) (by kernel_rfl) (by (repeat' first | with_reducible (first | exact Below.refl _ _ | assumption | refine Below.alloc ?_ ?_ _ | refine below_drewN ?_ _ | refine Below.drew ?_ | refine Below.setCell ?_ ?_ _ | refine Below.trans ?_ (Below.mono (by with_reducible assumption) ?_)) | go_size)) ?_
    repeat (
      apply chain_cons
      case h =>
        refine fun w9 hb9 => ?_
        have hB9 : Below wr.heap.size wr w9 := by (repeat' first | with_reducible (first | exact Below.refl _ _ | assumption | refine Below.alloc ?_ ?_ _ | refine below_drewN ?_ _ | refine Below.drew ?_ | refine Below.setCell ?_ ?_ _ | refine Below.trans ?_ (Below.mono (by with_reducible assumption) ?_)) | go_size)
        obtain ⟨kc9, kf9, s9⟩ := bfacts hb9
        obtain ⟨kd9, kg9, _⟩ := bfacts hB9
        go_wp2_with (fail)
        (try ((go_at_call 96; refine (CT.out _).mono ?_; rintro _ _ ⟨rfl, hb8⟩); go_wp2_with fail))
        refine settled_intro (S := fun w' => Below (wr).heap.size (wr) w') ?_
        (repeat' first | with_reducible (first | exact Below.refl _ _ | assumption | refine Below.alloc ?_ ?_ _ | refine below_drewN ?_ _ | refine Below.drew ?_ | refine Below.setCell ?_ ?_ _ | refine Below.trans ?_ (Below.mono (by with_reducible assumption) ?_)) | go_size)
      case hp => first | rfl | (simp only [*]; done) | (simp only [*]; rfl))
    refine chain.nil ?_
    refine fun w21 hb21 => ?_
    have B21 : Below wr.heap.size wr w21 := by (repeat' first | with_reducible (first | exact Below.refl _ _ | assumption | refine Below.alloc ?_ ?_ _ | refine below_drewN ?_ _ | refine Below.drew ?_ | refine Below.setCell ?_ ?_ _ | refine Below.trans ?_ (Below.mono (by with_reducible assumption) ?_)) | go_size)
    obtain ⟨kc21, kf21, s21⟩ := bfacts hb21
    obtain ⟨kd21, kg21, _⟩ := bfacts B21
    (try simp only [World.size_alloc, World.size_setCell, World.size_drew, World.heap_drewN, Nat.add_one_le_iff] at s21)
    clear hb21
    have hb21 := B21
    clear B21
    have B21 : Hid (Below wr.heap.size wr w21) := hb21
    (try have z21 : wr.heap.size < w21.heap.size := by omega)
    (try dsimp only)
    have hbw : Below wr.heap.size wr w21 := hb21
    go_wp2_with fail
    go_ret
    exact ⟨by rw [← HXY.out]; rfl, HFW.out.on hbw, by rw [← HXY.out]; exact HM.out.on hbw⟩
  case inr.inr.inr.inl =>
    rw [hkd] at c0
    rw [hkd, if_neg (by decide), if_neg (by decide), if_pos rfl] at HE
    obtain ⟨x, y, z, rfl⟩ : ∃ x y z, S = [x, y, z] := by
      have h := HIN2.out.trans ha
      match S, h with
      | [x, y, z], _ => exact ⟨x, y, z, rfl⟩
    obtain ⟨g', rfl, hg, hcs⟩ := row_ints HO.out (by simp)
    have r0 := hcs 0 x rfl
    have r1 := hcs 1 y rfl
    have r2 := hcs 2 z rfl
    have HXY := Lib.hid (show some (Ev.sel x y z) = R from HE.out)
    have CT := Lib.hid (fun u => refSel_any x y z u)
    replace hlt : ¬ 3 < e.args.length := hlt
    simp only [List.length_cons, List.length_nil, Nat.zero_add, Nat.reduceAdd]
    clear hkd ha hcs HE
    go_upto_region 15 with fail
    refine wp_region_chain (fun w' => Below (wr).heap.size (wr) w') (by kernel_rfl) (by kernel_rfl) (by (repeat' first | with_reducible (first | exact Below.refl _ _ | assumption | refine Below.alloc ?_ ?_ _ | refine below_drewN ?_ _ | refine Below.drew ?_ | refine Below.setCell ?_ ?_ _ | refine Below.trans ?_ (Below.mono (by with_reducible assumption) ?_)) | go_size)) ?_
    repeat (
      apply chain_cons
      case h =>
        refine fun w9 hb9 => ?_
        have hB9 : Below wr.heap.size wr w9 := by (repeat' first | with_reducible (first | exact Below.refl _ _ | assumption | refine Below.alloc ?_ ?_ _ | refine below_drewN ?_ _ | refine Below.drew ?_ | refine Below.setCell ?_ ?_ _ | refine Below.trans ?_ (Below.mono (by with_reducible assumption) ?_)) | go_size)
        obtain ⟨kc9, kf9, s9⟩ := bfacts hb9
        obtain ⟨kd9, kg9, _⟩ := bfacts hB9
        go_wp2_with (fail)
        (try ((go_at_call 97; refine (CT.out _).mono ?_; rintro _ _ ⟨rfl, hb8⟩); go_wp2_with fail))
        refine settled_intro (S := fun w' => Below (wr).heap.size (wr) w') ?_
        (repeat' first | with_reducible (first | exact Below.refl _ _ | assumption | refine Below.alloc ?_ ?_ _ | refine below_drewN ?_ _ | refine Below.drew ?_ | refine Below.setCell ?_ ?_ _ | refine Below.trans ?_ (Below.mono (by with_reducible assumption) ?_)) | go_size)
      case hp => first | rfl | (simp only [*]; done) | (simp only [*]; rfl))
    refine chain.nil ?_
    refine fun w15 hb15 => ?_
    have B15 : Below wr.heap.size wr w15 := by (repeat' first | with_reducible (first | exact Below.refl _ _ | assumption | refine Below.alloc ?_ ?_ _ | refine below_drewN ?_ _ | refine Below.drew ?_ | refine Below.setCell ?_ ?_ _ | refine Below.trans ?_ (Below.mono (by with_reducible assumption) ?_)) | go_size)
    obtain ⟨kc15, kf15, s15⟩ := bfacts hb15
    obtain ⟨kd15, kg15, _⟩ := bfacts B15
    (try simp only [World.size_alloc, World.size_setCell, World.size_drew, World.heap_drewN, Nat.add_one_le_iff] at s15)
    clear hb15
    have hb15 := B15
    clear B15
    have B15 : Hid (Below wr.heap.size wr w15) := hb15
    (try have z15 : wr.heap.size < w15.heap.size := by omega)
    (try dsimp only)
    have hbw : Below wr.heap.size wr w15 := hb15
    go_wp2_with fail
    go_ret
    exact ⟨by rw [← HXY.out]; rfl, HFW.out.on hbw, by rw [← HXY.out]; exact HM.out.on hbw⟩
  case inr.inr.inr.inr =>
    rw [hkd] at c0
    rw [hkd, if_neg (by decide), if_neg (by decide), if_neg (by decide), if_pos rfl] at HE
    obtain ⟨n, rfl⟩ : ∃ n, S = [n] := one_of (HIN2.out.trans ha)
    obtain ⟨g', rfl, hg, hcs⟩ := row_ints HO.out (by simp)
    have r0 := hcs 0 n rfl
    replace hlt : ¬ 1 < e.args.length := hlt
    have hn0 : 0 ≤ n := (HSW.out n (by simp)).1
    obtain ⟨k, hk⟩ : ∃ k, Ev.arrI A e.name = k := ⟨_, rfl⟩
    obtain ⟨r, hrr⟩ : ∃ r, vs[k]? = r := ⟨_, rfl⟩
    have HLK := Lib.hid (HIR.out.m.m.look (T := 134) Tryd.underlying134 (fun u => Tryd.zeroValue46 u) HNM.out false (show rvF A vs e.name = r by unfold rvF; rw [hk]; exact hrr))
    simp only [Bool.false_eq_true, if_false] at HLK
    rw [hk] at HE
    have t0 : wr.cell? ⟨eb, 0, none⟩ = some (.map (some ab)) := HM.out.cell 0
    have t1 : wr.cell? ⟨eb, 1, none⟩ = some (.bool false) := HM.out.cell 1
    have t2 : wr.cell? ⟨eb, 2, none⟩ = some (.bool false) := HM.out.cell 2
    have ztr := HM.out.lt
    cases hq : a[k]? with
    | none =>
      have hvn : vs[k]? = none := by
        rw [List.getElem?_eq_none_iff] at hq ⊢
        rw [HM.out.rows.len]; exact hq
      have hXN := Lib.hid (show none = R by
        have h := HE.out
        rw [show a.getD k [] = [] by rw [List.getD_eq_getElem?_getD, hq]; rfl] at h
        rw [if_neg (by show ¬ n < 0; omega)] at h
        exact h)
      have hr0 : r = none := hrr.symm.trans hvn
      subst hr0
      change Hid (∀ u, Below wr.heap.size wr u → (Go.Instr.lookup _ _ _ _).run Tryd.prog u = .ok (.slice none 0 0) u) at HLK
      have f1 := HM.out.free 1
      have f2 := HM.out.free 2
      simp only [List.length_cons, List.length_nil, Nat.zero_add, Nat.reduceAdd]
      have g0 : decide (0 ≤ n) = true := decide_eq_true hn0
      have HMM := Lib.hid (fun (u : World) (hu : Below wr.heap.size wr u) => (HM.out.on hu).trap)
      clear hkd ha hcs HE hrr hvn hq hk
      go_upto_region 17 with fail
      refine wp_region_chain (fun w' => Below (wr).heap.size (wr) w') (by kernel_rfl) (by kernel_rfl) (by (repeat' first | with_reducible (first | exact Below.refl _ _ | assumption | refine Below.alloc ?_ ?_ _ | refine below_drewN ?_ _ | refine Below.drew ?_ | refine Below.setCell ?_ ?_ _ | refine Below.trans ?_ (Below.mono (by with_reducible assumption) ?_)) | go_size)) ?_
      repeat (
        apply chain_cons
        case h =>
          refine fun w9 hb9 => ?_
          have hB9 : Below wr.heap.size wr w9 := by (repeat' first | with_reducible (first | exact Below.refl _ _ | assumption | refine Below.alloc ?_ ?_ _ | refine below_drewN ?_ _ | refine Below.drew ?_ | refine Below.setCell ?_ ?_ _ | refine Below.trans ?_ (Below.mono (by with_reducible assumption) ?_)) | go_size)
          obtain ⟨kc9, kf9, s9⟩ := bfacts hb9
          obtain ⟨kd9, kg9, _⟩ := bfacts hB9
          go_wp2_with (at_lookup; refine wpList_lookupS_at rfl _ _ 134 false rfl rfl rfl (HLK.out _ (by (repeat' first | with_reducible (first | exact Below.refl _ _ | assumption | refine Below.alloc ?_ ?_ _ | refine below_drewN ?_ _ | refine Below.drew ?_ | refine Below.setCell ?_ ?_ _ | refine Below.trans ?_ (Below.mono (by with_reducible assumption) ?_)) | go_size))) ?_)
          (try (fail; go_wp2_with fail))
          refine settled_intro (S := fun w' => Below (wr).heap.size (wr) w') ?_
          (repeat' first | with_reducible (first | exact Below.refl _ _ | assumption | refine Below.alloc ?_ ?_ _ | refine below_drewN ?_ _ | refine Below.drew ?_ | refine Below.setCell ?_ ?_ _ | refine Below.trans ?_ (Below.mono (by with_reducible assumption) ?_)) | go_size)
        case hp => first | rfl | (simp only [*]; done) | (simp only [*]; rfl))
      refine chain.nil ?_
      refine fun w17 hb17 => ?_
      have B17 : Below wr.heap.size wr w17 := by (repeat' first | with_reducible (first | exact Below.refl _ _ | assumption | refine Below.alloc ?_ ?_ _ | refine below_drewN ?_ _ | refine Below.drew ?_ | refine Below.setCell ?_ ?_ _ | refine Below.trans ?_ (Below.mono (by with_reducible assumption) ?_)) | go_size)
      obtain ⟨kc17, kf17, s17⟩ := bfacts hb17
      obtain ⟨kd17, kg17, _⟩ := bfacts B17
      (try simp only [World.size_alloc, World.size_setCell, World.size_drew, World.heap_drewN, Nat.add_one_le_iff] at s17)
      clear hb17
      have hb17 := B17
      clear B17
      have B17 : Hid (Below wr.heap.size wr w17) := hb17
      (try have z17 : wr.heap.size < w17.heap.size := by omega)
      (try dsimp only)
      have hbw : Below wr.heap.size wr w17 := hb17
      replace t2 := (hbw.cell (p := ⟨eb, 2, none⟩) ztr).trans t2
      replace t1 := (hbw.cell (p := ⟨eb, 1, none⟩) ztr).trans t1
      have f1 := (HM.out.on hbw).free 1
      have f2 := (HM.out.on hbw).free 2
      have zt17 := Nat.lt_of_lt_of_le ztr hbw.size
      clear hb17 kc17 kf17 kd17 kg17 s17 B17
      go_wp2_with fail
      go_ret
      exact ⟨by rw [← hXN.out]; rfl, (HFW.out.on hbw).trans ((SFr.put (S := TS eb) w17 eb 2 _ rfl).trans (SFr.put (S := TS eb) _ eb 1 _ rfl) (fun _ _ h => h)) (fun _ _ h => h), by rw [← hXN.out]; exact HMM.out _ hbw⟩
    | some q =>
      obtain ⟨X, ca, hvk, hlc, hcm, hrow⟩ := HM.out.rows.at_ hq
      have hr0 : r = some (.slice X q.length ca) := hrr.symm.trans hvk
      subst hr0
      simp only [Option.getD_some] at HLK
      have hXN := Lib.hid (show (if n < (q.length : Int) then some (q.getD n.toNat 0) else none) = R by
        have h := HE.out
        rw [show a.getD k [] = q by rw [List.getD_eq_getElem?_getD, hq]; rfl] at h
        exact h)
      have HMM := Lib.hid (fun (u : World) (hu : Below wr.heap.size wr u) => (HM.out.on hu).trap)
      have HROW := Lib.hid hrow
      unfold maxLen at hcm
      simp only [List.length_cons, List.length_nil, Nat.zero_add, Nat.reduceAdd]
      clear hkd ha hcs HE hrr hq hk hvk hrow
      by_cases hnq : n < (q.length : Int)
      case neg =>
        have g0 : decide ((q.length : Int) ≤ n) = true := decide_eq_true (by omega)
        have HX := Lib.hid (show none = R by rw [← hXN.out, if_neg hnq])
        clear hnq hXN
        go_upto_region 17 with fail
        refine wp_region_chain (fun w' => Below (wr).heap.size (wr) w') (by kernel_rfl) (by kernel_rfl) (by (repeat' first | with_reducible (first | exact Below.refl _ _ | assumption | refine Below.alloc ?_ ?_ _ | refine below_drewN ?_ _ | refine Below.drew ?_ | refine Below.setCell ?_ ?_ _ | refine Below.trans ?_ (Below.mono (by with_reducible assumption) ?_)) | go_size)) ?_
        repeat (
          apply chain_cons
          case h =>
            refine fun w9 hb9 => ?_
            have hB9 : Below wr.heap.size wr w9 := by (repeat' first | with_reducible (first | exact Below.refl _ _ | assumption | refine Below.alloc ?_ ?_ _ | refine below_drewN ?_ _ | refine Below.drew ?_ | refine Below.setCell ?_ ?_ _ | refine Below.trans ?_ (Below.mono (by with_reducible assumption) ?_)) | go_size)
            obtain ⟨kc9, kf9, s9⟩ := bfacts hb9
            obtain ⟨kd9, kg9, _⟩ := bfacts hB9
            go_wp2_with (at_lookup; refine wpList_lookupS_at rfl _ _ 134 false rfl rfl rfl (HLK.out _ (by (repeat' first | with_reducible (first | exact Below.refl _ _ | assumption | refine Below.alloc ?_ ?_ _ | refine below_drewN ?_ _ | refine Below.drew ?_ | refine Below.setCell ?_ ?_ _ | refine Below.trans ?_ (Below.mono (by with_reducible assumption) ?_)) | go_size))) ?_)
            (try (fail; go_wp2_with fail))
            refine settled_intro (S := fun w' => Below (wr).heap.size (wr) w') ?_
            (repeat' first | with_reducible (first | exact Below.refl _ _ | assumption | refine Below.alloc ?_ ?_ _ | refine below_drewN ?_ _ | refine Below.drew ?_ | refine Below.setCell ?_ ?_ _ | refine Below.trans ?_ (Below.mono (by with_reducible assumption) ?_)) | go_size)
          case hp => first | rfl | (simp only [*]; done) | (simp only [*]; rfl))
        refine chain.nil ?_
        refine fun w17 hb17 => ?_
        have B17 : Below wr.heap.size wr w17 := by (repeat' first | with_reducible (first | exact Below.refl _ _ | assumption | refine Below.alloc ?_ ?_ _ | refine below_drewN ?_ _ | refine Below.drew ?_ | refine Below.setCell ?_ ?_ _ | refine Below.trans ?_ (Below.mono (by with_reducible assumption) ?_)) | go_size)
        obtain ⟨kc17, kf17, s17⟩ := bfacts hb17
        obtain ⟨kd17, kg17, _⟩ := bfacts B17
        (try simp only [World.size_alloc, World.size_setCell, World.size_drew, World.heap_drewN, Nat.add_one_le_iff] at s17)
        clear hb17
        have hb17 := B17
        clear B17
        have B17 : Hid (Below wr.heap.size wr w17) := hb17
        (try have z17 : wr.heap.size < w17.heap.size := by omega)
        (try dsimp only)
        have hbw : Below wr.heap.size wr w17 := hb17
        replace t2 := (hbw.cell (p := ⟨eb, 2, none⟩) ztr).trans t2
        replace t1 := (hbw.cell (p := ⟨eb, 1, none⟩) ztr).trans t1
        have f1 := (HM.out.on hbw).free 1
        have f2 := (HM.out.on hbw).free 2
        have zt17 := Nat.lt_of_lt_of_le ztr hbw.size
        clear hb17 kc17 kf17 kd17 kg17 s17 B17
        go_wp2_with fail
        go_ret
        exact ⟨by rw [← HX.out]; rfl, (HFW.out.on hbw).trans ((SFr.put (S := TS eb) w17 eb 2 _ rfl).trans (SFr.put (S := TS eb) _ eb 1 _ rfl) (fun _ _ h => h)) (fun _ _ h => h), by rw [← HX.out]; exact HMM.out _ hbw⟩
      case pos =>
        have g0 : decide ((q.length : Int) ≤ n) = false := decide_eq_false (by omega)
        obtain ⟨N, hN⟩ : ∃ N : Nat, n = (N : Int) := ⟨n.toNat, by omega⟩
        subst hN
        have hNq : N < q.length := by omega
        have hqN : q[N]? = some q[N] := List.getElem?_eq_getElem hNq
        obtain ⟨gq, rfl, h11, h12, h13, h14, h15⟩ := HROW.out (by omega)
        have u0 := h15 N _ hqN
        have HX := Lib.hid (show some q[N] = R by rw [← hXN.out, if_pos hnq, Int.toNat_natCast, List.getD_eq_getElem?_getD, hqN]; rfl)
        generalize q[N] = z at *
        clear hnq hXN hqN h15 h14 h13 h11 HROW HMM
        go_upto_region 17 with fail
        refine wp_region_chain (fun w' => Below (wr).heap.size (wr) w') (by kernel_rfl) (by kernel_rfl) (by (repeat' first | with_reducible (first | exact Below.refl _ _ | assumption | refine Below.alloc ?_ ?_ _ | refine below_drewN ?_ _ | refine Below.drew ?_ | refine Below.setCell ?_ ?_ _ | refine Below.trans ?_ (Below.mono (by with_reducible assumption) ?_)) | go_size)) ?_
        repeat (
          apply chain_cons
          case h =>
            refine fun w9 hb9 => ?_
            have hB9 : Below wr.heap.size wr w9 := by (repeat' first | with_reducible (first | exact Below.refl _ _ | assumption | refine Below.alloc ?_ ?_ _ | refine below_drewN ?_ _ | refine Below.drew ?_ | refine Below.setCell ?_ ?_ _ | refine Below.trans ?_ (Below.mono (by with_reducible assumption) ?_)) | go_size)
            obtain ⟨kc9, kf9, s9⟩ := bfacts hb9
            obtain ⟨kd9, kg9, _⟩ := bfacts hB9
            go_wp2_with (at_lookup; refine wpList_lookupS_at rfl _ _ 134 false rfl rfl rfl (HLK.out _ (by (repeat' first | with_reducible (first | exact Below.refl _ _ | assumption | refine Below.alloc ?_ ?_ _ | refine below_drewN ?_ _ | refine Below.drew ?_ | refine Below.setCell ?_ ?_ _ | refine Below.trans ?_ (Below.mono (by with_reducible assumption) ?_)) | go_size))) ?_)
            (try (fail; go_wp2_with fail))
            refine settled_intro (S := fun w' => Below (wr).heap.size (wr) w') ?_
            (repeat' first | with_reducible (first | exact Below.refl _ _ | assumption | refine Below.alloc ?_ ?_ _ | refine below_drewN ?_ _ | refine Below.drew ?_ | refine Below.setCell ?_ ?_ _ | refine Below.trans ?_ (Below.mono (by with_reducible assumption) ?_)) | go_size)
          case hp => first | rfl | (simp only [*]; done) | (simp only [*]; rfl))
        refine chain.nil ?_
        refine fun w17 hb17 => ?_
        have B17 : Below wr.heap.size wr w17 := by (repeat' first | with_reducible (first | exact Below.refl _ _ | assumption | refine Below.alloc ?_ ?_ _ | refine below_drewN ?_ _ | refine Below.drew ?_ | refine Below.setCell ?_ ?_ _ | refine Below.trans ?_ (Below.mono (by with_reducible assumption) ?_)) | go_size)
        obtain ⟨kc17, kf17, s17⟩ := bfacts hb17
        obtain ⟨kd17, kg17, _⟩ := bfacts B17
        (try simp only [World.size_alloc, World.size_setCell, World.size_drew, World.heap_drewN, Nat.add_one_le_iff] at s17)
        clear hb17
        have hb17 := B17
        clear B17
        have B17 : Hid (Below wr.heap.size wr w17) := hb17
        (try have z17 : wr.heap.size < w17.heap.size := by omega)
        (try dsimp only)
        have hbw : Below wr.heap.size wr w17 := hb17
        have HLK2 := Lib.hid (fun u (hu : Below w17.heap.size w17 u) => HLK.out u (hbw.trans (hu.mono hbw.size)))
        replace t0 := (hbw.cell (p := ⟨eb, 0, none⟩) ztr).trans t0
        replace r0 := (hbw.cell (p := ⟨g', 0, none⟩) hg).trans r0
        replace u0 := (hbw.cell (p := ⟨gq, N, none⟩) h12).trans u0
        replace c2 := (hbw.cell (p := ⟨g, 2, none⟩) zgr).trans c2
        have zt17 := Nat.lt_of_lt_of_le ztr hbw.size
        have zg17 := Nat.lt_of_lt_of_le zgr hbw.size
        have zh17 := Nat.lt_of_lt_of_le hg hbw.size
        have zq17 := Nat.lt_of_lt_of_le h12 hbw.size
        have HBW := Lib.hid hbw
        clear hbw hb17 kc17 kf17 kd17 kg17 s17 B17 HLK
        go_upto_region 20 with fail
        refine wp_region_chain (fun w' => Below (w17).heap.size (w17) w') (by kernel_rfl) (by kernel_rfl) (by (repeat' first | with_reducible (first | exact Below.refl _ _ | assumption | refine Below.alloc ?_ ?_ _ | refine below_drewN ?_ _ | refine Below.drew ?_ | refine Below.setCell ?_ ?_ _ | refine Below.trans ?_ (Below.mono (by with_reducible assumption) ?_)) | go_size)) ?_
        repeat (
          apply chain_cons
          case h =>
            refine fun w9 hb9 => ?_
            have hB9 : Below w17.heap.size w17 w9 := by (repeat' first | with_reducible (first | exact Below.refl _ _ | assumption | refine Below.alloc ?_ ?_ _ | refine below_drewN ?_ _ | refine Below.drew ?_ | refine Below.setCell ?_ ?_ _ | refine Below.trans ?_ (Below.mono (by with_reducible assumption) ?_)) | go_size)
            obtain ⟨kc9, kf9, s9⟩ := bfacts hb9
            obtain ⟨kd9, kg9, _⟩ := bfacts hB9
            go_wp2_with (at_lookup; refine wpList_lookupS_at rfl _ _ 134 false rfl rfl rfl (HLK2.out _ (by (repeat' first | with_reducible (first | exact Below.refl _ _ | assumption | refine Below.alloc ?_ ?_ _ | refine below_drewN ?_ _ | refine Below.drew ?_ | refine Below.setCell ?_ ?_ _ | refine Below.trans ?_ (Below.mono (by with_reducible assumption) ?_)) | go_size))) ?_)
            (try (fail; go_wp2_with fail))
            refine settled_intro (S := fun w' => Below (w17).heap.size (w17) w') ?_
            (repeat' first | with_reducible (first | exact Below.refl _ _ | assumption | refine Below.alloc ?_ ?_ _ | refine below_drewN ?_ _ | refine Below.drew ?_ | refine Below.setCell ?_ ?_ _ | refine Below.trans ?_ (Below.mono (by with_reducible assumption) ?_)) | go_size)
          case hp => first | rfl | (simp only [*]; done) | (simp only [*]; rfl))
        refine chain.nil ?_
        refine fun w20 hb20 => ?_
        have B20 : Below w17.heap.size w17 w20 := by (repeat' first | with_reducible (first | exact Below.refl _ _ | assumption | refine Below.alloc ?_ ?_ _ | refine below_drewN ?_ _ | refine Below.drew ?_ | refine Below.setCell ?_ ?_ _ | refine Below.trans ?_ (Below.mono (by with_reducible assumption) ?_)) | go_size)
        obtain ⟨kc20, kf20, s20⟩ := bfacts hb20
        obtain ⟨kd20, kg20, _⟩ := bfacts B20
        (try simp only [World.size_alloc, World.size_setCell, World.size_drew, World.heap_drewN, Nat.add_one_le_iff] at s20)
        clear hb20
        have hb20 := B20
        clear B20
        have B20 : Hid (Below w17.heap.size w17 w20) := hb20
        (try have z20 : w17.heap.size < w20.heap.size := by omega)
        (try dsimp only)
        have hbw : Below wr.heap.size wr w20 := HBW.out.trans (hb20.mono HBW.out.size)
        go_wp2_with fail
        go_ret
        exact ⟨by rw [← HX.out]; rfl, HFW.out.on hbw, by rw [← HX.out]; exact HM.out.on hbw⟩
theorem revX_all : ∀ d, RXDo d
  | 0 => revX 0 (fun d' h => (by omega))
  | d + 1 => revX (d + 1) (fun d' h => (by obtain rfl : d = d' := by omega
                                           exact revX_all d))
end Go.Proofs.YtpbflgemhcaooaaDoor
