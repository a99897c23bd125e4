import Derived.Test.YtpbflgemhcaooaaDoorPt20
import Derived.Deep.DeepCutAuto
import Derived.Test.YtpbflgemhcaooaaDoorPt12
import Derived.Test.YtpbflgemhcaooaaDoorProg
import Derived.Maps.RangeWalk
import Derived.Maps.OwnSet
import Derived.StringKeys
/- eval: an expression's word. -/
namespace Ev
theorem wf_kinds {e : Ex} (h : WfE e) : (e.kind = 1 ∧ e.args.length = 0) ∨ (e.kind = 2 ∧ e.args.length = 0) ∨ (e.kind = 3 ∧ e.args.length = 2) ∨ (e.kind = 4 ∧ e.args.length = 3) ∨ (e.kind = 5 ∧ e.args.length = 1) := by
  cases h with
  | num n h1 h2 => exact .inl ⟨rfl, rfl⟩
  | name s h1 => exact .inr (.inl ⟨rfl, rfl⟩)
  | op n a b h1 h2 h3 h4 => exact .inr (.inr (.inl ⟨rfl, rfl⟩))
  | sel a b c h1 h2 h3 => exact .inr (.inr (.inr (.inl ⟨rfl, rfl⟩)))
  | «at» s a h1 h2 => exact .inr (.inr (.inr (.inr ⟨rfl, rfl⟩)))
/-- how an evaluation ended -/
def endX : Option Int → Option (Option Int)
  | none => some none
  | some _ => none
theorem hasN_mem : ∀ {l : Nms} {n : List UInt8}, n ∈ l.map Prod.fst → hasN l n
  | [], n, h => by cases h
  | (m, v) :: r, n, h => by
    rcases List.mem_cons.1 h with h | h
    · exact .inl h.symm
    · exact .inr (hasN_mem h)
theorem NmOk.has {L : List Par} {l : Nms} {n : List UInt8} {v : Par} (h : NmOk L l) (hf : findP L n = some v) : hasN l n := by
  obtain ⟨h1, h2⟩ := findP_mem hf
  apply hasN_mem
  rw [h, List.mem_reverse]
  exact List.mem_map.2 ⟨v, h1, h2⟩
end Ev
namespace Go.Proofs.YtpbflgemhcaooaaDoor
open Go.RowKit
set_option linter.unusedSimpArgs false
set_option linter.unusedVariables false
theorem evInt : (Tryd.prog.info? 3).map (fun i => (i.zero, i.size, i.bytes)) = some (some (.int .i64 0), 1, 8) := by kernel_rfl
abbrev TS (tb : Nat) : Nat → Prop := fun j => j = tb
/-- an evaluation at work -/
structure EvIn (w : World) (tb fb lo hi : Nat) (va v2 : Value) (vs : List Value) (A L : List Ev.Par) (a : Ev.Ars) (l : Ev.Nms) (bs : List Nat) : Prop where
  m : EvM w tb fb lo hi va v2 vs A a none
  c : Chain w bs l
  bl : ∀ c ∈ bs, hi ≤ c ∧ c ≠ tb
  nm : Ev.NmOk L l
  wn : Ev.WN l
  wa : Ev.WA a
theorem EvIn.to {w w' : World} {tb fb lo hi : Nat} {va v2 : Value} {vs : List Value} {A L : List Ev.Par} {a : Ev.Ars} {l : Ev.Nms} {bs : List Nat} (h : EvIn w tb fb lo hi va v2 vs A L a l bs) (hF : SFr (TS tb) w w') (hm : EvM w' tb fb lo hi va v2 vs A a none) : EvIn w' tb fb lo hi va v2 vs A L a l bs :=
  ⟨hm, h.c.same (fun b hb => hF.block b (h.c.lt b hb) (h.bl b hb).2), h.bl, h.nm, h.wn, h.wa⟩
theorem EvIn.on {w w' : World} {tb fb lo hi : Nat} {va v2 : Value} {vs : List Value} {A L : List Ev.Par} {a : Ev.Ars} {l : Ev.Nms} {bs : List Nat} (h : EvIn w tb fb lo hi va v2 vs A L a l bs) (hb : Below w.heap.size w w') : EvIn w' tb fb lo hi va v2 vs A L a l bs :=
  h.to (.of hb) (h.m.on hb)
theorem cell_sameE {w w' : World} {b o : Nat} (h : w'.heap[b]? = w.heap[b]?) : w'.cell? ⟨b, o, none⟩ = w.cell? ⟨b, o, none⟩ := by
  unfold World.cell?
  dsimp only
  rw [h]
theorem XAt.same {w w' : World} {b o : Nat} {e : Ev.Ex} {va : Value} (h : XAt w b o e va) (hs : w.heap.size ≤ w'.heap.size) (hb : w'.heap[b]? = w.heap[b]?) : XAt w' b o e va :=
  ⟨Nat.lt_of_lt_of_le h.lt hs, (cell_sameE hb).trans h.c0, (cell_sameE hb).trans h.c1, (cell_sameE hb).trans h.c2, (cell_sameE hb).trans h.c3⟩
theorem RExL.elK {d : Nat} {w : World} {K : Nat → Prop} {va : Value} {l : List Ev.Ex} {j : Nat} {e : Ev.Ex} (h : RExL d w K va l) (hj : l[j]? = some e) : ∃ (d' : Nat) (b off c : Nat) (vx : Value), d = d' + 1 ∧ va = .slice (some ⟨b, off, none⟩) l.length c ∧ K b ∧ XAt w b (off + j * 4) e vx ∧ RExL d' w K vx e.args := by
  obtain ⟨d', b, off, c, vx, h1, h2, h3, h4⟩ := h.el hj
  refine ⟨d', b, off, c, vx, h1, h2, ?_, h3, h4⟩
  subst h1
  obtain ⟨vs, _, _, h5, _⟩ := h
  exact h5 _ _ _ h2
theorem row_ints {w : World} {lo n c : Nat} {T : TypeId} {a : Option Addr} {S : List Int} (h : w.ownsRow lo T 1 (.slice a n c) S.length (S.map (Value.int .i64))) (h0 : 0 < S.length) : ∃ g, a = some ⟨g, 0, none⟩ ∧ g < w.heap.size ∧ ∀ (j : Nat) x, S[j]? = some x → w.cell? ⟨g, j, none⟩ = some (.int .i64 x) := by
  rcases h.2 with ⟨_, e⟩ | ⟨g, cap, cur, e, hb, hg, _⟩
  · have : S.length = 0 := by first | exact e | (simpa using congrArg List.length e)
    omega
  · injection e with e1 _ e3
    subst e1 e3
    refine ⟨g, rfl, (Array.getElem?_eq_some_iff.1 hg).1, fun j x hx => ?_⟩
    have hj := (List.getElem?_eq_some_iff.1 hx).1
    obtain rfl : n = S.length := by assumption
    rw [h.cellAt j (by omega), List.getElem?_map, hx]
    rfl
def EvXDo (d : Nat) : Prop := ∀ (e : Ev.Ex) (A L : List Ev.Par) (dark : Bool) (l : Ev.Nms) (a : Ev.Ars) (bs : List Nat) (tb fb lo hi : Nat) (va v2 vx : Value) (vs : List Value) (b o : Nat) (w : World) (K : Nat → Prop),
  EvIn w tb fb lo hi va v2 vs A L a l bs → XAt w b o e vx → b ≠ tb → RExL d w K vx e.args → (∀ k, K k → k ≠ tb) → Ev.WfE e → (Ev.exC A L dark e).2 = 0 →
  Calls Tryd.prog 120 #[.pointer (some ⟨tb, 0, none⟩), .pointer (some ⟨b, o, none⟩), headP bs] w fun r w' => r = .returned (.int .i64 ((Ev.exE A a l e).getD 0)) ∧ SFr (TS tb) w w' ∧ EvM w' tb fb lo hi va v2 vs A a (Ev.endX (Ev.exE A a l e))
set_option maxRecDepth 6000 in
set_option maxHeartbeats 6400000 in
theorem evX (d : Nat) (ih : ∀ d', d = d' + 1 → EvXDo d') : EvXDo d := by
  intro e A L dark l a bs tb fb lo hi va v2 vx vs b o w K hin hx hbt hr hK hw hc
  have HIN := Lib.hid hin
  have HX := Lib.hid hx
  have HR := Lib.hid hr
  have HW := Lib.hid (Ev.wf_args hw)
  have HKD := Lib.hid (Ev.wf_kinds hw)
  have HK := Lib.hid hK
  have HC := Lib.hid (Ev.exC_parts hc)
  have HWE := Lib.hid hw
  have HCC := Lib.hid hc
  obtain ⟨ax, cx, rfl⟩ := hr.form
  have hlen3 : e.args.length ≤ 3 := HW.out.2.2
  obtain ⟨R, hR⟩ : ∃ R, Ev.exE A a l e = R := ⟨_, rfl⟩
  rw [hR]
  have HE := Lib.hid ((Ev.exE_eq A a l e).symm.trans hR)
  have htl := hin.m.lt
  clear hR hin hx hr hK hw hc
  have b3 := HX.out.c3
  have blt := HX.out.lt
  obtain ⟨hp, hhp⟩ : ∃ hp, headP bs = hp := ⟨_, rfl⟩
  have HHP := Lib.hid hhp
  rw [hhp]
  clear hhp
  go_enter Tryd.func120, Tryd.ntmps120
  go_upto_region 3 with fail
  obtain ⟨i1, hi1, hz0, hz1, hz2⟩ := info_parts evInt
  have IC := Lib.hid (⟨hi1, hz0, hz1, hz2⟩ : _ ∧ _ ∧ _ ∧ _)
  clear hi1 hz0 hz1 hz2
  go_loopw [17, 7] (fun ii vv wr => ∃ (i : Nat) (S : List Int), i ≤ e.args.length ∧ S.length = i ∧ ii = .int .i64 (i : Int) ∧ Hid (wr.ownsRow w.heap.size 3 1 vv S.length (S.map (Value.int .i64))) ∧ Hid (Ev.ArgsE A a l e.args (e.args.drop i) S) ∧ Hid (SFr (TS tb) w wr) ∧ Hid (EvM wr tb fb lo hi va v2 vs A a none)) (fun ii _ _ => e.args.length - (intOf ii).toNat)
  case atStart => exact ⟨0, [], by omega, rfl, rfl, Lib.hid (World.ownsRow_nil _ _ _ _), Lib.hid (by rw [List.drop_zero]; exact Ev.ArgsE.start _ _ _ _), Lib.hid (SFr.refl _ _), Lib.hid HIN.out.m⟩
  case round =>
  obtain ⟨_, S, hil, rfl, rfl, HO, HA, HF, HM⟩ := hrel
  obtain ⟨sa, sc, rfl, _, _⟩ := SL.form (SL.of_own HO.out)
  have HXR := Lib.hid (HX.out.same HF.out.size (HF.out.block b blt hbt))
  have b3r := HXR.out.c3
  have zbr := HXR.out.lt
  have hsw := HF.out.size
  have HIR := Lib.hid (HIN.out.to HF.out HM.out)
  clear b3
  by_cases hlt : S.length < e.args.length
  case pos =>
    obtain ⟨x, hx⟩ : ∃ x, e.args[S.length]? = some x := ⟨_, List.getElem?_eq_getElem hlt⟩
    obtain ⟨d', b', off, c', vy, hd, hva, hKb, hxa, hxr⟩ := (RExL.sfr HR.out HF.out (fun k hk => HK.out k hk)).elK hx
    obtain ⟨h1, h2⟩ := slice_two hva
    clear hva
    subst h1 h2
    have hdr : e.args.drop S.length = x :: e.args.drop (S.length + 1) := by
      rw [List.getElem?_eq_getElem hlt] at hx
      injection hx with hx
      rw [← hx]
      exact List.drop_eq_getElem_cons hlt
    rw [hdr] at HA
    have hxm := List.mem_of_getElem? hx
    have CI := Lib.hid (ih d' hd x A L dark l a bs tb fb lo hi va v2 vy vs b' (off + S.length * 4) wr K HIR.out hxa (HK.out b' hKb) hxr HK.out (HW.out.1 x hxm) (HC.out.args x hxm))
    rw [HHP.out] at CI
    obtain ⟨RX, hRX⟩ : ∃ RX, Ev.exE A a l x = RX := ⟨_, rfl⟩
    rw [hRX] at CI
    have HRX := Lib.hid hRX
    have zb' := hxa.lt
    have ztr := HM.out.lt
    clear hx hxa hxr hdr hd hRX hxm hKb ih
    cases RX with
    | none =>
      have HBAD := Lib.hid (HA.out.bad HRX.out)
      rw [HBAD.out] at HE
      have HRN := Lib.hid (show none = R from HE.out)
      change Hid (Calls _ _ _ _ fun r w' => r = .returned (.int .i64 0) ∧ SFr (TS tb) wr w' ∧ EvM w' tb fb lo hi va v2 vs A a (some none)) at CI
      clear HA HE HBAD HRX
      go_upto_region 6 with (first
        | (go_at_call 120; refine CI.out.mono ?_; rintro r w5 ⟨rfl, hF5, hM5⟩; have OWN5 := Lib.hid (ownsRow_same HO.out (fun g hg => hF5.block g (HO.out.lt g hg).2 (by have := HO.out.lt g hg; show ¬ g = tb; omega))); have HF5 := Lib.hid hF5; have HM5 := Lib.hid hM5; clear hF5 hM5; have hs5 := HF5.out.size)
        | (at_builtin; refine wpList_append_own_at _ rfl (.tmp 20) (.tmp 30) _ rfl w.heap.size 3 i1 (.int .i64 0) 1 8 Tryd.underlying46 IC.out.1 IC.out.2.1 IC.out.2.2.1 IC.out.2.2.2 rfl (by decide) _ _ _ rfl (OWN5.out.alloc _) ⟨w5.heap.size, 0, none⟩ 1 1 [.int .i64 0] rfl rfl (cell_one_new _ _ _) (fun x hx => by simp at hx; subst hx; rfl) (by unfold maxLen; omega) (by omega) (by simp; omega) ?_; intro v7 w7 hown7 hg7 hn7 hat7; obtain ⟨A7, c7, rfl, _, _⟩ := SL.form (SL.of_own hown7)))
      have b5 : Below w5.heap.size w5 (w5.alloc (.cells #[.int .i64 0] 3)) := (Below.refl _ _).alloc (Nat.le_refl _) _
      have HM7 := Lib.hid ((HM5.out.on b5).keep hg7.size (fun k hk => hg7.block k (by have := HM5.out.lt; have := HM5.out.tl; have := b5.size; omega) (fun h => by have := OWN5.out.lt k h.symm; have := HM5.out.tl; have := HM5.out.ll; omega)))
      have HF7 := Lib.hid (show SFr (TS tb) w w7 from (HF.out.trans (HF5.out.on b5) (fun _ _ h => h)).trans (S' := fun k => OWN5.out.lt = OWN5.out.lt ∧ Value.ownBlock (.slice sa S.length sc) = some k) ⟨hg7.os, hg7.tape, hg7.output, hg7.size, fun k hk hn => hg7.block k hk (fun h => hn ⟨rfl, h.symm⟩)⟩ (fun k hk h => by have := OWN5.out.lt k h.2; omega))
      clear hown7 hg7 hn7 hat7 OWN5 HF5 HM5 b5
      have c2 : w7.cell? ⟨tb, 2, none⟩ = some (.bool true) := HM7.out.cell 2
      have zt := HM7.out.lt
      go_wp2_with fail
      go_ret
      refine ⟨by rw [← HRN.out]; rfl, HF7.out, by rw [← HRN.out]; exact HM7.out⟩
    | some y =>
      have HG := Lib.hid (HA.out.good HRX.out)
      change Hid (Calls _ _ _ _ fun r w' => r = .returned (.int .i64 y) ∧ SFr (TS tb) wr w' ∧ EvM w' tb fb lo hi va v2 vs A a none) at CI
      clear HA HRX
      go_upto_region 6 with (first
        | (go_at_call 120; refine CI.out.mono ?_; rintro r w5 ⟨rfl, hF5, hM5⟩; have OWN5 := Lib.hid (ownsRow_same HO.out (fun g hg => hF5.block g (HO.out.lt g hg).2 (by have := HO.out.lt g hg; show ¬ g = tb; omega))); have HF5 := Lib.hid hF5; have HM5 := Lib.hid hM5; clear hF5 hM5; have hs5 := HF5.out.size)
        | (at_builtin; refine wpList_append_own_at _ rfl (.tmp 20) (.tmp 30) _ rfl w.heap.size 3 i1 (.int .i64 0) 1 8 Tryd.underlying46 IC.out.1 IC.out.2.1 IC.out.2.2.1 IC.out.2.2.2 rfl (by decide) _ _ _ rfl (OWN5.out.alloc _) ⟨w5.heap.size, 0, none⟩ 1 1 [.int .i64 y] rfl rfl (cell_one_new _ _ _) (fun x hx => by simp at hx; subst hx; rfl) (by unfold maxLen; omega) (by omega) (by simp; omega) ?_; intro v7 w7 hown7 hg7 hn7 hat7; obtain ⟨A7, c7, rfl, _, _⟩ := SL.form (SL.of_own hown7)))
      have b5 : Below w5.heap.size w5 (w5.alloc (.cells #[.int .i64 y] 3)) := (Below.refl _ _).alloc (Nat.le_refl _) _
      have HM7 := Lib.hid ((HM5.out.on b5).keep hg7.size (fun k hk => hg7.block k (by have := HM5.out.lt; have := HM5.out.tl; have := b5.size; omega) (fun h => by have := OWN5.out.lt k h.symm; have := HM5.out.tl; have := HM5.out.ll; omega)))
      have HF7 := Lib.hid (show SFr (TS tb) w w7 from (HF.out.trans (HF5.out.on b5) (fun _ _ h => h)).trans (S' := fun k => OWN5.out.lt = OWN5.out.lt ∧ Value.ownBlock (.slice sa S.length sc) = some k) ⟨hg7.os, hg7.tape, hg7.output, hg7.size, fun k hk hn => hg7.block k hk (fun h => hn ⟨rfl, h.symm⟩)⟩ (fun k hk h => by have := OWN5.out.lt k h.2; omega))
      have HOWN := Lib.hid hown7
      clear hown7 hg7 hn7 hat7 OWN5 HF5 HM5 b5
      have c2 : w7.cell? ⟨tb, 2, none⟩ = some (.bool false) := HM7.out.cell 2
      have zt := HM7.out.lt
      go_wp2_with fail
      go_roundw
      case rel => exact ⟨S.length + 1, S ++ [y], by omega, by simp, by go_num, Lib.hid (by have h := HOWN.out; simpa using h), HG, HF7, HM7⟩
      case measure => simp [intOf]; omega
  case neg =>
  have HIN2 := Lib.hid (show S.length = e.args.length by omega)
  have HD := Lib.hid (Ev.ArgsE.done (show Ev.ArgsE A a l e.args [] S by
    have h := HA.out
    rw [HIN2.out, List.drop_length] at h
    exact h))
  rw [HD.out] at HE
  dsimp only at HE
  have c0 := HXR.out.c0
  have c1 := HXR.out.c1
  have c2 := HXR.out.c2
  have HSW := Lib.hid ((Ev.exsE_word HIN.out.wn HIN.out.wa HW.out.1 HD.out).2)
  clear hil HA IC b3r ih hlen3 HX HR
  rcases HKD.out with ⟨hkd, ha⟩ | ⟨hkd, ha⟩ | ⟨hkd, ha⟩ | ⟨hkd, ha⟩ | ⟨hkd, ha⟩
  case inl =>
    rw [hkd] at c0
    rw [hkd, if_neg (by decide), if_neg (by decide), if_neg (by decide), if_neg (by decide)] at HE
    clear hkd ha
    go_wp2_with fail
    go_ret
    exact ⟨by rw [← HE.out]; rfl, HF.out, by rw [← HE.out]; exact HM.out⟩
  case inr.inl =>
    rw [hkd] at c0
    rw [hkd, if_pos rfl] at HE
    obtain ⟨v, hv⟩ := HC.out.name hkd
    have hh := HIN.out.nm.has hv
    have CF := Lib.hid (evFind l bs e.name wr HIR.out.c hh)
    obtain ⟨up, hup⟩ := HIR.out.c.at_ hh
    rw [HHP.out] at CF
    have u1 : wr.cell? ⟨Ev.slotB bs l e.name, 1, none⟩ = some (.int .i64 (Ev.getN l e.name)) := cell_of_block hup 1
    have zu := (Array.getElem?_eq_some_iff.1 hup).1
    clear hkd ha hv hh hup
    generalize Ev.slotB bs l e.name = B at *
    go_wp2_with (go_at_call 121; refine CF.out.mono ?_; rintro r w1 ⟨rfl, rfl⟩)
    go_ret
    exact ⟨by rw [← HE.out]; rfl, HF.out, by rw [← HE.out]; exact HM.out⟩
  case inr.inr.inl =>
    rw [hkd] at c0
    rw [hkd, if_neg (by decide), if_pos rfl] at HE
    obtain ⟨x, y, rfl⟩ : ∃ x y, S = [x, y] := two_of (HIN2.out.trans ha)
    obtain ⟨g, rfl, hg, hcs⟩ := row_ints HO.out (by simp)
    have r0 := hcs 0 x rfl
    have r1 := hcs 1 y rfl
    have HXY := Lib.hid (show some (Ev.two e.n x y) = R from HE.out)
    replace hlt : ¬ 2 < e.args.length := hlt
    simp only [List.length_cons, List.length_nil, Nat.zero_add, Nat.reduceAdd]
    clear hkd ha hcs HE
    go_upto_region 13 with fail
    go_quiet ((go_at_call 139; exact Calls.quiet_of_same (two_same _ _ _ _)))
    go_wp2_with fail
    go_ret
    exact ⟨by rw [← HXY.out]; rfl, HF.out.on (below_drewN (Below.refl _ _) _), by rw [← HXY.out]; exact HM.out.on (below_drewN (Below.refl _ _) _)⟩
  case inr.inr.inr.inl =>
    rw [hkd] at c0
    rw [hkd, if_neg (by decide), if_neg (by decide), if_pos rfl] at HE
    obtain ⟨x, y, z, rfl⟩ : ∃ x y z, S = [x, y, z] := by
      have h := HIN2.out.trans ha
      match S, h with
      | [x, y, z], _ => exact ⟨x, y, z, rfl⟩
    obtain ⟨g, rfl, hg, hcs⟩ := row_ints HO.out (by simp)
    have r0 := hcs 0 x rfl
    have r1 := hcs 1 y rfl
    have r2 := hcs 2 z rfl
    have HXY := Lib.hid (show some (Ev.sel x y z) = R from HE.out)
    replace hlt : ¬ 3 < e.args.length := hlt
    simp only [List.length_cons, List.length_nil, Nat.zero_add, Nat.reduceAdd]
    clear hkd ha hcs HE
    go_upto_region 16 with fail
    go_quiet ((go_at_call 140; exact Calls.quiet_of_same (sel_same _ _ _ _)))
    go_wp2_with fail
    go_ret
    exact ⟨by rw [← HXY.out]; rfl, HF.out.on (below_drewN (Below.refl _ _) _), by rw [← HXY.out]; exact HM.out.on (below_drewN (Below.refl _ _) _)⟩
  case inr.inr.inr.inr =>
    rw [hkd] at c0
    rw [hkd, if_neg (by decide), if_neg (by decide), if_neg (by decide), if_pos rfl] at HE
    obtain ⟨n, rfl⟩ : ∃ n, S = [n] := one_of (HIN2.out.trans ha)
    obtain ⟨g, rfl, hg, hcs⟩ := row_ints HO.out (by simp)
    have r0 := hcs 0 n rfl
    replace hlt : ¬ 1 < e.args.length := hlt
    have hn0 : 0 ≤ n := (HSW.out n (by simp)).1
    obtain ⟨p, hp⟩ := HC.out.at_ hkd
    have hal := Ev.arrI_lt hp
    obtain ⟨k, hk⟩ : ∃ k, Ev.arrI A e.name = k := ⟨_, rfl⟩
    have CA := Lib.hid (evArr e.name wr HM.out hal)
    rw [hk] at CA hal HE
    obtain ⟨q, hq⟩ : ∃ q, a[k]? = some q := ⟨_, List.getElem?_eq_getElem (by rw [HM.out.len]; exact hal)⟩
    have HXY := Lib.hid (show (if n < (q.length : Int) then some (q.getD n.toNat 0) else none) = R by
      have h := HE.out
      rw [show a.getD k [] = q by rw [List.getD_eq_getElem?_getD, hq]; rfl] at h
      exact h)
    have HQ := Lib.hid hq
    simp only [List.length_cons, List.length_nil, Nat.zero_add, Nat.reduceAdd]
    clear hkd ha hcs HE hp hk hq
    go_upto_region 19 with (go_at_call 122; refine CA.out.mono ?_; rintro r w5 ⟨rfl, hb5⟩)
    have HM5 := Lib.hid (HM.out.on hb5)
    have CP := Lib.hid (evPlace k q n w5 HM5.out HQ.out)
    have r05 := (hb5.cell (p := ⟨g, 0, none⟩) hg).trans r0
    have hg5 : g < w5.heap.size := Nat.lt_of_lt_of_le hg hb5.size
    have hgt : g ≠ tb := by have := HO.out.lt g rfl; omega
    have HF5 := Lib.hid (HF.out.on hb5)
    clear r0 CA hb5
    by_cases hnq : n < (q.length : Int)
    case neg =>
      rw [if_neg hnq] at HXY
      rw [if_neg hnq, decide_eq_false hnq] at CP
      clear hnq
      go_wp2_with (go_at_call 123; refine CP.out.mono ?_; rintro r w6 ⟨rfl, hF6, hM6⟩)
      go_ret
      exact ⟨by rw [← HXY.out]; rfl, HF5.out.trans hF6 (fun _ _ h => h), by rw [← HXY.out]; exact hM6⟩
    case pos =>
      rw [if_pos hnq] at HXY
      rw [if_pos hnq, decide_eq_true hnq] at CP
      go_upto_region 21 with (go_at_call 123; refine CP.out.mono ?_; rintro r w6 ⟨rfl, hF6, hM6⟩)
      have HM6 := Lib.hid hM6
      have HF6 := Lib.hid (HF5.out.trans hF6 (fun _ _ h => h))
      have r06 := (cell_sameE (o := 0) (hF6.block g hg5 hgt)).trans r05
      have hg6 : g < w6.heap.size := Nat.lt_of_lt_of_le hg5 hF6.size
      obtain ⟨bo, co, X, ca, hva, h1, h2, h3, h4, h5, h6, h7, h8, h9, h10⟩ := HM6.out.arrs.at_ HQ.out
      obtain ⟨gq, rfl, h11, h12, _, h13⟩ := h10 (by omega)
      have t1 : w6.cell? ⟨tb, 1, none⟩ = some va := HM6.out.cell 1
      rw [hva] at t1
      have zt6 := HM6.out.lt
      obtain ⟨N, hN⟩ : ∃ N : Nat, n = (N : Int) := ⟨n.toNat, by omega⟩
      subst hN
      have hNq : N < q.length := by omega
      have hqN : q[N]? = some q[N] := List.getElem?_eq_getElem hNq
      have u0 := h13 N _ hqN
      have HXZ := Lib.hid (show some q[N] = R by
        have h := HXY.out
        rw [Int.toNat_natCast, List.getD_eq_getElem?_getD, hqN] at h
        exact h)
      generalize q[N] = z at *
      have hqn2 : (N : Int) < (q.length : Int) := by omega
      clear hF6 hM6 r05 CP HXY hva h1 h5 h7 h8 h13 hqN hg5 HF5 HM5 hn0 hNq
      go_quiet (fail)
      go_wp2_with fail
      go_ret
      exact ⟨by rw [← HXZ.out]; rfl, HF6.out.on (below_drewN (Below.refl _ _) _), by rw [← HXZ.out]; exact HM6.out.on (below_drewN (Below.refl _ _) _)⟩
theorem evX_all : ∀ d, EvXDo d
  | 0 => evX 0 (fun d' h => (by omega))
  | d + 1 => evX (d + 1) (fun d' h => (by obtain rfl : d = d' := by omega
                                          exact evX_all d))
end Go.Proofs.YtpbflgemhcaooaaDoor
/- Maps with text keys in memory: what a block's map reads as, as a function of the key; looked up, set, deleted from, cleared. -/
namespace Go.Proofs.YtpbflgemhcaooaaDoor
open Go.RowKit
open Go.ChangeMaps (setBlock)
open Go.Maps (Keyed)
set_option linter.unusedSimpArgs false
set_option linter.unusedVariables false
def InS (p : List UInt8) : Prop := p.length ≤ 281474976710656
theorem str_inj {p q : List UInt8} (h : Value.string ⟨p.toArray⟩ = .string ⟨q.toArray⟩) : p = q := by
  injection h with h
  injection h with h
  simpa using h
theorem strK : Keyed Tryd.prog 9 := Go.Maps.string_keyed Tryd.underlying9
theorem key_str {p : List UInt8} (h : InS p) : keyOf Tryd.prog 9 (.string ⟨p.toArray⟩) = some (.string p) := WideMaps.keyOf_string_mk Tryd.underlying9 (by show p.toArray.size ≤ _; unfold InS at h; simp [maxLen]; omega)
abbrev SMapF := List UInt8 → Option Value
def smapPut (m : SMapF) (p : List UInt8) (v : Option Value) : SMapF := fun q => if q = p then v else m q
structure StrMap (es : Array MapEntry) (clock : Nat) (m : SMapF) : Prop where
  keys : ∀ x ∈ es.toList, ∃ p, x.key = .string ⟨p.toArray⟩ ∧ InS p
  stamped : Go.MapKept.Stamped es clock
  reads : ∀ p v, m p = some v ↔ ∃ x ∈ es.toList, x.key = .string ⟨p.toArray⟩ ∧ x.val = v
/-- the block b is a map that reads as m -/
def SMapIn (w : World) (b : Nat) (m : SMapF) : Prop := ∃ es clock, w.heap[b]? = some (.map es clock) ∧ StrMap es clock m
section
variable {es : Array MapEntry} {clock : Nat} {m : SMapF} {w w' : World} {b : Nat}
theorem StrMap.keyed (h : StrMap es clock m) : ∀ e ∈ es.toList, ∃ l, keyOf Tryd.prog 9 e.key = some l := fun e he => by
  obtain ⟨p, hp, h64⟩ := h.keys e he
  exact ⟨_, by rw [hp]; exact key_str h64⟩
theorem StrMap.pair (h : StrMap es clock m) : es.toList.Pairwise (fun x y => x.key ≠ y.key) := ((Go.MapKept.stamped_iff es clock).1 h.stamped).2.2
theorem StrMap.nil (clock : Nat) : StrMap #[] clock (fun _ => none) := ⟨fun x hx => by simp at hx, (Go.MapKept.stamped_iff _ _).2 ⟨fun x hx => by simp at hx, by simp, by simp⟩, fun p v => by simp⟩
theorem StrMap.at_ (h : StrMap es clock m) {x : MapEntry} {p : List UInt8} (hx : x ∈ es.toList) (hk : x.key = .string ⟨p.toArray⟩) : m p = some x.val := (h.reads p x.val).2 ⟨x, hx, hk, rfl⟩
theorem StrMap.none_ (h : StrMap es clock m) {p : List UInt8} (hn : ∀ x ∈ es.toList, x.key ≠ .string ⟨p.toArray⟩) : m p = none := by
  cases hm : m p with
  | none => rfl
  | some v => obtain ⟨x, hx, hk, _⟩ := (h.reads p v).1 hm; exact absurd hk (hn x hx)
theorem SMapIn.lt (h : SMapIn w b m) : b < w.heap.size := by obtain ⟨es, c, hb, _⟩ := h; exact (Array.getElem?_eq_some_iff.1 hb).1
theorem SMapIn.on (h : SMapIn w b m) (hb : Below w.heap.size w w') : SMapIn w' b m := by
  have hlt := h.lt
  obtain ⟨es, c, h1, h2⟩ := h
  exact ⟨es, c, (hb.block b hlt).trans h1, h2⟩
theorem SMapIn.same (h : SMapIn w b m) (hs : w'.heap[b]? = w.heap[b]?) : SMapIn w' b m := by
  obtain ⟨es, c, h1, h2⟩ := h
  exact ⟨es, c, hs.trans h1, h2⟩
theorem SMapIn.made (w : World) : SMapIn (w.alloc (.map #[] 0)) w.heap.size (fun _ => none) := ⟨#[], 0, heap_alloc_new w _, StrMap.nil 0⟩
/-- the world but for a map's block -/
def STurned (w w' : World) (b : Nat) : Prop := ∃ es clock es' clock', w.heap[b]? = some (.map es clock) ∧ w' = setBlock w b (.map es' clock')
theorem STurned.size (h : STurned w w' b) : w'.heap.size = w.heap.size := by obtain ⟨_, _, _, _, _, rfl⟩ := h; simp [setBlock]
theorem STurned.other (h : STurned w w' b) {c : Nat} (hc : c ≠ b) : w'.heap[c]? = w.heap[c]? := by
  obtain ⟨es, c1, es', c2, hb, rfl⟩ := h
  unfold setBlock
  simp only
  rw [Array.getElem?_setIfInBounds_ne (by omega)]
theorem STurned.grown (h : STurned w w' b) : w.grownBy w' (some b) := by
  have hs := h.size
  have ho := fun c hc => h.other (c := c) hc
  obtain ⟨es, c1, es', c2, hb, rfl⟩ := h
  exact ⟨rfl, rfl, rfl, by rw [hs]; exact Nat.le_refl _, fun i _ hi => ho i (fun e => hi (by rw [e]))⟩
theorem STurned.below (h : STurned w w' b) {B : Nat} (hB : B ≤ b) (hw : B ≤ w.heap.size) : Below B w w' := (Below.refl B w).grown h.grown hw (fun q hq => by injection hq with hq; omega)
theorem STurned.cell (h : STurned w w' b) {c o : Nat} (hc : c ≠ b) : w'.cell? ⟨c, o, none⟩ = w.cell? ⟨c, o, none⟩ := by
  unfold World.cell?
  dsimp only
  rw [h.other hc]
theorem STurned.frozen (h : STurned w w' b) {c o : Nat} (hc : c ≠ b) : w'.frozen? ⟨c, o, none⟩ = w.frozen? ⟨c, o, none⟩ := by
  unfold World.frozen?
  dsimp only
  rw [h.other hc]
theorem set_atS (w : World) (hb : b < w.heap.size) (o : Obj) : (setBlock w b o).heap[b]? = some o := by
  unfold setBlock
  simp [Array.getElem?_setIfInBounds_self_of_lt hb]
/-- looked up -/
theorem SMapIn.lookup (h : SMapIn w b m) {T e : TypeId} {z : Value} (ht : Tryd.prog.underlying T = some (.map 9 e)) (hz : (zeroValue e).run Tryd.prog w = .ok z w) {p : List UInt8} (hp : InS p) (ok : Bool) :
    (Go.Instr.lookup T (.map (some b)) (.string ⟨p.toArray⟩) ok).run Tryd.prog w = .ok (if ok then .tuple #[(m p).getD z, .bool (m p).isSome] else (m p).getD z) w := by
  obtain ⟨es, clock, hb, F⟩ := h
  rcases strK.find w (key_str hp) es.toList F.keyed with ⟨h1, h2⟩ | ⟨j, e0, h1, h2, h3⟩
  · rw [F.none_ h2]
    cases ok <;> simp [Go.Instr.lookup, run_underlying ht, Go.MapKept.run_getObj_map hb, strK.check w _ (key_str hp), h1, hz, Result.andThen]
  · rw [F.at_ (List.mem_of_getElem? h2) h3]
    cases ok <;> simp [Go.Instr.lookup, run_underlying ht, Go.MapKept.run_getObj_map hb, strK.check w _ (key_str hp), h1, Result.andThen]
/-- set -/
theorem StrMap.push (F : StrMap es clock m) {p : List UInt8} (hp : InS p) (hn : ∀ x ∈ es.toList, x.key ≠ .string ⟨p.toArray⟩) (v : Value) : StrMap (es.push ⟨.string ⟨p.toArray⟩, v, clock⟩) (clock + 1) (smapPut m p (some v)) := by
  refine ⟨fun x hx => ?_, Go.MapKept.stamped_push F.stamped hn, fun q u => ?_⟩
  · simp only [Array.toList_push, List.mem_append, List.mem_singleton] at hx
    rcases hx with hx | rfl
    · exact F.keys x hx
    · exact ⟨p, rfl, hp⟩
  · unfold smapPut
    simp only [Array.toList_push, List.mem_append, List.mem_singleton]
    by_cases hq : q = p
    · subst hq
      rw [if_pos rfl]
      refine ⟨fun h => ?_, fun ⟨x, hx, hk, hv⟩ => ?_⟩
      · injection h with h
        exact ⟨_, .inr rfl, rfl, h⟩
      · rcases hx with hx | rfl
        · exact absurd hk (hn x hx)
        · exact congrArg some hv
    · rw [if_neg hq, F.reads]
      refine ⟨fun ⟨x, hx, hk, hv⟩ => ⟨x, .inl hx, hk, hv⟩, fun ⟨x, hx, hk, hv⟩ => ?_⟩
      rcases hx with hx | rfl
      · exact ⟨x, hx, hk, hv⟩
      · replace hk := str_inj hk
        exact absurd hk.symm hq
theorem StrMap.set (F : StrMap es clock m) {p : List UInt8} {j : Nat} {e0 : MapEntry} (h2 : es.toList[j]? = some e0) (h3 : e0.key = .string ⟨p.toArray⟩) (hp : InS p) (v : Value) : StrMap (es.modify j (fun e => ⟨.string ⟨p.toArray⟩, v, e.born⟩)) clock (smapPut m p (some v)) := by
  have hj : es[j]? = some e0 := by simpa using h2
  have hl : (es.modify j (fun e => (⟨.string ⟨p.toArray⟩, v, e.born⟩ : MapEntry))).toList = es.toList.set j ⟨.string ⟨p.toArray⟩, v, e0.born⟩ := by
    rw [Array.toList_modify]
    exact Go.ChangeMaps.modify_eq_set _ _ _ _ h2
  have hs := Go.MapKept.stamped_modify F.stamped j (fun e => ⟨.string ⟨p.toArray⟩, v, e.born⟩) (fun _ _ => rfl) (fun e' _ he' => by rw [hj] at he'; injection he' with he'; rw [← he', h3])
  have hpw := ((Go.MapKept.stamped_iff _ _).1 hs).2.2
  have hin : (⟨.string ⟨p.toArray⟩, v, e0.born⟩ : MapEntry) ∈ (es.modify j (fun e => (⟨.string ⟨p.toArray⟩, v, e.born⟩ : MapEntry))).toList := by
    rw [hl]
    exact List.mem_set (List.getElem?_eq_some_iff.1 h2).1 _
  refine ⟨fun x hx => ?_, hs, fun q u => ?_⟩
  · rw [hl] at hx
    rcases List.mem_or_eq_of_mem_set hx with hx | rfl
    · exact F.keys x hx
    · exact ⟨p, rfl, hp⟩
  · unfold smapPut
    by_cases hq : q = p
    · subst hq
      rw [if_pos rfl]
      refine ⟨fun h => ?_, fun ⟨x, hx, hk, hv⟩ => ?_⟩
      · injection h with h
        exact ⟨_, hin, rfl, h⟩
      · have := Go.entry_eq_of_key hpw hx hin hk
        rw [this] at hv
        exact congrArg some hv
    · rw [if_neg hq, F.reads]
      refine ⟨fun ⟨x, hx, hk, hv⟩ => ?_, fun ⟨x, hx, hk, hv⟩ => ?_⟩
      · obtain ⟨i, hi⟩ := List.getElem?_of_mem hx
        have hne : j ≠ i := fun e => by
          subst e
          rw [h2] at hi
          injection hi with hi
          rw [← hi, h3] at hk
          replace hk := str_inj hk
          exact hq hk.symm
        refine ⟨x, ?_, hk, hv⟩
        rw [hl]
        exact List.mem_of_getElem? (i := i) (by rw [List.getElem?_set_ne hne]; exact hi)
      · rw [hl] at hx
        rcases List.mem_or_eq_of_mem_set hx with hx | rfl
        · exact ⟨x, hx, hk, hv⟩
        · replace hk := str_inj hk
          exact absurd hk.symm hq
theorem SMapIn.update (h : SMapIn w b m) {T e : TypeId} (ht : Tryd.prog.underlying T = some (.map 9 e)) {p : List UInt8} (hp : InS p) (v : Value) :
    ∃ w', (Go.Instr.mapUpdate T (.map (some b)) (.string ⟨p.toArray⟩) v).run Tryd.prog w = .ok () w' ∧ SMapIn w' b (smapPut m p (some v)) ∧ STurned w w' b := by
  have hlt := h.lt
  obtain ⟨es, clock, hb, F⟩ := h
  rcases strK.find w (key_str hp) es.toList F.keyed with ⟨h1, h2⟩ | ⟨j, e0, h1, h2, h3⟩
  · refine ⟨setBlock w b (.map (es.push ⟨.string ⟨p.toArray⟩, v, clock⟩) (clock + 1)), ?_, ⟨_, _, set_atS w hlt _, F.push hp h2 v⟩, ⟨es, clock, _, _, hb, rfl⟩⟩
    simp [Go.Instr.mapUpdate, run_underlying ht, Go.MapKept.run_getObj_map hb, strK.check w false (key_str hp), h1, Go.MapKept.run_setObj_map _ hb, Result.andThen, setBlock]
  · have hj : es[j]? = some e0 := by simpa using h2
    refine ⟨setBlock w b (.map (es.modify j (fun e => ⟨.string ⟨p.toArray⟩, v, e.born⟩)) clock), ?_, ⟨_, _, set_atS w hlt _, F.set h2 h3 hp v⟩, ⟨es, clock, _, _, hb, rfl⟩⟩
    simp [Go.Instr.mapUpdate, run_underlying ht, Go.MapKept.run_getObj_map hb, strK.check w false (key_str hp), h1, hj, h3, strK.stays w (key_str hp), Go.MapKept.run_setObj_map _ hb, Result.andThen, setBlock]
/-- deleted from -/
theorem StrMap.drop (F : StrMap es clock m) {p : List UInt8} {j : Nat} {e0 : MapEntry} (h2 : es.toList[j]? = some e0) (h3 : e0.key = .string ⟨p.toArray⟩) : StrMap (es.eraseIdxIfInBounds j) clock (smapPut m p none) := by
  have hjs : j < es.size := by have := (List.getElem?_eq_some_iff.1 h2).1; simpa using this
  have hl : (es.eraseIdxIfInBounds j).toList = es.toList.eraseIdx j := by
    unfold Array.eraseIdxIfInBounds
    rw [dif_pos hjs]
    simp
  refine ⟨fun x hx => ?_, Go.MapKept.stamped_erase F.stamped j, fun q u => ?_⟩
  · rw [hl] at hx
    exact F.keys x ((List.eraseIdx_sublist _ _).subset hx)
  · unfold smapPut
    rw [hl]
    by_cases hq : q = p
    · subst hq
      rw [if_pos rfl]
      refine ⟨(fun h => by cases h), fun ⟨x, hx, hk, _⟩ => ?_⟩
      exfalso
      obtain ⟨i, hne, hi⟩ := List.mem_eraseIdx_iff_getElem?.1 hx
      have hpw := F.pair
      rw [List.pairwise_iff_getElem] at hpw
      obtain ⟨il, ie⟩ := List.getElem?_eq_some_iff.1 hi
      obtain ⟨jl, je⟩ := List.getElem?_eq_some_iff.1 h2
      rcases Nat.lt_or_ge i j with h | h
      · exact hpw i j il jl h (by rw [ie, je, hk, h3])
      · exact hpw j i jl il (by omega) (by rw [ie, je, hk, h3])
    · rw [if_neg hq, F.reads]
      refine ⟨fun ⟨x, hx, hk, hv⟩ => ?_, fun ⟨x, hx, hk, hv⟩ => ⟨x, (List.eraseIdx_sublist _ _).subset hx, hk, hv⟩⟩
      obtain ⟨i, hi⟩ := List.getElem?_of_mem hx
      refine ⟨x, List.mem_eraseIdx_iff_getElem?.2 ⟨i, fun e => ?_, hi⟩, hk, hv⟩
      subst e
      rw [h2] at hi
      injection hi with hi
      rw [← hi, h3] at hk
      replace hk := str_inj hk
      exact hq hk.symm
theorem SMapIn.drop (h : SMapIn w b m) {T e : TypeId} (ht : Tryd.prog.underlying T = some (.map 9 e)) {p : List UInt8} (hp : InS p) (ty : TypeId) :
    ∃ w', (Builtin.delete_ #[T, 9] ty #[.map (some b), .string ⟨p.toArray⟩]).run Tryd.prog w = .ok (.tuple #[]) w' ∧ SMapIn w' b (smapPut m p none) ∧ STurned w w' b := by
  have hlt := h.lt
  obtain ⟨es, clock, hb, F⟩ := h
  rcases strK.find w (key_str hp) es.toList F.keyed with ⟨h1, h2⟩ | ⟨j, e0, h1, h2, h3⟩
  · refine ⟨setBlock w b (.map es clock), ?_, ⟨_, _, set_atS w hlt _, ?_⟩, ⟨es, clock, _, _, hb, rfl⟩⟩
    · simp [Builtin.delete_, run_underlying ht, Go.MapKept.run_getObj_map hb, strK.check w _ (key_str hp), h1, Go.MapKept.run_setObj_map _ hb, Result.andThen, setBlock]
    · have : smapPut m p none = m := by
        funext q
        unfold smapPut
        by_cases hq : q = p
        · rw [if_pos hq, hq, F.none_ h2]
        · rw [if_neg hq]
      rw [this]
      exact F
  · refine ⟨setBlock w b (.map (es.eraseIdxIfInBounds j) clock), ?_, ⟨_, _, set_atS w hlt _, F.drop h2 h3⟩, ⟨es, clock, _, _, hb, rfl⟩⟩
    simp [Builtin.delete_, run_underlying ht, Go.MapKept.run_getObj_map hb, strK.check w _ (key_str hp), h1, Go.MapKept.run_setObj_map _ hb, Result.andThen, setBlock]
/-- cleared -/
theorem SMapIn.clear (h : SMapIn w b m) {T e : TypeId} (ht : Tryd.prog.underlying T = some (.map 9 e)) (ty : TypeId) :
    ∃ w', (Builtin.clear_ #[T] ty #[.map (some b)]).run Tryd.prog w = .ok (.tuple #[]) w' ∧ SMapIn w' b (fun _ => none) ∧ STurned w w' b := by
  have hlt := h.lt
  obtain ⟨es, clock, hb, F⟩ := h
  refine ⟨setBlock w b (.map #[] clock), ?_, ⟨_, _, set_atS w hlt _, StrMap.nil clock⟩, ⟨es, clock, _, _, hb, rfl⟩⟩
  simp [Builtin.clear_, run_underlying ht, Go.MapKept.run_getObj_map hb, Go.MapKept.run_setObj_map _ hb, Result.andThen, setBlock]
end
/-! ### at the operation, for the walk -/
section
variable {ops : Array Oper} {rest : List Oper} {o : Oper} {a : Act} {w : World} {Q : Exit → Act → World → Prop}
theorem wpList_lookupS_at (hg : o.guard = none) (x y : Operand) (T : TypeId) (ok : Bool) (ho : o.op = Op.lookup T x y ok) {b : Nat} {p : List UInt8} {v : Value} (hx : a.eval x = .map (some b)) (hy : a.eval y = .string ⟨p.toArray⟩)
    (hr : (Go.Instr.lookup T (.map (some b)) (.string ⟨p.toArray⟩) ok).run Tryd.prog w = .ok v w) (hK : wpList Tryd.prog ops Q rest (a.put o.dst v) w) : wpList Tryd.prog ops Q (o :: rest) a w := by
  refine wpList_plain hg fun K' hK' => ?_
  unfold Oper.wp
  simp [execOp, ho, hx, hy, hr, Result.andThen]
  exact hK' _ _ hK
theorem wpList_lookupS_atg (hw : Region.wanted o (yielded ops a.tmps) = true) (x y : Operand) (T : TypeId) (ok : Bool) (ho : o.op = Op.lookup T x y ok) {b : Nat} {p : List UInt8} {v : Value} (hx : a.eval x = .map (some b)) (hy : a.eval y = .string ⟨p.toArray⟩)
    (hr : (Go.Instr.lookup T (.map (some b)) (.string ⟨p.toArray⟩) ok).run Tryd.prog w = .ok v w) (hK : wpList Tryd.prog ops Q rest (a.put o.dst v) w) : wpList Tryd.prog ops Q (o :: rest) a w := by
  refine wpList_step fun K' hK' => ?_
  rw [if_pos hw]
  unfold Oper.wp
  simp [execOp, ho, hx, hy, hr, Result.andThen]
  exact hK' _ _ hK
theorem wpList_updateS_at (hg : o.guard = none) (x y z : Operand) (T e : TypeId) (ho : o.op = Op.mapUpdate T x y z) (ht : Tryd.prog.underlying T = some (.map 9 e)) {b : Nat} {p : List UInt8} {v : Value} {m : SMapF} (hx : a.eval x = .map (some b)) (hy : a.eval y = .string ⟨p.toArray⟩) (hz : a.eval z = v)
    (hm : SMapIn w b m) (hp : InS p) (hK : ∀ w', SMapIn w' b (smapPut m p (some v)) → STurned w w' b → wpList Tryd.prog ops Q rest (a.put o.dst undef) w') : wpList Tryd.prog ops Q (o :: rest) a w := by
  refine wpList_plain hg fun K' hK' => ?_
  obtain ⟨w', hr, h1, h2⟩ := hm.update ht hp v
  unfold Oper.wp
  simp [execOp, ho, hx, hy, hz, hr, Result.andThen]
  exact hK' _ _ (hK w' h1 h2)
theorem wpList_deleteS_at (hg : o.guard = none) (x y : Operand) (T e : TypeId) (ho : o.op = Op.call { callee := Callee.builtin Builtin.delete, args := #[x, y], argTypes := #[T, 9] }) (ht : Tryd.prog.underlying T = some (.map 9 e)) {b : Nat} {p : List UInt8} {m : SMapF} (hx : a.eval x = .map (some b)) (hy : a.eval y = .string ⟨p.toArray⟩)
    (hm : SMapIn w b m) (hp : InS p) (hK : ∀ w', SMapIn w' b (smapPut m p none) → STurned w w' b → wpList Tryd.prog ops Q rest (a.put o.dst (.tuple #[])) w') : wpList Tryd.prog ops Q (o :: rest) a w := by
  refine wpList_plain hg fun K' hK' => ?_
  obtain ⟨w', hr, h1, h2⟩ := hm.drop ht hp o.type
  unfold Oper.wp
  simp [execOp, ho, resolve, invoke, builtin, hx, hy, hr, Result.andThen]
  exact hK' _ _ (hK w' h1 h2)
theorem wpList_clearS_at (hg : o.guard = none) (x : Operand) (T e : TypeId) (ho : o.op = Op.call { callee := Callee.builtin Builtin.clear, args := #[x], argTypes := #[T] }) (ht : Tryd.prog.underlying T = some (.map 9 e)) {b : Nat} {m : SMapF} (hx : a.eval x = .map (some b))
    (hm : SMapIn w b m) (hK : ∀ w', SMapIn w' b (fun _ => none) → STurned w w' b → wpList Tryd.prog ops Q rest (a.put o.dst (.tuple #[])) w') : wpList Tryd.prog ops Q (o :: rest) a w := by
  refine wpList_plain hg fun K' hK' => ?_
  obtain ⟨w', hr, h1, h2⟩ := hm.clear ht o.type
  unfold Oper.wp
  simp [execOp, ho, resolve, invoke, builtin, hx, hr, Result.andThen]
  exact hK' _ _ (hK w' h1 h2)
end
end Go.Proofs.YtpbflgemhcaooaaDoor
/- A range over a map with text keys, under way. -/
namespace Go.Proofs.YtpbflgemhcaooaaDoor
open Go.RowKit
open Go.ChangeMaps (setBlock)
open Go.Maps (Keyed)
set_option linter.unusedSimpArgs false
set_option linter.unusedVariables false
def SRangeIn (w : World) (b r : Nat) (m : SMapF) (left : List UInt8 → Bool) (cnt : Nat) : Prop := ∃ es clock since seen c0, w.heap[b]? = some (.map es clock) ∧ StrMap es clock m ∧ w.heap[r]? = some (.mapIter (some b) since seen c0) ∧ (∀ x ∈ es.toList, x.born < since) ∧ since ≤ c0 ∧ since ≤ clock ∧
  (∀ p, left p = true ↔ ∃ x ∈ es.toList, x.key = .string ⟨p.toArray⟩ ∧ seen.contains x.born = false) ∧ (leftOf es seen).size = cnt
section
variable {w w' : World} {b r : Nat} {m : SMapF} {left : List UInt8 → Bool} {cnt : Nat}
theorem SRangeIn.map (h : SRangeIn w b r m left cnt) : SMapIn w b m := by obtain ⟨es, clock, _, _, _, h1, h2, _⟩ := h; exact ⟨es, clock, h1, h2⟩
theorem SRangeIn.same (h : SRangeIn w b r m left cnt) (hb : w'.heap[b]? = w.heap[b]?) (hr : w'.heap[r]? = w.heap[r]?) : SRangeIn w' b r m left cnt := by
  obtain ⟨es, clock, since, seen, c0, h1, h2, h3, h4⟩ := h
  exact ⟨es, clock, since, seen, c0, hb.trans h1, h2, hr.trans h3, h4⟩
theorem SRangeIn.lt (h : SRangeIn w b r m left cnt) : r < w.heap.size := by obtain ⟨_, _, _, _, _, _, _, h3, _⟩ := h; exact (Array.getElem?_eq_some_iff.1 h3).1
theorem SRangeIn.ne (h : SRangeIn w b r m left cnt) : r ≠ b := by
  obtain ⟨_, _, _, _, _, h1, _, h3, _⟩ := h
  intro e
  rw [e, h1] at h3
  cases h3
theorem SMapIn.range (h : SMapIn w b m) {T e : TypeId} (ht : Tryd.prog.underlying T = some (.map 9 e)) :
    ∃ w' cnt, (Go.Instr.range T (.map (some b))).run Tryd.prog w = .ok (.pointer (some ⟨w.heap.size, 0, none⟩)) w' ∧ SRangeIn w' b w.heap.size m (fun p => (m p).isSome) cnt ∧ Below w.heap.size w w' ∧ w'.heap.size = w.heap.size + 1 := by
  have hlt := h.lt
  obtain ⟨es, clock, hb, F⟩ := h
  refine ⟨w.alloc (.mapIter (some b) clock #[] clock), _, run_range_map w T _ e b es clock ht hb, ⟨es, clock, clock, #[], clock, ?_, F, heap_alloc_new w _, ((Go.MapKept.stamped_iff es clock).1 F.stamped).1, Nat.le_refl _, Nat.le_refl _, fun p => ?_, rfl⟩, (Below.refl _ _).alloc (Nat.le_refl _) _, by simp⟩
  · exact (Below.block ((Below.refl w.heap.size w).alloc (Nat.le_refl _) _) b hlt).trans hb
  · rw [Option.isSome_iff_exists]
    refine ⟨fun ⟨v, hv⟩ => ?_, fun ⟨x, hx, hk, _⟩ => ⟨_, F.at_ hx hk⟩⟩
    obtain ⟨x, hx, hk, _⟩ := (F.reads p v).1 hv
    exact ⟨x, hx, hk, by simp⟩
theorem SRangeIn.next (h : SRangeIn w b r m left cnt) (ty : TypeId) :
    (cnt = 0 ∧ (∀ p, left p = false) ∧ (Go.Instr.next (.pointer (some ⟨r, 0, none⟩)) false ty).run Tryd.prog w = .ok (.tuple #[.bool false]) w) ∨
    ∃ p v w' cnt', InS p ∧ left p = true ∧ m p = some v ∧ (Go.Instr.next (.pointer (some ⟨r, 0, none⟩)) false ty).run Tryd.prog w = .ok (.tuple #[.bool true, .string ⟨p.toArray⟩, v]) w' ∧ SRangeIn w' b r m (fun q => left q && !decide (q = p)) cnt' ∧ cnt' < cnt ∧ w.grownBy w' (some r) ∧ w'.heap.size = w.heap.size ∧
      (Go.Instr.entry (.pointer (some ⟨r, 0, none⟩))).run Tryd.prog w' = .ok (.tuple #[.string ⟨p.toArray⟩, v]) w' := by
  have hne := h.ne
  obtain ⟨es, clock, since, seen, c0, hb, F, hr, hold, hsc, hsk, hl, rfl⟩ := h
  have hst := (Go.MapKept.stamped_iff es clock).1 F.stamped
  rcases run_next_at (P := Tryd.prog) w ty r b since c0 seen es clock hr hb hold hsc with ⟨h0, hrun⟩ | ⟨e, he, w1, hal, hrun⟩
  · refine Or.inl ⟨h0, fun p => ?_, hrun⟩
    cases hp : left p with
    | false => rfl
    | true =>
      obtain ⟨x, hx, _, hs⟩ := (hl p).1 hp
      rw [all_seen es seen h0 x hx] at hs
      cases hs
  · obtain ⟨hem, hes⟩ := mem_left he
    obtain ⟨p, hp, h64⟩ := F.keys e hem
    have hr1 : w1.heap[r]? = some (.mapIter (some b) since seen c0) := by rcases hal with rfl | rfl <;> exact hr
    have hb1 : w1.heap[b]? = some (.map es clock) := by rcases hal with rfl | rfl <;> exact hb
    have hset := Go.MapKept.heap_set (o' := .mapIter (some b) since (seen.push e.born) clock) hr1
    have hb' : (setBlock w1 r (.mapIter (some b) since (seen.push e.born) clock)).heap[b]? = some (.map es clock) := (hset.2 b (fun e1 => hne e1.symm)).trans hb1
    have hen := run_entry_at (P := Tryd.prog) _ r b since seen es clock e hset.1 hb' hem hst.2.1
    rw [hp] at hrun hen
    refine Or.inr ⟨p, e.val, _, _, h64, (hl p).2 ⟨e, hem, hp, hes⟩, F.at_ hem hp, hrun, ⟨es, clock, since, seen.push e.born, clock, hb', F, hset.1, hold, hsk, hsk, fun q => ?_, rfl⟩, left_shrinks es seen e he, ?_, ?_, hen⟩
    · rw [Bool.and_eq_true, Bool.not_eq_true', decide_eq_false_iff_not, hl]
      refine ⟨fun ⟨⟨x, hx, hk, hs⟩, hq⟩ => ⟨x, hx, hk, ?_⟩, fun ⟨x, hx, hk, hs⟩ => ⟨⟨x, hx, hk, ?_⟩, ?_⟩⟩
      · rw [contains_push, hs, Bool.false_or, beq_eq_false_iff_ne]
        intro hbe
        have := born_inj hst.2.1 hx hem hbe
        rw [this, hp] at hk
        replace hk := str_inj hk
        exact hq hk.symm
      · rw [contains_push, Bool.or_eq_false_iff] at hs
        exact hs.1
      · intro hq
        subst hq
        have := entry_eq_of_key hst.2.2 hx hem (hk.trans hp.symm)
        rw [contains_push, this] at hs
        simp at hs
    · rcases hal with rfl | rfl <;> exact ⟨rfl, rfl, rfl, by simp [setBlock], fun i _ hi => hset.2 i (fun e1 => hi (by rw [e1]))⟩
    · rcases hal with rfl | rfl <;> simp [setBlock]
end
/-! ### at the operation, for the walk -/
section
variable {ops : Array Oper} {rest : List Oper} {o : Oper} {a : Act} {w : World} {Q : Exit → Act → World → Prop}
theorem wpList_rangeS_at (hg : o.guard = none) (x : Operand) (T e : TypeId) (ho : o.op = Op.range T x) (ht : Tryd.prog.underlying T = some (.map 9 e)) {b : Nat} {m : SMapF} (hx : a.eval x = .map (some b)) (hm : SMapIn w b m)
    (hK : ∀ w' cnt, SRangeIn w' b w.heap.size m (fun p => (m p).isSome) cnt → Below w.heap.size w w' → w'.heap.size = w.heap.size + 1 → wpList Tryd.prog ops Q rest (a.put o.dst (.pointer (some ⟨w.heap.size, 0, none⟩))) w') : wpList Tryd.prog ops Q (o :: rest) a w := by
  refine wpList_plain hg fun K' hK' => ?_
  obtain ⟨w', cnt, hr, h1, h2, h3⟩ := hm.range ht
  unfold Oper.wp
  simp [execOp, ho, hx, hr, Result.andThen]
  exact hK' _ _ (hK w' cnt h1 h2 h3)
theorem wpList_nextS_at (hg : o.guard = none) (x : Operand) (ho : o.op = Op.next x false) {b r : Nat} {m : SMapF} {left : List UInt8 → Bool} {cnt : Nat} (hx : a.eval x = .pointer (some ⟨r, 0, none⟩)) (hm : SRangeIn w b r m left cnt)
    (hDone : cnt = 0 → (∀ p, left p = false) → wpList Tryd.prog ops Q rest (a.put o.dst (.tuple #[.bool false])) w)
    (hMore : ∀ p v w' cnt', InS p → left p = true → m p = some v → SRangeIn w' b r m (fun q => left q && !decide (q = p)) cnt' → cnt' < cnt → w.grownBy w' (some r) → w'.heap.size = w.heap.size → (Go.Instr.entry (.pointer (some ⟨r, 0, none⟩))).run Tryd.prog w' = .ok (.tuple #[.string ⟨p.toArray⟩, v]) w' →
      wpList Tryd.prog ops Q rest (a.put o.dst (.tuple #[.bool true, .string ⟨p.toArray⟩, v])) w') : wpList Tryd.prog ops Q (o :: rest) a w := by
  refine wpList_plain hg fun K' hK' => ?_
  unfold Oper.wp
  rcases hm.next o.type with ⟨h0, hl, hrun⟩ | ⟨p, v, w', cnt', h1, h2, h3, hrun, h4, h5, h6, h7, h8⟩
  · simp [execOp, ho, hx, hrun, Result.andThen]
    exact hK' _ _ (hDone h0 hl)
  · simp [execOp, ho, hx, hrun, Result.andThen]
    exact hK' _ _ (hMore p v w' cnt' h1 h2 h3 h4 h5 h6 h7 h8)
end
end Go.Proofs.YtpbflgemhcaooaaDoor
