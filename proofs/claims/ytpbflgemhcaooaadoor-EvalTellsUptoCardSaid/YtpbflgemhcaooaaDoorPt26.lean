import Derived.Test.YtpbflgemhcaooaaDoorPt25
/- eval: statements. -/
namespace Go.Proofs.YtpbflgemhcaooaaDoor
open Go.RowKit
set_option linter.unusedSimpArgs false
set_option linter.unusedVariables false
/-- a block at work: how far it came -/
structure BlAt (w wx : World) (tb fb lo hi : Nat) (va v2 : Value) (vs : List Value) (A : List Ev.Par) (dark : Bool) (bs : List Nat) (ts : List Ev.St1) (R : Ev.EO) (i : Nat) (bi : List Nat) (li : Ev.Nms) (ai : Ev.Ars) (ei : Option (Option Int)) : Prop where
  m : EvM wx tb fb lo hi va v2 vs A ai ei
  c : Chain wx bi li
  fr : SFr (MS lo hi tb bs) w wx
  ex : ∃ cs, bi = cs ++ bs ∧ ∀ c ∈ cs, w.heap.size ≤ c
  on : ei = none → ∃ Li, Ev.NmOk Li li ∧ Ev.WN li ∧ Ev.WA ai ∧ Ev.TyB A Li dark (ts.drop i) ∧ Ev.blE A li ai (ts.drop i) = R
  off : ei.isSome = true → R = ⟨li, ai, ei⟩
theorem bl_step {A : List Ev.Par} {ts : List Ev.St1} {i : Nat} {t : Ev.St1} (ht : ts[i]? = some t) (l : Ev.Nms) (a : Ev.Ars) : Ev.blE A l a (ts.drop i) = if (Ev.stE A l a t).e.isSome = true then Ev.stE A l a t else Ev.blE A (Ev.stE A l a t).l (Ev.stE A l a t).a (ts.drop (i + 1)) := by
  rw [drop_cons_at ht, Ev.blE_cons]
set_option maxRecDepth 6000 in
set_option maxHeartbeats 6400000 in
theorem evBlock (d : Nat) (ih : ∀ d', d = d' + 1 → EvSDo d') : EvBDo d := by
  intro ts A L dark l a bs tb fb lo hi va v2 v vs w K hin hr hK hw ht
  obtain ⟨aa, c, rfl⟩ := hr.slice
  have hfew := hr.fewT
  obtain ⟨R, hR⟩ : ∃ R, Ev.blE A l a ts = R := ⟨_, rfl⟩
  rw [hR]
  have HE := Lib.hid hR
  have HIN := Lib.hid hin
  have HR := Lib.hid hr
  have HKL := Lib.hid hK
  have HW := Lib.hid hw
  have HT := Lib.hid ht
  have HMS := Lib.hid (show ∀ k, k < lo → ¬ MS lo hi tb bs k from fun k hk h => by
    have h1 := hin.m.le
    have h2 := hin.m.tl
    rcases h with h | h | h
    · omega
    · omega
    · have := (hin.bl k h).1; omega)
  clear hR hin hr hK hw ht
  go_enter Tryd.func82, Tryd.ntmps82
  go_upto_region 1 with fail
  go_loopw [9, 2] (fun ii vv wr => ∃ (i : Nat) (bi : List Nat) (li : Ev.Nms) (ai : Ev.Ars) (ei : Option (Option Int)), i ≤ ts.length ∧ ii = .int .i64 (i : Int) ∧ vv = headP bi ∧ Hid (BlAt w wr tb fb lo hi va v2 vs A dark bs ts R i bi li ai ei)) (fun ii _ _ => ts.length - (intOf ii).toNat)
  case atStart => exact ⟨0, bs, l, a, none, by omega, rfl, rfl, Lib.hid ⟨HIN.out.m, HIN.out.c, SFr.refl _ _, ⟨[], rfl, fun c hc => by cases hc⟩, fun _ => ⟨L, HIN.out.nm, HIN.out.wn, HIN.out.wa, by rw [List.drop_zero]; exact HT.out, by rw [List.drop_zero]; exact HE.out⟩, fun h => by cases h⟩⟩
  case round =>
  obtain ⟨i, bi, li, ai, ei, hi', rfl, rfl, HB⟩ := hrel
  obtain ⟨hpo, hhp⟩ := headP_form bi
  have HHP := Lib.hid hhp
  rw [hhp]
  clear hhp
  have ztr := HB.out.m.lt
  by_cases hlt : i < ts.length
  case pos =>
    have c2 : wr.cell? ⟨tb, 2, none⟩ = some (.bool ei.isSome) := HB.out.m.cell 2
    cases ei with
    | some x =>
      have c2 : wr.cell? ⟨tb, 2, none⟩ = some (.bool true) := c2
      obtain ⟨cs, hcs, _⟩ := HB.out.ex
      have HX := Lib.hid (HB.out.off rfl)
      have HCS := Lib.hid hcs
      clear hcs
      go_wp2_with fail
      (try simp only [Exit.inBlock, Exit.then])
      refine bodyPost_ret (results_none rfl _ _ _) rfl ?_
      refine ⟨rfl, HB.out.fr, by rw [HX.out]; exact HB.out.m, cs, by rw [HX.out, ← HCS.out]; exact HB.out.c⟩
    | none =>
      have c2 : wr.cell? ⟨tb, 2, none⟩ = some (.bool false) := c2
      obtain ⟨t, htt⟩ : ∃ t, ts[i]? = some t := ⟨_, List.getElem?_eq_getElem hlt⟩
      have HLT := Lib.hid hlt
      have HTT := Lib.hid htt
      obtain ⟨d', b, off, c', x, hd, hva, hKb, hst, hpt⟩ := (RStL.sfr HR.out HB.out.fr (fun k hk => HMS.out k (HKL.out k hk))).el htt
      obtain ⟨h1, h2⟩ := slice_two hva
      clear hva
      subst h1 h2
      obtain ⟨Li, o1, o2, o3, o4, o5⟩ := HB.out.on rfl
      rw [drop_cons_at htt] at o4
      obtain ⟨o6, o7⟩ := o4.cons
      obtain ⟨cs, hcs, hcz⟩ := HB.out.ex
      have HCS := Lib.hid hcs
      have HCZ := Lib.hid hcz
      have HI := Lib.hid (show EvIn wr tb fb lo hi va v2 vs A Li ai li bi from ⟨HB.out.m, HB.out.c, fun c hc => by
        rw [HCS.out] at hc
        rcases List.mem_append.1 hc with hc | hc
        · have := HCZ.out c hc; have := HIN.out.m.lt; have := HIN.out.m.tl; omega
        · exact HIN.out.bl c hc, o1, o2, o3⟩)
      have hmt := List.mem_of_getElem? htt
      have CI := Lib.hid (ih d' hd t x A Li dark li ai bi tb fb lo hi va v2 vs b (off + i * 7) wr K HI.out hst (HKL.out b hKb) hpt HKL.out (HW.out t hmt) o6)
      rw [HHP.out] at CI
      have HP := Lib.hid (Ev.stE_pres A t li ai (HW.out t hmt) o2 o3)
      have HST := Lib.hid ((bl_step htt li ai).symm.trans o5)
      have HTY := Lib.hid o7
      have HN1 := Lib.hid o1
      clear htt hd hst hpt hKb o1 o2 o3 o4 o5 o6 o7 hcs hcz hmt ih
      go_wp2_with (go_at_call 103; refine CI.out.mono ?_; rintro r w5 ⟨b5, rfl, hF5, hM5, hC5, hb5⟩)
      go_roundw
      case rel =>
        refine ⟨i + 1, b5, (Ev.stE A li ai t).l, (Ev.stE A li ai t).a, (Ev.stE A li ai t).e, by have := HLT.out; omega, by go_num, rfl, Lib.hid ⟨hM5, hC5, ?_, ?_, fun he => ?_, fun he => ?_⟩⟩
        · refine HB.out.fr.trans hF5 (fun k hk h => ?_)
          rcases h with h | h | h
          · exact .inl h
          · exact .inr (.inl h)
          · rw [HCS.out] at h
            rcases List.mem_append.1 h with h | h
            · have := HCZ.out k h; omega
            · exact .inr (.inr h)
        · rcases hb5 with rfl | ⟨c, rfl, hc⟩
          · exact HB.out.ex
          · refine ⟨c :: cs, by rw [HCS.out]; rfl, fun k hk => ?_⟩
            rcases List.mem_cons.1 hk with rfl | hk
            · have := HB.out.fr.size; omega
            · exact HCZ.out k hk
        · have h := HST.out
          rw [if_neg (by rw [he]; decide)] at h
          exact ⟨_, Ev.nextN_ok HN1.out HP.out.2 he, HP.out.1.wn, HP.out.1.wa, HTY.out, h⟩
        · have h := HST.out
          rw [if_pos he] at h
          exact h.symm
      case measure => have := HLT.out; simp [intOf]; omega
  case neg =>
  obtain ⟨cs, hcs, _⟩ := HB.out.ex
  have HCS := Lib.hid hcs
  clear hcs
  have HX := Lib.hid (show R = ⟨li, ai, ei⟩ from by
    cases ei with
    | none =>
      obtain ⟨Li, o1, o2, o3, o4, o5⟩ := HB.out.on rfl
      rw [List.drop_eq_nil_of_le (by omega), Ev.blE_nil] at o5
      exact o5.symm
    | some x => exact HB.out.off rfl)
  go_wp2_with fail
  go_end0
  refine ⟨rfl, HB.out.fr, by rw [HX.out]; exact HB.out.m, cs, by rw [HX.out, ← HCS.out]; exact HB.out.c⟩
theorem evBlock_all : ∀ d, EvBDo d
  | 0 => evBlock 0 (fun d' h => (by omega))
  | d + 1 => evBlock (d + 1) (fun d' h => (by obtain rfl : d = d' := by omega
                                              exact evStmt d (evBlock_all d)))
end Go.Proofs.YtpbflgemhcaooaaDoor
