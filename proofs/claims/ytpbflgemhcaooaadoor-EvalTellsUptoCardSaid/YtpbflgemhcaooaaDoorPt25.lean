import Derived.Test.YtpbflgemhcaooaaDoorPt21
import Derived.Test.YtpbflgemhcaooaaDoorPt19
import Derived.Test.YtpbflgemhcaooaaDoorPt12
import Derived.Test.YtpbflgemhcaooaaDoorPt9
/- eval: a statement. -/
namespace Go.Proofs.YtpbflgemhcaooaaDoor
open Go.RowKit
set_option linter.unusedSimpArgs false
set_option linter.unusedVariables false
/-- a new block, at base or above -/
def Hv.boxS (base : Nat) (cs : Array Value) (t : TypeId) : Hv where
  R v w := ∃ g, v = .pointer (some ⟨g, 0, none⟩) ∧ base ≤ g ∧ w.heap[g]? = some (.cells cs t (0, 0))
  ok v := ∃ g, v = .pointer (some ⟨g, 0, none⟩)
  imp v w h := by obtain ⟨g, e, _⟩ := h; exact ⟨g, e⟩
  dum := ⟨_, 0, rfl⟩
  stay v w w' hb h := by obtain ⟨g, e, h0, hg⟩ := h; exact ⟨g, e, h0, (hb.block g (Array.getElem?_eq_some_iff.1 hg).1).trans hg⟩
theorem boxS_heap {w : World} {A base : Nat} {o : Obj} (h : ∃ g, Value.pointer (some ⟨A, 0, none⟩) = .pointer (some ⟨g, 0, none⟩) ∧ base ≤ g ∧ w.heap[g]? = some o) : base ≤ A ∧ w.heap[A]? = some o := by
  obtain ⟨g, e, h0, hg⟩ := h
  injection e with e
  injection e with e
  injection e with e
  subst e
  exact ⟨h0, hg⟩
theorem SFr.wide {S S' : Nat → Prop} {w w' : World} (h : SFr S w w') (k : ∀ i, S i → S' i) : SFr S' w w' := ⟨h.os, h.tape, h.output, h.size, fun i hi hn => h.block i hi (fun e => hn (k i e))⟩
/-- what a statement may change -/
abbrev MS (lo hi tb : Nat) (bs : List Nat) : Nat → Prop := fun k => (lo ≤ k ∧ k < hi) ∨ k = tb ∨ k ∈ bs
theorem ts_ms {lo hi tb : Nat} {bs : List Nat} : ∀ i, TS tb i → MS lo hi tb bs i := fun i h => .inr (.inl h)
theorem Chain.cons {w : World} {bs : List Nat} {l : Ev.Nms} {n : List UInt8} {v : Int} {A : Nat} (h : Chain w bs l) (hA : ∀ c ∈ bs, c < A) (hc : w.heap[A]? = some (.cells #[.string ⟨n.toArray⟩, .int .i64 v, headP bs] 157 (0, 0))) : Chain w (A :: bs) ((n, v) :: l) :=
  ⟨n, v, l, rfl, hc, fun hm => Nat.lt_irrefl _ (hA A hm), h⟩
theorem RStL.fewT {d : Nat} {w : World} {K : Nat → Prop} {v : Value} {l : List Ev.St1} (h : RStL d w K v l) : l.length ≤ 9223372036854775807 := by
  cases d with
  | zero => obtain ⟨rfl, rfl⟩ := h; exact Nat.zero_le _
  | succ d =>
    obtain ⟨_, _, h2, _⟩ := h
    obtain ⟨A, c, e, h3, h4⟩ := SL.form h2
    unfold maxLen at h4
    omega
theorem headP_form : ∀ bs : List Nat, ∃ o, headP bs = .pointer o
  | [] => ⟨_, rfl⟩
  | _ :: _ => ⟨_, rfl⟩
def EvBDo (d : Nat) : Prop := ∀ (ts : List Ev.St1) (A L : List Ev.Par) (dark : Bool) (l : Ev.Nms) (a : Ev.Ars) (bs : List Nat) (tb fb lo hi : Nat) (va v2 v : Value) (vs : List Value) (w : World) (K : Nat → Prop),
  EvIn w tb fb lo hi va v2 vs A L a l bs → RStL d w K v ts → (∀ k, K k → k < lo) → (∀ t ∈ ts, Ev.WfS t) → Ev.TyB A L dark ts →
  Calls Tryd.prog 82 #[.pointer (some ⟨tb, 0, none⟩), v, headP bs] w fun r w' => r = .returned (.tuple #[]) ∧ SFr (MS lo hi tb bs) w w' ∧ EvM w' tb fb lo hi va v2 vs A (Ev.blE A l a ts).a (Ev.blE A l a ts).e ∧ ∃ cs, Chain w' (cs ++ bs) (Ev.blE A l a ts).l
/-- what a statement leaves -/
def EvSPost (w : World) (tb fb lo hi : Nat) (va v2 : Value) (vs : List Value) (A : List Ev.Par) (bs : List Nat) (o : Ev.EO) (r : Ending) (w' : World) : Prop :=
  ∃ bs', r = .returned (headP bs') ∧ SFr (MS lo hi tb bs) w w' ∧ EvM w' tb fb lo hi va v2 vs A o.a o.e ∧ Chain w' bs' o.l ∧ (bs' = bs ∨ ∃ c, bs' = c :: bs ∧ w.heap.size ≤ c)
def EvSDo (d : Nat) : Prop := ∀ (t : Ev.St1) (x : V3) (A L : List Ev.Par) (dark : Bool) (l : Ev.Nms) (a : Ev.Ars) (bs : List Nat) (tb fb lo hi : Nat) (va v2 : Value) (vs : List Value) (b o : Nat) (w : World) (K : Nat → Prop),
  EvIn w tb fb lo hi va v2 vs A L a l bs → StAt w b o t x → b < lo → RParts d w K t x → (∀ k, K k → k < lo) → Ev.WfS t → Ev.TyS A L dark t →
  Calls Tryd.prog 103 #[.pointer (some ⟨tb, 0, none⟩), .pointer (some ⟨b, o, none⟩), headP bs] w (EvSPost w tb fb lo hi va v2 vs A bs (Ev.stE A l a t))
theorem for_pres {A L : List Ev.Par} {l : Ev.Nms} {a : Ev.Ars} {thn : List Ev.St1} {nm : List UInt8} {j : Int} (hn : Ev.NmOk L l) (hl : Ev.WN l) (ha : Ev.WA a) (hw : ∀ t ∈ thn, Ev.WfS t) (h0 : 0 ≤ j) (h8 : j ≤ 8) :
    Ev.NmOk L ((Ev.blE A ((nm, j) :: l) a thn).back l).l ∧ Ev.WN ((Ev.blE A ((nm, j) :: l) a thn).back l).l ∧ Ev.WA ((Ev.blE A ((nm, j) :: l) a thn).back l).a := by
  have p := Ev.blE_pres A thn ((nm, j) :: l) a hw (fun p hp => by
    rcases List.mem_cons.1 hp with rfl | hp
    · exact ⟨h0, by show j ≤ 4294967295; omega⟩
    · exact hl p hp) ha
  have q := p.back (l0 := l) ⟨[nm], rfl⟩
  obtain ⟨p1, e1⟩ := p.nm
  exact ⟨(Ev.back_fst (l := l) ⟨p1 ++ [nm], by rw [e1]; simp⟩).trans hn, q.wn, q.wa⟩
theorem for_names {L : List Ev.Par} {l : Ev.Nms} {nm : List UInt8} {j : Int} (hn : Ev.NmOk L l) : Ev.NmOk (L ++ [⟨nm, false, -1⟩]) ((nm, j) :: l) := by
  unfold Ev.NmOk at hn ⊢
  rw [List.map_append, List.reverse_append]
  show nm :: l.map Prod.fst = nm :: (L.map Ev.Par.name).reverse
  rw [hn]
theorem for_words {l : Ev.Nms} {nm : List UInt8} {j : Int} (hl : Ev.WN l) (h0 : 0 ≤ j) (h8 : j ≤ 8) : Ev.WN ((nm, j) :: l) := fun p hp => by
  rcases List.mem_cons.1 hp with rfl | hp
  · exact ⟨h0, by show j ≤ 4294967295; omega⟩
  · exact hl p hp
theorem times_step {f : Int → Ev.Nms → Ev.Ars → Ev.EO} {N i : Nat} (hi : i < N) (l : Ev.Nms) (a : Ev.Ars) : Ev.timesE f (N - i) (i : Int) l a = if (f i l a).e.isSome = true then f i l a else Ev.timesE f (N - (i + 1)) ((i + 1 : Nat) : Int) (f i l a).l (f i l a).a := by
  rw [show N - i = (N - (i + 1)) + 1 by omega]
  rw [Ev.timesE]
  rfl
set_option maxRecDepth 4000 in
set_option maxHeartbeats 1600000 in
/-- a block, where it has ended -/
theorem evBlEnd {tb fb lo hi : Nat} {va v2 : Value} {vs : List Value} {A : List Ev.Par} {a : Ev.Ars} {e : Option (Option Int)} (v p : Value) (n c : Nat) (x : Option Addr) (hv : v = .slice x n c) (hn : n ≤ maxLen) (w : World) (h : EvM w tb fb lo hi va v2 vs A a e) (he : e.isSome = true) :
    Calls Tryd.prog 82 #[.pointer (some ⟨tb, 0, none⟩), v, p] w fun r w' => r = .returned (.tuple #[]) ∧ w' = w := by
  subst hv
  unfold maxLen at hn
  have c2 : w.cell? ⟨tb, 2, none⟩ = some (.bool true) := by
    have := h.cell 2
    rw [he] at this
    exact this
  have zt := h.lt
  clear h he
  go_enter Tryd.func82, Tryd.ntmps82
  go_upto_region 1 with fail
  go_loopg [9] 1 (fun gg s0 wr => wr = w ∧ s0 = .int .i64 0)
  case atStart => exact ⟨rfl, rfl⟩
  case round =>
  obtain ⟨rfl, rfl⟩ := hrel
  by_cases h0 : (0 : Int) < (n : Int)
  case pos =>
    go_wp2_with fail
    (try simp only [Exit.inBlock, Exit.then])
    refine bodyPost_ret (results_none rfl _ _ _) rfl ?_
    exact ⟨rfl, rfl⟩
  case neg =>
    go_wp2_with fail
    go_end0
    exact ⟨rfl, rfl⟩
theorem drop_cons_at {α : Type} {l : List α} {i : Nat} {x : α} (hx : l[i]? = some x) : l.drop i = x :: l.drop (i + 1) := by
  obtain ⟨hlt, e⟩ := List.getElem?_eq_some_iff.1 hx
  rw [← e]
  exact List.drop_eq_getElem_cons hlt
/-- a loop at work: how far it came -/
structure ForAt (w wx : World) (tb fb lo hi : Nat) (va v2 : Value) (vs : List Value) (A L : List Ev.Par) (bs : List Nat) (f : Int → Ev.Nms → Ev.Ars → Ev.EO) (N : Nat) (R : Ev.EO) (i : Nat) (li : Ev.Nms) (ai : Ev.Ars) (ei : Option (Option Int)) : Prop where
  m : EvM wx tb fb lo hi va v2 vs A ai ei
  c : Chain wx bs li
  fr : SFr (MS lo hi tb bs) w wx
  on : ei = none → Ev.NmOk L li ∧ Ev.WN li ∧ Ev.WA ai ∧ Ev.timesE f (N - i) (i : Int) li ai = R
  off : ei.isSome = true → R = ⟨li, ai, ei⟩
set_option maxRecDepth 8000 in
set_option maxHeartbeats 12800000 in
theorem evStmt (d : Nat) (ih : EvBDo d) : EvSDo d := by
  intro t x A L dark l a bs tb fb lo hi va v2 vs b o w K hin hx hbl hp hK hw ht
  have HIN := Lib.hid hin
  have HX := Lib.hid hx
  have HX1 := Lib.hid hp.1
  have HX2 := Lib.hid hp.2.1
  have HX3 := Lib.hid hp.2.2
  have HW := Lib.hid (Ev.wf_st hw)
  have HT := Lib.hid ht.parts
  have HWW := Lib.hid hw
  have HKL := Lib.hid hK
  have hbt : b ≠ tb := by have := hin.m.le; have := hin.m.tl; omega
  have HBL := Lib.hid hbl
  have HK := Lib.hid (show ∀ k, K k → k ≠ tb from fun k hk => by have := hK k hk; have := hin.m.le; have := hin.m.tl; omega)
  obtain ⟨va4, va5, va6⟩ := x
  dsimp only at HX1 HX2 HX3
  obtain ⟨ax, cx, rfl⟩ := HX1.out.form
  have hlen2 : t.args.length ≤ 2 := HW.out.few
  obtain ⟨R, hR⟩ : ∃ R, Ev.stE A l a t = R := ⟨_, rfl⟩
  rw [hR]
  have HE := Lib.hid ((Ev.stE_eq A l a t).symm.trans hR)
  have htl := hin.m.lt
  clear hR hin hx hp hw hK ht hbl
  have b4 : w.cell? ⟨b, o + 4, none⟩ = some (.slice ax t.args.length cx) := HX.out.c4
  have blt := HX.out.lt
  obtain ⟨hpo, hhp⟩ := headP_form bs
  have HHP := Lib.hid hhp
  rw [hhp]
  clear hhp
  go_enter Tryd.func103, Tryd.ntmps103
  go_upto_region 3 with fail
  obtain ⟨i1, hi1, hz0, hz1, hz2⟩ := info_parts evInt
  have IC := Lib.hid (⟨hi1, hz0, hz1, hz2⟩ : _ ∧ _ ∧ _ ∧ _)
  clear hi1 hz0 hz1 hz2
  go_loopw [16, 7] (fun ii vv wr => ∃ (i : Nat) (S : List Int), i ≤ t.args.length ∧ S.length = i ∧ ii = .int .i64 (i : Int) ∧ Hid (wr.ownsRow w.heap.size 3 1 vv S.length (S.map (Value.int .i64))) ∧ Hid (Ev.ArgsE A a l t.args (t.args.drop i) S) ∧ Hid (SFr (TS tb) w wr) ∧ Hid (EvM wr tb fb lo hi va v2 vs A a none)) (fun ii _ _ => t.args.length - (intOf ii).toNat)
  case atStart => exact ⟨0, [], by omega, rfl, rfl, Lib.hid (World.ownsRow_nil _ _ _ _), Lib.hid (by rw [List.drop_zero]; exact Ev.ArgsE.start _ _ _ _), Lib.hid (SFr.refl _ _), Lib.hid HIN.out.m⟩
  case round =>
  obtain ⟨_, S, hil, rfl, rfl, HO, HA, HF, HM⟩ := hrel
  obtain ⟨sa, sc, rfl, _, _⟩ := SL.form (SL.of_own HO.out)
  have HXR := Lib.hid (HX.out.move HF.out.size (HF.out.block b blt hbt))
  have b4r : wr.cell? ⟨b, o + 4, none⟩ = some (.slice ax t.args.length cx) := HXR.out.c4
  have zbr := HXR.out.lt
  have hsw := HF.out.size
  have HIR := Lib.hid (HIN.out.to HF.out HM.out)
  clear b4
  by_cases hlt : S.length < t.args.length
  case pos =>
    obtain ⟨x, hx⟩ : ∃ x, t.args[S.length]? = some x := ⟨_, List.getElem?_eq_getElem hlt⟩
    obtain ⟨d', b', off, c', vy, hd, hva, hKb, hxa, hxr⟩ := (RExL.sfr HX1.out HF.out (fun k hk => HK.out k hk)).elK hx
    obtain ⟨h1, h2⟩ := slice_two hva
    clear hva
    subst h1 h2
    have hdr : t.args.drop S.length = x :: t.args.drop (S.length + 1) := drop_cons_at hx
    rw [hdr] at HA
    have hxm := List.mem_of_getElem? hx
    have CI := Lib.hid (evX_all d' x A L dark l a bs tb fb lo hi va v2 vy vs b' (off + S.length * 4) wr K HIR.out hxa (HK.out b' hKb) hxr HK.out (HW.out.args x hxm) (Ev.args_ok HT.out.args x hxm))
    rw [HHP.out] at CI
    obtain ⟨RX, hRX⟩ : ∃ RX, Ev.exE A a l x = RX := ⟨_, rfl⟩
    rw [hRX] at CI
    have HRX := Lib.hid hRX
    have zb' := hxa.lt
    have ztr := HM.out.lt
    clear hx hxa hxr hdr hd hRX hxm hKb ih
    cases RX with
    | none =>
      have HBAD := Lib.hid (HA.out.bad HRX.out)
      rw [HBAD.out] at HE
      have HRN := Lib.hid (show (⟨l, a, some none⟩ : Ev.EO) = R from HE.out)
      change Hid (Calls _ _ _ _ fun r w' => r = .returned (.int .i64 0) ∧ SFr (TS tb) wr w' ∧ EvM w' tb fb lo hi va v2 vs A a (some none)) at CI
      clear HA HE HBAD HRX
      go_upto_region 6 with (first
        | (go_at_call 120; refine CI.out.mono ?_; rintro r w5 ⟨rfl, hF5, hM5⟩; have OWN5 := Lib.hid (ownsRow_same HO.out (fun g hg => hF5.block g (HO.out.lt g hg).2 (by have := HO.out.lt g hg; show ¬ g = tb; omega))); have HF5 := Lib.hid hF5; have HM5 := Lib.hid hM5; clear hF5 hM5; have hs5 := HF5.out.size)
        | (at_builtin; refine wpList_append_own_at _ rfl (.tmp 19) (.tmp 29) _ rfl w.heap.size 3 i1 (.int .i64 0) 1 8 Tryd.underlying46 IC.out.1 IC.out.2.1 IC.out.2.2.1 IC.out.2.2.2 rfl (by decide) _ _ _ rfl (OWN5.out.alloc _) ⟨w5.heap.size, 0, none⟩ 1 1 [.int .i64 0] rfl rfl (cell_one_new _ _ _) (fun x hx => by simp at hx; subst hx; rfl) (by unfold maxLen; omega) (by omega) (by simp; omega) ?_; intro v7 w7 hown7 hg7 hn7 hat7; obtain ⟨A7, c7, rfl, _, _⟩ := SL.form (SL.of_own hown7)))
      have b5 : Below w5.heap.size w5 (w5.alloc (.cells #[.int .i64 0] 3)) := (Below.refl _ _).alloc (Nat.le_refl _) _
      have HM7 := Lib.hid ((HM5.out.on b5).keep hg7.size (fun k hk => hg7.block k (by have := HM5.out.lt; have := HM5.out.tl; have := b5.size; omega) (fun h => by have := OWN5.out.lt k h.symm; have := HM5.out.tl; have := HM5.out.ll; omega)))
      have HF7 := Lib.hid (show SFr (TS tb) w w7 from (HF.out.trans (HF5.out.on b5) (fun _ _ h => h)).trans (S' := fun k => OWN5.out.lt = OWN5.out.lt ∧ Value.ownBlock (.slice sa S.length sc) = some k) ⟨hg7.os, hg7.tape, hg7.output, hg7.size, fun k hk hn => hg7.block k hk (fun h => hn ⟨rfl, h.symm⟩)⟩ (fun k hk h => by have := OWN5.out.lt k h.2; omega))
      clear hown7 hg7 hn7 hat7 OWN5 HF5 HM5 b5
      have c2 : w7.cell? ⟨tb, 2, none⟩ = some (.bool true) := HM7.out.cell 2
      have zt := HM7.out.lt
      go_wp2_with fail
      go_ret
      refine ⟨bs, by rw [HHP.out]; rfl, HF7.out.wide ts_ms, by rw [← HRN.out]; exact HM7.out, by rw [← HRN.out]; exact HIN.out.c.same (fun c hc => HF7.out.block c (HIN.out.c.lt c hc) (HIN.out.bl c hc).2), .inl rfl⟩
    | some y =>
      have HG := Lib.hid (HA.out.good HRX.out)
      change Hid (Calls _ _ _ _ fun r w' => r = .returned (.int .i64 y) ∧ SFr (TS tb) wr w' ∧ EvM w' tb fb lo hi va v2 vs A a none) at CI
      clear HA HRX
      go_upto_region 6 with (first
        | (go_at_call 120; refine CI.out.mono ?_; rintro r w5 ⟨rfl, hF5, hM5⟩; have OWN5 := Lib.hid (ownsRow_same HO.out (fun g hg => hF5.block g (HO.out.lt g hg).2 (by have := HO.out.lt g hg; show ¬ g = tb; omega))); have HF5 := Lib.hid hF5; have HM5 := Lib.hid hM5; clear hF5 hM5; have hs5 := HF5.out.size)
        | (at_builtin; refine wpList_append_own_at _ rfl (.tmp 19) (.tmp 29) _ rfl w.heap.size 3 i1 (.int .i64 0) 1 8 Tryd.underlying46 IC.out.1 IC.out.2.1 IC.out.2.2.1 IC.out.2.2.2 rfl (by decide) _ _ _ rfl (OWN5.out.alloc _) ⟨w5.heap.size, 0, none⟩ 1 1 [.int .i64 y] rfl rfl (cell_one_new _ _ _) (fun x hx => by simp at hx; subst hx; rfl) (by unfold maxLen; omega) (by omega) (by simp; omega) ?_; intro v7 w7 hown7 hg7 hn7 hat7; obtain ⟨A7, c7, rfl, _, _⟩ := SL.form (SL.of_own hown7)))
      have b5 : Below w5.heap.size w5 (w5.alloc (.cells #[.int .i64 y] 3)) := (Below.refl _ _).alloc (Nat.le_refl _) _
      have HM7 := Lib.hid ((HM5.out.on b5).keep hg7.size (fun k hk => hg7.block k (by have := HM5.out.lt; have := HM5.out.tl; have := b5.size; omega) (fun h => by have := OWN5.out.lt k h.symm; have := HM5.out.tl; have := HM5.out.ll; omega)))
      have HF7 := Lib.hid (show SFr (TS tb) w w7 from (HF.out.trans (HF5.out.on b5) (fun _ _ h => h)).trans (S' := fun k => OWN5.out.lt = OWN5.out.lt ∧ Value.ownBlock (.slice sa S.length sc) = some k) ⟨hg7.os, hg7.tape, hg7.output, hg7.size, fun k hk hn => hg7.block k hk (fun h => hn ⟨rfl, h.symm⟩)⟩ (fun k hk h => by have := OWN5.out.lt k h.2; omega))
      have HOWN := Lib.hid hown7
      clear hown7 hg7 hn7 hat7 OWN5 HF5 HM5 b5
      have c2 : w7.cell? ⟨tb, 2, none⟩ = some (.bool false) := HM7.out.cell 2
      have zt := HM7.out.lt
      go_wp2_with fail
      go_roundw
      case rel => exact ⟨S.length + 1, S ++ [y], by omega, by simp, by go_num, Lib.hid (by have h := HOWN.out; simpa using h), HG, HF7, HM7⟩
      case measure => simp [intOf]; omega
  case neg =>
  have HIN2 := Lib.hid (show S.length = t.args.length by omega)
  have HD := Lib.hid (Ev.ArgsE.done (show Ev.ArgsE A a l t.args [] S by
    have h := HA.out
    rw [HIN2.out, List.drop_length] at h
    exact h))
  rw [HD.out] at HE
  dsimp only at HE
  have c0 := HXR.out.c0
  have HR2 := Lib.hid (RStL.sfr HX2.out HF.out (fun k hk => HK.out k hk))
  have HR3 := Lib.hid (RStL.sfr HX3.out HF.out (fun k hk => HK.out k hk))
  have HSW := Lib.hid ((Ev.exsE_word HIN.out.wn HIN.out.wa HW.out.args HD.out).2)
  have HPR := Lib.hid (Ev.stE_pres A t l a HWW.out HIN.out.wn HIN.out.wa)
  have ztr := HM.out.lt
  have HFM := Lib.hid (show SFr (MS lo hi tb bs) w wr from HF.out.wide ts_ms)
  clear hil HA IC b4r hlen2 HX1 HX3
  rcases HW.out.kinds with ⟨hkd, e1, ha⟩ | ⟨hkd, e1, ha⟩ | ⟨hkd, e1, e2, ha⟩ | ⟨hkd, e1, ha⟩ | ⟨hkd, ha, hn0, hn8⟩ | ⟨hkd, e1, ha⟩
  case inl =>
    rw [hkd] at c0
    rw [hkd, if_pos rfl] at HE
    obtain ⟨n, rfl⟩ : ∃ n, S = [n] := one_of (by have h := HIN2.out; rw [ha] at h; exact h)
    obtain ⟨g, rfl, hg, hcs⟩ := row_ints HO.out (by simp)
    have r0 := hcs 0 n rfl
    have HXY := Lib.hid (show (⟨(t.name, n) :: l, a, none⟩ : Ev.EO) = R from HE.out)
    have q2 := HXR.out.c2
    replace hlt : ¬ 1 < t.args.length := hlt
    simp only [List.length_cons, List.length_nil, Nat.zero_add, Nat.reduceAdd]
    clear hkd ha hcs HE ih
    go_upto_region 11 with fail
    refine wp_region_flock_tail 10 (fun k => match k with | 9 => some (Hv.boxS wr.heap.size #[.string ⟨t.name.toArray⟩, .int .i64 n, .pointer hpo] 157) | _ => none) (by kernel_rfl) (by kernel_rfl) (by kernel_rfl) (by kernel_rfl) ?_
    simp only [List.take_succ_cons, List.take_zero, List.drop_succ_cons, List.drop_zero]
    apply flock_light rfl
    case h => first | exact light_no (by rfl) | ((first | apply light_plain rfl | apply light_yes (by rfl)); intro w9 hw9; obtain ⟨hb9, hh9⟩ := hw9; skip; go_simp; try rfl)
    (try simp only [Act.put, List.setIfInBounds_toArray, List.set_cons_zero, List.set_cons_succ])
    apply flock_light rfl
    case h => first | exact light_no (by rfl) | ((first | apply light_plain rfl | apply light_yes (by rfl)); intro w9 hw9; obtain ⟨hb9, hh9⟩ := hw9; have hB9 : Below wr.heap.size wr w9 := (by (repeat' first | with_reducible (first | exact Below.refl _ _ | assumption | refine Below.alloc ?_ ?_ _ | refine below_drewN ?_ _ | refine Below.drew ?_ | refine Below.setCell ?_ ?_ _ | refine Below.trans ?_ (Below.mono (by with_reducible assumption) ?_)) | go_size)); obtain ⟨kc9, kf9, s9⟩ := bfacts hb9; obtain ⟨kd9, kg9, _⟩ := bfacts hB9; skip; go_simp; try rfl)
    (try simp only [Act.put, List.setIfInBounds_toArray, List.set_cons_zero, List.set_cons_succ])
    apply flock_light rfl
    case h => first | exact light_no (by rfl) | ((first | apply light_plain rfl | apply light_yes (by rfl)); intro w9 hw9; obtain ⟨hb9, hh9⟩ := hw9; skip; go_simp; try rfl)
    (try simp only [Act.put, List.setIfInBounds_toArray, List.set_cons_zero, List.set_cons_succ])
    apply flock_light rfl
    case h => first | exact light_no (by rfl) | ((first | apply light_plain rfl | apply light_yes (by rfl)); intro w9 hw9; obtain ⟨hb9, hh9⟩ := hw9; have hB9 : Below wr.heap.size wr w9 := (by (repeat' first | with_reducible (first | exact Below.refl _ _ | assumption | refine Below.alloc ?_ ?_ _ | refine below_drewN ?_ _ | refine Below.drew ?_ | refine Below.setCell ?_ ?_ _ | refine Below.trans ?_ (Below.mono (by with_reducible assumption) ?_)) | go_size)); obtain ⟨kc9, kf9, s9⟩ := bfacts hb9; obtain ⟨kd9, kg9, _⟩ := bfacts hB9; skip; go_simp; try rfl)
    (try simp only [Act.put, List.setIfInBounds_toArray, List.set_cons_zero, List.set_cons_succ])
    apply flock_light rfl
    case h => first | exact light_no (by rfl) | ((first | apply light_plain rfl | apply light_yes (by rfl)); intro w9 hw9; obtain ⟨hb9, hh9⟩ := hw9; skip; go_simp; try rfl)
    (try simp only [Act.put, List.setIfInBounds_toArray, List.set_cons_zero, List.set_cons_succ])
    apply flock_light rfl
    case h => first | exact light_no (by rfl) | ((first | apply light_plain rfl | apply light_yes (by rfl)); intro w9 hw9; obtain ⟨hb9, hh9⟩ := hw9; have hB9 : Below wr.heap.size wr w9 := (by (repeat' first | with_reducible (first | exact Below.refl _ _ | assumption | refine Below.alloc ?_ ?_ _ | refine below_drewN ?_ _ | refine Below.drew ?_ | refine Below.setCell ?_ ?_ _ | refine Below.trans ?_ (Below.mono (by with_reducible assumption) ?_)) | go_size)); obtain ⟨kc9, kf9, s9⟩ := bfacts hb9; obtain ⟨kd9, kg9, _⟩ := bfacts hB9; skip; go_simp; try rfl)
    (try simp only [Act.put, List.setIfInBounds_toArray, List.set_cons_zero, List.set_cons_succ])
    apply flock_light rfl
    case h => first | exact light_no (by rfl) | ((first | apply light_plain rfl | apply light_yes (by rfl)); intro w9 hw9; obtain ⟨hb9, hh9⟩ := hw9; have hB9 : Below wr.heap.size wr w9 := (by (repeat' first | with_reducible (first | exact Below.refl _ _ | assumption | refine Below.alloc ?_ ?_ _ | refine below_drewN ?_ _ | refine Below.drew ?_ | refine Below.setCell ?_ ?_ _ | refine Below.trans ?_ (Below.mono (by with_reducible assumption) ?_)) | go_size)); obtain ⟨kc9, kf9, s9⟩ := bfacts hb9; obtain ⟨kd9, kg9, _⟩ := bfacts hB9; skip; go_simp; try rfl)
    (try simp only [Act.put, List.setIfInBounds_toArray, List.set_cons_zero, List.set_cons_succ])
    apply flock_light rfl
    case h => first | exact light_no (by rfl) | ((first | apply light_plain rfl | apply light_yes (by rfl)); intro w9 hw9; obtain ⟨hb9, hh9⟩ := hw9; skip; go_simp; try rfl)
    (try simp only [Act.put, List.setIfInBounds_toArray, List.set_cons_zero, List.set_cons_succ])
    apply flock_light rfl
    case h => first | exact light_no (by rfl) | ((first | apply light_plain rfl | apply light_yes (by rfl)); intro w9 hw9; obtain ⟨hb9, hh9⟩ := hw9; skip; go_simp; try rfl)
    (try simp only [Act.put, List.setIfInBounds_toArray, List.set_cons_zero, List.set_cons_succ])
    refine flock_heavy _ rfl ?_ ?_
    · intro w9 hb9 hh9
      have hB9 : Below wr.heap.size wr w9 := (by (repeat' first | with_reducible (first | exact Below.refl _ _ | assumption | refine Below.alloc ?_ ?_ _ | refine below_drewN ?_ _ | refine Below.drew ?_ | refine Below.setCell ?_ ?_ _ | refine Below.trans ?_ (Below.mono (by with_reducible assumption) ?_)) | go_size))
      obtain ⟨kc9, kf9, s9⟩ := bfacts hb9
      obtain ⟨kd9, kg9, _⟩ := bfacts hB9
      skip
      go_wp2_with fail
      refine grewTo_at (by rfl) (by (repeat' first | with_reducible (first | exact Below.refl _ _ | assumption | refine Below.alloc ?_ ?_ _ | refine below_drewN ?_ _ | refine Below.drew ?_ | refine Below.setCell ?_ ?_ _ | refine Below.trans ?_ (Below.mono (by with_reducible assumption) ?_)) | go_size)) ?_
      exact ⟨_, rfl, by go_size, heap_alloc_new _ _⟩
    intro x9 ok9
    (try simp only [Act.put, List.setIfInBounds_toArray, List.set_cons_zero, List.set_cons_succ])
    (try dsimp only [Hv.own, Hv.is, Hv.lit, Hv.box, Hv.sl] at ok9)
    first | subst ok9 | (obtain ⟨A9, c9, ok9⟩ := ok9; subst ok9) | (obtain ⟨A9, ok9⟩ := ok9; subst ok9) | skip
    refine flock_nil ?_
    intro w9 hb9 hh9
    have hB9 : Below wr.heap.size wr w9 := (by (repeat' first | with_reducible (first | exact Below.refl _ _ | assumption | refine Below.alloc ?_ ?_ _ | refine below_drewN ?_ _ | refine Below.drew ?_ | refine Below.setCell ?_ ?_ _ | refine Below.trans ?_ (Below.mono (by with_reducible assumption) ?_)) | go_size))
    have r9 := hh9 _ (.head _); dsimp only [Hv.own, Hv.is, Hv.lit, Hv.box, Hv.sl] at r9; (first | replace r9 := lit_heap r9 | replace r9 := box_heap r9 | skip); clear hh9
    (try dsimp only)
    obtain ⟨h9, hc9⟩ := boxS_heap r9
    rw [← HHP.out] at hc9
    go_wp2_with fail
    go_ret
    refine ⟨A9 :: bs, rfl, HFM.out.on hB9, by rw [← HXY.out]; exact HM.out.on hB9, by rw [← HXY.out]; exact (HIR.out.c.on hB9).cons (fun c hc => by have := HIR.out.c.lt c hc; omega) hc9, .inr ⟨A9, rfl, by omega⟩⟩
  case inr.inl =>
    rw [hkd] at c0
    rw [hkd, if_neg (by decide), if_pos rfl] at HE
    obtain ⟨n, rfl⟩ : ∃ n, S = [n] := one_of (by have h := HIN2.out; rw [ha] at h; exact h)
    obtain ⟨g, rfl, hg, hcs⟩ := row_ints HO.out (by simp)
    have r0 := hcs 0 n rfl
    have HXY := Lib.hid (show (⟨Ev.setN l t.name n, a, none⟩ : Ev.EO) = R from HE.out)
    have q2 := HXR.out.c2
    obtain ⟨v, hv, _⟩ := HT.out.set_ hkd
    have hh := HIN.out.nm.has hv
    have bd : Below wr.heap.size wr wr.drew := below_drewN (Below.refl _ _) 1
    have HCD := Lib.hid (HIR.out.c.on bd)
    have CF := Lib.hid (evFind l bs t.name wr.drew HCD.out hh)
    rw [HHP.out] at CF
    obtain ⟨up, hup⟩ := HIR.out.c.at_ hh
    have HCP := Lib.hid (HCD.out.put n hh)
    have HSM := Lib.hid (slotB_mem HIR.out.c hh)
    have u1 : wr.cell? ⟨Ev.slotB bs l t.name, 1, none⟩ = some (.int .i64 (Ev.getN l t.name)) := cell_of_block hup 1
    have zu := (Array.getElem?_eq_some_iff.1 hup).1
    have fu : wr.frozen? ⟨Ev.slotB bs l t.name, 1, none⟩ = false := by
      unfold World.frozen?
      rw [hup]
      simp
    replace hlt : ¬ 1 < t.args.length := hlt
    simp only [List.length_cons, List.length_nil, Nat.zero_add, Nat.reduceAdd]
    clear hkd ha hcs HE ih hv hh hup
    generalize Ev.slotB bs l t.name = B at *
    go_upto_region 13 with fail
    refine wp_region_store (fun w' => w' = (wr).drew) (fun w' => w' = wr.drew.setCell ⟨B, 1, none⟩ (.int .i64 n)) 11 [9] (by kernel_rfl) (by kernel_rfl) (by kernel_rfl) (by kernel_rfl) rfl ?_
    apply chainS_mid (by rfl)
    case h => (rintro w9 rfl; go_wp2_with fail; (try ((go_at_call 121; refine CF.out.mono ?_; rintro _ _ ⟨rfl, rfl⟩); go_wp2_with fail)); refine settled_intro (S := fun w' => w' = (wr).drew) ?_; rfl)
    case h1 => (intro hk; exact absurd hk (by decide))
    case hp => first | rfl | (simp only [*]; done) | (simp only [*]; rfl)
    apply chainS_mid (by rfl)
    case h => (rintro w9 rfl; go_wp2_with fail; (try ((go_at_call 121; refine CF.out.mono ?_; rintro _ _ ⟨rfl, rfl⟩); go_wp2_with fail)); refine settled_intro (S := fun w' => w' = (wr).drew) ?_; rfl)
    case h1 => (intro hk; exact absurd hk (by decide))
    case hp => first | rfl | (simp only [*]; done) | (simp only [*]; rfl)
    apply chainS_mid (by rfl)
    case h => (rintro w9 rfl; go_wp2_with fail; (try ((go_at_call 121; refine CF.out.mono ?_; rintro _ _ ⟨rfl, rfl⟩); go_wp2_with fail)); refine settled_intro (S := fun w' => w' = (wr).drew) ?_; rfl)
    case h1 => (intro hk; exact absurd hk (by decide))
    case hp => first | rfl | (simp only [*]; done) | (simp only [*]; rfl)
    apply chainS_mid (by rfl)
    case h => (rintro w9 rfl; go_wp2_with fail; (try ((go_at_call 121; refine CF.out.mono ?_; rintro _ _ ⟨rfl, rfl⟩); go_wp2_with fail)); refine settled_intro (S := fun w' => w' = (wr).drew) ?_; rfl)
    case h1 => (intro hk; exact absurd hk (by decide))
    case hp => first | rfl | (simp only [*]; done) | (simp only [*]; rfl)
    apply chainS_mid (by rfl)
    case h => (rintro w9 rfl; go_wp2_with fail; (try ((go_at_call 121; refine CF.out.mono ?_; rintro _ _ ⟨rfl, rfl⟩); go_wp2_with fail)); refine settled_intro (S := fun w' => w' = (wr).drew) ?_; rfl)
    case h1 => (intro hk; exact absurd hk (by decide))
    case hp => first | rfl | (simp only [*]; done) | (simp only [*]; rfl)
    apply chainS_mid (by rfl)
    case h => (rintro w9 rfl; go_wp2_with fail; (try ((go_at_call 121; refine CF.out.mono ?_; rintro _ _ ⟨rfl, rfl⟩); go_wp2_with fail)); refine settled_intro (S := fun w' => w' = (wr).drew) ?_; rfl)
    case h1 => (intro hk; exact absurd hk (by decide))
    case hp => first | rfl | (simp only [*]; done) | (simp only [*]; rfl)
    apply chainS_mid (by rfl)
    case h => (rintro w9 rfl; go_wp2_with fail; (try ((go_at_call 121; refine CF.out.mono ?_; rintro _ _ ⟨rfl, rfl⟩); go_wp2_with fail)); refine settled_intro (S := fun w' => w' = (wr).drew) ?_; rfl)
    case h1 => (intro hk; exact absurd hk (by decide))
    case hp => first | rfl | (simp only [*]; done) | (simp only [*]; rfl)
    apply chainS_mid (by rfl)
    case h => (rintro w9 rfl; go_wp2_with fail; (try ((go_at_call 121; refine CF.out.mono ?_; rintro _ _ ⟨rfl, rfl⟩); go_wp2_with fail)); refine settled_intro (S := fun w' => w' = (wr).drew) ?_; rfl)
    case h1 => (intro hk; exact absurd hk (by decide))
    case hp => first | rfl | (simp only [*]; done) | (simp only [*]; rfl)
    apply chainS_mid (by rfl)
    case h => (rintro w9 rfl; go_wp2_with fail; (try ((go_at_call 121; refine CF.out.mono ?_; rintro _ _ ⟨rfl, rfl⟩); go_wp2_with fail)); refine settled_intro (S := fun w' => w' = (wr).drew) ?_; rfl)
    case h1 => (intro hk; exact absurd hk (by decide))
    case hp => first | rfl | (simp only [*]; done) | (simp only [*]; rfl)
    apply chainS_mid (by rfl)
    case h => (rintro w9 rfl; go_wp2_with fail; (try ((go_at_call 121; refine CF.out.mono ?_; rintro _ _ ⟨rfl, rfl⟩); go_wp2_with fail)); refine settled_intro (S := fun w' => w' = (wr).drew) ?_; rfl)
    case h1 => (intro _; rintro w9 rfl; go_wp2_with fail; refine settled_intro (S := fun w' => w' = wr.drew.setCell ⟨B, 1, none⟩ (.int .i64 n)) ?_; rfl)
    case hp => first | rfl | (simp only [*]; done) | (simp only [*]; rfl)
    apply chainS_mid (by rfl)
    case h => (rintro w9 rfl; go_wp2_with fail; (try ((go_at_call 121; refine CF.out.mono ?_; rintro _ _ ⟨rfl, rfl⟩); go_wp2_with fail)); refine settled_intro (S := fun w' => w' = (wr).drew) ?_; rfl)
    case h1 => (intro hk; exact absurd hk (by decide))
    case hp => first | rfl | (simp only [*]; done) | (simp only [*]; rfl)
    apply chainS_store (by rfl)
    case h => (rintro w9 rfl; go_wp2_with fail; refine settled_intro (S := fun w' => w' = wr.drew.setCell ⟨B, 1, none⟩ (.int .i64 n)) ?_; rfl)
    case hp => first | rfl | (simp only [*]; done) | (simp only [*]; rfl)
    refine chainS.nil ?_
    rintro _ rfl
    (try dsimp only)
    go_wp2_with fail
    go_ret
    have hBB := HIN.out.bl B HSM.out
    refine ⟨bs, by rw [HHP.out]; rfl, ?_, ?_, by rw [← HXY.out]; exact HCP.out, .inl rfl⟩
    · exact (HFM.out.on bd).trans (SFr.put (S := MS lo hi tb bs) _ B 1 _ (.inr (.inr HSM.out))) (fun _ _ h => h)
    · rw [← HXY.out]
      exact (HM.out.on bd).sfr (SFr.put (S := fun k => k = B) _ B 1 _ rfl) (fun k hk h => by omega)
  case inr.inr.inl =>
    rw [hkd] at c0
    rw [hkd, if_neg (by decide), if_neg (by decide), if_pos rfl] at HE
    obtain ⟨n, y, rfl⟩ : ∃ n y, S = [n, y] := two_of (by have h := HIN2.out; rw [ha] at h; exact h)
    obtain ⟨g, rfl, hg, hcs⟩ := row_ints HO.out (by simp)
    have r0 := hcs 0 n rfl
    have r1 := hcs 1 y rfl
    have q2 := HXR.out.c2
    replace hlt : ¬ 2 < t.args.length := hlt
    have hn0 : 0 ≤ n := (HSW.out n (by simp)).1
    obtain ⟨p, hp'⟩ := Ev.plC_some (HT.out.put hkd).1
    have hal := Ev.arrI_lt hp'
    obtain ⟨k, hk⟩ : ∃ k, Ev.arrI A t.name = k := ⟨_, rfl⟩
    have CA := Lib.hid (evArr t.name wr HM.out hal)
    rw [hk] at CA hal HE
    obtain ⟨q, hq⟩ : ∃ q, a[k]? = some q := ⟨_, List.getElem?_eq_getElem (by rw [HM.out.len]; exact hal)⟩
    have HXY := Lib.hid (show (if n < (q.length : Int) then (⟨l, a.set k (q.set n.toNat y), none⟩ : Ev.EO) else ⟨l, a, some none⟩) = R by
      have h := HE.out
      rw [show a.getD k [] = q by rw [List.getD_eq_getElem?_getD, hq]; rfl] at h
      exact h)
    have HQ := Lib.hid hq
    simp only [List.length_cons, List.length_nil, Nat.zero_add, Nat.reduceAdd]
    clear hkd ha hcs HE hp' hk hq ih
    go_upto_region 16 with (go_at_call 122; refine CA.out.mono ?_; rintro r w5 ⟨rfl, hb5⟩)
    have HM5 := Lib.hid (HM.out.on hb5)
    have CP := Lib.hid (evPlace k q n w5 HM5.out HQ.out)
    have r05 := (hb5.cell (p := ⟨g, 0, none⟩) hg).trans r0
    have r15 := (hb5.cell (p := ⟨g, 1, none⟩) hg).trans r1
    have hg5 : g < w5.heap.size := Nat.lt_of_lt_of_le hg hb5.size
    have hgt : g ≠ tb := by have := HO.out.lt g rfl; omega
    have HF5 := Lib.hid (HFM.out.on hb5)
    have HC5 := Lib.hid (HIR.out.c.on hb5)
    clear r0 r1 CA hb5
    by_cases hnq : n < (q.length : Int)
    case neg =>
      rw [if_neg hnq] at HXY
      rw [if_neg hnq, decide_eq_false hnq] at CP
      clear hnq
      go_wp2_with (go_at_call 123; refine CP.out.mono ?_; rintro r w6 ⟨rfl, hF6, hM6⟩)
      go_ret
      refine ⟨bs, by rw [HHP.out]; rfl, HF5.out.trans hF6 (fun k _ h => ts_ms k h), by rw [← HXY.out]; exact hM6, by rw [← HXY.out]; exact HC5.out.same (fun c hc => hF6.block c (HC5.out.lt c hc) (HIN.out.bl c hc).2), .inl rfl⟩
    case pos =>
      rw [if_pos hnq] at HXY
      rw [if_pos hnq, decide_eq_true hnq] at CP
      go_upto_region 17 with (go_at_call 123; refine CP.out.mono ?_; rintro r w6 ⟨rfl, hF6, hM6⟩)
      have HM6 := Lib.hid hM6
      have HF6 := Lib.hid (HF5.out.trans hF6 (fun k _ h => ts_ms k h))
      have r06 := (cell_sameE (o := 0) (hF6.block g hg5 hgt)).trans r05
      have r16 := (cell_sameE (o := 1) (hF6.block g hg5 hgt)).trans r15
      have hg6 : g < w6.heap.size := Nat.lt_of_lt_of_le hg5 hF6.size
      have HC6 := Lib.hid (HC5.out.same (fun c hc => hF6.block c (HC5.out.lt c hc) (HIN.out.bl c hc).2))
      obtain ⟨bo, co, X, ca, hva, h1, h2, h3, h4, h5, h6, h7, h8, h9, h10⟩ := HM6.out.arrs.at_ HQ.out
      obtain ⟨gq, rfl, h11, h12, h14, h13⟩ := h10 (by omega)
      have t1 : w6.cell? ⟨tb, 1, none⟩ = some va := HM6.out.cell 1
      rw [hva] at t1
      have zt6 := HM6.out.lt
      obtain ⟨N, hN⟩ : ∃ N : Nat, n = (N : Int) := ⟨n.toNat, by omega⟩
      subst hN
      have hNq : N < q.length := by omega
      have hqN : q[N]? = some q[N] := List.getElem?_eq_getElem hNq
      have u0 := h13 N _ hqN
      have f0 := h14 N
      have hqn2 : (N : Int) < (q.length : Int) := by omega
      have bd : Below w6.heap.size w6 w6.drew := below_drewN (Below.refl _ _) 1
      have HSA := Lib.hid ((HM6.out.on bd).setA HQ.out h7 N y)
      have HGH := Lib.hid (show gq < hi from HM6.out.his k _ gq h7 rfl)
      have H11 := Lib.hid h11
      rw [Int.toNat_natCast] at HXY
      generalize q[N] = z at *
      clear hF6 hM6 r05 r15 CP hva h1 h5 h7 h8 h13 hqN hg5 HF5 HM5 hn0 hNq h14 h11
      refine wp_region_store (fun w' => w' = (w6).drew) (fun w' => w' = w6.drew.setCell ⟨gq, N, none⟩ (.int .i64 y)) 14 [] (by kernel_rfl) (by kernel_rfl) (by kernel_rfl) (by kernel_rfl) rfl ?_
      apply chainS_mid (by rfl)
      case h => (rintro w9 rfl; go_wp2_with fail; (try (fail; go_wp2_with fail)); refine settled_intro (S := fun w' => w' = (w6).drew) ?_; rfl)
      case h1 => (intro hk; exact absurd hk (by decide))
      case hp => first | rfl | (simp only [*]; done) | (simp only [*]; rfl)
      apply chainS_mid (by rfl)
      case h => (rintro w9 rfl; go_wp2_with fail; (try (fail; go_wp2_with fail)); refine settled_intro (S := fun w' => w' = (w6).drew) ?_; rfl)
      case h1 => (intro hk; exact absurd hk (by decide))
      case hp => first | rfl | (simp only [*]; done) | (simp only [*]; rfl)
      apply chainS_mid (by rfl)
      case h => (rintro w9 rfl; go_wp2_with fail; (try (fail; go_wp2_with fail)); refine settled_intro (S := fun w' => w' = (w6).drew) ?_; rfl)
      case h1 => (intro hk; exact absurd hk (by decide))
      case hp => first | rfl | (simp only [*]; done) | (simp only [*]; rfl)
      apply chainS_mid (by rfl)
      case h => (rintro w9 rfl; go_wp2_with fail; (try (fail; go_wp2_with fail)); refine settled_intro (S := fun w' => w' = (w6).drew) ?_; rfl)
      case h1 => (intro hk; exact absurd hk (by decide))
      case hp => first | rfl | (simp only [*]; done) | (simp only [*]; rfl)
      apply chainS_mid (by rfl)
      case h => (rintro w9 rfl; go_wp2_with fail; (try (fail; go_wp2_with fail)); refine settled_intro (S := fun w' => w' = (w6).drew) ?_; rfl)
      case h1 => (intro hk; exact absurd hk (by decide))
      case hp => first | rfl | (simp only [*]; done) | (simp only [*]; rfl)
      apply chainS_mid (by rfl)
      case h => (rintro w9 rfl; go_wp2_with fail; (try (fail; go_wp2_with fail)); refine settled_intro (S := fun w' => w' = (w6).drew) ?_; rfl)
      case h1 => (intro hk; exact absurd hk (by decide))
      case hp => first | rfl | (simp only [*]; done) | (simp only [*]; rfl)
      apply chainS_mid (by rfl)
      case h => (rintro w9 rfl; go_wp2_with fail; (try (fail; go_wp2_with fail)); refine settled_intro (S := fun w' => w' = (w6).drew) ?_; rfl)
      case h1 => (intro hk; exact absurd hk (by decide))
      case hp => first | rfl | (simp only [*]; done) | (simp only [*]; rfl)
      apply chainS_mid (by rfl)
      case h => (rintro w9 rfl; go_wp2_with fail; (try (fail; go_wp2_with fail)); refine settled_intro (S := fun w' => w' = (w6).drew) ?_; rfl)
      case h1 => (intro hk; exact absurd hk (by decide))
      case hp => first | rfl | (simp only [*]; done) | (simp only [*]; rfl)
      apply chainS_mid (by rfl)
      case h => (rintro w9 rfl; go_wp2_with fail; (try (fail; go_wp2_with fail)); refine settled_intro (S := fun w' => w' = (w6).drew) ?_; rfl)
      case h1 => (intro hk; exact absurd hk (by decide))
      case hp => first | rfl | (simp only [*]; done) | (simp only [*]; rfl)
      apply chainS_mid (by rfl)
      case h => (rintro w9 rfl; go_wp2_with fail; (try (fail; go_wp2_with fail)); refine settled_intro (S := fun w' => w' = (w6).drew) ?_; rfl)
      case h1 => (intro hk; exact absurd hk (by decide))
      case hp => first | rfl | (simp only [*]; done) | (simp only [*]; rfl)
      apply chainS_mid (by rfl)
      case h => (rintro w9 rfl; go_wp2_with fail; (try (fail; go_wp2_with fail)); refine settled_intro (S := fun w' => w' = (w6).drew) ?_; rfl)
      case h1 => (intro hk; exact absurd hk (by decide))
      case hp => first | rfl | (simp only [*]; done) | (simp only [*]; rfl)
      apply chainS_mid (by rfl)
      case h => (rintro w9 rfl; go_wp2_with fail; (try (fail; go_wp2_with fail)); refine settled_intro (S := fun w' => w' = (w6).drew) ?_; rfl)
      case h1 => (intro hk; exact absurd hk (by decide))
      case hp => first | rfl | (simp only [*]; done) | (simp only [*]; rfl)
      apply chainS_mid (by rfl)
      case h => (rintro w9 rfl; go_wp2_with fail; (try (fail; go_wp2_with fail)); refine settled_intro (S := fun w' => w' = (w6).drew) ?_; rfl)
      case h1 => (intro hk; exact absurd hk (by decide))
      case hp => first | rfl | (simp only [*]; done) | (simp only [*]; rfl)
      apply chainS_mid (by rfl)
      case h => (rintro w9 rfl; go_wp2_with fail; (try (fail; go_wp2_with fail)); refine settled_intro (S := fun w' => w' = (w6).drew) ?_; rfl)
      case h1 => (intro hk; exact absurd hk (by decide))
      case hp => first | rfl | (simp only [*]; done) | (simp only [*]; rfl)
      apply chainS_store (by rfl)
      case h => (rintro w9 rfl; go_wp2_with fail; refine settled_intro (S := fun w' => w' = w6.drew.setCell ⟨gq, N, none⟩ (.int .i64 y)) ?_; rfl)
      case hp => first | rfl | (simp only [*]; done) | (simp only [*]; rfl)
      refine chainS.nil ?_
      rintro _ rfl
      (try dsimp only)
      go_wp2_with fail
      go_ret
      refine ⟨bs, by rw [HHP.out]; rfl, ?_, by rw [← HXY.out]; exact HSA.out, ?_, .inl rfl⟩
      · exact (HF6.out.on bd).trans (SFr.put (S := MS lo hi tb bs) _ gq N _ (.inl ⟨H11.out, HGH.out⟩)) (fun _ _ h => h)
      · rw [← HXY.out]
        have hl := HC6.out.on bd
        exact hl.same (fun c hc => Below.heap_setCell _ ⟨gq, N, none⟩ _ c (fun e => by have := (HIN.out.bl c hc).1; have := HGH.out; have e : c = gq := e; omega))
  case inr.inr.inr.inl =>
    rw [hkd] at c0
    rw [hkd, if_neg (by decide), if_neg (by decide), if_neg (by decide), if_pos rfl] at HE
    obtain ⟨n, rfl⟩ : ∃ n, S = [n] := one_of (by have h := HIN2.out; rw [ha] at h; exact h)
    obtain ⟨g, rfl, hg, hcs⟩ := row_ints HO.out (by simp)
    have r0 := hcs 0 n rfl
    have HXY := Lib.hid (show (if n ≠ 0 then (Ev.blE A l a t.thn).back l else (Ev.blE A l a t.els).back l) = R from HE.out)
    have q5 := HXR.out.c5
    have q6 := HXR.out.c6
    dsimp only at q5 q6
    replace hlt : ¬ 1 < t.args.length := hlt
    have HLB := Lib.hid (show l.length = bs.length from HIN.out.c.len)
    have CB1 := Lib.hid (ih t.thn A L _ l a bs tb fb lo hi va v2 va5 vs wr K HIR.out HR2.out HKL.out HW.out.thn (HT.out.thn hkd))
    have CB2 := Lib.hid (ih t.els A L _ l a bs tb fb lo hi va v2 va6 vs wr K HIR.out HR3.out HKL.out HW.out.els (HT.out.els hkd))
    rw [HHP.out] at CB1 CB2
    simp only [List.length_cons, List.length_nil, Nat.zero_add, Nat.reduceAdd]
    clear hkd ha hcs HE ih
    by_cases h0 : n = 0
    case neg =>
      rw [if_pos h0] at HXY
      have g0 : (n != 0) = true := bne_iff_ne.2 h0
      clear CB2 h0
      go_wp2_with (go_at_call 82; refine CB1.out.mono ?_; rintro r w5 ⟨rfl, hF5, hM5, cs, hC5⟩)
      go_ret
      refine ⟨bs, by rw [HHP.out]; rfl, HFM.out.trans hF5 (fun _ _ h => h), by rw [← HXY.out]; exact hM5, by rw [← HXY.out]; exact hC5.back HLB.out, .inl rfl⟩
    case pos =>
      rw [if_neg (not_not_intro h0)] at HXY
      have g0 : (n != 0) = false := by rw [h0]; rfl
      clear CB1 h0
      go_wp2_with (go_at_call 82; refine CB2.out.mono ?_; rintro r w5 ⟨rfl, hF5, hM5, cs, hC5⟩)
      go_ret
      refine ⟨bs, by rw [HHP.out]; rfl, HFM.out.trans hF5 (fun _ _ h => h), by rw [← HXY.out]; exact hM5, by rw [← HXY.out]; exact hC5.back HLB.out, .inl rfl⟩
  case inr.inr.inr.inr.inl =>
    rw [hkd] at c0
    rw [hkd, if_neg (by decide), if_neg (by decide), if_neg (by decide), if_neg (by decide), if_pos rfl] at HE
    obtain ⟨N, hN⟩ : ∃ N : Nat, t.n = (N : Int) := ⟨t.n.toNat, by omega⟩
    have hN8 : N ≤ 8 := by omega
    have q1 := HXR.out.c1
    have HTN := Lib.hid (HT.out.loop hkd).2.2
    rw [hN] at q1 HE HTN
    obtain ⟨f, hf⟩ : ∃ f, (fun (j : Int) (l' : Ev.Nms) (a : Ev.Ars) => (Ev.blE A ((t.name, j) :: l') a t.thn).back l') = f := ⟨_, rfl⟩
    have HFF := Lib.hid (fun j l' a => (congrFun (congrFun (congrFun hf j) l') a).symm)
    have HTM := Lib.hid (show Ev.timesE f (N - 0) ((0 : Nat) : Int) l a = R from by rw [← HE.out, ← hf]; rfl)
    have HLB := Lib.hid (show l.length = bs.length from HIN.out.c.len)
    have HMS := Lib.hid (show ∀ k, k < lo → ¬ MS lo hi tb bs k from fun k hk h => by
      have h1 := HIN.out.m.le
      have h2 := HIN.out.m.tl
      rcases h with h | h | h
      · omega
      · omega
      · have := (HIN.out.bl k h).1; omega)
    have HNN := Lib.hid hN
    clear hkd ha hn0 hn8 hN HE hf
    go_upto_region 24 with fail
    generalize wr = w1 at *
    go_loopw [120] (fun zz wx => ∃ (i : Nat) (li : Ev.Nms) (ai : Ev.Ars) (ei : Option (Option Int)), i ≤ N ∧ zz = .int .i64 (i : Int) ∧ Hid (ForAt w wx tb fb lo hi va v2 vs A L bs f N R i li ai ei)) (fun zz _ => N - (intOf zz).toNat)
    case atStart => exact ⟨0, l, a, none, by omega, rfl, Lib.hid ⟨HM.out, HIR.out.c, HFM.out, fun _ => ⟨HIN.out.nm, HIN.out.wn, HIN.out.wa, HTM.out⟩, fun h => by cases h⟩⟩
    case round =>
    obtain ⟨i, li, ai, ei, hi', rfl, HFA⟩ := hrel
    have HXI := Lib.hid (HX.out.move HFA.out.fr.size (HFA.out.fr.block b blt (HMS.out b HBL.out)))
    have HRI := Lib.hid (RStL.sfr HX2.out HFA.out.fr (fun k hk => HMS.out k (HKL.out k hk)))
    have q2 := HXI.out.c2
    have q5 := HXI.out.c5
    have zbi := HXI.out.lt
    dsimp only at q5
    have zti := HFA.out.m.lt
    have hsi := HFA.out.fr.size
    clear q1 zbr ztr hsw c0
    by_cases hlti : i < N
    case pos =>
      go_upto_region 26 with fail
      refine wp_region_flock_tail 13 (fun k => match k with | 12 => some (Hv.boxS wr.heap.size #[.string ⟨t.name.toArray⟩, .int .i64 (i : Int), .pointer hpo] 157) | _ => none) (by kernel_rfl) (by kernel_rfl) (by kernel_rfl) (by kernel_rfl) ?_
      simp only [List.take_succ_cons, List.take_zero, List.drop_succ_cons, List.drop_zero]
      apply flock_light rfl
      case h => first | exact light_no (by rfl) | ((first | apply light_plain rfl | apply light_yes (by rfl)); intro w9 hw9; obtain ⟨hb9, hh9⟩ := hw9; skip; go_simp; try rfl)
      (try simp only [Act.put, List.setIfInBounds_toArray, List.set_cons_zero, List.set_cons_succ])
      apply flock_light rfl
      case h => first | exact light_no (by rfl) | ((first | apply light_plain rfl | apply light_yes (by rfl)); intro w9 hw9; obtain ⟨hb9, hh9⟩ := hw9; skip; go_simp; try rfl)
      (try simp only [Act.put, List.setIfInBounds_toArray, List.set_cons_zero, List.set_cons_succ])
      apply flock_light rfl
      case h => first | exact light_no (by rfl) | ((first | apply light_plain rfl | apply light_yes (by rfl)); intro w9 hw9; obtain ⟨hb9, hh9⟩ := hw9; have hB9 : Below wr.heap.size wr w9 := (by (repeat' first | with_reducible (first | exact Below.refl _ _ | assumption | refine Below.alloc ?_ ?_ _ | refine below_drewN ?_ _ | refine Below.drew ?_ | refine Below.setCell ?_ ?_ _ | refine Below.trans ?_ (Below.mono (by with_reducible assumption) ?_)) | go_size)); obtain ⟨kc9, kf9, s9⟩ := bfacts hb9; obtain ⟨kd9, kg9, _⟩ := bfacts hB9; skip; go_simp; try rfl)
      (try simp only [Act.put, List.setIfInBounds_toArray, List.set_cons_zero, List.set_cons_succ])
      apply flock_light rfl
      case h => first | exact light_no (by rfl) | ((first | apply light_plain rfl | apply light_yes (by rfl)); intro w9 hw9; obtain ⟨hb9, hh9⟩ := hw9; skip; go_simp; try rfl)
      (try simp only [Act.put, List.setIfInBounds_toArray, List.set_cons_zero, List.set_cons_succ])
      apply flock_light rfl
      case h => first | exact light_no (by rfl) | ((first | apply light_plain rfl | apply light_yes (by rfl)); intro w9 hw9; obtain ⟨hb9, hh9⟩ := hw9; have hB9 : Below wr.heap.size wr w9 := (by (repeat' first | with_reducible (first | exact Below.refl _ _ | assumption | refine Below.alloc ?_ ?_ _ | refine below_drewN ?_ _ | refine Below.drew ?_ | refine Below.setCell ?_ ?_ _ | refine Below.trans ?_ (Below.mono (by with_reducible assumption) ?_)) | go_size)); obtain ⟨kc9, kf9, s9⟩ := bfacts hb9; obtain ⟨kd9, kg9, _⟩ := bfacts hB9; skip; go_simp; try rfl)
      (try simp only [Act.put, List.setIfInBounds_toArray, List.set_cons_zero, List.set_cons_succ])
      apply flock_light rfl
      case h => first | exact light_no (by rfl) | ((first | apply light_plain rfl | apply light_yes (by rfl)); intro w9 hw9; obtain ⟨hb9, hh9⟩ := hw9; skip; go_simp; try rfl)
      (try simp only [Act.put, List.setIfInBounds_toArray, List.set_cons_zero, List.set_cons_succ])
      apply flock_light rfl
      case h => first | exact light_no (by rfl) | ((first | apply light_plain rfl | apply light_yes (by rfl)); intro w9 hw9; obtain ⟨hb9, hh9⟩ := hw9; have hB9 : Below wr.heap.size wr w9 := (by (repeat' first | with_reducible (first | exact Below.refl _ _ | assumption | refine Below.alloc ?_ ?_ _ | refine below_drewN ?_ _ | refine Below.drew ?_ | refine Below.setCell ?_ ?_ _ | refine Below.trans ?_ (Below.mono (by with_reducible assumption) ?_)) | go_size)); obtain ⟨kc9, kf9, s9⟩ := bfacts hb9; obtain ⟨kd9, kg9, _⟩ := bfacts hB9; skip; go_simp; try rfl)
      (try simp only [Act.put, List.setIfInBounds_toArray, List.set_cons_zero, List.set_cons_succ])
      apply flock_light rfl
      case h => first | exact light_no (by rfl) | ((first | apply light_plain rfl | apply light_yes (by rfl)); intro w9 hw9; obtain ⟨hb9, hh9⟩ := hw9; skip; go_simp; try rfl)
      (try simp only [Act.put, List.setIfInBounds_toArray, List.set_cons_zero, List.set_cons_succ])
      apply flock_light rfl
      case h => first | exact light_no (by rfl) | ((first | apply light_plain rfl | apply light_yes (by rfl)); intro w9 hw9; obtain ⟨hb9, hh9⟩ := hw9; have hB9 : Below wr.heap.size wr w9 := (by (repeat' first | with_reducible (first | exact Below.refl _ _ | assumption | refine Below.alloc ?_ ?_ _ | refine below_drewN ?_ _ | refine Below.drew ?_ | refine Below.setCell ?_ ?_ _ | refine Below.trans ?_ (Below.mono (by with_reducible assumption) ?_)) | go_size)); obtain ⟨kc9, kf9, s9⟩ := bfacts hb9; obtain ⟨kd9, kg9, _⟩ := bfacts hB9; skip; go_simp; try rfl)
      (try simp only [Act.put, List.setIfInBounds_toArray, List.set_cons_zero, List.set_cons_succ])
      apply flock_light rfl
      case h => first | exact light_no (by rfl) | ((first | apply light_plain rfl | apply light_yes (by rfl)); intro w9 hw9; obtain ⟨hb9, hh9⟩ := hw9; skip; go_simp; try rfl)
      (try simp only [Act.put, List.setIfInBounds_toArray, List.set_cons_zero, List.set_cons_succ])
      apply flock_light rfl
      case h => first | exact light_no (by rfl) | ((first | apply light_plain rfl | apply light_yes (by rfl)); intro w9 hw9; obtain ⟨hb9, hh9⟩ := hw9; skip; go_simp; try rfl)
      (try simp only [Act.put, List.setIfInBounds_toArray, List.set_cons_zero, List.set_cons_succ])
      apply flock_light rfl
      case h => first | exact light_no (by rfl) | ((first | apply light_plain rfl | apply light_yes (by rfl)); intro w9 hw9; obtain ⟨hb9, hh9⟩ := hw9; skip; go_simp; try rfl)
      (try simp only [Act.put, List.setIfInBounds_toArray, List.set_cons_zero, List.set_cons_succ])
      refine flock_heavy _ rfl ?_ ?_
      · intro w9 hb9 hh9
        have hB9 : Below wr.heap.size wr w9 := (by (repeat' first | with_reducible (first | exact Below.refl _ _ | assumption | refine Below.alloc ?_ ?_ _ | refine below_drewN ?_ _ | refine Below.drew ?_ | refine Below.setCell ?_ ?_ _ | refine Below.trans ?_ (Below.mono (by with_reducible assumption) ?_)) | go_size))
        obtain ⟨kc9, kf9, s9⟩ := bfacts hb9
        obtain ⟨kd9, kg9, _⟩ := bfacts hB9
        skip
        go_wp2_with fail
        refine grewTo_at (by rfl) (by (repeat' first | with_reducible (first | exact Below.refl _ _ | assumption | refine Below.alloc ?_ ?_ _ | refine below_drewN ?_ _ | refine Below.drew ?_ | refine Below.setCell ?_ ?_ _ | refine Below.trans ?_ (Below.mono (by with_reducible assumption) ?_)) | go_size)) ?_
        exact ⟨_, rfl, by go_size, heap_alloc_new _ _⟩
      intro x12 ok12
      (try simp only [Act.put, List.setIfInBounds_toArray, List.set_cons_zero, List.set_cons_succ])
      (try dsimp only [Hv.own, Hv.is, Hv.lit, Hv.box, Hv.sl] at ok12)
      first | subst ok12 | (obtain ⟨A12, c12, ok12⟩ := ok12; subst ok12) | (obtain ⟨A12, ok12⟩ := ok12; subst ok12) | skip
      refine flock_nil ?_
      intro w9 hb9 hh9
      have hB9 : Below wr.heap.size wr w9 := (by (repeat' first | with_reducible (first | exact Below.refl _ _ | assumption | refine Below.alloc ?_ ?_ _ | refine below_drewN ?_ _ | refine Below.drew ?_ | refine Below.setCell ?_ ?_ _ | refine Below.trans ?_ (Below.mono (by with_reducible assumption) ?_)) | go_size))
      have r12 := hh9 _ (.head _); dsimp only [Hv.own, Hv.is, Hv.lit, Hv.box, Hv.sl] at r12; (first | replace r12 := lit_heap r12 | replace r12 := box_heap r12 | skip); clear hh9
      (try dsimp only)
      obtain ⟨h12, hc12⟩ := boxS_heap r12
      rw [← HHP.out] at hc12
      have HB9 := Lib.hid hB9
      have HC12 := Lib.hid hc12
      have H12 := Lib.hid h12
      have HHI := Lib.hid hi'
      clear r12 hc12 h12 hB9 hb9 hi'
      cases ei with
      | none =>
        have HON := Lib.hid (HFA.out.on rfl)
        have HI9 := Lib.hid (show EvIn w9 tb fb lo hi va v2 vs A (L ++ [⟨t.name, false, -1⟩]) ai ((t.name, (i : Int)) :: li) (A12 :: bs) from
          ⟨HFA.out.m.on HB9.out, (HFA.out.c.on HB9.out).cons (fun c hc => by have := HFA.out.c.lt c hc; have := H12.out; omega) HC12.out, fun c hc => by
            rcases List.mem_cons.1 hc with rfl | hc
            · have := H12.out; have := HFA.out.m.lt; have := HFA.out.m.tl; omega
            · exact HIN.out.bl c hc, for_names HON.out.1, for_words HON.out.2.1 (by omega) (by omega), HON.out.2.2.1⟩)
        have CB := Lib.hid (ih t.thn A (L ++ [⟨t.name, false, -1⟩]) dark ((t.name, (i : Int)) :: li) ai (A12 :: bs) tb fb lo hi va v2 va5 vs w9 K HI9.out (RStL.keep HB9.out.size (fun k _ hk => HB9.out.block k hk) _ _ _ HRI.out) HKL.out HW.out.thn (HTN.out (by show 0 < N; omega)))
        have CB : Hid (Calls Tryd.prog 82 #[.pointer (some ⟨tb, 0, none⟩), va5, .pointer (some ⟨A12, 0, none⟩)] w9 _) := CB
        clear ih
        go_wp2_with (go_at_call 82; refine CB.out.mono ?_; rintro r w5 ⟨rfl, hF5, hM5, cs, hC5⟩)
        have HPP := Lib.hid (for_pres (A := A) (nm := t.name) (j := (i : Int)) HON.out.1 HON.out.2.1 HON.out.2.2.1 HW.out.thn (by omega) (by omega))
        have HST := Lib.hid (HON.out.2.2.2.symm.trans (times_step hlti li ai))
        rw [HFF.out] at HST
        have hcs : Chain w5 ((cs ++ [A12]) ++ bs) (Ev.blE A ((t.name, (i : Int)) :: li) ai t.thn).l := by rw [List.append_assoc]; exact hC5
        have HC5 := Lib.hid (hcs.back (n := li.length) HFA.out.c.len)
        go_roundw
        case rel =>
          refine ⟨i + 1, ((Ev.blE A ((t.name, (i : Int)) :: li) ai t.thn).back li).l, (Ev.blE A ((t.name, (i : Int)) :: li) ai t.thn).a, (Ev.blE A ((t.name, (i : Int)) :: li) ai t.thn).e, by omega, by go_num, Lib.hid ⟨hM5, HC5.out, ?_, fun he => ⟨HPP.out.1, HPP.out.2.1, HPP.out.2.2, ?_⟩, fun he => ?_⟩⟩
          · refine (HFA.out.fr.on HB9.out).trans hF5 (fun k hk h => ?_)
            rcases h with h | h | h
            · exact .inl h
            · exact .inr (.inl h)
            · rcases List.mem_cons.1 h with rfl | h
              · have := H12.out; omega
              · exact .inr (.inr h)
          · have h := HST.out
            rw [if_neg (by show ¬ (Ev.blE A ((t.name, (i : Int)) :: li) ai t.thn).e.isSome = true; rw [he]; decide)] at h
            exact h.symm
          · have h := HST.out
            rw [if_pos (show ((Ev.blE A ((t.name, (i : Int)) :: li) ai t.thn).back li).e.isSome = true from he)] at h
            exact h
        case measure => simp [intOf]; omega
      | some ex =>
        obtain ⟨ta, tc, rfl⟩ := HRI.out.slice
        have CB := Lib.hid (evBlEnd (.slice ta t.thn.length tc) (.pointer (some ⟨A12, 0, none⟩)) t.thn.length tc ta rfl (by have := HRI.out.fewT; unfold maxLen; omega) w9 (HFA.out.m.on HB9.out) rfl)
        clear ih
        go_wp2_with (go_at_call 82; refine CB.out.mono ?_; rintro r w5 ⟨rfl, rfl⟩)
        go_roundw
        case rel => exact ⟨i + 1, li, ai, some ex, by omega, by go_num, Lib.hid ⟨HFA.out.m.on HB9.out, HFA.out.c.on HB9.out, HFA.out.fr.on HB9.out, fun h => (by cases h), HFA.out.off⟩⟩
        case measure => simp [intOf]; omega
    case neg =>
      clear ih
      go_wp2_with fail
      go_ret
      have hX : R = ⟨li, ai, ei⟩ := by
        cases ei with
        | none =>
          have h := (HFA.out.on rfl).2.2.2
          rw [show N - i = 0 by omega] at h
          exact h.symm
        | some x => exact HFA.out.off rfl
      refine ⟨bs, by rw [HHP.out]; rfl, HFA.out.fr, by rw [hX]; exact HFA.out.m, by rw [hX]; exact HFA.out.c, .inl rfl⟩
  case inr.inr.inr.inr.inr =>
    rw [hkd] at c0
    rw [hkd, if_neg (by decide), if_neg (by decide), if_neg (by decide), if_neg (by decide), if_neg (by decide)] at HE
    obtain ⟨n, rfl⟩ : ∃ n, S = [n] := one_of (by have h := HIN2.out; rw [ha] at h; exact h)
    obtain ⟨g, rfl, hg, hcs⟩ := row_ints HO.out (by simp)
    have r0 := hcs 0 n rfl
    have HXY := Lib.hid (show (⟨l, a, some (some n)⟩ : Ev.EO) = R from HE.out)
    replace hlt : ¬ 1 < t.args.length := hlt
    have f2 := HM.out.free 2
    have f4 := HM.out.free 4
    have t2 : wr.cell? ⟨tb, 2, none⟩ = some (.bool false) := HM.out.cell 2
    have t4 : wr.cell? ⟨tb, 4, none⟩ = some (.int .i64 0) := HM.out.cell 4
    simp only [List.length_cons, List.length_nil, Nat.zero_add, Nat.reduceAdd]
    clear hkd ha hcs HE ih
    go_wp2_with fail
    go_ret
    refine ⟨bs, by rw [HHP.out]; rfl, ?_, by rw [← HXY.out]; exact HM.out.ret n, ?_, .inl rfl⟩
    · exact (HFM.out.trans (SFr.put (S := TS tb) _ tb 2 _ rfl) (fun k _ h => ts_ms k h)).trans (SFr.put (S := TS tb) _ tb 4 _ rfl) (fun k _ h => ts_ms k h)
    · rw [← HXY.out]
      exact HIR.out.c.same (fun c hc => (Below.heap_setCell _ ⟨tb, 4, none⟩ _ c (HIN.out.bl c hc).2).trans (Below.heap_setCell _ ⟨tb, 2, none⟩ _ c (HIN.out.bl c hc).2))
end Go.Proofs.YtpbflgemhcaooaaDoor
