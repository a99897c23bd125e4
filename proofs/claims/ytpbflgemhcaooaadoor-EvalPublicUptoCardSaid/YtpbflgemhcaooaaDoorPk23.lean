import Derived.Test.YtpbflgemhcaooaaDoorPk22
import Derived.Test.YtpbflgemhcaooaaDoorPk4
import Derived.Test.YtpbflgemhcaooaaDoorPk8
import Derived.Maps.AppendAt
import Derived.Deep.DeepCutAuto
/- label.looker: a statement; its head and its arguments. -/
namespace Ev
/-- names, and what is counted, within bounds -/
structure CkOk (l : List Par) (k : LK) : Prop where
  len : (l.length : Int) ≤ k.work + 4
  lo : 0 ≤ k.work
  hi : k.work ≤ 300
  l0 : 0 ≤ k.lets
  l1 : k.lets ≤ 24
theorem args_nil (A l : List Par) (dark : Bool) : argsC A l dark [] = ([], 0) := rfl
theorem args_cons (A l : List Par) (dark : Bool) (e : Ex) (es : List Ex) : argsC A l dark (e :: es) = if (exC A l dark e).2 ≠ 0 then ([], (exC A l dark e).2) else ((exC A l dark e).1 :: (argsC A l dark es).1, (argsC A l dark es).2) := rfl
/-- what is left of the arguments -/
structure ArgsOn (A l : List Par) (dark : Bool) (xs rest : List Ex) (S : List Bool) : Prop where
  err : (argsC A l dark xs).2 = (argsC A l dark rest).2
  bits : (argsC A l dark xs).2 = 0 → (argsC A l dark xs).1 = S ++ (argsC A l dark rest).1
theorem ArgsOn.start (A l : List Par) (dark : Bool) (xs : List Ex) : ArgsOn A l dark xs xs [] := ⟨rfl, fun _ => rfl⟩
theorem ArgsOn.bad {A l : List Par} {dark : Bool} {xs rest : List Ex} {S : List Bool} {e : Ex} (h : ArgsOn A l dark xs (e :: rest) S) (h0 : (exC A l dark e).2 ≠ 0) : (argsC A l dark xs).2 = (exC A l dark e).2 := by
  rw [h.err, args_cons, if_pos h0]
theorem ArgsOn.good {A l : List Par} {dark : Bool} {xs rest : List Ex} {S : List Bool} {e : Ex} (h : ArgsOn A l dark xs (e :: rest) S) (h0 : (exC A l dark e).2 = 0) : ArgsOn A l dark xs rest (S ++ [(exC A l dark e).1]) := by
  have e1 := h.err
  have e2 := h.bits
  rw [args_cons, if_neg (not_not_intro h0)] at e1 e2
  exact ⟨e1, fun k => by rw [e2 k]; simp⟩
theorem ArgsOn.done {A l : List Par} {dark : Bool} {xs : List Ex} {S : List Bool} (h : ArgsOn A l dark xs [] S) : argsC A l dark xs = (S, 0) := by
  have e1 : (argsC A l dark xs).2 = 0 := h.err
  have e2 := h.bits e1
  rw [args_nil, List.append_nil] at e2
  exact Prod.ext e2 e1
end Ev
namespace Go.Proofs.YtpbflgemhcaooaaDoor
open Go.RowKit
set_option linter.unusedSimpArgs false
set_option linter.unusedVariables false
theorem Tryd.boolInfo : (Tryd.prog.info? 4).map (fun i => (i.zero, i.size, i.bytes)) = some (some (.bool false), 1, 1) := by kernel_rfl
def LBlDo (d : Nat) : Prop := ∀ (ts : List Ev.St1) (A l : List Ev.Par) (va vl v : Value) (k : Ev.LK) (kb : Nat) (dark : Bool) (w : World) (K : Nat → Prop), (∀ j, K j → j ≠ kb) → LkOk w kb A va k → NmAt w kb vl l → RStL d w K v ts → (∀ t ∈ ts, Ev.WfS t) → fewP A → Ev.CkOk l k →
  Calls Tryd.prog 58 #[.pointer (some ⟨kb, 0, none⟩), v, vl, .bool dark] w fun r w' => r = .returned (.int .i64 (Ev.blC A l dark k ts).1) ∧ PFr kb w w' ∧ ((Ev.blC A l dark k ts).1 = 0 → LkOk w' kb A va (Ev.blC A l dark k ts).2)
/-- what a statement's walk leaves -/
def LSt (A : List Ev.Par) (va : Value) (kb : Nat) (w : World) (R : (List Ev.Par × Int) × Ev.LK) (r : Ending) (w' : World) : Prop :=
  ∃ v', r = .returned (.tuple #[v', .int .i64 R.1.2]) ∧ PFr kb w w' ∧ (R.1.2 = 0 → NmAt w' kb v' R.1.1 ∧ LkOk w' kb A va R.2)
def LStDo (d : Nat) : Prop := ∀ (t : Ev.St1) (x : V3) (A l : List Ev.Par) (va vl : Value) (k : Ev.LK) (kb b o : Nat) (dark : Bool) (w : World) (K : Nat → Prop), (∀ j, K j → j ≠ kb) → b ≠ kb → LkOk w kb A va k → NmAt w kb vl l → StAt w b o t x → RParts d w K t x → Ev.WfS t → fewP A → Ev.CkOk l k →
  Calls Tryd.prog 90 #[.pointer (some ⟨kb, 0, none⟩), .pointer (some ⟨b, o, none⟩), vl, .bool dark] w (LSt A va kb w (Ev.stC A l dark k t))
theorem one_of {α : Type} {S : List α} (h : S.length = 1) : ∃ s0, S = [s0] := by
  match S, h with
  | [s0], _ => exact ⟨s0, rfl⟩
theorem two_of {α : Type} {S : List α} (h : S.length = 2) : ∃ s0 s1, S = [s0, s1] := by
  match S, h with
  | [s0, s1], _ => exact ⟨s0, s1, rfl⟩
theorem row_bit0 {w : World} {lo n c : Nat} {a : Option Addr} {s0 : Bool} {S : List Bool} (h : w.ownsRow lo 4 1 (.slice a n c) (s0 :: S).length ((s0 :: S).map Value.bool)) : ∃ b o, a = some ⟨b, o, none⟩ ∧ b < w.heap.size ∧ w.cell? ⟨b, o, none⟩ = some (.bool s0) := by
  obtain ⟨b, o, c', e, hb, _, _, hc⟩ := SL.row (SL.of_own h) (by simp)
  injection e with e _ _
  subst e
  exact ⟨b, o, rfl, hb, hc 0 _ rfl⟩
theorem row_bit1 {w : World} {lo n c : Nat} {a : Option Addr} {s0 s1 : Bool} {S : List Bool} (h : w.ownsRow lo 4 1 (.slice a n c) (s0 :: s1 :: S).length ((s0 :: s1 :: S).map Value.bool)) : ∃ b o, a = some ⟨b, o, none⟩ ∧ b < w.heap.size ∧ w.cell? ⟨b, o, none⟩ = some (.bool s0) ∧ w.cell? ⟨b, o + 1, none⟩ = some (.bool s1) := by
  obtain ⟨b, o, c', e, hb, _, _, hc⟩ := SL.row (SL.of_own h) (by simp)
  injection e with e _ _
  subst e
  exact ⟨b, o, rfl, hb, hc 0 _ rfl, hc 1 _ rfl⟩
theorem bad_bit (p s d : Bool) : ((!p && (s || d)) = true → p = false ∧ (s = true ∨ d = true)) ∧ (p = false ∧ (s = true ∨ d = true) → (!p && (s || d)) = true) := by
  cases p <;> cases s <;> cases d <;> simp
theorem own_lessT {w : World} {base base' : Nat} {e : TypeId} {size n : Nat} {v : Value} {xs : List Value} (h : w.ownsRow base e size v n xs) (hl : base' ≤ base) : w.ownsRow base' e size v n xs :=
  ⟨h.1, h.2.imp id fun ⟨g, cap, cur, k1, k2, k3⟩ => ⟨g, cap, cur, k1, Nat.le_trans hl k2, k3⟩⟩
/-- names and one more, in a row of its own -/
theorem NmAt.more {w : World} {lo kb : Nat} {v : Value} {l : List Ev.Par} {p : Ev.Par} (h : w.ownsRow lo 35 3 v (l.length + 1) (l.flatMap cellsP ++ cellsP p)) (hk : kb < lo) : NmAt w kb v (l ++ [p]) := by
  have e : (l ++ [p]).flatMap cellsP = l.flatMap cellsP ++ cellsP p := by simp
  have e2 : (l ++ [p]).length = l.length + 1 := by simp
  refine ⟨?_, fun a n c e3 => ?_⟩
  · show SL w w.heap.size 3 v (l ++ [p]).length ((l ++ [p]).flatMap cellsP)
    rw [e, e2]
    exact SL.of_own h
  · subst e3
    have := (h.lt a.block rfl).1
    show a.block ≠ kb
    omega
/-- is the name there, or an array's -/
theorem name_bit (x y : Int) : (0 ≤ x ∨ 0 ≤ y) ∨ (x < 0 ∧ y < 0) := by omega
set_option maxRecDepth 8000 in
set_option maxHeartbeats 12800000 in
theorem lookStmt (d : Nat) (ih : LBlDo d) : LStDo d := by
  intro t x A l va vl k kb b o dark w K hK hbk hk hl hx hp hw fA hc
  obtain ⟨wk, lt⟩ := k
  obtain ⟨hc1, hc2, hc3, hc4, hc5⟩ := hc
  dsimp only at hc1 hc2 hc3 hc4 hc5
  have HW := Lib.hid (Ev.wf_st hw)
  obtain ⟨R, hR⟩ : ∃ R, Ev.stC A l dark ⟨wk, lt⟩ t = R := ⟨_, rfl⟩
  rw [hR]
  have HE := Lib.hid ((Ev.stC_eq A l dark ⟨wk, lt⟩ t).symm.trans hR)
  have FA := Lib.hid fA
  have FL := Lib.hid (show fewP l by show l.length * 32 ≤ 140737488351232; omega)
  have hfew : t.args.length ≤ 2 := HW.out.few
  have k1 : w.cell? ⟨kb, 1, none⟩ = some (.int .i64 wk) := (hk.at_.cell 1).trans rfl
  have zk := hk.at_.lt
  have fk : w.frozen? ⟨kb, 1, none⟩ = false := by
    unfold World.frozen?
    rw [hk.at_.r]
    simp
  have HKO := Lib.hid (hk.work (wk + 1))
  have HN := Lib.hid (PFr.keep_nm hl 1 (.int .i64 (wk + 1)))
  have HS := Lib.hid (hx.fr (PFr.put1 w kb 1 (.int .i64 (wk + 1))) hbk)
  have HX1 := Lib.hid (RExL.fr hp.1 (PFr.put1 w kb 1 (.int .i64 (wk + 1))) hK)
  have HX2 := Lib.hid (RStL.fr hp.2.1 (PFr.put1 w kb 1 (.int .i64 (wk + 1))) hK)
  have HX3 := Lib.hid (RStL.fr hp.2.2 (PFr.put1 w kb 1 (.int .i64 (wk + 1))) hK)
  have HF := Lib.hid (PFr.put1 w kb 1 (.int .i64 (wk + 1)))
  have HKK := Lib.hid hK
  obtain ⟨va4, va5, va6⟩ := x
  dsimp only at HX1 HX2 HX3
  obtain ⟨xa, xc, rfl⟩ := HX1.out.form
  obtain ⟨la, lc, rfl, _, _⟩ := SL.form hl.r
  clear hR hk hl hx hp hw fA hK
  go_enter Tryd.func90, Tryd.ntmps90
  go_upto_region 2 with fail
  clear k1 fk
  generalize w.setCell ⟨kb, 1, none⟩ (.int .i64 (wk + 1)) = w1 at *
  have k1 : w1.cell? ⟨kb, 1, none⟩ = some (.int .i64 (wk + 1)) := (HKO.out.at_.cell 1).trans rfl
  have zk1 := HKO.out.at_.lt
  by_cases h300 : 300 < wk + 1
  case pos =>
    have g0 : decide (300 < wk + 1) = true := decide_eq_true h300
    rw [if_pos h300] at HE
    clear h300
    go_wp2_with fail
    go_ret2
    refine ⟨.slice none 0 0, ?_, HF.out, fun h => ?_⟩
    · rw [← HE.out]; rfl
    · rw [← HE.out] at h; cases h
  case neg =>
  rw [if_neg h300] at HE
  have b4 : w1.cell? ⟨b, o + 4, none⟩ = some (.slice xa t.args.length xc) := HS.out.c4
  have zb := HS.out.lt
  go_upto_region 6 with fail
  obtain ⟨i1, hi1, hz0, hz1, hz2⟩ := info_parts Tryd.boolInfo
  have IC := Lib.hid (⟨hi1, hz0, hz1, hz2⟩ : _ ∧ _ ∧ _ ∧ _)
  clear hi1 hz0 hz1 hz2 k1
  go_loopw [39, 10] (fun ii vv wr => ∃ (i : Nat) (S : List Bool), i ≤ t.args.length ∧ S.length = i ∧ ii = .int .i64 (i : Int) ∧ Hid (wr.ownsRow w1.heap.size 4 1 vv S.length (S.map Value.bool)) ∧ Hid (Ev.ArgsOn A l dark t.args (t.args.drop i) S) ∧ Below w1.heap.size w1 wr) (fun ii _ _ => t.args.length - (intOf ii).toNat)
  case atStart => exact ⟨0, [], by omega, rfl, rfl, Lib.hid (World.ownsRow_nil _ _ _ _), Lib.hid (by rw [List.drop_zero]; exact Ev.ArgsOn.start _ _ _ _), by (repeat' first | with_reducible (first | exact Below.refl _ _ | assumption | refine Below.alloc ?_ ?_ _ | refine below_drewN ?_ _ | refine Below.drew ?_ | refine Below.setCell ?_ ?_ _ | refine Below.trans ?_ (Below.mono (by with_reducible assumption) ?_)) | go_size)⟩
  case round =>
  obtain ⟨_, S, hi, rfl, rfl, HO, HA, hbr⟩ := hrel
  obtain ⟨sa, sc, rfl, _, _⟩ := SL.form (SL.of_own HO.out)
  have b4r := (hbr.cell (p := ⟨b, o + 4, none⟩) zb).trans b4
  have zbr : b < wr.heap.size := Nat.lt_of_lt_of_le zb hbr.size
  by_cases hlt : S.length < t.args.length
  case pos =>
    obtain ⟨e, he⟩ : ∃ e, t.args[S.length]? = some e := ⟨_, List.getElem?_eq_getElem hlt⟩
    obtain ⟨d', b', off, c', vx, hd, hva, hxa, hxr⟩ := HX1.out.el he
    obtain ⟨h1, h2⟩ := slice_two hva
    clear hva
    subst h1 h2
    have hdr : t.args.drop S.length = e :: t.args.drop (S.length + 1) := by
      rw [List.getElem?_eq_getElem hlt] at he
      injection he with he
      rw [← he]
      exact List.drop_eq_getElem_cons hlt
    rw [hdr] at HA
    have CI := Lib.hid (lookX_all d' e A l va (.slice la l.length lc) vx ⟨wk + 1, lt⟩ kb b' (off + S.length * 4) dark wr K FA.out FL.out (HKO.out.at_.on hbr) (HN.out.r.on hbr) (hxa.on hbr) (hxr.on hbr) (HW.out.args e (List.mem_of_getElem? he)))
    clear he hd hxa hxr hdr
    go_upto_region 9 with (go_at_call 106; refine CI.out.mono ?_; rintro r w5 ⟨rfl, hb5⟩)
    by_cases h0 : (Ev.exC A l dark e).2 = 0
    case neg =>
      have HB := Lib.hid (HA.out.bad h0)
      rw [HB.out, if_pos h0] at HE
      have g0 : ((Ev.exC A l dark e).2 != 0) = true := bne_iff_ne.2 h0
      clear HA CI
      go_wp2_with fail
      go_ret2
      refine ⟨.slice none 0 0, ?_, HF.out.trans (PFr.of (hbr.trans (hb5.mono hbr.size))), fun h => ?_⟩
      · rw [← HE.out]; rfl
      · rw [← HE.out] at h; exact absurd h h0
    case pos =>
      have HG := Lib.hid (HA.out.good h0)
      have g0 : ((Ev.exC A l dark e).2 != 0) = false := by rw [h0]; rfl
      generalize (Ev.exC A l dark e).1 = s at *
      have hb51 : Below w1.heap.size w1 w5 := hbr.trans (hb5.mono hbr.size)
      have OWN5 := Lib.hid (owns_below HO.out hb5)
      have hs5 := hb51.size
      clear HA CI h0
      go_upto_region 12 with (at_builtin; refine wpList_append_own_at _ rfl (.tmp 58) (.tmp 60) _ rfl w1.heap.size 4 i1 (.bool false) 1 1 Tryd.underlying38 IC.out.1 IC.out.2.1 IC.out.2.2.1 IC.out.2.2.2 rfl (by decide) _ _ _ rfl (OWN5.out.alloc _) ⟨w5.heap.size, 0, none⟩ 1 1 [.bool s] rfl rfl (cell_one_new _ _ _) (fun x hx => by simp at hx; subst hx; rfl) (by unfold maxLen; omega) (by omega) (by simp; omega) ?_; intro v7 w7 hown7 hg7 hn7 hat7; obtain ⟨A7, c7, rfl, _, _⟩ := SL.form (SL.of_own hown7))
      have hb7 : Below w1.heap.size w1 w7 := (hb51.alloc hs5 _).grown hg7 (by simp; omega) (fun k hk => (OWN5.out.lt k hk).1)
      have HOWN := Lib.hid hown7
      clear hown7 hg7 hat7 hn7 OWN5 hb5 hb51 hs5
      go_wp2_with fail
      go_roundw
      case rel => exact ⟨S.length + 1, S ++ [s], by omega, by simp, by go_num, Lib.hid (by have h := HOWN.out; simpa using h), HG, hb7⟩
      case measure => simp [intOf]; omega
  case neg =>
  have HIN := Lib.hid (show S.length = t.args.length by omega)
  have HD := Lib.hid (Ev.ArgsOn.done (show Ev.ArgsOn A l dark t.args [] S by
    have h := HA.out
    rw [HIN.out, List.drop_length] at h
    exact h))
  rw [HD.out, if_neg (by simp)] at HE
  dsimp only at HE
  have c0 := HS.out.on hbr |>.c0
  have HSR := Lib.hid (HS.out.on hbr)
  have HNR := Lib.hid (HN.out.on hbr)
  have HKR := Lib.hid (HKO.out.on hbr)
  have HFR := Lib.hid (HF.out.trans (PFr.of hbr))
  have HR1 := Lib.hid (HX1.out.on hbr)
  have HR2 := Lib.hid (RStL.keep hbr.size (fun k _ hk => hbr.block k hk) _ _ _ HX2.out)
  have HR3 := Lib.hid (RStL.keep hbr.size (fun k _ hk => hbr.block k hk) _ _ _ HX3.out)
  have zkr := HKR.out.at_.lt
  clear hi b4 b4r zb zk HX1 HX2 HX3 HA IC HKO HN HS HF
  rcases HW.out.kinds with ⟨hkd, a, ha⟩ | ⟨hkd, a, ha⟩ | ⟨hkd, a, c, ha⟩ | ⟨hkd, a, ha⟩ | ⟨hkd, ha, hn0, hn8⟩ | ⟨hkd, a, ha⟩
  case inl =>
    rw [hkd] at c0
    rw [hkd, if_neg (by decide), if_neg (by decide)] at HE
    unfold Ev.oneC at HE
    rw [if_pos rfl] at HE
    obtain ⟨s0, rfl⟩ : ∃ s0, S = [s0] := one_of (by have h := HIN.out; rw [ha] at h; exact h)
    replace hlt : ¬ 1 < t.args.length := hlt
    obtain ⟨sb, so, rfl, hsb, e0⟩ := row_bit0 HO.out
    simp only [List.length_cons, List.length_nil, Nat.zero_add, Int.natCast_one]
    change Hid ((if 0 ≤ Ev.nameI l t.name ∨ 0 ≤ Ev.nameI A t.name then (([], 7), (⟨wk + 1, lt⟩ : Ev.LK)) else if t.secret = false ∧ (s0 = true ∨ dark = true) then (([], 10), ⟨wk + 1, lt⟩) else if 24 < lt + 1 then (([], 4), ⟨wk + 1, lt + 1⟩) else ((l ++ [⟨t.name, t.secret, 0⟩], 0), ⟨wk + 1, lt + 1⟩)) = R) at HE
    have q2 := HSR.out.c2
    have q3 := HSR.out.c3
    have zb := HSR.out.lt
    have k2 : wr.cell? ⟨kb, 2, none⟩ = some (.int .i64 lt) := (HKR.out.at_.cell 2).trans rfl
    have f2 : ∀ w', Below wr.heap.size wr w' → w'.frozen? ⟨kb, 2, none⟩ = false := fun w' hw' => by
      unfold World.frozen?
      rw [(HKR.out.on hw').at_.r]
      simp
    clear hkd ha
    obtain ⟨aa, ac, rfl, _, _⟩ := SL.form HKR.out.at_.a
    have k0 : wr.cell? ⟨kb, 0, none⟩ = some (.slice aa A.length ac) := (HKR.out.at_.cell 0).trans rfl
    have CF1 := Lib.hid (fun u (hu : Below wr.heap.size wr u) => find_any l (.slice la l.length lc) t.name u (HNR.out.r.on hu) FL.out)
    have CF2 := Lib.hid (fun u (hu : Below wr.heap.size wr u) => find_any A (.slice aa A.length ac) t.name u (HKR.out.at_.a.on hu) FA.out)
    by_cases h1 : 0 ≤ Ev.nameI l t.name
    case pos =>
      have g1 : decide (0 ≤ Ev.nameI l t.name) = true := decide_eq_true h1
      rw [if_pos (.inl h1)] at HE
      clear h1
      go_upto_region 15 with fail
      refine wp_region_chain (fun w' => Below (wr).heap.size (wr) w') (by kernel_rfl) (by kernel_rfl) (by (repeat' first | with_reducible (first | exact Below.refl _ _ | assumption | refine Below.alloc ?_ ?_ _ | refine below_drewN ?_ _ | refine Below.drew ?_ | refine Below.setCell ?_ ?_ _ | refine Below.trans ?_ (Below.mono (by with_reducible assumption) ?_)) | go_size)) ?_
      repeat (
        apply chain_cons
        case h =>
          refine fun w9 hb9 => ?_
          have hB9 : Below wr.heap.size wr w9 := by (repeat' first | with_reducible (first | exact Below.refl _ _ | assumption | refine Below.alloc ?_ ?_ _ | refine below_drewN ?_ _ | refine Below.drew ?_ | refine Below.setCell ?_ ?_ _ | refine Below.trans ?_ (Below.mono (by with_reducible assumption) ?_)) | go_size)
          obtain ⟨kc9, kf9, s9⟩ := bfacts hb9
          obtain ⟨kd9, kg9, _⟩ := bfacts hB9
          go_wp2_with (fail)
          (try ((first | (go_at_call 57; with_reducible refine (CF1.out _ hb9).mono ?_; rintro _ _ ⟨rfl, hb8⟩) | (go_at_call 57; with_reducible refine (CF2.out _ hb9).mono ?_; rintro _ _ ⟨rfl, hb8⟩)); go_wp2_with fail))
          refine settled_intro (S := fun w' => Below (wr).heap.size (wr) w') ?_
          (repeat' first | with_reducible (first | exact Below.refl _ _ | assumption | refine Below.alloc ?_ ?_ _ | refine below_drewN ?_ _ | refine Below.drew ?_ | refine Below.setCell ?_ ?_ _ | refine Below.trans ?_ (Below.mono (by with_reducible assumption) ?_)) | go_size)
        case hp => first | rfl | (simp only [*]; done) | (simp only [*]; rfl))
      refine chain.nil ?_
      refine fun w15 hb15 => ?_
      have B15 : Below wr.heap.size wr w15 := by (repeat' first | with_reducible (first | exact Below.refl _ _ | assumption | refine Below.alloc ?_ ?_ _ | refine below_drewN ?_ _ | refine Below.drew ?_ | refine Below.setCell ?_ ?_ _ | refine Below.trans ?_ (Below.mono (by with_reducible assumption) ?_)) | go_size)
      obtain ⟨kc15, kf15, s15⟩ := bfacts hb15
      obtain ⟨kd15, kg15, _⟩ := bfacts B15
      (try simp only [World.size_alloc, World.size_setCell, World.size_drew, World.heap_drewN, Nat.add_one_le_iff] at s15)
      clear hb15
      have hb15 := B15
      clear B15
      have B15 : Hid (Below wr.heap.size wr w15) := hb15
      (try have z15 : wr.heap.size < w15.heap.size := by omega)
      (try dsimp only)
      have hbw : Below wr.heap.size wr w15 := hb15
      go_wp2_with fail
      go_ret2
      refine ⟨.slice none 0 0, ?_, HFR.out.trans (PFr.of hbw), fun h => ?_⟩
      · rw [← HE.out]; rfl
      · rw [← HE.out] at h; cases h
    case neg =>
    have g1 : decide (0 ≤ Ev.nameI l t.name) = false := decide_eq_false h1
    by_cases h2 : 0 ≤ Ev.nameI A t.name
    case pos =>
      have g2 : decide (0 ≤ Ev.nameI A t.name) = true := decide_eq_true h2
      rw [if_pos (.inr h2)] at HE
      clear h1 h2
      go_upto_region 15 with fail
      refine wp_region_chain (fun w' => Below (wr).heap.size (wr) w') (by kernel_rfl) (by kernel_rfl) (by (repeat' first | with_reducible (first | exact Below.refl _ _ | assumption | refine Below.alloc ?_ ?_ _ | refine below_drewN ?_ _ | refine Below.drew ?_ | refine Below.setCell ?_ ?_ _ | refine Below.trans ?_ (Below.mono (by with_reducible assumption) ?_)) | go_size)) ?_
      repeat (
        apply chain_cons
        case h =>
          refine fun w9 hb9 => ?_
          have hB9 : Below wr.heap.size wr w9 := by (repeat' first | with_reducible (first | exact Below.refl _ _ | assumption | refine Below.alloc ?_ ?_ _ | refine below_drewN ?_ _ | refine Below.drew ?_ | refine Below.setCell ?_ ?_ _ | refine Below.trans ?_ (Below.mono (by with_reducible assumption) ?_)) | go_size)
          obtain ⟨kc9, kf9, s9⟩ := bfacts hb9
          obtain ⟨kd9, kg9, _⟩ := bfacts hB9
          go_wp2_with (fail)
          (try ((first | (go_at_call 57; with_reducible refine (CF1.out _ hb9).mono ?_; rintro _ _ ⟨rfl, hb8⟩) | (go_at_call 57; with_reducible refine (CF2.out _ hb9).mono ?_; rintro _ _ ⟨rfl, hb8⟩)); go_wp2_with fail))
          refine settled_intro (S := fun w' => Below (wr).heap.size (wr) w') ?_
          (repeat' first | with_reducible (first | exact Below.refl _ _ | assumption | refine Below.alloc ?_ ?_ _ | refine below_drewN ?_ _ | refine Below.drew ?_ | refine Below.setCell ?_ ?_ _ | refine Below.trans ?_ (Below.mono (by with_reducible assumption) ?_)) | go_size)
        case hp => first | rfl | (simp only [*]; done) | (simp only [*]; rfl))
      refine chain.nil ?_
      refine fun w15 hb15 => ?_
      have B15 : Below wr.heap.size wr w15 := by (repeat' first | with_reducible (first | exact Below.refl _ _ | assumption | refine Below.alloc ?_ ?_ _ | refine below_drewN ?_ _ | refine Below.drew ?_ | refine Below.setCell ?_ ?_ _ | refine Below.trans ?_ (Below.mono (by with_reducible assumption) ?_)) | go_size)
      obtain ⟨kc15, kf15, s15⟩ := bfacts hb15
      obtain ⟨kd15, kg15, _⟩ := bfacts B15
      (try simp only [World.size_alloc, World.size_setCell, World.size_drew, World.heap_drewN, Nat.add_one_le_iff] at s15)
      clear hb15
      have hb15 := B15
      clear B15
      have B15 : Hid (Below wr.heap.size wr w15) := hb15
      (try have z15 : wr.heap.size < w15.heap.size := by omega)
      (try dsimp only)
      have hbw : Below wr.heap.size wr w15 := hb15
      go_wp2_with fail
      go_ret2
      refine ⟨.slice none 0 0, ?_, HFR.out.trans (PFr.of hbw), fun h => ?_⟩
      · rw [← HE.out]; rfl
      · rw [← HE.out] at h; cases h
    case neg =>
    have g2 : decide (0 ≤ Ev.nameI A t.name) = false := decide_eq_false h2
    rw [if_neg (fun h => h.elim h1 h2)] at HE
    clear h1 h2
    go_upto_region 15 with fail
    refine wp_region_chain (fun w' => Below (wr).heap.size (wr) w') (by kernel_rfl) (by kernel_rfl) (by (repeat' first | with_reducible (first | exact Below.refl _ _ | assumption | refine Below.alloc ?_ ?_ _ | refine below_drewN ?_ _ | refine Below.drew ?_ | refine Below.setCell ?_ ?_ _ | refine Below.trans ?_ (Below.mono (by with_reducible assumption) ?_)) | go_size)) ?_
    repeat (
      apply chain_cons
      case h =>
        refine fun w9 hb9 => ?_
        have hB9 : Below wr.heap.size wr w9 := by (repeat' first | with_reducible (first | exact Below.refl _ _ | assumption | refine Below.alloc ?_ ?_ _ | refine below_drewN ?_ _ | refine Below.drew ?_ | refine Below.setCell ?_ ?_ _ | refine Below.trans ?_ (Below.mono (by with_reducible assumption) ?_)) | go_size)
        obtain ⟨kc9, kf9, s9⟩ := bfacts hb9
        obtain ⟨kd9, kg9, _⟩ := bfacts hB9
        go_wp2_with (fail)
        (try ((first | (go_at_call 57; with_reducible refine (CF1.out _ hb9).mono ?_; rintro _ _ ⟨rfl, hb8⟩) | (go_at_call 57; with_reducible refine (CF2.out _ hb9).mono ?_; rintro _ _ ⟨rfl, hb8⟩)); go_wp2_with fail))
        refine settled_intro (S := fun w' => Below (wr).heap.size (wr) w') ?_
        (repeat' first | with_reducible (first | exact Below.refl _ _ | assumption | refine Below.alloc ?_ ?_ _ | refine below_drewN ?_ _ | refine Below.drew ?_ | refine Below.setCell ?_ ?_ _ | refine Below.trans ?_ (Below.mono (by with_reducible assumption) ?_)) | go_size)
      case hp => first | rfl | (simp only [*]; done) | (simp only [*]; rfl))
    refine chain.nil ?_
    refine fun w15 hb15 => ?_
    have B15 : Below wr.heap.size wr w15 := by (repeat' first | with_reducible (first | exact Below.refl _ _ | assumption | refine Below.alloc ?_ ?_ _ | refine below_drewN ?_ _ | refine Below.drew ?_ | refine Below.setCell ?_ ?_ _ | refine Below.trans ?_ (Below.mono (by with_reducible assumption) ?_)) | go_size)
    obtain ⟨kc15, kf15, s15⟩ := bfacts hb15
    obtain ⟨kd15, kg15, _⟩ := bfacts B15
    (try simp only [World.size_alloc, World.size_setCell, World.size_drew, World.heap_drewN, Nat.add_one_le_iff] at s15)
    clear hb15
    have hb15 := B15
    clear B15
    have B15 : Hid (Below wr.heap.size wr w15) := hb15
    (try have z15 : wr.heap.size < w15.heap.size := by omega)
    (try dsimp only)
    have hbw : Below wr.heap.size wr w15 := hb15
    clear CF1 CF2 k0
    have f2r := f2 wr (Below.refl _ _)
    replace f2 := f2 w15 hbw
    have zk15 : kb < w15.heap.size := Nat.lt_of_lt_of_le zkr hbw.size
    cases hsec : t.secret with
    | true =>
      have SECQ := hsec
      rw [hsec] at q3
      rw [hsec, if_neg (by simp)] at HE
      have HSEC := Lib.hid hsec
      clear hsec SECQ
      go_upto_region 20 with fail
      have HK2 := Lib.hid ((HKR.out.on hbw).lets (lt + 1))
      have HN2 := Lib.hid (PFr.keep_nm (HNR.out.on hbw) 2 (.int .i64 (lt + 1)))
      have HS2 := Lib.hid ((HSR.out.on hbw).fr (PFr.put1 w15 kb 2 (.int .i64 (lt + 1))) hbk)
      have HF2 := Lib.hid ((HFR.out.trans (PFr.of hbw)).trans (PFr.put1 w15 kb 2 (.int .i64 (lt + 1))))
      clear hbw hb15 kc15 kd15 kf15 kg15 B15 q2 q3 k2 f2 f2r c0 HSR HKR HNR HFR HR1 HR2 HR3 zb zbr zkr e0
      generalize w15.setCell ⟨kb, 2, none⟩ (.int .i64 (lt + 1)) = w2 at *
      have k2 : w2.cell? ⟨kb, 2, none⟩ = some (.int .i64 (lt + 1)) := (HK2.out.at_.cell 2).trans rfl
      have zk2 := HK2.out.at_.lt
      by_cases h24 : 24 < lt + 1
      case pos =>
        have g24 : decide (24 < lt + 1) = true := decide_eq_true h24
        rw [if_pos h24] at HE
        clear h24
        go_wp2_with fail
        go_ret2
        refine ⟨.slice none 0 0, ?_, HF2.out, fun h => ?_⟩
        · rw [← HE.out]; rfl
        · rw [← HE.out] at h; cases h
      case neg =>
      rw [if_neg h24] at HE
      have q2 := HS2.out.c2
      have q3 := HS2.out.c3
      have zb2 := HS2.out.lt
      rw [HSEC.out] at q3
      have CC := Lib.hid (fun u (hu : Below w2.heap.size w2 u) => clonePar_own l (.slice la l.length lc) u (HN2.out.r.on hu) (by omega))
      obtain ⟨i3, hi1, hz0, hz1, hz2⟩ := info_parts Tryd.varInfo
      have IV := Lib.hid (⟨hi1, hz0, hz1, hz2⟩ : _ ∧ _ ∧ _ ∧ _)
      clear hi1 hz0 hz1 hz2
      go_upto_region 22 with fail
      refine wp_region_flock_tail 12 (fun k => match k with | 1 => some (Hv.own w2.heap.size 35 3 l.length (l.flatMap cellsP)) | 11 => some (Hv.lit #[.string ⟨t.name.toArray⟩, .bool true, .int .i64 0] 35 1) | _ => none) (by kernel_rfl) (by kernel_rfl) (by kernel_rfl) (by kernel_rfl) ?_
      simp only [List.take_succ_cons, List.take_zero, List.drop_succ_cons, List.drop_zero]
      apply flock_light rfl
      case h => first | exact light_no (by rfl) | ((first | apply light_plain rfl | apply light_yes (by rfl)); intro w9 hw9; obtain ⟨hb9, hh9⟩ := hw9; skip; go_simp; try rfl)
      (try simp only [Act.put, List.setIfInBounds_toArray, List.set_cons_zero, List.set_cons_succ])
      refine flock_heavy _ rfl ?_ ?_
      · intro w9 hb9 hh9
        have hB9 : Below w2.heap.size w2 w9 := (by (repeat' first | with_reducible (first | exact Below.refl _ _ | assumption | refine Below.alloc ?_ ?_ _ | refine below_drewN ?_ _ | refine Below.drew ?_ | refine Below.setCell ?_ ?_ _ | refine Below.trans ?_ (Below.mono (by with_reducible assumption) ?_)) | go_size))
        obtain ⟨kc9, kf9, s9⟩ := bfacts hb9
        obtain ⟨kd9, kg9, _⟩ := bfacts hB9
        skip
        go_wp2_with (go_at_call 56; refine (CC.out _ hB9).mono ?_; rintro e w6 ⟨v6, rfl, hO6, hb6⟩)
        refine grewTo_at (by rfl) (by (repeat' first | with_reducible (first | exact Below.refl _ _ | assumption | refine Below.alloc ?_ ?_ _ | refine below_drewN ?_ _ | refine Below.drew ?_ | refine Below.setCell ?_ ?_ _ | refine Below.trans ?_ (Below.mono (by with_reducible assumption) ?_)) | go_size)) ?_
        exact own_lessT hO6 (by go_size)
      intro x1 ok1
      (try simp only [Act.put, List.setIfInBounds_toArray, List.set_cons_zero, List.set_cons_succ])
      (try dsimp only [Hv.own, Hv.is, Hv.lit, Hv.box, Hv.sl] at ok1)
      first | subst ok1 | (obtain ⟨A1, c1, ok1⟩ := ok1; subst ok1) | (obtain ⟨A1, ok1⟩ := ok1; subst ok1) | skip
      apply flock_light rfl
      case h => first | exact light_no (by rfl) | ((first | apply light_plain rfl | apply light_yes (by rfl)); intro w9 hw9; obtain ⟨hb9, hh9⟩ := hw9; skip; go_simp; try rfl)
      (try simp only [Act.put, List.setIfInBounds_toArray, List.set_cons_zero, List.set_cons_succ])
      apply flock_light rfl
      case h => first | exact light_no (by rfl) | ((first | apply light_plain rfl | apply light_yes (by rfl)); intro w9 hw9; obtain ⟨hb9, hh9⟩ := hw9; have hB9 : Below w2.heap.size w2 w9 := (by (repeat' first | with_reducible (first | exact Below.refl _ _ | assumption | refine Below.alloc ?_ ?_ _ | refine below_drewN ?_ _ | refine Below.drew ?_ | refine Below.setCell ?_ ?_ _ | refine Below.trans ?_ (Below.mono (by with_reducible assumption) ?_)) | go_size)); obtain ⟨kc9, kf9, s9⟩ := bfacts hb9; obtain ⟨kd9, kg9, _⟩ := bfacts hB9; skip; go_simp; try rfl)
      (try simp only [Act.put, List.setIfInBounds_toArray, List.set_cons_zero, List.set_cons_succ])
      apply flock_light rfl
      case h => first | exact light_no (by rfl) | ((first | apply light_plain rfl | apply light_yes (by rfl)); intro w9 hw9; obtain ⟨hb9, hh9⟩ := hw9; skip; go_simp; try rfl)
      (try simp only [Act.put, List.setIfInBounds_toArray, List.set_cons_zero, List.set_cons_succ])
      apply flock_light rfl
      case h => first | exact light_no (by rfl) | ((first | apply light_plain rfl | apply light_yes (by rfl)); intro w9 hw9; obtain ⟨hb9, hh9⟩ := hw9; have hB9 : Below w2.heap.size w2 w9 := (by (repeat' first | with_reducible (first | exact Below.refl _ _ | assumption | refine Below.alloc ?_ ?_ _ | refine below_drewN ?_ _ | refine Below.drew ?_ | refine Below.setCell ?_ ?_ _ | refine Below.trans ?_ (Below.mono (by with_reducible assumption) ?_)) | go_size)); obtain ⟨kc9, kf9, s9⟩ := bfacts hb9; obtain ⟨kd9, kg9, _⟩ := bfacts hB9; skip; go_simp; try rfl)
      (try simp only [Act.put, List.setIfInBounds_toArray, List.set_cons_zero, List.set_cons_succ])
      apply flock_light rfl
      case h => first | exact light_no (by rfl) | ((first | apply light_plain rfl | apply light_yes (by rfl)); intro w9 hw9; obtain ⟨hb9, hh9⟩ := hw9; skip; go_simp; try rfl)
      (try simp only [Act.put, List.setIfInBounds_toArray, List.set_cons_zero, List.set_cons_succ])
      apply flock_light rfl
      case h => first | exact light_no (by rfl) | ((first | apply light_plain rfl | apply light_yes (by rfl)); intro w9 hw9; obtain ⟨hb9, hh9⟩ := hw9; have hB9 : Below w2.heap.size w2 w9 := (by (repeat' first | with_reducible (first | exact Below.refl _ _ | assumption | refine Below.alloc ?_ ?_ _ | refine below_drewN ?_ _ | refine Below.drew ?_ | refine Below.setCell ?_ ?_ _ | refine Below.trans ?_ (Below.mono (by with_reducible assumption) ?_)) | go_size)); obtain ⟨kc9, kf9, s9⟩ := bfacts hb9; obtain ⟨kd9, kg9, _⟩ := bfacts hB9; skip; go_simp; try rfl)
      (try simp only [Act.put, List.setIfInBounds_toArray, List.set_cons_zero, List.set_cons_succ])
      apply flock_light rfl
      case h => first | exact light_no (by rfl) | ((first | apply light_plain rfl | apply light_yes (by rfl)); intro w9 hw9; obtain ⟨hb9, hh9⟩ := hw9; skip; go_simp; try rfl)
      (try simp only [Act.put, List.setIfInBounds_toArray, List.set_cons_zero, List.set_cons_succ])
      apply flock_light rfl
      case h => first | exact light_no (by rfl) | ((first | apply light_plain rfl | apply light_yes (by rfl)); intro w9 hw9; obtain ⟨hb9, hh9⟩ := hw9; have hB9 : Below w2.heap.size w2 w9 := (by (repeat' first | with_reducible (first | exact Below.refl _ _ | assumption | refine Below.alloc ?_ ?_ _ | refine below_drewN ?_ _ | refine Below.drew ?_ | refine Below.setCell ?_ ?_ _ | refine Below.trans ?_ (Below.mono (by with_reducible assumption) ?_)) | go_size)); obtain ⟨kc9, kf9, s9⟩ := bfacts hb9; obtain ⟨kd9, kg9, _⟩ := bfacts hB9; skip; go_simp; try rfl)
      (try simp only [Act.put, List.setIfInBounds_toArray, List.set_cons_zero, List.set_cons_succ])
      apply flock_light rfl
      case h => first | exact light_no (by rfl) | ((first | apply light_plain rfl | apply light_yes (by rfl)); intro w9 hw9; obtain ⟨hb9, hh9⟩ := hw9; skip; go_simp; try rfl)
      (try simp only [Act.put, List.setIfInBounds_toArray, List.set_cons_zero, List.set_cons_succ])
      refine flock_heavy _ rfl ?_ ?_
      · intro w9 hb9 hh9
        have hB9 : Below w2.heap.size w2 w9 := (by (repeat' first | with_reducible (first | exact Below.refl _ _ | assumption | refine Below.alloc ?_ ?_ _ | refine below_drewN ?_ _ | refine Below.drew ?_ | refine Below.setCell ?_ ?_ _ | refine Below.trans ?_ (Below.mono (by with_reducible assumption) ?_)) | go_size))
        obtain ⟨kc9, kf9, s9⟩ := bfacts hb9
        obtain ⟨kd9, kg9, _⟩ := bfacts hB9
        skip
        go_wp2_with fail
        refine grewTo_at (by rfl) (by (repeat' first | with_reducible (first | exact Below.refl _ _ | assumption | refine Below.alloc ?_ ?_ _ | refine below_drewN ?_ _ | refine Below.drew ?_ | refine Below.setCell ?_ ?_ _ | refine Below.trans ?_ (Below.mono (by with_reducible assumption) ?_)) | go_size)) ?_
        exact ⟨_, rfl, heap_alloc_new _ _⟩
      intro x11 ok11
      (try simp only [Act.put, List.setIfInBounds_toArray, List.set_cons_zero, List.set_cons_succ])
      (try dsimp only [Hv.own, Hv.is, Hv.lit, Hv.box, Hv.sl] at ok11)
      first | subst ok11 | (obtain ⟨A11, c11, ok11⟩ := ok11; subst ok11) | (obtain ⟨A11, ok11⟩ := ok11; subst ok11) | skip
      refine flock_nil ?_
      intro w9 hb9 hh9
      have hB9 : Below w2.heap.size w2 w9 := (by (repeat' first | with_reducible (first | exact Below.refl _ _ | assumption | refine Below.alloc ?_ ?_ _ | refine below_drewN ?_ _ | refine Below.drew ?_ | refine Below.setCell ?_ ?_ _ | refine Below.trans ?_ (Below.mono (by with_reducible assumption) ?_)) | go_size))
      have r11 := hh9 _ (.head _); dsimp only [Hv.own, Hv.is, Hv.lit, Hv.box, Hv.sl] at r11; (first | replace r11 := lit_heap r11 | replace r11 := box_heap r11 | skip); have r1 := hh9 _ (.tail _ (.head _)); dsimp only [Hv.own, Hv.is, Hv.lit, Hv.box, Hv.sl] at r1; (first | replace r1 := lit_heap r1 | replace r1 := box_heap r1 | skip); clear hh9
      (try dsimp only)
      have R1 := Lib.hid r1
      have R11 := Lib.hid r11
      have HB9 := Lib.hid hB9
      have hs9 := hB9.size
      clear r1 r11 hb9 hB9
      go_wp2_with (at_builtin; refine wpList_append_own_at _ rfl (.tmp 114) (.tmp 124) _ rfl w2.heap.size 35 i3 (.agg #[.string ⟨#[]⟩, .bool false, .int .i64 0]) 3 32 Tryd.underlying22 IV.out.1 IV.out.2.1 IV.out.2.2.1 IV.out.2.2.2 rfl (by decide) _ _ _ rfl R1.out ⟨A11, 0, none⟩ 1 1 (cellsP ⟨t.name, true, 0⟩) rfl rfl (cells_of_block R11.out) (one_three_mk _) (by unfold maxLen; omega) (by omega) (by omega) ?_; intro v7 w7 hown7 hg7 hn7 hat7; obtain ⟨A8, c8, rfl, _, _⟩ := SL.form (SL.of_own hown7))
      have hb7 : Below w2.heap.size w2 w7 := HB9.out.grown hg7 hs9 (fun k hk => (R1.out.lt k hk).1)
      have HNI := Lib.hid (NmAt.more (kb := kb) hown7 zk2)
      have HK7 := Lib.hid (HK2.out.on hb7)
      have HF7 := Lib.hid (HF2.out.trans (PFr.of hb7))
      clear hown7 hg7 hn7 hat7 hb7
      go_ret2
      refine ⟨.slice A8 (l.length + 1) c8, ?_, HF7.out, fun h => ?_⟩
      · rw [← HE.out]; rfl
      · rw [← HE.out]; exact ⟨HNI.out, HK7.out⟩
    | false =>
      rw [hsec] at q3
      cases s0 with
      | true =>
        have HX := Lib.hid (show (([], 10), (⟨wk + 1, lt⟩ : Ev.LK)) = R by rw [← HE.out, hsec, if_pos (by simp)])
        clear hsec HE
        go_wp2_with fail
        go_ret2
        refine ⟨.slice none 0 0, ?_, HFR.out.trans (PFr.of hbw), fun h => ?_⟩
        · rw [← HX.out]; rfl
        · rw [← HX.out] at h; cases h
      | false =>
        cases dark with
        | true =>
          have HX := Lib.hid (show (([], 10), (⟨wk + 1, lt⟩ : Ev.LK)) = R by rw [← HE.out, hsec, if_pos (by simp)])
          clear hsec HE
          go_wp2_with fail
          go_ret2
          refine ⟨.slice none 0 0, ?_, HFR.out.trans (PFr.of hbw), fun h => ?_⟩
          · rw [← HX.out]; rfl
          · rw [← HX.out] at h; cases h
        | false =>
          rw [hsec, if_neg (by simp)] at HE
          have HSEC := Lib.hid hsec
          clear hsec
          go_upto_region 20 with fail
          have HK2 := Lib.hid ((HKR.out.on hbw).lets (lt + 1))
          have HN2 := Lib.hid (PFr.keep_nm (HNR.out.on hbw) 2 (.int .i64 (lt + 1)))
          have HS2 := Lib.hid ((HSR.out.on hbw).fr (PFr.put1 w15 kb 2 (.int .i64 (lt + 1))) hbk)
          have HF2 := Lib.hid ((HFR.out.trans (PFr.of hbw)).trans (PFr.put1 w15 kb 2 (.int .i64 (lt + 1))))
          clear hbw hb15 kc15 kd15 kf15 kg15 B15 q2 q3 k2 f2 f2r c0 HSR HKR HNR HFR HR1 HR2 HR3 zb zbr zkr e0
          generalize w15.setCell ⟨kb, 2, none⟩ (.int .i64 (lt + 1)) = w2 at *
          have k2 : w2.cell? ⟨kb, 2, none⟩ = some (.int .i64 (lt + 1)) := (HK2.out.at_.cell 2).trans rfl
          have zk2 := HK2.out.at_.lt
          by_cases h24 : 24 < lt + 1
          case pos =>
            have g24 : decide (24 < lt + 1) = true := decide_eq_true h24
            rw [if_pos h24] at HE
            clear h24
            go_wp2_with fail
            go_ret2
            refine ⟨.slice none 0 0, ?_, HF2.out, fun h => ?_⟩
            · rw [← HE.out]; rfl
            · rw [← HE.out] at h; cases h
          case neg =>
          rw [if_neg h24] at HE
          have q2 := HS2.out.c2
          have q3 := HS2.out.c3
          have zb2 := HS2.out.lt
          rw [HSEC.out] at q3
          have CC := Lib.hid (fun u (hu : Below w2.heap.size w2 u) => clonePar_own l (.slice la l.length lc) u (HN2.out.r.on hu) (by omega))
          obtain ⟨i3, hi1, hz0, hz1, hz2⟩ := info_parts Tryd.varInfo
          have IV := Lib.hid (⟨hi1, hz0, hz1, hz2⟩ : _ ∧ _ ∧ _ ∧ _)
          clear hi1 hz0 hz1 hz2
          go_upto_region 22 with fail
          refine wp_region_flock_tail 12 (fun k => match k with | 1 => some (Hv.own w2.heap.size 35 3 l.length (l.flatMap cellsP)) | 11 => some (Hv.lit #[.string ⟨t.name.toArray⟩, .bool false, .int .i64 0] 35 1) | _ => none) (by kernel_rfl) (by kernel_rfl) (by kernel_rfl) (by kernel_rfl) ?_
          simp only [List.take_succ_cons, List.take_zero, List.drop_succ_cons, List.drop_zero]
          apply flock_light rfl
          case h => first | exact light_no (by rfl) | ((first | apply light_plain rfl | apply light_yes (by rfl)); intro w9 hw9; obtain ⟨hb9, hh9⟩ := hw9; skip; go_simp; try rfl)
          (try simp only [Act.put, List.setIfInBounds_toArray, List.set_cons_zero, List.set_cons_succ])
          refine flock_heavy _ rfl ?_ ?_
          · intro w9 hb9 hh9
            have hB9 : Below w2.heap.size w2 w9 := (by (repeat' first | with_reducible (first | exact Below.refl _ _ | assumption | refine Below.alloc ?_ ?_ _ | refine below_drewN ?_ _ | refine Below.drew ?_ | refine Below.setCell ?_ ?_ _ | refine Below.trans ?_ (Below.mono (by with_reducible assumption) ?_)) | go_size))
            obtain ⟨kc9, kf9, s9⟩ := bfacts hb9
            obtain ⟨kd9, kg9, _⟩ := bfacts hB9
            skip
            go_wp2_with (go_at_call 56; refine (CC.out _ hB9).mono ?_; rintro e w6 ⟨v6, rfl, hO6, hb6⟩)
            refine grewTo_at (by rfl) (by (repeat' first | with_reducible (first | exact Below.refl _ _ | assumption | refine Below.alloc ?_ ?_ _ | refine below_drewN ?_ _ | refine Below.drew ?_ | refine Below.setCell ?_ ?_ _ | refine Below.trans ?_ (Below.mono (by with_reducible assumption) ?_)) | go_size)) ?_
            exact own_lessT hO6 (by go_size)
          intro x1 ok1
          (try simp only [Act.put, List.setIfInBounds_toArray, List.set_cons_zero, List.set_cons_succ])
          (try dsimp only [Hv.own, Hv.is, Hv.lit, Hv.box, Hv.sl] at ok1)
          first | subst ok1 | (obtain ⟨A1, c1, ok1⟩ := ok1; subst ok1) | (obtain ⟨A1, ok1⟩ := ok1; subst ok1) | skip
          apply flock_light rfl
          case h => first | exact light_no (by rfl) | ((first | apply light_plain rfl | apply light_yes (by rfl)); intro w9 hw9; obtain ⟨hb9, hh9⟩ := hw9; skip; go_simp; try rfl)
          (try simp only [Act.put, List.setIfInBounds_toArray, List.set_cons_zero, List.set_cons_succ])
          apply flock_light rfl
          case h => first | exact light_no (by rfl) | ((first | apply light_plain rfl | apply light_yes (by rfl)); intro w9 hw9; obtain ⟨hb9, hh9⟩ := hw9; have hB9 : Below w2.heap.size w2 w9 := (by (repeat' first | with_reducible (first | exact Below.refl _ _ | assumption | refine Below.alloc ?_ ?_ _ | refine below_drewN ?_ _ | refine Below.drew ?_ | refine Below.setCell ?_ ?_ _ | refine Below.trans ?_ (Below.mono (by with_reducible assumption) ?_)) | go_size)); obtain ⟨kc9, kf9, s9⟩ := bfacts hb9; obtain ⟨kd9, kg9, _⟩ := bfacts hB9; skip; go_simp; try rfl)
          (try simp only [Act.put, List.setIfInBounds_toArray, List.set_cons_zero, List.set_cons_succ])
          apply flock_light rfl
          case h => first | exact light_no (by rfl) | ((first | apply light_plain rfl | apply light_yes (by rfl)); intro w9 hw9; obtain ⟨hb9, hh9⟩ := hw9; skip; go_simp; try rfl)
          (try simp only [Act.put, List.setIfInBounds_toArray, List.set_cons_zero, List.set_cons_succ])
          apply flock_light rfl
          case h => first | exact light_no (by rfl) | ((first | apply light_plain rfl | apply light_yes (by rfl)); intro w9 hw9; obtain ⟨hb9, hh9⟩ := hw9; have hB9 : Below w2.heap.size w2 w9 := (by (repeat' first | with_reducible (first | exact Below.refl _ _ | assumption | refine Below.alloc ?_ ?_ _ | refine below_drewN ?_ _ | refine Below.drew ?_ | refine Below.setCell ?_ ?_ _ | refine Below.trans ?_ (Below.mono (by with_reducible assumption) ?_)) | go_size)); obtain ⟨kc9, kf9, s9⟩ := bfacts hb9; obtain ⟨kd9, kg9, _⟩ := bfacts hB9; skip; go_simp; try rfl)
          (try simp only [Act.put, List.setIfInBounds_toArray, List.set_cons_zero, List.set_cons_succ])
          apply flock_light rfl
          case h => first | exact light_no (by rfl) | ((first | apply light_plain rfl | apply light_yes (by rfl)); intro w9 hw9; obtain ⟨hb9, hh9⟩ := hw9; skip; go_simp; try rfl)
          (try simp only [Act.put, List.setIfInBounds_toArray, List.set_cons_zero, List.set_cons_succ])
          apply flock_light rfl
          case h => first | exact light_no (by rfl) | ((first | apply light_plain rfl | apply light_yes (by rfl)); intro w9 hw9; obtain ⟨hb9, hh9⟩ := hw9; have hB9 : Below w2.heap.size w2 w9 := (by (repeat' first | with_reducible (first | exact Below.refl _ _ | assumption | refine Below.alloc ?_ ?_ _ | refine below_drewN ?_ _ | refine Below.drew ?_ | refine Below.setCell ?_ ?_ _ | refine Below.trans ?_ (Below.mono (by with_reducible assumption) ?_)) | go_size)); obtain ⟨kc9, kf9, s9⟩ := bfacts hb9; obtain ⟨kd9, kg9, _⟩ := bfacts hB9; skip; go_simp; try rfl)
          (try simp only [Act.put, List.setIfInBounds_toArray, List.set_cons_zero, List.set_cons_succ])
          apply flock_light rfl
          case h => first | exact light_no (by rfl) | ((first | apply light_plain rfl | apply light_yes (by rfl)); intro w9 hw9; obtain ⟨hb9, hh9⟩ := hw9; skip; go_simp; try rfl)
          (try simp only [Act.put, List.setIfInBounds_toArray, List.set_cons_zero, List.set_cons_succ])
          apply flock_light rfl
          case h => first | exact light_no (by rfl) | ((first | apply light_plain rfl | apply light_yes (by rfl)); intro w9 hw9; obtain ⟨hb9, hh9⟩ := hw9; have hB9 : Below w2.heap.size w2 w9 := (by (repeat' first | with_reducible (first | exact Below.refl _ _ | assumption | refine Below.alloc ?_ ?_ _ | refine below_drewN ?_ _ | refine Below.drew ?_ | refine Below.setCell ?_ ?_ _ | refine Below.trans ?_ (Below.mono (by with_reducible assumption) ?_)) | go_size)); obtain ⟨kc9, kf9, s9⟩ := bfacts hb9; obtain ⟨kd9, kg9, _⟩ := bfacts hB9; skip; go_simp; try rfl)
          (try simp only [Act.put, List.setIfInBounds_toArray, List.set_cons_zero, List.set_cons_succ])
          apply flock_light rfl
          case h => first | exact light_no (by rfl) | ((first | apply light_plain rfl | apply light_yes (by rfl)); intro w9 hw9; obtain ⟨hb9, hh9⟩ := hw9; skip; go_simp; try rfl)
          (try simp only [Act.put, List.setIfInBounds_toArray, List.set_cons_zero, List.set_cons_succ])
          refine flock_heavy _ rfl ?_ ?_
          · intro w9 hb9 hh9
            have hB9 : Below w2.heap.size w2 w9 := (by (repeat' first | with_reducible (first | exact Below.refl _ _ | assumption | refine Below.alloc ?_ ?_ _ | refine below_drewN ?_ _ | refine Below.drew ?_ | refine Below.setCell ?_ ?_ _ | refine Below.trans ?_ (Below.mono (by with_reducible assumption) ?_)) | go_size))
            obtain ⟨kc9, kf9, s9⟩ := bfacts hb9
            obtain ⟨kd9, kg9, _⟩ := bfacts hB9
            skip
            go_wp2_with fail
            refine grewTo_at (by rfl) (by (repeat' first | with_reducible (first | exact Below.refl _ _ | assumption | refine Below.alloc ?_ ?_ _ | refine below_drewN ?_ _ | refine Below.drew ?_ | refine Below.setCell ?_ ?_ _ | refine Below.trans ?_ (Below.mono (by with_reducible assumption) ?_)) | go_size)) ?_
            exact ⟨_, rfl, heap_alloc_new _ _⟩
          intro x11 ok11
          (try simp only [Act.put, List.setIfInBounds_toArray, List.set_cons_zero, List.set_cons_succ])
          (try dsimp only [Hv.own, Hv.is, Hv.lit, Hv.box, Hv.sl] at ok11)
          first | subst ok11 | (obtain ⟨A11, c11, ok11⟩ := ok11; subst ok11) | (obtain ⟨A11, ok11⟩ := ok11; subst ok11) | skip
          refine flock_nil ?_
          intro w9 hb9 hh9
          have hB9 : Below w2.heap.size w2 w9 := (by (repeat' first | with_reducible (first | exact Below.refl _ _ | assumption | refine Below.alloc ?_ ?_ _ | refine below_drewN ?_ _ | refine Below.drew ?_ | refine Below.setCell ?_ ?_ _ | refine Below.trans ?_ (Below.mono (by with_reducible assumption) ?_)) | go_size))
          have r11 := hh9 _ (.head _); dsimp only [Hv.own, Hv.is, Hv.lit, Hv.box, Hv.sl] at r11; (first | replace r11 := lit_heap r11 | replace r11 := box_heap r11 | skip); have r1 := hh9 _ (.tail _ (.head _)); dsimp only [Hv.own, Hv.is, Hv.lit, Hv.box, Hv.sl] at r1; (first | replace r1 := lit_heap r1 | replace r1 := box_heap r1 | skip); clear hh9
          (try dsimp only)
          have R1 := Lib.hid r1
          have R11 := Lib.hid r11
          have HB9 := Lib.hid hB9
          have hs9 := hB9.size
          clear r1 r11 hb9 hB9
          go_wp2_with (at_builtin; refine wpList_append_own_at _ rfl (.tmp 114) (.tmp 124) _ rfl w2.heap.size 35 i3 (.agg #[.string ⟨#[]⟩, .bool false, .int .i64 0]) 3 32 Tryd.underlying22 IV.out.1 IV.out.2.1 IV.out.2.2.1 IV.out.2.2.2 rfl (by decide) _ _ _ rfl R1.out ⟨A11, 0, none⟩ 1 1 (cellsP ⟨t.name, false, 0⟩) rfl rfl (cells_of_block R11.out) (one_three_mk _) (by unfold maxLen; omega) (by omega) (by omega) ?_; intro v7 w7 hown7 hg7 hn7 hat7; obtain ⟨A8, c8, rfl, _, _⟩ := SL.form (SL.of_own hown7))
          have hb7 : Below w2.heap.size w2 w7 := HB9.out.grown hg7 hs9 (fun k hk => (R1.out.lt k hk).1)
          have HNI := Lib.hid (NmAt.more (kb := kb) hown7 zk2)
          have HK7 := Lib.hid (HK2.out.on hb7)
          have HF7 := Lib.hid (HF2.out.trans (PFr.of hb7))
          clear hown7 hg7 hn7 hat7 hb7
          go_ret2
          refine ⟨.slice A8 (l.length + 1) c8, ?_, HF7.out, fun h => ?_⟩
          · rw [← HE.out]; rfl
          · rw [← HE.out]; exact ⟨HNI.out, HK7.out⟩
  case inr.inl =>
    rw [hkd] at c0
    rw [hkd, if_neg (by decide), if_neg (by decide)] at HE
    unfold Ev.oneC at HE
    rw [if_neg (by decide), if_pos rfl] at HE
    obtain ⟨s0, rfl⟩ : ∃ s0, S = [s0] := one_of (by have h := HIN.out; rw [ha] at h; exact h)
    replace hlt : ¬ 1 < t.args.length := hlt
    obtain ⟨sb, so, rfl, hsb, e0⟩ := row_bit0 HO.out
    change Hid ((match Ev.findP l t.name with | none => (([], 6), (⟨wk + 1, lt⟩ : Ev.LK)) | some v => if v.size < 0 then (([], 6), ⟨wk + 1, lt⟩) else if v.secret = false ∧ (s0 = true ∨ dark = true) then (([], 10), ⟨wk + 1, lt⟩) else ((l, 0), ⟨wk + 1, lt⟩)) = R) at HE
    have c2 := HSR.out.c2
    have zb := HSR.out.lt
    have CF := Lib.hid (find_any l (.slice la l.length lc) t.name wr HNR.out.r FL.out)
    clear hkd ha
    rcases Ev.find_cases l t.name with ⟨hn, hf⟩ | ⟨m, p, hn, hp, hf⟩
    case inl =>
      rw [hf] at HE
      have g0 : decide (Ev.nameI l t.name < 0) = true := decide_eq_true hn
      clear hf
      go_wp2_with (go_at_call 57; refine CF.out.mono ?_; rintro r w5 ⟨rfl, hb5⟩)
      go_ret2
      refine ⟨.slice none 0 0, ?_, HFR.out.trans (PFr.of hb5), fun h => ?_⟩
      · rw [← HE.out]; rfl
      · rw [← HE.out] at h; cases h
    case inr =>
      rw [hf] at HE
      rw [hn] at CF
      dsimp only at HE
      have hml := (List.getElem?_eq_some_iff.1 hp).1
      have HPA := Lib.hid ((RPars.at_ HNR.out.r).2)
      obtain ⟨ba, oa, rfl, hal, hpa⟩ : ∃ ba oa, la = some ⟨ba, oa, none⟩ ∧ ba < wr.heap.size ∧ ParsAt wr ba oa l := by
        rcases HPA.out with h | h
        · rw [h] at hml; simp at hml
        · exact h
      obtain ⟨_, p1, p2⟩ := hpa m p hp
      clear hn hf hp hpa HPA
      go_upto_region 25 with (go_at_call 57; refine CF.out.mono ?_; rintro r w5 ⟨rfl, hb5⟩)
      have p1' := (hb5.cell (p := ⟨ba, oa + m * 3 + 1, none⟩) hal).trans p1
      have p2' := (hb5.cell (p := ⟨ba, oa + m * 3 + 2, none⟩) hal).trans p2
      have e0' := (hb5.cell (p := ⟨sb, so, none⟩) hsb).trans e0
      clear p1 p2 e0 CF
      by_cases h0 : p.size < 0
      case pos =>
        have g0 : decide (p.size < 0) = true := decide_eq_true h0
        rw [if_pos h0] at HE
        clear h0
        go_wp2_with fail
        go_ret2
        refine ⟨.slice none 0 0, ?_, HFR.out.trans (PFr.of hb5), fun h => ?_⟩
        · rw [← HE.out]; rfl
        · rw [← HE.out] at h; cases h
      case neg =>
      have g0 : decide (p.size < 0) = false := decide_eq_false h0
      rw [if_neg h0] at HE
      clear h0
      go_upto_region 27 with fail
      go_cut [145] (fun y wy => y = .bool (!p.secret && (s0 || dark)) ∧ w5 = wy)
      case first =>
        cases hsec : p.secret with
        | true =>
          rw [hsec] at p1'
          go_wp2_with fail
          go_meet
          exact ⟨by rw [hsec]; rfl, rfl⟩
        | false =>
          rw [hsec] at p1'
          cases s0 with
          | true =>
            go_wp2_with fail
            go_meet
            exact ⟨by rw [hsec]; rfl, rfl⟩
          | false =>
            go_wp2_with fail
            go_meet
            exact ⟨by rw [hsec]; simp, rfl⟩
      case rest =>
      obtain ⟨rfl, rfl⟩ := hcut
      have HB := Lib.hid (bad_bit p.secret s0 dark)
      generalize (!p.secret && (s0 || dark)) = G at *
      cases G with
      | true =>
        rw [if_pos (HB.out.1 rfl)] at HE
        go_wp2_with fail
        go_ret2
        refine ⟨.slice none 0 0, ?_, HFR.out.trans (PFr.of hb5), fun h => ?_⟩
        · rw [← HE.out]; rfl
        · rw [← HE.out] at h; cases h
      | false =>
        rw [if_neg (fun h => by have := HB.out.2 h; cases this)] at HE
        go_wp2_with fail
        go_ret2
        refine ⟨.slice (some ⟨ba, oa, none⟩) l.length lc, ?_, HFR.out.trans (PFr.of hb5), fun h => ?_⟩
        · rw [← HE.out]; rfl
        · rw [← HE.out]; exact ⟨HNR.out.on hb5, HKR.out.on hb5⟩
  case inr.inr.inl =>
    rw [hkd] at c0
    rw [hkd, if_neg (by decide), if_neg (by decide)] at HE
    unfold Ev.oneC at HE
    rw [if_neg (by decide), if_neg (by decide), if_pos rfl] at HE
    obtain ⟨s0, s1, rfl⟩ : ∃ s0 s1, S = [s0, s1] := two_of (by have h := HIN.out; rw [ha] at h; exact h)
    replace hlt : ¬ 2 < t.args.length := hlt
    obtain ⟨sb, so, rfl, hsb, e0, e1⟩ := row_bit1 HO.out
    have hx : t.args[0]? = some a := by rw [ha]; rfl
    obtain ⟨d', b', off, c', vx, hd, hva, hxa, hxr⟩ := HR1.out.el hx
    obtain ⟨h1, h3⟩ := slice_two hva
    clear hva
    subst h1 h3
    have hln : (0 : Int) < (t.args.length : Int) := by simp [ha]
    rw [ha] at HE
    have c2 := HSR.out.c2
    have c4 := HSR.out.c4
    have zb := HSR.out.lt
    have CP := Lib.hid (fun u (hu : Below wr.heap.size wr u) => lkAt_any A FA.out va ⟨wk + 1, lt⟩ kb t.name b' (off + 0 * 4) a vx s0 dark u (HKR.out.at_.on hu) (hxa.on hu))
    rw [show off + 0 * 4 = off by omega] at CP
    change Hid ((if (Ev.plC A t.name a s0 dark).2 ≠ 0 then (([], (Ev.plC A t.name a s0 dark).2), (⟨wk + 1, lt⟩ : Ev.LK)) else if (Ev.plC A t.name a s0 dark).1 = false ∧ (s1 = true ∨ dark = true) then (([], 10), ⟨wk + 1, lt⟩) else ((l, 0), ⟨wk + 1, lt⟩)) = R) at HE
    generalize Ev.plC A t.name a s0 dark = Z at *
    clear hkd ha hx hxa hxr hd
    go_upto_region 30 with fail
    refine wp_region_chain (fun w' => Below (wr).heap.size (wr) w') (by kernel_rfl) (by kernel_rfl) (by (repeat' first | with_reducible (first | exact Below.refl _ _ | assumption | refine Below.alloc ?_ ?_ _ | refine below_drewN ?_ _ | refine Below.drew ?_ | refine Below.setCell ?_ ?_ _ | refine Below.trans ?_ (Below.mono (by with_reducible assumption) ?_)) | go_size)) ?_
    repeat (
      apply chain_cons
      case h =>
        refine fun w9 hb9 => ?_
        have hB9 : Below wr.heap.size wr w9 := by (repeat' first | with_reducible (first | exact Below.refl _ _ | assumption | refine Below.alloc ?_ ?_ _ | refine below_drewN ?_ _ | refine Below.drew ?_ | refine Below.setCell ?_ ?_ _ | refine Below.trans ?_ (Below.mono (by with_reducible assumption) ?_)) | go_size)
        obtain ⟨kc9, kf9, s9⟩ := bfacts hb9
        obtain ⟨kd9, kg9, _⟩ := bfacts hB9
        go_wp2_with (fail)
        (try (go_at_call 107; refine (CP.out _ hb9).mono ?_; rintro _ _ ⟨rfl, hb8⟩; go_wp2_with fail))
        refine settled_intro (S := fun w' => Below (wr).heap.size (wr) w') ?_
        (repeat' first | with_reducible (first | exact Below.refl _ _ | assumption | refine Below.alloc ?_ ?_ _ | refine below_drewN ?_ _ | refine Below.drew ?_ | refine Below.setCell ?_ ?_ _ | refine Below.trans ?_ (Below.mono (by with_reducible assumption) ?_)) | go_size)
      case hp => first | rfl | (simp only [*]; done) | (simp only [*]; rfl))
    refine chain.nil ?_
    refine fun w30 hb30 => ?_
    have B30 : Below wr.heap.size wr w30 := by (repeat' first | with_reducible (first | exact Below.refl _ _ | assumption | refine Below.alloc ?_ ?_ _ | refine below_drewN ?_ _ | refine Below.drew ?_ | refine Below.setCell ?_ ?_ _ | refine Below.trans ?_ (Below.mono (by with_reducible assumption) ?_)) | go_size)
    obtain ⟨kc30, kf30, s30⟩ := bfacts hb30
    obtain ⟨kd30, kg30, _⟩ := bfacts B30
    (try simp only [World.size_alloc, World.size_setCell, World.size_drew, World.heap_drewN, Nat.add_one_le_iff] at s30)
    clear hb30
    have hb30 := B30
    clear B30
    have B30 : Hid (Below wr.heap.size wr w30) := hb30
    (try have z30 : wr.heap.size < w30.heap.size := by omega)
    (try dsimp only)
    have hbw : Below wr.heap.size wr w30 := hb30
    clear CP e0 c2 c4
    by_cases h0 : Z.2 = 0
    case neg =>
      have g0 : (Z.2 != 0) = true := bne_iff_ne.2 h0
      rw [if_pos h0] at HE
      go_wp2_with fail
      go_ret2
      refine ⟨.slice none 0 0, ?_, HFR.out.trans (PFr.of hbw), fun h => ?_⟩
      · rw [← HE.out]; rfl
      · rw [← HE.out] at h; exact absurd h h0
    case pos =>
    have g0 : (Z.2 != 0) = false := by rw [h0]; rfl
    rw [if_neg (not_not_intro h0)] at HE
    clear h0
    have bad : (Z.1 = false ∧ (s1 = true ∨ dark = true)) → (([], 10), (⟨wk + 1, lt⟩ : Ev.LK)) = R := fun h => by rw [← HE.out, if_pos h]
    have good : ¬ (Z.1 = false ∧ (s1 = true ∨ dark = true)) → ((l, 0), (⟨wk + 1, lt⟩ : Ev.LK)) = R := fun h => by rw [← HE.out, if_neg h]
    have HBAD := Lib.hid bad
    have HGOOD := Lib.hid good
    obtain ⟨z, hz⟩ : ∃ z, Z.1 = z := ⟨_, rfl⟩
    rw [hz] at HBAD HGOOD ⊢
    clear bad good HE hz
    go_upto_region 33 with fail
    cases z with
    | true =>
      have HX := Lib.hid (HGOOD.out (by simp))
      clear HBAD HGOOD
      go_wp2_with fail
      go_ret2
      refine ⟨.slice la l.length lc, ?_, HFR.out.trans (PFr.of hbw), fun h => ?_⟩
      · rw [← HX.out]; rfl
      · rw [← HX.out]; exact ⟨HNR.out.on hbw, HKR.out.on hbw⟩
    | false =>
      cases s1 with
      | true =>
        have HX := Lib.hid (HBAD.out (by simp))
        clear HBAD HGOOD
        go_wp2_with fail
        go_ret2
        refine ⟨.slice none 0 0, ?_, HFR.out.trans (PFr.of hbw), fun h => ?_⟩
        · rw [← HX.out]; rfl
        · rw [← HX.out] at h; cases h
      | false =>
        cases dark with
        | true =>
          have HX := Lib.hid (HBAD.out (by simp))
          clear HBAD HGOOD
          go_wp2_with fail
          go_ret2
          refine ⟨.slice none 0 0, ?_, HFR.out.trans (PFr.of hbw), fun h => ?_⟩
          · rw [← HX.out]; rfl
          · rw [← HX.out] at h; cases h
        | false =>
          have HX := Lib.hid (HGOOD.out (by simp))
          clear HBAD HGOOD
          go_wp2_with fail
          go_ret2
          refine ⟨.slice la l.length lc, ?_, HFR.out.trans (PFr.of hbw), fun h => ?_⟩
          · rw [← HX.out]; rfl
          · rw [← HX.out]; exact ⟨HNR.out.on hbw, HKR.out.on hbw⟩
  case inr.inr.inr.inl =>
    rw [hkd] at c0
    rw [if_pos hkd] at HE
    obtain ⟨s0, rfl⟩ : ∃ s0, S = [s0] := one_of (by have h := HIN.out; rw [ha] at h; exact h)
    replace hlt : ¬ 1 < t.args.length := hlt
    obtain ⟨sb, so, rfl, hsb, e0⟩ := row_bit0 HO.out
    have c5 := HSR.out.c5
    have c6 := HSR.out.c6
    have zb := HSR.out.lt
    dsimp only at c5 c6
    obtain ⟨ta, tc, rfl⟩ := HR2.out.slice
    obtain ⟨ea, ec, rfl⟩ := HR3.out.slice
    obtain ⟨D, hD⟩ : ∃ D, (dark || s0) = D := ⟨_, rfl⟩
    change Hid ((if (Ev.blC A l (dark || s0) ⟨wk + 1, lt⟩ t.thn).1 ≠ 0 then (([], (Ev.blC A l (dark || s0) ⟨wk + 1, lt⟩ t.thn).1), (Ev.blC A l (dark || s0) ⟨wk + 1, lt⟩ t.thn).2)
      else if (Ev.blC A l (dark || s0) (Ev.blC A l (dark || s0) ⟨wk + 1, lt⟩ t.thn).2 t.els).1 ≠ 0 then (([], (Ev.blC A l (dark || s0) (Ev.blC A l (dark || s0) ⟨wk + 1, lt⟩ t.thn).2 t.els).1), (Ev.blC A l (dark || s0) (Ev.blC A l (dark || s0) ⟨wk + 1, lt⟩ t.thn).2 t.els).2)
      else ((l, 0), (Ev.blC A l (dark || s0) (Ev.blC A l (dark || s0) ⟨wk + 1, lt⟩ t.thn).2 t.els).2)) = R) at HE
    rw [hD] at HE
    have HDD := Lib.hid hD
    have UP1 := Lib.hid (Ev.blC_up A D t.thn l ⟨wk + 1, lt⟩)
    have CB1 := Lib.hid (fun u h1 h2 h3 => ih t.thn A l va (.slice la l.length lc) (.slice ta t.thn.length tc) ⟨wk + 1, lt⟩ kb D u K HKK.out h1 h2 h3 HW.out.thn FA.out ⟨by show (l.length : Int) ≤ wk + 1 + 4; omega, by show 0 ≤ wk + 1; omega, by show wk + 1 ≤ 300; omega, hc4, hc5⟩)
    have CB2 := Lib.hid (fun (h0 : (Ev.blC A l D ⟨wk + 1, lt⟩ t.thn).1 = 0) u h1 h2 h3 => ih t.els A l va (.slice la l.length lc) (.slice ea t.els.length ec) (Ev.blC A l D ⟨wk + 1, lt⟩ t.thn).2 kb D u K HKK.out h1 h2 h3 HW.out.els FA.out ⟨by have := (UP1.out h0).work; simp only at this; omega, by have := (UP1.out h0).work; simp only at this; omega, (UP1.out h0).most (by show wk + 1 ≤ 300; omega), by have := (UP1.out h0).lets; simp only at this; omega, (UP1.out h0).few hc5⟩)
    generalize Ev.blC A l D ⟨wk + 1, lt⟩ t.thn = B1 at *
    obtain ⟨B2, hB2⟩ : ∃ B2, Ev.blC A l D B1.2 t.els = B2 := ⟨_, rfl⟩
    rw [hB2] at HE CB2
    clear hD hB2 UP1 hkd ha
    go_upto_region 36 with fail
    refine wp_region_first 10 (.int .i64 0) (some 205) (by kernel_rfl) (by kernel_rfl) (by kernel_rfl) (by kernel_rfl) (by kernel_rfl) (fun _ _ _ h => h) ⟨_, rfl, rfl, Or.inl ⟨rfl, fun w9 => by go_simp⟩⟩ ?_
    simp only [List.dropLast_cons_cons, List.dropLast_singleton]
    dsimp only [Act.put]
    (try simp only [Act.put, List.setIfInBounds_toArray, List.set_cons_zero, List.set_cons_succ])
    refine wpAny_flock_tail 8 (fun k => match k with  | _ => none) (by kernel_rfl) (by kernel_rfl) (by kernel_rfl) ?_
    simp only [List.take_succ_cons, List.take_zero, List.drop_succ_cons, List.drop_zero]
    apply flock_light rfl
    case h => first | exact light_no (by rfl) | ((first | apply light_plain rfl | apply light_yes (by rfl)); intro w9 hw9; obtain ⟨hb9, hh9⟩ := hw9; skip; go_simp; try rfl)
    (try simp only [Act.put, List.setIfInBounds_toArray, List.set_cons_zero, List.set_cons_succ])
    apply flock_light rfl
    case h => first | exact light_no (by rfl) | ((first | apply light_plain rfl | apply light_yes (by rfl)); intro w9 hw9; obtain ⟨hb9, hh9⟩ := hw9; have hB9 : Below wr.heap.size wr w9 := (by (repeat' first | with_reducible (first | exact Below.refl _ _ | assumption | refine Below.alloc ?_ ?_ _ | refine below_drewN ?_ _ | refine Below.drew ?_ | refine Below.setCell ?_ ?_ _ | refine Below.trans ?_ (Below.mono (by with_reducible assumption) ?_)) | go_size)); obtain ⟨kc9, kf9, s9⟩ := bfacts hb9; obtain ⟨kd9, kg9, _⟩ := bfacts hB9; skip; go_simp; try rfl)
    (try simp only [Act.put, List.setIfInBounds_toArray, List.set_cons_zero, List.set_cons_succ])
    apply flock_light rfl
    case h => first | exact light_no (by rfl) | ((first | apply light_plain rfl | apply light_yes (by rfl)); intro w9 hw9; obtain ⟨hb9, hh9⟩ := hw9; skip; go_simp; try rfl)
    (try simp only [Act.put, List.setIfInBounds_toArray, List.set_cons_zero, List.set_cons_succ])
    apply flock_light rfl
    case h => first | exact light_no (by rfl) | ((first | apply light_plain rfl | apply light_yes (by rfl)); intro w9 hw9; obtain ⟨hb9, hh9⟩ := hw9; have hB9 : Below wr.heap.size wr w9 := (by (repeat' first | with_reducible (first | exact Below.refl _ _ | assumption | refine Below.alloc ?_ ?_ _ | refine below_drewN ?_ _ | refine Below.drew ?_ | refine Below.setCell ?_ ?_ _ | refine Below.trans ?_ (Below.mono (by with_reducible assumption) ?_)) | go_size)); obtain ⟨kc9, kf9, s9⟩ := bfacts hb9; obtain ⟨kd9, kg9, _⟩ := bfacts hB9; skip; go_simp; try rfl)
    (try simp only [Act.put, List.setIfInBounds_toArray, List.set_cons_zero, List.set_cons_succ])
    apply flock_light rfl
    case h => first | exact light_no (by rfl) | ((first | apply light_plain rfl | apply light_yes (by rfl)); intro w9 hw9; obtain ⟨hb9, hh9⟩ := hw9; skip; go_simp; try rfl)
    (try simp only [Act.put, List.setIfInBounds_toArray, List.set_cons_zero, List.set_cons_succ])
    apply flock_light rfl
    case h => first | exact light_no (by rfl) | ((first | apply light_plain rfl | apply light_yes (by rfl)); intro w9 hw9; obtain ⟨hb9, hh9⟩ := hw9; have hB9 : Below wr.heap.size wr w9 := (by (repeat' first | with_reducible (first | exact Below.refl _ _ | assumption | refine Below.alloc ?_ ?_ _ | refine below_drewN ?_ _ | refine Below.drew ?_ | refine Below.setCell ?_ ?_ _ | refine Below.trans ?_ (Below.mono (by with_reducible assumption) ?_)) | go_size)); obtain ⟨kc9, kf9, s9⟩ := bfacts hb9; obtain ⟨kd9, kg9, _⟩ := bfacts hB9; skip; go_simp; try rfl)
    (try simp only [Act.put, List.setIfInBounds_toArray, List.set_cons_zero, List.set_cons_succ])
    apply flock_light rfl
    case h => first | exact light_no (by rfl) | ((first | apply light_plain rfl | apply light_yes (by rfl)); intro w9 hw9; obtain ⟨hb9, hh9⟩ := hw9; skip; go_simp; try rfl)
    (try simp only [Act.put, List.setIfInBounds_toArray, List.set_cons_zero, List.set_cons_succ])
    apply flock_light rfl
    case h => first | exact light_no (by rfl) | ((first | apply light_plain rfl | apply light_yes (by rfl)); intro w9 hw9; obtain ⟨hb9, hh9⟩ := hw9; have hB9 : Below wr.heap.size wr w9 := (by (repeat' first | with_reducible (first | exact Below.refl _ _ | assumption | refine Below.alloc ?_ ?_ _ | refine below_drewN ?_ _ | refine Below.drew ?_ | refine Below.setCell ?_ ?_ _ | refine Below.trans ?_ (Below.mono (by with_reducible assumption) ?_)) | go_size)); obtain ⟨kc9, kf9, s9⟩ := bfacts hb9; obtain ⟨kd9, kg9, _⟩ := bfacts hB9; skip; go_simp; try rfl)
    (try simp only [Act.put, List.setIfInBounds_toArray, List.set_cons_zero, List.set_cons_succ])
    refine flock_nil ?_
    intro w9 hb9 hh9
    have hB9 : Below wr.heap.size wr w9 := (by (repeat' first | with_reducible (first | exact Below.refl _ _ | assumption | refine Below.alloc ?_ ?_ _ | refine below_drewN ?_ _ | refine Below.drew ?_ | refine Below.setCell ?_ ?_ _ | refine Below.trans ?_ (Below.mono (by with_reducible assumption) ?_)) | go_size))
    clear hh9
    (try dsimp only)
    have hs9 := hB9.size
    have HB9 := Lib.hid hB9
    go_upto_region 37 with fail
    have hsl : w1.heap.size ≤ sb := (HO.out.lt sb rfl).1
    simp only [List.length_cons, List.length_nil, Nat.zero_add, Int.natCast_one]
    have HBA : Hid (Below wr.heap.size wr (w9.alloc (.cells #[.slice ta t.thn.length tc, .slice ea t.els.length ec] 23))) := Lib.hid (HB9.out.alloc hs9 _)
    have RA : Hid ((w9.alloc (.cells #[.slice ta t.thn.length tc, .slice ea t.els.length ec] 23)).heap[w9.heap.size]? = some (.cells #[.slice ta t.thn.length tc, .slice ea t.els.length ec] 23 (0, 0))) := Lib.hid (heap_alloc_new _ _)
    have hg9 : kb ≠ w9.heap.size := by omega
    have hsk : sb ≠ kb := by omega
    clear hB9 HB9 hb9
    generalize w9.alloc (.cells #[.slice ta t.thn.length tc, .slice ea t.els.length ec] 23) = wA at *
    generalize w9.heap.size = g at *
    have HE0 := Lib.hid ((HBA.out.cell (p := ⟨sb, so, none⟩) hsb).trans e0)
    have HKA := Lib.hid (HKR.out.on HBA.out)
    have HNA := Lib.hid (HNR.out.on HBA.out)
    have HTA := Lib.hid (RStL.keep HBA.out.size (fun k _ hk => HBA.out.block k hk) _ _ _ HR2.out)
    have HEA := Lib.hid (RStL.keep HBA.out.size (fun k _ hk => HBA.out.block k hk) _ _ _ HR3.out)
    have HFA := Lib.hid (HFR.out.trans (PFr.of HBA.out))
    have LTS := Lib.hid (show sb < wA.heap.size from Nat.lt_of_lt_of_le hsb HBA.out.size)
    have zga := (Array.getElem?_eq_some_iff.1 RA.out).1
    clear e0 c0 c5 c6 HSR HKR HNR HR1 HR2 HR3 HFR HO hlt hsl zkr zb zbr hsb hbr HBA hs9
    go_loopw [205] (fun jj wx => ∃ j : Nat, j ≤ 2 ∧ jj = .int .i64 (j : Int) ∧ Hid (LkOk wx kb A va (if j = 0 then ⟨wk + 1, lt⟩ else if j = 1 then B1.2 else B2.2)) ∧ Hid (1 ≤ j → B1.1 = 0) ∧ Hid (2 ≤ j → B2.1 = 0) ∧ Hid (PFr kb wA wx)) (fun jj _ => 2 - (intOf jj).toNat)
    case atStart => exact ⟨0, by omega, rfl, HKA, Lib.hid (fun h => absurd h (by omega)), Lib.hid (fun h => absurd h (by omega)), Lib.hid (PFr.refl' _ _)⟩
    case round =>
    clear HKA
    obtain ⟨j, hj, rfl, HKx, HJ1, HJ2, HFx⟩ := hrel
    have e0 : wr.cell? ⟨sb, so, none⟩ = some (.bool s0) := (cell_sameL (HFx.out.block sb LTS.out hsk) so).trans HE0.out
    have RX := Lib.hid ((HFx.out.block g zga (fun e => hg9 e.symm)).trans RA.out)
    have HNX := Lib.hid (HNA.out.fr HFx.out)
    have HFW := Lib.hid (HFA.out.trans HFx.out)
    match j, hj with
    | 0, _ =>
      have q0 : wr.cell? ⟨g, 0, none⟩ = some (.slice ta t.thn.length tc) := cell_of_block RX.out 0
      have CB := Lib.hid (CB1.out wr HKx.out HNX.out (HTA.out.fr HFx.out HKK.out))
      clear RX
      cases dark with
      | true =>
        obtain rfl : true = D := HDD.out
        go_upto_region 40 with (go_at_call 58; refine CB.out.mono ?_; rintro r w5 ⟨rfl, hF5, hK5⟩)
        by_cases h0 : B1.1 = 0
        case neg =>
          have g0 : (B1.1 != 0) = true := bne_iff_ne.2 h0
          have HX := Lib.hid (show (([], B1.1), B1.2) = R by rw [← HE.out, if_pos h0])
          go_wp2_with fail
          go_ret2
          refine ⟨.slice none 0 0, ?_, HFW.out.trans hF5, fun h => ?_⟩
          · rw [← HX.out]; rfl
          · rw [← HX.out] at h; exact absurd h h0
        case pos =>
          have g0 : (B1.1 != 0) = false := by rw [h0]; rfl
          have HK5 := Lib.hid (hK5 h0)
          have H0 := Lib.hid h0
          have HF5 := Lib.hid (HFx.out.trans hF5)
          clear h0 hK5 hF5 CB
          go_wp2_with fail
          go_roundw
          case rel => exact ⟨1, by omega, by go_num, Lib.hid HK5.out, Lib.hid (fun _ => H0.out), Lib.hid (fun h => absurd h (by omega)), HF5⟩
          case measure => simp [intOf]
      | false =>
        obtain rfl : s0 = D := HDD.out
        go_upto_region 40 with (go_at_call 58; refine CB.out.mono ?_; rintro r w5 ⟨rfl, hF5, hK5⟩)
        by_cases h0 : B1.1 = 0
        case neg =>
          have g0 : (B1.1 != 0) = true := bne_iff_ne.2 h0
          have HX := Lib.hid (show (([], B1.1), B1.2) = R by rw [← HE.out, if_pos h0])
          go_wp2_with fail
          go_ret2
          refine ⟨.slice none 0 0, ?_, HFW.out.trans hF5, fun h => ?_⟩
          · rw [← HX.out]; rfl
          · rw [← HX.out] at h; exact absurd h h0
        case pos =>
          have g0 : (B1.1 != 0) = false := by rw [h0]; rfl
          have HK5 := Lib.hid (hK5 h0)
          have H0 := Lib.hid h0
          have HF5 := Lib.hid (HFx.out.trans hF5)
          clear h0 hK5 hF5 CB
          go_wp2_with fail
          go_roundw
          case rel => exact ⟨1, by omega, by go_num, Lib.hid HK5.out, Lib.hid (fun _ => H0.out), Lib.hid (fun h => absurd h (by omega)), HF5⟩
          case measure => simp [intOf]
    | 1, _ =>
      have q1 : wr.cell? ⟨g, 1, none⟩ = some (.slice ea t.els.length ec) := cell_of_block RX.out 1
      have CB := Lib.hid (CB2.out (HJ1.out (by omega)) wr HKx.out HNX.out (HEA.out.fr HFx.out HKK.out))
      clear RX
      cases dark with
      | true =>
        obtain rfl : true = D := HDD.out
        go_upto_region 40 with (go_at_call 58; refine CB.out.mono ?_; rintro r w5 ⟨rfl, hF5, hK5⟩)
        by_cases h0 : B2.1 = 0
        case neg =>
          have g0 : (B2.1 != 0) = true := bne_iff_ne.2 h0
          have HX := Lib.hid (show (([], B2.1), B2.2) = R by rw [← HE.out, if_neg (not_not_intro (HJ1.out (by omega))), if_pos h0])
          go_wp2_with fail
          go_ret2
          refine ⟨.slice none 0 0, ?_, HFW.out.trans hF5, fun h => ?_⟩
          · rw [← HX.out]; rfl
          · rw [← HX.out] at h; exact absurd h h0
        case pos =>
          have g0 : (B2.1 != 0) = false := by rw [h0]; rfl
          have HK5 := Lib.hid (hK5 h0)
          have H0 := Lib.hid h0
          have HF5 := Lib.hid (HFx.out.trans hF5)
          clear h0 hK5 hF5 CB
          go_wp2_with fail
          go_roundw
          case rel => exact ⟨2, by omega, by go_num, Lib.hid HK5.out, Lib.hid (fun _ => HJ1.out (by omega)), Lib.hid (fun _ => H0.out), HF5⟩
          case measure => simp [intOf]
      | false =>
        obtain rfl : s0 = D := HDD.out
        go_upto_region 40 with (go_at_call 58; refine CB.out.mono ?_; rintro r w5 ⟨rfl, hF5, hK5⟩)
        by_cases h0 : B2.1 = 0
        case neg =>
          have g0 : (B2.1 != 0) = true := bne_iff_ne.2 h0
          have HX := Lib.hid (show (([], B2.1), B2.2) = R by rw [← HE.out, if_neg (not_not_intro (HJ1.out (by omega))), if_pos h0])
          go_wp2_with fail
          go_ret2
          refine ⟨.slice none 0 0, ?_, HFW.out.trans hF5, fun h => ?_⟩
          · rw [← HX.out]; rfl
          · rw [← HX.out] at h; exact absurd h h0
        case pos =>
          have g0 : (B2.1 != 0) = false := by rw [h0]; rfl
          have HK5 := Lib.hid (hK5 h0)
          have H0 := Lib.hid h0
          have HF5 := Lib.hid (HFx.out.trans hF5)
          clear h0 hK5 hF5 CB
          go_wp2_with fail
          go_roundw
          case rel => exact ⟨2, by omega, by go_num, Lib.hid HK5.out, Lib.hid (fun _ => HJ1.out (by omega)), Lib.hid (fun _ => H0.out), HF5⟩
          case measure => simp [intOf]
    | 2, _ =>
      have HX := Lib.hid (show ((l, 0), B2.2) = R by rw [← HE.out, if_neg (not_not_intro (HJ1.out (by omega))), if_neg (not_not_intro (HJ2.out (by omega)))])
      have HKf : Hid (LkOk wr kb A va B2.2) := HKx
      clear e0 RX
      go_wp2_with fail
      go_ret2
      refine ⟨.slice la l.length lc, ?_, HFW.out, fun h => ?_⟩
      · rw [← HX.out]; rfl
      · rw [← HX.out]; exact ⟨HNX.out, HKf.out⟩
  case inr.inr.inr.inr.inl =>
    rw [hkd] at c0
    rw [if_neg (by rw [hkd]; decide), if_pos hkd] at HE
    obtain rfl : S = [] := by have h := HIN.out; rw [ha] at h; exact List.eq_nil_of_length_eq_zero h
    replace hlt : ¬ 0 < t.args.length := hlt
    simp only [List.length_cons, List.length_nil, Nat.zero_add, Int.natCast_one, Int.natCast_zero]
    obtain ⟨N, hN⟩ : ∃ N : Nat, t.n = (N : Int) := ⟨t.n.toNat, by omega⟩
    have hN8 : N ≤ 8 := by omega
    have q1 := HSR.out.c1
    have q2 := HSR.out.c2
    have q5 := HSR.out.c5
    have zb := HSR.out.lt
    dsimp only at q5
    rw [hN] at q1 HE
    obtain ⟨ta, tc, rfl⟩ := HR2.out.slice
    have HNN := Lib.hid hN
    clear hkd ha hn0 hn8 hN
    obtain ⟨aa, ac, rfl, _, _⟩ := SL.form HKR.out.at_.a
    have k0 : wr.cell? ⟨kb, 0, none⟩ = some (.slice aa A.length ac) := (HKR.out.at_.cell 0).trans rfl
    have CF1 := Lib.hid (fun u (hu : Below wr.heap.size wr u) => find_any l (.slice la l.length lc) t.name u (HNR.out.r.on hu) FL.out)
    have CF2 := Lib.hid (fun u (hu : Below wr.heap.size wr u) => find_any A (.slice aa A.length ac) t.name u (HKR.out.at_.a.on hu) FA.out)
    by_cases h1 : 0 ≤ Ev.nameI l t.name
    case pos =>
      have g1 : decide (0 ≤ Ev.nameI l t.name) = true := decide_eq_true h1
      rw [if_pos (.inl h1)] at HE
      clear h1
      go_upto_region 44 with fail
      refine wp_region_chain (fun w' => Below (wr).heap.size (wr) w') (by kernel_rfl) (by kernel_rfl) (by (repeat' first | with_reducible (first | exact Below.refl _ _ | assumption | refine Below.alloc ?_ ?_ _ | refine below_drewN ?_ _ | refine Below.drew ?_ | refine Below.setCell ?_ ?_ _ | refine Below.trans ?_ (Below.mono (by with_reducible assumption) ?_)) | go_size)) ?_
      repeat (
        apply chain_cons
        case h =>
          refine fun w9 hb9 => ?_
          have hB9 : Below wr.heap.size wr w9 := by (repeat' first | with_reducible (first | exact Below.refl _ _ | assumption | refine Below.alloc ?_ ?_ _ | refine below_drewN ?_ _ | refine Below.drew ?_ | refine Below.setCell ?_ ?_ _ | refine Below.trans ?_ (Below.mono (by with_reducible assumption) ?_)) | go_size)
          obtain ⟨kc9, kf9, s9⟩ := bfacts hb9
          obtain ⟨kd9, kg9, _⟩ := bfacts hB9
          go_wp2_with (fail)
          (try ((first | (go_at_call 57; with_reducible refine (CF1.out _ hb9).mono ?_; rintro _ _ ⟨rfl, hb8⟩) | (go_at_call 57; with_reducible refine (CF2.out _ hb9).mono ?_; rintro _ _ ⟨rfl, hb8⟩)); go_wp2_with fail))
          refine settled_intro (S := fun w' => Below (wr).heap.size (wr) w') ?_
          (repeat' first | with_reducible (first | exact Below.refl _ _ | assumption | refine Below.alloc ?_ ?_ _ | refine below_drewN ?_ _ | refine Below.drew ?_ | refine Below.setCell ?_ ?_ _ | refine Below.trans ?_ (Below.mono (by with_reducible assumption) ?_)) | go_size)
        case hp => first | rfl | (simp only [*]; done) | (simp only [*]; rfl))
      refine chain.nil ?_
      refine fun w44 hb44 => ?_
      have B44 : Below wr.heap.size wr w44 := by (repeat' first | with_reducible (first | exact Below.refl _ _ | assumption | refine Below.alloc ?_ ?_ _ | refine below_drewN ?_ _ | refine Below.drew ?_ | refine Below.setCell ?_ ?_ _ | refine Below.trans ?_ (Below.mono (by with_reducible assumption) ?_)) | go_size)
      obtain ⟨kc44, kf44, s44⟩ := bfacts hb44
      obtain ⟨kd44, kg44, _⟩ := bfacts B44
      (try simp only [World.size_alloc, World.size_setCell, World.size_drew, World.heap_drewN, Nat.add_one_le_iff] at s44)
      clear hb44
      have hb44 := B44
      clear B44
      have B44 : Hid (Below wr.heap.size wr w44) := hb44
      (try have z44 : wr.heap.size < w44.heap.size := by omega)
      (try dsimp only)
      have hbw : Below wr.heap.size wr w44 := hb44
      go_wp2_with fail
      go_ret2
      refine ⟨.slice none 0 0, ?_, HFR.out.trans (PFr.of hbw), fun h => ?_⟩
      · rw [← HE.out]; rfl
      · rw [← HE.out] at h; cases h
    case neg =>
    have g1 : decide (0 ≤ Ev.nameI l t.name) = false := decide_eq_false h1
    by_cases h2 : 0 ≤ Ev.nameI A t.name
    case pos =>
      have g2 : decide (0 ≤ Ev.nameI A t.name) = true := decide_eq_true h2
      rw [if_pos (.inr h2)] at HE
      clear h1 h2
      go_upto_region 44 with fail
      refine wp_region_chain (fun w' => Below (wr).heap.size (wr) w') (by kernel_rfl) (by kernel_rfl) (by (repeat' first | with_reducible (first | exact Below.refl _ _ | assumption | refine Below.alloc ?_ ?_ _ | refine below_drewN ?_ _ | refine Below.drew ?_ | refine Below.setCell ?_ ?_ _ | refine Below.trans ?_ (Below.mono (by with_reducible assumption) ?_)) | go_size)) ?_
      repeat (
        apply chain_cons
        case h =>
          refine fun w9 hb9 => ?_
          have hB9 : Below wr.heap.size wr w9 := by (repeat' first | with_reducible (first | exact Below.refl _ _ | assumption | refine Below.alloc ?_ ?_ _ | refine below_drewN ?_ _ | refine Below.drew ?_ | refine Below.setCell ?_ ?_ _ | refine Below.trans ?_ (Below.mono (by with_reducible assumption) ?_)) | go_size)
          obtain ⟨kc9, kf9, s9⟩ := bfacts hb9
          obtain ⟨kd9, kg9, _⟩ := bfacts hB9
          go_wp2_with (fail)
          (try ((first | (go_at_call 57; with_reducible refine (CF1.out _ hb9).mono ?_; rintro _ _ ⟨rfl, hb8⟩) | (go_at_call 57; with_reducible refine (CF2.out _ hb9).mono ?_; rintro _ _ ⟨rfl, hb8⟩)); go_wp2_with fail))
          refine settled_intro (S := fun w' => Below (wr).heap.size (wr) w') ?_
          (repeat' first | with_reducible (first | exact Below.refl _ _ | assumption | refine Below.alloc ?_ ?_ _ | refine below_drewN ?_ _ | refine Below.drew ?_ | refine Below.setCell ?_ ?_ _ | refine Below.trans ?_ (Below.mono (by with_reducible assumption) ?_)) | go_size)
        case hp => first | rfl | (simp only [*]; done) | (simp only [*]; rfl))
      refine chain.nil ?_
      refine fun w44 hb44 => ?_
      have B44 : Below wr.heap.size wr w44 := by (repeat' first | with_reducible (first | exact Below.refl _ _ | assumption | refine Below.alloc ?_ ?_ _ | refine below_drewN ?_ _ | refine Below.drew ?_ | refine Below.setCell ?_ ?_ _ | refine Below.trans ?_ (Below.mono (by with_reducible assumption) ?_)) | go_size)
      obtain ⟨kc44, kf44, s44⟩ := bfacts hb44
      obtain ⟨kd44, kg44, _⟩ := bfacts B44
      (try simp only [World.size_alloc, World.size_setCell, World.size_drew, World.heap_drewN, Nat.add_one_le_iff] at s44)
      clear hb44
      have hb44 := B44
      clear B44
      have B44 : Hid (Below wr.heap.size wr w44) := hb44
      (try have z44 : wr.heap.size < w44.heap.size := by omega)
      (try dsimp only)
      have hbw : Below wr.heap.size wr w44 := hb44
      go_wp2_with fail
      go_ret2
      refine ⟨.slice none 0 0, ?_, HFR.out.trans (PFr.of hbw), fun h => ?_⟩
      · rw [← HE.out]; rfl
      · rw [← HE.out] at h; cases h
    case neg =>
    have g2 : decide (0 ≤ Ev.nameI A t.name) = false := decide_eq_false h2
    rw [if_neg (fun h => h.elim h1 h2)] at HE
    clear h1 h2
    go_upto_region 44 with fail
    refine wp_region_chain (fun w' => Below (wr).heap.size (wr) w') (by kernel_rfl) (by kernel_rfl) (by (repeat' first | with_reducible (first | exact Below.refl _ _ | assumption | refine Below.alloc ?_ ?_ _ | refine below_drewN ?_ _ | refine Below.drew ?_ | refine Below.setCell ?_ ?_ _ | refine Below.trans ?_ (Below.mono (by with_reducible assumption) ?_)) | go_size)) ?_
    repeat (
      apply chain_cons
      case h =>
        refine fun w9 hb9 => ?_
        have hB9 : Below wr.heap.size wr w9 := by (repeat' first | with_reducible (first | exact Below.refl _ _ | assumption | refine Below.alloc ?_ ?_ _ | refine below_drewN ?_ _ | refine Below.drew ?_ | refine Below.setCell ?_ ?_ _ | refine Below.trans ?_ (Below.mono (by with_reducible assumption) ?_)) | go_size)
        obtain ⟨kc9, kf9, s9⟩ := bfacts hb9
        obtain ⟨kd9, kg9, _⟩ := bfacts hB9
        go_wp2_with (fail)
        (try ((first | (go_at_call 57; with_reducible refine (CF1.out _ hb9).mono ?_; rintro _ _ ⟨rfl, hb8⟩) | (go_at_call 57; with_reducible refine (CF2.out _ hb9).mono ?_; rintro _ _ ⟨rfl, hb8⟩)); go_wp2_with fail))
        refine settled_intro (S := fun w' => Below (wr).heap.size (wr) w') ?_
        (repeat' first | with_reducible (first | exact Below.refl _ _ | assumption | refine Below.alloc ?_ ?_ _ | refine below_drewN ?_ _ | refine Below.drew ?_ | refine Below.setCell ?_ ?_ _ | refine Below.trans ?_ (Below.mono (by with_reducible assumption) ?_)) | go_size)
      case hp => first | rfl | (simp only [*]; done) | (simp only [*]; rfl))
    refine chain.nil ?_
    refine fun w44 hb44 => ?_
    have B44 : Below wr.heap.size wr w44 := by (repeat' first | with_reducible (first | exact Below.refl _ _ | assumption | refine Below.alloc ?_ ?_ _ | refine below_drewN ?_ _ | refine Below.drew ?_ | refine Below.setCell ?_ ?_ _ | refine Below.trans ?_ (Below.mono (by with_reducible assumption) ?_)) | go_size)
    obtain ⟨kc44, kf44, s44⟩ := bfacts hb44
    obtain ⟨kd44, kg44, _⟩ := bfacts B44
    (try simp only [World.size_alloc, World.size_setCell, World.size_drew, World.heap_drewN, Nat.add_one_le_iff] at s44)
    clear hb44
    have hb44 := B44
    clear B44
    have B44 : Hid (Below wr.heap.size wr w44) := hb44
    (try have z44 : wr.heap.size < w44.heap.size := by omega)
    (try dsimp only)
    have hbw : Below wr.heap.size wr w44 := hb44
    clear CF1 CF2 k0
    have zb44 : b < w44.heap.size := Nat.lt_of_lt_of_le zb hbw.size
    have zk44 : kb < w44.heap.size := Nat.lt_of_lt_of_le zkr hbw.size
    have CC := Lib.hid (fun u (hu : Below w44.heap.size w44 u) => clonePar_own l (.slice la l.length lc) u ((HNR.out.r.on hbw).on hu) (by omega))
    obtain ⟨i3, hi1, hz0, hz1, hz2⟩ := info_parts Tryd.varInfo
    have IV := Lib.hid (⟨hi1, hz0, hz1, hz2⟩ : _ ∧ _ ∧ _ ∧ _)
    clear hi1 hz0 hz1 hz2
    go_upto_region 46 with fail
    refine wp_region_flock_tail 8 (fun k => match k with | 1 => some (Hv.own w44.heap.size 35 3 l.length (l.flatMap cellsP)) | 7 => some (Hv.lit #[.string ⟨t.name.toArray⟩, .bool false, .int .i64 (-1)] 35 1) | _ => none) (by kernel_rfl) (by kernel_rfl) (by kernel_rfl) (by kernel_rfl) ?_
    simp only [List.take_succ_cons, List.take_zero, List.drop_succ_cons, List.drop_zero]
    apply flock_light rfl
    case h => first | exact light_no (by rfl) | ((first | apply light_plain rfl | apply light_yes (by rfl)); intro w9 hw9; obtain ⟨hb9, hh9⟩ := hw9; skip; go_simp; try rfl)
    (try simp only [Act.put, List.setIfInBounds_toArray, List.set_cons_zero, List.set_cons_succ])
    refine flock_heavy _ rfl ?_ ?_
    · intro w9 hb9 hh9
      have hB9 : Below w44.heap.size w44 w9 := (by (repeat' first | with_reducible (first | exact Below.refl _ _ | assumption | refine Below.alloc ?_ ?_ _ | refine below_drewN ?_ _ | refine Below.drew ?_ | refine Below.setCell ?_ ?_ _ | refine Below.trans ?_ (Below.mono (by with_reducible assumption) ?_)) | go_size))
      obtain ⟨kc9, kf9, s9⟩ := bfacts hb9
      obtain ⟨kd9, kg9, _⟩ := bfacts hB9
      skip
      go_wp2_with (go_at_call 56; refine (CC.out _ hB9).mono ?_; rintro e w6 ⟨v6, rfl, hO6, hb6⟩)
      refine grewTo_at (by rfl) (by (repeat' first | with_reducible (first | exact Below.refl _ _ | assumption | refine Below.alloc ?_ ?_ _ | refine below_drewN ?_ _ | refine Below.drew ?_ | refine Below.setCell ?_ ?_ _ | refine Below.trans ?_ (Below.mono (by with_reducible assumption) ?_)) | go_size)) ?_
      exact own_lessT hO6 (by go_size)
    intro x1 ok1
    (try simp only [Act.put, List.setIfInBounds_toArray, List.set_cons_zero, List.set_cons_succ])
    (try dsimp only [Hv.own, Hv.is, Hv.lit, Hv.box, Hv.sl] at ok1)
    first | subst ok1 | (obtain ⟨A1, c1, ok1⟩ := ok1; subst ok1) | (obtain ⟨A1, ok1⟩ := ok1; subst ok1) | skip
    apply flock_light rfl
    case h => first | exact light_no (by rfl) | ((first | apply light_plain rfl | apply light_yes (by rfl)); intro w9 hw9; obtain ⟨hb9, hh9⟩ := hw9; skip; go_simp; try rfl)
    (try simp only [Act.put, List.setIfInBounds_toArray, List.set_cons_zero, List.set_cons_succ])
    apply flock_light rfl
    case h => first | exact light_no (by rfl) | ((first | apply light_plain rfl | apply light_yes (by rfl)); intro w9 hw9; obtain ⟨hb9, hh9⟩ := hw9; have hB9 : Below w44.heap.size w44 w9 := (by (repeat' first | with_reducible (first | exact Below.refl _ _ | assumption | refine Below.alloc ?_ ?_ _ | refine below_drewN ?_ _ | refine Below.drew ?_ | refine Below.setCell ?_ ?_ _ | refine Below.trans ?_ (Below.mono (by with_reducible assumption) ?_)) | go_size)); obtain ⟨kc9, kf9, s9⟩ := bfacts hb9; obtain ⟨kd9, kg9, _⟩ := bfacts hB9; skip; go_simp; try rfl)
    (try simp only [Act.put, List.setIfInBounds_toArray, List.set_cons_zero, List.set_cons_succ])
    apply flock_light rfl
    case h => first | exact light_no (by rfl) | ((first | apply light_plain rfl | apply light_yes (by rfl)); intro w9 hw9; obtain ⟨hb9, hh9⟩ := hw9; skip; go_simp; try rfl)
    (try simp only [Act.put, List.setIfInBounds_toArray, List.set_cons_zero, List.set_cons_succ])
    apply flock_light rfl
    case h => first | exact light_no (by rfl) | ((first | apply light_plain rfl | apply light_yes (by rfl)); intro w9 hw9; obtain ⟨hb9, hh9⟩ := hw9; have hB9 : Below w44.heap.size w44 w9 := (by (repeat' first | with_reducible (first | exact Below.refl _ _ | assumption | refine Below.alloc ?_ ?_ _ | refine below_drewN ?_ _ | refine Below.drew ?_ | refine Below.setCell ?_ ?_ _ | refine Below.trans ?_ (Below.mono (by with_reducible assumption) ?_)) | go_size)); obtain ⟨kc9, kf9, s9⟩ := bfacts hb9; obtain ⟨kd9, kg9, _⟩ := bfacts hB9; skip; go_simp; try rfl)
    (try simp only [Act.put, List.setIfInBounds_toArray, List.set_cons_zero, List.set_cons_succ])
    apply flock_light rfl
    case h => first | exact light_no (by rfl) | ((first | apply light_plain rfl | apply light_yes (by rfl)); intro w9 hw9; obtain ⟨hb9, hh9⟩ := hw9; skip; go_simp; try rfl)
    (try simp only [Act.put, List.setIfInBounds_toArray, List.set_cons_zero, List.set_cons_succ])
    refine flock_heavy _ rfl ?_ ?_
    · intro w9 hb9 hh9
      have hB9 : Below w44.heap.size w44 w9 := (by (repeat' first | with_reducible (first | exact Below.refl _ _ | assumption | refine Below.alloc ?_ ?_ _ | refine below_drewN ?_ _ | refine Below.drew ?_ | refine Below.setCell ?_ ?_ _ | refine Below.trans ?_ (Below.mono (by with_reducible assumption) ?_)) | go_size))
      obtain ⟨kc9, kf9, s9⟩ := bfacts hb9
      obtain ⟨kd9, kg9, _⟩ := bfacts hB9
      skip
      go_wp2_with fail
      refine grewTo_at (by rfl) (by (repeat' first | with_reducible (first | exact Below.refl _ _ | assumption | refine Below.alloc ?_ ?_ _ | refine below_drewN ?_ _ | refine Below.drew ?_ | refine Below.setCell ?_ ?_ _ | refine Below.trans ?_ (Below.mono (by with_reducible assumption) ?_)) | go_size)) ?_
      exact ⟨_, rfl, heap_alloc_new _ _⟩
    intro x7 ok7
    (try simp only [Act.put, List.setIfInBounds_toArray, List.set_cons_zero, List.set_cons_succ])
    (try dsimp only [Hv.own, Hv.is, Hv.lit, Hv.box, Hv.sl] at ok7)
    first | subst ok7 | (obtain ⟨A7, c7, ok7⟩ := ok7; subst ok7) | (obtain ⟨A7, ok7⟩ := ok7; subst ok7) | skip
    refine flock_nil ?_
    intro w9 hb9 hh9
    have hB9 : Below w44.heap.size w44 w9 := (by (repeat' first | with_reducible (first | exact Below.refl _ _ | assumption | refine Below.alloc ?_ ?_ _ | refine below_drewN ?_ _ | refine Below.drew ?_ | refine Below.setCell ?_ ?_ _ | refine Below.trans ?_ (Below.mono (by with_reducible assumption) ?_)) | go_size))
    have r7 := hh9 _ (.head _); dsimp only [Hv.own, Hv.is, Hv.lit, Hv.box, Hv.sl] at r7; (first | replace r7 := lit_heap r7 | replace r7 := box_heap r7 | skip); have r1 := hh9 _ (.tail _ (.head _)); dsimp only [Hv.own, Hv.is, Hv.lit, Hv.box, Hv.sl] at r1; (first | replace r1 := lit_heap r1 | replace r1 := box_heap r1 | skip); clear hh9
    (try dsimp only)
    have R1 := Lib.hid r1
    have R7 := Lib.hid r7
    have HB9 := Lib.hid hB9
    have hs9 := hB9.size
    clear r1 r7 hb9 hB9
    go_upto_region 47 with (at_builtin; refine wpList_append_own_at _ rfl (.tmp 245) (.tmp 251) _ rfl w44.heap.size 35 i3 (.agg #[.string ⟨#[]⟩, .bool false, .int .i64 0]) 3 32 Tryd.underlying22 IV.out.1 IV.out.2.1 IV.out.2.2.1 IV.out.2.2.2 rfl (by decide) _ _ _ rfl R1.out ⟨A7, 0, none⟩ 1 1 (cellsP ⟨t.name, false, -1⟩) rfl rfl (cells_of_block R7.out) (one_three_mk _) (by unfold maxLen; omega) (by omega) (by omega) ?_; intro v7 w7 hown7 hg7 hn7 hat7; obtain ⟨A8, c8, rfl, _, _⟩ := SL.form (SL.of_own hown7))
    have hb7 : Below w44.heap.size w44 w7 := HB9.out.grown hg7 hs9 (fun k hk => (R1.out.lt k hk).1)
    have HB7 := Lib.hid (hbw.trans (hb7.mono hbw.size))
    have HNI := Lib.hid (NmAt.more (kb := kb) hown7 zk44)
    have HK7 := Lib.hid (HKR.out.on HB7.out)
    have HN7 := Lib.hid (HNR.out.on HB7.out)
    have HS7 := Lib.hid (HSR.out.on HB7.out)
    have HF7 := Lib.hid (HFR.out.trans (PFr.of HB7.out))
    have HT7 := Lib.hid (RStL.keep HB7.out.size (fun k _ hk => HB7.out.block k hk) _ _ _ HR2.out)
    have q1' := HS7.out.c1
    rw [show t.n = (N : Int) from HNN.out] at q1'
    clear hown7 hg7 hn7 hat7 hb7 R1 R7 HB9 hs9 q1 q2 q5 c0 HSR HKR HNR HFR HR1 HR2 HR3 HO hbw hb44 kc44 kd44 kf44 kg44 B44 zb44 zb zbr zkr zk44 CC IV HB7 hlt
    go_upto_region 48 with fail
    change Hid ((if (Ev.timesC (fun k => Ev.blC A (l ++ [⟨t.name, false, -1⟩]) dark k t.thn) N ⟨wk + 1, lt⟩).1 ≠ 0 then (([], (Ev.timesC (fun k => Ev.blC A (l ++ [⟨t.name, false, -1⟩]) dark k t.thn) N ⟨wk + 1, lt⟩).1), (Ev.timesC (fun k => Ev.blC A (l ++ [⟨t.name, false, -1⟩]) dark k t.thn) N ⟨wk + 1, lt⟩).2) else ((l, 0), (Ev.timesC (fun k => Ev.blC A (l ++ [⟨t.name, false, -1⟩]) dark k t.thn) N ⟨wk + 1, lt⟩).2)) = R) at HE
    obtain ⟨f, hf⟩ : ∃ f, (fun k => Ev.blC A (l ++ [⟨t.name, false, -1⟩]) dark k t.thn) = f := ⟨_, rfl⟩
    have HFF := Lib.hid (fun k => (congrFun hf k).symm)
    rw [hf] at HE
    clear hf
    obtain ⟨TT, hTT⟩ : ∃ TT, Ev.timesC f N ⟨wk + 1, lt⟩ = TT := ⟨_, rfl⟩
    rw [hTT] at HE
    have HTT := Lib.hid hTT
    clear hTT
    have hIN : ((l ++ [(⟨t.name, false, -1⟩ : Ev.Par)]).length : Int) ≤ wk + 1 + 4 := by simp; omega
    have HIL := Lib.hid hIN
    clear hIN
    have e8 : l.length + 1 = (l ++ [(⟨t.name, false, -1⟩ : Ev.Par)]).length := by simp
    have E8 := Lib.hid e8
    clear e8
    go_loopw [257] (fun zz wx => ∃ (i : Nat) (ki : Ev.LK), i ≤ N ∧ zz = .int .i64 (i : Int) ∧ Hid (LkOk wx kb A (.slice aa A.length ac) ki) ∧ Hid (Ev.Up ⟨wk + 1, lt⟩ ki) ∧ Hid (TT = Ev.timesC f (N - i) ki) ∧ Hid (PFr kb w7 wx)) (fun zz _ => N - (intOf zz).toNat)
    case atStart => exact ⟨0, ⟨wk + 1, lt⟩, by omega, rfl, HK7, Lib.hid (Ev.Up.refl _), Lib.hid HTT.out.symm, Lib.hid (PFr.refl' _ _)⟩
    case round =>
    clear HK7 q1'
    obtain ⟨i, ki, hi, rfl, HKx, HUP, HTi, HFx⟩ := hrel
    have HSX := Lib.hid (HS7.out.fr HFx.out hbk)
    have q5 := HSX.out.c5
    have zb := HSX.out.lt
    dsimp only at q5
    have HFW := Lib.hid (HF7.out.trans HFx.out)
    by_cases hlti : i < N
    case pos =>
      have CB := Lib.hid (ih t.thn A (l ++ [⟨t.name, false, -1⟩]) (.slice aa A.length ac) (.slice A8 (l.length + 1) c8) (.slice ta t.thn.length tc) ki kb dark wr K HKK.out HKx.out (HNI.out.fr HFx.out) (HT7.out.fr HFx.out HKK.out) HW.out.thn FA.out ⟨by have := HUP.out.work; have := HIL.out; simp only at *; omega, by have := HUP.out.work; simp only at this; omega, HUP.out.most (by show wk + 1 ≤ 300; omega), by have := HUP.out.lets; simp only at this; omega, HUP.out.few hc5⟩)
      have HTN := Lib.hid (show TT = if (f ki).1 ≠ 0 then f ki else Ev.timesC f (N - (i + 1)) (f ki).2 by
        rw [HTi.out, show N - i = (N - (i + 1)) + 1 by omega]
        rfl)
      have HUN := Lib.hid (Ev.blC_up A dark t.thn (l ++ [⟨t.name, false, -1⟩]) ki)
      rw [← HFF.out ki] at CB HUN
      generalize f ki = B at *
      clear HTi
      go_upto_region 50 with (go_at_call 58; refine CB.out.mono ?_; rintro r w5 ⟨rfl, hF5, hK5⟩)
      by_cases h0 : B.1 = 0
      case neg =>
        have g0 : (B.1 != 0) = true := bne_iff_ne.2 h0
        have HX := Lib.hid (show (([], B.1), B.2) = R by rw [← HE.out, HTN.out, if_pos h0, if_pos h0])
        go_wp2_with fail
        go_ret2
        refine ⟨.slice none 0 0, ?_, HFW.out.trans hF5, fun h => ?_⟩
        · rw [← HX.out]; rfl
        · rw [← HX.out] at h; exact absurd h h0
      case pos =>
        have g0 : (B.1 != 0) = false := by rw [h0]; rfl
        have HK5 := Lib.hid (hK5 h0)
        have HU5 := Lib.hid (HUP.out.trans (HUN.out h0))
        have HT5 := Lib.hid (show TT = Ev.timesC f (N - (i + 1)) B.2 by rw [HTN.out, if_neg (not_not_intro h0)])
        have HF5 := Lib.hid (HFx.out.trans hF5)
        clear h0 hK5 hF5 CB HTN HUN q5
        go_wp2_with fail
        go_roundw
        case rel => exact ⟨i + 1, B.2, by omega, by go_num, HK5, HU5, HT5, HF5⟩
        case measure => simp [intOf]; omega
    case neg =>
      have HX := Lib.hid (show ((l, 0), ki) = R by
        have e : TT = (0, ki) := by rw [HTi.out, show N - i = 0 by omega]; rfl
        rw [← HE.out, e, if_neg (by simp)])
      have HNX := Lib.hid (HN7.out.fr HFx.out)
      clear q5
      go_wp2_with fail
      go_ret2
      refine ⟨.slice la l.length lc, ?_, HFW.out, fun h => ?_⟩
      · rw [← HX.out]; rfl
      · rw [← HX.out]; exact ⟨HNX.out, HKx.out⟩
  case inr.inr.inr.inr.inr =>
    rw [hkd] at c0
    rw [hkd, if_neg (by decide), if_neg (by decide)] at HE
    unfold Ev.oneC at HE
    rw [if_neg (by decide), if_neg (by decide), if_neg (by decide)] at HE
    clear hkd ha
    cases dark with
    | true =>
      go_wp2_with fail
      go_ret2
      refine ⟨.slice none 0 0, ?_, HFR.out, fun h => ?_⟩
      · rw [← HE.out]; rfl
      · rw [← HE.out] at h; cases h
    | false =>
      go_wp2_with fail
      go_ret2
      refine ⟨.slice la l.length lc, ?_, HFR.out, fun h => ?_⟩
      · rw [← HE.out]; rfl
      · rw [← HE.out]; exact ⟨HNR.out, HKR.out⟩
end Go.Proofs.YtpbflgemhcaooaaDoor
