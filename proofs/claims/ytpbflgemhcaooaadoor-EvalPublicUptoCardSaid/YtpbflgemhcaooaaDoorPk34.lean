import Derived.Test.YtpbflgemhcaooaaDoorPk23
import Derived.Test.YtpbflgemhcaooaaDoorPk16
import Derived.Test.YtpbflgemhcaooaaDoorPk33
/- label.looker: statements; a program. -/
namespace Go.Proofs.YtpbflgemhcaooaaDoor
open Go.RowKit
set_option linter.unusedSimpArgs false
set_option linter.unusedVariables false
theorem RStL.on {d : Nat} {w w' : World} {K : Nat → Prop} {v : Value} {l : List Ev.St1} (h : RStL d w K v l) (hb : Below w.heap.size w w') : RStL d w' K v l := RStL.keep hb.size (fun k _ hk => hb.block k hk) d v l h
theorem RStL.few {d : Nat} {w : World} {K : Nat → Prop} {v : Value} {l : List Ev.St1} (h : RStL d w K v l) : l.length ≤ 9223372036854775807 := by
  cases d with
  | zero => obtain ⟨rfl, rfl⟩ := h; exact Nat.zero_le _
  | succ d =>
    obtain ⟨_, _, h2, _⟩ := h
    obtain ⟨A, c, e, h3, h4⟩ := SL.form h2
    unfold maxLen at h4
    omega
theorem ck_next {A l : List Ev.Par} {dark : Bool} {k : Ev.LK} {t : Ev.St1} (h : Ev.CkOk l k) (e : (Ev.stC A l dark k t).1.2 = 0) : Ev.CkOk (Ev.stC A l dark k t).1.1 (Ev.stC A l dark k t).2 := by
  obtain ⟨⟨u1, u2⟩, u3⟩ := Ev.stC_up A l dark k t e
  have h1 := u1.most h.hi
  have h2 := u1.lets
  have h3 := u1.few h.l1
  obtain ⟨a1, a2, a3, a4, a5⟩ := h
  exact ⟨by omega, by omega, h1, by omega, h3⟩
set_option maxRecDepth 6000 in
set_option maxHeartbeats 6400000 in
theorem lookBlock (d : Nat) (ih : ∀ d', d = d' + 1 → LStDo d') : LBlDo d := by
  intro ts A l va vl v k kb dark w K hK hk hl hr hw fA hc
  obtain ⟨a, c, rfl⟩ := hr.slice
  have hfew := hr.few
  obtain ⟨R, hR⟩ : ∃ R, Ev.blC A l dark k ts = R := ⟨_, rfl⟩
  rw [hR]
  have HE := Lib.hid hR
  have HKK := Lib.hid hK
  have HR := Lib.hid hr
  have HW := Lib.hid hw
  have FA := Lib.hid fA
  have HK0 := Lib.hid hk
  have HN0 := Lib.hid hl
  have HC0 := Lib.hid hc
  clear hR hK hr hw fA hk hl hc
  go_enter Tryd.func58, Tryd.ntmps58
  go_upto_region 2 with fail
  go_loopw [14, 2] (fun ii vv wr => ∃ (i : Nat) (li : List Ev.Par) (ki : Ev.LK), i ≤ ts.length ∧ ii = .int .i64 (i : Int) ∧ Hid (NmAt wr kb vv li) ∧ Hid (LkOk wr kb A va ki) ∧ Hid (Ev.CkOk li ki) ∧ Hid (Ev.blC A li dark ki (ts.drop i) = R) ∧ Hid (PFr kb w wr)) (fun ii _ _ => ts.length - (intOf ii).toNat)
  case atStart => exact ⟨0, l, k, by omega, rfl, HN0, HK0, HC0, Lib.hid (by rw [List.drop_zero]; exact HE.out), Lib.hid (PFr.refl' _ _)⟩
  case round =>
  clear HN0 HK0 HC0
  obtain ⟨i, li, ki, hi, rfl, HN, HKO, HC, HB, HF⟩ := hrel
  by_cases hlt : i < ts.length
  case pos =>
    obtain ⟨t, ht⟩ : ∃ t, ts[i]? = some t := ⟨_, List.getElem?_eq_getElem hlt⟩
    have HLT := Lib.hid hlt
    obtain ⟨d', b, off, c', x, hd, hva, hKb, hst, hpt⟩ := (HR.out.fr HF.out HKK.out).el ht
    obtain ⟨h1, h2⟩ := slice_two hva
    clear hva
    subst h1 h2
    have hdr : ts.drop i = t :: ts.drop (i + 1) := by
      rw [List.getElem?_eq_getElem hlt] at ht
      injection ht with ht
      rw [← ht]
      exact List.drop_eq_getElem_cons hlt
    have HB2 := Lib.hid (show (if (Ev.stC A li dark ki t).1.2 ≠ 0 then ((Ev.stC A li dark ki t).1.2, (Ev.stC A li dark ki t).2) else Ev.blC A (Ev.stC A li dark ki t).1.1 dark (Ev.stC A li dark ki t).2 (ts.drop (i + 1))) = R by
      rw [← HB.out, hdr, Ev.blC_cons])
    have HCN := Lib.hid (fun e => ck_next (A := A) (dark := dark) (t := t) HC.out e)
    rename_i vv
    obtain ⟨na, nc, rfl, _, _⟩ := SL.form HN.out.r
    have CI := Lib.hid (ih d' hd t x A li va (.slice na li.length nc) ki kb b (off + i * 7) dark wr K HKK.out (HKK.out b hKb) HKO.out HN.out hst hpt (HW.out t (List.mem_of_getElem? ht)) FA.out HC.out)
    generalize Ev.stC A li dark ki t = Z at *
    clear ht hd hst hpt hdr HB hKb
    go_upto_region 5 with (go_at_call 90; refine CI.out.mono ?_; rintro r w5 ⟨v5, rfl, hF5, hK5⟩)
    by_cases h0 : Z.1.2 = 0
    case neg =>
      have g0 : (Z.1.2 != 0) = true := bne_iff_ne.2 h0
      have HX := Lib.hid (show (Z.1.2, Z.2) = R by rw [← HB2.out, if_pos h0])
      have H0 := Lib.hid h0
      clear h0
      go_wp2_with fail
      go_ret
      refine ⟨by rw [← HX.out]; rfl, HF.out.trans hF5, fun h => ?_⟩
      rw [← HX.out] at h
      exact absurd h H0.out
    case pos =>
      have g0 : (Z.1.2 != 0) = false := by rw [h0]; rfl
      have HX := Lib.hid (show Ev.blC A Z.1.1 dark Z.2 (ts.drop (i + 1)) = R by rw [← HB2.out, if_neg (not_not_intro h0)])
      obtain ⟨n5, l5⟩ := hK5 h0
      have N5 := Lib.hid n5
      have L5 := Lib.hid l5
      have C5 := Lib.hid (HCN.out h0)
      have F5 := Lib.hid (HF.out.trans hF5)
      obtain ⟨xa, xc, rfl, _, _⟩ := SL.form n5.r
      clear h0 n5 l5 hK5 hF5 CI HB2 HCN
      go_wp2_with fail
      go_roundw
      case rel => exact ⟨i + 1, Z.1.1, Z.2, by have := HLT.out; omega, by go_num, N5, L5, C5, HX, F5⟩
      case measure => have := HLT.out; simp [intOf]; omega
  case neg =>
  have HX := Lib.hid (show (0, ki) = R by
    rw [← HB.out, List.drop_eq_nil_of_le (by omega), Ev.blC_nil])
  go_wp2_with fail
  go_ret
  refine ⟨by rw [← HX.out]; rfl, HF.out, fun h => ?_⟩
  rw [← HX.out]
  exact HKO.out
theorem lookBlock_all : ∀ d, LBlDo d
  | 0 => lookBlock 0 (fun d' h => (by omega))
  | d + 1 => lookBlock (d + 1) (fun d' h => (by obtain rfl : d = d' := by omega
                                                exact lookStmt d (lookBlock_all d)))
end Go.Proofs.YtpbflgemhcaooaaDoor
/- label.Check: what is wrong with a program. -/
namespace Ev
theorem twice_mono (l : List Par) : ∀ (n k : Nat), k ≤ n → twiceTo l k = true → twiceTo l n = true
  | 0, k, h, e => by obtain rfl : k = 0 := by omega
                     exact e
  | n + 1, k, h, e => by
    by_cases hk : k = n + 1
    · subst hk; exact e
    · unfold twiceTo
      rw [twice_mono l n k (by omega) e]
      rfl
theorem twice_next {l : List Par} {i : Nat} {p : Par} (h : twiceTo l i = false) (hp : l[i]? = some p) : twiceTo l (i + 1) = decide (0 ≤ nameTo l p.name i) := by
  unfold twiceTo
  rw [h, hp]
  rfl
theorem nameTo_take (l : List Par) (n : List UInt8) : ∀ k i, k ≤ i → nameTo (l.take i) n k = nameTo l n k
  | 0, _, _ => rfl
  | k + 1, i, h => by
    unfold nameTo
    rw [List.getElem?_take_of_lt (by omega), nameTo_take l n k i (by omega)]
theorem nameI_take (l : List Par) (n : List UInt8) (i : Nat) (h : i ≤ l.length) : nameI (l.take i) n = nameTo l n i := by
  unfold nameI
  rw [List.length_take, Nat.min_eq_left h]
  exact nameTo_take l n i i (Nat.le_refl _)
end Ev
namespace Go.Proofs.YtpbflgemhcaooaaDoor
open Go.RowKit
set_option linter.unusedSimpArgs false
set_option linter.unusedVariables false
theorem RPars.take {w : World} {A : Option Addr} {c : Nat} {l : List Ev.Par} (h : RPars w (.slice A l.length c) l) (i : Nat) (hi : i ≤ l.length) : RPars w (.slice A i c) (l.take i) := by
  obtain ⟨h1, A', c', e, h3, h4, h5, h6⟩ := h
  injection e with e1 _ e3
  subst e1 e3
  have hl : (l.take i).length = i := by rw [List.length_take]; omega
  have hfm : (l.take i).flatMap cellsP = (l.flatMap cellsP).take (i * 3) := by
    have key : ∀ (l : List Ev.Par) (i : Nat), (l.take i).flatMap cellsP = (l.flatMap cellsP).take (i * 3) := by
      intro l
      induction l with
      | nil => intro i; simp
      | cons p l ih =>
        intro i
        cases i with
        | zero => simp
        | succ i =>
          rw [List.take_succ_cons, List.flatMap_cons, List.flatMap_cons, ih i, show (i + 1) * 3 = i * 3 + 3 by omega]
          rfl
    exact key l i
  refine ⟨by rw [hl, hfm, List.length_take]; omega, A, c, by rw [hl], by omega, h4, fun ha => ?_, fun hn => ?_⟩
  · have := h5 ha; omega
  · obtain ⟨b, o, e, hb, hc⟩ := h6 (by omega)
    refine ⟨b, o, e, hb, fun j u hu => hc j u ?_⟩
    rw [hfm] at hu
    rw [List.getElem?_take] at hu
    split at hu
    · exact hu
    · cases hu
set_option maxRecDepth 6000 in
set_option maxHeartbeats 6400000 in
/-- label.Check -/
theorem lookCheck (f : Ev.Fn1) (v1 v2 v3 : Value) (w : World) (h : RFn w (fun k => k < w.heap.size) v1 v2 v3 f) (hw : ∀ t ∈ f.body, Ev.WfS t) (n1 : f.params.length ≤ 1000000) (n2 : f.arrays.length ≤ 1000000) :
    Calls Tryd.prog 15 #[.agg #[v1, v2, v3]] w fun r w' => r = .returned (.int .i64 (Ev.checkC f)) ∧ Below w.heap.size w w' := by
  obtain ⟨h1, h2, h3, h4, h5⟩ := h
  obtain ⟨a1, m1, rfl, _, _⟩ := SL.form h1
  obtain ⟨a2, m2, rfl, _, _⟩ := SL.form h2
  obtain ⟨a3, m3, rfl⟩ := h3.slice
  have H1 := Lib.hid h1
  have H2 := Lib.hid h2
  have H3 := Lib.hid h3
  have HW := Lib.hid hw
  obtain ⟨R, hR⟩ : ∃ R, Ev.checkC f = R := ⟨_, rfl⟩
  rw [hR]
  have HE := Lib.hid hR
  unfold Ev.checkC at HE
  have H5 := Lib.hid h5
  have H4 := Lib.hid h4
  clear h1 h2 h3 h4 h5 hw hR
  go_enter Tryd.func15, Tryd.ntmps15
  by_cases hm : 4 < f.params.length
  case pos =>
    have g1 : decide (4 < (f.params.length : Int)) = true := decide_eq_true (by omega)
    rw [if_pos (.inl hm)] at HE
    clear hm
    go_wp2_with fail
    go_ret
    exact ⟨by rw [← HE.out]; rfl, by (repeat' first | with_reducible (first | exact Below.refl _ _ | assumption | refine Below.alloc ?_ ?_ _ | refine below_drewN ?_ _ | refine Below.drew ?_ | refine Below.setCell ?_ ?_ _ | refine Below.trans ?_ (Below.mono (by with_reducible assumption) ?_)) | go_size)⟩
  case neg =>
  have g1 : decide (4 < (f.params.length : Int)) = false := decide_eq_false (by omega)
  by_cases hm2 : 3 < f.arrays.length
  case pos =>
    have g2 : decide (3 < (f.arrays.length : Int)) = true := decide_eq_true (by omega)
    rw [if_pos (.inr hm2)] at HE
    clear hm hm2
    go_wp2_with fail
    go_ret
    exact ⟨by rw [← HE.out]; rfl, by (repeat' first | with_reducible (first | exact Below.refl _ _ | assumption | refine Below.alloc ?_ ?_ _ | refine below_drewN ?_ _ | refine Below.drew ?_ | refine Below.setCell ?_ ?_ _ | refine Below.trans ?_ (Below.mono (by with_reducible assumption) ?_)) | go_size)⟩
  case neg =>
  have g2 : decide (3 < (f.arrays.length : Int)) = false := decide_eq_false (by omega)
  rw [if_neg (fun h => h.elim hm hm2)] at HE
  go_upto_region 3 with fail
  have hB0 : Below w.heap.size w (w.alloc (.cells #[.slice a1 f.params.length m1, .slice a2 f.arrays.length m2, .slice a3 f.body.length m3] 25)) := (Below.refl _ _).alloc (Nat.le_refl _) _
  have r0 := heap_alloc_new w (.cells #[.slice a1 f.params.length m1, .slice a2 f.arrays.length m2, .slice a3 f.body.length m3] 25)
  generalize w.alloc (.cells #[.slice a1 f.params.length m1, .slice a2 f.arrays.length m2, .slice a3 f.body.length m3] 25) = w1 at *
  have k10 : w1.cell? ⟨w.heap.size, 0, none⟩ = some (.slice a1 f.params.length m1) := cell_of_block r0 0
  have k11 : w1.cell? ⟨w.heap.size, 1, none⟩ = some (.slice a2 f.arrays.length m2) := cell_of_block r0 1
  have z1 := (Array.getElem?_eq_some_iff.1 r0).1
  have R0 := Lib.hid r0
  have CC := Lib.hid (fun u (hu : Below w1.heap.size w1 u) => clonePar_own f.params (.slice a1 f.params.length m1) u ((H1.out.on hB0).on hu) (by omega))
  obtain ⟨i3, hi1, hz0, hz1, hz2⟩ := info_parts Tryd.varInfo
  have IV := Lib.hid (⟨hi1, hz0, hz1, hz2⟩ : _ ∧ _ ∧ _ ∧ _)
  clear hi1 hz0 hz1 hz2 r0
  refine wp_region_flock_tail 5 (fun k => match k with | 2 => some (Hv.own w1.heap.size 35 3 f.params.length (f.params.flatMap cellsP)) | _ => none) (by kernel_rfl) (by kernel_rfl) (by kernel_rfl) (by kernel_rfl) ?_
  simp only [List.take_succ_cons, List.take_zero, List.drop_succ_cons, List.drop_zero]
  apply flock_light rfl
  case h => first | exact light_no (by rfl) | ((first | apply light_plain rfl | apply light_yes (by rfl)); intro w9 hw9; obtain ⟨hb9, hh9⟩ := hw9; skip; go_simp; try rfl)
  (try simp only [Act.put, List.setIfInBounds_toArray, List.set_cons_zero, List.set_cons_succ])
  apply flock_light rfl
  case h => first | exact light_no (by rfl) | ((first | apply light_plain rfl | apply light_yes (by rfl)); intro w9 hw9; obtain ⟨hb9, hh9⟩ := hw9; have hB9 : Below w1.heap.size w1 w9 := (by (repeat' first | with_reducible (first | exact Below.refl _ _ | assumption | refine Below.alloc ?_ ?_ _ | refine below_drewN ?_ _ | refine Below.drew ?_ | refine Below.setCell ?_ ?_ _ | refine Below.trans ?_ (Below.mono (by with_reducible assumption) ?_)) | go_size)); obtain ⟨kc9, kf9, s9⟩ := bfacts hb9; obtain ⟨kd9, kg9, _⟩ := bfacts hB9; skip; go_simp; try rfl)
  (try simp only [Act.put, List.setIfInBounds_toArray, List.set_cons_zero, List.set_cons_succ])
  refine flock_heavy _ rfl ?_ ?_
  · intro w9 hb9 hh9
    have hB9 : Below w1.heap.size w1 w9 := (by (repeat' first | with_reducible (first | exact Below.refl _ _ | assumption | refine Below.alloc ?_ ?_ _ | refine below_drewN ?_ _ | refine Below.drew ?_ | refine Below.setCell ?_ ?_ _ | refine Below.trans ?_ (Below.mono (by with_reducible assumption) ?_)) | go_size))
    obtain ⟨kc9, kf9, s9⟩ := bfacts hb9
    obtain ⟨kd9, kg9, _⟩ := bfacts hB9
    skip
    go_wp2_with (go_at_call 56; refine (CC.out _ hB9).mono ?_; rintro e w6 ⟨v6, rfl, hO6, hb6⟩)
    refine grewTo_at (by rfl) (by (repeat' first | with_reducible (first | exact Below.refl _ _ | assumption | refine Below.alloc ?_ ?_ _ | refine below_drewN ?_ _ | refine Below.drew ?_ | refine Below.setCell ?_ ?_ _ | refine Below.trans ?_ (Below.mono (by with_reducible assumption) ?_)) | go_size)) ?_
    exact own_lessT hO6 (by go_size)
  intro x2 ok2
  (try simp only [Act.put, List.setIfInBounds_toArray, List.set_cons_zero, List.set_cons_succ])
  (try dsimp only [Hv.own, Hv.is, Hv.lit, Hv.box, Hv.sl] at ok2)
  first | subst ok2 | (obtain ⟨A2, c2, ok2⟩ := ok2; subst ok2) | (obtain ⟨A2, ok2⟩ := ok2; subst ok2) | skip
  apply flock_light rfl
  case h => first | exact light_no (by rfl) | ((first | apply light_plain rfl | apply light_yes (by rfl)); intro w9 hw9; obtain ⟨hb9, hh9⟩ := hw9; skip; go_simp; try rfl)
  (try simp only [Act.put, List.setIfInBounds_toArray, List.set_cons_zero, List.set_cons_succ])
  apply flock_light rfl
  case h => first | exact light_no (by rfl) | ((first | apply light_plain rfl | apply light_yes (by rfl)); intro w9 hw9; obtain ⟨hb9, hh9⟩ := hw9; have hB9 : Below w1.heap.size w1 w9 := (by (repeat' first | with_reducible (first | exact Below.refl _ _ | assumption | refine Below.alloc ?_ ?_ _ | refine below_drewN ?_ _ | refine Below.drew ?_ | refine Below.setCell ?_ ?_ _ | refine Below.trans ?_ (Below.mono (by with_reducible assumption) ?_)) | go_size)); obtain ⟨kc9, kf9, s9⟩ := bfacts hb9; obtain ⟨kd9, kg9, _⟩ := bfacts hB9; skip; go_simp; try rfl)
  (try simp only [Act.put, List.setIfInBounds_toArray, List.set_cons_zero, List.set_cons_succ])
  refine flock_nil ?_
  intro w9 hb9 hh9
  have hB9 : Below w1.heap.size w1 w9 := (by (repeat' first | with_reducible (first | exact Below.refl _ _ | assumption | refine Below.alloc ?_ ?_ _ | refine below_drewN ?_ _ | refine Below.drew ?_ | refine Below.setCell ?_ ?_ _ | refine Below.trans ?_ (Below.mono (by with_reducible assumption) ?_)) | go_size))
  have r2 := hh9 _ (.head _); dsimp only [Hv.own, Hv.is, Hv.lit, Hv.box, Hv.sl] at r2; (first | replace r2 := lit_heap r2 | replace r2 := box_heap r2 | skip); clear hh9
  (try dsimp only)
  have RO := Lib.hid r2
  have HB9 := Lib.hid hB9
  have hs9 := hB9.size
  have H29 := Lib.hid (SL.below (H2.out.on hB0) hB9)
  clear r2 hb9 hB9
  go_upto_region 5 with (at_builtin; refine wpList_append_SL (B := w1.heap.size) rfl (.tmp 19) (.tmp 21) _ rfl w1.heap.size 35 i3 _ 32 Tryd.underlying22 IV.out.1 IV.out.2.1 IV.out.2.2.1 IV.out.2.2.2 rfl (by omega) rfl RO.out rfl H29.out (one_pars f.arrays) (by simp only [maxLen]; omega) (by omega) (by omega) ?_; intro v7 w7 hown7 hg7 hat7; obtain ⟨A8, c8, rfl, _, _⟩ := SL.form (SL.of_own hown7))
  have hb7 : Below w1.heap.size w1 w7 := HB9.out.grown hg7 hs9 (fun k hk => (RO.out.lt k hk).1)
  obtain ⟨all, hall⟩ : ∃ all, f.params ++ f.arrays = all := ⟨_, rfl⟩
  obtain ⟨n, hn⟩ : ∃ n, f.params.length + f.arrays.length = n := ⟨_, rfl⟩
  have hal : all.length = n := by rw [← hall, ← hn]; simp
  have HALL := Lib.hid (show RPars w7 (.slice A8 all.length c8) all by
    have h := SL.of_own hown7
    show SL w7 w7.heap.size 3 _ all.length (all.flatMap cellsP)
    rw [hal, ← hall, List.flatMap_append, ← hn]
    exact h)
  rw [hal] at HALL
  rw [hall] at HE
  rw [hn]
  have HAL := Lib.hid hal
  have hn10 : n ≤ 2000000 := by omega
  have HB7 := Lib.hid (hB0.trans (hb7.mono hB0.size))
  have K0 := Lib.hid ((hb7.block w.heap.size z1).trans R0.out)
  have HNN := Lib.hid hn
  clear hown7 hg7 hat7 hb7 hal hall hn R0 RO HB9 hs9 H29 CC IV k10 k11 z1 hB0
  go_loopw [25] (fun zz wr => ∃ i : Nat, i ≤ n ∧ zz = .int .i64 (i : Int) ∧ Hid (Ev.twiceTo all i = false) ∧ Below w7.heap.size w7 wr) (fun zz _ => n - (intOf zz).toNat)
  case atStart => exact ⟨0, by omega, rfl, Lib.hid rfl, by (repeat' first | with_reducible (first | exact Below.refl _ _ | assumption | refine Below.alloc ?_ ?_ _ | refine below_drewN ?_ _ | refine Below.drew ?_ | refine Below.setCell ?_ ?_ _ | refine Below.trans ?_ (Below.mono (by with_reducible assumption) ?_)) | go_size)⟩
  case round =>
  obtain ⟨i, hi, rfl, HT, hbr⟩ := hrel
  have HAR := Lib.hid (show RPars wr (.slice A8 all.length c8) all by have h := HALL.out; rw [← HAL.out] at h; exact h.on hbr)
  by_cases hlt : i < n
  case pos =>
    have hlt2 : (i : Int) < (f.params.length : Int) + (f.arrays.length : Int) := by have := HNN.out; omega
    obtain ⟨p, hp⟩ : ∃ p, all[i]? = some p := ⟨_, List.getElem?_eq_getElem (by rw [HAL.out]; exact hlt)⟩
    have HPT := Lib.hid (show RPars wr (.slice A8 i c8) (all.take i) from RPars.take HAR.out i (by rw [HAL.out]; omega))
    have HTK := Lib.hid (show Ev.nameI (all.take i) p.name = Ev.nameTo all p.name i from Ev.nameI_take all p.name i (by rw [HAL.out]; omega))
    have HFW := Lib.hid (show ((all.take i).length * 32 ≤ 140737488351232) by rw [List.length_take, HAL.out]; omega)
    have CF := Lib.hid (fun u (hu : Below wr.heap.size wr u) => find_any (all.take i) (.slice A8 i c8) p.name u (HPT.out.on hu) HFW.out)
    rw [HTK.out] at CF
    have HTN := Lib.hid (Ev.twice_next HT.out hp)
    have h8 : ∃ ba oa, A8 = some ⟨ba, oa, none⟩ ∧ ba < wr.heap.size ∧ wr.cell? ⟨ba, oa + i * 3, none⟩ = some (.string ⟨p.name.toArray⟩) ∧ wr.cell? ⟨ba, oa + i * 3 + 1, none⟩ = some (.bool p.secret) ∧ wr.cell? ⟨ba, oa + i * 3 + 2, none⟩ = some (.int .i64 p.size) := by
      rcases (RPars.at_ HAR.out).2 with h | ⟨ba, oa, e, hb, hpa⟩
      · rw [h] at hp; simp at hp
      · exact ⟨ba, oa, e, hb, hpa i p hp⟩
    obtain ⟨ba, oa, rfl, hba, p0, p1, p2⟩ := h8
    clear hp HTK
    go_upto_region 7 with fail
    have bA : Below wr.heap.size wr (wr.alloc (.cells #[.string ⟨p.name.toArray⟩, .bool p.secret, .int .i64 p.size] 35)) := (Below.refl _ _).alloc (Nat.le_refl _) _
    have rA := heap_alloc_new wr (.cells #[.string ⟨p.name.toArray⟩, .bool p.secret, .int .i64 p.size] 35)
    have CF2 := Lib.hid (fun u hu => CF.out u (bA.trans (Below.mono hu bA.size)))
    have HBA := Lib.hid (hbr.trans (bA.mono hbr.size))
    clear p0 p1 p2 CF
    generalize wr.alloc (.cells #[.string ⟨p.name.toArray⟩, .bool p.secret, .int .i64 p.size] 35) = wA at *
    have q0 : wA.cell? ⟨wr.heap.size, 0, none⟩ = some (.string ⟨p.name.toArray⟩) := cell_of_block rA 0
    have zA := (Array.getElem?_eq_some_iff.1 rA).1
    clear rA bA
    by_cases hf : 0 ≤ Ev.nameTo all p.name i
    case pos =>
      have gf : decide (0 ≤ Ev.nameTo all p.name i) = true := decide_eq_true hf
      have HX := Lib.hid (show (7 : Int) = R by
        have h1 : Ev.twiceTo all (i + 1) = true := by rw [HTN.out, gf]
        have h2 := Ev.twice_mono all all.length (i + 1) (by rw [HAL.out]; omega) h1
        rw [← HE.out, if_pos h2])
      clear hf
      refine wp_region_chain (fun w' => Below (wA).heap.size (wA) w') (by kernel_rfl) (by kernel_rfl) (by (repeat' first | with_reducible (first | exact Below.refl _ _ | assumption | refine Below.alloc ?_ ?_ _ | refine below_drewN ?_ _ | refine Below.drew ?_ | refine Below.setCell ?_ ?_ _ | refine Below.trans ?_ (Below.mono (by with_reducible assumption) ?_)) | go_size)) ?_
      repeat (
        apply chain_cons
        case h =>
          refine fun w9 hb9 => ?_
          have hB9 : Below wA.heap.size wA w9 := by (repeat' first | with_reducible (first | exact Below.refl _ _ | assumption | refine Below.alloc ?_ ?_ _ | refine below_drewN ?_ _ | refine Below.drew ?_ | refine Below.setCell ?_ ?_ _ | refine Below.trans ?_ (Below.mono (by with_reducible assumption) ?_)) | go_size)
          obtain ⟨kc9, kf9, s9⟩ := bfacts hb9
          obtain ⟨kd9, kg9, _⟩ := bfacts hB9
          go_wp2_with (fail)
          (try (go_at_call 57; refine (CF2.out _ hb9).mono ?_; rintro _ _ ⟨rfl, hb8⟩; go_wp2_with fail))
          refine settled_intro (S := fun w' => Below (wA).heap.size (wA) w') ?_
          (repeat' first | with_reducible (first | exact Below.refl _ _ | assumption | refine Below.alloc ?_ ?_ _ | refine below_drewN ?_ _ | refine Below.drew ?_ | refine Below.setCell ?_ ?_ _ | refine Below.trans ?_ (Below.mono (by with_reducible assumption) ?_)) | go_size)
        case hp => first | rfl | (simp only [*]; done) | (simp only [*]; rfl))
      refine chain.nil ?_
      refine fun w7 hb7 => ?_
      have B7 : Below wA.heap.size wA w7 := by (repeat' first | with_reducible (first | exact Below.refl _ _ | assumption | refine Below.alloc ?_ ?_ _ | refine below_drewN ?_ _ | refine Below.drew ?_ | refine Below.setCell ?_ ?_ _ | refine Below.trans ?_ (Below.mono (by with_reducible assumption) ?_)) | go_size)
      obtain ⟨kc7, kf7, s7⟩ := bfacts hb7
      obtain ⟨kd7, kg7, _⟩ := bfacts B7
      (try simp only [World.size_alloc, World.size_setCell, World.size_drew, World.heap_drewN, Nat.add_one_le_iff] at s7)
      clear hb7
      have hb7 := B7
      clear B7
      have B7 : Hid (Below wA.heap.size wA w7) := hb7
      (try have z7 : wA.heap.size < w7.heap.size := by omega)
      (try dsimp only)
      go_wp2_with fail
      go_ret
      exact ⟨by rw [← HX.out]; rfl, HB7.out.trans (Below.mono (HBA.out.trans (hb7.mono HBA.out.size)) HB7.out.size)⟩
    case neg =>
      have gf : decide (0 ≤ Ev.nameTo all p.name i) = false := decide_eq_false hf
      have HX := Lib.hid (show Ev.twiceTo all (i + 1) = false by rw [HTN.out, gf])
      clear hf
      refine wp_region_chain (fun w' => Below (wA).heap.size (wA) w') (by kernel_rfl) (by kernel_rfl) (by (repeat' first | with_reducible (first | exact Below.refl _ _ | assumption | refine Below.alloc ?_ ?_ _ | refine below_drewN ?_ _ | refine Below.drew ?_ | refine Below.setCell ?_ ?_ _ | refine Below.trans ?_ (Below.mono (by with_reducible assumption) ?_)) | go_size)) ?_
      repeat (
        apply chain_cons
        case h =>
          refine fun w9 hb9 => ?_
          have hB9 : Below wA.heap.size wA w9 := by (repeat' first | with_reducible (first | exact Below.refl _ _ | assumption | refine Below.alloc ?_ ?_ _ | refine below_drewN ?_ _ | refine Below.drew ?_ | refine Below.setCell ?_ ?_ _ | refine Below.trans ?_ (Below.mono (by with_reducible assumption) ?_)) | go_size)
          obtain ⟨kc9, kf9, s9⟩ := bfacts hb9
          obtain ⟨kd9, kg9, _⟩ := bfacts hB9
          go_wp2_with (fail)
          (try (go_at_call 57; refine (CF2.out _ hb9).mono ?_; rintro _ _ ⟨rfl, hb8⟩; go_wp2_with fail))
          refine settled_intro (S := fun w' => Below (wA).heap.size (wA) w') ?_
          (repeat' first | with_reducible (first | exact Below.refl _ _ | assumption | refine Below.alloc ?_ ?_ _ | refine below_drewN ?_ _ | refine Below.drew ?_ | refine Below.setCell ?_ ?_ _ | refine Below.trans ?_ (Below.mono (by with_reducible assumption) ?_)) | go_size)
        case hp => first | rfl | (simp only [*]; done) | (simp only [*]; rfl))
      refine chain.nil ?_
      refine fun w7 hb7 => ?_
      have B7 : Below wA.heap.size wA w7 := by (repeat' first | with_reducible (first | exact Below.refl _ _ | assumption | refine Below.alloc ?_ ?_ _ | refine below_drewN ?_ _ | refine Below.drew ?_ | refine Below.setCell ?_ ?_ _ | refine Below.trans ?_ (Below.mono (by with_reducible assumption) ?_)) | go_size)
      obtain ⟨kc7, kf7, s7⟩ := bfacts hb7
      obtain ⟨kd7, kg7, _⟩ := bfacts B7
      (try simp only [World.size_alloc, World.size_setCell, World.size_drew, World.heap_drewN, Nat.add_one_le_iff] at s7)
      clear hb7
      have hb7 := B7
      clear B7
      have B7 : Hid (Below wA.heap.size wA w7) := hb7
      (try have z7 : wA.heap.size < w7.heap.size := by omega)
      (try dsimp only)
      go_wp2_with fail
      go_roundw
      case rel => exact ⟨i + 1, by omega, by go_num, HX, HBA.out.trans (hb7.mono HBA.out.size)⟩
      case measure => simp [intOf]; omega
  case neg =>
  have hlt2 : ¬ (i : Int) < (f.params.length : Int) + (f.arrays.length : Int) := by have := HNN.out; omega
  have HX := Lib.hid (show (Ev.blC f.arrays f.params false ⟨0, 0⟩ f.body).1 = R by
    have h : i = all.length := by rw [HAL.out]; omega
    have h2 := HT.out
    rw [h] at h2
    rw [← HE.out, if_neg (by rw [h2]; decide)])
  have HBR := Lib.hid (HB7.out.trans (hbr.mono HB7.out.size))
  have r0 := (hbr.block w.heap.size (Array.getElem?_eq_some_iff.1 K0.out).1).trans K0.out
  have k10 : wr.cell? ⟨w.heap.size, 0, none⟩ = some (.slice a1 f.params.length m1) := cell_of_block r0 0
  have k11 : wr.cell? ⟨w.heap.size, 1, none⟩ = some (.slice a2 f.arrays.length m2) := cell_of_block r0 1
  have k12 : wr.cell? ⟨w.heap.size, 2, none⟩ = some (.slice a3 f.body.length m3) := cell_of_block r0 2
  have z1 := (Array.getElem?_eq_some_iff.1 r0).1
  have HBR2 := Lib.hid (HBR.out.mono (Nat.le_refl _))
  clear r0 hbr
  go_upto_region 11 with fail
  have bA : Below wr.heap.size wr (wr.alloc (.cells #[.slice a2 f.arrays.length m2, .int .i64 0, .int .i64 0] 94)) := (Below.refl _ _).alloc (Nat.le_refl _) _
  have rA := heap_alloc_new wr (.cells #[.slice a2 f.arrays.length m2, .int .i64 0, .int .i64 0] 94)
  have q10 := (bA.cell (p := ⟨w.heap.size, 0, none⟩) z1).trans k10
  have q12 := (bA.cell (p := ⟨w.heap.size, 2, none⟩) z1).trans k12
  have HBA := Lib.hid (HBR.out.trans (bA.mono HBR.out.size))
  have hsw : w.heap.size ≤ wr.heap.size := HBR.out.size
  have sA := bA.size
  clear k10 k11 k12 bA
  generalize wr.alloc (.cells #[.slice a2 f.arrays.length m2, .int .i64 0, .int .i64 0] 94) = wA at *
  have LK : LkOk wA wr.heap.size f.arrays (.slice a2 f.arrays.length m2) ⟨0, 0⟩ := ⟨⟨rA, H2.out.on HBA.out⟩, fun a n c e => by have := H5.out a n c e; show a.block ≠ _; omega⟩
  have NM : NmAt wA wr.heap.size (.slice a1 f.params.length m1) f.params := ⟨H1.out.on HBA.out, fun a n c e => by have := H4.out a n c e; show a.block ≠ _; omega⟩
  have CB := Lib.hid (lookBlock_all 10 f.body f.arrays f.params (.slice a2 f.arrays.length m2) (.slice a1 f.params.length m1) (.slice a3 f.body.length m3) ⟨0, 0⟩ wr.heap.size false wA (fun k => k < w.heap.size) (fun j hj => by omega) LK NM (RStL.on H3.out HBA.out) HW.out (by show f.arrays.length * 32 ≤ 140737488351232; omega) ⟨by show (f.params.length : Int) ≤ 0 + 4; omega, Int.le_refl _, by show (0 : Int) ≤ 300; omega, Int.le_refl _, by show (0 : Int) ≤ 24; omega⟩)
  clear LK NM rA
  have zA : w.heap.size < wA.heap.size := by omega
  go_wp2_with (go_at_call 58; refine CB.out.mono ?_; rintro r w5 ⟨rfl, hF5, _⟩)
  go_ret
  refine ⟨by rw [← HX.out]; rfl, ?_⟩
  exact ⟨hF5.os.trans HBA.out.os, hF5.tape.trans HBA.out.tape, hF5.output.trans HBA.out.output, Nat.le_trans HBA.out.size hF5.size, fun k hk => (hF5.block k (by have := HBA.out.size; omega) (by omega)).trans (HBA.out.block k hk)⟩
end Go.Proofs.YtpbflgemhcaooaaDoor
/- evref1's checker: its maps; a place of an array. -/
namespace Go.Proofs.YtpbflgemhcaooaaDoor
open Go.RowKit
set_option linter.unusedSimpArgs false
set_option linter.unusedVariables false
def vV (p : Ev.Par) : Value := .agg #[.bool p.secret, .bool (decide (p.size < 0))]
def nmF (l : List Ev.Par) : SMapF := fun s => (Ev.findP l s).map vV
def arF (l : List Ev.Par) : SMapF := fun s => (Ev.findP l s).map parV
theorem nmF_snoc (l : List Ev.Par) (p : Ev.Par) : nmF (l ++ [p]) = smapPut (nmF l) p.name (some (vV p)) := by
  funext s
  unfold nmF smapPut
  rw [Ev.findP_snoc]
  by_cases h : p.name = s
  · rw [if_pos h, if_pos h.symm]; rfl
  · rw [if_neg h, if_neg (fun e => h e.symm)]
theorem arF_snoc (l : List Ev.Par) (p : Ev.Par) : arF (l ++ [p]) = smapPut (arF l) p.name (some (parV p)) := by
  funext s
  unfold arF smapPut
  rw [Ev.findP_snoc]
  by_cases h : p.name = s
  · rw [if_pos h, if_pos h.symm]; rfl
  · rw [if_neg h, if_neg (fun e => h e.symm)]
theorem nmF_back (l : List Ev.Par) (s : List UInt8) (v : Value) (h : Ev.findP l s = none) : smapPut (smapPut (nmF l) s (some v)) s none = nmF l := by
  funext q
  unfold smapPut nmF
  by_cases e : q = s
  · rw [if_pos e, e, h]; rfl
  · rw [if_neg e, if_neg e]
theorem SMapIn.look {w : World} {b : Nat} {m : SMapF} (h : SMapIn w b m) {T e : TypeId} {z : Value} (ht : Tryd.prog.underlying T = some (.map 9 e)) (hz : ∀ u, (zeroValue e).run Tryd.prog u = .ok z u) {p : List UInt8} (hp : InS p) (ok : Bool) {r : Option Value} (hr : m p = r) :
    ∀ u, Below w.heap.size w u → (Go.Instr.lookup T (.map (some b)) (.string ⟨p.toArray⟩) ok).run Tryd.prog u = .ok (if ok then .tuple #[r.getD z, .bool r.isSome] else r.getD z) u := fun u hu => by
  rw [← hr]
  exact (h.on hu).lookup ht (hz u) hp ok
/-- the checker's block, its map of arrays -/
structure KAt (w : World) (kb ab : Nat) (A : List Ev.Par) (k : Ev.LK) : Prop where
  r : w.heap[kb]? = some (.cells #[.map (some ab), .int .i64 k.work, .int .i64 k.lets] 99 (0, 0))
  m : SMapIn w ab (arF A)
theorem KAt.lt {w : World} {kb ab : Nat} {A : List Ev.Par} {k : Ev.LK} (h : KAt w kb ab A k) : kb < w.heap.size := (Array.getElem?_eq_some_iff.1 h.r).1
theorem KAt.on {w w' : World} {kb ab : Nat} {A : List Ev.Par} {k : Ev.LK} (h : KAt w kb ab A k) (hb : Below w.heap.size w w') : KAt w' kb ab A k := ⟨(hb.block kb h.lt).trans h.r, h.m.on hb⟩
theorem KAt.cell {w : World} {kb ab : Nat} {A : List Ev.Par} {k : Ev.LK} (h : KAt w kb ab A k) (j : Nat) : w.cell? ⟨kb, j, none⟩ = #[.map (some ab), .int .i64 k.work, .int .i64 k.lets][j]? := cell_of_block h.r j
theorem KAt.ne {w : World} {kb ab : Nat} {A : List Ev.Par} {k : Ev.LK} (h : KAt w kb ab A k) : ab ≠ kb := fun e => by
  obtain ⟨es, c, h1, _⟩ := h.m
  rw [e, h.r] at h1
  cases h1
theorem place_eq (A : List Ev.Par) (nm : List UInt8) (e : Ev.Ex) (secret dark : Bool) (p : Ev.Par) (h : Ev.findP A nm = some p) : Ev.plC A nm e secret dark = if secret = true then (false, 10) else if dark = true ∧ (e.kind ≠ 1 ∨ p.size ≤ e.n) then (false, 10) else (p.secret, 0) := by
  unfold Ev.plC
  rw [h]
set_option maxRecDepth 6000 in
set_option maxHeartbeats 3200000 in
theorem place_any (A : List Ev.Par) (k : Ev.LK) (kb ab : Nat) (nm : List UInt8) (hn : InS nm) (e : Ev.Ex) (vx : Value) (hs : ∃ a c, vx = .slice a e.args.length c) (secret dark : Bool) (w : World) (hk : KAt w kb ab A k) :
    Calls Tryd.prog 92 #[.pointer (some ⟨kb, 0, none⟩), .string ⟨(nm).toArray⟩, exV e vx, .bool secret, .bool dark] w fun r w' => r = .returned (.tuple #[.bool (Ev.plC A nm e secret dark).1, .int .i64 (Ev.plC A nm e secret dark).2]) ∧ Below w.heap.size w w' := by
  obtain ⟨xa, xc, rfl⟩ := hs
  have HK := Lib.hid hk
  have k0 : w.cell? ⟨kb, 0, none⟩ = some (.map (some ab)) := hk.cell 0
  have klt := hk.lt
  obtain ⟨R, hR⟩ : ∃ R, Ev.plC A nm e secret dark = R := ⟨_, rfl⟩
  rw [hR]
  unfold exV
  cases hf : Ev.findP A nm with
  | none =>
    have HP := Lib.hid (show (false, (6 : Int)) = R by rw [← hR]; unfold Ev.plC; rw [hf])
    have HLK := Lib.hid (hk.m.look (T := 97) Tryd.underlying97 (fun u => Tryd.zeroValue35 u) hn true (r := none) (by unfold arF; rw [hf]; rfl))
    simp only [Option.getD_none, Option.isSome_none, if_true] at HLK
    clear hk hR hf
    go_enter Tryd.func92, Tryd.ntmps92
    go_wp2_with (at_lookup; refine wpList_lookupS_at rfl _ _ 97 true rfl rfl rfl (HLK.out _ (by (repeat' first | with_reducible (first | exact Below.refl _ _ | assumption | refine Below.alloc ?_ ?_ _ | refine below_drewN ?_ _ | refine Below.drew ?_ | refine Below.setCell ?_ ?_ _ | refine Below.trans ?_ (Below.mono (by with_reducible assumption) ?_)) | go_size))) ?_)
    go_ret2
    exact ⟨by rw [← HP.out]; rfl, by (repeat' first | with_reducible (first | exact Below.refl _ _ | assumption | refine Below.alloc ?_ ?_ _ | refine below_drewN ?_ _ | refine Below.drew ?_ | refine Below.setCell ?_ ?_ _ | refine Below.trans ?_ (Below.mono (by with_reducible assumption) ?_)) | go_size)⟩
  | some p =>
    have HP := Lib.hid (show (if secret = true then (false, 10) else if dark = true ∧ (e.kind ≠ 1 ∨ p.size ≤ e.n) then (false, 10) else (p.secret, 0)) = R by rw [← hR, place_eq A nm e secret dark p hf])
    have HLK := Lib.hid (hk.m.look (T := 97) Tryd.underlying97 (fun u => Tryd.zeroValue35 u) hn true (r := some (parV p)) (by unfold arF; rw [hf]; rfl))
    simp only [Option.getD_some, Option.isSome_some, if_true] at HLK
    unfold parV at HLK
    clear hk hR hf
    go_enter Tryd.func92, Tryd.ntmps92
    go_upto_region 4 with (at_lookup; refine wpList_lookupS_at rfl _ _ 97 true rfl rfl rfl (HLK.out _ (by (repeat' first | with_reducible (first | exact Below.refl _ _ | assumption | refine Below.alloc ?_ ?_ _ | refine below_drewN ?_ _ | refine Below.drew ?_ | refine Below.setCell ?_ ?_ _ | refine Below.trans ?_ (Below.mono (by with_reducible assumption) ?_)) | go_size))) ?_)
    cases secret with
    | true =>
      have HX := Lib.hid (show (false, (10 : Int)) = R by rw [← HP.out]; rfl)
      go_wp2_with fail
      go_ret2
      exact ⟨by rw [← HX.out]; rfl, by (repeat' first | with_reducible (first | exact Below.refl _ _ | assumption | refine Below.alloc ?_ ?_ _ | refine below_drewN ?_ _ | refine Below.drew ?_ | refine Below.setCell ?_ ?_ _ | refine Below.trans ?_ (Below.mono (by with_reducible assumption) ?_)) | go_size)⟩
    | false =>
    cases dark with
    | false =>
      have HX := Lib.hid (show (p.secret, (0 : Int)) = R by rw [← HP.out]; simp)
      go_wp2_with fail
      go_ret2
      exact ⟨by rw [← HX.out]; rfl, by (repeat' first | with_reducible (first | exact Below.refl _ _ | assumption | refine Below.alloc ?_ ?_ _ | refine below_drewN ?_ _ | refine Below.drew ?_ | refine Below.setCell ?_ ?_ _ | refine Below.trans ?_ (Below.mono (by with_reducible assumption) ?_)) | go_size)⟩
    | true =>
    by_cases hkd : e.kind = 1
    case neg =>
      have g1 : (e.kind == 1) = false := beq_eq_false_iff_ne.2 hkd
      have HX := Lib.hid (show (false, (10 : Int)) = R by rw [← HP.out]; simp [hkd])
      clear hkd
      go_wp2_with fail
      go_ret2
      exact ⟨by rw [← HX.out]; rfl, by (repeat' first | with_reducible (first | exact Below.refl _ _ | assumption | refine Below.alloc ?_ ?_ _ | refine below_drewN ?_ _ | refine Below.drew ?_ | refine Below.setCell ?_ ?_ _ | refine Below.trans ?_ (Below.mono (by with_reducible assumption) ?_)) | go_size)⟩
    case pos =>
    have g1 : (e.kind == 1) = true := beq_iff_eq.2 hkd
    by_cases hnn : p.size ≤ e.n
    case pos =>
      have g2 : decide (e.n < p.size) = false := decide_eq_false (by omega)
      have HX := Lib.hid (show (false, (10 : Int)) = R by rw [← HP.out]; simp [hnn])
      clear hkd hnn
      go_wp2_with fail
      go_ret2
      exact ⟨by rw [← HX.out]; rfl, by (repeat' first | with_reducible (first | exact Below.refl _ _ | assumption | refine Below.alloc ?_ ?_ _ | refine below_drewN ?_ _ | refine Below.drew ?_ | refine Below.setCell ?_ ?_ _ | refine Below.trans ?_ (Below.mono (by with_reducible assumption) ?_)) | go_size)⟩
    case neg =>
      have g2 : decide (e.n < p.size) = true := decide_eq_true (by omega)
      have HX := Lib.hid (show (p.secret, (0 : Int)) = R by rw [← HP.out]; simp [hkd, hnn])
      clear hkd hnn
      go_wp2_with fail
      go_ret2
      exact ⟨by rw [← HX.out]; rfl, by (repeat' first | with_reducible (first | exact Below.refl _ _ | assumption | refine Below.alloc ?_ ?_ _ | refine below_drewN ?_ _ | refine Below.drew ?_ | refine Below.setCell ?_ ?_ _ | refine Below.trans ?_ (Below.mono (by with_reducible assumption) ?_)) | go_size)⟩
end Go.Proofs.YtpbflgemhcaooaaDoor
