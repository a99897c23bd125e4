import Derived.Test.YtpbflgemhcaooaaDoorPk26
import Derived.Test.YtpbflgemhcaooaaDoorPk24
import Derived.Test.YtpbflgemhcaooaaDoorPk8
import Derived.Test.YtpbflgemhcaooaaDoorPk4
import Derived.Test.YtpbflgemhcaooaaDoorPk25
import Derived.Deep.DeepCutAuto
/- eval: statements. -/
namespace Go.Proofs.YtpbflgemhcaooaaDoor
open Go.RowKit
set_option linter.unusedSimpArgs false
set_option linter.unusedVariables false
/-- a block at work: how far it came -/
structure BlAt (w wx : World) (tb fb lo hi : Nat) (va v2 : Value) (vs : List Value) (A : List Ev.Par) (dark : Bool) (bs : List Nat) (ts : List Ev.St1) (R : Ev.EO) (i : Nat) (bi : List Nat) (li : Ev.Nms) (ai : Ev.Ars) (ei : Option (Option Int)) : Prop where
  m : EvM wx tb fb lo hi va v2 vs A ai ei
  c : Chain wx bi li
  fr : SFr (MS lo hi tb bs) w wx
  ex : ∃ cs, bi = cs ++ bs ∧ ∀ c ∈ cs, w.heap.size ≤ c
  on : ei = none → ∃ Li, Ev.NmOk Li li ∧ Ev.WN li ∧ Ev.WA ai ∧ Ev.TyB A Li dark (ts.drop i) ∧ Ev.blE A li ai (ts.drop i) = R
  off : ei.isSome = true → R = ⟨li, ai, ei⟩
theorem bl_step {A : List Ev.Par} {ts : List Ev.St1} {i : Nat} {t : Ev.St1} (ht : ts[i]? = some t) (l : Ev.Nms) (a : Ev.Ars) : Ev.blE A l a (ts.drop i) = if (Ev.stE A l a t).e.isSome = true then Ev.stE A l a t else Ev.blE A (Ev.stE A l a t).l (Ev.stE A l a t).a (ts.drop (i + 1)) := by
  rw [drop_cons_at ht, Ev.blE_cons]
set_option maxRecDepth 6000 in
set_option maxHeartbeats 6400000 in
theorem evBlock (d : Nat) (ih : ∀ d', d = d' + 1 → EvSDo d') : EvBDo d := by
  intro ts A L dark l a bs tb fb lo hi va v2 v vs w K hin hr hK hw ht
  obtain ⟨aa, c, rfl⟩ := hr.slice
  have hfew := hr.fewT
  obtain ⟨R, hR⟩ : ∃ R, Ev.blE A l a ts = R := ⟨_, rfl⟩
  rw [hR]
  have HE := Lib.hid hR
  have HIN := Lib.hid hin
  have HR := Lib.hid hr
  have HKL := Lib.hid hK
  have HW := Lib.hid hw
  have HT := Lib.hid ht
  have HMS := Lib.hid (show ∀ k, k < lo → ¬ MS lo hi tb bs k from fun k hk h => by
    have h1 := hin.m.le
    have h2 := hin.m.tl
    rcases h with h | h | h
    · omega
    · omega
    · have := (hin.bl k h).1; omega)
  clear hR hin hr hK hw ht
  go_enter Tryd.func82, Tryd.ntmps82
  go_upto_region 1 with fail
  go_loopw [9, 2] (fun ii vv wr => ∃ (i : Nat) (bi : List Nat) (li : Ev.Nms) (ai : Ev.Ars) (ei : Option (Option Int)), i ≤ ts.length ∧ ii = .int .i64 (i : Int) ∧ vv = headP bi ∧ Hid (BlAt w wr tb fb lo hi va v2 vs A dark bs ts R i bi li ai ei)) (fun ii _ _ => ts.length - (intOf ii).toNat)
  case atStart => exact ⟨0, bs, l, a, none, by omega, rfl, rfl, Lib.hid ⟨HIN.out.m, HIN.out.c, SFr.refl _ _, ⟨[], rfl, fun c hc => by cases hc⟩, fun _ => ⟨L, HIN.out.nm, HIN.out.wn, HIN.out.wa, by rw [List.drop_zero]; exact HT.out, by rw [List.drop_zero]; exact HE.out⟩, fun h => by cases h⟩⟩
  case round =>
  obtain ⟨i, bi, li, ai, ei, hi', rfl, rfl, HB⟩ := hrel
  obtain ⟨hpo, hhp⟩ := headP_form bi
  have HHP := Lib.hid hhp
  rw [hhp]
  clear hhp
  have ztr := HB.out.m.lt
  by_cases hlt : i < ts.length
  case pos =>
    have c2 : wr.cell? ⟨tb, 2, none⟩ = some (.bool ei.isSome) := HB.out.m.cell 2
    cases ei with
    | some x =>
      have c2 : wr.cell? ⟨tb, 2, none⟩ = some (.bool true) := c2
      obtain ⟨cs, hcs, _⟩ := HB.out.ex
      have HX := Lib.hid (HB.out.off rfl)
      have HCS := Lib.hid hcs
      clear hcs
      go_wp2_with fail
      (try simp only [Exit.inBlock, Exit.then])
      refine bodyPost_ret (results_none rfl _ _ _) rfl ?_
      refine ⟨rfl, HB.out.fr, by rw [HX.out]; exact HB.out.m, cs, by rw [HX.out, ← HCS.out]; exact HB.out.c⟩
    | none =>
      have c2 : wr.cell? ⟨tb, 2, none⟩ = some (.bool false) := c2
      obtain ⟨t, htt⟩ : ∃ t, ts[i]? = some t := ⟨_, List.getElem?_eq_getElem hlt⟩
      have HLT := Lib.hid hlt
      have HTT := Lib.hid htt
      obtain ⟨d', b, off, c', x, hd, hva, hKb, hst, hpt⟩ := (RStL.sfr HR.out HB.out.fr (fun k hk => HMS.out k (HKL.out k hk))).el htt
      obtain ⟨h1, h2⟩ := slice_two hva
      clear hva
      subst h1 h2
      obtain ⟨Li, o1, o2, o3, o4, o5⟩ := HB.out.on rfl
      rw [drop_cons_at htt] at o4
      obtain ⟨o6, o7⟩ := o4.cons
      obtain ⟨cs, hcs, hcz⟩ := HB.out.ex
      have HCS := Lib.hid hcs
      have HCZ := Lib.hid hcz
      have HI := Lib.hid (show EvIn wr tb fb lo hi va v2 vs A Li ai li bi from ⟨HB.out.m, HB.out.c, fun c hc => by
        rw [HCS.out] at hc
        rcases List.mem_append.1 hc with hc | hc
        · have := HCZ.out c hc; have := HIN.out.m.lt; have := HIN.out.m.tl; omega
        · exact HIN.out.bl c hc, o1, o2, o3⟩)
      have hmt := List.mem_of_getElem? htt
      have CI := Lib.hid (ih d' hd t x A Li dark li ai bi tb fb lo hi va v2 vs b (off + i * 7) wr K HI.out hst (HKL.out b hKb) hpt HKL.out (HW.out t hmt) o6)
      rw [HHP.out] at CI
      have HP := Lib.hid (Ev.stE_pres A t li ai (HW.out t hmt) o2 o3)
      have HST := Lib.hid ((bl_step htt li ai).symm.trans o5)
      have HTY := Lib.hid o7
      have HN1 := Lib.hid o1
      clear htt hd hst hpt hKb o1 o2 o3 o4 o5 o6 o7 hcs hcz hmt ih
      go_wp2_with (go_at_call 103; refine CI.out.mono ?_; rintro r w5 ⟨b5, rfl, hF5, hM5, hC5, hb5⟩)
      go_roundw
      case rel =>
        refine ⟨i + 1, b5, (Ev.stE A li ai t).l, (Ev.stE A li ai t).a, (Ev.stE A li ai t).e, by have := HLT.out; omega, by go_num, rfl, Lib.hid ⟨hM5, hC5, ?_, ?_, fun he => ?_, fun he => ?_⟩⟩
        · refine HB.out.fr.trans hF5 (fun k hk h => ?_)
          rcases h with h | h | h
          · exact .inl h
          · exact .inr (.inl h)
          · rw [HCS.out] at h
            rcases List.mem_append.1 h with h | h
            · have := HCZ.out k h; omega
            · exact .inr (.inr h)
        · rcases hb5 with rfl | ⟨c, rfl, hc⟩
          · exact HB.out.ex
          · refine ⟨c :: cs, by rw [HCS.out]; rfl, fun k hk => ?_⟩
            rcases List.mem_cons.1 hk with rfl | hk
            · have := HB.out.fr.size; omega
            · exact HCZ.out k hk
        · have h := HST.out
          rw [if_neg (by rw [he]; decide)] at h
          exact ⟨_, Ev.nextN_ok HN1.out HP.out.2 he, HP.out.1.wn, HP.out.1.wa, HTY.out, h⟩
        · have h := HST.out
          rw [if_pos he] at h
          exact h.symm
      case measure => have := HLT.out; simp [intOf]; omega
  case neg =>
  obtain ⟨cs, hcs, _⟩ := HB.out.ex
  have HCS := Lib.hid hcs
  clear hcs
  have HX := Lib.hid (show R = ⟨li, ai, ei⟩ from by
    cases ei with
    | none =>
      obtain ⟨Li, o1, o2, o3, o4, o5⟩ := HB.out.on rfl
      rw [List.drop_eq_nil_of_le (by omega), Ev.blE_nil] at o5
      exact o5.symm
    | some x => exact HB.out.off rfl)
  go_wp2_with fail
  go_end0
  refine ⟨rfl, HB.out.fr, by rw [HX.out]; exact HB.out.m, cs, by rw [HX.out, ← HCS.out]; exact HB.out.c⟩
theorem evBlock_all : ∀ d, EvBDo d
  | 0 => evBlock 0 (fun d' h => (by omega))
  | d + 1 => evBlock (d + 1) (fun d' h => (by obtain rfl : d = d' := by omega
                                              exact evStmt d (evBlock_all d)))
end Go.Proofs.YtpbflgemhcaooaaDoor
/- What is given to a run, in memory. -/
namespace Go.Proofs.YtpbflgemhcaooaaDoor
open Go.RowKit
set_option linter.unusedSimpArgs false
set_option linter.unusedVariables false
def RGiven (w : World) (B : Nat) (v : Value) (g : Ev.Given) : Prop := ∃ vw va, v = .agg #[vw, va] ∧ RInts w B vw g.words ∧ RLists w B va g.arrays
theorem RGiven.at2 {w w' : World} {B : Nat} {v : Value} {g : Ev.Given} (h : RGiven w B v g) (hb : Below w.heap.size w w') (hB : B ≤ w.heap.size) : RGiven w' w'.heap.size v g := by
  obtain ⟨vw, va, h1, h2, h3⟩ := h
  exact ⟨vw, va, h1, SL.at_ h2 hb hB, h3.at_ hb hB⟩
end Go.Proofs.YtpbflgemhcaooaaDoor
/- A variable of a list, in memory. -/
namespace Go.Proofs.YtpbflgemhcaooaaDoor
open Go.RowKit
set_option linter.unusedSimpArgs false
set_option linter.unusedVariables false
theorem RVars.el {w : World} {B : Nat} {v : Value} {l : List Ev.Vr} (h : RVars w B v l) {k : Nat} {x : Ev.Vr} (hk : l[k]? = some x) :
    ∃ b o c, v = .slice (some ⟨b, o, none⟩) l.length c ∧ b < B ∧ k < l.length ∧ l.length ≤ c ∧ c ≤ maxLen ∧ w.cell? ⟨b, o + k * 3, none⟩ = some (.string ⟨x.name.toArray⟩) ∧ w.cell? ⟨b, o + k * 3 + 1, none⟩ = some (.bool x.secret) ∧ w.cell? ⟨b, o + k * 3 + 2, none⟩ = some (.int .i64 x.size) := by
  have hlt : k < l.length := (List.getElem?_eq_some_iff.1 hk).1
  obtain ⟨b, o, c, e, hb, h1, h2, hc⟩ := SL.row h (by omega)
  have hj := fun j u (hu : (cellsV x)[j]? = some u) => hc (k * 3 + j) u (flatMap_at cellsV (fun _ => rfl) l k _ j u hk hu)
  simp only [← Nat.add_assoc] at hj
  exact ⟨b, o, c, e, hb, hlt, h1, h2, hj 0 _ rfl, hj 1 _ rfl, hj 2 _ rfl⟩
end Go.Proofs.YtpbflgemhcaooaaDoor
/- The reference: a word's low bits, the world as it was. -/
namespace Go.Proofs.YtpbflgemhcaooaaDoor
open Go.RowKit
set_option linter.unusedSimpArgs false
set_option linter.unusedVariables false
set_option maxHeartbeats 400000 in
theorem low_same (a : Int) (w : World) :
    Calls Tryd.prog 68 #[.int .i64 a] w fun e w' => e = .returned (.int .i64 ((Ev.low a : Nat) : Int)) ∧ w' = w := by
  have ha := u32_low a
  have la := Ev.low_lt a
  generalize Ev.low a = x at *
  go_enter Tryd.func68, Tryd.ntmps68
  go_wp2
  go_ret
  exact ⟨rfl, rfl⟩
end Go.Proofs.YtpbflgemhcaooaaDoor
/- Integers' own zero. -/
namespace Go.Proofs.YtpbflgemhcaooaaDoor
open Go.RowKit
set_option linter.unusedSimpArgs false
set_option linter.unusedVariables false
theorem int_info : (Tryd.prog.info? 3).map (fun i => (i.zero, i.size, i.bytes)) = some (some (.int .i64 0), 1, 8) := by kernel_rfl
end Go.Proofs.YtpbflgemhcaooaaDoor
/- The reference: what may be given. -/
namespace Ev
def sizesOk (l : List (List Int)) (ay : List Vr) : Bool := (List.range l.length).all fun j => decide (((l.getD j []).length : Int) = (ay.getD j default).size)
/-- np: how many words; ay: the arrays -/
def fits (np : Nat) (ay : List Vr) (g : Given) : Int :=
  if g.words.length ≠ np ∨ g.arrays.length ≠ ay.length then 5 else if sizesOk g.arrays ay = false then 5 else if (g.words ++ g.arrays.flatten).all isWord then 0 else 3
theorem sizesOk_no {l : List (List Int)} {ay : List Vr} {j : Nat} (hj : j < l.length) (h : ((l.getD j []).length : Int) ≠ (ay.getD j default).size) : sizesOk l ay = false := by
  unfold sizesOk
  rw [List.all_eq_false]
  exact ⟨j, List.mem_range.2 hj, by simpa using h⟩
theorem sizesOk_yes {l : List (List Int)} {ay : List Vr} (h : ∀ j, j < l.length → ((l.getD j []).length : Int) = (ay.getD j default).size) : sizesOk l ay = true := by
  unfold sizesOk
  rw [List.all_eq_true]
  intro j hj
  simpa using h j (List.mem_range.1 hj)
theorem low_word {n : Int} (h : isWord n = true) : ((low n : Nat) : Int) = n := by
  unfold isWord at h
  simp at h
  unfold low
  omega
theorem low_noword {n : Int} (h : isWord n = false) : n ≠ ((low n : Nat) : Int) := by
  unfold isWord at h
  have : ¬ (0 ≤ n ∧ n ≤ 4294967295) := fun hh => by simp [hh.1, hh.2] at h
  unfold low
  omega
theorem flatten_take_snoc {l : List (List Int)} {j : Nat} {a : List Int} (h : l[j]? = some a) : (l.take (j + 1)).flatten = (l.take j).flatten ++ a := by
  rw [List.take_add_one, h]
  simp
theorem flatten_take_le (l : List (List Int)) (j : Nat) : (l.take j).flatten.length ≤ l.flatten.length := by
  conv => rhs; rw [← List.take_append_drop j l, List.flatten_append, List.length_append]
  omega
end Ev
namespace Go.Proofs.YtpbflgemhcaooaaDoor
open Go.RowKit
set_option linter.unusedSimpArgs false
set_option linter.unusedVariables false
set_option maxRecDepth 4000 in
set_option maxHeartbeats 3200000 in
theorem fits_any (ps ay : List Ev.Vr) (g : Ev.Given) (vp va vb vg : Value) (w : World) (hp : RVars w w.heap.size vp ps) (ha : RVars w w.heap.size va ay) (hb : ∃ A n c, vb = .slice A n c) (hg : RGiven w w.heap.size vg g) (hsum : g.words.length + g.arrays.flatten.length ≤ 1073741824) :
    Calls Tryd.prog 24 #[.agg #[vp, va, vb], vg] w fun e w' => e = .returned (.int .i64 (Ev.fits ps.length ay g)) ∧ Below w.heap.size w w' := by
  obtain ⟨Ab, nb, cb, rfl⟩ := hb
  obtain ⟨vw, vx, rfl, hw, hx⟩ := hg
  obtain ⟨Aw, cw, rfl, hw1, hw2⟩ := SL.form hw
  obtain ⟨vs0, hxl, hxs, hxe⟩ := hx
  obtain ⟨Ax, cx, rfl, hx1, hx2⟩ := SL.form hxs
  obtain ⟨Ap, cp, rfl, hp1, hp2⟩ := SL.form hp
  obtain ⟨Aa, ca, rfl, ha1, ha2⟩ := SL.form ha
  unfold maxLen at hw2 hx2 hp2 ha2
  have HA := Lib.hid ha
  have HW := Lib.hid hw
  have HXL := Lib.hid hxl
  have HXS := Lib.hid hxs
  have HXE := Lib.hid hxe
  obtain ⟨i0, hi0, hz0, hz1, hz2⟩ := info_parts int_info
  have II := Lib.hid (⟨hi0, hz0, hz1, hz2⟩ : _ ∧ _ ∧ _ ∧ _)
  clear hp ha hw hxl hxs hxe hi0 hz0 hz1 hz2
  unfold Ev.fits
  by_cases h1 : g.words.length = ps.length
  case neg =>
    rw [if_pos (.inl h1)]
    go_enter Tryd.func24, Tryd.ntmps24
    go_wp2
    go_ret
    exact ⟨rfl, by (repeat' first | with_reducible (first | exact Below.refl _ _ | assumption | refine Below.alloc ?_ ?_ _ | refine below_drewN ?_ _ | refine Below.drew ?_ | refine Below.setCell ?_ ?_ _ | refine Below.trans ?_ (Below.mono (by with_reducible assumption) ?_)) | go_size)⟩
  by_cases h2 : g.arrays.length = ay.length
  case neg =>
    rw [if_pos (.inr h2)]
    go_enter Tryd.func24, Tryd.ntmps24
    go_wp2
    go_ret
    exact ⟨rfl, by (repeat' first | with_reducible (first | exact Below.refl _ _ | assumption | refine Below.alloc ?_ ?_ _ | refine below_drewN ?_ _ | refine Below.drew ?_ | refine Below.setCell ?_ ?_ _ | refine Below.trans ?_ (Below.mono (by with_reducible assumption) ?_)) | go_size)⟩
  rw [if_neg (by omega)]
  generalize hres : (if Ev.sizesOk g.arrays ay = false then (5 : Int) else if (g.words ++ g.arrays.flatten).all Ev.isWord then 0 else 3) = res
  have HRES := Lib.hid hres
  clear hres
  have e1 : ((g.words.length : Int) != (ps.length : Int)) = false := by simp [h1]
  have e2 : ((g.arrays.length : Int) != (ay.length : Int)) = false := by simp [h2]
  have l1 : g.arrays.length ≤ ay.length := by omega
  have l2 : ay.length ≤ g.arrays.length := by omega
  clear h1 h2
  have n0 : ((w.alloc (.cells #[.slice Ap ps.length cp, .slice Aa ay.length ca, .slice Ab nb cb] 25)).alloc (.cells #[.slice Aw g.words.length cw, .slice Ax g.arrays.length cx] 49)).cell? ⟨w.heap.size, 0, none⟩ = some (.slice Ap ps.length cp) := by go_simp
  have n1 : ((w.alloc (.cells #[.slice Ap ps.length cp, .slice Aa ay.length ca, .slice Ab nb cb] 25)).alloc (.cells #[.slice Aw g.words.length cw, .slice Ax g.arrays.length cx] 49)).cell? ⟨w.heap.size, 1, none⟩ = some (.slice Aa ay.length ca) := by go_simp
  have n2 : ((w.alloc (.cells #[.slice Ap ps.length cp, .slice Aa ay.length ca, .slice Ab nb cb] 25)).alloc (.cells #[.slice Aw g.words.length cw, .slice Ax g.arrays.length cx] 49)).cell? ⟨w.heap.size + 1, 0, none⟩ = some (.slice Aw g.words.length cw) := by go_simp
  have n3 : ((w.alloc (.cells #[.slice Ap ps.length cp, .slice Aa ay.length ca, .slice Ab nb cb] 25)).alloc (.cells #[.slice Aw g.words.length cw, .slice Ax g.arrays.length cx] 49)).cell? ⟨w.heap.size + 1, 1, none⟩ = some (.slice Ax g.arrays.length cx) := by go_simp
  have sB : w.heap.size + 1 < ((w.alloc (.cells #[.slice Ap ps.length cp, .slice Aa ay.length ca, .slice Ab nb cb] 25)).alloc (.cells #[.slice Aw g.words.length cw, .slice Ax g.arrays.length cx] 49)).heap.size := by simp
  have BB := Lib.hid (show Below w.heap.size w ((w.alloc (.cells #[.slice Ap ps.length cp, .slice Aa ay.length ca, .slice Ab nb cb] 25)).alloc (.cells #[.slice Aw g.words.length cw, .slice Ax g.arrays.length cx] 49)) by (repeat' first | with_reducible (first | exact Below.refl _ _ | assumption | refine Below.alloc ?_ ?_ _ | refine below_drewN ?_ _ | refine Below.drew ?_ | refine Below.setCell ?_ ?_ _ | refine Below.trans ?_ (Below.mono (by with_reducible assumption) ?_)) | go_size))
  obtain ⟨wB, hwB⟩ : ∃ wB, (w.alloc (.cells #[.slice Ap ps.length cp, .slice Aa ay.length ca, .slice Ab nb cb] 25)).alloc (.cells #[.slice Aw g.words.length cw, .slice Ax g.arrays.length cx] 49) = wB := ⟨_, rfl⟩
  have HWB := Lib.hid hwB
  rw [hwB] at n0 n1 n2 n3 sB BB
  clear hwB
  go_enter Tryd.func24, Tryd.ntmps24
  go_upto_region 3 with fail
  rw [HWB.out]
  clear HWB
  go_wp2_with (at_builtin; refine wpList_append_SL (B := w.heap.size) rfl (.tmp 26) (.tmp 28) _ rfl wB.heap.size 3 i0 _ 8 Tryd.underlying46 II.out.1 II.out.2.1 II.out.2.2.1 II.out.2.2.2 rfl (by omega) rfl (World.ownsRow_made wB #[] 0 (Nat.le_refl _) (by simp [maxLen]) (by simp)) rfl (SL.below HW.out (by have := BB.out; (repeat' first | with_reducible (first | exact Below.refl _ _ | assumption | refine Below.alloc ?_ ?_ _ | refine below_drewN ?_ _ | refine Below.drew ?_ | refine Below.setCell ?_ ?_ _ | refine Below.trans ?_ (Below.mono (by with_reducible assumption) ?_)) | go_size))) (ints_oneCell _ g.words) (by simp only [maxLen]; omega) (by omega) (by go_size) ?_; intro v5 w5 hown5 hg5 hat5; have hb5 : Below wB.heap.size wB w5 := (by (repeat' first | with_reducible (first | exact Below.refl _ _ | assumption | refine Below.alloc ?_ ?_ _ | refine below_drewN ?_ _ | refine Below.drew ?_ | refine Below.setCell ?_ ?_ _ | refine Below.trans ?_ (Below.mono (by with_reducible assumption) ?_)) | go_size) : Below wB.heap.size wB _).grown hg5 (by go_size) (by intro k hk; have hk' : wB.heap.size = k := (Option.some.inj hk); omega); obtain ⟨kc5, kf5, s5⟩ := bfacts hb5; have z5 : w.heap.size + 1 < w5.heap.size := (by omega))
  simp only [Nat.zero_add, List.nil_append] at hown5
  have HO5 := Lib.hid hown5
  have HB5 := Lib.hid hb5
  clear kc5 kf5 hown5 hg5 hat5 hb5 e1 e2
  go_loopw [5, 33] (fun o u wr => ∃ (j : Nat) (M : List Int), j ≤ g.arrays.length ∧ u = .int .i64 j ∧ Hid (M = g.words ++ (g.arrays.take j).flatten) ∧ Hid (wr.ownsRow wB.heap.size 3 1 o M.length (M.map (Value.int .i64))) ∧ Hid (∀ m, m < j → ((g.arrays.getD m []).length : Int) = (ay.getD m default).size) ∧ Below wB.heap.size wB wr) (fun _ u _ => g.arrays.length - (intOf u).toNat)
  case atStart => exact ⟨0, g.words, by omega, rfl, by simp [Hid], HO5.out, fun m hm => absurd hm (by omega), HB5.out⟩
  case round =>
    clear HO5 HB5
    obtain ⟨j, M, hj, rfl, HMM, HO, HZ, hB⟩ := hrel
    have hs := hB.size
    have hBw : Below w.heap.size w wr := by have := BB.out; (repeat' first | with_reducible (first | exact Below.refl _ _ | assumption | refine Below.alloc ?_ ?_ _ | refine below_drewN ?_ _ | refine Below.drew ?_ | refine Below.setCell ?_ ?_ _ | refine Below.trans ?_ (Below.mono (by with_reducible assumption) ?_)) | go_size)
    obtain ⟨kd, kg, sd⟩ := bfacts hBw
    have m0 : wr.cell? ⟨w.heap.size, 1, none⟩ = some (.slice Aa ay.length ca) := (hB.cell (p := ⟨w.heap.size, 1, none⟩) (by show w.heap.size < _; omega)).trans n1
    obtain ⟨Ao, co, hvo, _, _⟩ := SL.form (SL.of_own HO.out)
    subst hvo
    by_cases hlt : j < g.arrays.length
    · obtain ⟨a, ha⟩ : ∃ a, g.arrays[j]? = some a := ⟨g.arrays[j], List.getElem?_eq_getElem hlt⟩
      obtain ⟨u0, hu0⟩ : ∃ u0, vs0[j]? = some u0 := ⟨vs0[j]'(by rw [HXL.out]; exact hlt), List.getElem?_eq_getElem _⟩
      obtain ⟨x, hx⟩ : ∃ x, ay[j]? = some x := ⟨ay[j]'(by omega), List.getElem?_eq_getElem _⟩
      obtain ⟨b1, o1, r1, hv, hb1, _, _, p1⟩ := SL.row HXS.out (by omega)
      injection hv with hA _ hcr
      subst hA hcr
      obtain ⟨b2, o2, r2, hv, hb2, _, _, _, q1, q2, q3⟩ := RVars.el HA.out hx
      injection hv with hA _ hcr
      subst hA hcr
      have p2 := p1 j u0 hu0
      have RA := Lib.hid (HXE.out j u0 a hu0 ha)
      obtain ⟨A0, c0, rfl, _, _⟩ := SL.form RA.out
      have HT := Lib.hid (Ev.flatten_take_snoc ha)
      have hle := Ev.flatten_take_le g.arrays (j + 1)
      rw [HT.out, List.length_append] at hle
      have hda : g.arrays.getD j [] = a := by rw [List.getD_eq_getElem?_getD, ha]; rfl
      have hdx : ay.getD j default = x := by rw [List.getD_eq_getElem?_getD, hx]; rfl
      have HDA := Lib.hid hda
      have HDX := Lib.hid hdx
      clear ha hu0 p1 hx hda hdx
      have hol : M.length = g.words.length + ((g.arrays.take j).flatten).length := by rw [HMM.out]; exact List.length_append
      by_cases hz : (a.length : Int) = x.size
      · have gz : ((a.length : Int) != x.size) = false := by simpa using hz
        have HZ2 := Lib.hid (show ∀ m, m < j + 1 → ((g.arrays.getD m []).length : Int) = (ay.getD m default).size from fun m hm => by
          by_cases hmj : m = j
          · subst hmj; rw [HDA.out, HDX.out]; exact hz
          · exact HZ.out m (by omega))
        clear hz
        have HOL := Lib.hid hol
        have hol2 : M.length + a.length ≤ 1073741824 := by omega
        clear hol
        go_wp2_with (at_builtin; refine wpList_append_SL (B := w.heap.size) rfl (.tmp 47) (.tmp 48) _ rfl wB.heap.size 3 i0 _ 8 Tryd.underlying46 II.out.1 II.out.2.1 II.out.2.2.1 II.out.2.2.2 rfl (by omega) rfl HO.out rfl (SL.below RA.out (by (repeat' first | with_reducible (first | exact Below.refl _ _ | assumption | refine Below.alloc ?_ ?_ _ | refine below_drewN ?_ _ | refine Below.drew ?_ | refine Below.setCell ?_ ?_ _ | refine Below.trans ?_ (Below.mono (by with_reducible assumption) ?_)) | go_size))) (ints_oneCell _ a) (by simp only [maxLen]; omega) (by omega) (by go_size) ?_; intro v6 w6 hown6 hg6 hat6)
        have hb6 := hB.grown hg6 hs (fun q hq => (HO.out.lt q hq).1)
        go_roundw
        case rel =>
          refine ⟨j + 1, M ++ a, by omega, by go_num, ?_, ?_, HZ2.out, hb6⟩
          · show M ++ a = _
            rw [HMM.out, HT.out, List.append_assoc]
          · show World.ownsRow _ _ _ _ _ _ _
            rw [List.length_append, List.map_append]
            exact hown6
        case measure => simp [intOf]; omega
      · have gz : ((a.length : Int) != x.size) = true := by simpa using hz
        have HN := Lib.hid (Ev.sizesOk_no hlt (by rw [HDA.out, HDX.out]; exact hz))
        clear hz
        go_wp2
        go_ret
        refine ⟨?_, by (repeat' first | with_reducible (first | exact Below.refl _ _ | assumption | refine Below.alloc ?_ ?_ _ | refine below_drewN ?_ _ | refine Below.drew ?_ | refine Below.setCell ?_ ?_ _ | refine Below.trans ?_ (Below.mono (by with_reducible assumption) ?_)) | go_size)⟩
        rw [← HRES.out, if_pos HN.out]
        rfl
    · have hje : j = g.arrays.length := by omega
      subst hje
      have HY := Lib.hid (Ev.sizesOk_yes HZ.out)
      rw [List.take_length] at HMM
      have HR2 := HRES.out
      rw [if_neg (by rw [HY.out]; decide)] at HR2
      have HRS := Lib.hid HR2
      clear HR2 HRES HZ HY
      rw [← HMM.out] at HRS
      have HLL := Lib.hid HMM.out.symm
      clear HMM
      generalize M = L at *
      have HRd : Hid (RInts wr wr.heap.size (.slice Ao L.length co) L) := SL.of_own HO.out
      have hLm : L.length ≤ 1073741824 := by
        have := HLL.out
        rw [← this, List.length_append]
        omega
      go_wp2_with fail
      go_loop [53] (fun u => ∃ q : Nat, q ≤ L.length ∧ u = .int .i64 q ∧ Hid (∀ x ∈ L.take q, Ev.isWord x = true)) (fun u => L.length - (intOf u).toNat)
      case atStart => exact ⟨0, by omega, rfl, by simp [Hid]⟩
      case round =>
        obtain ⟨q, hq, rfl, HP⟩ := hrel
        by_cases hqt : q < L.length
        · obtain ⟨x, hx⟩ : ∃ x, L[q]? = some x := ⟨L[q], List.getElem?_eq_getElem hqt⟩
          obtain ⟨b1, o1, r1, hv, hb1, _, _, _, p1⟩ := RInts.at_ HRd.out hx
          injection hv with hA _ hcr
          subst hA hcr
          have HX := Lib.hid hx
          clear hx
          cases hw : Ev.isWord x with
          | true =>
            have hx2 := Ev.low_word hw
            have HP2 := Lib.hid (show ∀ y ∈ L.take (q + 1), Ev.isWord y = true from fun y hy => by
              rw [List.take_add_one, HX.out] at hy
              rcases List.mem_append.1 hy with h | h
              · exact HP.out y h
              · simp at h; rw [h]; exact hw)
            have lx := Lib.hid (fun w => low_same x w)
            rw [hx2] at lx
            clear hx2 hw
            go_wp2_with (go_at_call 68; refine (lx.out _).mono ?_; rintro _ _ ⟨rfl, rfl⟩)
            go_round
            case rel => exact ⟨q + 1, by omega, by go_num, HP2⟩
            case measure => simp [intOf]; omega
          | false =>
            have gx := Ev.low_noword hw
            have HN := Lib.hid (show L.all Ev.isWord = false by
              rw [List.all_eq_false]
              exact ⟨x, List.mem_of_getElem? HX.out, by rw [hw]; decide⟩)
            clear hw
            have lx := Lib.hid (fun w => low_same x w)
            generalize ((Ev.low x : Nat) : Int) = lo at *
            go_wp2_with (go_at_call 68; refine (lx.out _).mono ?_; rintro _ _ ⟨rfl, rfl⟩)
            go_ret
            refine ⟨?_, by (repeat' first | with_reducible (first | exact Below.refl _ _ | assumption | refine Below.alloc ?_ ?_ _ | refine below_drewN ?_ _ | refine Below.drew ?_ | refine Below.setCell ?_ ?_ _ | refine Below.trans ?_ (Below.mono (by with_reducible assumption) ?_)) | go_size)⟩
            rw [← HRS.out, if_neg (by rw [HN.out]; decide)]
            rfl
        · have hqe : q = L.length := by omega
          subst hqe
          have HA2 := Lib.hid (show L.all Ev.isWord = true by
            rw [List.all_eq_true]
            intro y hy
            exact HP.out y (by rw [List.take_length]; exact hy))
          go_wp2
          go_ret
          refine ⟨?_, by (repeat' first | with_reducible (first | exact Below.refl _ _ | assumption | refine Below.alloc ?_ ?_ _ | refine below_drewN ?_ _ | refine Below.drew ?_ | refine Below.setCell ?_ ?_ _ | refine Below.trans ?_ (Below.mono (by with_reducible assumption) ?_)) | go_size)⟩
          rw [← HRS.out, if_pos HA2.out]
          rfl
end Go.Proofs.YtpbflgemhcaooaaDoor
