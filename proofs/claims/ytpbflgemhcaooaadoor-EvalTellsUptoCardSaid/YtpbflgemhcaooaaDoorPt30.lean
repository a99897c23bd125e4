import Derived.Test.YtpbflgemhcaooaaDoorPt19
import Derived.Test.YtpbflgemhcaooaaDoorPt12
import Derived.Test.YtpbflgemhcaooaaDoorPt8
import Derived.Test.YtpbflgemhcaooaaDoorPt20
import Derived.Deep.DeepCutAuto
import Derived.Test.YtpbflgemhcaooaaDoorPt11
/- What is given to a run, in memory. -/
namespace Go.Proofs.YtpbflgemhcaooaaDoor
open Go.RowKit
set_option linter.unusedSimpArgs false
set_option linter.unusedVariables false
def RGiven (w : World) (B : Nat) (v : Value) (g : Ev.Given) : Prop := ∃ vw va, v = .agg #[vw, va] ∧ RInts w B vw g.words ∧ RLists w B va g.arrays
theorem RGiven.at2 {w w' : World} {B : Nat} {v : Value} {g : Ev.Given} (h : RGiven w B v g) (hb : Below w.heap.size w w') (hB : B ≤ w.heap.size) : RGiven w' w'.heap.size v g := by
  obtain ⟨vw, va, h1, h2, h3⟩ := h
  exact ⟨vw, va, h1, SL.at_ h2 hb hB, h3.at_ hb hB⟩
end Go.Proofs.YtpbflgemhcaooaaDoor
/- A variable of a list, in memory. -/
namespace Go.Proofs.YtpbflgemhcaooaaDoor
open Go.RowKit
set_option linter.unusedSimpArgs false
set_option linter.unusedVariables false
theorem RVars.el {w : World} {B : Nat} {v : Value} {l : List Ev.Vr} (h : RVars w B v l) {k : Nat} {x : Ev.Vr} (hk : l[k]? = some x) :
    ∃ b o c, v = .slice (some ⟨b, o, none⟩) l.length c ∧ b < B ∧ k < l.length ∧ l.length ≤ c ∧ c ≤ maxLen ∧ w.cell? ⟨b, o + k * 3, none⟩ = some (.string ⟨x.name.toArray⟩) ∧ w.cell? ⟨b, o + k * 3 + 1, none⟩ = some (.bool x.secret) ∧ w.cell? ⟨b, o + k * 3 + 2, none⟩ = some (.int .i64 x.size) := by
  have hlt : k < l.length := (List.getElem?_eq_some_iff.1 hk).1
  obtain ⟨b, o, c, e, hb, h1, h2, hc⟩ := SL.row h (by omega)
  have hj := fun j u (hu : (cellsV x)[j]? = some u) => hc (k * 3 + j) u (flatMap_at cellsV (fun _ => rfl) l k _ j u hk hu)
  simp only [← Nat.add_assoc] at hj
  exact ⟨b, o, c, e, hb, hlt, h1, h2, hj 0 _ rfl, hj 1 _ rfl, hj 2 _ rfl⟩
end Go.Proofs.YtpbflgemhcaooaaDoor
/- The reference: a word's low bits, the world as it was. -/
namespace Go.Proofs.YtpbflgemhcaooaaDoor
open Go.RowKit
set_option linter.unusedSimpArgs false
set_option linter.unusedVariables false
set_option maxHeartbeats 400000 in
theorem low_same (a : Int) (w : World) :
    Calls Tryd.prog 68 #[.int .i64 a] w fun e w' => e = .returned (.int .i64 ((Ev.low a : Nat) : Int)) ∧ w' = w := by
  have ha := u32_low a
  have la := Ev.low_lt a
  generalize Ev.low a = x at *
  go_enter Tryd.func68, Tryd.ntmps68
  go_wp2
  go_ret
  exact ⟨rfl, rfl⟩
end Go.Proofs.YtpbflgemhcaooaaDoor
/- Integers' own zero. -/
namespace Go.Proofs.YtpbflgemhcaooaaDoor
open Go.RowKit
set_option linter.unusedSimpArgs false
set_option linter.unusedVariables false
theorem int_info : (Tryd.prog.info? 3).map (fun i => (i.zero, i.size, i.bytes)) = some (some (.int .i64 0), 1, 8) := by kernel_rfl
end Go.Proofs.YtpbflgemhcaooaaDoor
/- The reference: what may be given. -/
namespace Ev
def sizesOk (l : List (List Int)) (ay : List Vr) : Bool := (List.range l.length).all fun j => decide (((l.getD j []).length : Int) = (ay.getD j default).size)
/-- np: how many words; ay: the arrays -/
def fits (np : Nat) (ay : List Vr) (g : Given) : Int :=
  if g.words.length ≠ np ∨ g.arrays.length ≠ ay.length then 5 else if sizesOk g.arrays ay = false then 5 else if (g.words ++ g.arrays.flatten).all isWord then 0 else 3
theorem sizesOk_no {l : List (List Int)} {ay : List Vr} {j : Nat} (hj : j < l.length) (h : ((l.getD j []).length : Int) ≠ (ay.getD j default).size) : sizesOk l ay = false := by
  unfold sizesOk
  rw [List.all_eq_false]
  exact ⟨j, List.mem_range.2 hj, by simpa using h⟩
theorem sizesOk_yes {l : List (List Int)} {ay : List Vr} (h : ∀ j, j < l.length → ((l.getD j []).length : Int) = (ay.getD j default).size) : sizesOk l ay = true := by
  unfold sizesOk
  rw [List.all_eq_true]
  intro j hj
  simpa using h j (List.mem_range.1 hj)
theorem low_word {n : Int} (h : isWord n = true) : ((low n : Nat) : Int) = n := by
  unfold isWord at h
  simp at h
  unfold low
  omega
theorem low_noword {n : Int} (h : isWord n = false) : n ≠ ((low n : Nat) : Int) := by
  unfold isWord at h
  have : ¬ (0 ≤ n ∧ n ≤ 4294967295) := fun hh => by simp [hh.1, hh.2] at h
  unfold low
  omega
theorem flatten_take_snoc {l : List (List Int)} {j : Nat} {a : List Int} (h : l[j]? = some a) : (l.take (j + 1)).flatten = (l.take j).flatten ++ a := by
  rw [List.take_add_one, h]
  simp
theorem flatten_take_le (l : List (List Int)) (j : Nat) : (l.take j).flatten.length ≤ l.flatten.length := by
  conv => rhs; rw [← List.take_append_drop j l, List.flatten_append, List.length_append]
  omega
end Ev
namespace Go.Proofs.YtpbflgemhcaooaaDoor
open Go.RowKit
set_option linter.unusedSimpArgs false
set_option linter.unusedVariables false
set_option maxRecDepth 4000 in
set_option maxHeartbeats 3200000 in
theorem fits_any (ps ay : List Ev.Vr) (g : Ev.Given) (vp va vb vg : Value) (w : World) (hp : RVars w w.heap.size vp ps) (ha : RVars w w.heap.size va ay) (hb : ∃ A n c, vb = .slice A n c) (hg : RGiven w w.heap.size vg g) (hsum : g.words.length + g.arrays.flatten.length ≤ 1073741824) :
    Calls Tryd.prog 24 #[.agg #[vp, va, vb], vg] w fun e w' => e = .returned (.int .i64 (Ev.fits ps.length ay g)) ∧ Below w.heap.size w w' := by
  obtain ⟨Ab, nb, cb, rfl⟩ := hb
  obtain ⟨vw, vx, rfl, hw, hx⟩ := hg
  obtain ⟨Aw, cw, rfl, hw1, hw2⟩ := SL.form hw
  obtain ⟨vs0, hxl, hxs, hxe⟩ := hx
  obtain ⟨Ax, cx, rfl, hx1, hx2⟩ := SL.form hxs
  obtain ⟨Ap, cp, rfl, hp1, hp2⟩ := SL.form hp
  obtain ⟨Aa, ca, rfl, ha1, ha2⟩ := SL.form ha
  unfold maxLen at hw2 hx2 hp2 ha2
  have HA := Lib.hid ha
  have HW := Lib.hid hw
  have HXL := Lib.hid hxl
  have HXS := Lib.hid hxs
  have HXE := Lib.hid hxe
  obtain ⟨i0, hi0, hz0, hz1, hz2⟩ := info_parts int_info
  have II := Lib.hid (⟨hi0, hz0, hz1, hz2⟩ : _ ∧ _ ∧ _ ∧ _)
  clear hp ha hw hxl hxs hxe hi0 hz0 hz1 hz2
  unfold Ev.fits
  by_cases h1 : g.words.length = ps.length
  case neg =>
    rw [if_pos (.inl h1)]
    go_enter Tryd.func24, Tryd.ntmps24
    go_wp2
    go_ret
    exact ⟨rfl, by (repeat' first | with_reducible (first | exact Below.refl _ _ | assumption | refine Below.alloc ?_ ?_ _ | refine below_drewN ?_ _ | refine Below.drew ?_ | refine Below.setCell ?_ ?_ _ | refine Below.trans ?_ (Below.mono (by with_reducible assumption) ?_)) | go_size)⟩
  by_cases h2 : g.arrays.length = ay.length
  case neg =>
    rw [if_pos (.inr h2)]
    go_enter Tryd.func24, Tryd.ntmps24
    go_wp2
    go_ret
    exact ⟨rfl, by (repeat' first | with_reducible (first | exact Below.refl _ _ | assumption | refine Below.alloc ?_ ?_ _ | refine below_drewN ?_ _ | refine Below.drew ?_ | refine Below.setCell ?_ ?_ _ | refine Below.trans ?_ (Below.mono (by with_reducible assumption) ?_)) | go_size)⟩
  rw [if_neg (by omega)]
  generalize hres : (if Ev.sizesOk g.arrays ay = false then (5 : Int) else if (g.words ++ g.arrays.flatten).all Ev.isWord then 0 else 3) = res
  have HRES := Lib.hid hres
  clear hres
  have e1 : ((g.words.length : Int) != (ps.length : Int)) = false := by simp [h1]
  have e2 : ((g.arrays.length : Int) != (ay.length : Int)) = false := by simp [h2]
  have l1 : g.arrays.length ≤ ay.length := by omega
  have l2 : ay.length ≤ g.arrays.length := by omega
  clear h1 h2
  have n0 : ((w.alloc (.cells #[.slice Ap ps.length cp, .slice Aa ay.length ca, .slice Ab nb cb] 25)).alloc (.cells #[.slice Aw g.words.length cw, .slice Ax g.arrays.length cx] 49)).cell? ⟨w.heap.size, 0, none⟩ = some (.slice Ap ps.length cp) := by go_simp
  have n1 : ((w.alloc (.cells #[.slice Ap ps.length cp, .slice Aa ay.length ca, .slice Ab nb cb] 25)).alloc (.cells #[.slice Aw g.words.length cw, .slice Ax g.arrays.length cx] 49)).cell? ⟨w.heap.size, 1, none⟩ = some (.slice Aa ay.length ca) := by go_simp
  have n2 : ((w.alloc (.cells #[.slice Ap ps.length cp, .slice Aa ay.length ca, .slice Ab nb cb] 25)).alloc (.cells #[.slice Aw g.words.length cw, .slice Ax g.arrays.length cx] 49)).cell? ⟨w.heap.size + 1, 0, none⟩ = some (.slice Aw g.words.length cw) := by go_simp
  have n3 : ((w.alloc (.cells #[.slice Ap ps.length cp, .slice Aa ay.length ca, .slice Ab nb cb] 25)).alloc (.cells #[.slice Aw g.words.length cw, .slice Ax g.arrays.length cx] 49)).cell? ⟨w.heap.size + 1, 1, none⟩ = some (.slice Ax g.arrays.length cx) := by go_simp
  have sB : w.heap.size + 1 < ((w.alloc (.cells #[.slice Ap ps.length cp, .slice Aa ay.length ca, .slice Ab nb cb] 25)).alloc (.cells #[.slice Aw g.words.length cw, .slice Ax g.arrays.length cx] 49)).heap.size := by simp
  have BB := Lib.hid (show Below w.heap.size w ((w.alloc (.cells #[.slice Ap ps.length cp, .slice Aa ay.length ca, .slice Ab nb cb] 25)).alloc (.cells #[.slice Aw g.words.length cw, .slice Ax g.arrays.length cx] 49)) by (repeat' first | with_reducible (first | exact Below.refl _ _ | assumption | refine Below.alloc ?_ ?_ _ | refine below_drewN ?_ _ | refine Below.drew ?_ | refine Below.setCell ?_ ?_ _ | refine Below.trans ?_ (Below.mono (by with_reducible assumption) ?_)) | go_size))
  obtain ⟨wB, hwB⟩ : ∃ wB, (w.alloc (.cells #[.slice Ap ps.length cp, .slice Aa ay.length ca, .slice Ab nb cb] 25)).alloc (.cells #[.slice Aw g.words.length cw, .slice Ax g.arrays.length cx] 49) = wB := ⟨_, rfl⟩
  have HWB := Lib.hid hwB
  rw [hwB] at n0 n1 n2 n3 sB BB
  clear hwB
  go_enter Tryd.func24, Tryd.ntmps24
  go_upto_region 3 with fail
  rw [HWB.out]
  clear HWB
  go_wp2_with (at_builtin; refine wpList_append_SL (B := w.heap.size) rfl (.tmp 26) (.tmp 28) _ rfl wB.heap.size 3 i0 _ 8 Tryd.underlying46 II.out.1 II.out.2.1 II.out.2.2.1 II.out.2.2.2 rfl (by omega) rfl (World.ownsRow_made wB #[] 0 (Nat.le_refl _) (by simp [maxLen]) (by simp)) rfl (SL.below HW.out (by have := BB.out; (repeat' first | with_reducible (first | exact Below.refl _ _ | assumption | refine Below.alloc ?_ ?_ _ | refine below_drewN ?_ _ | refine Below.drew ?_ | refine Below.setCell ?_ ?_ _ | refine Below.trans ?_ (Below.mono (by with_reducible assumption) ?_)) | go_size))) (ints_oneCell _ g.words) (by simp only [maxLen]; omega) (by omega) (by go_size) ?_; intro v5 w5 hown5 hg5 hat5; have hb5 : Below wB.heap.size wB w5 := (by (repeat' first | with_reducible (first | exact Below.refl _ _ | assumption | refine Below.alloc ?_ ?_ _ | refine below_drewN ?_ _ | refine Below.drew ?_ | refine Below.setCell ?_ ?_ _ | refine Below.trans ?_ (Below.mono (by with_reducible assumption) ?_)) | go_size) : Below wB.heap.size wB _).grown hg5 (by go_size) (by intro k hk; have hk' : wB.heap.size = k := (Option.some.inj hk); omega); obtain ⟨kc5, kf5, s5⟩ := bfacts hb5; have z5 : w.heap.size + 1 < w5.heap.size := (by omega))
  simp only [Nat.zero_add, List.nil_append] at hown5
  have HO5 := Lib.hid hown5
  have HB5 := Lib.hid hb5
  clear kc5 kf5 hown5 hg5 hat5 hb5 e1 e2
  go_loopw [5, 33] (fun o u wr => ∃ (j : Nat) (M : List Int), j ≤ g.arrays.length ∧ u = .int .i64 j ∧ Hid (M = g.words ++ (g.arrays.take j).flatten) ∧ Hid (wr.ownsRow wB.heap.size 3 1 o M.length (M.map (Value.int .i64))) ∧ Hid (∀ m, m < j → ((g.arrays.getD m []).length : Int) = (ay.getD m default).size) ∧ Below wB.heap.size wB wr) (fun _ u _ => g.arrays.length - (intOf u).toNat)
  case atStart => exact ⟨0, g.words, by omega, rfl, by simp [Hid], HO5.out, fun m hm => absurd hm (by omega), HB5.out⟩
  case round =>
    clear HO5 HB5
    obtain ⟨j, M, hj, rfl, HMM, HO, HZ, hB⟩ := hrel
    have hs := hB.size
    have hBw : Below w.heap.size w wr := by have := BB.out; (repeat' first | with_reducible (first | exact Below.refl _ _ | assumption | refine Below.alloc ?_ ?_ _ | refine below_drewN ?_ _ | refine Below.drew ?_ | refine Below.setCell ?_ ?_ _ | refine Below.trans ?_ (Below.mono (by with_reducible assumption) ?_)) | go_size)
    obtain ⟨kd, kg, sd⟩ := bfacts hBw
    have m0 : wr.cell? ⟨w.heap.size, 1, none⟩ = some (.slice Aa ay.length ca) := (hB.cell (p := ⟨w.heap.size, 1, none⟩) (by show w.heap.size < _; omega)).trans n1
    obtain ⟨Ao, co, hvo, _, _⟩ := SL.form (SL.of_own HO.out)
    subst hvo
    by_cases hlt : j < g.arrays.length
    · obtain ⟨a, ha⟩ : ∃ a, g.arrays[j]? = some a := ⟨g.arrays[j], List.getElem?_eq_getElem hlt⟩
      obtain ⟨u0, hu0⟩ : ∃ u0, vs0[j]? = some u0 := ⟨vs0[j]'(by rw [HXL.out]; exact hlt), List.getElem?_eq_getElem _⟩
      obtain ⟨x, hx⟩ : ∃ x, ay[j]? = some x := ⟨ay[j]'(by omega), List.getElem?_eq_getElem _⟩
      obtain ⟨b1, o1, r1, hv, hb1, _, _, p1⟩ := SL.row HXS.out (by omega)
      injection hv with hA _ hcr
      subst hA hcr
      obtain ⟨b2, o2, r2, hv, hb2, _, _, _, q1, q2, q3⟩ := RVars.el HA.out hx
      injection hv with hA _ hcr
      subst hA hcr
      have p2 := p1 j u0 hu0
      have RA := Lib.hid (HXE.out j u0 a hu0 ha)
      obtain ⟨A0, c0, rfl, _, _⟩ := SL.form RA.out
      have HT := Lib.hid (Ev.flatten_take_snoc ha)
      have hle := Ev.flatten_take_le g.arrays (j + 1)
      rw [HT.out, List.length_append] at hle
      have hda : g.arrays.getD j [] = a := by rw [List.getD_eq_getElem?_getD, ha]; rfl
      have hdx : ay.getD j default = x := by rw [List.getD_eq_getElem?_getD, hx]; rfl
      have HDA := Lib.hid hda
      have HDX := Lib.hid hdx
      clear ha hu0 p1 hx hda hdx
      have hol : M.length = g.words.length + ((g.arrays.take j).flatten).length := by rw [HMM.out]; exact List.length_append
      by_cases hz : (a.length : Int) = x.size
      · have gz : ((a.length : Int) != x.size) = false := by simpa using hz
        have HZ2 := Lib.hid (show ∀ m, m < j + 1 → ((g.arrays.getD m []).length : Int) = (ay.getD m default).size from fun m hm => by
          by_cases hmj : m = j
          · subst hmj; rw [HDA.out, HDX.out]; exact hz
          · exact HZ.out m (by omega))
        clear hz
        have HOL := Lib.hid hol
        have hol2 : M.length + a.length ≤ 1073741824 := by omega
        clear hol
        go_wp2_with (at_builtin; refine wpList_append_SL (B := w.heap.size) rfl (.tmp 47) (.tmp 48) _ rfl wB.heap.size 3 i0 _ 8 Tryd.underlying46 II.out.1 II.out.2.1 II.out.2.2.1 II.out.2.2.2 rfl (by omega) rfl HO.out rfl (SL.below RA.out (by (repeat' first | with_reducible (first | exact Below.refl _ _ | assumption | refine Below.alloc ?_ ?_ _ | refine below_drewN ?_ _ | refine Below.drew ?_ | refine Below.setCell ?_ ?_ _ | refine Below.trans ?_ (Below.mono (by with_reducible assumption) ?_)) | go_size))) (ints_oneCell _ a) (by simp only [maxLen]; omega) (by omega) (by go_size) ?_; intro v6 w6 hown6 hg6 hat6)
        have hb6 := hB.grown hg6 hs (fun q hq => (HO.out.lt q hq).1)
        go_roundw
        case rel =>
          refine ⟨j + 1, M ++ a, by omega, by go_num, ?_, ?_, HZ2.out, hb6⟩
          · show M ++ a = _
            rw [HMM.out, HT.out, List.append_assoc]
          · show World.ownsRow _ _ _ _ _ _ _
            rw [List.length_append, List.map_append]
            exact hown6
        case measure => simp [intOf]; omega
      · have gz : ((a.length : Int) != x.size) = true := by simpa using hz
        have HN := Lib.hid (Ev.sizesOk_no hlt (by rw [HDA.out, HDX.out]; exact hz))
        clear hz
        go_wp2
        go_ret
        refine ⟨?_, by (repeat' first | with_reducible (first | exact Below.refl _ _ | assumption | refine Below.alloc ?_ ?_ _ | refine below_drewN ?_ _ | refine Below.drew ?_ | refine Below.setCell ?_ ?_ _ | refine Below.trans ?_ (Below.mono (by with_reducible assumption) ?_)) | go_size)⟩
        rw [← HRES.out, if_pos HN.out]
        rfl
    · have hje : j = g.arrays.length := by omega
      subst hje
      have HY := Lib.hid (Ev.sizesOk_yes HZ.out)
      rw [List.take_length] at HMM
      have HR2 := HRES.out
      rw [if_neg (by rw [HY.out]; decide)] at HR2
      have HRS := Lib.hid HR2
      clear HR2 HRES HZ HY
      rw [← HMM.out] at HRS
      have HLL := Lib.hid HMM.out.symm
      clear HMM
      generalize M = L at *
      have HRd : Hid (RInts wr wr.heap.size (.slice Ao L.length co) L) := SL.of_own HO.out
      have hLm : L.length ≤ 1073741824 := by
        have := HLL.out
        rw [← this, List.length_append]
        omega
      go_wp2_with fail
      go_loop [53] (fun u => ∃ q : Nat, q ≤ L.length ∧ u = .int .i64 q ∧ Hid (∀ x ∈ L.take q, Ev.isWord x = true)) (fun u => L.length - (intOf u).toNat)
      case atStart => exact ⟨0, by omega, rfl, by simp [Hid]⟩
      case round =>
        obtain ⟨q, hq, rfl, HP⟩ := hrel
        by_cases hqt : q < L.length
        · obtain ⟨x, hx⟩ : ∃ x, L[q]? = some x := ⟨L[q], List.getElem?_eq_getElem hqt⟩
          obtain ⟨b1, o1, r1, hv, hb1, _, _, _, p1⟩ := RInts.at_ HRd.out hx
          injection hv with hA _ hcr
          subst hA hcr
          have HX := Lib.hid hx
          clear hx
          cases hw : Ev.isWord x with
          | true =>
            have hx2 := Ev.low_word hw
            have HP2 := Lib.hid (show ∀ y ∈ L.take (q + 1), Ev.isWord y = true from fun y hy => by
              rw [List.take_add_one, HX.out] at hy
              rcases List.mem_append.1 hy with h | h
              · exact HP.out y h
              · simp at h; rw [h]; exact hw)
            have lx := Lib.hid (fun w => low_same x w)
            rw [hx2] at lx
            clear hx2 hw
            go_wp2_with (go_at_call 68; refine (lx.out _).mono ?_; rintro _ _ ⟨rfl, rfl⟩)
            go_round
            case rel => exact ⟨q + 1, by omega, by go_num, HP2⟩
            case measure => simp [intOf]; omega
          | false =>
            have gx := Ev.low_noword hw
            have HN := Lib.hid (show L.all Ev.isWord = false by
              rw [List.all_eq_false]
              exact ⟨x, List.mem_of_getElem? HX.out, by rw [hw]; decide⟩)
            clear hw
            have lx := Lib.hid (fun w => low_same x w)
            generalize ((Ev.low x : Nat) : Int) = lo at *
            go_wp2_with (go_at_call 68; refine (lx.out _).mono ?_; rintro _ _ ⟨rfl, rfl⟩)
            go_ret
            refine ⟨?_, by (repeat' first | with_reducible (first | exact Below.refl _ _ | assumption | refine Below.alloc ?_ ?_ _ | refine below_drewN ?_ _ | refine Below.drew ?_ | refine Below.setCell ?_ ?_ _ | refine Below.trans ?_ (Below.mono (by with_reducible assumption) ?_)) | go_size)⟩
            rw [← HRS.out, if_neg (by rw [HN.out]; decide)]
            rfl
        · have hqe : q = L.length := by omega
          subst hqe
          have HA2 := Lib.hid (show L.all Ev.isWord = true by
            rw [List.all_eq_true]
            intro y hy
            exact HP.out y (by rw [List.take_length]; exact hy))
          go_wp2
          go_ret
          refine ⟨?_, by (repeat' first | with_reducible (first | exact Below.refl _ _ | assumption | refine Below.alloc ?_ ?_ _ | refine below_drewN ?_ _ | refine Below.drew ?_ | refine Below.setCell ?_ ?_ _ | refine Below.trans ?_ (Below.mono (by with_reducible assumption) ?_)) | go_size)⟩
          rw [← HRS.out, if_pos HA2.out]
          rfl
end Go.Proofs.YtpbflgemhcaooaaDoor
/- eval: what may be given. -/
namespace Go.Proofs.YtpbflgemhcaooaaDoor
open Go.RowKit
set_option linter.unusedSimpArgs false
set_option linter.unusedVariables false
theorem evSl : (Tryd.prog.info? 46).map (fun i => (i.zero, i.size, i.bytes)) = some (some (.slice none 0 0), 1, 24) := by kernel_rfl
theorem own_lessT' {w : World} {base base' : Nat} {e : TypeId} {size n : Nat} {v : Value} {xs : List Value} (h : w.ownsRow base e size v n xs) (hl : base' ≤ base) : w.ownsRow base' e size v n xs :=
  ⟨h.1, h.2.imp id fun ⟨g, cap, cur, k1, k2, k3⟩ => ⟨g, cap, cur, k1, Nat.le_trans hl k2, k3⟩⟩
theorem lists_one {w : World} {B : Nat} {l : List (List Int)} {vs : List Value} (hl : vs.length = l.length) (h : ∀ (k : Nat) u a, vs[k]? = some u → l[k]? = some a → RInts w B u a) : ∀ u ∈ vs, u.oneCell' = true := by
  intro u hu
  obtain ⟨k, hk, rfl⟩ := List.getElem_of_mem hu
  have h1 := h k _ _ (List.getElem?_eq_getElem hk) (List.getElem?_eq_getElem (by omega))
  obtain ⟨A, c, e, _⟩ := SL.form h1
  rw [e]
  rfl
set_option maxHeartbeats 800000 in
theorem cloneLists_own (vs : List Value) (n : Nat) (v : Value) (w : World) (h : SL w w.heap.size 1 v n vs) (h1 : ∀ u ∈ vs, u.oneCell' = true) (hl : n ≤ 1073741824) :
    Calls Tryd.prog 79 #[v] w fun e w' => ∃ v', e = .returned v' ∧ w'.ownsRow w.heap.size 46 1 v' n vs ∧ Below w.heap.size w w' := by
  obtain ⟨i0, hi0, hz0, hz1, hz2⟩ := info_parts evSl
  have HI := Lib.hid (⟨hi0, hz0, hz1, hz2⟩ : _ ∧ _ ∧ _ ∧ _)
  clear hi0 hz0 hz1 hz2
  have HR := Lib.hid h
  have H1 := Lib.hid h1
  obtain ⟨A, c, rfl, hc1, hc2⟩ := SL.form h
  have hnil : A = none → n = 0 ∧ vs = [] := fun ha => by
    subst ha
    obtain ⟨hlen, A', c', he, _, _, _, h4⟩ := h
    rcases Nat.eq_zero_or_pos n with h0 | h0
    · subst h0
      exact ⟨rfl, List.length_eq_zero_iff.1 (by simpa using hlen)⟩
    · obtain ⟨b, o, e, _⟩ := h4 h0
      subst e
      cases he
  clear h h1
  have heq := fun W a n c n' c' => Lib.run_eql_slice_nil (P := Tryd.prog) W 47 46 a n c n' c' Tryd.underlying47
  cases A with
  | none =>
    obtain ⟨rfl, rfl⟩ := hnil rfl
    clear hnil
    go_enter Tryd.func79, Tryd.ntmps79
    go_wp2
    go_ret
    exact ⟨_, rfl, World.ownsRow_nil _ _ _ _, by (repeat' first | with_reducible (first | exact Below.refl _ _ | assumption | refine Below.alloc ?_ ?_ _ | refine below_drewN ?_ _ | refine Below.drew ?_ | refine Below.setCell ?_ ?_ _ | refine Below.trans ?_ (Below.mono (by with_reducible assumption) ?_)) | go_size)⟩
  | some a =>
    clear hnil
    go_enter Tryd.func79, Tryd.ntmps79
    go_wp2_with (at_builtin; refine wpList_append_SL (B := w.heap.size) rfl (.tmp 5) (.tmp 6) _ rfl w.heap.size 46 i0 _ 24 Tryd.underlying47 HI.out.1 HI.out.2.1 HI.out.2.2.1 HI.out.2.2.2 rfl (by omega) rfl (World.ownsRow_made w #[] 0 (Nat.le_refl _) (by simp [maxLen]) (by simp)) rfl (SL.below HR.out (by (repeat' first | with_reducible (first | exact Below.refl _ _ | assumption | refine Below.alloc ?_ ?_ _ | refine below_drewN ?_ _ | refine Below.drew ?_ | refine Below.setCell ?_ ?_ _ | refine Below.trans ?_ (Below.mono (by with_reducible assumption) ?_)) | go_size))) H1.out (by simp only [maxLen]; omega) (by omega) (by go_size) ?_; intro v1 w1 hown1 hg1 hat1)
    have hb1 : Below w.heap.size w w1 := (by (repeat' first | with_reducible (first | exact Below.refl _ _ | assumption | refine Below.alloc ?_ ?_ _ | refine below_drewN ?_ _ | refine Below.drew ?_ | refine Below.setCell ?_ ?_ _ | refine Below.trans ?_ (Below.mono (by with_reducible assumption) ?_)) | go_size) : Below w.heap.size w _).grown hg1 (by go_size) (by intro k hk; have hk' : w.heap.size = k := (Option.some.inj hk); omega)
    go_ret
    exact ⟨_, rfl, (by simpa using hown1), hb1⟩
set_option maxHeartbeats 400000 in
theorem is_same (n : Int) (w : World) : Calls Tryd.prog 80 #[.int .i64 n] w fun e w' => e = .returned (.bool (Ev.isWord n)) ∧ w' = w := by
  unfold Ev.isWord
  go_enter Tryd.func80, Tryd.ntmps80
  by_cases h0 : 0 ≤ n
  case pos =>
    go_wp2
    go_ret
    exact ⟨by first | rfl | (simp [h0]), rfl⟩
  case neg =>
    go_wp2
    go_ret
    exact ⟨by first | rfl | (simp [h0]; intro h; omega), rfl⟩
theorem words_split {W : List Int} {L : List (List Int)} : (W ++ L.flatten).all Ev.isWord = true ↔ ∀ x ∈ (L ++ [W]).flatten, Ev.isWord x = true := by
  rw [List.all_eq_true]
  simp only [List.flatten_append, List.mem_append, List.flatten_cons, List.flatten_nil, List.append_nil]
  exact ⟨fun h x hx => h x hx.symm, fun h x hx => h x hx.symm⟩
set_option maxRecDepth 4000 in
set_option maxHeartbeats 3200000 in
theorem evFits_any (ps ay : List Ev.Vr) (g : Ev.Given) (vp va vb vg : Value) (w : World) (hp : RVars w w.heap.size vp ps) (ha : RVars w w.heap.size va ay) (hb : ∃ A n c, vb = .slice A n c) (hg : RGiven w w.heap.size vg g) (hsum : g.arrays.length ≤ 1073741823) :
    Calls Tryd.prog 39 #[.agg #[vp, va, vb], vg] w fun e w' => e = .returned (.int .i64 (Ev.fits ps.length ay g)) ∧ Below w.heap.size w w' := by
  obtain ⟨Ab, nb, cb, rfl⟩ := hb
  obtain ⟨vw, vx, rfl, hw, hx⟩ := hg
  obtain ⟨Aw, cw, rfl, hw1, hw2⟩ := SL.form hw
  obtain ⟨vs0, hxl, hxs, hxe⟩ := hx
  obtain ⟨Ax, cx, rfl, hx1, hx2⟩ := SL.form hxs
  obtain ⟨Ap, cp, rfl, hp1, hp2⟩ := SL.form hp
  obtain ⟨Aa, ca, rfl, ha1, ha2⟩ := SL.form ha
  unfold maxLen at hw2 hx2 hp2 ha2
  have HA := Lib.hid ha
  have HW := Lib.hid hw
  have HXL := Lib.hid hxl
  have HXS := Lib.hid hxs
  have HXE := Lib.hid hxe
  obtain ⟨i0, hi0, hz0, hz1, hz2⟩ := info_parts evSl
  have II := Lib.hid (⟨hi0, hz0, hz1, hz2⟩ : _ ∧ _ ∧ _ ∧ _)
  have H1C := Lib.hid (lists_one hxl hxe)
  clear hp ha hw hxl hxs hxe hi0 hz0 hz1 hz2
  unfold Ev.fits
  by_cases h1 : g.words.length = ps.length
  case neg =>
    rw [if_pos (.inl h1)]
    go_enter Tryd.func39, Tryd.ntmps39
    go_wp2
    go_ret
    exact ⟨rfl, by (repeat' first | with_reducible (first | exact Below.refl _ _ | assumption | refine Below.alloc ?_ ?_ _ | refine below_drewN ?_ _ | refine Below.drew ?_ | refine Below.setCell ?_ ?_ _ | refine Below.trans ?_ (Below.mono (by with_reducible assumption) ?_)) | go_size)⟩
  by_cases h2 : g.arrays.length = ay.length
  case neg =>
    rw [if_pos (.inr h2)]
    go_enter Tryd.func39, Tryd.ntmps39
    go_wp2
    go_ret
    exact ⟨rfl, by (repeat' first | with_reducible (first | exact Below.refl _ _ | assumption | refine Below.alloc ?_ ?_ _ | refine below_drewN ?_ _ | refine Below.drew ?_ | refine Below.setCell ?_ ?_ _ | refine Below.trans ?_ (Below.mono (by with_reducible assumption) ?_)) | go_size)⟩
  rw [if_neg (by omega)]
  generalize hres : (if Ev.sizesOk g.arrays ay = false then (5 : Int) else if (g.words ++ g.arrays.flatten).all Ev.isWord then 0 else 3) = res
  have HRES := Lib.hid hres
  clear hres
  have e1 : ((g.words.length : Int) != (ps.length : Int)) = false := by simp [h1]
  have e2 : ((g.arrays.length : Int) != (ay.length : Int)) = false := by simp [h2]
  have l1 : g.arrays.length ≤ ay.length := by omega
  have l2 : ay.length ≤ g.arrays.length := by omega
  clear h1 h2
  have n0 : ((w.alloc (.cells #[.slice Ap ps.length cp, .slice Aa ay.length ca, .slice Ab nb cb] 25)).alloc (.cells #[.slice Aw g.words.length cw, .slice Ax g.arrays.length cx] 49)).cell? ⟨w.heap.size, 0, none⟩ = some (.slice Ap ps.length cp) := by go_simp
  have n1 : ((w.alloc (.cells #[.slice Ap ps.length cp, .slice Aa ay.length ca, .slice Ab nb cb] 25)).alloc (.cells #[.slice Aw g.words.length cw, .slice Ax g.arrays.length cx] 49)).cell? ⟨w.heap.size, 1, none⟩ = some (.slice Aa ay.length ca) := by go_simp
  have n2 : ((w.alloc (.cells #[.slice Ap ps.length cp, .slice Aa ay.length ca, .slice Ab nb cb] 25)).alloc (.cells #[.slice Aw g.words.length cw, .slice Ax g.arrays.length cx] 49)).cell? ⟨w.heap.size + 1, 0, none⟩ = some (.slice Aw g.words.length cw) := by go_simp
  have n3 : ((w.alloc (.cells #[.slice Ap ps.length cp, .slice Aa ay.length ca, .slice Ab nb cb] 25)).alloc (.cells #[.slice Aw g.words.length cw, .slice Ax g.arrays.length cx] 49)).cell? ⟨w.heap.size + 1, 1, none⟩ = some (.slice Ax g.arrays.length cx) := by go_simp
  have sB : w.heap.size + 1 < ((w.alloc (.cells #[.slice Ap ps.length cp, .slice Aa ay.length ca, .slice Ab nb cb] 25)).alloc (.cells #[.slice Aw g.words.length cw, .slice Ax g.arrays.length cx] 49)).heap.size := by simp
  have BB := Lib.hid (show Below w.heap.size w ((w.alloc (.cells #[.slice Ap ps.length cp, .slice Aa ay.length ca, .slice Ab nb cb] 25)).alloc (.cells #[.slice Aw g.words.length cw, .slice Ax g.arrays.length cx] 49)) by (repeat' first | with_reducible (first | exact Below.refl _ _ | assumption | refine Below.alloc ?_ ?_ _ | refine below_drewN ?_ _ | refine Below.drew ?_ | refine Below.setCell ?_ ?_ _ | refine Below.trans ?_ (Below.mono (by with_reducible assumption) ?_)) | go_size))
  obtain ⟨wB, hwB⟩ : ∃ wB, (w.alloc (.cells #[.slice Ap ps.length cp, .slice Aa ay.length ca, .slice Ab nb cb] 25)).alloc (.cells #[.slice Aw g.words.length cw, .slice Ax g.arrays.length cx] 49) = wB := ⟨_, rfl⟩
  have HWB := Lib.hid hwB
  rw [hwB] at n0 n1 n2 n3 sB BB
  clear hwB
  go_enter Tryd.func39, Tryd.ntmps39
  go_upto_region 4 with fail
  rw [HWB.out]
  clear HWB
  go_loop [30] (fun u => ∃ j : Nat, j ≤ g.arrays.length ∧ u = .int .i64 j ∧ Hid (∀ m, m < j → ((g.arrays.getD m []).length : Int) = (ay.getD m default).size)) (fun u => g.arrays.length - (intOf u).toNat)
  case atStart => exact ⟨0, by omega, rfl, fun m hm => absurd hm (by omega)⟩
  case round =>
    obtain ⟨j, hj, rfl, HZ⟩ := hrel
    by_cases hlt : j < g.arrays.length
    · obtain ⟨a, ha⟩ : ∃ a, g.arrays[j]? = some a := ⟨g.arrays[j], List.getElem?_eq_getElem hlt⟩
      obtain ⟨u0, hu0⟩ : ∃ u0, vs0[j]? = some u0 := ⟨vs0[j]'(by rw [HXL.out]; exact hlt), List.getElem?_eq_getElem _⟩
      obtain ⟨x, hx⟩ : ∃ x, ay[j]? = some x := ⟨ay[j]'(by omega), List.getElem?_eq_getElem _⟩
      obtain ⟨b1, o1, r1, hv, hb1, _, _, p1⟩ := SL.row HXS.out (by omega)
      injection hv with hA _ hcr
      subst hA hcr
      obtain ⟨b2, o2, r2, hv, hb2, _, _, _, q1, q2, q3⟩ := RVars.el HA.out hx
      injection hv with hA _ hcr
      subst hA hcr
      have p2 := (BB.out.cell (p := ⟨b1, o1 + j, none⟩) hb1).trans (p1 j u0 hu0)
      have q3' := (BB.out.cell (p := ⟨b2, o2 + j * 3 + 2, none⟩) hb2).trans q3
      have RA := Lib.hid (HXE.out j u0 a hu0 ha)
      obtain ⟨A0, c0, rfl, _, _⟩ := SL.form RA.out
      have hda : g.arrays.getD j [] = a := by rw [List.getD_eq_getElem?_getD, ha]; rfl
      have hdx : ay.getD j default = x := by rw [List.getD_eq_getElem?_getD, hx]; rfl
      have HDA := Lib.hid hda
      have HDX := Lib.hid hdx
      have z1 : b1 < wB.heap.size := Nat.lt_of_lt_of_le hb1 BB.out.size
      have z2 : b2 < wB.heap.size := Nat.lt_of_lt_of_le hb2 BB.out.size
      clear ha hu0 p1 hx hda hdx q1 q2 q3
      by_cases hz : (a.length : Int) = x.size
      · have gz : ((a.length : Int) != x.size) = false := by simpa using hz
        have HZ2 := Lib.hid (show ∀ m, m < j + 1 → ((g.arrays.getD m []).length : Int) = (ay.getD m default).size from fun m hm => by
          by_cases hmj : m = j
          · subst hmj; rw [HDA.out, HDX.out]; exact hz
          · exact HZ.out m (by omega))
        clear hz
        go_wp2_with fail
        go_round
        case rel => exact ⟨j + 1, by omega, by go_num, HZ2⟩
        case measure => simp [intOf]; omega
      · have gz : ((a.length : Int) != x.size) = true := by simpa using hz
        have HN := Lib.hid (Ev.sizesOk_no hlt (by rw [HDA.out, HDX.out]; exact hz))
        clear hz
        go_wp2
        go_ret
        refine ⟨?_, BB.out⟩
        rw [← HRES.out, if_pos HN.out]
        rfl
    · have hje : j = g.arrays.length := by omega
      subst hje
      have HY := Lib.hid (Ev.sizesOk_yes HZ.out)
      have HR2 := HRES.out
      rw [if_neg (by rw [HY.out]; decide)] at HR2
      have HRS := Lib.hid HR2
      clear HR2 HRES HZ HY
      have CC := Lib.hid (fun u (hu : Below wB.heap.size wB u) => cloneLists_own vs0 g.arrays.length (.slice Ax g.arrays.length cx) u (SL.at_ HXS.out (BB.out.trans (hu.mono BB.out.size)) (Nat.le_refl _)) H1C.out (by omega))
      have zs : w.heap.size + 1 < wB.heap.size := sB
      go_upto_region 9 with fail
      refine wp_region_first 8 (.int .i64 0) (some 53) (by kernel_rfl) (by kernel_rfl) (by kernel_rfl) (by kernel_rfl) (by kernel_rfl) (fun _ _ _ h => h) ⟨_, rfl, rfl, Or.inl ⟨rfl, fun w9 => by go_simp⟩⟩ ?_
      simp only [List.dropLast_cons_cons, List.dropLast_singleton]
      dsimp only [Act.put]
      (try simp only [Act.put, List.setIfInBounds_toArray, List.set_cons_zero, List.set_cons_succ])
      refine wpAny_flock_tail 6 (fun k => match k with | 2 => some (Hv.own wB.heap.size 46 1 g.arrays.length vs0) | 5 => some (Hv.lit #[.slice Aw g.words.length cw] 46 1) | _ => none) (by kernel_rfl) (by kernel_rfl) (by kernel_rfl) ?_
      simp only [List.take_succ_cons, List.take_zero, List.drop_succ_cons, List.drop_zero]
      apply flock_light rfl
      case h => first | exact light_no (by rfl) | ((first | apply light_plain rfl | apply light_yes (by rfl)); intro w9 hw9; obtain ⟨hb9, hh9⟩ := hw9; skip; go_simp; try rfl)
      (try simp only [Act.put, List.setIfInBounds_toArray, List.set_cons_zero, List.set_cons_succ])
      apply flock_light rfl
      case h => first | exact light_no (by rfl) | ((first | apply light_plain rfl | apply light_yes (by rfl)); intro w9 hw9; obtain ⟨hb9, hh9⟩ := hw9; have hB9 : Below wB.heap.size wB w9 := (by (repeat' first | with_reducible (first | exact Below.refl _ _ | assumption | refine Below.alloc ?_ ?_ _ | refine below_drewN ?_ _ | refine Below.drew ?_ | refine Below.setCell ?_ ?_ _ | refine Below.trans ?_ (Below.mono (by with_reducible assumption) ?_)) | go_size)); obtain ⟨kc9, kf9, s9⟩ := bfacts hb9; obtain ⟨kd9, kg9, _⟩ := bfacts hB9; skip; go_simp; try rfl)
      (try simp only [Act.put, List.setIfInBounds_toArray, List.set_cons_zero, List.set_cons_succ])
      refine flock_heavy _ rfl ?_ ?_
      · intro w9 hb9 hh9
        have hB9 : Below wB.heap.size wB w9 := (by (repeat' first | with_reducible (first | exact Below.refl _ _ | assumption | refine Below.alloc ?_ ?_ _ | refine below_drewN ?_ _ | refine Below.drew ?_ | refine Below.setCell ?_ ?_ _ | refine Below.trans ?_ (Below.mono (by with_reducible assumption) ?_)) | go_size))
        obtain ⟨kc9, kf9, s9⟩ := bfacts hb9
        obtain ⟨kd9, kg9, _⟩ := bfacts hB9
        skip
        go_wp2_with (go_at_call 79; refine (CC.out _ hB9).mono ?_; rintro e w6 ⟨v6, rfl, hO6, hb6⟩)
        refine grewTo_at (by rfl) (by (repeat' first | with_reducible (first | exact Below.refl _ _ | assumption | refine Below.alloc ?_ ?_ _ | refine below_drewN ?_ _ | refine Below.drew ?_ | refine Below.setCell ?_ ?_ _ | refine Below.trans ?_ (Below.mono (by with_reducible assumption) ?_)) | go_size)) ?_
        exact own_lessT' hO6 (by go_size)
      intro x2 ok2
      (try simp only [Act.put, List.setIfInBounds_toArray, List.set_cons_zero, List.set_cons_succ])
      (try dsimp only [Hv.own, Hv.is, Hv.lit, Hv.box, Hv.sl] at ok2)
      first | subst ok2 | (obtain ⟨A2, c2, ok2⟩ := ok2; subst ok2) | (obtain ⟨A2, ok2⟩ := ok2; subst ok2) | skip
      apply flock_light rfl
      case h => first | exact light_no (by rfl) | ((first | apply light_plain rfl | apply light_yes (by rfl)); intro w9 hw9; obtain ⟨hb9, hh9⟩ := hw9; skip; go_simp; try rfl)
      (try simp only [Act.put, List.setIfInBounds_toArray, List.set_cons_zero, List.set_cons_succ])
      apply flock_light rfl
      case h => first | exact light_no (by rfl) | ((first | apply light_plain rfl | apply light_yes (by rfl)); intro w9 hw9; obtain ⟨hb9, hh9⟩ := hw9; have hB9 : Below wB.heap.size wB w9 := (by (repeat' first | with_reducible (first | exact Below.refl _ _ | assumption | refine Below.alloc ?_ ?_ _ | refine below_drewN ?_ _ | refine Below.drew ?_ | refine Below.setCell ?_ ?_ _ | refine Below.trans ?_ (Below.mono (by with_reducible assumption) ?_)) | go_size)); obtain ⟨kc9, kf9, s9⟩ := bfacts hb9; obtain ⟨kd9, kg9, _⟩ := bfacts hB9; skip; go_simp; try rfl)
      (try simp only [Act.put, List.setIfInBounds_toArray, List.set_cons_zero, List.set_cons_succ])
      refine flock_heavy _ rfl ?_ ?_
      · intro w9 hb9 hh9
        have hB9 : Below wB.heap.size wB w9 := (by (repeat' first | with_reducible (first | exact Below.refl _ _ | assumption | refine Below.alloc ?_ ?_ _ | refine below_drewN ?_ _ | refine Below.drew ?_ | refine Below.setCell ?_ ?_ _ | refine Below.trans ?_ (Below.mono (by with_reducible assumption) ?_)) | go_size))
        obtain ⟨kc9, kf9, s9⟩ := bfacts hb9
        obtain ⟨kd9, kg9, _⟩ := bfacts hB9
        skip
        go_wp2_with fail
        refine grewTo_at (by rfl) (by (repeat' first | with_reducible (first | exact Below.refl _ _ | assumption | refine Below.alloc ?_ ?_ _ | refine below_drewN ?_ _ | refine Below.drew ?_ | refine Below.setCell ?_ ?_ _ | refine Below.trans ?_ (Below.mono (by with_reducible assumption) ?_)) | go_size)) ?_
        exact ⟨_, rfl, heap_alloc_new _ _⟩
      intro x5 ok5
      (try simp only [Act.put, List.setIfInBounds_toArray, List.set_cons_zero, List.set_cons_succ])
      (try dsimp only [Hv.own, Hv.is, Hv.lit, Hv.box, Hv.sl] at ok5)
      first | subst ok5 | (obtain ⟨A5, c5, ok5⟩ := ok5; subst ok5) | (obtain ⟨A5, ok5⟩ := ok5; subst ok5) | skip
      refine flock_nil ?_
      intro w9 hb9 hh9
      have hB9 : Below wB.heap.size wB w9 := (by (repeat' first | with_reducible (first | exact Below.refl _ _ | assumption | refine Below.alloc ?_ ?_ _ | refine below_drewN ?_ _ | refine Below.drew ?_ | refine Below.setCell ?_ ?_ _ | refine Below.trans ?_ (Below.mono (by with_reducible assumption) ?_)) | go_size))
      have r5 := hh9 _ (.head _); dsimp only [Hv.own, Hv.is, Hv.lit, Hv.box, Hv.sl] at r5; (first | replace r5 := lit_heap r5 | replace r5 := box_heap r5 | skip); have r2 := hh9 _ (.tail _ (.head _)); dsimp only [Hv.own, Hv.is, Hv.lit, Hv.box, Hv.sl] at r2; (first | replace r2 := lit_heap r2 | replace r2 := box_heap r2 | skip); clear hh9
      (try dsimp only)
      have R2 := Lib.hid r2
      have R5 := Lib.hid r5
      have HB9 := Lib.hid hB9
      have hs9 := hB9.size
      clear r2 r5 hb9 hB9
      go_upto_region 10 with (at_builtin; refine wpList_append_own_at _ rfl (.tmp 47) (.tmp 50) _ rfl wB.heap.size 46 i0 (.slice none 0 0) 1 24 Tryd.underlying47 II.out.1 II.out.2.1 II.out.2.2.1 II.out.2.2.2 rfl (by decide) _ _ _ rfl R2.out ⟨A5, 0, none⟩ 1 1 [.slice Aw g.words.length cw] rfl rfl (cells_of_block R5.out) (fun x hx => by simp at hx; subst hx; rfl) (by unfold maxLen; omega) (by omega) (by omega) ?_; intro v7 w7 hown7 hg7 hn7 hat7; obtain ⟨A8, c8, rfl, _, hc8⟩ := SL.form (SL.of_own hown7))
      have hb7 : Below wB.heap.size wB w7 := HB9.out.grown hg7 hs9 (fun k hk => (R2.out.lt k hk).1)
      have HB7 := Lib.hid (BB.out.trans (hb7.mono BB.out.size))
      obtain ⟨LL, hLL⟩ : ∃ LL, g.arrays ++ [g.words] = LL := ⟨_, rfl⟩
      obtain ⟨VV, hVV⟩ : ∃ VV, vs0 ++ [.slice Aw g.words.length cw] = VV := ⟨_, rfl⟩
      have hlen : LL.length = g.arrays.length + 1 := by rw [← hLL]; simp
      have hvl : VV.length = LL.length := by rw [← hLL, ← hVV]; simp [HXL.out]
      have hrows : ∀ (k : Nat) u a, VV[k]? = some u → LL[k]? = some a → RInts w w.heap.size u a := by
        intro k u a hu ha
        rw [← hVV] at hu
        rw [← hLL] at ha
        by_cases hk : k < g.arrays.length
        · rw [List.getElem?_append_left (by rw [HXL.out]; exact hk)] at hu
          rw [List.getElem?_append_left hk] at ha
          exact HXE.out k u a hu ha
        · have hk2 : k = g.arrays.length := by
            have := (List.getElem?_eq_some_iff.1 ha).1
            simp at this
            omega
          subst hk2
          rw [← HXL.out, List.getElem?_append_right (Nat.le_refl _), Nat.sub_self] at hu
          rw [List.getElem?_append_right (Nat.le_refl _), Nat.sub_self] at ha
          simp at hu ha
          subst hu ha
          exact HW.out
      have HROW := Lib.hid hrows
      have HVL := Lib.hid hvl
      have hown : w7.ownsRow wB.heap.size 46 1 (.slice A8 (g.arrays.length + 1) c8) LL.length VV := by
        rw [hlen, ← hVV]
        exact hown7
      have HSL := Lib.hid (SL.of_own hown)
      have HRR := Lib.hid (show (if ∀ x ∈ LL.flatten, Ev.isWord x = true then (0 : Int) else 3) = res by
        rw [← HRS.out, ← hLL]
        by_cases h : (g.words ++ g.arrays.flatten).all Ev.isWord = true
        · rw [if_pos h, if_pos (words_split.1 h)]
        · rw [if_neg h, if_neg (fun e => h (words_split.2 e))])
      have HGL := Lib.hid hlen
      clear hLL hVV hvl hrows hown hown7 hg7 hn7 hat7 R2 R5 HB9 hs9 hb7 CC HRS hlen
      go_loop [53] (fun u => ∃ j : Nat, j ≤ LL.length ∧ u = .int .i64 j ∧ Hid (∀ x ∈ (LL.take j).flatten, Ev.isWord x = true)) (fun u => LL.length - (intOf u).toNat)
      case atStart => exact ⟨0, by omega, rfl, Lib.hid (by simp)⟩
      case round =>
        obtain ⟨q, hq, rfl, HP⟩ := hrel
        by_cases hqt : q < LL.length
        · obtain ⟨r, hr⟩ : ∃ r, LL[q]? = some r := ⟨LL[q], List.getElem?_eq_getElem hqt⟩
          obtain ⟨u0, hu0⟩ : ∃ u0, VV[q]? = some u0 := ⟨VV[q]'(by rw [HVL.out]; exact hqt), List.getElem?_eq_getElem _⟩
          obtain ⟨b1, o1, r1, hv, hb1, _, _, p1⟩ := SL.row HSL.out (by omega)
          injection hv with hA hcn hcr
          subst hA hcr
          have p2 := p1 q u0 hu0
          have HRI := Lib.hid (SL.at_ (HROW.out q u0 r hu0 hr) HB7.out (Nat.le_refl _))
          obtain ⟨A0, c0, rfl, hrc, hc0⟩ := SL.form HRI.out
          unfold maxLen at hc0
          have HT := Lib.hid (Ev.flatten_take_snoc hr)
          have hqn : q < g.arrays.length + 1 := by have := HGL.out; omega
          have HRX := Lib.hid hr
          clear hu0 p1 hr hcn
          go_upto_region 13 with fail
          go_loop [59] (fun u => ∃ p : Nat, p ≤ r.length ∧ u = .int .i64 p ∧ Hid (∀ x ∈ r.take p, Ev.isWord x = true)) (fun u => r.length - (intOf u).toNat)
          case atStart => exact ⟨0, by omega, rfl, Lib.hid (by simp)⟩
          case round =>
            obtain ⟨p, hp, rfl, HPP⟩ := hrel
            by_cases hpt : p < r.length
            · obtain ⟨x, hx⟩ : ∃ x, r[p]? = some x := ⟨r[p], List.getElem?_eq_getElem hpt⟩
              have HPL := Lib.hid hpt
              obtain ⟨b3, o3, r3, hv, hb3, _, _, _, p3⟩ := RInts.at_ HRI.out hx
              injection hv with hA _ hcr
              subst hA hcr
              have HX := Lib.hid hx
              have CW := Lib.hid (is_same x w7)
              clear hx
              cases hw : Ev.isWord x with
              | true =>
                have HP2 := Lib.hid (show ∀ y ∈ r.take (p + 1), Ev.isWord y = true from fun y hy => by
                  rw [List.take_add_one, HX.out] at hy
                  rcases List.mem_append.1 hy with h | h
                  · exact HPP.out y h
                  · simp at h; rw [h]; exact hw)
                rw [hw] at CW
                clear hw
                go_wp2_with (go_at_call 80; refine CW.out.mono ?_; rintro _ _ ⟨rfl, rfl⟩)
                go_round
                case rel => exact ⟨p + 1, by have := HPL.out; omega, by go_num, HP2⟩
                case measure => have := HPL.out; simp [intOf]; omega
              | false =>
                have HN := Lib.hid (show (3 : Int) = res by
                  rw [← HRR.out, if_neg]
                  intro h
                  have := h x (List.mem_flatten.2 ⟨r, List.mem_of_getElem? HRX.out, List.mem_of_getElem? HX.out⟩)
                  rw [hw] at this
                  cases this)
                rw [hw] at CW
                clear hw
                go_wp2_with (go_at_call 80; refine CW.out.mono ?_; rintro _ _ ⟨rfl, rfl⟩)
                go_ret
                exact ⟨by rw [← HN.out]; rfl, HB7.out⟩
            · have HP2 := Lib.hid (show ∀ x ∈ (LL.take (q + 1)).flatten, Ev.isWord x = true from fun x hx => by
                rw [HT.out] at hx
                rcases List.mem_append.1 hx with h | h
                · exact HP.out x h
                · exact HPP.out x (by rw [List.take_of_length_le (by omega)]; exact h))
              go_wp2_with fail
              go_round
              case rel => exact ⟨q + 1, by omega, by go_num, HP2⟩
              case measure => simp [intOf]; omega
        · have HN := Lib.hid (show (0 : Int) = res by
            rw [← HRR.out, if_pos]
            intro x hx
            exact HP.out x (by rw [List.take_of_length_le (by omega)]; exact hx))
          have hqe : q = g.arrays.length + 1 := by have := HGL.out; omega
          subst hqe
          go_wp2
          go_ret
          exact ⟨by rw [← HN.out]; rfl, HB7.out⟩
end Go.Proofs.YtpbflgemhcaooaaDoor
