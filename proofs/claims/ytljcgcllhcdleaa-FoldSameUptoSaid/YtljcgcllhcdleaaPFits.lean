import Derived.Test.YtljcgcllhcdleaaFo25
import Derived.Test.YtljcgcllhcdleaaFo27
import Derived.Test.YtljcgcllhcdleaaFo2
import Derived.Test.YtljcgcllhcdleaaPSameB
import Derived.Deep.DeepCutAuto
/- The reference: what may be given. -/
namespace Ev
def sizesOk (l : List (List Int)) (ay : List Vr) : Bool := (List.range l.length).all fun j => decide (((l.getD j []).length : Int) = (ay.getD j default).size)
/-- np: how many words; ay: the arrays -/
def fits (np : Nat) (ay : List Vr) (g : Given) : Int :=
  if g.words.length ≠ np ∨ g.arrays.length ≠ ay.length then 5 else if sizesOk g.arrays ay = false then 5 else if (g.words ++ g.arrays.flatten).all isWord then 0 else 3
theorem sizesOk_no {l : List (List Int)} {ay : List Vr} {j : Nat} (hj : j < l.length) (h : ((l.getD j []).length : Int) ≠ (ay.getD j default).size) : sizesOk l ay = false := by
  unfold sizesOk
  rw [List.all_eq_false]
  exact ⟨j, List.mem_range.2 hj, by simpa using h⟩
theorem sizesOk_yes {l : List (List Int)} {ay : List Vr} (h : ∀ j, j < l.length → ((l.getD j []).length : Int) = (ay.getD j default).size) : sizesOk l ay = true := by
  unfold sizesOk
  rw [List.all_eq_true]
  intro j hj
  simpa using h j (List.mem_range.1 hj)
theorem low_word {n : Int} (h : isWord n = true) : ((low n : Nat) : Int) = n := by
  unfold isWord at h
  simp at h
  unfold low
  omega
theorem low_noword {n : Int} (h : isWord n = false) : n ≠ ((low n : Nat) : Int) := by
  unfold isWord at h
  have : ¬ (0 ≤ n ∧ n ≤ 4294967295) := fun hh => by simp [hh.1, hh.2] at h
  unfold low
  omega
theorem flatten_take_snoc {l : List (List Int)} {j : Nat} {a : List Int} (h : l[j]? = some a) : (l.take (j + 1)).flatten = (l.take j).flatten ++ a := by
  rw [List.take_add_one, h]
  simp
theorem flatten_take_le (l : List (List Int)) (j : Nat) : (l.take j).flatten.length ≤ l.flatten.length := by
  conv => rhs; rw [← List.take_append_drop j l, List.flatten_append, List.length_append]
  omega
end Ev
namespace Go.Proofs.Ytljcgcllhcdleaa
open Go.RowKit
set_option linter.unusedSimpArgs false
set_option linter.unusedVariables false
set_option maxRecDepth 4000 in
set_option maxHeartbeats 3200000 in
theorem fits_any (ps ay : List Ev.Vr) (g : Ev.Given) (vp va vb vg : Value) (w : World) (hp : RVars w w.heap.size vp ps) (ha : RVars w w.heap.size va ay) (hb : ∃ A n c, vb = .slice A n c) (hg : RGiven w w.heap.size vg g) (hsum : g.words.length + g.arrays.flatten.length ≤ 1073741824) :
    Calls Try.prog 22 #[.agg #[vp, va, vb], vg] w fun e w' => e = .returned (.int .i64 (Ev.fits ps.length ay g)) ∧ Below w.heap.size w w' := by
  obtain ⟨Ab, nb, cb, rfl⟩ := hb
  obtain ⟨vw, vx, rfl, hw, hx⟩ := hg
  obtain ⟨Aw, cw, rfl, hw1, hw2⟩ := SL.form hw
  obtain ⟨vs0, hxl, hxs, hxe⟩ := hx
  obtain ⟨Ax, cx, rfl, hx1, hx2⟩ := SL.form hxs
  obtain ⟨Ap, cp, rfl, hp1, hp2⟩ := SL.form hp
  obtain ⟨Aa, ca, rfl, ha1, ha2⟩ := SL.form ha
  unfold maxLen at hw2 hx2 hp2 ha2
  have HA := Lib.hid ha
  have HW := Lib.hid hw
  have HXL := Lib.hid hxl
  have HXS := Lib.hid hxs
  have HXE := Lib.hid hxe
  obtain ⟨i0, hi0, hz0, hz1, hz2⟩ := info_parts int_info
  have II := Lib.hid (⟨hi0, hz0, hz1, hz2⟩ : _ ∧ _ ∧ _ ∧ _)
  clear hp ha hw hxl hxs hxe hi0 hz0 hz1 hz2
  unfold Ev.fits
  by_cases h1 : g.words.length = ps.length
  case neg =>
    rw [if_pos (.inl h1)]
    go_enter Try.func22, Try.ntmps22
    go_wp2
    go_ret
    exact ⟨rfl, by (repeat' first | with_reducible (first | exact Below.refl _ _ | assumption | refine Below.alloc ?_ ?_ _ | refine below_drewN ?_ _ | refine Below.drew ?_ | refine Below.setCell ?_ ?_ _ | refine Below.trans ?_ (Below.mono (by with_reducible assumption) ?_)) | go_size)⟩
  by_cases h2 : g.arrays.length = ay.length
  case neg =>
    rw [if_pos (.inr h2)]
    go_enter Try.func22, Try.ntmps22
    go_wp2
    go_ret
    exact ⟨rfl, by (repeat' first | with_reducible (first | exact Below.refl _ _ | assumption | refine Below.alloc ?_ ?_ _ | refine below_drewN ?_ _ | refine Below.drew ?_ | refine Below.setCell ?_ ?_ _ | refine Below.trans ?_ (Below.mono (by with_reducible assumption) ?_)) | go_size)⟩
  rw [if_neg (by omega)]
  generalize hres : (if Ev.sizesOk g.arrays ay = false then (5 : Int) else if (g.words ++ g.arrays.flatten).all Ev.isWord then 0 else 3) = res
  have HRES := Lib.hid hres
  clear hres
  have e1 : ((g.words.length : Int) != (ps.length : Int)) = false := by simp [h1]
  have e2 : ((g.arrays.length : Int) != (ay.length : Int)) = false := by simp [h2]
  have l1 : g.arrays.length ≤ ay.length := by omega
  have l2 : ay.length ≤ g.arrays.length := by omega
  clear h1 h2
  have n0 : ((w.alloc (.cells #[.slice Ap ps.length cp, .slice Aa ay.length ca, .slice Ab nb cb] 49)).alloc (.cells #[.slice Aw g.words.length cw, .slice Ax g.arrays.length cx] 45)).cell? ⟨w.heap.size, 0, none⟩ = some (.slice Ap ps.length cp) := by go_simp
  have n1 : ((w.alloc (.cells #[.slice Ap ps.length cp, .slice Aa ay.length ca, .slice Ab nb cb] 49)).alloc (.cells #[.slice Aw g.words.length cw, .slice Ax g.arrays.length cx] 45)).cell? ⟨w.heap.size, 1, none⟩ = some (.slice Aa ay.length ca) := by go_simp
  have n2 : ((w.alloc (.cells #[.slice Ap ps.length cp, .slice Aa ay.length ca, .slice Ab nb cb] 49)).alloc (.cells #[.slice Aw g.words.length cw, .slice Ax g.arrays.length cx] 45)).cell? ⟨w.heap.size + 1, 0, none⟩ = some (.slice Aw g.words.length cw) := by go_simp
  have n3 : ((w.alloc (.cells #[.slice Ap ps.length cp, .slice Aa ay.length ca, .slice Ab nb cb] 49)).alloc (.cells #[.slice Aw g.words.length cw, .slice Ax g.arrays.length cx] 45)).cell? ⟨w.heap.size + 1, 1, none⟩ = some (.slice Ax g.arrays.length cx) := by go_simp
  have sB : w.heap.size + 1 < ((w.alloc (.cells #[.slice Ap ps.length cp, .slice Aa ay.length ca, .slice Ab nb cb] 49)).alloc (.cells #[.slice Aw g.words.length cw, .slice Ax g.arrays.length cx] 45)).heap.size := by simp
  have BB := Lib.hid (show Below w.heap.size w ((w.alloc (.cells #[.slice Ap ps.length cp, .slice Aa ay.length ca, .slice Ab nb cb] 49)).alloc (.cells #[.slice Aw g.words.length cw, .slice Ax g.arrays.length cx] 45)) by (repeat' first | with_reducible (first | exact Below.refl _ _ | assumption | refine Below.alloc ?_ ?_ _ | refine below_drewN ?_ _ | refine Below.drew ?_ | refine Below.setCell ?_ ?_ _ | refine Below.trans ?_ (Below.mono (by with_reducible assumption) ?_)) | go_size))
  obtain ⟨wB, hwB⟩ : ∃ wB, (w.alloc (.cells #[.slice Ap ps.length cp, .slice Aa ay.length ca, .slice Ab nb cb] 49)).alloc (.cells #[.slice Aw g.words.length cw, .slice Ax g.arrays.length cx] 45) = wB := ⟨_, rfl⟩
  have HWB := Lib.hid hwB
  rw [hwB] at n0 n1 n2 n3 sB BB
  clear hwB
  go_enter Try.func22, Try.ntmps22
  go_upto_region 3 with fail
  rw [HWB.out]
  clear HWB
  go_wp2_with (at_builtin; refine wpList_append_SL (B := w.heap.size) rfl (.tmp 26) (.tmp 28) _ rfl wB.heap.size 3 i0 _ 8 Try.underlying42 II.out.1 II.out.2.1 II.out.2.2.1 II.out.2.2.2 rfl (by omega) rfl (World.ownsRow_made wB #[] 0 (Nat.le_refl _) (by simp [maxLen]) (by simp)) rfl (SL.below HW.out (by have := BB.out; (repeat' first | with_reducible (first | exact Below.refl _ _ | assumption | refine Below.alloc ?_ ?_ _ | refine below_drewN ?_ _ | refine Below.drew ?_ | refine Below.setCell ?_ ?_ _ | refine Below.trans ?_ (Below.mono (by with_reducible assumption) ?_)) | go_size))) (ints_oneCell _ g.words) (by simp only [maxLen]; omega) (by omega) (by go_size) ?_; intro v5 w5 hown5 hg5 hat5; have hb5 : Below wB.heap.size wB w5 := (by (repeat' first | with_reducible (first | exact Below.refl _ _ | assumption | refine Below.alloc ?_ ?_ _ | refine below_drewN ?_ _ | refine Below.drew ?_ | refine Below.setCell ?_ ?_ _ | refine Below.trans ?_ (Below.mono (by with_reducible assumption) ?_)) | go_size) : Below wB.heap.size wB _).grown hg5 (by go_size) (by intro k hk; have hk' : wB.heap.size = k := (Option.some.inj hk); omega); obtain ⟨kc5, kf5, s5⟩ := bfacts hb5; have z5 : w.heap.size + 1 < w5.heap.size := (by omega))
  simp only [Nat.zero_add, List.nil_append] at hown5
  have HO5 := Lib.hid hown5
  have HB5 := Lib.hid hb5
  clear kc5 kf5 hown5 hg5 hat5 hb5 e1 e2
  go_loopw [5, 33] (fun o u wr => ∃ (j : Nat) (M : List Int), j ≤ g.arrays.length ∧ u = .int .i64 j ∧ Hid (M = g.words ++ (g.arrays.take j).flatten) ∧ Hid (wr.ownsRow wB.heap.size 3 1 o M.length (M.map (Value.int .i64))) ∧ Hid (∀ m, m < j → ((g.arrays.getD m []).length : Int) = (ay.getD m default).size) ∧ Below wB.heap.size wB wr) (fun _ u _ => g.arrays.length - (intOf u).toNat)
  case atStart => exact ⟨0, g.words, by omega, rfl, by simp [Hid], HO5.out, fun m hm => absurd hm (by omega), HB5.out⟩
  case round =>
    clear HO5 HB5
    obtain ⟨j, M, hj, rfl, HMM, HO, HZ, hB⟩ := hrel
    have hs := hB.size
    have hBw : Below w.heap.size w wr := by have := BB.out; (repeat' first | with_reducible (first | exact Below.refl _ _ | assumption | refine Below.alloc ?_ ?_ _ | refine below_drewN ?_ _ | refine Below.drew ?_ | refine Below.setCell ?_ ?_ _ | refine Below.trans ?_ (Below.mono (by with_reducible assumption) ?_)) | go_size)
    obtain ⟨kd, kg, sd⟩ := bfacts hBw
    have m0 : wr.cell? ⟨w.heap.size, 1, none⟩ = some (.slice Aa ay.length ca) := (hB.cell (p := ⟨w.heap.size, 1, none⟩) (by show w.heap.size < _; omega)).trans n1
    obtain ⟨Ao, co, hvo, _, _⟩ := SL.form (SL.of_own HO.out)
    subst hvo
    by_cases hlt : j < g.arrays.length
    · obtain ⟨a, ha⟩ : ∃ a, g.arrays[j]? = some a := ⟨g.arrays[j], List.getElem?_eq_getElem hlt⟩
      obtain ⟨u0, hu0⟩ : ∃ u0, vs0[j]? = some u0 := ⟨vs0[j]'(by rw [HXL.out]; exact hlt), List.getElem?_eq_getElem _⟩
      obtain ⟨x, hx⟩ : ∃ x, ay[j]? = some x := ⟨ay[j]'(by omega), List.getElem?_eq_getElem _⟩
      obtain ⟨b1, o1, r1, hv, hb1, _, _, p1⟩ := SL.row HXS.out (by omega)
      injection hv with hA _ hcr
      subst hA hcr
      obtain ⟨b2, o2, r2, hv, hb2, _, _, _, q1, q2, q3⟩ := RVars.el HA.out hx
      injection hv with hA _ hcr
      subst hA hcr
      have p2 := p1 j u0 hu0
      have RA := Lib.hid (HXE.out j u0 a hu0 ha)
      obtain ⟨A0, c0, rfl, _, _⟩ := SL.form RA.out
      have HT := Lib.hid (Ev.flatten_take_snoc ha)
      have hle := Ev.flatten_take_le g.arrays (j + 1)
      rw [HT.out, List.length_append] at hle
      have hda : g.arrays.getD j [] = a := by rw [List.getD_eq_getElem?_getD, ha]; rfl
      have hdx : ay.getD j default = x := by rw [List.getD_eq_getElem?_getD, hx]; rfl
      have HDA := Lib.hid hda
      have HDX := Lib.hid hdx
      clear ha hu0 p1 hx hda hdx
      have hol : M.length = g.words.length + ((g.arrays.take j).flatten).length := by rw [HMM.out]; exact List.length_append
      by_cases hz : (a.length : Int) = x.size
      · have gz : ((a.length : Int) != x.size) = false := by simpa using hz
        have HZ2 := Lib.hid (show ∀ m, m < j + 1 → ((g.arrays.getD m []).length : Int) = (ay.getD m default).size from fun m hm => by
          by_cases hmj : m = j
          · subst hmj; rw [HDA.out, HDX.out]; exact hz
          · exact HZ.out m (by omega))
        clear hz
        have HOL := Lib.hid hol
        have hol2 : M.length + a.length ≤ 1073741824 := by omega
        clear hol
        go_wp2_with (at_builtin; refine wpList_append_SL (B := w.heap.size) rfl (.tmp 47) (.tmp 48) _ rfl wB.heap.size 3 i0 _ 8 Try.underlying42 II.out.1 II.out.2.1 II.out.2.2.1 II.out.2.2.2 rfl (by omega) rfl HO.out rfl (SL.below RA.out (by (repeat' first | with_reducible (first | exact Below.refl _ _ | assumption | refine Below.alloc ?_ ?_ _ | refine below_drewN ?_ _ | refine Below.drew ?_ | refine Below.setCell ?_ ?_ _ | refine Below.trans ?_ (Below.mono (by with_reducible assumption) ?_)) | go_size))) (ints_oneCell _ a) (by simp only [maxLen]; omega) (by omega) (by go_size) ?_; intro v6 w6 hown6 hg6 hat6)
        have hb6 := hB.grown hg6 hs (fun q hq => (HO.out.lt q hq).1)
        go_roundw
        case rel =>
          refine ⟨j + 1, M ++ a, by omega, by go_num, ?_, ?_, HZ2.out, hb6⟩
          · show M ++ a = _
            rw [HMM.out, HT.out, List.append_assoc]
          · show World.ownsRow _ _ _ _ _ _ _
            rw [List.length_append, List.map_append]
            exact hown6
        case measure => simp [intOf]; omega
      · have gz : ((a.length : Int) != x.size) = true := by simpa using hz
        have HN := Lib.hid (Ev.sizesOk_no hlt (by rw [HDA.out, HDX.out]; exact hz))
        clear hz
        go_wp2
        go_ret
        refine ⟨?_, by (repeat' first | with_reducible (first | exact Below.refl _ _ | assumption | refine Below.alloc ?_ ?_ _ | refine below_drewN ?_ _ | refine Below.drew ?_ | refine Below.setCell ?_ ?_ _ | refine Below.trans ?_ (Below.mono (by with_reducible assumption) ?_)) | go_size)⟩
        rw [← HRES.out, if_pos HN.out]
        rfl
    · have hje : j = g.arrays.length := by omega
      subst hje
      have HY := Lib.hid (Ev.sizesOk_yes HZ.out)
      rw [List.take_length] at HMM
      have HR2 := HRES.out
      rw [if_neg (by rw [HY.out]; decide)] at HR2
      have HRS := Lib.hid HR2
      clear HR2 HRES HZ HY
      rw [← HMM.out] at HRS
      have HLL := Lib.hid HMM.out.symm
      clear HMM
      generalize M = L at *
      have HRd : Hid (RInts wr wr.heap.size (.slice Ao L.length co) L) := SL.of_own HO.out
      have hLm : L.length ≤ 1073741824 := by
        have := HLL.out
        rw [← this, List.length_append]
        omega
      go_wp2_with fail
      go_loop [53] (fun u => ∃ q : Nat, q ≤ L.length ∧ u = .int .i64 q ∧ Hid (∀ x ∈ L.take q, Ev.isWord x = true)) (fun u => L.length - (intOf u).toNat)
      case atStart => exact ⟨0, by omega, rfl, by simp [Hid]⟩
      case round =>
        obtain ⟨q, hq, rfl, HP⟩ := hrel
        by_cases hqt : q < L.length
        · obtain ⟨x, hx⟩ : ∃ x, L[q]? = some x := ⟨L[q], List.getElem?_eq_getElem hqt⟩
          obtain ⟨b1, o1, r1, hv, hb1, _, _, _, p1⟩ := RInts.at_ HRd.out hx
          injection hv with hA _ hcr
          subst hA hcr
          have HX := Lib.hid hx
          clear hx
          cases hw : Ev.isWord x with
          | true =>
            have hx2 := Ev.low_word hw
            have HP2 := Lib.hid (show ∀ y ∈ L.take (q + 1), Ev.isWord y = true from fun y hy => by
              rw [List.take_add_one, HX.out] at hy
              rcases List.mem_append.1 hy with h | h
              · exact HP.out y h
              · simp at h; rw [h]; exact hw)
            have lx := Lib.hid (fun w => low_same x w)
            rw [hx2] at lx
            clear hx2 hw
            go_wp2_with (go_at_call 56; refine (lx.out _).mono ?_; rintro _ _ ⟨rfl, rfl⟩)
            go_round
            case rel => exact ⟨q + 1, by omega, by go_num, HP2⟩
            case measure => simp [intOf]; omega
          | false =>
            have gx := Ev.low_noword hw
            have HN := Lib.hid (show L.all Ev.isWord = false by
              rw [List.all_eq_false]
              exact ⟨x, List.mem_of_getElem? HX.out, by rw [hw]; decide⟩)
            clear hw
            have lx := Lib.hid (fun w => low_same x w)
            generalize ((Ev.low x : Nat) : Int) = lo at *
            go_wp2_with (go_at_call 56; refine (lx.out _).mono ?_; rintro _ _ ⟨rfl, rfl⟩)
            go_ret
            refine ⟨?_, by (repeat' first | with_reducible (first | exact Below.refl _ _ | assumption | refine Below.alloc ?_ ?_ _ | refine below_drewN ?_ _ | refine Below.drew ?_ | refine Below.setCell ?_ ?_ _ | refine Below.trans ?_ (Below.mono (by with_reducible assumption) ?_)) | go_size)⟩
            rw [← HRS.out, if_neg (by rw [HN.out]; decide)]
            rfl
        · have hqe : q = L.length := by omega
          subst hqe
          have HA2 := Lib.hid (show L.all Ev.isWord = true by
            rw [List.all_eq_true]
            intro y hy
            exact HP.out y (by rw [List.take_length]; exact hy))
          go_wp2
          go_ret
          refine ⟨?_, by (repeat' first | with_reducible (first | exact Below.refl _ _ | assumption | refine Below.alloc ?_ ?_ _ | refine below_drewN ?_ _ | refine Below.drew ?_ | refine Below.setCell ?_ ?_ _ | refine Below.trans ?_ (Below.mono (by with_reducible assumption) ?_)) | go_size)⟩
          rw [← HRS.out, if_pos HA2.out]
          rfl
end Go.Proofs.Ytljcgcllhcdleaa
