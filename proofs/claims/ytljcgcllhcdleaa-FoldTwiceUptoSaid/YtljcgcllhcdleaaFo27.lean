import Derived.Test.YtljcgcllhcdleaaFo13
import Derived.Test.YtljcgcllhcdleaaFo14
import Derived.Test.YtljcgcllhcdleaaFo5
import Derived.Test.YtljcgcllhcdleaaFo10
import Derived.Test.YtljcgcllhcdleaaFo25
import Derived.Test.YtljcgcllhcdleaaFo11
import Derived.Test.YtljcgcllhcdleaaFo2
import Derived.Test.YtljcgcllhcdleaaFo26
/- What is given to a run, and small laws of its memory. -/
namespace Go.Proofs.Ytljcgcllhcdleaa
open Go.RowKit
set_option linter.unusedSimpArgs false
set_option linter.unusedVariables false
def RGiven (w : World) (B : Nat) (v : Value) (g : Ev.Given) : Prop := ∃ vw va, v = .agg #[vw, va] ∧ RInts w B vw g.words ∧ RLists w B va g.arrays
/-- may right instructions be given that? -/
structure Given (f : Ev.Flat) (g : Ev.Given) : Prop where
  words : (g.words.length : Int) = f.params
  arrays : g.arrays.length = f.arrays.length
  wword : ∀ x ∈ g.words, Ev.Wd x
  aword : ∀ a ∈ g.arrays, ∀ x ∈ a, Ev.Wd x
  small : ∀ a ∈ g.arrays, a.length ≤ 1073741824
  few : g.arrays.length ≤ 1073741824
  slots : f.secret.length ≤ 1073741824
theorem cell_three_new (w : World) (x y z : Value) (t : TypeId) : ∀ j u, [x, y, z][j]? = some u → (w.alloc (.cells #[x, y, z] t)).cell? ((⟨w.heap.size, 0, none⟩ : Addr).add j) = some u := by
  intro j u hj
  match j, hj with
  | 0, hj => simp at hj; subst hj; simp [Addr.add]
  | 1, hj => simp at hj; subst hj; simp [Addr.add]
  | 2, hj => simp at hj; subst hj; simp [Addr.add]
  | j + 3, hj => simp at hj
theorem one_three (a b : Int) {A : Option Addr} (n c : Nat) : ∀ u ∈ [Value.int .i64 a, .int .i64 b, .slice A n c], u.oneCell' = true := fun x hx => by
  simp at hx
  rcases hx with rfl | rfl | rfl <;> rfl
/-- below hi, and at block q, all is as it was -/
def RunS (hi q : Nat) (W w : World) : Prop := Below hi W w ∧ w.heap[q]? = W.heap[q]?
theorem RunS.alloc {hi q : Nat} {W w : World} (h : RunS hi q W w) (h1 : hi ≤ w.heap.size) (h2 : q < w.heap.size) (o : Obj) : RunS hi q W (w.alloc o) := ⟨h.1.alloc h1 o, (heap_alloc_old w o h2).trans h.2⟩
theorem int_size1 : (Try.prog.info? 3).map (·.size) = some 1 := by kernel_rfl
end Go.Proofs.Ytljcgcllhcdleaa
/- Chapter 7, the reference: a new machine. -/
namespace Ev
/-- words laid from a place on -/
def laid (n f : Nat) (ws : List Int) : List Int := (List.replicate f 0 ++ ws ++ List.replicate n 0).take n
theorem laid_length (n f : Nat) (ws : List Int) : (laid n f ws).length = n := by unfold laid; simp; omega
theorem laid_nil (n f : Nat) : laid n f [] = List.replicate n 0 := by
  unfold laid
  rw [List.append_nil, List.replicate_append_replicate, List.take_replicate]
  congr 1
  omega
theorem laid_get (n f : Nat) (ws : List Int) (k : Nat) (hk : k < n) : (laid n f ws)[k]? = some (if k < f then 0 else ws.getD (k - f) 0) := by
  unfold laid
  rw [List.getElem?_take, if_pos hk]
  by_cases h1 : k < f
  · rw [if_pos h1, List.append_assoc, List.getElem?_append_left (by simpa using h1), List.getElem?_replicate, if_pos h1]
  · rw [if_neg h1, List.append_assoc, List.getElem?_append_right (by simpa using Nat.le_of_not_lt h1), List.length_replicate]
    rw [List.getD_eq_getElem?_getD]
    by_cases h2 : k - f < ws.length
    · rw [List.getElem?_append_left h2, List.getElem?_eq_getElem h2]
      rfl
    · rw [List.getElem?_append_right (by omega), List.getElem?_replicate, if_pos (by omega), List.getElem?_eq_none (by omega)]
      rfl
theorem laid_snoc (n f : Nat) {ws : List Int} {j : Nat} {x : Int} (hx : ws[j]? = some x) (hf : f + j < n) : laid n f (ws.take (j + 1)) = (laid n f (ws.take j)).set (f + j) x := by
  have hj : j < ws.length := (List.getElem?_eq_some_iff.1 hx).1
  apply List.ext_getElem?
  intro k
  by_cases hk : k < n
  · rw [laid_get n f _ k hk, List.getElem?_set, laid_length]
    by_cases hkj : f + j = k
    · subst hkj
      rw [if_pos rfl, if_pos hf, if_neg (by omega), show f + j - f = j by omega, List.getD_eq_getElem?_getD, List.getElem?_take, if_pos (by omega), hx]
      rfl
    · rw [if_neg hkj, laid_get n f _ k hk]
      by_cases h1 : k < f
      · rw [if_pos h1, if_pos h1]
      · rw [if_neg h1, if_neg h1, List.getD_eq_getElem?_getD, List.getD_eq_getElem?_getD, List.getElem?_take, List.getElem?_take]
        by_cases h2 : k - f < j
        · rw [if_pos h2, if_pos (by omega)]
        · rw [if_neg h2, if_neg (by omega)]
  · rw [List.getElem?_eq_none (by rw [laid_length]; omega), List.getElem?_eq_none (by rw [List.length_set, laid_length]; omega)]
end Ev
namespace Go.Proofs.Ytljcgcllhcdleaa
open Go.RowKit
set_option linter.unusedSimpArgs false
set_option linter.unusedVariables false
theorem MAt.push {w w1 w2 : World} {bv mb hi : Nat} {va v' u : Value} {vs : List Value} {s : Ev.St} {a : List Int} (h : MAt w bv mb va vs hi s) (hb : Below w.heap.size w w1)
    (hu : w1.ownsRow w.heap.size 3 1 u a.length (a.map (Value.int .i64))) (hg : w1.grownBy w2 va.ownBlock) (hv : w2.ownsRow (mb + 1) 42 1 v' (vs.length + 1) (vs ++ [u]))
    (hat : v'.ownBlock = va.ownBlock ∨ ∃ q, v'.ownBlock = some q ∧ w1.heap.size ≤ q) : MAt (w2.setCell ⟨mb, 1, none⟩ v') bv mb v' (vs ++ [u]) w2.heap.size { s with arrs := s.arrs ++ [a] } := by
  have hbm := h.bm
  have hmh := h.mh
  have hle := h.le
  have hP := h.arrs.push (by omega) hb hu hg hv hat
  have hs1 := hb.size
  have hs2 := hg.size
  have ne : ∀ q, q ≤ mb → some q ≠ va.ownBlock := fun q hq e => by
    have := (h.arrs.outer.lt q e.symm).1
    omega
  have c := fun o x (hx : w.cell? ⟨mb, o, none⟩ = some x) => hg.cell ((hb.cell (p := ⟨mb, o, none⟩) (by show mb < _; omega)).trans hx) (ne mb (Nat.le_refl _))
  have f := fun o => (show w2.frozen? ⟨mb, o, none⟩ = w1.frozen? ⟨mb, o, none⟩ by unfold World.frozen?; rw [hg.block mb (by omega) (ne mb (Nat.le_refl _))]).trans ((hb.frozen (p := ⟨mb, o, none⟩) (by show mb < _; omega)).trans (h.loose o))
  have c0 := c 0 _ h.m0
  have c2 := c 2 _ h.m2
  have c1 := c 1 _ h.m1
  refine ⟨?_, hP.aside (Nat.lt_succ_self _), ?_, ?_, ?_, fun j => ?_, hbm, by omega, fun b hb' => ?_, ?_, by simp⟩
  · refine ownsRow_setCell_other ?_ (by simp [Value.ownBlock]; omega) _
    refine (owns_below h.v hb).kept hg (.inr ?_)
    simp only [Value.ownBlock]
    exact ne bv (by omega)
  · go_simp
  · go_simp
  · go_simp
  · have := f j
    go_simp
  · exact (hv.lt b hb').2
  · exact fun k x b hx hxb => hP.his k x b hx hxb
theorem MAt.higher {w : World} {bv mb hi hi' : Nat} {va : Value} {vs : List Value} {s : Ev.St} (h : MAt w bv mb va vs hi s) (h1 : hi ≤ hi') (h2 : hi' ≤ w.heap.size) : MAt w bv mb va vs hi' s :=
  ⟨h.v, h.arrs, h.m0, h.m1, h.m2, h.loose, h.bm, by have := h.mh; omega, fun b hb => by have := h.hio b hb; omega, fun k u b hu hb => by have := h.his k u b hu hb; omega, h2⟩
set_option maxRecDepth 4000 in
set_option maxHeartbeats 3200000 in
theorem new_any (n f : Nat) (g : Ev.Given) (vg : Value) (w : World) (hg : RGiven w w.heap.size vg g) (hn : n ≤ 1073741824) (hfit : f + g.words.length ≤ n) (hfew : g.arrays.length ≤ 1073741824) (hsmall : ∀ a ∈ g.arrays, a.length ≤ 1073741824) :
    Calls Try.prog 57 #[.int .i64 (n : Int), .int .i64 (f : Int), vg] w fun e w' => ∃ mb va vs, e = .returned (.pointer (some ⟨mb, 0, none⟩)) ∧ MAt w' (w.heap.size + 1) mb va vs w'.heap.size { v := Ev.laid n f g.words, arrs := g.arrays, mode := 0 } ∧ Below w.heap.size w w' := by
  obtain ⟨vw, vx, rfl, hw, hx⟩ := hg
  obtain ⟨Aw, cw, rfl, hw1, hw2⟩ := SL.form hw
  unfold maxLen at hw2
  obtain ⟨vs0, hxl, hxs, hxe⟩ := hx
  obtain ⟨Ax, cx, rfl, hx1, hx2⟩ := SL.form hxs
  unfold maxLen at hx2
  have HW := Lib.hid hw
  have HXL := Lib.hid hxl
  have HXS := Lib.hid hxs
  have HXE := Lib.hid hxe
  have HSM := Lib.hid hsmall
  obtain ⟨i0, hi0, hz0, hz1, hz2⟩ := info_parts int_info
  have II := Lib.hid (⟨hi0, hz0, hz1, hz2⟩ : _ ∧ _ ∧ _ ∧ _)
  obtain ⟨i1, hi1, hy0, hy1, hy2⟩ := info_parts slice_info
  have IS := Lib.hid (⟨hi1, hy0, hy1, hy2⟩ : _ ∧ _ ∧ _ ∧ _)
  clear hw hxl hxs hxe hsmall hi0 hz0 hz1 hz2 hi1 hy0 hy1 hy2
  go_enter Try.func57, Try.ntmps57
  go_wp2_with (at_make; refine wpList_make_full _ rfl (.tmp 12) (.tmp 12) _ rfl (w.heap.size + 1) 3 i0 (.int .i64 0) 1 Try.underlying42 II.out.1 II.out.2.1 II.out.2.2.1 .i64 .i64 _ _ n rfl rfl rfl rfl (by rw [II.out.2.2.2]; omega) (by unfold maxLen; omega) (by simp) ?_; intro w1 hown1 hg1; have B1 : Below (w.heap.size + 1) (w.alloc (.cells #[.slice Aw g.words.length cw, .slice Ax g.arrays.length cx] 45)) w1 := (Below.refl _ _).grown hg1 (by simp) (by intro k hk; cases hk); obtain ⟨kc1, kf1, s1⟩ := bfacts B1; have lt1 : w.heap.size + 1 < w1.heap.size := (by have := (hown1.lt _ rfl).2; simpa using this); have lt0 : w.heap.size < w1.heap.size := by omega)
  simp only [World.size_alloc] at hown1
  have hown : w1.ownsRow (w.heap.size + 1) 3 1 (.slice (some ⟨w.heap.size + 1, 0, none⟩) n n) n (List.replicate n (.int .i64 0)) := by
    have h := hown1
    rw [Nat.mul_one, show (Value.int .i64 0).cells = #[.int .i64 0] from rfl, toList_madeCells_one] at h
    exact h
  have HM0 : Hid (MAt (w1.alloc (.cells #[.slice (some ⟨w.heap.size + 1, 0, none⟩) n n, .slice none 0 0, .int .i64 0] 103)) (w.heap.size + 1) w1.heap.size (.slice none 0 0) [] (w1.heap.size + 1) { v := Ev.laid n f (g.words.take 0), arrs := [], mode := 0 }) := by
    have hlen := Ev.laid_length n f (g.words.take 0)
    refine ⟨?_, Arrs.nil_ _ _, ?_, ?_, ?_, fun j => ?_, lt1, Nat.lt_succ_self _, fun b h => by simp [Value.ownBlock] at h, fun k u b h => by simp at h, by simp⟩
    · simp only [hlen]
      rw [List.take_zero, Ev.laid_nil, List.map_replicate]
      exact hown.alloc _
    · simp only [hlen]
      go_simp
    · go_simp
    · go_simp
    · go_simp
  have BW0 : Hid (Below (w.heap.size + 1) (w.alloc (.cells #[.slice Aw g.words.length cw, .slice Ax g.arrays.length cx] 45)) (w1.alloc (.cells #[.slice (some ⟨w.heap.size + 1, 0, none⟩) n n, .slice none 0 0, .int .i64 0] 103))) := (B1.alloc (by omega) _)
  clear hown1 hown hg1 B1 kc1 kf1
  generalize hmb : w1.heap.size = mb at *
  go_loopw [19] (fun u wr => ∃ j : Nat, j ≤ g.words.length ∧ u = .int .i64 j ∧ Hid (MAt wr (w.heap.size + 1) mb (.slice none 0 0) [] (mb + 1) { v := Ev.laid n f (g.words.take j), arrs := [], mode := 0 }) ∧ Below (w.heap.size + 1) (w.alloc (.cells #[.slice Aw g.words.length cw, .slice Ax g.arrays.length cx] 45)) wr) (fun u _ => g.words.length - (intOf u).toNat)
  case atStart => exact ⟨0, by omega, rfl, HM0.out, BW0.out⟩
  case round =>
    obtain ⟨j, hj, rfl, HM, hB⟩ := hrel
    clear HM0 BW0
    have hBw : Below w.heap.size w wr := by (repeat' first | with_reducible (first | exact Below.refl _ _ | assumption | refine Below.alloc ?_ ?_ _ | refine below_drewN ?_ _ | refine Below.drew ?_ | refine Below.setCell ?_ ?_ _ | refine Below.trans ?_ (Below.mono (by with_reducible assumption) ?_)) | go_size)
    obtain ⟨kd, kg, sd⟩ := bfacts hBw
    have m0 := HM.out.m0
    have m1 := HM.out.m1
    simp only [Ev.laid_length] at m0
    have hle := HM.out.le
    have g0 : wr.cell? ⟨w.heap.size, 0, none⟩ = some (.slice Aw g.words.length cw) := (hB.cell (p := ⟨w.heap.size, 0, none⟩) (by go_size)).trans (by go_simp)
    have g1 : wr.cell? ⟨w.heap.size, 1, none⟩ = some (.slice Ax g.arrays.length cx) := (hB.cell (p := ⟨w.heap.size, 1, none⟩) (by go_size)).trans (by go_simp)
    by_cases hlt : j < g.words.length
    · obtain ⟨x, hx⟩ : ∃ x, g.words[j]? = some x := ⟨g.words[j], List.getElem?_eq_getElem hlt⟩
      obtain ⟨b1, o1, r1, hv, hb1, _, _, _, p1⟩ := RInts.at_ HW.out hx
      injection hv with hA _ hcr
      subst hA hcr
      have hcell := HM.out.cell (p := ((f + j : Nat) : Int)) (by unfold inR; simp only [Ev.laid_length]; omega)
      rw [Int.toNat_natCast] at hcell
      have hloose := HM.out.vloose (f + j)
      have HN := Lib.hid (HM.out.setV (f + j) x)
      have HL := Lib.hid (Ev.laid_snoc n f hx (by omega))
      clear hx
      go_wp2_with fail
      go_roundw
      case rel => exact ⟨j + 1, by omega, by go_num, by rw [HL.out]; exact HN.out, hB.setCell (Nat.le_refl _) _⟩
      case measure => simp [intOf]; omega
    · have hje : j = g.words.length := by omega
      subst hje
      rw [List.take_length] at HM
      go_wp2_with fail
      go_loopw [37] (fun u wq => ∃ (j : Nat) (va : Value) (vs : List Value), j ≤ g.arrays.length ∧ u = .int .i64 j ∧ Hid (MAt wq (w.heap.size + 1) mb va vs wq.heap.size { v := Ev.laid n f g.words, arrs := g.arrays.take j, mode := 0 }) ∧ Below (w.heap.size + 1) (w.alloc (.cells #[.slice Aw g.words.length cw, .slice Ax g.arrays.length cx] 45)) wq) (fun u _ => g.arrays.length - (intOf u).toNat)
      case atStart => exact ⟨0, _, _, by omega, rfl, HM.out.higher hle (Nat.le_refl _), hB⟩
      case round =>
        clear m0 m1 hle g0 g1 kd kg sd hBw hB HM
        obtain ⟨j, va, vs, hj, rfl, HM, hB⟩ := hrel
        have hBw : Below w.heap.size w wr := by (repeat' first | with_reducible (first | exact Below.refl _ _ | assumption | refine Below.alloc ?_ ?_ _ | refine below_drewN ?_ _ | refine Below.drew ?_ | refine Below.setCell ?_ ?_ _ | refine Below.trans ?_ (Below.mono (by with_reducible assumption) ?_)) | go_size)
        obtain ⟨kd, kg, sd⟩ := bfacts hBw
        obtain ⟨Av, cv, rfl, _, _⟩ := SL.form (SL.of_own HM.out.arrs.outer)
        have m0 := HM.out.m0
        have m1 := HM.out.m1
        have lm := HM.out.loose 1
        have hbm := HM.out.bm
        have hmh := HM.out.mh
        have hvl : vs.length = j := by rw [HM.out.arrs.len, List.length_take]; omega
        have hvs : vs.length ≤ 1073741824 := by omega
        clear hvl
        by_cases hlt : j < g.arrays.length
        · obtain ⟨a, ha⟩ : ∃ a, g.arrays[j]? = some a := ⟨g.arrays[j], List.getElem?_eq_getElem hlt⟩
          obtain ⟨u0, hu0⟩ : ∃ u0, vs0[j]? = some u0 := ⟨vs0[j]'(by rw [HXL.out]; exact hlt), List.getElem?_eq_getElem _⟩
          obtain ⟨b1, o1, r1, hv, hb1, _, _, p1⟩ := SL.row HXS.out (by omega)
          injection hv with hA _ hcr
          subst hA hcr
          have q1 := p1 j u0 hu0
          have RA := Lib.hid (HXE.out j u0 a hu0 ha)
          have hsa := HSM.out a (List.mem_of_getElem? ha)
          obtain ⟨A0, c0, rfl, _, _⟩ := SL.form RA.out
          have HT := Lib.hid (show g.arrays.take (j + 1) = g.arrays.take j ++ [a] by rw [List.take_add_one, ha]; rfl)
          clear ha hu0 p1
          go_wp2_with fail
          refine wp_region_last (fun w' => w'.cell? ⟨mb, 1, none⟩ = some (.slice Av vs.length cv)) [(0, true), (1, true), (2, true), (3, true), (4, true), (6, true), (5, false), (7, false), (8, false), (9, false), (10, true), (11, true)] 12 (by kernel_rfl) (by kernel_rfl) (by kernel_rfl) (by kernel_rfl) (by kernel_rfl) (by decide) (m1) ?_
          simp only [List.pop_toArray, List.dropLast_cons_cons, List.dropLast_singleton]
          apply trail_light
          case hi => (simp only [List.getElem?_toArray, List.getElem?_cons_zero, List.getElem?_cons_succ]; exact rfl)
          case hl => first | exact light_no (by rfl) | ((first | apply light_plain rfl | apply light_yes (by rfl)); intro w9 hS9; skip; first | (exact exec_load rfl rfl (by first | exact ldi9 | exact ldt9)) | (go_simp; try rfl))
          case hQ => exact fun _ _ _ h => h
          (try simp only [Act.put, List.setIfInBounds_toArray, List.set_cons_zero, List.set_cons_succ])
          apply trail_light
          case hi => (simp only [List.getElem?_toArray, List.getElem?_cons_zero, List.getElem?_cons_succ]; exact rfl)
          case hl => first | exact light_no (by rfl) | ((first | apply light_plain rfl | apply light_yes (by rfl)); intro w9 hS9; skip; first | (exact exec_load rfl rfl (by first | exact ldi9 | exact ldt9)) | (go_simp; try rfl))
          case hQ => exact fun _ _ _ h => h
          (try simp only [Act.put, List.setIfInBounds_toArray, List.set_cons_zero, List.set_cons_succ])
          apply trail_light
          case hi => (simp only [List.getElem?_toArray, List.getElem?_cons_zero, List.getElem?_cons_succ]; exact rfl)
          case hl => first | exact light_no (by rfl) | ((first | apply light_plain rfl | apply light_yes (by rfl)); intro w9 hS9; skip; first | (exact exec_load rfl rfl (by first | exact ldi9 | exact ldt9)) | (go_simp; try rfl))
          case hQ => exact fun _ _ _ h => h
          (try simp only [Act.put, List.setIfInBounds_toArray, List.set_cons_zero, List.set_cons_succ])
          apply trail_light
          case hi => (simp only [List.getElem?_toArray, List.getElem?_cons_zero, List.getElem?_cons_succ]; exact rfl)
          case hl => first | exact light_no (by rfl) | ((first | apply light_plain rfl | apply light_yes (by rfl)); intro w9 hS9; skip; first | (exact exec_load rfl rfl (by first | exact ldi9 | exact ldt9)) | (go_simp; try rfl))
          case hQ => exact fun _ _ _ h => h
          (try simp only [Act.put, List.setIfInBounds_toArray, List.set_cons_zero, List.set_cons_succ])
          apply trail_light
          case hi => (simp only [List.getElem?_toArray, List.getElem?_cons_zero, List.getElem?_cons_succ]; exact rfl)
          case hl => first | exact light_no (by rfl) | ((first | apply light_plain rfl | apply light_yes (by rfl)); intro w9 hS9; skip; first | (exact exec_load rfl rfl (by first | exact ldi9 | exact ldt9)) | (go_simp; try rfl))
          case hQ => exact fun _ _ _ h => h
          (try simp only [Act.put, List.setIfInBounds_toArray, List.set_cons_zero, List.set_cons_succ])
          apply trail_light
          case hi => (simp only [List.getElem?_toArray, List.getElem?_cons_zero, List.getElem?_cons_succ]; exact rfl)
          case hl => first | exact light_no (by rfl) | ((first | apply light_plain rfl | apply light_yes (by rfl)); intro w9 hS9; skip; first | (exact exec_load rfl rfl (by first | exact ldi9 | exact ldt9)) | (go_simp; try rfl))
          case hQ => exact fun _ _ _ h => h
          (try simp only [Act.put, List.setIfInBounds_toArray, List.set_cons_zero, List.set_cons_succ])
          apply trail_heavy
          case hi => (simp only [List.getElem?_toArray, List.getElem?_cons_zero, List.getElem?_cons_succ]; exact rfl)
          go_wp2_with (first | (at_builtin; refine wpList_append_SL (B := w.heap.size) rfl (.tmp 46) (.tmp 47) _ rfl wr.heap.size 3 i0 _ 8 Try.underlying42 II.out.1 II.out.2.1 II.out.2.2.1 II.out.2.2.2 rfl (by omega) rfl (World.ownsRow_made wr.drew #[] 0 (Nat.le_refl _) (by simp [maxLen]) (by simp)) rfl (SL.below RA.out (by (repeat' first | with_reducible (first | exact Below.refl _ _ | assumption | refine Below.alloc ?_ ?_ _ | refine below_drewN ?_ _ | refine Below.drew ?_ | refine Below.setCell ?_ ?_ _ | refine Below.trans ?_ (Below.mono (by with_reducible assumption) ?_)) | go_size))) (ints_oneCell _ a) (by simp only [maxLen]; omega) (by omega) (by go_size) ?_; intro v5 w5 hown5 hg5 hat5; have hb5 : Below wr.heap.size wr w5 := (by (repeat' first | with_reducible (first | exact Below.refl _ _ | assumption | refine Below.alloc ?_ ?_ _ | refine below_drewN ?_ _ | refine Below.drew ?_ | refine Below.setCell ?_ ?_ _ | refine Below.trans ?_ (Below.mono (by with_reducible assumption) ?_)) | go_size) : Below wr.heap.size wr _).grown hg5 (by go_size) (by intro k hk; have hk' : wr.heap.size = k := (Option.some.inj hk); omega); simp only [Nat.zero_add, List.nil_append] at hown5; have lm5 : mb < w5.heap.size := (by have := hb5.size; omega); obtain ⟨A5, c5, hv5, _, _⟩ := SL.form (SL.of_own hown5); subst hv5; have hc5 : w5.cell? ⟨mb, 1, none⟩ = some (.slice Av vs.length cv) := (hb5.cell (p := ⟨mb, 1, none⟩) (by show mb < _; omega)).trans m1) | (at_builtin; refine wpList_append_own_at _ rfl (.tmp 45) (.tmp 49) _ rfl (mb + 1) 42 i1 (.slice none 0 0) 1 24 Try.underlying43 IS.out.1 IS.out.2.1 IS.out.2.2.1 IS.out.2.2.2 rfl (by decide) _ _ _ rfl ((owns_below HM.out.arrs.outer hb5).alloc _) ⟨w5.heap.size, 0, none⟩ 1 1 [.slice A5 a.length c5] rfl rfl (cell_one_new _ _ _) (fun x hx => by simp at hx; subst hx; rfl) (by unfold maxLen; omega) (by omega) (by go_size) ?_; intro v7 w7 hown7 hg7 hn7 hat7; have hc7 : w7.cell? ⟨mb, 1, none⟩ = some (.slice Av vs.length cv) := (hg7.cell (show (w5.alloc (.cells #[.slice A5 a.length c5] 42)).cell? ⟨mb, 1, none⟩ = some (.slice Av vs.length cv) by go_simp) (fun e => absurd (HM.out.arrs.outer.lt mb e.symm).1 (by omega))); obtain ⟨A7, c7, hv7, _, _⟩ := SL.form (SL.of_own hown7); subst hv7) | fail)
          refine ⟨by first | exact hc7 | exact hc5 | go_simp, ?_⟩
          apply trail_heavy
          case hi => (simp only [List.getElem?_toArray, List.getElem?_cons_zero, List.getElem?_cons_succ]; exact rfl)
          go_wp2_with (first | (at_builtin; refine wpList_append_SL (B := w.heap.size) rfl (.tmp 46) (.tmp 47) _ rfl wr.heap.size 3 i0 _ 8 Try.underlying42 II.out.1 II.out.2.1 II.out.2.2.1 II.out.2.2.2 rfl (by omega) rfl (World.ownsRow_made wr.drew #[] 0 (Nat.le_refl _) (by simp [maxLen]) (by simp)) rfl (SL.below RA.out (by (repeat' first | with_reducible (first | exact Below.refl _ _ | assumption | refine Below.alloc ?_ ?_ _ | refine below_drewN ?_ _ | refine Below.drew ?_ | refine Below.setCell ?_ ?_ _ | refine Below.trans ?_ (Below.mono (by with_reducible assumption) ?_)) | go_size))) (ints_oneCell _ a) (by simp only [maxLen]; omega) (by omega) (by go_size) ?_; intro v5 w5 hown5 hg5 hat5; have hb5 : Below wr.heap.size wr w5 := (by (repeat' first | with_reducible (first | exact Below.refl _ _ | assumption | refine Below.alloc ?_ ?_ _ | refine below_drewN ?_ _ | refine Below.drew ?_ | refine Below.setCell ?_ ?_ _ | refine Below.trans ?_ (Below.mono (by with_reducible assumption) ?_)) | go_size) : Below wr.heap.size wr _).grown hg5 (by go_size) (by intro k hk; have hk' : wr.heap.size = k := (Option.some.inj hk); omega); simp only [Nat.zero_add, List.nil_append] at hown5; have lm5 : mb < w5.heap.size := (by have := hb5.size; omega); obtain ⟨A5, c5, hv5, _, _⟩ := SL.form (SL.of_own hown5); subst hv5; have hc5 : w5.cell? ⟨mb, 1, none⟩ = some (.slice Av vs.length cv) := (hb5.cell (p := ⟨mb, 1, none⟩) (by show mb < _; omega)).trans m1) | (at_builtin; refine wpList_append_own_at _ rfl (.tmp 45) (.tmp 49) _ rfl (mb + 1) 42 i1 (.slice none 0 0) 1 24 Try.underlying43 IS.out.1 IS.out.2.1 IS.out.2.2.1 IS.out.2.2.2 rfl (by decide) _ _ _ rfl ((owns_below HM.out.arrs.outer hb5).alloc _) ⟨w5.heap.size, 0, none⟩ 1 1 [.slice A5 a.length c5] rfl rfl (cell_one_new _ _ _) (fun x hx => by simp at hx; subst hx; rfl) (by unfold maxLen; omega) (by omega) (by go_size) ?_; intro v7 w7 hown7 hg7 hn7 hat7; have hc7 : w7.cell? ⟨mb, 1, none⟩ = some (.slice Av vs.length cv) := (hg7.cell (show (w5.alloc (.cells #[.slice A5 a.length c5] 42)).cell? ⟨mb, 1, none⟩ = some (.slice Av vs.length cv) by go_simp) (fun e => absurd (HM.out.arrs.outer.lt mb e.symm).1 (by omega))); obtain ⟨A7, c7, hv7, _, _⟩ := SL.form (SL.of_own hown7); subst hv7) | fail)
          refine ⟨by first | exact hc7 | exact hc5 | go_simp, ?_⟩
          apply trail_heavy
          case hi => (simp only [List.getElem?_toArray, List.getElem?_cons_zero, List.getElem?_cons_succ]; exact rfl)
          go_wp2_with (first | (at_builtin; refine wpList_append_SL (B := w.heap.size) rfl (.tmp 46) (.tmp 47) _ rfl wr.heap.size 3 i0 _ 8 Try.underlying42 II.out.1 II.out.2.1 II.out.2.2.1 II.out.2.2.2 rfl (by omega) rfl (World.ownsRow_made wr.drew #[] 0 (Nat.le_refl _) (by simp [maxLen]) (by simp)) rfl (SL.below RA.out (by (repeat' first | with_reducible (first | exact Below.refl _ _ | assumption | refine Below.alloc ?_ ?_ _ | refine below_drewN ?_ _ | refine Below.drew ?_ | refine Below.setCell ?_ ?_ _ | refine Below.trans ?_ (Below.mono (by with_reducible assumption) ?_)) | go_size))) (ints_oneCell _ a) (by simp only [maxLen]; omega) (by omega) (by go_size) ?_; intro v5 w5 hown5 hg5 hat5; have hb5 : Below wr.heap.size wr w5 := (by (repeat' first | with_reducible (first | exact Below.refl _ _ | assumption | refine Below.alloc ?_ ?_ _ | refine below_drewN ?_ _ | refine Below.drew ?_ | refine Below.setCell ?_ ?_ _ | refine Below.trans ?_ (Below.mono (by with_reducible assumption) ?_)) | go_size) : Below wr.heap.size wr _).grown hg5 (by go_size) (by intro k hk; have hk' : wr.heap.size = k := (Option.some.inj hk); omega); simp only [Nat.zero_add, List.nil_append] at hown5; have lm5 : mb < w5.heap.size := (by have := hb5.size; omega); obtain ⟨A5, c5, hv5, _, _⟩ := SL.form (SL.of_own hown5); subst hv5; have hc5 : w5.cell? ⟨mb, 1, none⟩ = some (.slice Av vs.length cv) := (hb5.cell (p := ⟨mb, 1, none⟩) (by show mb < _; omega)).trans m1) | (at_builtin; refine wpList_append_own_at _ rfl (.tmp 45) (.tmp 49) _ rfl (mb + 1) 42 i1 (.slice none 0 0) 1 24 Try.underlying43 IS.out.1 IS.out.2.1 IS.out.2.2.1 IS.out.2.2.2 rfl (by decide) _ _ _ rfl ((owns_below HM.out.arrs.outer hb5).alloc _) ⟨w5.heap.size, 0, none⟩ 1 1 [.slice A5 a.length c5] rfl rfl (cell_one_new _ _ _) (fun x hx => by simp at hx; subst hx; rfl) (by unfold maxLen; omega) (by omega) (by go_size) ?_; intro v7 w7 hown7 hg7 hn7 hat7; have hc7 : w7.cell? ⟨mb, 1, none⟩ = some (.slice Av vs.length cv) := (hg7.cell (show (w5.alloc (.cells #[.slice A5 a.length c5] 42)).cell? ⟨mb, 1, none⟩ = some (.slice Av vs.length cv) by go_simp) (fun e => absurd (HM.out.arrs.outer.lt mb e.symm).1 (by omega))); obtain ⟨A7, c7, hv7, _, _⟩ := SL.form (SL.of_own hown7); subst hv7) | fail)
          refine ⟨by first | exact hc7 | exact hc5 | go_simp, ?_⟩
          apply trail_heavy
          case hi => (simp only [List.getElem?_toArray, List.getElem?_cons_zero, List.getElem?_cons_succ]; exact rfl)
          go_wp2_with (first | (at_builtin; refine wpList_append_SL (B := w.heap.size) rfl (.tmp 46) (.tmp 47) _ rfl wr.heap.size 3 i0 _ 8 Try.underlying42 II.out.1 II.out.2.1 II.out.2.2.1 II.out.2.2.2 rfl (by omega) rfl (World.ownsRow_made wr.drew #[] 0 (Nat.le_refl _) (by simp [maxLen]) (by simp)) rfl (SL.below RA.out (by (repeat' first | with_reducible (first | exact Below.refl _ _ | assumption | refine Below.alloc ?_ ?_ _ | refine below_drewN ?_ _ | refine Below.drew ?_ | refine Below.setCell ?_ ?_ _ | refine Below.trans ?_ (Below.mono (by with_reducible assumption) ?_)) | go_size))) (ints_oneCell _ a) (by simp only [maxLen]; omega) (by omega) (by go_size) ?_; intro v5 w5 hown5 hg5 hat5; have hb5 : Below wr.heap.size wr w5 := (by (repeat' first | with_reducible (first | exact Below.refl _ _ | assumption | refine Below.alloc ?_ ?_ _ | refine below_drewN ?_ _ | refine Below.drew ?_ | refine Below.setCell ?_ ?_ _ | refine Below.trans ?_ (Below.mono (by with_reducible assumption) ?_)) | go_size) : Below wr.heap.size wr _).grown hg5 (by go_size) (by intro k hk; have hk' : wr.heap.size = k := (Option.some.inj hk); omega); simp only [Nat.zero_add, List.nil_append] at hown5; have lm5 : mb < w5.heap.size := (by have := hb5.size; omega); obtain ⟨A5, c5, hv5, _, _⟩ := SL.form (SL.of_own hown5); subst hv5; have hc5 : w5.cell? ⟨mb, 1, none⟩ = some (.slice Av vs.length cv) := (hb5.cell (p := ⟨mb, 1, none⟩) (by show mb < _; omega)).trans m1) | (at_builtin; refine wpList_append_own_at _ rfl (.tmp 45) (.tmp 49) _ rfl (mb + 1) 42 i1 (.slice none 0 0) 1 24 Try.underlying43 IS.out.1 IS.out.2.1 IS.out.2.2.1 IS.out.2.2.2 rfl (by decide) _ _ _ rfl ((owns_below HM.out.arrs.outer hb5).alloc _) ⟨w5.heap.size, 0, none⟩ 1 1 [.slice A5 a.length c5] rfl rfl (cell_one_new _ _ _) (fun x hx => by simp at hx; subst hx; rfl) (by unfold maxLen; omega) (by omega) (by go_size) ?_; intro v7 w7 hown7 hg7 hn7 hat7; have hc7 : w7.cell? ⟨mb, 1, none⟩ = some (.slice Av vs.length cv) := (hg7.cell (show (w5.alloc (.cells #[.slice A5 a.length c5] 42)).cell? ⟨mb, 1, none⟩ = some (.slice Av vs.length cv) by go_simp) (fun e => absurd (HM.out.arrs.outer.lt mb e.symm).1 (by omega))); obtain ⟨A7, c7, hv7, _, _⟩ := SL.form (SL.of_own hown7); subst hv7) | fail)
          refine ⟨by first | exact hc7 | exact hc5 | go_simp, ?_⟩
          apply trail_light
          case hi => (simp only [List.getElem?_toArray, List.getElem?_cons_zero, List.getElem?_cons_succ]; exact rfl)
          case hl => first | exact light_no (by rfl) | ((first | apply light_plain rfl | apply light_yes (by rfl)); intro w9 hS9; skip; first | (exact exec_load rfl rfl (by first | exact ldi9 | exact ldt9)) | (go_simp; try rfl))
          case hQ => exact fun _ _ _ h => h
          (try simp only [Act.put, List.setIfInBounds_toArray, List.set_cons_zero, List.set_cons_succ])
          apply trail_light
          case hi => (simp only [List.getElem?_toArray, List.getElem?_cons_zero, List.getElem?_cons_succ]; exact rfl)
          case hl => first | exact light_no (by rfl) | ((first | apply light_plain rfl | apply light_yes (by rfl)); intro w9 hS9; skip; first | (exact exec_load rfl rfl (by first | exact ldi9 | exact ldt9)) | (go_simp; try rfl))
          case hQ => exact fun _ _ _ h => h
          (try simp only [Act.put, List.setIfInBounds_toArray, List.set_cons_zero, List.set_cons_succ])
          refine trail_nil ?_
          refine last_at rfl ?_
          (try dsimp only)
          have hfl : w7.frozen? ⟨mb, 1, none⟩ = false := by
            have h1 := (hb5.frozen (p := ⟨mb, 1, none⟩) (by show mb < _; omega)).trans lm
            have : w7.frozen? ⟨mb, 1, none⟩ = w5.frozen? ⟨mb, 1, none⟩ := by
              unfold World.frozen?
              rw [hg7.block mb (by have := hb5.size; simp; omega) (fun e => absurd (HM.out.arrs.outer.lt mb e.symm).1 (by omega)), heap_alloc_old w5 _ (by have := hb5.size; omega)]
            rw [this]
            exact h1
          have hs5 := hb5.size
          have hP := HM.out.push (hb5.alloc hs5 (.cells #[.slice A5 a.length c5] 42)) (hown5.alloc _) hg7 hown7 (hat7.imp id fun e => ⟨_, e, by simp⟩)
          have HP := Lib.hid hP
          have hb7 := Lib.hid ((hB.trans ((hb5.mono (by omega)).alloc (by omega) (.cells #[.slice A5 a.length c5] 42))).grown hg7 (by simp; omega) (fun q hq => by have := (HM.out.arrs.outer.lt q hq).1; omega))
          clear hP hown5 hg5 hat5 hown7 hg7 hn7 hat7
          go_wp2_with fail
          go_roundw
          case rel => exact ⟨j + 1, _, _, by omega, by go_num, by rw [HT.out]; exact HP.out.higher (by simp) (by simp), hb7.out.setCell (by show _ ≤ mb; omega) _⟩
          case measure => simp [intOf]; omega
        · have hje : j = g.arrays.length := by omega
          subst hje
          rw [List.take_length] at HM
          go_wp2
          go_ret
          exact ⟨mb, rfl, ⟨_, vs, HM.out⟩, hBw⟩
end Go.Proofs.Ytljcgcllhcdleaa
/- Chapter 7, the reference: one right instruction of the machine. -/
namespace Go.Proofs.Ytljcgcllhcdleaa
open Go.RowKit
set_option linter.unusedSimpArgs false
set_option linter.unusedVariables false
/-- where it goes on, as the reference says it: below 0: it has ended -/
def nextOf : Option Nat → Int
  | none => -1
  | some k => (k : Int)
theorem do_any (f : Ev.Flat) (i : Ev.Instr) (k : Nat) (s : Ev.St) (bv mb : Nat) (va : Value) (vs : List Value) (hi : Nat) (w : World) (hM : MAt w bv mb va vs hi s) (hk : k ≤ 1099511627776) (hs : Ev.Sound f k i) (hF : Ev.Fine f s) :
    Calls Try.prog 58 #[.pointer (some ⟨mb, 0, none⟩), .agg #[.int .i64 i.op, .int .i64 i.d, .int .i64 i.a, .int .i64 i.b, .int .i64 i.c, .int .i64 i.imm], .int .i64 (k : Int)] w fun e w' => e = .returned (.int .i64 (nextOf (Ev.step i k s).2)) ∧ MAt w' bv mb va vs hi (Ev.step i k s).1 ∧ Sets bv hi w w' := by
  have hop := hs.op
  have rd : ∀ p ∈ Ev.reads i, inR s.v.length p := fun p hp => by rw [hF.len]; exact hs.reads p hp
  have mk : i.op ≤ 16 → inR s.v.length i.d := fun h => by rw [hF.len]; exact hs.makes h
  have va0 := (hF.val i.a).1
  have ar : i.op = 16 ∨ i.op = 17 → 0 ≤ i.b ∧ i.b < (s.arrs.length : Int) := fun h => by rw [hF.alen]; exact hs.arr h
  rcases (show i.op ≤ 12 ∨ i.op = 13 ∨ i.op = 14 ∨ i.op = 15 ∨ i.op = 16 ∨ i.op = 17 ∨ i.op = 18 ∨ i.op = 19 ∨ (i.op = 20 ∨ i.op = 21) by omega) with h | h | h | h | h | h | h | h | h
  · have er : Ev.reads i = [i.a, i.b] := by unfold Ev.reads; rw [if_pos (by omega)]
    have := do_two i k s bv mb va vs hi w hM hk h (rd _ (by rw [er]; simp)) (rd _ (by rw [er]; simp)) (mk (by omega))
    rw [Ev.step_two h] at this ⊢
    exact this
  · have er : Ev.reads i = [i.a, i.b, i.c] := by unfold Ev.reads; rw [if_neg (by omega), if_pos h]
    have := do_sel i k s bv mb va vs hi w hM hk h (rd _ (by rw [er]; simp)) (rd _ (by rw [er]; simp)) (rd _ (by rw [er]; simp)) (mk (by omega))
    rw [Ev.step_sel h] at this ⊢
    exact this
  · have := do_const i k s bv mb va vs hi w hM hk h (mk (by omega))
    rw [Ev.step_const h] at this ⊢
    exact this
  · have er : Ev.reads i = [i.a] := by unfold Ev.reads; rw [if_neg (by omega), if_neg (by omega), if_neg (by omega), if_pos (by omega)]
    have := do_move i k s bv mb va vs hi w hM hk h (rd _ (by rw [er]; simp)) (mk (by omega))
    rw [Ev.step_move h] at this ⊢
    exact this
  · have er : Ev.reads i = [i.a] := by unfold Ev.reads; rw [if_neg (by omega), if_neg (by omega), if_neg (by omega), if_pos (by omega)]
    obtain ⟨b0, b1⟩ := ar (.inl h)
    by_cases hn : Ev.val s.v i.a < (s.arrs.getD i.b.toNat []).length
    · have := do_load_in i k s bv mb va vs hi w hM hk h (rd _ (by rw [er]; simp)) (mk (by omega)) b0 b1 va0 hn
      rw [Ev.step_load h] at this ⊢
      exact this
    · have := do_load_out i k s bv mb va vs hi w hM hk h (rd _ (by rw [er]; simp)) (mk (by omega)) b0 b1 va0 hn
      rw [Ev.step_load h] at this ⊢
      exact this
  · have er : Ev.reads i = [i.a, i.d] := by unfold Ev.reads; rw [if_neg (by omega), if_neg (by omega), if_pos h]
    obtain ⟨b0, b1⟩ := ar (.inr h)
    have hst : (Ev.step i k s).2 = some (k + 1) := by unfold Ev.step; rw [if_neg (by omega), if_neg (by omega), if_neg (by omega), if_neg (by omega), if_neg (by omega), if_pos h]
    rw [hst]
    by_cases hn : Ev.val s.v i.a < (s.arrs.getD i.b.toNat []).length
    · exact do_store_in i k s bv mb va vs hi w hM hk h (rd _ (by rw [er]; simp)) (rd _ (by rw [er]; simp)) b0 b1 va0 hn
    · exact do_store_out i k s bv mb va vs hi w hM hk h (rd _ (by rw [er]; simp)) (rd _ (by rw [er]; simp)) b0 b1 va0 hn
  · have hj := hs.jump (.inl h)
    have := do_jump i k s bv mb va vs hi w hM hk h (by omega)
    rw [Ev.step_jump h] at this ⊢
    rw [show nextOf (s, some i.imm.toNat).2 = i.imm by show ((i.imm.toNat : Nat) : Int) = i.imm; omega]
    exact this
  · have hj := hs.jump (.inr h)
    have er : Ev.reads i = [i.a] := by unfold Ev.reads; rw [if_neg (by omega), if_neg (by omega), if_neg (by omega), if_pos (by omega)]
    by_cases h0 : Ev.val s.v i.a = 0
    · have := do_zero_yes i k s bv mb va vs hi w hM hk h (rd _ (by rw [er]; simp)) (by omega) h0
      rw [Ev.step_zero_yes h h0] at this ⊢
      rw [show nextOf (s, some i.imm.toNat).2 = i.imm by show ((i.imm.toNat : Nat) : Int) = i.imm; omega]
      exact this
    · have := do_zero_no i k s bv mb va vs hi w hM hk h (rd _ (by rw [er]; simp)) (by omega) h0
      rw [Ev.step_zero_no h h0] at this ⊢
      exact this
  · have := do_end i k s bv mb va vs hi w hM hk h
    rw [Ev.step_end h] at this ⊢
    exact this
end Go.Proofs.Ytljcgcllhcdleaa
