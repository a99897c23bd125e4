import Derived.Test.YtljcgcllhcdleaaFo19
import Derived.Deep.CutBlock
/- fold.Used. -/
namespace Go.Proofs.Ytljcgcllhcdleaa
open Go.RowKit
set_option linter.unusedSimpArgs false
set_option linter.unusedVariables false
theorem flat6_put : ∀ (l : List Ev.Instr) (k : Nat) (i : Ev.Instr) (x : Int), l[k]? = some i → (l.flatMap cellsI).set (k * 6 + 5) (.int .i64 x) = (l.set k { i with imm := x }).flatMap cellsI
  | [], k, i, x, h => by simp at h
  | y :: r, 0, i, x, h => by
    simp at h
    subst h
    simp [cellsI]
  | y :: r, k + 1, i, x, h => by
    have := flat6_put r k i x (by simpa using h)
    rw [List.flatMap_cons, List.set_cons_succ, List.flatMap_cons, ← this, List.set_append_right (h := by simp [cellsI]; omega)]
    congr 1
    congr 1
    simp [cellsI]
    omega
theorem Dep.under2 {lo hi B : Nat} {R : World → Prop} {w w' : World} (h : Dep lo hi w R) (hb : Below B w w') (hB : hi ≤ B) : Dep lo hi w' R :=
  ⟨Nat.le_trans h.1 hb.size, fun u h3 h4 => h.2 u h3 fun b h5 h6 => (h4 b h5 h6).trans (hb.block b (by omega))⟩
set_option maxRecDepth 30000 in
set_option maxHeartbeats 25600000 in
theorem usedF_any (f : Ev.Flat) (vf : Value) (w : World) (hf : RFlat w w.heap.size vf f) (hr : Ev.Right f) (hn : f.secret.length ≤ 268435456) (hna : f.arrays.length ≤ 268435456) :
    Calls Try.prog 28 #[vf] w fun e w' => ∃ v, e = .returned v ∧ RFlat w' w'.heap.size v (Ev.usedF f) ∧ FromFlat (w.heap.size + 2) v ∧ Below w.heap.size w w' := by
  have HF0 := Lib.hid hf
  have HR := Lib.hid hr
  have hlen := hr.len2
  have hpos := hr.len1
  have HN := Lib.hid hn
  have HJ := Lib.hid (show ∀ i ∈ f.code, i.op = 18 ∨ i.op = 19 → InW64 i.imm from fun i hi ho => by
    obtain ⟨k, hk, rfl⟩ := List.getElem_of_mem hi
    have := (hr.sound (List.getElem?_eq_getElem hk)).jump ho
    exact ⟨by omega, by omega⟩)
  obtain ⟨Ac, cc, As, cs, Av, cv, rfl⟩ := hf.slices
  have hmm := @run_makeMap Try.prog
  clear hf hr hn
  go_enter Try.func28, Try.ntmps28
  go_upto_region 1 with fail
  have bA : Below w.heap.size w ((w.alloc (.cells #[.slice Ac f.code.length cc, .slice As f.secret.length cs, .int .i64 f.params, .slice Av f.arrays.length cv] 26)).alloc (.cells #[.slice none 0 0, .slice none 0 0, .int .i64 0, .slice none 0 0] 26)) := by (repeat' first | with_reducible (first | exact Below.refl _ _ | assumption | refine Below.alloc ?_ ?_ _ | refine below_drewN ?_ _ | refine Below.drew ?_ | refine Below.setCell ?_ ?_ _ | refine Below.trans ?_ (Below.mono (by with_reducible assumption) ?_)) | go_size)
  have HB1 : Hid ((((w.alloc (.cells #[.slice Ac f.code.length cc, .slice As f.secret.length cs, .int .i64 f.params, .slice Av f.arrays.length cv] 26)).alloc (.cells #[.slice none 0 0, .slice none 0 0, .int .i64 0, .slice none 0 0] 26))).heap[w.heap.size]? = some (.cells #[.slice Ac f.code.length cc, .slice As f.secret.length cs, .int .i64 f.params, .slice Av f.arrays.length cv] 26 (0, 0))) := box_on (box_new w _) ((Below.refl _ _).alloc (Nat.le_refl _) _)
  have HB2 : Hid ((((w.alloc (.cells #[.slice Ac f.code.length cc, .slice As f.secret.length cs, .int .i64 f.params, .slice Av f.arrays.length cv] 26)).alloc (.cells #[.slice none 0 0, .slice none 0 0, .int .i64 0, .slice none 0 0] 26))).heap[w.heap.size + 1]? = some (.cells #[.slice none 0 0, .slice none 0 0, .int .i64 0, .slice none 0 0] 26 (0, 0))) := by
    have h := box_new (w.alloc (.cells #[.slice Ac f.code.length cc, .slice As f.secret.length cs, .int .i64 f.params, .slice Av f.arrays.length cv] 26)) (.cells #[.slice none 0 0, .slice none 0 0, .int .i64 0, .slice none 0 0] 26)
    rw [World.size_alloc] at h
    exact h
  have HF := RFlat.on HF0 bA
  have sA : (((w.alloc (.cells #[.slice Ac f.code.length cc, .slice As f.secret.length cs, .int .i64 f.params, .slice Av f.arrays.length cv] 26)).alloc (.cells #[.slice none 0 0, .slice none 0 0, .int .i64 0, .slice none 0 0] 26))).heap.size = w.heap.size + 2 := by simp
  generalize ((w.alloc (.cells #[.slice Ac f.code.length cc, .slice As f.secret.length cs, .int .i64 f.params, .slice Av f.arrays.length cv] 26)).alloc (.cells #[.slice none 0 0, .slice none 0 0, .int .i64 0, .slice none 0 0] 26)) = wA at *
  have SA := Lib.hid sA
  clear sA
  go_upto_region 2 with (first | (refine wpList_load_box rfl 26 _ rfl rfl (box_load Try.underlying26 (by kernel_rfl) rfl (by kernel_rfl) (box_on HB1 (by (repeat' first | with_reducible (first | exact Below.refl _ _ | assumption | refine Below.alloc ?_ ?_ _ | refine below_drewN ?_ _ | refine Below.drew ?_ | refine Below.setCell ?_ ?_ _ | refine Below.trans ?_ (Below.mono (by with_reducible assumption) ?_)) | go_size)))) ?_) | (go_at_call 33; refine (own_code f _ _ HF.out (by omega) (by have := HN.out; omega) (by omega)).mono ?_; rintro e w1 ⟨lo, vc1, vs1, va1, rfl, hO, hOl, hS, hSf, hA, hAf, hl1, hl2, hb1⟩; obtain ⟨g, cg, rfl, hg1, hg2⟩ := World.ownsRow.form hO (by omega); obtain ⟨A2, c2, rfl, _, _⟩ := SL.form hS; obtain ⟨A3, c3, rfl, _, _⟩ := SL.form hA))
  have s1 := hb1.size
  have hglo : g < lo := hOl g rfl
  have bB : Below w1.heap.size w1 (w1.alloc (.cells #[.slice (some ⟨g, 0, none⟩) f.code.length cg, .slice A2 f.secret.length c2, .int .i64 f.params, .slice A3 f.arrays.length c3] 26)) := (Below.refl _ _).alloc (Nat.le_refl _) _
  have HO : Hid ((w1.alloc (.cells #[.slice (some ⟨g, 0, none⟩) f.code.length cg, .slice A2 f.secret.length c2, .int .i64 f.params, .slice A3 f.arrays.length c3] 26)).ownsRow wA.heap.size 39 6 (.slice (some ⟨g, 0, none⟩) f.code.length cg) f.code.length (f.code.flatMap cellsI)) := Lib.hid (owns_below hO bB)
  have HD : Hid (Dep lo w1.heap.size (w1.alloc (.cells #[.slice (some ⟨g, 0, none⟩) f.code.length cg, .slice A2 f.secret.length c2, .int .i64 f.params, .slice A3 f.arrays.length c3] 26)) (fun u => RBools u u.heap.size (.slice A2 f.secret.length c2) f.secret ∧ RVars u u.heap.size (.slice A3 f.arrays.length c3) f.arrays)) := Lib.hid (((SL.dep hS hSf).and (SL.dep hA hAf)).stays bB)
  have HBX := box_new w1 (.cells #[.slice (some ⟨g, 0, none⟩) f.code.length cg, .slice A2 f.secret.length c2, .int .i64 f.params, .slice A3 f.arrays.length c3] 26)
  have HB1B := box_on (box_on HB1 hb1) bB
  have HB2B := box_on (box_on HB2 hb1) bB
  have HFB := RFlat.on (RFlat.on HF hb1) bB
  have b2 : Below w.heap.size w (w1.alloc (.cells #[.slice (some ⟨g, 0, none⟩) f.code.length cg, .slice A2 f.secret.length c2, .int .i64 f.params, .slice A3 f.arrays.length c3] 26)) := (bA.trans (hb1.mono (by have := SA.out; omega))).alloc (by have := SA.out; omega) _
  have sB : (w1.alloc (.cells #[.slice (some ⟨g, 0, none⟩) f.code.length cg, .slice A2 f.secret.length c2, .int .i64 f.params, .slice A3 f.arrays.length c3] 26)).heap.size = w1.heap.size + 1 := by simp
  have SB := Lib.hid sB
  generalize w1.alloc (.cells #[.slice (some ⟨g, 0, none⟩) f.code.length cg, .slice A2 f.secret.length c2, .int .i64 f.params, .slice A3 f.arrays.length c3] 26) = wB at *
  have HFA := Lib.hid (show from_ lo (.slice A2 f.secret.length c2) ∧ from_ lo (.slice A3 f.arrays.length c3) from ⟨hSf, hAf⟩)
  clear hO hOl hS hSf hA hAf hb1 bB bA HB1 HB2 HF sB
  have f0 : wB.cell? ⟨w.heap.size, 0, none⟩ = some (.slice Ac f.code.length cc) := box_cell HB1B 0 rfl
  have hfc : RCode wB wB.heap.size (.slice Ac f.code.length cc) f.code := by
    obtain ⟨_, _, _, e, hc', _⟩ := HFB.out
    injection e with e
    simp only [Array.mk.injEq, List.cons.injEq] at e
    obtain ⟨rfl, _⟩ := e
    exact hc'
  have HKD := Lib.hid hfc
  clear hfc
  have hmb := bools_make (n := f.code.length) hlen
  go_upto_region 3 with (go_at_call 61; refine (targets_any f.code _ _ HKD.out (by omega) HJ.out).mono ?_; rintro e w2 ⟨rfl, hmt, hb2⟩)
  have s2 := hb2.size
  have hmtl := hmt.lt
  have HB1B2 := box_on HB1B hb2
  have f0 : w2.cell? ⟨w.heap.size, 0, none⟩ = some (.slice Ac f.code.length cc) := box_cell HB1B2 0 rfl
  go_upto_region 6 with fail
  clear f0
  have bC : Below wB.heap.size wB (((w2.alloc (.cells (Array.replicate f.code.length (Value.bool false)) 4)).alloc (.map #[] 0)).alloc (.map #[] 0)) := by (repeat' first | with_reducible (first | exact Below.refl _ _ | assumption | refine Below.alloc ?_ ?_ _ | refine below_drewN ?_ _ | refine Below.drew ?_ | refine Below.setCell ?_ ?_ _ | refine Below.trans ?_ (Below.mono (by with_reducible assumption) ?_)) | go_size)
  have bD : Below w2.heap.size w2 (((w2.alloc (.cells (Array.replicate f.code.length (Value.bool false)) 4)).alloc (.map #[] 0)).alloc (.map #[] 0)) := by (repeat' first | with_reducible (first | exact Below.refl _ _ | assumption | refine Below.alloc ?_ ?_ _ | refine below_drewN ?_ _ | refine Below.drew ?_ | refine Below.setCell ?_ ?_ _ | refine Below.trans ?_ (Below.mono (by with_reducible assumption) ?_)) | go_size)
  have HMT : Hid (MapIn (((w2.alloc (.cells (Array.replicate f.code.length (Value.bool false)) 4)).alloc (.map #[] 0)).alloc (.map #[] 0)) wB.heap.size (setF (Ev.toS f.code))) := Lib.hid (hmt.on bD)
  replace HD := Lib.hid (HD.out.stays bC)
  replace HBX := box_on HBX bC
  have HB2C := box_on HB2B bC
  have HB1C := box_on HB1B bC
  have sK : ((((w2.alloc (.cells (Array.replicate f.code.length (Value.bool false)) 4)).alloc (.map #[] 0)).alloc (.map #[] 0))).heap.size = w2.heap.size + 3 := by simp
  have b3 : Below w.heap.size w (((w2.alloc (.cells (Array.replicate f.code.length (Value.bool false)) 4)).alloc (.map #[] 0)).alloc (.map #[] 0)) := b2.trans (bC.mono (by have := SA.out; have := SB.out; omega))
  have HU0 : Hid (UW f.code w2.heap.size (((w2.alloc (.cells (Array.replicate f.code.length (Value.bool false)) 4)).alloc (.map #[] 0)).alloc (.map #[] 0)) f.code.length f.code.length (Ev.livein f.code f.code.length) (w2.heap.size + 1 + 1) (fun _ => 0) (((w2.alloc (.cells (Array.replicate f.code.length (Value.bool false)) 4)).alloc (.map #[] 0)).alloc (.map #[] 0))) := Lib.hid (by
    have nd : ∀ p, ¬ AtDom f.code f.code.length p := fun p ⟨⟨h1, h2⟩, _⟩ => by omega
    have hm1 : MapIn (((w2.alloc (.cells (Array.replicate f.code.length (Value.bool false)) 4)).alloc (.map #[] 0)).alloc (.map #[] 0)) (w2.heap.size + 1) (fun _ => none) := by
      have h := (MapIn.made (w2.alloc (.cells (Array.replicate f.code.length (Value.bool false)) 4))).on ((Below.refl _ _).alloc (Nat.le_refl _) (.map #[] 0))
      simpa using h
    have hm2 : MapIn (((w2.alloc (.cells (Array.replicate f.code.length (Value.bool false)) 4)).alloc (.map #[] 0)).alloc (.map #[] 0)) (w2.heap.size + 1 + 1) (fun _ => none) := by
      have h := MapIn.made ((w2.alloc (.cells (Array.replicate f.code.length (Value.bool false)) 4)).alloc (.map #[] 0))
      simpa using h
    refine ⟨by rw [sK]; exact Nat.le_refl _, ?_, ?_, ?_, fun p hp => absurd hp (nd p), fun p hp => absurd hp (nd p), by omega, Below.refl _ _⟩
    · rw [Ev.livein_end (Nat.le_refl _), ← setF_none]
      exact hm2
    · rw [Ev.keptTo_none]
      exact (box_on (box_on (box_new w2 _) ((Below.refl _ _).alloc (Nat.le_refl _) _)) ((Below.refl _ _).alloc (Nat.le_refl _) _)).out
    · rw [show atF f.code f.code.length (fun _ => 0) = (fun _ => none) from funext fun p => by unfold atF; rw [if_neg (nd p)]]
      exact hm1)
  have HW4 : Hid (((((w2.alloc (.cells (Array.replicate f.code.length (Value.bool false)) 4)).alloc (.map #[] 0)).alloc (.map #[] 0))).heap.size = w2.heap.size + 3) := Lib.hid sK
  generalize (((w2.alloc (.cells (Array.replicate f.code.length (Value.bool false)) 4)).alloc (.map #[] 0)).alloc (.map #[] 0)) = w4 at *
  have u1 : w.heap.size + 1 < g := by have := SA.out; omega
  have u2 : g < w1.heap.size := by omega
  have u3 : w1.heap.size < wB.heap.size := by have := SB.out; omega
  have u4 : wB.heap.size < w2.heap.size := by omega
  have hbl : w2.heap.size + 1 + 1 = w2.heap.size + 2 := by omega
  have hC0 : RCode w w.heap.size (.slice Ac f.code.length cc) f.code := by
    obtain ⟨_, _, _, e, hc', _⟩ := HF0.out
    injection e with e
    simp only [Array.mk.injEq, List.cons.injEq] at e
    obtain ⟨rfl, _⟩ := e
    exact hc'
  have HC0 := Lib.hid hC0
  obtain ⟨_, _, e, hcc1, hcc2⟩ := SL.form hC0
  injection e with e1 e2 e3
  subst e1 e3
  unfold maxLen at hcc2
  clear hmt hb2 bC bD b2 HKD HFB HB1B HB2B HB1B2 hbl hC0
  generalize wB.heap.size = bt at *
  generalize w2.heap.size = bk at *
  generalize w1.heap.size = bx at *
  generalize wA.heap.size = ba at *
  clear SA SB s1 s2 hmtl hg1 hg2 hl1 hl2
  have f0 : w4.cell? ⟨w.heap.size, 0, none⟩ = some (.slice Ac f.code.length cc) := box_cell HB1C 0 rfl
  go_wp2_with fail
  clear f0
  go_loopw [8, 7] (fun kk ll wr => ∃ (j : Nat) (x : Int) (bl : Nat) (B : Int → Nat), j ≤ f.code.length ∧ x = (j : Int) - 1 ∧ kk = .int .i64 x ∧ ll = .map (some bl) ∧ Hid (UW f.code bk w4 j j (Ev.livein f.code j) bl B wr)) (fun kk _ _ => (intOf kk + 1).toNat)
  case atStart => exact ⟨f.code.length, _, bk + 1 + 1, _, Nat.le_refl _, rfl, by (first | rfl | go_num), rfl, HU0⟩
  case round =>
    clear HU0
    obtain ⟨j, x, bl, B, hj, hx, rfl, rfl, HU⟩ := hrel
    have bW : Below w.heap.size w wr := b3.trans (HU.out.fr.mono (by omega))
    have bZ := HU.out.fr
    have hsz := HU.out.sz
    cases j with
    | zero =>
      obtain rfl : x = -1 := by omega
      have HKb : Hid (wr.heap[bk]? = some (.cells ((Ev.keptTo f.code 0).map Value.bool).toArray 4 (0, 0))) := Lib.hid HU.out.kept
      have HB1r := box_under HB1C bZ (by omega)
      have HB2r := box_under HB2C bZ (by omega)
      have HBXr := box_under HBX bZ (by omega)
      have szw : w4.heap.size ≤ wr.heap.size := by have := HW4.out; omega
      have HDr := Lib.hid (HD.out.under bZ (by omega) szw)
      have f0 : wr.cell? ⟨w.heap.size, 0, none⟩ = some (.slice Ac f.code.length cc) := box_cell HB1r 0 rfl
      have hmi := ints_make (n := f.code.length) hlen
      clear HU bZ hx
      go_upto_region 33 with fail
      have bN : Below wr.heap.size wr (wr.alloc (.cells (Array.replicate f.code.length (Value.int .i64 0)) 3)) := (Below.refl _ _).alloc (Nat.le_refl _) _
      have HNWr : Hid ((wr.alloc (.cells (Array.replicate f.code.length (Value.int .i64 0)) 3)).heap[wr.heap.size]? = some (.cells ((Ev.nowTo f.code 0).map (Value.int .i64)).toArray 3 (0, 0))) := by
        rw [Ev.nowTo_none]
        exact box_new wr _
      replace HKb := box_on HKb bN
      replace HB1r := box_on HB1r bN
      replace HB2r := box_on HB2r bN
      replace HBXr := box_on HBXr bN
      replace HDr := Lib.hid (HDr.out.stays bN)
      have bX := bW.size
      have bV : Below w.heap.size w (wr.alloc (.cells (Array.replicate f.code.length (Value.int .i64 0)) 3)) := bW.alloc bX _
      have hsv : wr.heap.size < (wr.alloc (.cells (Array.replicate f.code.length (Value.int .i64 0)) 3)).heap.size := by simp
      generalize wr.alloc (.cells (Array.replicate f.code.length (Value.int .i64 0)) 3) = w5 at *
      generalize wr.heap.size = bw at *
      have x0 : w5.cell? ⟨bx, 0, none⟩ = some (.slice (some ⟨g, 0, none⟩) f.code.length cg) := box_cell HBXr 0 rfl
      have xf := fun j => box_free HBXr j
      clear bN f0 bW hmi
      go_upto_region 34 with fail
      have hso : ∀ b, b ≠ bx → (w5.setCell ⟨bx, 0, none⟩ (.slice none 0 0)).heap[b]? = w5.heap[b]? := fun b hb => Below.heap_setCell w5 ⟨bx, 0, none⟩ _ b hb
      have HBX6 : Hid ((w5.setCell ⟨bx, 0, none⟩ (.slice none 0 0)).heap[bx]? = some (.cells #[.slice none 0 0, .slice A2 f.secret.length c2, .int .i64 f.params, .slice A3 f.arrays.length c3] 26 (0, 0))) := Lib.hid (by rw [heap_setCell_same w5 bx 0 _ _ (.slice none 0 0) HBXr.out]; rfl)
      have HNW6 : Hid ((w5.setCell ⟨bx, 0, none⟩ (.slice none 0 0)).heap[bw]? = some (.cells ((Ev.nowTo f.code 0).map (Value.int .i64)).toArray 3 (0, 0))) := Lib.hid ((hso bw (by omega)).trans HNWr.out)
      have HK6 : Hid ((w5.setCell ⟨bx, 0, none⟩ (.slice none 0 0)).heap[bk]? = some (.cells ((Ev.keptTo f.code 0).map Value.bool).toArray 4 (0, 0))) := Lib.hid ((hso bk (by omega)).trans HKb.out)
      have HB16 : Hid ((w5.setCell ⟨bx, 0, none⟩ (.slice none 0 0)).heap[w.heap.size]? = some (.cells #[.slice Ac f.code.length cc, .slice As f.secret.length cs, .int .i64 f.params, .slice Av f.arrays.length cv] 26 (0, 0))) := Lib.hid ((hso _ (by omega)).trans HB1r.out)
      have HB26 : Hid ((w5.setCell ⟨bx, 0, none⟩ (.slice none 0 0)).heap[w.heap.size + 1]? = some (.cells #[.slice none 0 0, .slice none 0 0, .int .i64 0, .slice none 0 0] 26 (0, 0))) := Lib.hid ((hso _ (by omega)).trans HB2r.out)
      have HD6 := Lib.hid (HDr.out.aside bx 0 (.slice none 0 0) (.inr (Nat.le_refl _)))
      have b6 : Below w.heap.size w (w5.setCell ⟨bx, 0, none⟩ (.slice none 0 0)) := bV.setCell (by show w.heap.size ≤ bx; omega) _
      have hs6 : (w5.setCell ⟨bx, 0, none⟩ (.slice none 0 0)).heap.size = w5.heap.size := by simp
      generalize w5.setCell ⟨bx, 0, none⟩ (.slice none 0 0) = w6 at *
      have HP0 : Hid (PW f.code bx bk bw w6 0 0 (.slice none 0 0) (.slice A2 f.secret.length c2) (.int .i64 f.params) (.slice A3 f.arrays.length c3) w6) := Lib.hid ⟨HBX6.out, World.ownsRow_nil _ _ _ _, HNW6.out, HK6.out, Below.refl _ _⟩
      have u5 : bk < bw := by omega
      have u4b : bx < bk := by omega
      have f0 : w6.cell? ⟨w.heap.size, 0, none⟩ = some (.slice Ac f.code.length cc) := box_cell HB16 0 rfl
      have hbw6 : bw < w6.heap.size := by omega
      clear x0 xf hso HBX6 HNW6 HK6 HB1r HB2r HBXr HNWr HKb HDr bV hs6 hsv hsz szw
      obtain ⟨ii, hi0, hz0, hz1, hz2⟩ := info_parts cloneCode_info
      have II := Lib.hid (⟨hi0, hz0, hz1, hz2⟩ : _ ∧ _ ∧ _ ∧ _)
      clear hi0 hz0 hz1 hz2
      go_wp2_with fail
      clear f0
      go_loopw [114] (fun kk wx => ∃ (k : Nat) (v : Value), k ≤ f.code.length ∧ kk = .int .i64 (k : Int) ∧ Hid (PW f.code bx bk bw w6 k k v (.slice A2 f.secret.length c2) (.int .i64 f.params) (.slice A3 f.arrays.length c3) wx)) (fun kk _ => f.code.length - (intOf kk).toNat)
      case atStart => exact ⟨0, _, by omega, rfl, HP0⟩
      case round =>
        clear HP0
        obtain ⟨k, v, hk, rfl, HP⟩ := hrel
        have bW : Below w.heap.size w wr := b6.trans (HP.out.fr.mono (by omega))
        have hbw := HP.out.lt
        by_cases hlt : k < f.code.length
        ·
          obtain ⟨i, hi⟩ : ∃ i, f.code[k]? = some i := ⟨f.code[k], List.getElem?_eq_getElem hlt⟩
          obtain ⟨b1, o1, r1, hv, hb1, _, _, _, p0, p1, p2, p3, p4, p5⟩ := RCode.at_ (SL.at_ HC0.out bW (Nat.le_refl _)) hi
          injection hv with hA _ hcr
          subst hA hcr
          have HI := Lib.hid hi
          clear hi
          go_upto_region 37 with fail
          have HBI := box_new wr (.cells #[.int .i64 i.op, .int .i64 i.d, .int .i64 i.a, .int .i64 i.b, .int .i64 i.c, .int .i64 i.imm] 39)
          have bI : Below wr.heap.size wr (wr.alloc (.cells #[.int .i64 i.op, .int .i64 i.d, .int .i64 i.a, .int .i64 i.b, .int .i64 i.c, .int .i64 i.imm] 39)) := (Below.refl _ _).alloc (Nat.le_refl _) _
          have HPI := Lib.hid (HP.out.on bI)
          generalize (wr.alloc (.cells #[.int .i64 i.op, .int .i64 i.d, .int .i64 i.a, .int .i64 i.b, .int .i64 i.c, .int .i64 i.imm] 39)) = wI at *
          generalize wr.heap.size = bI' at *
          obtain ⟨A6, c6, rfl, hd1, hd2⟩ := SL.form (SL.of_own HPI.out.row)
          unfold maxLen at hd2
          have hnk := Ev.nowK_le f.code k
          have x0 : wI.cell? ⟨bx, 0, none⟩ = some (.slice A6 (Ev.nowK f.code k) c6) := (cell_of_block HPI.out.box 0).trans rfl
          have y0 : wI.cell? ⟨bw, k, none⟩ = some (.int .i64 0) := (cell_of_block HPI.out.now k).trans (by rw [List.getElem?_toArray, List.getElem?_map, Ev.nowTo_at hlt, if_neg (by omega)]; rfl)
          have yf := fun j => box_looseM HPI.out.now j
          have hbIw : bw < bI' := hbw
          clear p0 p1 p2 p3 p4 p5 bI HP bW hbw
          go_upto_region 38 with fail
          have HP7 := Lib.hid (HPI.out.setNow hlt u4b u5)
          have HB7 : Hid ((wI.setCell ⟨bw, k, none⟩ (.int .i64 (Ev.nowK f.code k : Int))).heap[bI']? = some (.cells #[.int .i64 i.op, .int .i64 i.d, .int .i64 i.a, .int .i64 i.b, .int .i64 i.c, .int .i64 i.imm] 39 (0, 0))) := Lib.hid ((Below.heap_setCell wI ⟨bw, k, none⟩ _ bI' (by show bI' ≠ bw; omega)).trans HBI.out)
          generalize wI.setCell ⟨bw, k, none⟩ (.int .i64 (Ev.nowK f.code k : Int)) = w7 at *
          obtain ⟨c, hc⟩ : ∃ c, Ev.keptAt f.code k = c := ⟨_, rfl⟩
          have k7 : w7.cell? ⟨bk, k, none⟩ = some (.bool c) := (cell_of_block HP7.out.kept k).trans (by rw [List.getElem?_toArray, List.getElem?_map, Ev.keptTo_at hlt, decide_eq_true (Nat.zero_le _), hc]; rfl)
          clear x0 y0 yf
          cases c with
          | false =>
            have HN8 := Lib.hid (HP7.out.skip hc)
            clear hc
            go_wp2_with fail
            go_roundw
            case rel => exact ⟨k + 1, _, by omega, by go_num, HN8⟩
            case measure => simp [intOf]; omega
          | true =>
            have HC := Lib.hid hc
            obtain ⟨N, hN⟩ : ∃ N, Ev.nowK f.code k = N := ⟨_, rfl⟩
            obtain ⟨XS, hXS⟩ : ∃ XS, (Ev.usedTo f.code k).flatMap cellsI = XS := ⟨_, rfl⟩
            have HR7 : Hid (w7.ownsRow (bw + 1) 39 6 (.slice A6 N c6) N XS) := Lib.hid (by rw [← hN, ← hXS]; exact HP7.out.row)
            have HNN := Lib.hid hN
            have HXX := Lib.hid hXS
            rw [hN] at HP7 hnk hd1 ⊢
            clear hN hXS
            have x7 : w7.cell? ⟨bx, 0, none⟩ = some (.slice A6 N c6) := (cell_of_block HP7.out.box 0).trans rfl
            have n0 : w7.cell? ⟨bI', 0, none⟩ = some (.int .i64 i.op) := box_cell HB7 0 rfl
            have n1 : w7.cell? ⟨bI', 1, none⟩ = some (.int .i64 i.d) := box_cell HB7 1 rfl
            have n2 : w7.cell? ⟨bI', 2, none⟩ = some (.int .i64 i.a) := box_cell HB7 2 rfl
            have n3 : w7.cell? ⟨bI', 3, none⟩ = some (.int .i64 i.b) := box_cell HB7 3 rfl
            have n4 : w7.cell? ⟨bI', 4, none⟩ = some (.int .i64 i.c) := box_cell HB7 4 rfl
            have n5 : w7.cell? ⟨bI', 5, none⟩ = some (.int .i64 i.imm) := box_cell HB7 5 rfl
            have hbw7 := HP7.out.lt
            clear hc
            go_wp2_with (at_builtin; refine wpList_append_own_at _ rfl (.tmp 130) (.tmp 132) _ rfl (bw + 1) 39 ii (.agg #[.int .i64 0, .int .i64 0, .int .i64 0, .int .i64 0, .int .i64 0, .int .i64 0]) 6 48 Try.underlying22 II.out.1 II.out.2.1 II.out.2.2.1 II.out.2.2.2 rfl (by decide) _ _ _ rfl (HR7.out.alloc _) ⟨w7.heap.size, 0, none⟩ 1 1 (cellsI i) rfl rfl (cell_six_mk _ _ _) (one_six_mk i) (by unfold maxLen; omega) (by omega) (by simp; omega) ?_; intro v8 w8 hown8 hg8 hn8 hat8; have HA8 := Lib.hid (HP7.out.grow (v8 := v8) ((Below.refl _ _).alloc (Nat.le_refl _) _) hg8 (by rw [HNN.out, HXX.out]; exact hown8) HI.out HC.out u4b u5); have x8 : w8.cell? ⟨bx, 0, none⟩ = some (.slice A6 N c6) := (cell_of_block HA8.out.1 0).trans rfl; have xf8 := fun j => box_looseM HA8.out.1 j; obtain ⟨A8, c8, rfl, hd8, hd9⟩ := SL.form (SL.of_own hown8); clear hd8 hd9)
            have HP9 := HA8.out.2
            generalize w8.setCell ⟨bx, 0, none⟩ (.slice A8 (N + 1) c8) = w9 at *
            clear x7 n0 n1 n2 n3 n4 n5 hown8 hg8 hn8 hat8 x8 xf8 HA8
            go_wp2_with fail
            go_roundw
            case rel => exact ⟨k + 1, .slice A8 (N + 1) c8, by omega, by go_num, Lib.hid HP9⟩
            case measure => simp [intOf]; omega
        · obtain rfl : k = f.code.length := by omega
          skip
          have hU1 : 1 ≤ Ev.nowK f.code f.code.length := by
            have h := (Ev.used_right HR.out).len1
            rwa [show (Ev.usedF f).code.length = Ev.nowK f.code f.code.length from Ev.used_len f.code] at h
          obtain ⟨gg, cU, rfl, hgg1, hgg2⟩ := World.ownsRow.form HP.out.row (by omega)
          obtain ⟨U, hU⟩ : ∃ U, Ev.nowK f.code f.code.length = U := ⟨_, rfl⟩
          obtain ⟨C, hC⟩ : ∃ C, Ev.usedTo f.code f.code.length = C := ⟨_, rfl⟩
          have hCl : C.length = U := by rw [← hC, ← hU, Ev.usedTo_len]
          have HCe := Lib.hid hC
          have HCV : Hid (∀ (q : Nat) (x : Ev.Instr), C[q]? = some x → x.op = 18 ∨ x.op = 19 → ∃ p : Nat, x.imm = p ∧ p < f.code.length) := Lib.hid (fun q x hx ho => by
            rw [← hC] at hx
            obtain ⟨k, h1, h2, _, _⟩ := Ev.usedTo_cov f.code _ q x (Nat.le_refl _) hx
            have h3 := (HR.out.sound h2).jump ho
            exact ⟨x.imm.toNat, by omega, by omega⟩)
          have hUl : U ≤ f.code.length := by rw [← hU]; exact Ev.nowK_le _ _
          have HRow : Hid (wr.ownsRow (bw + 1) 39 6 (.slice (some ⟨gg, 0, none⟩) U cU) U ((Ev.relKTo f.code C 0).flatMap cellsI)) := Lib.hid (by
            have h := HP.out.row
            rw [hU, hC] at h
            rw [Ev.relKTo_zero]
            exact h)
          have HNow : Hid (wr.heap[bw]? = some (.cells ((Ev.nowTo f.code f.code.length).map (Value.int .i64)).toArray 3 (0, 0))) := Lib.hid HP.out.now
          have HBxP : Hid (wr.heap[bx]? = some (.cells #[.slice (some ⟨gg, 0, none⟩) U cU, .slice A2 f.secret.length c2, .int .i64 f.params, .slice A3 f.arrays.length c3] 26 (0, 0))) := Lib.hid (by rw [← hU]; exact HP.out.box)
          have HB2P := box_under HB26 HP.out.fr (by omega)
          have HDP := Lib.hid (HD6.out.under2 HP.out.fr (Nat.le_refl _))
          rw [hU] at hU1
          clear HP hU hC
          have x0 : wr.cell? ⟨bx, 0, none⟩ = some (.slice (some ⟨gg, 0, none⟩) U cU) := box_cell HBxP 0 rfl
          have HCU : Hid (U ≤ cU ∧ cU ≤ maxLen) := by
            obtain ⟨_, _, e, h1, h2⟩ := SL.form (SL.of_own HRow.out)
            injection e with _ _ e
            subst e
            exact Lib.hid ⟨h1, h2⟩
          have hcu1 := HCU.out.1
          have hcu2 := HCU.out.2
          unfold maxLen at hcu2
          have hwP : bw < wr.heap.size := hbw
          have u6 : bw < gg := hgg1
          generalize hwr : wr = wP at *
          have e0 : Below w.heap.size w wP := bW
          clear bW hbw hwr
          go_wp2_with fail
          clear x0
          go_loopw [139] (fun jj wx => ∃ j : Nat, j ≤ U ∧ jj = .int .i64 (j : Int) ∧ Hid (wx.ownsRow (bw + 1) 39 6 (.slice (some ⟨gg, 0, none⟩) U cU) U ((Ev.relKTo f.code C j).flatMap cellsI)) ∧ Hid (Below (bw + 1) wP wx)) (fun jj _ => U - (intOf jj).toNat)
          case atStart => exact ⟨0, by omega, rfl, HRow, Lib.hid (Below.refl _ _)⟩
          case round =>
            obtain ⟨j, hj, rfl, HRj, HFj⟩ := hrel
            have HBXj := box_under HBxP HFj.out (by omega)
            have x0 : wr.cell? ⟨bx, 0, none⟩ = some (.slice (some ⟨gg, 0, none⟩) U cU) := box_cell HBXj 0 rfl
            by_cases hlt : j < U
            · obtain ⟨x, hx⟩ : ∃ x, C[j]? = some x := ⟨C[j]'(by omega), List.getElem?_eq_getElem (by omega)⟩
              have HX := Lib.hid hx
              obtain ⟨q0, q1, q2, q3, q4, q5⟩ := row_cells HRj.out ((Ev.relKTo_len f.code C j (by omega)).trans hCl) (k := j) (i := x) (Ev.relKTo_at hx)
              have qf := fun n => row_free HRj.out n
              have HJX := Lib.hid (HCV.out j x hx)
              clear hx q1 q2 q3 q4
              by_cases ho : x.op = 18 ∨ x.op = 19
              · obtain ⟨p, hp, hpl⟩ := HJX.out ho
                obtain ⟨M, hM⟩ : ∃ M, Ev.nowK f.code p = M := ⟨_, rfl⟩
                have y0 : wr.cell? ⟨bw, p, none⟩ = some (.int .i64 (M : Int)) := (cell_of_block ((HFj.out.block bw (by omega)).trans HNow.out) p).trans (by rw [List.getElem?_toArray, List.getElem?_map, Ev.nowTo_at hpl, if_pos hpl, hM]; rfl)
                have HR9 : Hid ((wr.setCell ⟨gg, j * 6 + 5, none⟩ (.int .i64 (M : Int))).ownsRow (bw + 1) 39 6 (.slice (some ⟨gg, 0, none⟩) U cU) U ((Ev.relKTo f.code C (j + 1)).flatMap cellsI)) := Lib.hid (by
                  have h := (HRj.out.stored (j * 6 + 5) (.int .i64 (M : Int))).1
                  rw [flat6_put _ j x _ (Ev.relKTo_at HX.out)] at h
                  have e : ({ x with imm := (M : Int) } : Ev.Instr) = Ev.relK f.code x := by
                    unfold Ev.relK
                    rw [if_pos ho, hp, Int.toNat_natCast, hM]
                  rw [e, Ev.relKTo_set HX.out] at h
                  exact h)
                have HF9 : Hid (Below (bw + 1) wP (wr.setCell ⟨gg, j * 6 + 5, none⟩ (.int .i64 (M : Int)))) := Lib.hid (HFj.out.setCell (by show bw + 1 ≤ gg; omega) _)
                rw [hp] at q5
                clear hM hp HRj HFj HBXj HJX HX
                rcases ho with ho | ho
                · rw [ho] at q0
                  clear ho
                  go_upto_region 47 with fail
                  generalize wr.setCell ⟨gg, j * 6 + 5, none⟩ (.int .i64 (M : Int)) = w9 at *
                  clear x0 q0 q5 qf y0
                  go_wp2_with fail
                  go_roundw
                  case rel => exact ⟨j + 1, by omega, by go_num, HR9, HF9⟩
                  case measure => simp [intOf]; omega
                · rw [ho] at q0
                  clear ho
                  go_upto_region 47 with fail
                  generalize wr.setCell ⟨gg, j * 6 + 5, none⟩ (.int .i64 (M : Int)) = w9 at *
                  clear x0 q0 q5 qf y0
                  go_wp2_with fail
                  go_roundw
                  case rel => exact ⟨j + 1, by omega, by go_num, HR9, HF9⟩
                  case measure => simp [intOf]; omega
              · have g18 : (x.op == 18) = false := by simp; omega
                have g19 : (x.op == 19) = false := by simp; omega
                have HR9 : Hid (wr.ownsRow (bw + 1) 39 6 (.slice (some ⟨gg, 0, none⟩) U cU) U ((Ev.relKTo f.code C (j + 1)).flatMap cellsI)) := Lib.hid (by rw [Ev.relKTo_same HX.out (Ev.relK_not ho)]; exact HRj.out)
                clear ho HRj HJX HX
                go_wp2_with fail
                go_roundw
                case rel => exact ⟨j + 1, by omega, by go_num, HR9, HFj⟩
                case measure => simp [intOf]; omega
            · obtain rfl : j = U := by omega
              have HBt := box_under HB2P HFj.out (by omega)
              have x1 : wr.cell? ⟨bx, 1, none⟩ = some (.slice A2 f.secret.length c2) := box_cell HBXj 1 rfl
              have x2 : wr.cell? ⟨bx, 2, none⟩ = some (.int .i64 f.params) := box_cell HBXj 2 rfl
              have x3 : wr.cell? ⟨bx, 3, none⟩ = some (.slice A3 f.arrays.length c3) := box_cell HBXj 3 rfl
              have y0 : wr.cell? ⟨w.heap.size + 1, 0, none⟩ = some (.slice none 0 0) := box_cell HBt 0 rfl
              have y1 : wr.cell? ⟨w.heap.size + 1, 1, none⟩ = some (.slice none 0 0) := box_cell HBt 1 rfl
              have y2 : wr.cell? ⟨w.heap.size + 1, 2, none⟩ = some (.int .i64 0) := box_cell HBt 2 rfl
              have y3 : wr.cell? ⟨w.heap.size + 1, 3, none⟩ = some (.slice none 0 0) := box_cell HBt 3 rfl
              have yf := fun n => box_free HBt n
              have DR := Lib.hid (HDP.out.under2 HFj.out (by omega))
              go_wp2_with fail
              refine bodyPost_ret (v := .agg #[.slice (some ⟨gg, 0, none⟩) j cU, .slice A2 f.secret.length c2, .int .i64 f.params, .slice A3 f.arrays.length c3]) (by simp [results, Try.results28, go_sem, y0, y1, y2, y3]) rfl ?_
              have hn1 : (.slice (some ⟨gg, 0, none⟩) j cU : Value).ownBlock ≠ some (w.heap.size + 1) := fun e => by have h1 : gg = w.heap.size + 1 := Option.some.inj e; omega
              have DR2 := ((((DR.out.aside (w.heap.size + 1) 0 (.slice (some ⟨gg, 0, none⟩) j cU) (.inl (by omega))).aside (w.heap.size + 1) 1 (.slice A2 f.secret.length c2) (.inl (by omega))).aside (w.heap.size + 1) 2 (.int .i64 f.params) (.inl (by omega))).aside (w.heap.size + 1) 3 (.slice A3 f.arrays.length c3) (.inl (by omega))).here
              refine ⟨_, rfl, ⟨_, _, _, rfl, ?_, DR2.1, DR2.2⟩, ⟨_, _, _, _, rfl, from_some _ _ (by show w.heap.size + 2 ≤ gg; omega), HFA.out.1.less (by omega), HFA.out.2.less (by omega)⟩, ?_⟩
              · show RCode _ _ _ (Ev.usedCode f.code)
                unfold RCode
                have e : Ev.usedCode f.code = Ev.relKTo f.code C j := by
                  rw [← hCl, Ev.relKTo_end, ← HCe.out]
                  rfl
                rw [e, (Ev.relKTo_len f.code C j (by omega)).trans hCl]
                exact SL.of_own (ownsRow_setCell_other (ownsRow_setCell_other (ownsRow_setCell_other (ownsRow_setCell_other HRj.out hn1 _) hn1 _) hn1 _) hn1 _)
              · have e2 : Below w.heap.size w wr := e0.trans (HFj.out.mono (by omega))
                have e1 := e2.size
                (repeat' first | with_reducible (first | exact Below.refl _ _ | assumption | refine Below.alloc ?_ ?_ _ | refine below_drewN ?_ _ | refine Below.drew ?_ | refine Below.setCell ?_ ?_ _ | refine Below.trans ?_ (Below.mono (by with_reducible assumption) ?_)) | go_size)
    | succ k => as_aux_lemma =>
      obtain rfl : x = (k : Int) := by omega
      have hlt : k < f.code.length := by omega
      obtain ⟨i, hi⟩ : ∃ i, f.code[k]? = some i := ⟨f.code[k], List.getElem?_eq_getElem hlt⟩
      obtain ⟨b1, o1, r1, hv, hb1, _, _, _, p0, p1, p2, p3, p4, p5⟩ := RCode.at_ (SL.at_ HC0.out bW (Nat.le_refl _)) hi
      injection hv with hA _ hcr
      subst hA hcr
      have HI := Lib.hid hi
      have HS := Lib.hid (HR.out.sound hi)
      have f0 : wr.cell? ⟨w.heap.size, 0, none⟩ = some (.slice (some ⟨b1, o1, none⟩) f.code.length cc) := (bZ.cell (p := ⟨w.heap.size, 0, none⟩) (by show w.heap.size < bk; omega)).trans (box_cell HB1C 0 rfl)
      clear hi hx
      go_upto_region 10 with fail
      have HBI := box_new wr (.cells #[.int .i64 i.op, .int .i64 i.d, .int .i64 i.a, .int .i64 i.b, .int .i64 i.c, .int .i64 i.imm] 39)
      have bI : Below wr.heap.size wr (wr.alloc (.cells #[.int .i64 i.op, .int .i64 i.d, .int .i64 i.a, .int .i64 i.b, .int .i64 i.c, .int .i64 i.imm] 39)) := (Below.refl _ _).alloc (Nat.le_refl _) _
      have HUI := Lib.hid (HU.out.on bI)
      have zI : bk + 3 ≤ wr.heap.size := hsz
      have hIne : wr.heap.size ≠ bl := by have := HU.out.live.lt; omega
      have HIB : Hid (∀ p, AtDom f.code (k + 1) p → B p ≠ wr.heap.size) := Lib.hid (fun p hp e => by have := (HU.out.maps p hp).1.2; omega)
      generalize (wr.alloc (.cells #[.int .i64 i.op, .int .i64 i.d, .int .i64 i.a, .int .i64 i.b, .int .i64 i.c, .int .i64 i.imm] 39)) = wI at *
      obtain ⟨bI', hbI'⟩ : ∃ bI', bI' = wr.heap.size := ⟨_, rfl⟩
      rw [← hbI'] at HBI zI hIne HIB
      rw [← hbI']
      clear p0 p1 p2 p3 p4 p5 f0 bI HU bW bZ hsz hbI'
      have n0 : wI.cell? ⟨bI', 0, none⟩ = some (.int .i64 i.op) := box_cell HBI 0 rfl
      have n5 : wI.cell? ⟨bI', 5, none⟩ = some (.int .i64 i.imm) := box_cell HBI 5 rfl
      go_upto_block 2 with fail
      go_cut [7] (fun ll wx => ∃ bl', ll = .map (some bl') ∧ Hid (UW f.code bk w4 (k + 1) (k + 1) (Ev.liveOut f.code k i) bl' B wx) ∧ Hid (wx.heap[bI']? = some (.cells #[.int .i64 i.op, .int .i64 i.d, .int .i64 i.a, .int .i64 i.b, .int .i64 i.c, .int .i64 i.imm] 39 (0, 0))) ∧ bI' ≠ bl')
      case first => as_aux_lemma =>
        have hop := HS.out.op
        have hmm := @run_makeMap Try.prog
        rcases (show (i.op = 20 ∨ i.op = 21) ∨ i.op = 18 ∨ i.op = 19 ∨ ¬ (i.op = 18 ∨ i.op = 19 ∨ i.op = 20 ∨ i.op = 21) by omega) with h | h | h | h
        · have HE : Hid (Ev.liveOut f.code k i = fun _ => false) := Lib.hid (Ev.liveOut_end h)
          have HUN : Hid (UW f.code bk w4 (k + 1) (k + 1) (Ev.liveOut f.code k i) wI.heap.size B (wI.alloc (.map #[] 0))) := Lib.hid (by rw [HE.out]; exact HUI.out.fresh ((Below.refl _ _).alloc (Nat.le_refl _) _) (Nat.le_refl _) (setF_none ▸ MapIn.made wI))
          have HBN := box_on HBI ((Below.refl _ _).alloc (Nat.le_refl _) (.map #[] 0))
          have hlt2 := box_lt HBI
          rcases h with h | h
          · have g1 : (i.op == 20) = true := beq_iff_eq.2 h
            clear h hop
            go_wp2_with fail
            go_meet
            exact ⟨_, rfl, HUN, HBN, by omega⟩
          · have g1 : (i.op == 20) = false := beq_eq_false_iff_ne.2 (by omega)
            have g2 : (i.op == 21) = true := beq_iff_eq.2 h
            clear h hop
            go_wp2_with fail
            go_meet
            exact ⟨_, rfl, HUN, HBN, by omega⟩
        · have hj := HS.out.jump (.inl h)
          have hdom : AtDom f.code (k + 1) i.imm := ⟨⟨by omega, by omega⟩, Ev.toS_jump HI.out (.inl h)⟩
          have hlk := HUI.out.lookAt hdom ⟨by omega, by omega⟩ (zero_map wI)
          have HE := Lib.hid (Ev.liveOut_jump (l := f.code) (k := k) h (by omega))
          have hmB := Lib.hid (HUI.out.maps i.imm hdom).2
          have hlt2 := box_lt HBI
          have g1 : (i.op == 20) = false := beq_eq_false_iff_ne.2 (by omega)
          have g2 : (i.op == 21) = false := beq_eq_false_iff_ne.2 (by omega)
          have g3 : (i.op == 18) = true := beq_iff_eq.2 h
          clear h hop hj hdom
          go_wp2_with (first | (at_lookup; refine wpList_lookup_at rfl _ _ 112 false rfl rfl rfl hlk ?_) | (go_at_call 63; refine (clone_any _ _ _ hmB.out).mono ?_; rintro e w5 ⟨rfl, hm5, hb5, hs5⟩))
          have HUN : Hid (UW f.code bk w4 (k + 1) (k + 1) (Ev.liveOut f.code k i) wI.heap.size B w5) := Lib.hid (by rw [HE.out]; exact HUI.out.fresh hb5 (Nat.le_refl _) hm5)
          have HBN := box_on HBI hb5
          go_meet
          exact ⟨_, rfl, HUN, HBN, by omega⟩
        · have hj := HS.out.jump (.inr h)
          have hdom : AtDom f.code (k + 1) i.imm := ⟨⟨by omega, by omega⟩, Ev.toS_jump HI.out (.inr h)⟩
          have hlk := HUI.out.lookAt hdom ⟨by omega, by omega⟩ (zero_map wI)
          have HE := Lib.hid (Ev.liveOut_zero (l := f.code) (k := k) h (by omega))
          have hmB := Lib.hid (HUI.out.maps i.imm hdom).2
          have hBlt := (HUI.out.maps i.imm hdom).1.2
          have hBlo := (HUI.out.maps i.imm hdom).1.1
          have hBne := HUI.out.apart i.imm hdom
          have hlt2 := box_lt HBI
          have hlt3 := HUI.out.live.lt
          have hsI := HUI.out.sz
          have HBr : Hid (∀ p, AtDom f.code (k + 1) p → B p ≠ wI.heap.size) := Lib.hid (fun p hp e => by have := (HUI.out.maps p hp).1.2; omega)
          have g1 : (i.op == 20) = false := beq_eq_false_iff_ne.2 (by omega)
          have g2 : (i.op == 21) = false := beq_eq_false_iff_ne.2 (by omega)
          have g3 : (i.op == 18) = false := beq_eq_false_iff_ne.2 (by omega)
          have g4 : (i.op == 19) = true := beq_iff_eq.2 h
          clear h hop hj hdom
          go_wp2_with (first | (at_lookup; refine wpList_lookup_at rfl _ _ 112 false rfl rfl rfl hlk ?_) | (at_range; refine wpList_range_at rfl _ 107 _ rfl Try.underlying107 rfl hmB.out ?_; intro w5 cnt5 hr5 hb5 hs5))
          have HU5 := Lib.hid (HUI.out.on hb5)
          have HB5 := box_on HBI hb5
          have HR5 := Lib.hid hr5
          clear hr5 hb5 hs5 hlk n0 n5 g1 g2 g3 g4
          generalize wI.heap.size = rI at *
          go_loopw [62] (fun _ wy => ∃ (left : Int → Bool) (cnt : Nat), Hid (RangeIn wy (B i.imm) rI (setF (Ev.livein f.code i.imm.toNat)) left cnt) ∧ Hid (UW f.code bk w4 (k + 1) (k + 1) (fun p => Ev.livein f.code (k + 1) p || (Ev.livein f.code i.imm.toNat p && !left p)) bl B wy) ∧ Hid (∀ p, left p = true → Ev.livein f.code i.imm.toNat p = true) ∧ Hid (wy.heap[bI']? = some (.cells #[.int .i64 i.op, .int .i64 i.d, .int .i64 i.a, .int .i64 i.b, .int .i64 i.c, .int .i64 i.imm] 39 (0, 0)))) (fun _ wy => wy.rangeLeft (B i.imm) rI)
          case atStart =>
            refine ⟨_, _, HR5, Lib.hid (HU5.out.same (funext fun p => ?_)), Lib.hid (fun p hp => ?_), HB5⟩
            · unfold setF
              cases Ev.livein f.code i.imm.toNat p <;> simp
            · unfold setF at hp
              cases hh : Ev.livein f.code i.imm.toNat p with
              | true => rfl
              | false => rw [hh] at hp; simp at hp
          case round =>
            obtain ⟨left, cnt, HRg, HUy, HL, HBy⟩ := hrel
            go_wp2_with (at_next; refine wpList_next_at rfl _ rfl rfl HRg.out ?_ ?_)
            · intro _ hl0
              have HUN : Hid (UW f.code bk w4 (k + 1) (k + 1) (Ev.liveOut f.code k i) bl B wr) := Lib.hid (HUy.out.same (by rw [HE.out]; funext p; rw [hl0 p]; simp))
              clear hl0
              go_wp2_with fail
              go_meet
              exact ⟨_, rfl, HUN, HBy, hIne⟩
            · intro p v w6 cnt6 h64 hlp hmp hr6 hlt6 hg6 hs6 hen
              have hszy := HUy.out.sz
              have hrr := hr6.lt
              have HU6 : Hid (UW f.code bk w4 (k + 1) (k + 1) (fun p => Ev.livein f.code (k + 1) p || (Ev.livein f.code i.imm.toNat p && !left p)) bl B w6) := Lib.hid (HUy.out.other (r := rI) (fun b hb hne => hg6.block b hb (fun e => hne (Option.some.inj e))) (by omega) (by omega) (by omega) HBr.out ((Below.refl bk wr).grown hg6 (by omega) (fun q hq => by have := Option.some.inj hq; omega)))
              have HB6 : Hid (w6.heap[bI']? = some (.cells #[.int .i64 i.op, .int .i64 i.d, .int .i64 i.a, .int .i64 i.b, .int .i64 i.c, .int .i64 i.imm] 39 (0, 0))) := Lib.hid ((hg6.block bI' (box_lt HBy) (fun e => by have := Option.some.inj e; omega)).trans HBy.out)
              have HR6 := Lib.hid hr6
              have HLP := Lib.hid (HL.out p hlp)
              have H64 := Lib.hid h64
              clear hlp hmp hr6 hg6 hs6 h64
              go_wp2_with (at_mapUpdate; refine wpList_update_at rfl _ _ _ 107 _ rfl Try.underlying107 rfl rfl rfl HU6.out.live H64.out ?_; intro w7 hm7 ht7)
              replace hm7 : MapIn w7 bl (mapPut (setF (fun p => Ev.livein f.code (k + 1) p || (Ev.livein f.code i.imm.toNat p && !left p))) p (some (.bool true))) := hm7
              rw [setF_put] at hm7
              have HU7 : Hid (UW f.code bk w4 (k + 1) (k + 1) (fun q => Ev.livein f.code (k + 1) q || (Ev.livein f.code i.imm.toNat q && !(left q && !decide (q = p)))) bl B w7) := Lib.hid ((HU6.out.turn ht7 hm7).same (funext fun q => by
                by_cases hq : q = p
                · subst hq
                  rw [HLP.out]
                  simp
                · simp [hq]))
              have HR7 := Lib.hid (HR6.out.same (ht7.other hBne) (ht7.other (by omega)))
              have HB7 : Hid (w7.heap[bI']? = some (.cells #[.int .i64 i.op, .int .i64 i.d, .int .i64 i.a, .int .i64 i.b, .int .i64 i.c, .int .i64 i.imm] 39 (0, 0))) := Lib.hid ((ht7.other hIne).trans HB6.out)
              have HL7 : Hid (∀ q, (left q && !decide (q = p)) = true → Ev.livein f.code i.imm.toNat q = true) := Lib.hid (fun q hq => HL.out q (by simp at hq; exact hq.1))
              have HEQ := Lib.hid (⟨HR7.out.left_eq, HRg.out.left_eq⟩ : _ ∧ _)
              clear hm7 ht7 hen
              go_frame
              go_roundw
              case rel => exact ⟨_, cnt6, HR7, HU7, HL7, HB7⟩
              case measure => rw [HEQ.out.1, HEQ.out.2]; exact hlt6
        · have HE : Hid (Ev.liveOut f.code k i = Ev.livein f.code (k + 1)) := Lib.hid (Ev.liveOut_else h)
          have HUN : Hid (UW f.code bk w4 (k + 1) (k + 1) (Ev.liveOut f.code k i) bl B wI) := Lib.hid (HUI.out.same HE.out.symm)
          have g1 : (i.op == 20) = false := beq_eq_false_iff_ne.2 (by omega)
          have g2 : (i.op == 21) = false := beq_eq_false_iff_ne.2 (by omega)
          have g3 : (i.op == 18) = false := beq_eq_false_iff_ne.2 (by omega)
          have g4 : (i.op == 19) = false := beq_eq_false_iff_ne.2 (by omega)
          clear h hop
          go_wp2_with fail
          go_meet
          exact ⟨_, rfl, HUN, HBI, hIne⟩
      case rest => as_aux_lemma =>
        obtain ⟨bl', rfl, HUc, HBc, hbne⟩ := hcut
        clear HUI HBI n0 n5 hIne
        have n0 : wc.cell? ⟨bI', 0, none⟩ = some (.int .i64 i.op) := box_cell HBc 0 rfl
        have n1 : wc.cell? ⟨bI', 1, none⟩ = some (.int .i64 i.d) := box_cell HBc 1 rfl
        have n2 : wc.cell? ⟨bI', 2, none⟩ = some (.int .i64 i.a) := box_cell HBc 2 rfl
        have n3 : wc.cell? ⟨bI', 3, none⟩ = some (.int .i64 i.b) := box_cell HBc 3 rfl
        have n4 : wc.cell? ⟨bI', 4, none⟩ = some (.int .i64 i.c) := box_cell HBc 4 rfl
        have n5 : wc.cell? ⟨bI', 5, none⟩ = some (.int .i64 i.imm) := box_cell HBc 5 rfl
        have CM := Lib.hid (makes_any i wc)
        have HI64 : Hid (∀ p ∈ Ev.reads i, InW64 p) := Lib.hid (fun p hp => place64 HN.out (HS.out.reads p hp))
        have HDM : Hid (i.op ≤ 16 → InW64 i.d) := Lib.hid (fun h => place64 HN.out (HS.out.makes h))
        have HKA : Hid (Ev.keptAt f.code k = Ev.keeps i (Ev.liveOut f.code k i)) := Lib.hid (Ev.keptAt_at HI.out)
        go_upto_region 21 with fail
        go_cut [78] (fun x wx => Hid (UW f.code bk w4 k (k + 1) (Ev.liveOut f.code k i) bl' B wx) ∧ Hid (wx.heap[bI']? = some (.cells #[.int .i64 i.op, .int .i64 i.d, .int .i64 i.a, .int .i64 i.b, .int .i64 i.c, .int .i64 i.imm] 39 (0, 0))))
        case first => as_aux_lemma =>
          cases hmk : Ev.makes i with
          | false =>
            rw [hmk] at CM
            have HKT : Hid (Ev.keptAt f.code k = true) := Lib.hid (Ev.kept_not HI.out hmk)
            clear hmk
            go_wp2_with (go_at_call 37; refine CM.out.mono ?_; rintro e w5 ⟨rfl, hb5⟩; have HU5 := Lib.hid (HUc.out.on hb5); have k5 : w5.cell? ⟨bk, k, none⟩ = some (.bool false) := (cell_of_block HU5.out.kept k).trans (by rw [List.getElem?_toArray, List.getElem?_map, Ev.keptTo_at hlt, decide_eq_false (by omega)]; rfl); have f5 := fun j => box_looseM HU5.out.kept j; have B5 := box_on HBc hb5; clear hb5)
            have HU6 : Hid (UW f.code bk w4 k (k + 1) (Ev.liveOut f.code k i) bl' B (w5.setCell ⟨bk, k, none⟩ (.bool true))) := Lib.hid (by have h := HU5.out.keep hlt; rw [HKT.out] at h; exact h)
            have HB6 : Hid ((w5.setCell ⟨bk, k, none⟩ (.bool true)).heap[bI']? = some (.cells #[.int .i64 i.op, .int .i64 i.d, .int .i64 i.a, .int .i64 i.b, .int .i64 i.c, .int .i64 i.imm] 39 (0, 0))) := Lib.hid ((Below.heap_setCell w5 ⟨bk, k, none⟩ _ bI' (by show bI' ≠ bk; omega)).trans B5.out)
            go_meet
            exact ⟨HU6, HB6⟩
          | true =>
            rw [hmk] at CM
            have HKT : Hid (Ev.keptAt f.code k = Ev.liveOut f.code k i i.d) := Lib.hid (by rw [HKA.out]; unfold Ev.keeps; rw [hmk]; rfl)
            have HD64 := Lib.hid (HDM.out (Ev.makes_iff.1 hmk).2)
            clear hmk
            go_wp2_with (first | (go_at_call 37; refine CM.out.mono ?_; rintro e w5 ⟨rfl, hb5⟩; have HU5 := Lib.hid (HUc.out.on hb5); have k5 : w5.cell? ⟨bk, k, none⟩ = some (.bool false) := (cell_of_block HU5.out.kept k).trans (by rw [List.getElem?_toArray, List.getElem?_map, Ev.keptTo_at hlt, decide_eq_false (by omega)]; rfl); have f5 := fun j => box_looseM HU5.out.kept j; have B5 := box_on HBc hb5; have q1 : w5.cell? ⟨bI', 1, none⟩ = some (.int .i64 i.d) := box_cell B5 1 rfl; have hlk5 := set_lookup HU5.out.live HD64.out; clear hb5) | (at_lookup; refine wpList_lookup_atg (by rfl) _ _ 107 false rfl rfl rfl hlk5 ?_))
            have HU6 : Hid (UW f.code bk w4 k (k + 1) (Ev.liveOut f.code k i) bl' B (w5.setCell ⟨bk, k, none⟩ (.bool (Ev.liveOut f.code k i i.d)))) := Lib.hid (by have h := HU5.out.keep hlt; rw [HKT.out] at h; exact h)
            have HB6 : Hid ((w5.setCell ⟨bk, k, none⟩ (.bool (Ev.liveOut f.code k i i.d))).heap[bI']? = some (.cells #[.int .i64 i.op, .int .i64 i.d, .int .i64 i.a, .int .i64 i.b, .int .i64 i.c, .int .i64 i.imm] 39 (0, 0))) := Lib.hid ((Below.heap_setCell w5 ⟨bk, k, none⟩ _ bI' (by show bI' ≠ bk; omega)).trans B5.out)
            go_meet
            exact ⟨HU6, HB6⟩
        case rest => as_aux_lemma =>
        clear HUc HBc CM n0 n1 n2 n3 n4 n5
        obtain ⟨HUk, HBk⟩ := hcut
        obtain ⟨c, hc⟩ : ∃ c, Ev.keptAt f.code k = c := ⟨_, rfl⟩
        have k6 : wc.cell? ⟨bk, k, none⟩ = some (.bool c) := (cell_of_block HUk.out.kept k).trans (by rw [List.getElem?_toArray, List.getElem?_map, Ev.keptTo_at hlt, decide_eq_true (Nat.le_refl _), hc]; rfl)
        have HC := Lib.hid hc
        clear hc HKA
        go_upto_if 83 with fail
        go_cut [83] (fun x wx => Hid (UW f.code bk w4 k (k + 1) (Ev.livein f.code k) bl' B wx))
        case first => as_aux_lemma =>
          cases c with
          | false =>
            have HUN : Hid (UW f.code bk w4 k (k + 1) (Ev.livein f.code k) bl' B wc) := Lib.hid (HUk.out.same (Ev.live_gone HI.out HC.out).2.2.symm)
            go_wp2_with fail
            go_meet
            exact HUN
          | true =>
            have HLK := Lib.hid (fun p => Ev.live_kept HI.out HC.out p)
            have n0 : wc.cell? ⟨bI', 0, none⟩ = some (.int .i64 i.op) := box_cell HBk 0 rfl
            have n1 : wc.cell? ⟨bI', 1, none⟩ = some (.int .i64 i.d) := box_cell HBk 1 rfl
            have n2 : wc.cell? ⟨bI', 2, none⟩ = some (.int .i64 i.a) := box_cell HBk 2 rfl
            have n3 : wc.cell? ⟨bI', 3, none⟩ = some (.int .i64 i.b) := box_cell HBk 3 rfl
            have n4 : wc.cell? ⟨bI', 4, none⟩ = some (.int .i64 i.c) := box_cell HBk 4 rfl
            have n5 : wc.cell? ⟨bI', 5, none⟩ = some (.int .i64 i.imm) := box_cell HBk 5 rfl
            have CM := Lib.hid (makes_any i wc)
            cases hmk : Ev.makes i with
            | false =>
              rw [hmk] at CM
              have HMK := Lib.hid hmk
              clear hmk
              go_upto_region 25 with (go_at_call 37; refine CM.out.mono ?_; rintro e w5 ⟨rfl, hb5⟩)
              have HU5 := Lib.hid (HUk.out.on hb5)
              have HB5 := box_on HBk hb5
              clear hb5 n0 n1 n2 n3 n4 n5 k6 CM
              have m0 := box_cell HB5 0 rfl
              have m1 := box_cell HB5 1 rfl
              have m2 := box_cell HB5 2 rfl
              have m3 := box_cell HB5 3 rfl
              have m4 := box_cell HB5 4 rfl
              have m5 := box_cell HB5 5 rfl
              go_wp2_with (go_at_call 35; refine (reads_any i _).mono ?_; rintro e w8 ⟨v8, rfl, hR8, hb8⟩; obtain ⟨A8, c8, rfl, hc8, hd8⟩ := SL.form hR8)
              have HU8 := Lib.hid (HU5.out.on hb8)
              have HR8 := Lib.hid hR8
              unfold maxLen at hd8
              clear m0 m1 m2 m3 m4 m5 hR8 hb8
              go_loopw [92] (fun kk wy => ∃ q : Nat, q ≤ (Ev.reads i).length ∧ kk = .int .i64 (q : Int) ∧ Hid (UW f.code bk w4 k (k + 1) (fun p => Ev.liveOut f.code k i p || decide (p ∈ (Ev.reads i).take q)) bl' B wy) ∧ Hid (∀ b, b ≠ bl' → wy.heap[b]? = w8.heap[b]?)) (fun kk _ => (Ev.reads i).length - (intOf kk).toNat)
              case atStart => exact ⟨0, by omega, rfl, Lib.hid (HU8.out.same (by funext p; simp)), Lib.hid (fun _ _ => rfl)⟩
              case round =>
                obtain ⟨q, hq, rfl, HUy, HOy⟩ := hrel
                by_cases hql : q < (Ev.reads i).length
                · obtain ⟨p, hp⟩ : ∃ p, (Ev.reads i)[q]? = some p := ⟨(Ev.reads i)[q], List.getElem?_eq_getElem hql⟩
                  obtain ⟨b2, o2, r2, hv, hb2, _, _, _, p0⟩ := RInts.at_ HR8.out hp
                  injection hv with hA _ hcr
                  subst hA hcr
                  have hb2n : b2 ≠ bl' := fun e => by
                    rw [e, map_cell HU8.out.live] at p0
                    cases p0
                  replace p0 := (cell_agree (HOy.out b2 hb2n)).trans p0
                  have H64 := Lib.hid (HI64.out p (List.mem_of_getElem? hp))
                  have HTK : Hid ((Ev.reads i).take (q + 1) = (Ev.reads i).take q ++ [p]) := Lib.hid (by rw [List.take_add_one, hp]; rfl)
                  clear hp
                  go_wp2_with (at_mapUpdate; refine wpList_update_at rfl _ _ _ 107 _ rfl Try.underlying107 rfl rfl rfl HUy.out.live H64.out ?_; intro w9 hm9 ht9)
                  replace hm9 : MapIn w9 bl' (mapPut (setF (fun p => Ev.liveOut f.code k i p || decide (p ∈ (Ev.reads i).take q))) p (some (.bool true))) := hm9
                  rw [setF_put] at hm9
                  have HU9 : Hid (UW f.code bk w4 k (k + 1) (fun p => Ev.liveOut f.code k i p || decide (p ∈ (Ev.reads i).take (q + 1))) bl' B w9) := Lib.hid ((HUy.out.turn ht9 hm9).same (by
                    funext x
                    rw [HTK.out]
                    by_cases e : x = p
                    · simp [e]
                    · simp [e]))
                  have HO9 : Hid (∀ b, b ≠ bl' → w9.heap[b]? = w8.heap[b]?) := Lib.hid (fun b hb => (ht9.other hb).trans (HOy.out b hb))
                  clear hm9 ht9 p0
                  go_wp2_with fail
                  go_roundw
                  case rel => exact ⟨q + 1, by omega, by go_num, HU9, HO9⟩
                  case measure => first | (simp [intOf]; done) | (simp [intOf]; omega)
                · obtain rfl : q = (Ev.reads i).length := by omega
                  have HUN : Hid (UW f.code bk w4 k (k + 1) (Ev.livein f.code k) bl' B wr) := Lib.hid (HUy.out.same (by
                    funext p
                    rw [HLK.out p, List.take_length, HMK.out]
                    simp))
                  go_wp2_with fail
                  go_meet
                  exact HUN
            | true =>
              rw [hmk] at CM
              have HMK := Lib.hid hmk
              have HD64 := Lib.hid (HDM.out (Ev.makes_iff.1 hmk).2)
              clear hmk
              go_upto_region 24 with (go_at_call 37; refine CM.out.mono ?_; rintro e w5 ⟨rfl, hb5⟩)
              have HU5 := Lib.hid (HUk.out.on hb5)
              have HB5 := box_on HBk hb5
              have q1 : w5.cell? ⟨bI', 1, none⟩ = some (.int .i64 i.d) := box_cell HB5 1 rfl
              clear hb5 n0 n1 n2 n3 n4 n5 k6 CM
              go_upto_region 25 with (at_delete; refine wpList_delete_at rfl _ _ 107 _ rfl Try.underlying107 rfl rfl HU5.out.live HD64.out ?_; intro w6 hm6 ht6)
              rw [setF_drop] at hm6
              have HU6 := Lib.hid (HU5.out.turn ht6 hm6)
              have HB6 : Hid (w6.heap[bI']? = some (.cells #[.int .i64 i.op, .int .i64 i.d, .int .i64 i.a, .int .i64 i.b, .int .i64 i.c, .int .i64 i.imm] 39 (0, 0))) := Lib.hid ((ht6.other hbne).trans HB5.out)
              clear hm6 ht6 q1
              have m0 := box_cell HB6 0 rfl
              have m1 := box_cell HB6 1 rfl
              have m2 := box_cell HB6 2 rfl
              have m3 := box_cell HB6 3 rfl
              have m4 := box_cell HB6 4 rfl
              have m5 := box_cell HB6 5 rfl
              go_wp2_with (go_at_call 35; refine (reads_any i _).mono ?_; rintro e w8 ⟨v8, rfl, hR8, hb8⟩; obtain ⟨A8, c8, rfl, hc8, hd8⟩ := SL.form hR8)
              have HU8 := Lib.hid (HU6.out.on hb8)
              have HR8 := Lib.hid hR8
              unfold maxLen at hd8
              clear m0 m1 m2 m3 m4 m5 hR8 hb8
              go_loopw [92] (fun kk wy => ∃ q : Nat, q ≤ (Ev.reads i).length ∧ kk = .int .i64 (q : Int) ∧ Hid (UW f.code bk w4 k (k + 1) (fun p => (Ev.liveOut f.code k i p && !decide (p = i.d)) || decide (p ∈ (Ev.reads i).take q)) bl' B wy) ∧ Hid (∀ b, b ≠ bl' → wy.heap[b]? = w8.heap[b]?)) (fun kk _ => (Ev.reads i).length - (intOf kk).toNat)
              case atStart => exact ⟨0, by omega, rfl, Lib.hid (HU8.out.same (by funext p; simp)), Lib.hid (fun _ _ => rfl)⟩
              case round =>
                obtain ⟨q, hq, rfl, HUy, HOy⟩ := hrel
                by_cases hql : q < (Ev.reads i).length
                · obtain ⟨p, hp⟩ : ∃ p, (Ev.reads i)[q]? = some p := ⟨(Ev.reads i)[q], List.getElem?_eq_getElem hql⟩
                  obtain ⟨b2, o2, r2, hv, hb2, _, _, _, p0⟩ := RInts.at_ HR8.out hp
                  injection hv with hA _ hcr
                  subst hA hcr
                  have hb2n : b2 ≠ bl' := fun e => by
                    rw [e, map_cell HU8.out.live] at p0
                    cases p0
                  replace p0 := (cell_agree (HOy.out b2 hb2n)).trans p0
                  have H64 := Lib.hid (HI64.out p (List.mem_of_getElem? hp))
                  have HTK : Hid ((Ev.reads i).take (q + 1) = (Ev.reads i).take q ++ [p]) := Lib.hid (by rw [List.take_add_one, hp]; rfl)
                  clear hp
                  go_wp2_with (at_mapUpdate; refine wpList_update_at rfl _ _ _ 107 _ rfl Try.underlying107 rfl rfl rfl HUy.out.live H64.out ?_; intro w9 hm9 ht9)
                  replace hm9 : MapIn w9 bl' (mapPut (setF (fun p => (Ev.liveOut f.code k i p && !decide (p = i.d)) || decide (p ∈ (Ev.reads i).take q))) p (some (.bool true))) := hm9
                  rw [setF_put] at hm9
                  have HU9 : Hid (UW f.code bk w4 k (k + 1) (fun p => (Ev.liveOut f.code k i p && !decide (p = i.d)) || decide (p ∈ (Ev.reads i).take (q + 1))) bl' B w9) := Lib.hid ((HUy.out.turn ht9 hm9).same (by
                    funext x
                    rw [HTK.out]
                    by_cases e : x = p
                    · simp [e]
                    · simp [e]))
                  have HO9 : Hid (∀ b, b ≠ bl' → w9.heap[b]? = w8.heap[b]?) := Lib.hid (fun b hb => (ht9.other hb).trans (HOy.out b hb))
                  clear hm9 ht9 p0
                  go_wp2_with fail
                  go_roundw
                  case rel => exact ⟨q + 1, by omega, by go_num, HU9, HO9⟩
                  case measure => first | (simp [intOf]; done) | (simp [intOf]; omega)
                · obtain rfl : q = (Ev.reads i).length := by omega
                  have HUN : Hid (UW f.code bk w4 k (k + 1) (Ev.livein f.code k) bl' B wr) := Lib.hid (HUy.out.same (by
                    funext p
                    rw [HLK.out p, List.take_length, HMK.out]
                    simp))
                  go_wp2_with fail
                  go_meet
                  exact HUN
        case rest => as_aux_lemma =>
        rename_i x83
        clear HUk HBk k6
        have HUl := hcut
        clear hcut
        have hlk := set_lookup (HMT.out.same (HUl.out.fr.block bt (by omega)) : MapIn wc bt (setF (Ev.toS f.code))) (p := (k : Int)) ⟨by omega, by omega⟩
        obtain ⟨c2, hc2⟩ : ∃ c2, Ev.toS f.code (k : Int) = c2 := ⟨_, rfl⟩
        rw [hc2] at hlk
        cases c2 with
        | false =>
          have HUN := Lib.hid (HUl.out.noAt hc2)
          clear hc2
          go_wp2_with (at_lookup; refine wpList_lookup_at rfl _ _ 107 false rfl rfl rfl hlk ?_)
          go_roundw
          case rel => exact ⟨k, (k : Int) - 1, bl', B, by omega, rfl, by (first | rfl | go_num), rfl, HUN⟩
          case measure => first | (simp [intOf]; done) | (simp [intOf]; omega)
        | true =>
          have HC2 := Lib.hid hc2
          clear hc2
          go_wp2_with (first | (at_lookup; refine wpList_lookup_at rfl _ _ 107 false rfl rfl rfl hlk ?_) | (go_at_call 63; refine (clone_any _ _ _ HUl.out.live).mono ?_; rintro e w5 ⟨rfl, hm5, hb5, hs5⟩; have HA5 := Lib.hid (HUl.out.at_.on hb5)) | (at_mapUpdate; refine wpList_update_at rfl _ _ _ 112 _ rfl Try.underlying112 rfl rfl rfl HA5.out ⟨by omega, by omega⟩ ?_; intro w6 hm6 ht6))
          obtain ⟨B', hU6⟩ := HUl.out.putAt hlt HC2.out hb5 hm5 ht6 hm6
          have HU6 := Lib.hid hU6
          clear hU6 hm6 ht6 hm5 hb5 hs5 hlk
          go_wp2_with fail
          go_roundw
          case rel => exact ⟨k, (k : Int) - 1, bl', B', by omega, rfl, by (first | rfl | go_num), rfl, HU6⟩
          case measure => first | (simp [intOf]; done) | (simp [intOf]; omega)
end Go.Proofs.Ytljcgcllhcdleaa
