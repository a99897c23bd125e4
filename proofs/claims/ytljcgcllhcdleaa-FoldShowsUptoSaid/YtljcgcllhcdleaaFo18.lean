import Derived.Test.YtljcgcllhcdleaaFo15
import Derived.Test.YtljcgcllhcdleaaFo17
/- fold.Numbers. -/
namespace Go.Proofs.Ytljcgcllhcdleaa
open Go.RowKit
set_option linter.unusedSimpArgs false
set_option linter.unusedVariables false
/-- what stays: all blocks but two -/
structure ButTwo (g q : Nat) (w w' : World) : Prop where
  below : Below (min g q) w w'
  size : w.heap.size ≤ w'.heap.size
  keep : ∀ b, b < w.heap.size → b ≠ g → b ≠ q → w'.heap[b]? = w.heap[b]?
section
variable {w w' w'' : World} {g q : Nat}
theorem ButTwo.refl (g q : Nat) (w : World) : ButTwo g q w w := ⟨Below.refl _ _, Nat.le_refl _, fun _ _ _ _ => rfl⟩
theorem ButTwo.trans (h : ButTwo g q w w') (k : ButTwo g q w' w'') : ButTwo g q w w'' := ⟨h.below.trans k.below, Nat.le_trans h.size k.size, fun b hb h1 h2 => (k.keep b (Nat.lt_of_lt_of_le hb h.size) h1 h2).trans (h.keep b hb h1 h2)⟩
theorem ButTwo.of_below (hb : Below w.heap.size w w') (hg : g < w.heap.size) : ButTwo g q w w' := ⟨hb.mono (by omega), hb.size, fun b h _ _ => hb.block b h⟩
theorem ButTwo.of_turned (h : Turned w w' q) (hg : g < w.heap.size) : ButTwo g q w w' := ⟨h.below (by omega) (by omega), by rw [h.size]; exact Nat.le_refl _, fun b _ _ h2 => h.other h2⟩
theorem ButTwo.of_set (w : World) (g q o : Nat) (v : Value) : ButTwo g q w (w.setCell ⟨g, o, none⟩ v) := ⟨(Below.refl _ _).setCell (by show min g q ≤ g; omega) _, by simp, fun b _ h1 _ => Below.heap_setCell w ⟨g, o, none⟩ v b h1⟩
theorem ButTwo.box (h : ButTwo g q w w') {b : Nat} {o : Obj} (hb : Hid (w.heap[b]? = some o)) (h1 : b ≠ g) (h2 : b ≠ q) : Hid (w'.heap[b]? = some o) := Lib.hid ((h.keep b (box_lt hb) h1 h2).trans hb.out)
theorem ButTwo.map (h : ButTwo g q w w') {b : Nat} {m : MapF} (hb : MapIn w b m) (h1 : b ≠ g) (h2 : b ≠ q) : MapIn w' b m := hb.same (h.keep b hb.lt h1 h2)
theorem Dep.but {lo hi : Nat} {R : World → Prop} (h : Dep lo hi w R) (k : ButTwo g q w w') (h1 : g < lo ∨ hi ≤ g) (h2 : q < lo ∨ hi ≤ q) : Dep lo hi w' R :=
  ⟨Nat.le_trans h.1 k.size, fun u h3 h4 => h.2 u h3 fun b h5 h6 => (h4 b h5 h6).trans (k.keep b (Nat.lt_of_lt_of_le h6 h.1) (by omega) (by omega))⟩
end
theorem set_flat : ∀ (l : List Ev.Instr) (k : Nat) (x : Ev.Instr), k < l.length → (((((((l.flatMap cellsI).set (k * 6) (.int .i64 x.op)).set (k * 6 + 1) (.int .i64 x.d)).set (k * 6 + 2) (.int .i64 x.a)).set (k * 6 + 3) (.int .i64 x.b)).set (k * 6 + 4) (.int .i64 x.c)).set (k * 6 + 5) (.int .i64 x.imm)) = (l.set k x).flatMap cellsI
  | [], k, x, h => by simp at h
  | y :: r, 0, x, h => by simp [cellsI]
  | y :: r, k + 1, x, h => by
    have ih := set_flat r k x (by simpa using h)
    have e : ∀ (t : List Value) (j : Nat) (v : Value), (cellsI y ++ t).set ((k + 1) * 6 + j) v = cellsI y ++ t.set (k * 6 + j) v := fun t j v => by
      rw [List.set_append_right (h := by simp [cellsI]; omega)]
      congr 2
      simp [cellsI]
      omega
    have e0 := e
    rw [List.flatMap_cons, List.set_cons_succ, List.flatMap_cons, ← ih]
    rw [show (k + 1) * 6 = (k + 1) * 6 + 0 from rfl, e, show (k + 1) * 6 + 0 + 1 = (k + 1) * 6 + 1 from rfl, show (k + 1) * 6 + 0 + 2 = (k + 1) * 6 + 2 from rfl, show (k + 1) * 6 + 0 + 3 = (k + 1) * 6 + 3 from rfl, show (k + 1) * 6 + 0 + 4 = (k + 1) * 6 + 4 from rfl, show (k + 1) * 6 + 0 + 5 = (k + 1) * 6 + 5 from rfl, e, e, e, e, e]
    rfl
/-- an instruction of a row is set, whole -/
theorem row_set {w : World} {B g n cap : Nat} {l : List Ev.Instr} (h : w.ownsRow B 39 6 (.slice (some ⟨g, 0, none⟩) n cap) n (l.flatMap cellsI)) (hl : l.length = n) {k : Nat} (hk : k < n) (x : Ev.Instr) :
    ((((((w.setCell ⟨g, k * 6, none⟩ (.int .i64 x.op)).setCell ⟨g, k * 6 + 1, none⟩ (.int .i64 x.d)).setCell ⟨g, k * 6 + 2, none⟩ (.int .i64 x.a)).setCell ⟨g, k * 6 + 3, none⟩ (.int .i64 x.b)).setCell ⟨g, k * 6 + 4, none⟩ (.int .i64 x.c)).setCell ⟨g, k * 6 + 5, none⟩ (.int .i64 x.imm)).ownsRow B 39 6 (.slice (some ⟨g, 0, none⟩) n cap) n ((l.set k x).flatMap cellsI) := by
  rw [← set_flat l k x (by omega)]
  exact ((((((h.stored (k * 6) (.int .i64 x.op)).1.stored (k * 6 + 1) (.int .i64 x.d)).1.stored (k * 6 + 2) (.int .i64 x.a)).1.stored (k * 6 + 3) (.int .i64 x.b)).1.stored (k * 6 + 4) (.int .i64 x.c)).1.stored (k * 6 + 5) (.int .i64 x.imm)).1
theorem row_free {w : World} {B g n cap : Nat} {xs : List Value} (h : w.ownsRow B 39 6 (.slice (some ⟨g, 0, none⟩) n cap) n xs) (j : Nat) : w.frozen? ⟨g, j, none⟩ = false := by
  rcases h.2 with ⟨e, _⟩ | ⟨g', cap', cur, e, _, hg, _⟩
  · cases e
  · injection e with e _ _
    injection e with e
    injection e with e
    subst e
    exact box_looseM hg j
theorem row_cells {w : World} {B g n cap : Nat} {l : List Ev.Instr} (h : w.ownsRow B 39 6 (.slice (some ⟨g, 0, none⟩) n cap) n (l.flatMap cellsI)) (hl : l.length = n) {k : Nat} {i : Ev.Instr} (hk : l[k]? = some i) :
    w.cell? ⟨g, k * 6, none⟩ = some (.int .i64 i.op) ∧ w.cell? ⟨g, k * 6 + 1, none⟩ = some (.int .i64 i.d) ∧ w.cell? ⟨g, k * 6 + 2, none⟩ = some (.int .i64 i.a) ∧ w.cell? ⟨g, k * 6 + 3, none⟩ = some (.int .i64 i.b) ∧ w.cell? ⟨g, k * 6 + 4, none⟩ = some (.int .i64 i.c) ∧ w.cell? ⟨g, k * 6 + 5, none⟩ = some (.int .i64 i.imm) := by
  obtain ⟨b, o, cc, e, _, _, _, _, i0, i1, i2, i3, i4, i5⟩ := RCode.at_ (show RCode w w.heap.size (.slice (some ⟨g, 0, none⟩) n cap) l by unfold RCode; rw [hl]; exact SL.of_own h) hk
  injection e with e _ _
  injection e with e
  injection e with e1 e2
  subst e1
  simp only [← e2, Nat.zero_add] at i0 i1 i2 i3 i4 i5
  exact ⟨i0, i1, i2, i3, i4, i5⟩
theorem place64 {f : Ev.Flat} (hn : f.secret.length ≤ 268435456) {p : Int} (h : 0 ≤ p ∧ p < (f.secret.length : Int)) : InW64 p := ⟨by omega, by omega⟩
set_option maxRecDepth 16000 in
set_option maxHeartbeats 6400000 in
theorem numbersF_any (f : Ev.Flat) (vf : Value) (w : World) (hf : RFlat w w.heap.size vf f) (hr : Ev.Right f) (hn : f.secret.length ≤ 268435456) (hna : f.arrays.length ≤ 268435456) :
    Calls Try.prog 27 #[vf] w fun e w' => ∃ v, e = .returned v ∧ RFlat w' w'.heap.size v (Ev.numbersF f) ∧ FromFlat (w.heap.size + 2) v ∧ Below w.heap.size w w' := by
  have HF0 := Lib.hid hf
  have HR := Lib.hid hr
  have hlen := hr.len2
  have hpos := hr.len1
  have HN := Lib.hid hn
  have HJ := Lib.hid (show ∀ i ∈ f.code, i.op = 18 ∨ i.op = 19 → InW64 i.imm from fun i hi ho => by
    obtain ⟨k, hk, rfl⟩ := List.getElem_of_mem hi
    have := (hr.sound (List.getElem?_eq_getElem hk)).jump ho
    exact ⟨by omega, by omega⟩)
  obtain ⟨Ac, cc, As, cs, Av, cv, rfl⟩ := hf.slices
  have hmm := @run_makeMap Try.prog
  clear hf hr hn
  go_enter Try.func27, Try.ntmps27
  go_upto_region 1 with fail
  have bA : Below w.heap.size w ((w.alloc (.cells #[.slice Ac f.code.length cc, .slice As f.secret.length cs, .int .i64 f.params, .slice Av f.arrays.length cv] 26)).alloc (.cells #[.slice none 0 0, .slice none 0 0, .int .i64 0, .slice none 0 0] 26)) := by (repeat' first | with_reducible (first | exact Below.refl _ _ | assumption | refine Below.alloc ?_ ?_ _ | refine below_drewN ?_ _ | refine Below.drew ?_ | refine Below.setCell ?_ ?_ _ | refine Below.trans ?_ (Below.mono (by with_reducible assumption) ?_)) | go_size)
  have HB1 : Hid ((((w.alloc (.cells #[.slice Ac f.code.length cc, .slice As f.secret.length cs, .int .i64 f.params, .slice Av f.arrays.length cv] 26)).alloc (.cells #[.slice none 0 0, .slice none 0 0, .int .i64 0, .slice none 0 0] 26))).heap[w.heap.size]? = some (.cells #[.slice Ac f.code.length cc, .slice As f.secret.length cs, .int .i64 f.params, .slice Av f.arrays.length cv] 26 (0, 0))) := box_on (box_new w _) ((Below.refl _ _).alloc (Nat.le_refl _) _)
  have HB2 : Hid ((((w.alloc (.cells #[.slice Ac f.code.length cc, .slice As f.secret.length cs, .int .i64 f.params, .slice Av f.arrays.length cv] 26)).alloc (.cells #[.slice none 0 0, .slice none 0 0, .int .i64 0, .slice none 0 0] 26))).heap[w.heap.size + 1]? = some (.cells #[.slice none 0 0, .slice none 0 0, .int .i64 0, .slice none 0 0] 26 (0, 0))) := by
    have h := box_new (w.alloc (.cells #[.slice Ac f.code.length cc, .slice As f.secret.length cs, .int .i64 f.params, .slice Av f.arrays.length cv] 26)) (.cells #[.slice none 0 0, .slice none 0 0, .int .i64 0, .slice none 0 0] 26)
    rw [World.size_alloc] at h
    exact h
  have HF := RFlat.on HF0 bA
  have sA : (((w.alloc (.cells #[.slice Ac f.code.length cc, .slice As f.secret.length cs, .int .i64 f.params, .slice Av f.arrays.length cv] 26)).alloc (.cells #[.slice none 0 0, .slice none 0 0, .int .i64 0, .slice none 0 0] 26))).heap.size = w.heap.size + 2 := by simp
  generalize ((w.alloc (.cells #[.slice Ac f.code.length cc, .slice As f.secret.length cs, .int .i64 f.params, .slice Av f.arrays.length cv] 26)).alloc (.cells #[.slice none 0 0, .slice none 0 0, .int .i64 0, .slice none 0 0] 26)) = wA at *
  have SA := Lib.hid sA
  clear sA
  go_upto_region 2 with (first | (refine wpList_load_box rfl 26 _ rfl rfl (box_load Try.underlying26 (by kernel_rfl) rfl (by kernel_rfl) (box_on HB1 (by (repeat' first | with_reducible (first | exact Below.refl _ _ | assumption | refine Below.alloc ?_ ?_ _ | refine below_drewN ?_ _ | refine Below.drew ?_ | refine Below.setCell ?_ ?_ _ | refine Below.trans ?_ (Below.mono (by with_reducible assumption) ?_)) | go_size)))) ?_) | (go_at_call 33; refine (own_code f _ _ HF.out (by omega) (by have := HN.out; omega) (by omega)).mono ?_; rintro e w1 ⟨lo, vc1, vs1, va1, rfl, hO, hOl, hS, hSf, hA, hAf, hl1, hl2, hb1⟩; obtain ⟨g, cg, rfl, hg1, hg2⟩ := World.ownsRow.form hO (by omega); obtain ⟨A2, c2, rfl, _, _⟩ := SL.form hS; obtain ⟨A3, c3, rfl, _, _⟩ := SL.form hA))
  have s1 := hb1.size
  have hglo : g < lo := hOl g rfl
  have bB : Below w1.heap.size w1 (w1.alloc (.cells #[.slice (some ⟨g, 0, none⟩) f.code.length cg, .slice A2 f.secret.length c2, .int .i64 f.params, .slice A3 f.arrays.length c3] 26)) := (Below.refl _ _).alloc (Nat.le_refl _) _
  have HO : Hid ((w1.alloc (.cells #[.slice (some ⟨g, 0, none⟩) f.code.length cg, .slice A2 f.secret.length c2, .int .i64 f.params, .slice A3 f.arrays.length c3] 26)).ownsRow wA.heap.size 39 6 (.slice (some ⟨g, 0, none⟩) f.code.length cg) f.code.length (f.code.flatMap cellsI)) := Lib.hid (owns_below hO bB)
  have HD : Hid (Dep lo w1.heap.size (w1.alloc (.cells #[.slice (some ⟨g, 0, none⟩) f.code.length cg, .slice A2 f.secret.length c2, .int .i64 f.params, .slice A3 f.arrays.length c3] 26)) (fun u => RBools u u.heap.size (.slice A2 f.secret.length c2) f.secret ∧ RVars u u.heap.size (.slice A3 f.arrays.length c3) f.arrays)) := Lib.hid (((SL.dep hS hSf).and (SL.dep hA hAf)).stays bB)
  have HBX := box_new w1 (.cells #[.slice (some ⟨g, 0, none⟩) f.code.length cg, .slice A2 f.secret.length c2, .int .i64 f.params, .slice A3 f.arrays.length c3] 26)
  have HB1B := box_on (box_on HB1 hb1) bB
  have HB2B := box_on (box_on HB2 hb1) bB
  have HFB := RFlat.on (RFlat.on HF hb1) bB
  have b2 : Below w.heap.size w (w1.alloc (.cells #[.slice (some ⟨g, 0, none⟩) f.code.length cg, .slice A2 f.secret.length c2, .int .i64 f.params, .slice A3 f.arrays.length c3] 26)) := (bA.trans (hb1.mono (by have := SA.out; omega))).alloc (by have := SA.out; omega) _
  have sB : (w1.alloc (.cells #[.slice (some ⟨g, 0, none⟩) f.code.length cg, .slice A2 f.secret.length c2, .int .i64 f.params, .slice A3 f.arrays.length c3] 26)).heap.size = w1.heap.size + 1 := by simp
  have SB := Lib.hid sB
  generalize w1.alloc (.cells #[.slice (some ⟨g, 0, none⟩) f.code.length cg, .slice A2 f.secret.length c2, .int .i64 f.params, .slice A3 f.arrays.length c3] 26) = wB at *
  have HFA := Lib.hid (show from_ lo (.slice A2 f.secret.length c2) ∧ from_ lo (.slice A3 f.arrays.length c3) from ⟨hSf, hAf⟩)
  clear hO hOl hS hSf hA hAf hb1 bB bA HB1 HB2 HF sB
  have f0 : wB.cell? ⟨w.heap.size, 0, none⟩ = some (.slice Ac f.code.length cc) := box_cell HB1B 0 rfl
  have hfc : RCode wB wB.heap.size (.slice Ac f.code.length cc) f.code := by
    obtain ⟨_, _, _, e, hc', _⟩ := HFB.out
    injection e with e
    simp only [Array.mk.injEq, List.cons.injEq] at e
    obtain ⟨rfl, _⟩ := e
    exact hc'
  have HKD := Lib.hid hfc
  clear hfc
  go_upto_region 4 with (go_at_call 61; refine (targets_any f.code _ _ HKD.out (by omega) HJ.out).mono ?_; rintro e w2 ⟨rfl, hmt, hb2⟩)
  have bC : Below wB.heap.size wB (w2.alloc (.map #[] 0)) := hb2.alloc hb2.size _
  have HMT : Hid (MapIn (w2.alloc (.map #[] 0)) wB.heap.size (setF (Ev.toS f.code))) := Lib.hid (hmt.on ((Below.refl _ _).alloc (Nat.le_refl _) _))
  have HMN : Hid (MapIn (w2.alloc (.map #[] 0)) w2.heap.size (intF (Ev.nowAt f.code 0))) := Lib.hid (MapIn.made w2)
  have s2 := hb2.size
  have hmtl := hmt.lt
  have sC : (w2.alloc (.map #[] 0)).heap.size = w2.heap.size + 1 := by simp
  replace HO : Hid ((w2.alloc (.map #[] 0)).ownsRow wA.heap.size 39 6 (.slice (some ⟨g, 0, none⟩) f.code.length cg) f.code.length ((Ev.numTo f.code 0).flatMap cellsI)) := Lib.hid (by rw [Ev.numTo_zero]; exact owns_below HO.out bC)
  replace HD := Lib.hid (HD.out.stays bC)
  replace HBX := box_on HBX bC
  have HB2C := box_on HB2B bC
  have b3 : Below w.heap.size w (w2.alloc (.map #[] 0)) := b2.trans (bC.mono (by have := SA.out; have := SB.out; omega))
  generalize w2.alloc (.map #[] 0) = w3 at *
  clear hmt hb2 bC b2 f0 HKD HFB HB1B HB2B hmm
  have u1 : w.heap.size + 1 < g := by have := SA.out; omega
  have u2 : g < w1.heap.size := by omega
  have u3 : w1.heap.size < wB.heap.size := by have := SB.out; omega
  have u4 : wB.heap.size < w2.heap.size := by have := hmtl; omega
  have u5 : w2.heap.size < w3.heap.size := by omega
  generalize wB.heap.size = bt at *
  generalize w2.heap.size = bn at *
  generalize w1.heap.size = bx at *
  generalize wA.heap.size = ba at *
  clear SA SB s1 s2 sC hmtl hg1 hg2 hl1 hl2
  have x0 : w3.cell? ⟨bx, 0, none⟩ = some (.slice (some ⟨g, 0, none⟩) f.code.length cg) := box_cell HBX 0 rfl
  have HCG : Hid (f.code.length ≤ cg ∧ cg ≤ maxLen) := by
    obtain ⟨_, _, e, h1, h2⟩ := SL.form (SL.of_own HO.out)
    injection e with _ _ e
    subst e
    exact Lib.hid ⟨h1, h2⟩
  have hcg1 := HCG.out.1
  have hcg2 := HCG.out.2
  unfold maxLen at hcg2
  go_wp2_with fail
  clear x0
  go_loopw [19] (fun kk wr => ∃ k : Nat, k ≤ f.code.length ∧ kk = .int .i64 (k : Int) ∧ Hid (wr.ownsRow ba 39 6 (.slice (some ⟨g, 0, none⟩) f.code.length cg) f.code.length ((Ev.numTo f.code k).flatMap cellsI)) ∧ Hid (MapIn wr bn (intF (Ev.nowAt f.code k))) ∧ Hid (ButTwo g bn w3 wr)) (fun kk _ => f.code.length - (intOf kk).toNat)
  case atStart => exact ⟨0, by omega, rfl, HO, HMN, Lib.hid (ButTwo.refl _ _ _)⟩
  case round =>
    obtain ⟨k, hk, rfl, HOk, HNk, HFk⟩ := hrel
    have HBXk := HFk.out.box HBX (by omega) (by omega)
    have x0 : wr.cell? ⟨bx, 0, none⟩ = some (.slice (some ⟨g, 0, none⟩) f.code.length cg) := box_cell HBXk 0 rfl
    by_cases hlt : k < f.code.length
    · obtain ⟨i, hi⟩ : ∃ i, f.code[k]? = some i := ⟨f.code[k], List.getElem?_eq_getElem hlt⟩
      have HI := Lib.hid hi
      have HS := Lib.hid (HR.out.sound hi)
      have HNC := Lib.hid (Ev.num_cases hi)
      have HI64 : Hid (∀ p ∈ Ev.reads i, InW64 p) := Lib.hid (fun p hp => place64 HN.out (HS.out.reads p hp))
      have HDM : Hid (i.op ≤ 16 → InW64 i.d) := Lib.hid (fun h => place64 HN.out (HS.out.makes h))
      clear hi
      have hlk := set_lookup (HFk.out.map HMT.out (by omega) (by omega)) (p := (k : Int)) ⟨by omega, by omega⟩
      have hnin : Ev.nowIn f.code k = if Ev.toS f.code (k : Int) then Ev.noNow else Ev.nowAt f.code k := rfl
      obtain ⟨c, hc⟩ : ∃ c, Ev.toS f.code (k : Int) = c := ⟨_, rfl⟩
      rw [hc] at hlk hnin
      have HNI := Lib.hid hnin
      have zg0 := own_lt HOk.out (b := g) rfl
      have zn0 := HNk.out.lt
      clear hc hnin
      cases c with
      | false => as_aux_lemma =>
        have HNv : Hid (MapIn wr bn (intF (Ev.nowIn f.code k))) := Lib.hid (by rw [HNI.out]; exact HNk.out)
        have HOv := HOk
        have HFv := HFk
        clear HOk HNk HNI
        go_upto_region 10 with (at_lookup; refine wpList_lookup_at rfl _ _ 107 false rfl rfl rfl hlk ?_)
        clear hlk x0
        obtain ⟨q0, q1, q2, q3, q4, q5⟩ := row_cells HOv.out (Ev.numTo_len _ _ (by omega)) (k := k) (i := i) (by rw [Ev.numTo_ge _ _ _ (Nat.le_refl _)]; exact HI.out)
        have CM := Lib.hid (makes_any i wr)
        have zg := own_lt HOv.out (b := g) rfl
        have zn := HNv.out.lt
        rcases HNC.out with ⟨hmk, hat, hnw⟩ | ⟨hmk, hkn, hat, hnw⟩ | ⟨hmk, n, hkn, hat, hnw⟩
        · rw [hmk] at CM
          have HAT := Lib.hid hat
          have HNW := Lib.hid hnw
          clear hmk hat hnw
          go_wp2_with (go_at_call 37; refine CM.out.mono ?_; rintro e w6 ⟨rfl, hb6⟩)
          have HO6 : Hid (w6.ownsRow ba 39 6 (.slice (some ⟨g, 0, none⟩) f.code.length cg) f.code.length ((Ev.numTo f.code (k + 1)).flatMap cellsI)) := Lib.hid (by rw [Ev.numTo_same HI.out HAT.out]; exact owns_below HOv.out hb6)
          have HN6 : Hid (MapIn w6 bn (intF (Ev.nowAt f.code (k + 1)))) := Lib.hid (by rw [HNW.out]; exact HNv.out.on hb6)
          have HF6 : Hid (ButTwo g bn w3 w6) := Lib.hid (HFv.out.trans (.of_below hb6 zg))
          clear hb6 q0 q1 q2 q3 q4 q5
          go_wp2_with fail
          go_roundw
          case rel => exact ⟨k + 1, by omega, by go_num, HO6, HN6, HF6⟩
          case measure => simp [intOf]; omega
        · rw [hmk] at CM
          have HMK := Lib.hid hmk
          have HKN := Lib.hid hkn
          have HAT := Lib.hid hat
          have HNW := Lib.hid hnw
          clear hmk hkn hat hnw
          go_upto_region 11 with (go_at_call 37; refine CM.out.mono ?_; rintro e w6 ⟨rfl, hb6⟩)
          have HO6 := Lib.hid (owns_below HOv.out hb6)
          have HN6 := Lib.hid (HNv.out.on hb6)
          have HF6 := Lib.hid (HFv.out.trans (ButTwo.of_below (q := bn) hb6 zg))
          clear hb6 q0 q1 q2 q3 q4 q5
          obtain ⟨q0, q1, q2, q3, q4, q5⟩ := row_cells HO6.out (Ev.numTo_len _ _ (by omega)) (k := k) (i := i) (by rw [Ev.numTo_ge _ _ _ (Nat.le_refl _)]; exact HI.out)
          have CK := Lib.hid (known_any i _ bn w6 HN6.out (Ev.makes_iff.1 HMK.out) HI64.out)
          rw [HKN.out] at CK
          have CK2 : Hid (Calls Try.prog 62 #[.agg #[.int .i64 i.op, .int .i64 i.d, .int .i64 i.a, .int .i64 i.b, .int .i64 i.c, .int .i64 i.imm], .map (some bn)] w6 fun e w' => e = .returned (.tuple #[.int .i64 0, .bool false]) ∧ Below w6.heap.size w6 w') := CK
          clear CK CM
          have zg6 := own_lt HO6.out (b := g) rfl
          go_upto_region 13 with (go_at_call 62; refine CK2.out.mono ?_; rintro e w7 ⟨rfl, hb7⟩)
          have HO7 := Lib.hid (owns_below HO6.out hb7)
          have HN7 := Lib.hid (HN6.out.on hb7)
          have HF7 := Lib.hid (HF6.out.trans (ButTwo.of_below (q := bn) hb7 zg6))
          clear hb7 q0 q1 q2 q3 q4 q5
          obtain ⟨q0, q1, q2, q3, q4, q5⟩ := row_cells HO7.out (Ev.numTo_len _ _ (by omega)) (k := k) (i := i) (by rw [Ev.numTo_ge _ _ _ (Nat.le_refl _)]; exact HI.out)
          have zg7 := own_lt HO7.out (b := g) rfl
          go_wp2_with (at_delete; refine wpList_delete_at rfl _ _ 109 _ rfl Try.underlying109 rfl rfl HN7.out (HDM.out (Ev.makes_iff.1 HMK.out).2) ?_; intro w8 hm8 ht8)
          have HO8 : Hid (w8.ownsRow ba 39 6 (.slice (some ⟨g, 0, none⟩) f.code.length cg) f.code.length ((Ev.numTo f.code (k + 1)).flatMap cellsI)) := Lib.hid (by rw [Ev.numTo_same HI.out HAT.out]; exact kept_other HO7.out ht8.grown (fun b hb e => by have h1 : g = b := Option.some.inj hb; have h2 : b = bn := Option.some.inj e; omega))
          have HN8 : Hid (MapIn w8 bn (intF (Ev.nowAt f.code (k + 1)))) := Lib.hid (by rw [HNW.out, ← intF_drop]; exact hm8)
          have HF8 := Lib.hid (HF7.out.trans (ButTwo.of_turned (g := g) ht8 zg7))
          clear hm8 ht8 q0 q1 q2 q3 q4 q5
          go_wp2_with fail
          go_roundw
          case rel => exact ⟨k + 1, by omega, by go_num, HO8, HN8, HF8⟩
          case measure => simp [intOf]; omega
        · rw [hmk] at CM
          have HMK := Lib.hid hmk
          have HKN := Lib.hid hkn
          have HAT := Lib.hid hat
          have HNW := Lib.hid hnw
          clear hmk hkn hat hnw
          go_upto_region 11 with (go_at_call 37; refine CM.out.mono ?_; rintro e w6 ⟨rfl, hb6⟩)
          have HO6 := Lib.hid (owns_below HOv.out hb6)
          have HN6 := Lib.hid (HNv.out.on hb6)
          have HF6 := Lib.hid (HFv.out.trans (ButTwo.of_below (q := bn) hb6 zg))
          clear hb6 q0 q1 q2 q3 q4 q5
          obtain ⟨q0, q1, q2, q3, q4, q5⟩ := row_cells HO6.out (Ev.numTo_len _ _ (by omega)) (k := k) (i := i) (by rw [Ev.numTo_ge _ _ _ (Nat.le_refl _)]; exact HI.out)
          have CK := Lib.hid (known_any i _ bn w6 HN6.out (Ev.makes_iff.1 HMK.out) HI64.out)
          rw [HKN.out] at CK
          have CK2 : Hid (Calls Try.prog 62 #[.agg #[.int .i64 i.op, .int .i64 i.d, .int .i64 i.a, .int .i64 i.b, .int .i64 i.c, .int .i64 i.imm], .map (some bn)] w6 fun e w' => e = .returned (.tuple #[.int .i64 n, .bool true]) ∧ Below w6.heap.size w6 w') := CK
          clear CK CM
          have zg6 := own_lt HO6.out (b := g) rfl
          go_upto_region 14 with (go_at_call 62; refine CK2.out.mono ?_; rintro e w7 ⟨rfl, hb7⟩)
          have HO7 := Lib.hid (owns_below HO6.out hb7)
          have HN7 := Lib.hid (HN6.out.on hb7)
          have HF7 := Lib.hid (HF6.out.trans (ButTwo.of_below (q := bn) hb7 zg6))
          clear hb7 q0 q1 q2 q3 q4 q5
          obtain ⟨q0, q1, q2, q3, q4, q5⟩ := row_cells HO7.out (Ev.numTo_len _ _ (by omega)) (k := k) (i := i) (by rw [Ev.numTo_ge _ _ _ (Nat.le_refl _)]; exact HI.out)
          have zg7 := own_lt HO7.out (b := g) rfl
          go_upto_region 15 with (at_mapUpdate; refine wpList_update_at rfl _ _ _ 109 _ rfl Try.underlying109 rfl rfl rfl HN7.out (HDM.out (Ev.makes_iff.1 HMK.out).2) ?_; intro w8 hm8 ht8)
          have HO8 : Hid (w8.ownsRow ba 39 6 (.slice (some ⟨g, 0, none⟩) f.code.length cg) f.code.length ((Ev.numTo f.code k).flatMap cellsI)) := Lib.hid (kept_other HO7.out ht8.grown (fun b hb e => by have h1 : g = b := Option.some.inj hb; have h2 : b = bn := Option.some.inj e; omega))
          have HN8 : Hid (MapIn w8 bn (intF (Ev.nowAt f.code (k + 1)))) := Lib.hid (by rw [HNW.out, ← intF_put]; exact hm8)
          have HF8 := Lib.hid (HF7.out.trans (ButTwo.of_turned (g := g) ht8 zg7))
          clear hm8 ht8 q0 q1 q2 q3 q4 q5
          obtain ⟨q0, q1, q2, q3, q4, q5⟩ := row_cells HO8.out (Ev.numTo_len _ _ (by omega)) (k := k) (i := i) (by rw [Ev.numTo_ge _ _ _ (Nat.le_refl _)]; exact HI.out)
          have qf := fun j => row_free HO8.out j
          have HO9 : Hid (((((((w8.setCell ⟨g, k * 6, none⟩ (.int .i64 14)).setCell ⟨g, k * 6 + 1, none⟩ (.int .i64 i.d)).setCell ⟨g, k * 6 + 2, none⟩ (.int .i64 0)).setCell ⟨g, k * 6 + 3, none⟩ (.int .i64 0)).setCell ⟨g, k * 6 + 4, none⟩ (.int .i64 0)).setCell ⟨g, k * 6 + 5, none⟩ (.int .i64 n)).ownsRow ba 39 6 (.slice (some ⟨g, 0, none⟩) f.code.length cg) f.code.length ((Ev.numTo f.code (k + 1)).flatMap cellsI)) := Lib.hid (by
            have h := row_set HO8.out (Ev.numTo_len _ _ (by omega)) hlt ⟨14, i.d, 0, 0, 0, n⟩
            have e := Ev.numTo_set (l := f.code) hlt
            rw [HAT.out] at e
            rw [e] at h
            exact h)
          have HN9 : Hid (MapIn ((((((w8.setCell ⟨g, k * 6, none⟩ (.int .i64 14)).setCell ⟨g, k * 6 + 1, none⟩ (.int .i64 i.d)).setCell ⟨g, k * 6 + 2, none⟩ (.int .i64 0)).setCell ⟨g, k * 6 + 3, none⟩ (.int .i64 0)).setCell ⟨g, k * 6 + 4, none⟩ (.int .i64 0)).setCell ⟨g, k * 6 + 5, none⟩ (.int .i64 n)) bn (intF (Ev.nowAt f.code (k + 1)))) := Lib.hid (HN8.out.same (by repeat rw [Below.heap_setCell _ _ _ bn (show bn ≠ g by omega)]))
          have HF9 : Hid (ButTwo g bn w3 ((((((w8.setCell ⟨g, k * 6, none⟩ (.int .i64 14)).setCell ⟨g, k * 6 + 1, none⟩ (.int .i64 i.d)).setCell ⟨g, k * 6 + 2, none⟩ (.int .i64 0)).setCell ⟨g, k * 6 + 3, none⟩ (.int .i64 0)).setCell ⟨g, k * 6 + 4, none⟩ (.int .i64 0)).setCell ⟨g, k * 6 + 5, none⟩ (.int .i64 n))) := Lib.hid (((((((HF8.out.trans (ButTwo.of_set _ _ _ _ _)).trans (ButTwo.of_set _ _ _ _ _)).trans (ButTwo.of_set _ _ _ _ _)).trans (ButTwo.of_set _ _ _ _ _)).trans (ButTwo.of_set _ _ _ _ _)).trans (ButTwo.of_set _ _ _ _ _)))
          go_upto_region 16 with fail
          generalize ((((((w8.setCell ⟨g, k * 6, none⟩ (.int .i64 14)).setCell ⟨g, k * 6 + 1, none⟩ (.int .i64 i.d)).setCell ⟨g, k * 6 + 2, none⟩ (.int .i64 0)).setCell ⟨g, k * 6 + 3, none⟩ (.int .i64 0)).setCell ⟨g, k * 6 + 4, none⟩ (.int .i64 0)).setCell ⟨g, k * 6 + 5, none⟩ (.int .i64 n)) = w9 at *
          clear q0 q1 q2 q3 q4 q5 qf
          go_wp2_with fail
          go_roundw
          case rel => exact ⟨k + 1, by omega, by go_num, HO9, HN9, HF9⟩
          case measure => simp [intOf]; omega
      | true => as_aux_lemma =>
        go_upto_region 10 with (first | (at_lookup; refine wpList_lookup_at rfl _ _ 107 false rfl rfl rfl hlk ?_) | (refine wpList_clear_at rfl _ 109 _ rfl Try.underlying109 rfl HNk.out ?_; intro w5 hm5 ht5))
        have HNv : Hid (MapIn w5 bn (intF (Ev.nowIn f.code k))) := Lib.hid (by rw [HNI.out]; exact hm5)
        have HOv : Hid (w5.ownsRow ba 39 6 (.slice (some ⟨g, 0, none⟩) f.code.length cg) f.code.length ((Ev.numTo f.code k).flatMap cellsI)) := Lib.hid (kept_other HOk.out ht5.grown (fun b hb e => by have h1 : g = b := Option.some.inj hb; have h2 : b = bn := Option.some.inj e; omega))
        have HFv := Lib.hid (HFk.out.trans (ButTwo.of_turned (g := g) ht5 zg0))
        clear hlk x0 HOk HNk HNI hm5 ht5
        obtain ⟨q0, q1, q2, q3, q4, q5⟩ := row_cells HOv.out (Ev.numTo_len _ _ (by omega)) (k := k) (i := i) (by rw [Ev.numTo_ge _ _ _ (Nat.le_refl _)]; exact HI.out)
        have CM := Lib.hid (makes_any i w5)
        have zg := own_lt HOv.out (b := g) rfl
        have zn := HNv.out.lt
        rcases HNC.out with ⟨hmk, hat, hnw⟩ | ⟨hmk, hkn, hat, hnw⟩ | ⟨hmk, n, hkn, hat, hnw⟩
        · rw [hmk] at CM
          have HAT := Lib.hid hat
          have HNW := Lib.hid hnw
          clear hmk hat hnw
          go_wp2_with (go_at_call 37; refine CM.out.mono ?_; rintro e w6 ⟨rfl, hb6⟩)
          have HO6 : Hid (w6.ownsRow ba 39 6 (.slice (some ⟨g, 0, none⟩) f.code.length cg) f.code.length ((Ev.numTo f.code (k + 1)).flatMap cellsI)) := Lib.hid (by rw [Ev.numTo_same HI.out HAT.out]; exact owns_below HOv.out hb6)
          have HN6 : Hid (MapIn w6 bn (intF (Ev.nowAt f.code (k + 1)))) := Lib.hid (by rw [HNW.out]; exact HNv.out.on hb6)
          have HF6 : Hid (ButTwo g bn w3 w6) := Lib.hid (HFv.out.trans (.of_below hb6 zg))
          clear hb6 q0 q1 q2 q3 q4 q5
          go_wp2_with fail
          go_roundw
          case rel => exact ⟨k + 1, by omega, by go_num, HO6, HN6, HF6⟩
          case measure => simp [intOf]; omega
        · rw [hmk] at CM
          have HMK := Lib.hid hmk
          have HKN := Lib.hid hkn
          have HAT := Lib.hid hat
          have HNW := Lib.hid hnw
          clear hmk hkn hat hnw
          go_upto_region 11 with (go_at_call 37; refine CM.out.mono ?_; rintro e w6 ⟨rfl, hb6⟩)
          have HO6 := Lib.hid (owns_below HOv.out hb6)
          have HN6 := Lib.hid (HNv.out.on hb6)
          have HF6 := Lib.hid (HFv.out.trans (ButTwo.of_below (q := bn) hb6 zg))
          clear hb6 q0 q1 q2 q3 q4 q5
          obtain ⟨q0, q1, q2, q3, q4, q5⟩ := row_cells HO6.out (Ev.numTo_len _ _ (by omega)) (k := k) (i := i) (by rw [Ev.numTo_ge _ _ _ (Nat.le_refl _)]; exact HI.out)
          have CK := Lib.hid (known_any i _ bn w6 HN6.out (Ev.makes_iff.1 HMK.out) HI64.out)
          rw [HKN.out] at CK
          have CK2 : Hid (Calls Try.prog 62 #[.agg #[.int .i64 i.op, .int .i64 i.d, .int .i64 i.a, .int .i64 i.b, .int .i64 i.c, .int .i64 i.imm], .map (some bn)] w6 fun e w' => e = .returned (.tuple #[.int .i64 0, .bool false]) ∧ Below w6.heap.size w6 w') := CK
          clear CK CM
          have zg6 := own_lt HO6.out (b := g) rfl
          go_upto_region 13 with (go_at_call 62; refine CK2.out.mono ?_; rintro e w7 ⟨rfl, hb7⟩)
          have HO7 := Lib.hid (owns_below HO6.out hb7)
          have HN7 := Lib.hid (HN6.out.on hb7)
          have HF7 := Lib.hid (HF6.out.trans (ButTwo.of_below (q := bn) hb7 zg6))
          clear hb7 q0 q1 q2 q3 q4 q5
          obtain ⟨q0, q1, q2, q3, q4, q5⟩ := row_cells HO7.out (Ev.numTo_len _ _ (by omega)) (k := k) (i := i) (by rw [Ev.numTo_ge _ _ _ (Nat.le_refl _)]; exact HI.out)
          have zg7 := own_lt HO7.out (b := g) rfl
          go_wp2_with (at_delete; refine wpList_delete_at rfl _ _ 109 _ rfl Try.underlying109 rfl rfl HN7.out (HDM.out (Ev.makes_iff.1 HMK.out).2) ?_; intro w8 hm8 ht8)
          have HO8 : Hid (w8.ownsRow ba 39 6 (.slice (some ⟨g, 0, none⟩) f.code.length cg) f.code.length ((Ev.numTo f.code (k + 1)).flatMap cellsI)) := Lib.hid (by rw [Ev.numTo_same HI.out HAT.out]; exact kept_other HO7.out ht8.grown (fun b hb e => by have h1 : g = b := Option.some.inj hb; have h2 : b = bn := Option.some.inj e; omega))
          have HN8 : Hid (MapIn w8 bn (intF (Ev.nowAt f.code (k + 1)))) := Lib.hid (by rw [HNW.out, ← intF_drop]; exact hm8)
          have HF8 := Lib.hid (HF7.out.trans (ButTwo.of_turned (g := g) ht8 zg7))
          clear hm8 ht8 q0 q1 q2 q3 q4 q5
          go_wp2_with fail
          go_roundw
          case rel => exact ⟨k + 1, by omega, by go_num, HO8, HN8, HF8⟩
          case measure => simp [intOf]; omega
        · rw [hmk] at CM
          have HMK := Lib.hid hmk
          have HKN := Lib.hid hkn
          have HAT := Lib.hid hat
          have HNW := Lib.hid hnw
          clear hmk hkn hat hnw
          go_upto_region 11 with (go_at_call 37; refine CM.out.mono ?_; rintro e w6 ⟨rfl, hb6⟩)
          have HO6 := Lib.hid (owns_below HOv.out hb6)
          have HN6 := Lib.hid (HNv.out.on hb6)
          have HF6 := Lib.hid (HFv.out.trans (ButTwo.of_below (q := bn) hb6 zg))
          clear hb6 q0 q1 q2 q3 q4 q5
          obtain ⟨q0, q1, q2, q3, q4, q5⟩ := row_cells HO6.out (Ev.numTo_len _ _ (by omega)) (k := k) (i := i) (by rw [Ev.numTo_ge _ _ _ (Nat.le_refl _)]; exact HI.out)
          have CK := Lib.hid (known_any i _ bn w6 HN6.out (Ev.makes_iff.1 HMK.out) HI64.out)
          rw [HKN.out] at CK
          have CK2 : Hid (Calls Try.prog 62 #[.agg #[.int .i64 i.op, .int .i64 i.d, .int .i64 i.a, .int .i64 i.b, .int .i64 i.c, .int .i64 i.imm], .map (some bn)] w6 fun e w' => e = .returned (.tuple #[.int .i64 n, .bool true]) ∧ Below w6.heap.size w6 w') := CK
          clear CK CM
          have zg6 := own_lt HO6.out (b := g) rfl
          go_upto_region 14 with (go_at_call 62; refine CK2.out.mono ?_; rintro e w7 ⟨rfl, hb7⟩)
          have HO7 := Lib.hid (owns_below HO6.out hb7)
          have HN7 := Lib.hid (HN6.out.on hb7)
          have HF7 := Lib.hid (HF6.out.trans (ButTwo.of_below (q := bn) hb7 zg6))
          clear hb7 q0 q1 q2 q3 q4 q5
          obtain ⟨q0, q1, q2, q3, q4, q5⟩ := row_cells HO7.out (Ev.numTo_len _ _ (by omega)) (k := k) (i := i) (by rw [Ev.numTo_ge _ _ _ (Nat.le_refl _)]; exact HI.out)
          have zg7 := own_lt HO7.out (b := g) rfl
          go_upto_region 15 with (at_mapUpdate; refine wpList_update_at rfl _ _ _ 109 _ rfl Try.underlying109 rfl rfl rfl HN7.out (HDM.out (Ev.makes_iff.1 HMK.out).2) ?_; intro w8 hm8 ht8)
          have HO8 : Hid (w8.ownsRow ba 39 6 (.slice (some ⟨g, 0, none⟩) f.code.length cg) f.code.length ((Ev.numTo f.code k).flatMap cellsI)) := Lib.hid (kept_other HO7.out ht8.grown (fun b hb e => by have h1 : g = b := Option.some.inj hb; have h2 : b = bn := Option.some.inj e; omega))
          have HN8 : Hid (MapIn w8 bn (intF (Ev.nowAt f.code (k + 1)))) := Lib.hid (by rw [HNW.out, ← intF_put]; exact hm8)
          have HF8 := Lib.hid (HF7.out.trans (ButTwo.of_turned (g := g) ht8 zg7))
          clear hm8 ht8 q0 q1 q2 q3 q4 q5
          obtain ⟨q0, q1, q2, q3, q4, q5⟩ := row_cells HO8.out (Ev.numTo_len _ _ (by omega)) (k := k) (i := i) (by rw [Ev.numTo_ge _ _ _ (Nat.le_refl _)]; exact HI.out)
          have qf := fun j => row_free HO8.out j
          have HO9 : Hid (((((((w8.setCell ⟨g, k * 6, none⟩ (.int .i64 14)).setCell ⟨g, k * 6 + 1, none⟩ (.int .i64 i.d)).setCell ⟨g, k * 6 + 2, none⟩ (.int .i64 0)).setCell ⟨g, k * 6 + 3, none⟩ (.int .i64 0)).setCell ⟨g, k * 6 + 4, none⟩ (.int .i64 0)).setCell ⟨g, k * 6 + 5, none⟩ (.int .i64 n)).ownsRow ba 39 6 (.slice (some ⟨g, 0, none⟩) f.code.length cg) f.code.length ((Ev.numTo f.code (k + 1)).flatMap cellsI)) := Lib.hid (by
            have h := row_set HO8.out (Ev.numTo_len _ _ (by omega)) hlt ⟨14, i.d, 0, 0, 0, n⟩
            have e := Ev.numTo_set (l := f.code) hlt
            rw [HAT.out] at e
            rw [e] at h
            exact h)
          have HN9 : Hid (MapIn ((((((w8.setCell ⟨g, k * 6, none⟩ (.int .i64 14)).setCell ⟨g, k * 6 + 1, none⟩ (.int .i64 i.d)).setCell ⟨g, k * 6 + 2, none⟩ (.int .i64 0)).setCell ⟨g, k * 6 + 3, none⟩ (.int .i64 0)).setCell ⟨g, k * 6 + 4, none⟩ (.int .i64 0)).setCell ⟨g, k * 6 + 5, none⟩ (.int .i64 n)) bn (intF (Ev.nowAt f.code (k + 1)))) := Lib.hid (HN8.out.same (by repeat rw [Below.heap_setCell _ _ _ bn (show bn ≠ g by omega)]))
          have HF9 : Hid (ButTwo g bn w3 ((((((w8.setCell ⟨g, k * 6, none⟩ (.int .i64 14)).setCell ⟨g, k * 6 + 1, none⟩ (.int .i64 i.d)).setCell ⟨g, k * 6 + 2, none⟩ (.int .i64 0)).setCell ⟨g, k * 6 + 3, none⟩ (.int .i64 0)).setCell ⟨g, k * 6 + 4, none⟩ (.int .i64 0)).setCell ⟨g, k * 6 + 5, none⟩ (.int .i64 n))) := Lib.hid (((((((HF8.out.trans (ButTwo.of_set _ _ _ _ _)).trans (ButTwo.of_set _ _ _ _ _)).trans (ButTwo.of_set _ _ _ _ _)).trans (ButTwo.of_set _ _ _ _ _)).trans (ButTwo.of_set _ _ _ _ _)).trans (ButTwo.of_set _ _ _ _ _)))
          go_upto_region 16 with fail
          generalize ((((((w8.setCell ⟨g, k * 6, none⟩ (.int .i64 14)).setCell ⟨g, k * 6 + 1, none⟩ (.int .i64 i.d)).setCell ⟨g, k * 6 + 2, none⟩ (.int .i64 0)).setCell ⟨g, k * 6 + 3, none⟩ (.int .i64 0)).setCell ⟨g, k * 6 + 4, none⟩ (.int .i64 0)).setCell ⟨g, k * 6 + 5, none⟩ (.int .i64 n)) = w9 at *
          clear q0 q1 q2 q3 q4 q5 qf
          go_wp2_with fail
          go_roundw
          case rel => exact ⟨k + 1, by omega, by go_num, HO9, HN9, HF9⟩
          case measure => simp [intOf]; omega
    · obtain rfl : k = f.code.length := by omega
      have HNM : Hid (Ev.numTo f.code f.code.length = Ev.nums f.code) := Lib.hid rfl
      have HBt := HFk.out.box HB2C (by omega) (by omega)
      have x1 : wr.cell? ⟨bx, 1, none⟩ = some (.slice A2 f.secret.length c2) := box_cell HBXk 1 rfl
      have x2 : wr.cell? ⟨bx, 2, none⟩ = some (.int .i64 f.params) := box_cell HBXk 2 rfl
      have x3 : wr.cell? ⟨bx, 3, none⟩ = some (.slice A3 f.arrays.length c3) := box_cell HBXk 3 rfl
      have y0 : wr.cell? ⟨w.heap.size + 1, 0, none⟩ = some (.slice none 0 0) := box_cell HBt 0 rfl
      have y1 : wr.cell? ⟨w.heap.size + 1, 1, none⟩ = some (.slice none 0 0) := box_cell HBt 1 rfl
      have y2 : wr.cell? ⟨w.heap.size + 1, 2, none⟩ = some (.int .i64 0) := box_cell HBt 2 rfl
      have y3 : wr.cell? ⟨w.heap.size + 1, 3, none⟩ = some (.slice none 0 0) := box_cell HBt 3 rfl
      have yf := fun j => box_free HBt j
      have DR := Lib.hid (Dep.but HD.out HFk.out (by omega) (by omega))
      go_wp2_with fail
      refine bodyPost_ret (v := .agg #[.slice (some ⟨g, 0, none⟩) f.code.length cg, .slice A2 f.secret.length c2, .int .i64 f.params, .slice A3 f.arrays.length c3]) (by simp [results, Try.results27, go_sem, y0, y1, y2, y3]) rfl ?_
      have hn1 : (.slice (some ⟨g, 0, none⟩) f.code.length cg : Value).ownBlock ≠ some (w.heap.size + 1) := fun e => by have h1 : g = w.heap.size + 1 := Option.some.inj e; omega
      have DR2 := ((((DR.out.aside (w.heap.size + 1) 0 (.slice (some ⟨g, 0, none⟩) f.code.length cg) (.inl (by omega))).aside (w.heap.size + 1) 1 (.slice A2 f.secret.length c2) (.inl (by omega))).aside (w.heap.size + 1) 2 (.int .i64 f.params) (.inl (by omega))).aside (w.heap.size + 1) 3 (.slice A3 f.arrays.length c3) (.inl (by omega))).here
      refine ⟨_, rfl, ⟨_, _, _, rfl, ?_, DR2.1, DR2.2⟩, ⟨_, _, _, _, rfl, from_some _ _ (by show w.heap.size + 2 ≤ g; omega), HFA.out.1.less (by omega), HFA.out.2.less (by omega)⟩, ?_⟩
      · show RCode _ _ _ (Ev.nums f.code)
        unfold RCode
        rw [Ev.nums_len, ← HNM.out]
        exact SL.of_own (ownsRow_setCell_other (ownsRow_setCell_other (ownsRow_setCell_other (ownsRow_setCell_other HOk.out hn1 _) hn1 _) hn1 _) hn1 _)
      · have e0 : Below w.heap.size w wr := b3.trans (HFk.out.below.mono (by omega))
        have e1 := e0.size
        (repeat' first | with_reducible (first | exact Below.refl _ _ | assumption | refine Below.alloc ?_ ?_ _ | refine below_drewN ?_ _ | refine Below.drew ?_ | refine Below.setCell ?_ ?_ _ | refine Below.trans ?_ (Below.mono (by with_reducible assumption) ?_)) | go_size)
end Go.Proofs.Ytljcgcllhcdleaa
