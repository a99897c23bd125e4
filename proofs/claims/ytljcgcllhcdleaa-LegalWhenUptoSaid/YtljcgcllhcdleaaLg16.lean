import Derived.Test.YtljcgcllhcdleaaLg11
import Derived.Test.YtljcgcllhcdleaaLg2
import Derived.Test.YtljcgcllhcdleaaLg6
import Derived.Deep.RegionHeld3
import Derived.RegionCalls
/- legal's maker in memory: where each instruction is now; an instruction's number is set. -/
namespace Go.Proofs.Ytljcgcllhcdleaa
open Go.RowKit
set_option linter.unusedSimpArgs false
set_option linter.unusedVariables false
theorem flat6_set : ∀ (l : List Ev.Instr) (k : Nat) (i : Ev.Instr) (x : Int), l[k]? = some i → (l.flatMap cellsI).set (k * 6 + 5) (.int .i64 x) = (l.set k { i with imm := x }).flatMap cellsI
  | [], k, i, x, h => by simp at h
  | y :: r, 0, i, x, h => by
    simp at h
    subst h
    simp [cellsI]
  | y :: r, k + 1, i, x, h => by
    have := flat6_set r k i x (by simpa using h)
    rw [List.flatMap_cons, List.set_cons_succ, List.flatMap_cons, ← this, List.set_append_right (h := by simp [cellsI]; omega)]
    congr 1
    congr 1
    simp [cellsI]
    omega
section
variable {w w' : World} {c : MkC} {vc vs vx : Value} {m : Ev.Mk} {l : List Int}
/-- the row of where each one is has grown, and is set -/
theorem MkAt.pushAt {w1 w2 : World} {vx' : Value} {x : Int} (h : MkAt w c vc vs vx m l) (hb : Below w.heap.size w w1) (hg : w1.grownBy w2 vx.ownBlock) (hv : w2.ownsRow c.lo 3 1 vx' (l.length + 1) (l.map (Value.int .i64) ++ [Value.int .i64 x])) (hat : vx'.ownBlock = vx.ownBlock ∨ vx'.ownBlock = some w1.heap.size) :
    MkAt (w2.setCell ⟨c.mb, 6, none⟩ vx') c vc vs vx' m (l ++ [x]) ∧ MkFr c w (w2.setCell ⟨c.mb, 6, none⟩ vx') := by
  have h1 := h.stays hb
  have hlt := h1.lt
  have hsz := hb.size
  have hsz2 := hg.size
  have hbk : w2.heap[c.mb]? = some (.cells (mkCells c vc vs vx) 96 (0, 0)) := (hg.block _ hlt (fun e => h.bx e.symm)).trans h1.blk
  have nb : ∀ b, vx'.ownBlock = some b → vx.ownBlock = some b ∨ w1.heap.size ≤ b := fun b hb => by
    rcases hat with e | e
    · exact .inl (e.symm.trans hb)
    · rw [e] at hb; injection hb with hb; exact .inr (by omega)
  have hb' : vx'.ownBlock ≠ some c.mb := fun e => by
    rcases nb _ e with e | e
    · exact h.bx e
    · omega
  have c1 : w2.ownsRow c.lo 39 6 vc m.code.length (m.code.flatMap cellsI) := kept_other h1.code hg (fun b hb e => h.cx b hb e.symm)
  have s1 : w2.ownsRow c.lo 4 1 vs m.secret.length (m.secret.map Value.bool) := kept_other h1.sec hg (fun b hb e => h.sx b hb e.symm)
  have H1 := h.h1
  refine ⟨⟨?_, ownsRow_setCell_other c1 (fun e => h.bc e) _, ownsRow_setCell_other s1 (fun e => h.bs e) _, ownsRow_setCell_other (by simpa using hv) hb' _, h.kb, h.kc, h.ks, fun b hb => ?_, fun b hk => ?_, h.cs, fun b hb e => ?_, fun b hb e => ?_, h.bc, h.bs, hb', h.h1⟩, ⟨?_, fun b hk => ?_⟩⟩
  · rw [heap_setCell_same w2 c.mb 6 _ _ vx' hbk]; rfl
  · rcases nb b hb with e | e
    · exact h.kx b e
    · intro hk; have := h.klt b hk; omega
  · have := h.klt b hk
    show b < (w2.setCell _ _).heap.size
    simp only [World.size_setCell]; omega
  · rcases nb b e with e' | e'
    · exact h.cx b hb e'
    · have := own_lt h.code hb; omega
  · rcases nb b e with e' | e'
    · exact h.sx b hb e'
    · have := own_lt h.sec hb; omega
  · have hlo : c.lo ≤ w.heap.size := by have := h.lt; omega
    exact ((hb.mono hlo).grown hg (by omega) (fun q hq => own_ge h.ats hq)).setCell (by show c.lo ≤ c.mb; omega) _
  · have := h.klt b hk
    rw [Below.heap_setCell w2 ⟨c.mb, 6, none⟩ vx' b (fun e => h.kb ((show b = c.mb from e) ▸ hk)), hg.block b (by omega) (fun e => h.kx b e.symm hk), hb.block b (by omega)]
/-- the code's row, where there is an instruction -/
theorem MkAt.codeAt (h : MkAt w c vc vs vx m l) {k : Nat} {i : Ev.Instr} (hk : m.code[k]? = some i) : ∃ g cap, vc = .slice (some ⟨g, 0, none⟩) m.code.length cap ∧ c.lo ≤ g ∧ g < w.heap.size ∧ m.code.length ≤ cap ∧ cap ≤ maxLen ∧ (∀ j, w.frozen? ⟨g, j, none⟩ = false) ∧
    (∀ (j : Nat) u, (cellsI i)[j]? = some u → w.cell? ⟨g, k * 6 + j, none⟩ = some u) ∧
    ∀ x, MkAt (w.setCell ⟨g, k * 6 + 5, none⟩ (.int .i64 x)) c vc vs vx { m with code := m.code.set k { i with imm := x } } l ∧ MkFr c w (w.setCell ⟨g, k * 6 + 5, none⟩ (.int .i64 x)) := by
  have hc := h.code
  have hlt : k < m.code.length := (List.getElem?_eq_some_iff.1 hk).1
  rcases h.code.2 with ⟨rfl, hn⟩ | ⟨g, cap, cur, rfl, hlo, hg, hnc, hcm, hcs, ht⟩
  · exfalso
    have := h.code.1
    rw [hn] at this
    simp at this
    omega
  · have hge : c.lo ≤ g := hlo
    obtain ⟨b, o, cc, e, _, _, _, _, i0, i1, i2, i3, i4, i5⟩ := RCode.at_ (SL.of_own hc) hk
    injection e with e _ _
    injection e with e
    injection e with e1 e2
    subst e1
    simp only [← e2, Nat.zero_add] at i0 i1 i2 i3 i4 i5
    have hgl : g < w.heap.size := own_lt hc rfl
    refine ⟨g, cap, rfl, hge, hgl, hnc, hcm, fun j => box_looseM hg j, fun j u hu => ?_, fun x => ?_⟩
    · match j, hu with
      | 0, hu => simp [cellsI] at hu; subst hu; exact i0
      | 1, hu => simp [cellsI] at hu; subst hu; exact i1
      | 2, hu => simp [cellsI] at hu; subst hu; exact i2
      | 3, hu => simp [cellsI] at hu; subst hu; exact i3
      | 4, hu => simp [cellsI] at hu; subst hu; exact i4
      | 5, hu => simp [cellsI] at hu; subst hu; exact i5
      | j + 6, hu => simp [cellsI] at hu
    · obtain ⟨s1, s2⟩ := hc.stored (k * 6 + 5) (.int .i64 x)
      rw [flat6_set m.code k i x hk] at s1
      have hne : c.mb ≠ g := fun e => h.bc (by rw [e]; rfl)
      refine ⟨⟨?_, ?_, ownsRow_setCell_other h.sec (h.cs g rfl) _, ownsRow_setCell_other h.ats (h.cx g rfl) _, h.kb, h.kc, h.ks, h.kx, fun b hb => by simpa using h.klt b hb, h.cs, h.cx, h.sx, h.bc, h.bs, h.bx, h.h1⟩, ⟨(Below.refl _ _).setCell hge _, fun b hb => ?_⟩⟩
      · rw [heap_setCell_other w ⟨g, k * 6 + 5, none⟩ c.mb _ hne]; exact h.blk
      · show World.ownsRow _ _ _ _ _ (m.code.set k _).length _
        rw [List.length_set]; exact s1
      · exact Below.heap_setCell w ⟨g, k * 6 + 5, none⟩ _ b (fun e => h.kc g rfl ((show b = g from e) ▸ hb))
end
end Go.Proofs.Ytljcgcllhcdleaa
/- flow.Own -/
namespace Go.Proofs.Ytljcgcllhcdleaa
open Go.RowKit
set_option linter.unusedSimpArgs false
set_option linter.unusedVariables false
def RFlat (w : World) (B : Nat) (v : Value) (f : Ev.Flat) : Prop :=
  ∃ vc vs va, v = .agg #[vc, vs, .int .i64 f.params, va] ∧ RCode w B vc f.code ∧ RBools w B vs f.secret ∧ RVars w B va f.arrays

set_option maxRecDepth 4000 in
set_option maxHeartbeats 3200000 in
theorem own_any (f : Ev.Flat) (v : Value) (w : World) (h : RFlat w w.heap.size v f) (h1 : f.code.length ≤ 1073741824) (h2 : f.secret.length ≤ 1073741824) (h3 : f.arrays.length ≤ 1073741824) :
    Calls Try.prog 33 #[v] w fun e w' => ∃ v', e = .returned v' ∧ RFlat w' w'.heap.size v' f ∧ Below w.heap.size w w' := by
  obtain ⟨vc, vs, va, rfl, hc, hs, ha⟩ := h
  have HC := Lib.hid hc
  have HS := Lib.hid hs
  have HA := Lib.hid ha
  clear hc hs ha
  go_enter Try.func33, Try.ntmps33
  go_wp2_with fail
  refine wp_region_trail (fun w' => Below (w.heap.size + 1) ((w.alloc (.cells #[vc, vs, .int .i64 f.params, va] 26)).alloc (.cells #[.slice none 0 0, .slice none 0 0, .int .i64 0, .slice none 0 0] 26)) w') [(0, true), (1, true), (3, true), (4, true), (6, true), (7, true), (8, true), (9, true), (2, false), (5, false), (10, false), (11, true), (12, false)] (by kernel_rfl) (by kernel_rfl) (by kernel_rfl) (by decide) (by (repeat' first | with_reducible (first | exact Below.refl _ _ | assumption | refine Below.alloc ?_ ?_ _ | refine below_drewN ?_ _ | refine Below.drew ?_ | refine Below.setCell ?_ ?_ _ | refine Below.trans ?_ (Below.mono (by with_reducible assumption) ?_)) | go_size)) ?_
  apply trail_light
  case hi => (simp only [List.getElem?_toArray, List.getElem?_cons_zero, List.getElem?_cons_succ]; exact rfl)
  case hl => first | exact light_no (by rfl) | ((first | apply light_plain rfl | apply light_yes (by rfl)); intro w9 hb9; have hB9 : Below w.heap.size w w9 := (by (repeat' first | with_reducible (first | exact Below.refl _ _ | assumption | refine Below.alloc ?_ ?_ _ | refine below_drewN ?_ _ | refine Below.drew ?_ | refine Below.setCell ?_ ?_ _ | refine Below.trans ?_ (Below.mono (by with_reducible assumption) ?_)) | go_size)); obtain ⟨kc9, kf9, s9⟩ := bfacts hb9; obtain ⟨kd9, kg9, _⟩ := bfacts hB9; go_simp; try rfl)
  case hQ => exact fun _ _ _ h => h
  (try simp only [Act.put, List.setIfInBounds_toArray, List.set_cons_zero, List.set_cons_succ])
  apply trail_light
  case hi => (simp only [List.getElem?_toArray, List.getElem?_cons_zero, List.getElem?_cons_succ]; exact rfl)
  case hl => first | exact light_no (by rfl) | ((first | apply light_plain rfl | apply light_yes (by rfl)); intro w9 hb9; have hB9 : Below w.heap.size w w9 := (by (repeat' first | with_reducible (first | exact Below.refl _ _ | assumption | refine Below.alloc ?_ ?_ _ | refine below_drewN ?_ _ | refine Below.drew ?_ | refine Below.setCell ?_ ?_ _ | refine Below.trans ?_ (Below.mono (by with_reducible assumption) ?_)) | go_size)); obtain ⟨kc9, kf9, s9⟩ := bfacts hb9; obtain ⟨kd9, kg9, _⟩ := bfacts hB9; go_simp; try rfl)
  case hQ => exact fun _ _ _ h => h
  (try simp only [Act.put, List.setIfInBounds_toArray, List.set_cons_zero, List.set_cons_succ])
  apply trail_light
  case hi => (simp only [List.getElem?_toArray, List.getElem?_cons_zero, List.getElem?_cons_succ]; exact rfl)
  case hl => first | exact light_no (by rfl) | ((first | apply light_plain rfl | apply light_yes (by rfl)); intro w9 hb9; have hB9 : Below w.heap.size w w9 := (by (repeat' first | with_reducible (first | exact Below.refl _ _ | assumption | refine Below.alloc ?_ ?_ _ | refine below_drewN ?_ _ | refine Below.drew ?_ | refine Below.setCell ?_ ?_ _ | refine Below.trans ?_ (Below.mono (by with_reducible assumption) ?_)) | go_size)); obtain ⟨kc9, kf9, s9⟩ := bfacts hb9; obtain ⟨kd9, kg9, _⟩ := bfacts hB9; go_simp; try rfl)
  case hQ => exact fun _ _ _ h => h
  (try simp only [Act.put, List.setIfInBounds_toArray, List.set_cons_zero, List.set_cons_succ])
  apply trail_light
  case hi => (simp only [List.getElem?_toArray, List.getElem?_cons_zero, List.getElem?_cons_succ]; exact rfl)
  case hl => first | exact light_no (by rfl) | ((first | apply light_plain rfl | apply light_yes (by rfl)); intro w9 hb9; have hB9 : Below w.heap.size w w9 := (by (repeat' first | with_reducible (first | exact Below.refl _ _ | assumption | refine Below.alloc ?_ ?_ _ | refine below_drewN ?_ _ | refine Below.drew ?_ | refine Below.setCell ?_ ?_ _ | refine Below.trans ?_ (Below.mono (by with_reducible assumption) ?_)) | go_size)); obtain ⟨kc9, kf9, s9⟩ := bfacts hb9; obtain ⟨kd9, kg9, _⟩ := bfacts hB9; go_simp; try rfl)
  case hQ => exact fun _ _ _ h => h
  (try simp only [Act.put, List.setIfInBounds_toArray, List.set_cons_zero, List.set_cons_succ])
  apply trail_light
  case hi => (simp only [List.getElem?_toArray, List.getElem?_cons_zero, List.getElem?_cons_succ]; exact rfl)
  case hl => first | exact light_no (by rfl) | ((first | apply light_plain rfl | apply light_yes (by rfl)); intro w9 hb9; have hB9 : Below w.heap.size w w9 := (by (repeat' first | with_reducible (first | exact Below.refl _ _ | assumption | refine Below.alloc ?_ ?_ _ | refine below_drewN ?_ _ | refine Below.drew ?_ | refine Below.setCell ?_ ?_ _ | refine Below.trans ?_ (Below.mono (by with_reducible assumption) ?_)) | go_size)); obtain ⟨kc9, kf9, s9⟩ := bfacts hb9; obtain ⟨kd9, kg9, _⟩ := bfacts hB9; go_simp; try rfl)
  case hQ => exact fun _ _ _ h => h
  (try simp only [Act.put, List.setIfInBounds_toArray, List.set_cons_zero, List.set_cons_succ])
  apply trail_light
  case hi => (simp only [List.getElem?_toArray, List.getElem?_cons_zero, List.getElem?_cons_succ]; exact rfl)
  case hl => first | exact light_no (by rfl) | ((first | apply light_plain rfl | apply light_yes (by rfl)); intro w9 hb9; have hB9 : Below w.heap.size w w9 := (by (repeat' first | with_reducible (first | exact Below.refl _ _ | assumption | refine Below.alloc ?_ ?_ _ | refine below_drewN ?_ _ | refine Below.drew ?_ | refine Below.setCell ?_ ?_ _ | refine Below.trans ?_ (Below.mono (by with_reducible assumption) ?_)) | go_size)); obtain ⟨kc9, kf9, s9⟩ := bfacts hb9; obtain ⟨kd9, kg9, _⟩ := bfacts hB9; go_simp; try rfl)
  case hQ => exact fun _ _ _ h => h
  (try simp only [Act.put, List.setIfInBounds_toArray, List.set_cons_zero, List.set_cons_succ])
  apply trail_light
  case hi => (simp only [List.getElem?_toArray, List.getElem?_cons_zero, List.getElem?_cons_succ]; exact rfl)
  case hl => first | exact light_no (by rfl) | ((first | apply light_plain rfl | apply light_yes (by rfl)); intro w9 hb9; have hB9 : Below w.heap.size w w9 := (by (repeat' first | with_reducible (first | exact Below.refl _ _ | assumption | refine Below.alloc ?_ ?_ _ | refine below_drewN ?_ _ | refine Below.drew ?_ | refine Below.setCell ?_ ?_ _ | refine Below.trans ?_ (Below.mono (by with_reducible assumption) ?_)) | go_size)); obtain ⟨kc9, kf9, s9⟩ := bfacts hb9; obtain ⟨kd9, kg9, _⟩ := bfacts hB9; go_simp; try rfl)
  case hQ => exact fun _ _ _ h => h
  (try simp only [Act.put, List.setIfInBounds_toArray, List.set_cons_zero, List.set_cons_succ])
  apply trail_light
  case hi => (simp only [List.getElem?_toArray, List.getElem?_cons_zero, List.getElem?_cons_succ]; exact rfl)
  case hl => first | exact light_no (by rfl) | ((first | apply light_plain rfl | apply light_yes (by rfl)); intro w9 hb9; have hB9 : Below w.heap.size w w9 := (by (repeat' first | with_reducible (first | exact Below.refl _ _ | assumption | refine Below.alloc ?_ ?_ _ | refine below_drewN ?_ _ | refine Below.drew ?_ | refine Below.setCell ?_ ?_ _ | refine Below.trans ?_ (Below.mono (by with_reducible assumption) ?_)) | go_size)); obtain ⟨kc9, kf9, s9⟩ := bfacts hb9; obtain ⟨kd9, kg9, _⟩ := bfacts hB9; go_simp; try rfl)
  case hQ => exact fun _ _ _ h => h
  (try simp only [Act.put, List.setIfInBounds_toArray, List.set_cons_zero, List.set_cons_succ])
  apply trail_heavy
  case hi => (simp only [List.getElem?_toArray, List.getElem?_cons_zero, List.getElem?_cons_succ]; exact rfl)
  go_wp2_with (first | (go_at_call 65; refine (cloneCode_any f.code _ _ (SL.at_ HC.out (by (repeat' first | with_reducible (first | exact Below.refl _ _ | assumption | refine Below.alloc ?_ ?_ _ | refine below_drewN ?_ _ | refine Below.drew ?_ | refine Below.setCell ?_ ?_ _ | refine Below.trans ?_ (Below.mono (by with_reducible assumption) ?_)) | go_size)) (Nat.le_refl _)) h1).mono ?_; rintro e w1 ⟨v1, rfl, hR1, hF1, hb1⟩; obtain ⟨kc1, kf1, s1⟩ := bfacts hb1; (try simp only [World.size_alloc, World.size_setCell, World.size_drew, World.heap_drewN, Nat.add_one_le_iff] at s1); obtain ⟨A1, c1, rfl, _, _⟩ := SL.form hR1) | (go_at_call 66; refine (cloneBools_any f.secret _ _ (SL.at_ HS.out (by (repeat' first | with_reducible (first | exact Below.refl _ _ | assumption | refine Below.alloc ?_ ?_ _ | refine below_drewN ?_ _ | refine Below.drew ?_ | refine Below.setCell ?_ ?_ _ | refine Below.trans ?_ (Below.mono (by with_reducible assumption) ?_)) | go_size)) (Nat.le_refl _)) h2).mono ?_; rintro e w2 ⟨v2, rfl, hR2, hF2, hb2⟩; obtain ⟨kc2, kf2, s2⟩ := bfacts hb2; (try simp only [World.size_alloc, World.size_setCell, World.size_drew, World.heap_drewN, Nat.add_one_le_iff] at s2); obtain ⟨A2, c2, rfl, _, _⟩ := SL.form hR2) | (go_at_call 67; refine (cloneVars_any f.arrays _ _ (SL.at_ HA.out (by (repeat' first | with_reducible (first | exact Below.refl _ _ | assumption | refine Below.alloc ?_ ?_ _ | refine below_drewN ?_ _ | refine Below.drew ?_ | refine Below.setCell ?_ ?_ _ | refine Below.trans ?_ (Below.mono (by with_reducible assumption) ?_)) | go_size)) (Nat.le_refl _)) h3).mono ?_; rintro e w3 ⟨v3, rfl, hR3, hF3, hb3⟩; obtain ⟨kc3, kf3, s3⟩ := bfacts hb3; (try simp only [World.size_alloc, World.size_setCell, World.size_drew, World.heap_drewN, Nat.add_one_le_iff] at s3); obtain ⟨A3, c3, rfl, _, _⟩ := SL.form hR3; have l1 : w.heap.size + 1 < w1.heap.size := (by omega); have l2 : w.heap.size + 1 < w2.heap.size := (by omega); have l3 : w.heap.size + 1 < w3.heap.size := (by omega)) | fail)
  refine ⟨by (repeat' first | with_reducible (first | exact Below.refl _ _ | assumption | refine Below.alloc ?_ ?_ _ | refine below_drewN ?_ _ | refine Below.drew ?_ | refine Below.setCell ?_ ?_ _ | refine Below.trans ?_ (Below.mono (by with_reducible assumption) ?_)) | go_size), ?_⟩
  apply trail_heavy
  case hi => (simp only [List.getElem?_toArray, List.getElem?_cons_zero, List.getElem?_cons_succ]; exact rfl)
  go_wp2_with (first | (go_at_call 65; refine (cloneCode_any f.code _ _ (SL.at_ HC.out (by (repeat' first | with_reducible (first | exact Below.refl _ _ | assumption | refine Below.alloc ?_ ?_ _ | refine below_drewN ?_ _ | refine Below.drew ?_ | refine Below.setCell ?_ ?_ _ | refine Below.trans ?_ (Below.mono (by with_reducible assumption) ?_)) | go_size)) (Nat.le_refl _)) h1).mono ?_; rintro e w1 ⟨v1, rfl, hR1, hF1, hb1⟩; obtain ⟨kc1, kf1, s1⟩ := bfacts hb1; (try simp only [World.size_alloc, World.size_setCell, World.size_drew, World.heap_drewN, Nat.add_one_le_iff] at s1); obtain ⟨A1, c1, rfl, _, _⟩ := SL.form hR1) | (go_at_call 66; refine (cloneBools_any f.secret _ _ (SL.at_ HS.out (by (repeat' first | with_reducible (first | exact Below.refl _ _ | assumption | refine Below.alloc ?_ ?_ _ | refine below_drewN ?_ _ | refine Below.drew ?_ | refine Below.setCell ?_ ?_ _ | refine Below.trans ?_ (Below.mono (by with_reducible assumption) ?_)) | go_size)) (Nat.le_refl _)) h2).mono ?_; rintro e w2 ⟨v2, rfl, hR2, hF2, hb2⟩; obtain ⟨kc2, kf2, s2⟩ := bfacts hb2; (try simp only [World.size_alloc, World.size_setCell, World.size_drew, World.heap_drewN, Nat.add_one_le_iff] at s2); obtain ⟨A2, c2, rfl, _, _⟩ := SL.form hR2) | (go_at_call 67; refine (cloneVars_any f.arrays _ _ (SL.at_ HA.out (by (repeat' first | with_reducible (first | exact Below.refl _ _ | assumption | refine Below.alloc ?_ ?_ _ | refine below_drewN ?_ _ | refine Below.drew ?_ | refine Below.setCell ?_ ?_ _ | refine Below.trans ?_ (Below.mono (by with_reducible assumption) ?_)) | go_size)) (Nat.le_refl _)) h3).mono ?_; rintro e w3 ⟨v3, rfl, hR3, hF3, hb3⟩; obtain ⟨kc3, kf3, s3⟩ := bfacts hb3; (try simp only [World.size_alloc, World.size_setCell, World.size_drew, World.heap_drewN, Nat.add_one_le_iff] at s3); obtain ⟨A3, c3, rfl, _, _⟩ := SL.form hR3; have l1 : w.heap.size + 1 < w1.heap.size := (by omega); have l2 : w.heap.size + 1 < w2.heap.size := (by omega); have l3 : w.heap.size + 1 < w3.heap.size := (by omega)) | fail)
  refine ⟨by (repeat' first | with_reducible (first | exact Below.refl _ _ | assumption | refine Below.alloc ?_ ?_ _ | refine below_drewN ?_ _ | refine Below.drew ?_ | refine Below.setCell ?_ ?_ _ | refine Below.trans ?_ (Below.mono (by with_reducible assumption) ?_)) | go_size), ?_⟩
  apply trail_heavy
  case hi => (simp only [List.getElem?_toArray, List.getElem?_cons_zero, List.getElem?_cons_succ]; exact rfl)
  go_wp2_with (first | (go_at_call 65; refine (cloneCode_any f.code _ _ (SL.at_ HC.out (by (repeat' first | with_reducible (first | exact Below.refl _ _ | assumption | refine Below.alloc ?_ ?_ _ | refine below_drewN ?_ _ | refine Below.drew ?_ | refine Below.setCell ?_ ?_ _ | refine Below.trans ?_ (Below.mono (by with_reducible assumption) ?_)) | go_size)) (Nat.le_refl _)) h1).mono ?_; rintro e w1 ⟨v1, rfl, hR1, hF1, hb1⟩; obtain ⟨kc1, kf1, s1⟩ := bfacts hb1; (try simp only [World.size_alloc, World.size_setCell, World.size_drew, World.heap_drewN, Nat.add_one_le_iff] at s1); obtain ⟨A1, c1, rfl, _, _⟩ := SL.form hR1) | (go_at_call 66; refine (cloneBools_any f.secret _ _ (SL.at_ HS.out (by (repeat' first | with_reducible (first | exact Below.refl _ _ | assumption | refine Below.alloc ?_ ?_ _ | refine below_drewN ?_ _ | refine Below.drew ?_ | refine Below.setCell ?_ ?_ _ | refine Below.trans ?_ (Below.mono (by with_reducible assumption) ?_)) | go_size)) (Nat.le_refl _)) h2).mono ?_; rintro e w2 ⟨v2, rfl, hR2, hF2, hb2⟩; obtain ⟨kc2, kf2, s2⟩ := bfacts hb2; (try simp only [World.size_alloc, World.size_setCell, World.size_drew, World.heap_drewN, Nat.add_one_le_iff] at s2); obtain ⟨A2, c2, rfl, _, _⟩ := SL.form hR2) | (go_at_call 67; refine (cloneVars_any f.arrays _ _ (SL.at_ HA.out (by (repeat' first | with_reducible (first | exact Below.refl _ _ | assumption | refine Below.alloc ?_ ?_ _ | refine below_drewN ?_ _ | refine Below.drew ?_ | refine Below.setCell ?_ ?_ _ | refine Below.trans ?_ (Below.mono (by with_reducible assumption) ?_)) | go_size)) (Nat.le_refl _)) h3).mono ?_; rintro e w3 ⟨v3, rfl, hR3, hF3, hb3⟩; obtain ⟨kc3, kf3, s3⟩ := bfacts hb3; (try simp only [World.size_alloc, World.size_setCell, World.size_drew, World.heap_drewN, Nat.add_one_le_iff] at s3); obtain ⟨A3, c3, rfl, _, _⟩ := SL.form hR3; have l1 : w.heap.size + 1 < w1.heap.size := (by omega); have l2 : w.heap.size + 1 < w2.heap.size := (by omega); have l3 : w.heap.size + 1 < w3.heap.size := (by omega)) | fail)
  refine ⟨by (repeat' first | with_reducible (first | exact Below.refl _ _ | assumption | refine Below.alloc ?_ ?_ _ | refine below_drewN ?_ _ | refine Below.drew ?_ | refine Below.setCell ?_ ?_ _ | refine Below.trans ?_ (Below.mono (by with_reducible assumption) ?_)) | go_size), ?_⟩
  apply trail_light
  case hi => (simp only [List.getElem?_toArray, List.getElem?_cons_zero, List.getElem?_cons_succ]; exact rfl)
  case hl => first | exact light_no (by rfl) | ((first | apply light_plain rfl | apply light_yes (by rfl)); intro w9 hb9; have hB9 : Below w.heap.size w w9 := (by (repeat' first | with_reducible (first | exact Below.refl _ _ | assumption | refine Below.alloc ?_ ?_ _ | refine below_drewN ?_ _ | refine Below.drew ?_ | refine Below.setCell ?_ ?_ _ | refine Below.trans ?_ (Below.mono (by with_reducible assumption) ?_)) | go_size)); obtain ⟨kc9, kf9, s9⟩ := bfacts hb9; obtain ⟨kd9, kg9, _⟩ := bfacts hB9; go_simp; try rfl)
  case hQ => exact fun _ _ _ h => h
  (try simp only [Act.put, List.setIfInBounds_toArray, List.set_cons_zero, List.set_cons_succ])
  apply trail_heavy
  case hi => (simp only [List.getElem?_toArray, List.getElem?_cons_zero, List.getElem?_cons_succ]; exact rfl)
  go_wp2_with (first | (go_at_call 65; refine (cloneCode_any f.code _ _ (SL.at_ HC.out (by (repeat' first | with_reducible (first | exact Below.refl _ _ | assumption | refine Below.alloc ?_ ?_ _ | refine below_drewN ?_ _ | refine Below.drew ?_ | refine Below.setCell ?_ ?_ _ | refine Below.trans ?_ (Below.mono (by with_reducible assumption) ?_)) | go_size)) (Nat.le_refl _)) h1).mono ?_; rintro e w1 ⟨v1, rfl, hR1, hF1, hb1⟩; obtain ⟨kc1, kf1, s1⟩ := bfacts hb1; (try simp only [World.size_alloc, World.size_setCell, World.size_drew, World.heap_drewN, Nat.add_one_le_iff] at s1); obtain ⟨A1, c1, rfl, _, _⟩ := SL.form hR1) | (go_at_call 66; refine (cloneBools_any f.secret _ _ (SL.at_ HS.out (by (repeat' first | with_reducible (first | exact Below.refl _ _ | assumption | refine Below.alloc ?_ ?_ _ | refine below_drewN ?_ _ | refine Below.drew ?_ | refine Below.setCell ?_ ?_ _ | refine Below.trans ?_ (Below.mono (by with_reducible assumption) ?_)) | go_size)) (Nat.le_refl _)) h2).mono ?_; rintro e w2 ⟨v2, rfl, hR2, hF2, hb2⟩; obtain ⟨kc2, kf2, s2⟩ := bfacts hb2; (try simp only [World.size_alloc, World.size_setCell, World.size_drew, World.heap_drewN, Nat.add_one_le_iff] at s2); obtain ⟨A2, c2, rfl, _, _⟩ := SL.form hR2) | (go_at_call 67; refine (cloneVars_any f.arrays _ _ (SL.at_ HA.out (by (repeat' first | with_reducible (first | exact Below.refl _ _ | assumption | refine Below.alloc ?_ ?_ _ | refine below_drewN ?_ _ | refine Below.drew ?_ | refine Below.setCell ?_ ?_ _ | refine Below.trans ?_ (Below.mono (by with_reducible assumption) ?_)) | go_size)) (Nat.le_refl _)) h3).mono ?_; rintro e w3 ⟨v3, rfl, hR3, hF3, hb3⟩; obtain ⟨kc3, kf3, s3⟩ := bfacts hb3; (try simp only [World.size_alloc, World.size_setCell, World.size_drew, World.heap_drewN, Nat.add_one_le_iff] at s3); obtain ⟨A3, c3, rfl, _, _⟩ := SL.form hR3; have l1 : w.heap.size + 1 < w1.heap.size := (by omega); have l2 : w.heap.size + 1 < w2.heap.size := (by omega); have l3 : w.heap.size + 1 < w3.heap.size := (by omega)) | fail)
  refine ⟨by (repeat' first | with_reducible (first | exact Below.refl _ _ | assumption | refine Below.alloc ?_ ?_ _ | refine below_drewN ?_ _ | refine Below.drew ?_ | refine Below.setCell ?_ ?_ _ | refine Below.trans ?_ (Below.mono (by with_reducible assumption) ?_)) | go_size), ?_⟩
  refine trail_nil ?_
  (try dsimp only)
  have hk1 : ∀ o, w1.cell? ⟨w.heap.size + 1, o, none⟩ = ((w.alloc (.cells #[vc, vs, .int .i64 f.params, va] 26)).alloc (.cells #[.slice none 0 0, .slice none 0 0, .int .i64 0, .slice none 0 0] 26)).cell? ⟨w.heap.size + 1, o, none⟩ := fun o => (kc1 _ _ (by simp)).trans rfl
  have hk : ∀ o, w3.cell? ⟨w.heap.size + 1, o, none⟩ = w1.cell? ⟨w.heap.size + 1, o, none⟩ := fun o => (kc3 _ _ (by omega)).trans (kc2 _ _ (by omega))
  have e0 : w3.cell? ⟨w.heap.size + 1, 0, none⟩ = some (.slice none 0 0) := by rw [hk, hk1]; go_simp
  have e1 : w3.cell? ⟨w.heap.size + 1, 1, none⟩ = some (.slice none 0 0) := by rw [hk, hk1]; go_simp
  have e2 : w3.cell? ⟨w.heap.size + 1, 2, none⟩ = some (.int .i64 0) := by rw [hk, hk1]; go_simp
  have e3 : w3.cell? ⟨w.heap.size + 1, 3, none⟩ = some (.slice none 0 0) := by rw [hk, hk1]; go_simp
  clear hk hk1 kc1 kc2 kc3 kf1 kf2 kf3
  go_wp2
  refine bodyPost_ret (v := .agg #[.slice A1 f.code.length c1, .slice A2 f.secret.length c2, .int .i64 f.params, .slice A3 f.arrays.length c3]) (by simp [results, Try.results33, go_sem, e0, e1, e2, e3]) rfl ?_
  replace hF1 : from_ (w.heap.size + 2) (Value.slice A1 f.code.length c1) := hF1.less (by simp)
  replace hF2 : from_ (w.heap.size + 2) (Value.slice A2 f.secret.length c2) := hF2.less (by omega)
  replace hF3 : from_ (w.heap.size + 2) (Value.slice A3 f.arrays.length c3) := hF3.less (by omega)
  have r1 : RCode w3 w3.heap.size (Value.slice A1 f.code.length c1) f.code := SL.at_ hR1 (by (repeat' first | with_reducible (first | exact Below.refl _ _ | assumption | refine Below.alloc ?_ ?_ _ | refine below_drewN ?_ _ | refine Below.drew ?_ | refine Below.setCell ?_ ?_ _ | refine Below.trans ?_ (Below.mono (by with_reducible assumption) ?_)) | go_size)) (Nat.le_refl _)
  have r2 : RBools w3 w3.heap.size (Value.slice A2 f.secret.length c2) f.secret := SL.at_ hR2 (by (repeat' first | with_reducible (first | exact Below.refl _ _ | assumption | refine Below.alloc ?_ ?_ _ | refine below_drewN ?_ _ | refine Below.drew ?_ | refine Below.setCell ?_ ?_ _ | refine Below.trans ?_ (Below.mono (by with_reducible assumption) ?_)) | go_size)) (Nat.le_refl _)
  have hsz : ((((w3.setCell ⟨w.heap.size + 1, 0, none⟩ (Value.slice A1 f.code.length c1)).setCell ⟨w.heap.size + 1, 1, none⟩ (Value.slice A2 f.secret.length c2)).setCell ⟨w.heap.size + 1, 2, none⟩ (Value.int .i64 f.params)).setCell ⟨w.heap.size + 1, 3, none⟩ (Value.slice A3 f.arrays.length c3)).heap.size = w3.heap.size := by simp
  refine ⟨_, rfl, ⟨_, _, _, rfl, ?_, ?_, ?_⟩, by (repeat' first | with_reducible (first | exact Below.refl _ _ | assumption | refine Below.alloc ?_ ?_ _ | refine below_drewN ?_ _ | refine Below.drew ?_ | refine Below.setCell ?_ ?_ _ | refine Below.trans ?_ (Below.mono (by with_reducible assumption) ?_)) | go_size)⟩
  · rw [hsz]; exact (((SL.aside r1 hF1 _ _ _ (by omega)).aside hF1 _ _ _ (by omega)).aside hF1 _ _ _ (by omega)).aside hF1 _ _ _ (by omega)
  · rw [hsz]; exact (((SL.aside r2 hF2 _ _ _ (by omega)).aside hF2 _ _ _ (by omega)).aside hF2 _ _ _ (by omega)).aside hF2 _ _ _ (by omega)
  · rw [hsz]; exact (((SL.aside hR3 hF3 _ _ _ (by omega)).aside hF3 _ _ _ (by omega)).aside hF3 _ _ _ (by omega)).aside hF3 _ _ _ (by omega)
end Go.Proofs.Ytljcgcllhcdleaa
