import Derived.Test.YtpbflgemhcaooaaDoorPt8
import Derived.Test.YtpbflgemhcaooaaDoorPt12
import Derived.Test.YtpbflgemhcaooaaDoorPt19
import Derived.Test.YtpbflgemhcaooaaDoorPt20
import Derived.Deep.QuietTactic
import Derived.Test.YtpbflgemhcaooaaDoorPt17
import Derived.Test.YtpbflgemhcaooaaDoorPt18
/- The reference's comparisons. -/
namespace Go.Proofs.YtpbflgemhcaooaaDoor
open Go.RowKit
set_option linter.unusedSimpArgs false
set_option linter.unusedVariables false
theorem take_snoc_same {α : Type} {l m : List α} {j : Nat} {x y : α} (h : l.take j = m.take j) (hx : l[j]? = some x) (hy : m[j]? = some y) (e : x = y) : l.take (j + 1) = m.take (j + 1) := by
  rw [List.take_add_one, List.take_add_one, h, hx, hy, e]
set_option maxRecDepth 4000 in
set_option maxHeartbeats 1600000 in
theorem sameInts_any (l m : List Int) (u v : Value) (w : World) {B : Nat} (hl : RInts w B u l) (hm : RInts w B v m) :
    Calls Tryd.prog 45 #[u, v] w fun e w' => e = .returned (.bool (decide (l = m))) ∧ ∃ n, w' = w.drewN n := by
  have HL := Lib.hid hl
  have HM := Lib.hid hm
  obtain ⟨A, c, rfl, hc1, hc2⟩ := SL.form hl
  obtain ⟨A', c', rfl, hd1, hd2⟩ := SL.form hm
  unfold maxLen at hc2 hd2
  clear hl hm
  go_enter Tryd.func45, Tryd.ntmps45
  by_cases hlen : l.length = m.length
  case neg =>
    go_wp2
    go_ret
    refine ⟨?_, by (first | exact ⟨0, rfl⟩ | exact ⟨_, rfl⟩ | (simp only [World.drewN_drewN, World.drew_is_drewN]; exact ⟨_, rfl⟩))⟩
    have : l ≠ m := fun e => hlen (by rw [e])
    simp [this]
  case pos =>
  go_wp2_with fail
  have hlen1 : m.length ≤ l.length := by omega
  have hlen2 : l.length ≤ m.length := by omega
  clear hlen
  go_loopw [13] (fun z wr => ∃ j : Nat, j ≤ l.length ∧ z = .int .i64 j ∧ Hid (l.take j = m.take j) ∧ ∃ n, wr = w.drewN n) (fun z _ => l.length - (intOf z).toNat)
  case atStart => exact ⟨0, by omega, rfl, by simp [Hid], by (first | exact ⟨0, rfl⟩ | exact ⟨_, rfl⟩ | (simp only [World.drewN_drewN, World.drew_is_drewN]; exact ⟨_, rfl⟩))⟩
  case round =>
    obtain ⟨j, hj, rfl, HT, nw, rfl⟩ := hrel
    by_cases hlt : j < l.length
    · obtain ⟨x, hx⟩ : ∃ x, l[j]? = some x := ⟨l[j], List.getElem?_eq_getElem hlt⟩
      obtain ⟨y, hy⟩ : ∃ y, m[j]? = some y := ⟨m[j]'(by omega), List.getElem?_eq_getElem _⟩
      obtain ⟨b1, o1, r1, hv, hb1, _, _, _, p1⟩ := RInts.at_ HL.out hx
      injection hv with hA _ hcr
      subst hA hcr
      obtain ⟨b2, o2, r2, hv, hb2, _, _, _, p2⟩ := RInts.at_ HM.out hy
      injection hv with hA _ hcr
      subst hA hcr
      have HX := Lib.hid hx
      have HY := Lib.hid hy
      clear hx hy
      by_cases hxy : x = y
      · have hs := Lib.hid (take_snoc_same HT.out HX.out HY.out hxy)
        subst hxy
        go_wp2_with fail
        go_quiet (fail)
        go_wp2_with fail
        go_roundw
        case rel => exact ⟨j + 1, by omega, by go_num, hs, by (first | exact ⟨0, rfl⟩ | exact ⟨_, rfl⟩ | (simp only [World.drewN_drewN, World.drew_is_drewN]; exact ⟨_, rfl⟩))⟩
        case measure => simp [intOf]; omega
      · have g1 : (x != y) = true := by simpa using hxy
        go_wp2_with fail
        go_quiet (fail)
        go_wp2
        go_ret
        refine ⟨?_, by (first | exact ⟨0, rfl⟩ | exact ⟨_, rfl⟩ | (simp only [World.drewN_drewN, World.drew_is_drewN]; exact ⟨_, rfl⟩))⟩
        have : l ≠ m := fun e => hxy (by have h1 := HX.out; have h2 := HY.out; rw [e] at h1; rw [h1] at h2; exact Option.some.inj h2)
        simp [this]
    · go_wp2
      go_ret
      refine ⟨?_, by (first | exact ⟨0, rfl⟩ | exact ⟨_, rfl⟩ | (simp only [World.drewN_drewN, World.drew_is_drewN]; exact ⟨_, rfl⟩))⟩
      have h := HT.out
      rw [List.take_of_length_le (by omega), List.take_of_length_le (by omega)] at h
      simp [h]
theorem sameInts_is (l m : List Int) (u v : Value) (w : World) {B : Nat} (hl : RInts w B u l) (hm : RInts w B v m) (b : Bool) (h : decide (l = m) = b) :
    Calls Tryd.prog 45 #[u, v] w fun e w' => e = .returned (.bool b) ∧ ∃ n, w' = w.drewN n := by
  subst h
  exact sameInts_any l m u v w hl hm
set_option maxRecDepth 4000 in
set_option maxHeartbeats 1600000 in
theorem sameArrays_any (l m : List (List Int)) (u v : Value) (w : World) {B : Nat} (hl : RLists w B u l) (hm : RLists w B v m) :
    Calls Tryd.prog 40 #[u, v] w fun e w' => e = .returned (.bool (decide (l = m))) ∧ ∃ n, w' = w.drewN n := by
  obtain ⟨us, hul, hus, hue⟩ := hl
  obtain ⟨vs, hvl, hvs, hve⟩ := hm
  have HUS := Lib.hid hus
  have HVS := Lib.hid hvs
  have HUL := Lib.hid hul
  have HVL := Lib.hid hvl
  have HU := Lib.hid hue
  have HV := Lib.hid hve
  obtain ⟨A, c, rfl, hc1, hc2⟩ := SL.form hus
  obtain ⟨A', c', rfl, hd1, hd2⟩ := SL.form hvs
  unfold maxLen at hc2 hd2
  clear hus hvs hue hve hul hvl
  go_enter Tryd.func40, Tryd.ntmps40
  by_cases hlen : l.length = m.length
  case neg =>
    go_wp2
    go_ret
    refine ⟨?_, by (first | exact ⟨0, rfl⟩ | exact ⟨_, rfl⟩ | (simp only [World.drewN_drewN, World.drew_is_drewN]; exact ⟨_, rfl⟩))⟩
    have : l ≠ m := fun e => hlen (by rw [e])
    simp [this]
  case pos =>
  go_wp2_with fail
  have hlen1 : m.length ≤ l.length := by omega
  have hlen2 : l.length ≤ m.length := by omega
  clear hlen
  go_loopw [13] (fun z wr => ∃ j : Nat, j ≤ l.length ∧ z = .int .i64 j ∧ Hid (l.take j = m.take j) ∧ ∃ n, wr = w.drewN n) (fun z _ => l.length - (intOf z).toNat)
  case atStart => exact ⟨0, by omega, rfl, by simp [Hid], by (first | exact ⟨0, rfl⟩ | exact ⟨_, rfl⟩ | (simp only [World.drewN_drewN, World.drew_is_drewN]; exact ⟨_, rfl⟩))⟩
  case round =>
    obtain ⟨j, hj, rfl, HT, nw, rfl⟩ := hrel
    by_cases hlt : j < l.length
    · obtain ⟨x, hx⟩ : ∃ x, l[j]? = some x := ⟨l[j], List.getElem?_eq_getElem hlt⟩
      obtain ⟨y, hy⟩ : ∃ y, m[j]? = some y := ⟨m[j]'(by omega), List.getElem?_eq_getElem _⟩
      obtain ⟨a, ha⟩ : ∃ a, us[j]? = some a := ⟨us[j]'(by rw [HUL.out]; exact hlt), List.getElem?_eq_getElem _⟩
      obtain ⟨b, hb⟩ : ∃ b, vs[j]? = some b := ⟨vs[j]'(by rw [HVL.out]; omega), List.getElem?_eq_getElem _⟩
      obtain ⟨b1, o1, r1, hv, hb1, _, _, p1⟩ := SL.row HUS.out (by omega)
      injection hv with hA _ hcr
      subst hA hcr
      obtain ⟨b2, o2, r2, hv, hb2, _, _, p2⟩ := SL.row HVS.out (by omega)
      injection hv with hA _ hcr
      subst hA hcr
      have q1 := p1 j a ha
      have q2 := p2 j b hb
      have RA := Lib.hid (HU.out j a x ha hx)
      have RB := Lib.hid (HV.out j b y hb hy)
      obtain ⟨A1, c1, rfl, _, _⟩ := SL.form RA.out
      obtain ⟨A2, c2, rfl, _, _⟩ := SL.form RB.out
      have HX := Lib.hid hx
      have HY := Lib.hid hy
      clear hx hy ha hb p1 p2
      by_cases hxy : x = y
      · have hs := Lib.hid (take_snoc_same HT.out HX.out HY.out hxy)
        have g1 : decide (x = y) = true := by simpa using hxy
        clear hxy
        go_wp2_with fail
        go_quiet ((go_at_call 45; first | exact Calls.quiet_of (sameInts_is x y _ _ (w.drewN _) (SL.dr _ RA.out) (SL.dr _ RB.out) _ g1) | exact quiet_at (sameInts_is x y _ _ (w.drewN _) (SL.dr _ RA.out) (SL.dr _ RB.out) _ g1)))
        go_wp2_with fail
        go_roundw
        case rel => exact ⟨j + 1, by omega, by go_num, hs, by (first | exact ⟨0, rfl⟩ | exact ⟨_, rfl⟩ | (simp only [World.drewN_drewN, World.drew_is_drewN]; exact ⟨_, rfl⟩))⟩
        case measure => simp [intOf]; omega
      · have g1 : decide (x = y) = false := by simpa using hxy
        have HXY := Lib.hid hxy
        clear hxy
        go_wp2_with fail
        go_quiet ((go_at_call 45; first | exact Calls.quiet_of (sameInts_is x y _ _ (w.drewN _) (SL.dr _ RA.out) (SL.dr _ RB.out) _ g1) | exact quiet_at (sameInts_is x y _ _ (w.drewN _) (SL.dr _ RA.out) (SL.dr _ RB.out) _ g1)))
        go_wp2
        go_ret
        refine ⟨?_, by (first | exact ⟨0, rfl⟩ | exact ⟨_, rfl⟩ | (simp only [World.drewN_drewN, World.drew_is_drewN]; exact ⟨_, rfl⟩))⟩
        have : l ≠ m := fun e => HXY.out (by have h1 := HX.out; have h2 := HY.out; rw [e] at h1; rw [h1] at h2; exact Option.some.inj h2)
        simp [this]
    · go_wp2
      go_ret
      refine ⟨?_, by (first | exact ⟨0, rfl⟩ | exact ⟨_, rfl⟩ | (simp only [World.drewN_drewN, World.drew_is_drewN]; exact ⟨_, rfl⟩))⟩
      have h := HT.out
      rw [List.take_of_length_le (by omega), List.take_of_length_le (by omega)] at h
      simp [h]
end Go.Proofs.YtpbflgemhcaooaaDoor
/- The reference: two ends that read alike. -/
namespace Go.Proofs.YtpbflgemhcaooaaDoor
open Go.RowKit
set_option linter.unusedSimpArgs false
set_option linter.unusedVariables false
set_option maxRecDepth 4000 in
set_option maxHeartbeats 1600000 in
theorem sameEnded_is (x : Ev.Ended) (va vb : Value) (w : World) (ha : RLists w w.heap.size va x.arrays) (hb : RLists w w.heap.size vb x.arrays) :
    Calls Tryd.prog 27 #[.agg #[.int .i64 x.word, .bool x.trap, va], .agg #[.int .i64 x.word, .bool x.trap, vb]] w fun e w' => e = .returned (.bool true) ∧ Below w.heap.size w w' := by
  obtain ⟨x1, x2, x3⟩ := x
  dsimp only at ha hb ⊢
  have HA := Lib.hid ha
  have HB := Lib.hid hb
  obtain ⟨us, hul, hus, hue⟩ := ha
  obtain ⟨vs, hvl, hvs, hve⟩ := hb
  obtain ⟨A, c, rfl, hq1, hq2⟩ := SL.form hus
  obtain ⟨A', c', rfl, hq3, hq4⟩ := SL.form hvs
  clear hus hvs hul hvl hue hve
  have CS := Lib.hid (fun u (hu : Below w.heap.size w u) => (by
    have h := quiet_below (sameArrays_any x3 x3 _ _ u (HA.out.at_ hu (Nat.le_refl _)) (HB.out.at_ hu (Nat.le_refl _)))
    rw [decide_eq_true rfl] at h
    exact h : Calls Tryd.prog 40 #[.slice A x3.length c, .slice A' x3.length c'] u fun e w' => e = .returned (.bool true) ∧ Below u.heap.size u w'))
  go_enter Tryd.func27, Tryd.ntmps27
  go_wp2_with (go_at_call 40; refine (CS.out _ (by (repeat' first | with_reducible (first | exact Below.refl _ _ | assumption | refine Below.alloc ?_ ?_ _ | refine below_drewN ?_ _ | refine Below.drew ?_ | refine Below.setCell ?_ ?_ _ | refine Below.trans ?_ (Below.mono (by with_reducible assumption) ?_)) | go_size))).mono ?_; rintro _ w5 ⟨rfl, hb5⟩)
  go_ret
  exact ⟨rfl, by (repeat' first | with_reducible (first | exact Below.refl _ _ | assumption | refine Below.alloc ?_ ?_ _ | refine below_drewN ?_ _ | refine Below.drew ?_ | refine Below.setCell ?_ ?_ _ | refine Below.trans ?_ (Below.mono (by with_reducible assumption) ?_)) | go_size)⟩
end Go.Proofs.YtpbflgemhcaooaaDoor
/- A program in memory, onward. -/
namespace Go.Proofs.YtpbflgemhcaooaaDoor
open Go.RowKit
set_option linter.unusedVariables false
theorem RFn.loose5 {w : World} {K : Nat → Prop} {v1 v2 v3 : Value} {f : Ev.Fn1} (h : RFn w K v1 v2 v3 f) (hk : ∀ k, K k → k < w.heap.size) : RFn w (fun k => k < w.heap.size) v1 v2 v3 f :=
  ⟨h.1, h.2.1, RStL.wide hk 10 _ _ h.2.2.1, fun a n c e => hk _ (h.2.2.2.1 a n c e), fun a n c e => hk _ (h.2.2.2.2 a n c e)⟩
theorem RFn.on5 {w w' : World} {v1 v2 v3 : Value} {f : Ev.Fn1} (h : RFn w (fun k => k < w.heap.size) v1 v2 v3 f) (hb : Below w.heap.size w w') : RFn w' (fun k => k < w'.heap.size) v1 v2 v3 f :=
  ⟨h.1.on hb, h.2.1.on hb, RStL.wide (fun k hk => Nat.lt_of_lt_of_le hk hb.size) 10 _ _ (RStL.keep hb.size (fun k _ hk => hb.block k hk) _ _ _ h.2.2.1), fun a n c e => Nat.lt_of_lt_of_le (h.2.2.2.1 a n c e) hb.size, fun a n c e => Nat.lt_of_lt_of_le (h.2.2.2.2 a n c e) hb.size⟩
end Go.Proofs.YtpbflgemhcaooaaDoor
/- The document's reader: one statement more on a list (a closure): the walk. -/
namespace Go.Proofs.YtpbflgemhcaooaaDoor
open Go.RowKit
set_option linter.unusedSimpArgs false
set_option linter.unusedVariables false
def zero7 : List Value := [.int .i64 0, .int .i64 0, .string ⟨#[]⟩, .bool false, .slice none 0 0, .slice none 0 0, .slice none 0 0]
theorem zero7_one : ∀ u ∈ zero7, u.oneCell' = true := fun x hx => by
  simp [zero7] at hx
  rcases hx with rfl | rfl | rfl | rfl | rfl | rfl | rfl <;> rfl
theorem set_two {w : World} {lb g o : Nat} {T : TypeId} {old v : Value} {cells : List Value} (hl : w.heap[lb]? = some (.cells #[old] T (0, 0))) (hne : g ≠ lb) :
    (((w.setCells g o cells).setCell ⟨lb, 0, none⟩ v).os = w.os ∧ ((w.setCells g o cells).setCell ⟨lb, 0, none⟩ v).tape = w.tape ∧ ((w.setCells g o cells).setCell ⟨lb, 0, none⟩ v).output = w.output) ∧
    ((w.setCells g o cells).setCell ⟨lb, 0, none⟩ v).heap.size = w.heap.size ∧ ((w.setCells g o cells).setCell ⟨lb, 0, none⟩ v).heap[lb]? = some (.cells #[v] T (0, 0)) ∧
    (∀ k, k ≠ lb → k ≠ g → ((w.setCells g o cells).setCell ⟨lb, 0, none⟩ v).heap[k]? = w.heap[k]?) := by
  have h := setCells_other (b := g) cells o w
  have hll := (Array.getElem?_eq_some_iff.1 hl).1
  refine ⟨⟨h.os, h.tape, h.output⟩, by simp [setCells_size], ?_, fun k h1 h2 => ?_⟩
  · rw [heap_setCell_same _ lb 0 _ _ v ((h.block lb hll (fun e => hne e.symm)).trans hl)]
    rfl
  · rw [Below.heap_setCell _ ⟨lb, 0, none⟩ v k h1]
    by_cases hk : k < w.heap.size
    · exact h.block k hk h2
    · rw [Array.getElem?_eq_none (by rw [setCells_size]; omega), Array.getElem?_eq_none (by omega)]
theorem set_two' {w : World} {lb g o : Nat} {T : TypeId} {old v : Value} {cells : List Value} (hl : w.heap[lb]? = some (.cells #[old] T (0, 0))) (hne : g ≠ lb) :
    (((w.setCell ⟨lb, 0, none⟩ v).setCells g o cells).os = w.os ∧ ((w.setCell ⟨lb, 0, none⟩ v).setCells g o cells).tape = w.tape ∧ ((w.setCell ⟨lb, 0, none⟩ v).setCells g o cells).output = w.output) ∧
    ((w.setCell ⟨lb, 0, none⟩ v).setCells g o cells).heap.size = w.heap.size ∧ ((w.setCell ⟨lb, 0, none⟩ v).setCells g o cells).heap[lb]? = some (.cells #[v] T (0, 0)) ∧
    (∀ k, k ≠ lb → k ≠ g → ((w.setCell ⟨lb, 0, none⟩ v).setCells g o cells).heap[k]? = w.heap[k]?) := by
  have h := setCells_other (b := g) cells o (w.setCell ⟨lb, 0, none⟩ v)
  have hll := (Array.getElem?_eq_some_iff.1 hl).1
  have h2 := heap_setCell_same w lb 0 _ _ v hl
  refine ⟨⟨h.os, h.tape, h.output⟩, by simp [setCells_size], ?_, fun k h3 h4 => ?_⟩
  · rw [h.block lb (by simpa using hll) (fun e => hne e.symm), h2]
    rfl
  · by_cases hk : k < w.heap.size
    · rw [h.block k (by simpa using hk) h4, Below.heap_setCell w ⟨lb, 0, none⟩ v k h3]
    · rw [Array.getElem?_eq_none (by rw [setCells_size]; simp; omega), Array.getElem?_eq_none (by omega)]
theorem own_form {w : World} {lo s n : Nat} {T : TypeId} {v : Value} {xs : List Value} (h : w.ownsRow lo T s v (n + 1) xs) : ∃ g c, v = .slice (some ⟨g, 0, none⟩) (n + 1) c := by
  rcases h.2 with ⟨_, h⟩ | ⟨g, cap, cur, e, _⟩
  · omega
  · exact ⟨g, cap, e⟩
theorem cell_same {w w' : World} {b o : Nat} (h : w'.heap[b]? = w.heap[b]?) : w'.cell? ⟨b, o, none⟩ = w.cell? ⟨b, o, none⟩ := by
  unfold World.cell?
  dsimp only
  rw [h]
theorem free_same {w : World} {b j : Nat} {cs : Array Value} {T : TypeId} (h : w.heap[b]? = some (.cells cs T (0, 0))) : w.frozen? ⟨b, j, none⟩ = false := by
  unfold World.frozen?
  rw [h]
  simp
def treeT : Tr := .light 1 (.light 2 (.any [0, 3, 5] fun i => match i with
  | 0 => .light 4 (.any [3, 5] fun i => match i with
    | 3 => .any [5] fun _ => .nil
    | _ => .any [3] fun _ => .nil)
  | 3 => .any [0, 5] fun i => match i with
    | 0 => .light 4 (.any [5] fun _ => .nil)
    | _ => .any [0] fun _ => .light 4 .nil
  | _ => .any [0, 3] fun i => match i with
    | 0 => .light 4 (.any [3] fun _ => .nil)
    | _ => .any [0] fun _ => .light 4 .nil))
def tailT : Tr := .any [6] fun _ => .light 7 (.any [8, 9] fun i => match i with | 8 => .any [9] fun _ => .nil | _ => .any [8] fun _ => .nil)
theorem leaf_at {P : Program} {ops : Array Oper} {Q : Exit → Act → World → Prop} {S : World → Prop} {T : Act → World → Prop} {a : Act} {w : World} (h : T a w) : branch P ops (onNormal T Q) S .nil a w := h
set_option maxRecDepth 6000 in
set_option maxHeartbeats 12800000 in
theorem stmts1_any (B : SB) (hd : B.d ≤ 9) (ih : StDoes B.d) (u0 : World) (va : Value) (l : List Ev.St1) (q : Ev.PS) (hS0 : SI B u0 va l) (hA0 : PAt u0 B.b q) (hq : q.s.length ≤ 1200) (hv0 : VarsP B.b u0) (hl : l.length ≤ 1200) :
    Calls Tryd.prog 87 #[.pointer (some ⟨B.lb, 0, none⟩), .pointer (some ⟨B.pb, 0, none⟩), .pointer (some ⟨B.dk, 0, none⟩)] u0 fun e u' => e = .returned (.tuple #[]) ∧ (∃ va', SI B u' va' (l ++ [(Ev.stmtW B.d q).1])) ∧ PAt u' B.b (Ev.stmtW B.d q).2 := by
  obtain ⟨t, ht⟩ : ∃ t, (Ev.stmtW B.d q).1 = t := ⟨_, rfl⟩
  obtain ⟨q1, hq1⟩ : ∃ q1, (Ev.stmtW B.d q).2 = q1 := ⟨_, rfl⟩
  have CI := Lib.hid (fun u hu hw => ih q B.b u hu hq hw)
  rw [ht, hq1] at CI ⊢
  simp only [stV] at CI
  clear ht hq1 ih
  have HS0 := Lib.hid hS0
  have HA0 := Lib.hid hA0
  have HV0 := Lib.hid hv0
  clear hS0 hA0 hv0
  go_enter Tryd.func87, Tryd.ntmps87
  go_upto_region 0 with fail
  have HF0 : PFr B.b u0 u0.drew := PFr.of ((Below.refl _ _).drew)
  have HS := Lib.hid (HS0.out.move HF0)
  have HA := Lib.hid (show PAt u0.drew B.b q from HA0.out)
  have HV := Lib.hid (HV0.out.to HF0)
  clear HF0 HS0 HA0 HV0
  obtain ⟨u, hu⟩ : ∃ u, u0.drew = u := ⟨_, rfl⟩
  rw [hu] at HS HA HV
  have HU := Lib.hid hu
  clear hu
  obtain ⟨vs, hv1, hv2, hv3⟩ := HS.out.row
  obtain ⟨A, cc, rfl, hc1, hc2⟩ := SL.form (SL.of_own hv2)
  have HV1 := Lib.hid hv1
  have HV2 := Lib.hid hv2
  have HV3 := Lib.hid hv3
  clear hv1 hv2 hv3
  obtain ⟨i1, hi1, hz0, hz1, hz2⟩ := info_parts Tryd.stmtInfo
  have IC := Lib.hid (⟨hi1, hz0, hz1, hz2⟩ : _ ∧ _ ∧ _ ∧ _)
  clear hi1 hz0 hz1 hz2
  have hb0 := B.hb
  have h1 := B.h1
  have h2 := B.h2
  have h3 := B.h3
  have zl := (Array.getElem?_eq_some_iff.1 HS.out.rl).1
  have zp := (Array.getElem?_eq_some_iff.1 HS.out.rp).1
  have zd := (Array.getElem?_eq_some_iff.1 HS.out.rd).1
  have hw0 := HS.out.fr.size
  refine wp_region_graft (fun w' => w'.cell? ⟨B.pb, 0, none⟩ = some (.pointer (some ⟨B.b, 0, none⟩)) ∧ w'.cell? ⟨B.dk, 0, none⟩ = some (.int .i64 (9 - (B.d : Int))))
    (fun a Z => ∃ g x, a = ⟨#[.pointer (some ⟨B.lb, 0, none⟩), .pointer (some ⟨B.pb, 0, none⟩), .pointer (some ⟨B.dk, 0, none⟩), .slice A l.length cc, .pointer (some ⟨B.b, 0, none⟩), .int .i64 (9 - (B.d : Int)), .agg #[.int .i64 t.kind, .int .i64 t.n, .string ⟨t.name.toArray⟩, .bool t.secret, x.1, x.2.1, x.2.2], .int .i64 (l.length : Int), .slice (some ⟨g, 0, none⟩) 1 1, undef, undef], []⟩ ∧ PFr B.b u Z ∧ PAt Z B.b q1 ∧ u.heap.size ≤ g ∧ Z.heap[g]? = some (.cells zero7.toArray 109 (0, 0)) ∧ RParts B.d Z (fun k => u.heap.size ≤ k ∧ k < Z.heap.size ∧ k ≠ g) t x)
    treeT tailT (by kernel_rfl) (by kernel_rfl) (by kernel_rfl) (by kernel_rfl) (by rw [HU.out]; exact ⟨(cell_of_block HS.out.rp 0).trans rfl, (cell_of_block HS.out.rd 0).trans rfl⟩) ?_ ?_
  ·
    rw [HU.out]
    obtain ⟨X, hX⟩ : ∃ X, X = u.alloc (.cells #[.int .i64 0, .int .i64 0, .string ⟨#[]⟩, .bool false, .slice none 0 0, .slice none 0 0, .slice none 0 0] 109) := ⟨_, rfl⟩
    have hXe : u.alloc (.cells #[.int .i64 0, .int .i64 0, .string ⟨#[]⟩, .bool false, .slice none 0 0, .slice none 0 0, .slice none 0 0] 109) = X := hX.symm
    have BX : Below u.heap.size u X := by rw [hX]; exact (Below.refl _ _).alloc (Nat.le_refl _) _
    have gX : X.heap[u.heap.size]? = some (.cells zero7.toArray 109 (0, 0)) := by rw [hX]; exact heap_alloc_new _ _
    have sX : X.heap.size = u.heap.size + 1 := by rw [hX]; simp
    have LCB : ∀ Y x, RParts B.d Y (fun k => u.heap.size ≤ k ∧ k < Y.heap.size) t x → PAt Y B.b q1 → PFr B.b u Y → PFr B.b u (Y.alloc (.cells #[.int .i64 0, .int .i64 0, .string ⟨#[]⟩, .bool false, .slice none 0 0, .slice none 0 0, .slice none 0 0] 109)) ∧ PAt (Y.alloc (.cells #[.int .i64 0, .int .i64 0, .string ⟨#[]⟩, .bool false, .slice none 0 0, .slice none 0 0, .slice none 0 0] 109)) B.b q1 ∧ u.heap.size ≤ Y.heap.size ∧ (Y.alloc (.cells #[.int .i64 0, .int .i64 0, .string ⟨#[]⟩, .bool false, .slice none 0 0, .slice none 0 0, .slice none 0 0] 109)).heap[Y.heap.size]? = some (.cells zero7.toArray 109 (0, 0)) ∧ RParts B.d (Y.alloc (.cells #[.int .i64 0, .int .i64 0, .string ⟨#[]⟩, .bool false, .slice none 0 0, .slice none 0 0, .slice none 0 0] 109)) (fun k => u.heap.size ≤ k ∧ k < (Y.alloc (.cells #[.int .i64 0, .int .i64 0, .string ⟨#[]⟩, .bool false, .slice none 0 0, .slice none 0 0, .slice none 0 0] 109)).heap.size ∧ k ≠ Y.heap.size) t x := fun Y x hx hA hF => by
      have hb : Below Y.heap.size Y (Y.alloc (.cells #[.int .i64 0, .int .i64 0, .string ⟨#[]⟩, .bool false, .slice none 0 0, .slice none 0 0, .slice none 0 0] 109)) := (Below.refl _ _).alloc (Nat.le_refl _) _
      exact ⟨hF.on hb, hA.stays hb, hF.size, heap_alloc_new _ _, (hx.keep hb.size (fun k hk hkl => hb.block k hkl)).wide (fun k hk => ⟨hk.1, Nat.lt_of_lt_of_le hk.2 hb.size, by omega⟩)⟩
    have LBC : ∀ Y x, RParts B.d Y (fun k => X.heap.size ≤ k ∧ k < Y.heap.size) t x → PAt Y B.b q1 → PFr B.b X Y → PFr B.b u Y ∧ PAt Y B.b q1 ∧ u.heap.size ≤ u.heap.size ∧ Y.heap[u.heap.size]? = some (.cells zero7.toArray 109 (0, 0)) ∧ RParts B.d Y (fun k => u.heap.size ≤ k ∧ k < Y.heap.size ∧ k ≠ u.heap.size) t x := fun Y x hx hA hF =>
      ⟨(PFr.of BX).trans hF, hA, Nat.le_refl _, (hF.block u.heap.size (by omega) (by omega)).trans gX, hx.wide (fun k hk => ⟨by omega, hk.2, by omega⟩)⟩
    have M_u := HS
    have M_X := Lib.hid (HS.out.move (PFr.of BX))
    have Q_u : PAt u B.b q ∧ VarsP B.b u := ⟨HA.out, HV.out⟩
    have Q_X : PAt X B.b q ∧ VarsP B.b X := ⟨HA.out.stays BX, HV.out.to (PFr.of BX)⟩
    have rp_u : u.cell? ⟨B.pb, 0, none⟩ = some (.pointer (some ⟨B.b, 0, none⟩)) := (cell_of_block HS.out.rp 0).trans rfl
    have rd_u : u.cell? ⟨B.dk, 0, none⟩ = some (.int .i64 (9 - (B.d : Int))) := (cell_of_block HS.out.rd 0).trans rfl
    have rl_u : u.cell? ⟨B.lb, 0, none⟩ = some (.slice A l.length cc) := (cell_of_block HS.out.rl 0).trans rfl
    have rp_X : X.cell? ⟨B.pb, 0, none⟩ = some (.pointer (some ⟨B.b, 0, none⟩)) := (cell_of_block M_X.out.rp 0).trans rfl
    have rd_X : X.cell? ⟨B.dk, 0, none⟩ = some (.int .i64 (9 - (B.d : Int))) := (cell_of_block M_X.out.rd 0).trans rfl
    have rl_X : X.cell? ⟨B.lb, 0, none⟩ = some (.slice A l.length cc) := (cell_of_block M_X.out.rl 0).trans rfl
    have LCBh := Lib.hid LCB
    have LBCh := Lib.hid LBC
    have QuH := Lib.hid Q_u
    have QXH := Lib.hid Q_X
    have HXE := Lib.hid hXe
    clear LCB LBC Q_u Q_X hX hXe BX gX sX HV1 HV2 HV3 IC
    have gm : ((9223372036854775807 : Int) < (l.length : Int)) = False := eq_false (by omega)
    unfold treeT
    apply branch_light
    case hi => (simp only [List.getElem?_toArray, List.getElem?_cons_zero, List.getElem?_cons_succ]; exact rfl)
    case hl => first | exact light_no (by rfl) | ((first | apply light_plain rfl | apply light_yes (by rfl)); intro w9 hS9; obtain ⟨h91, h92⟩ := hS9; first | (go_simp; done) | (go_simp; try rfl))
    case hQ => exact fun _ _ _ h => h
    (try simp only [Act.put, List.setIfInBounds_toArray, List.set_cons_zero, List.set_cons_succ])
    apply branch_light
    case hi => (simp only [List.getElem?_toArray, List.getElem?_cons_zero, List.getElem?_cons_succ]; exact rfl)
    case hl => first | exact light_no (by rfl) | ((first | apply light_plain rfl | apply light_yes (by rfl)); intro w9 hS9; obtain ⟨h91, h92⟩ := hS9; first | (go_simp; done) | (go_simp; try rfl))
    case hQ => exact fun _ _ _ h => h
    (try simp only [Act.put, List.setIfInBounds_toArray, List.set_cons_zero, List.set_cons_succ])
    apply branch_more
    case hi => (simp only [List.getElem?_toArray, List.getElem?_cons_zero, List.getElem?_cons_succ]; exact rfl)
    case h =>
      go_wp2_with fail
      refine ⟨⟨rp_u, rd_u⟩, ?_⟩
      (try simp only [Act.put, List.setIfInBounds_toArray, List.set_cons_zero, List.set_cons_succ])
      apply branch_light
      case hi => (simp only [List.getElem?_toArray, List.getElem?_cons_zero, List.getElem?_cons_succ]; exact rfl)
      case hl => first | exact light_no (by rfl) | ((first | apply light_plain rfl | apply light_yes (by rfl)); intro w9 hS9; obtain ⟨h91, h92⟩ := hS9; first | (go_simp; done) | (go_simp; try rfl))
      case hQ => exact fun _ _ _ h => h
      (try simp only [Act.put, List.setIfInBounds_toArray, List.set_cons_zero, List.set_cons_succ])
      apply branch_more
      case hi => (simp only [List.getElem?_toArray, List.getElem?_cons_zero, List.getElem?_cons_succ]; exact rfl)
      case h =>
        go_wp2_with (go_at_call 88; refine (CI.out _ QuH.out.1 QuH.out.2).mono ?_; rintro e Y ⟨x, rfl, hx5, h5, hF5⟩; have M5 := Lib.hid (M_u.out.move hF5); have rp_Y : Y.cell? ⟨B.pb, 0, none⟩ = some (.pointer (some ⟨B.b, 0, none⟩)) := (cell_of_block M5.out.rp 0).trans rfl; have rd_Y : Y.cell? ⟨B.dk, 0, none⟩ = some (.int .i64 (9 - (B.d : Int))) := (cell_of_block M5.out.rd 0).trans rfl; have rl_Y : Y.cell? ⟨B.lb, 0, none⟩ = some (.slice A l.length cc) := (cell_of_block M5.out.rl 0).trans rfl)
        refine ⟨⟨rp_Y, rd_Y⟩, ?_⟩
        (try simp only [Act.put, List.setIfInBounds_toArray, List.set_cons_zero, List.set_cons_succ])
        apply branch_one
        case hi => (simp only [List.getElem?_toArray, List.getElem?_cons_zero, List.getElem?_cons_succ]; exact rfl)
        case h =>
          go_wp2_with fail
          have MZ := Lib.hid (M5.out.move (PFr.of ((Below.refl Y.heap.size Y).alloc (Nat.le_refl _) (.cells #[.int .i64 0, .int .i64 0, .string ⟨#[]⟩, .bool false, .slice none 0 0, .slice none 0 0, .slice none 0 0] 109))))
          refine ⟨⟨(cell_of_block MZ.out.rp 0).trans rfl, (cell_of_block MZ.out.rd 0).trans rfl⟩, ?_⟩
          (try simp only [Act.put, List.setIfInBounds_toArray, List.set_cons_zero, List.set_cons_succ])
          exact leaf_at ⟨Y.heap.size, x.1, x.2.1, x.2.2, rfl, LCBh.out Y x hx5 h5 hF5⟩
      case hr =>
        apply branch_one
        case hi => (simp only [List.getElem?_toArray, List.getElem?_cons_zero, List.getElem?_cons_succ]; exact rfl)
        case h =>
          go_wp2_with fail
          rw [HXE.out]
          refine ⟨⟨rp_X, rd_X⟩, ?_⟩
          (try simp only [Act.put, List.setIfInBounds_toArray, List.set_cons_zero, List.set_cons_succ])
          apply branch_one
          case hi => (simp only [List.getElem?_toArray, List.getElem?_cons_zero, List.getElem?_cons_succ]; exact rfl)
          case h =>
            go_wp2_with (go_at_call 88; refine (CI.out _ QXH.out.1 QXH.out.2).mono ?_; rintro e Y ⟨x, rfl, hx5, h5, hF5⟩; have M5 := Lib.hid (M_X.out.move hF5); have rp_Y : Y.cell? ⟨B.pb, 0, none⟩ = some (.pointer (some ⟨B.b, 0, none⟩)) := (cell_of_block M5.out.rp 0).trans rfl; have rd_Y : Y.cell? ⟨B.dk, 0, none⟩ = some (.int .i64 (9 - (B.d : Int))) := (cell_of_block M5.out.rd 0).trans rfl; have rl_Y : Y.cell? ⟨B.lb, 0, none⟩ = some (.slice A l.length cc) := (cell_of_block M5.out.rl 0).trans rfl)
            refine ⟨⟨rp_Y, rd_Y⟩, ?_⟩
            (try simp only [Act.put, List.setIfInBounds_toArray, List.set_cons_zero, List.set_cons_succ])
            exact leaf_at ⟨u.heap.size, x.1, x.2.1, x.2.2, rfl, LBCh.out Y x hx5 h5 hF5⟩
    case hr =>
      apply branch_more
      case hi => (simp only [List.getElem?_toArray, List.getElem?_cons_zero, List.getElem?_cons_succ]; exact rfl)
      case h =>
        go_wp2_with (go_at_call 88; refine (CI.out _ QuH.out.1 QuH.out.2).mono ?_; rintro e Y ⟨x, rfl, hx5, h5, hF5⟩; have M5 := Lib.hid (M_u.out.move hF5); have rp_Y : Y.cell? ⟨B.pb, 0, none⟩ = some (.pointer (some ⟨B.b, 0, none⟩)) := (cell_of_block M5.out.rp 0).trans rfl; have rd_Y : Y.cell? ⟨B.dk, 0, none⟩ = some (.int .i64 (9 - (B.d : Int))) := (cell_of_block M5.out.rd 0).trans rfl; have rl_Y : Y.cell? ⟨B.lb, 0, none⟩ = some (.slice A l.length cc) := (cell_of_block M5.out.rl 0).trans rfl)
        refine ⟨⟨rp_Y, rd_Y⟩, ?_⟩
        (try simp only [Act.put, List.setIfInBounds_toArray, List.set_cons_zero, List.set_cons_succ])
        apply branch_more
        case hi => (simp only [List.getElem?_toArray, List.getElem?_cons_zero, List.getElem?_cons_succ]; exact rfl)
        case h =>
          go_wp2_with fail
          refine ⟨⟨rp_Y, rd_Y⟩, ?_⟩
          (try simp only [Act.put, List.setIfInBounds_toArray, List.set_cons_zero, List.set_cons_succ])
          apply branch_light
          case hi => (simp only [List.getElem?_toArray, List.getElem?_cons_zero, List.getElem?_cons_succ]; exact rfl)
          case hl => first | exact light_no (by rfl) | ((first | apply light_plain rfl | apply light_yes (by rfl)); intro w9 hS9; obtain ⟨h91, h92⟩ := hS9; first | (go_simp; done) | (go_simp; try rfl))
          case hQ => exact fun _ _ _ h => h
          (try simp only [Act.put, List.setIfInBounds_toArray, List.set_cons_zero, List.set_cons_succ])
          apply branch_one
          case hi => (simp only [List.getElem?_toArray, List.getElem?_cons_zero, List.getElem?_cons_succ]; exact rfl)
          case h =>
            go_wp2_with fail
            have MZ := Lib.hid (M5.out.move (PFr.of ((Below.refl Y.heap.size Y).alloc (Nat.le_refl _) (.cells #[.int .i64 0, .int .i64 0, .string ⟨#[]⟩, .bool false, .slice none 0 0, .slice none 0 0, .slice none 0 0] 109))))
            refine ⟨⟨(cell_of_block MZ.out.rp 0).trans rfl, (cell_of_block MZ.out.rd 0).trans rfl⟩, ?_⟩
            (try simp only [Act.put, List.setIfInBounds_toArray, List.set_cons_zero, List.set_cons_succ])
            exact leaf_at ⟨Y.heap.size, x.1, x.2.1, x.2.2, rfl, LCBh.out Y x hx5 h5 hF5⟩
        case hr =>
          apply branch_one
          case hi => (simp only [List.getElem?_toArray, List.getElem?_cons_zero, List.getElem?_cons_succ]; exact rfl)
          case h =>
            go_wp2_with fail
            have MZ := Lib.hid (M5.out.move (PFr.of ((Below.refl Y.heap.size Y).alloc (Nat.le_refl _) (.cells #[.int .i64 0, .int .i64 0, .string ⟨#[]⟩, .bool false, .slice none 0 0, .slice none 0 0, .slice none 0 0] 109))))
            refine ⟨⟨(cell_of_block MZ.out.rp 0).trans rfl, (cell_of_block MZ.out.rd 0).trans rfl⟩, ?_⟩
            (try simp only [Act.put, List.setIfInBounds_toArray, List.set_cons_zero, List.set_cons_succ])
            apply branch_one
            case hi => (simp only [List.getElem?_toArray, List.getElem?_cons_zero, List.getElem?_cons_succ]; exact rfl)
            case h =>
              have rl_Z : (Y.alloc (.cells #[.int .i64 0, .int .i64 0, .string ⟨#[]⟩, .bool false, .slice none 0 0, .slice none 0 0, .slice none 0 0] 109)).cell? ⟨B.lb, 0, none⟩ = some (.slice A l.length cc) := (cell_of_block MZ.out.rl 0).trans rfl
              go_wp2_with fail
              refine ⟨⟨(cell_of_block MZ.out.rp 0).trans rfl, (cell_of_block MZ.out.rd 0).trans rfl⟩, ?_⟩
              (try simp only [Act.put, List.setIfInBounds_toArray, List.set_cons_zero, List.set_cons_succ])
              apply branch_light
              case hi => (simp only [List.getElem?_toArray, List.getElem?_cons_zero, List.getElem?_cons_succ]; exact rfl)
              case hl => first | exact light_no (by rfl) | ((first | apply light_plain rfl | apply light_yes (by rfl)); intro w9 hS9; obtain ⟨h91, h92⟩ := hS9; first | (go_simp; done) | (go_simp; try rfl))
              case hQ => exact fun _ _ _ h => h
              (try simp only [Act.put, List.setIfInBounds_toArray, List.set_cons_zero, List.set_cons_succ])
              exact leaf_at ⟨Y.heap.size, x.1, x.2.1, x.2.2, rfl, LCBh.out Y x hx5 h5 hF5⟩
      case hr =>
        apply branch_one
        case hi => (simp only [List.getElem?_toArray, List.getElem?_cons_zero, List.getElem?_cons_succ]; exact rfl)
        case h =>
          go_wp2_with fail
          rw [HXE.out]
          refine ⟨⟨rp_X, rd_X⟩, ?_⟩
          (try simp only [Act.put, List.setIfInBounds_toArray, List.set_cons_zero, List.set_cons_succ])
          apply branch_more
          case hi => (simp only [List.getElem?_toArray, List.getElem?_cons_zero, List.getElem?_cons_succ]; exact rfl)
          case h =>
            go_wp2_with fail
            refine ⟨⟨rp_X, rd_X⟩, ?_⟩
            (try simp only [Act.put, List.setIfInBounds_toArray, List.set_cons_zero, List.set_cons_succ])
            apply branch_light
            case hi => (simp only [List.getElem?_toArray, List.getElem?_cons_zero, List.getElem?_cons_succ]; exact rfl)
            case hl => first | exact light_no (by rfl) | ((first | apply light_plain rfl | apply light_yes (by rfl)); intro w9 hS9; obtain ⟨h91, h92⟩ := hS9; first | (go_simp; done) | (go_simp; try rfl))
            case hQ => exact fun _ _ _ h => h
            (try simp only [Act.put, List.setIfInBounds_toArray, List.set_cons_zero, List.set_cons_succ])
            apply branch_one
            case hi => (simp only [List.getElem?_toArray, List.getElem?_cons_zero, List.getElem?_cons_succ]; exact rfl)
            case h =>
              go_wp2_with (go_at_call 88; refine (CI.out _ QXH.out.1 QXH.out.2).mono ?_; rintro e Y ⟨x, rfl, hx5, h5, hF5⟩; have M5 := Lib.hid (M_X.out.move hF5); have rp_Y : Y.cell? ⟨B.pb, 0, none⟩ = some (.pointer (some ⟨B.b, 0, none⟩)) := (cell_of_block M5.out.rp 0).trans rfl; have rd_Y : Y.cell? ⟨B.dk, 0, none⟩ = some (.int .i64 (9 - (B.d : Int))) := (cell_of_block M5.out.rd 0).trans rfl; have rl_Y : Y.cell? ⟨B.lb, 0, none⟩ = some (.slice A l.length cc) := (cell_of_block M5.out.rl 0).trans rfl)
              refine ⟨⟨rp_Y, rd_Y⟩, ?_⟩
              (try simp only [Act.put, List.setIfInBounds_toArray, List.set_cons_zero, List.set_cons_succ])
              exact leaf_at ⟨u.heap.size, x.1, x.2.1, x.2.2, rfl, LBCh.out Y x hx5 h5 hF5⟩
          case hr =>
            apply branch_one
            case hi => (simp only [List.getElem?_toArray, List.getElem?_cons_zero, List.getElem?_cons_succ]; exact rfl)
            case h =>
              go_wp2_with (go_at_call 88; refine (CI.out _ QXH.out.1 QXH.out.2).mono ?_; rintro e Y ⟨x, rfl, hx5, h5, hF5⟩; have M5 := Lib.hid (M_X.out.move hF5); have rp_Y : Y.cell? ⟨B.pb, 0, none⟩ = some (.pointer (some ⟨B.b, 0, none⟩)) := (cell_of_block M5.out.rp 0).trans rfl; have rd_Y : Y.cell? ⟨B.dk, 0, none⟩ = some (.int .i64 (9 - (B.d : Int))) := (cell_of_block M5.out.rd 0).trans rfl; have rl_Y : Y.cell? ⟨B.lb, 0, none⟩ = some (.slice A l.length cc) := (cell_of_block M5.out.rl 0).trans rfl)
              refine ⟨⟨rp_Y, rd_Y⟩, ?_⟩
              (try simp only [Act.put, List.setIfInBounds_toArray, List.set_cons_zero, List.set_cons_succ])
              apply branch_one
              case hi => (simp only [List.getElem?_toArray, List.getElem?_cons_zero, List.getElem?_cons_succ]; exact rfl)
              case h =>
                go_wp2_with fail
                refine ⟨⟨rp_Y, rd_Y⟩, ?_⟩
                (try simp only [Act.put, List.setIfInBounds_toArray, List.set_cons_zero, List.set_cons_succ])
                apply branch_light
                case hi => (simp only [List.getElem?_toArray, List.getElem?_cons_zero, List.getElem?_cons_succ]; exact rfl)
                case hl => first | exact light_no (by rfl) | ((first | apply light_plain rfl | apply light_yes (by rfl)); intro w9 hS9; obtain ⟨h91, h92⟩ := hS9; first | (go_simp; done) | (go_simp; try rfl))
                case hQ => exact fun _ _ _ h => h
                (try simp only [Act.put, List.setIfInBounds_toArray, List.set_cons_zero, List.set_cons_succ])
                exact leaf_at ⟨u.heap.size, x.1, x.2.1, x.2.2, rfl, LBCh.out Y x hx5 h5 hF5⟩
  ·
    rintro a Z ⟨g, x, rfl, hFZ, hAZ, hg, hgz, hxZ⟩
    have HFZ := Lib.hid hFZ
    have HAZ := Lib.hid hAZ
    have HXZ := Lib.hid hxZ
    have HGZ := Lib.hid hgz
    have MZ := Lib.hid (HS.out.move hFZ)
    have OWN := Lib.hid (kept_ps HV2.out hFZ (fun e => by have := (HS.out.ol _ e).1; omega))
    have zZ := hFZ.size
    have hgl := (Array.getElem?_eq_some_iff.1 hgz).1
    have gix : (l.length : Int) < (l.length : Int) + 1 := by omega
    have gix2 : l.length < l.length + 1 := by omega
    clear hFZ hAZ hxZ hgz CI HA HV
    unfold tailT
    apply branch_one
    case hi => (simp only [List.getElem?_toArray, List.getElem?_cons_zero, List.getElem?_cons_succ]; exact rfl)
    case h =>
    go_wp2_with (at_builtin; refine wpList_append_own_at _ rfl (.tmp 3) (.tmp 8) _ rfl B.w0.heap.size 109 i1 (.agg #[.int .i64 0, .int .i64 0, .string ⟨#[]⟩, .bool false, .slice none 0 0, .slice none 0 0, .slice none 0 0]) 7 112 Tryd.underlying23 IC.out.1 IC.out.2.1 IC.out.2.2.1 IC.out.2.2.2 rfl (by decide) _ _ _ rfl OWN.out ⟨g, 0, none⟩ 1 1 zero7 rfl rfl (fun j y hy => cells_of_block HGZ.out j y (by simpa using hy)) zero7_one (by unfold maxLen; omega) (by omega) (by omega) ?_; intro v7 w7 hown7 hg7 hn7 hat7)
    obtain ⟨g7, c7, rfl⟩ := own_form hown7
    have g7c : (Value.slice A l.length cc).ownBlock = some g7 ∨ g7 = Z.heap.size := by
      rcases hat7 with h | h
      · exact .inl h.symm
      · right; simp [Value.ownBlock] at h; exact h
    have zlZ := Nat.lt_of_lt_of_le zl zZ
    have zpZ := Nat.lt_of_lt_of_le zp zZ
    have zdZ := Nat.lt_of_lt_of_le zd zZ
    have GE : g7 ≠ B.lb ∧ g7 ≠ B.pb ∧ g7 ≠ B.dk := by
      rcases g7c with e | e
      · exact ⟨fun h' => HS.out.o1 (h' ▸ e), fun h' => HS.out.o2 (h' ▸ e), fun h' => HS.out.o3 (h' ▸ e)⟩
      · exact ⟨by omega, by omega, by omega⟩
    have RL7 : w7.heap[B.lb]? = some (.cells #[.slice A l.length cc] 23 (0, 0)) := (hg7.block B.lb zlZ (fun e => HS.out.o1 e.symm)).trans MZ.out.rl
    have RP7 : w7.heap[B.pb]? = some (.cells #[.pointer (some ⟨B.b, 0, none⟩)] 81 (0, 0)) := (hg7.block B.pb zpZ (fun e => HS.out.o2 e.symm)).trans MZ.out.rp
    have RD7 : w7.heap[B.dk]? = some (.cells #[.int .i64 (9 - (B.d : Int))] 3 (0, 0)) := (hg7.block B.dk zdZ (fun e => HS.out.o3 e.symm)).trans MZ.out.rd
    have rp7 : w7.cell? ⟨B.pb, 0, none⟩ = some (.pointer (some ⟨B.b, 0, none⟩)) := (cell_of_block RP7 0).trans rfl
    have rd7 : w7.cell? ⟨B.dk, 0, none⟩ = some (.int .i64 (9 - (B.d : Int))) := (cell_of_block RD7 0).trans rfl
    have rl7 : w7.cell? ⟨B.lb, 0, none⟩ = some (.slice A l.length cc) := (cell_of_block RL7 0).trans rfl
    have fl7 := free_same (j := 0) RL7
    have zl7 := (Array.getElem?_eq_some_iff.1 RL7).1
    have PUT := Lib.hid (row_put (cells := (st7 t x).toArray) hown7 rfl rfl)
    have H7 := Lib.hid hg7
    have HAT := Lib.hid hat7
    have HOWN := Lib.hid hown7
    have HRL7 := Lib.hid RL7
    have n1 := B.n1
    have n2 := B.n2
    clear hown7 hg7 hn7 hat7 RL7 RP7 RD7
    refine ⟨⟨rp7, rd7⟩, ?_⟩
    (try simp only [Act.put, List.setIfInBounds_toArray, List.set_cons_zero, List.set_cons_succ])
    apply branch_light
    case hi => (simp only [List.getElem?_toArray, List.getElem?_cons_zero, List.getElem?_cons_succ]; exact rfl)
    case hl => first | exact light_no (by rfl) | ((first | apply light_plain rfl | apply light_yes (by rfl)); intro w9 hS9; first | (go_simp; done) | (go_simp; try rfl))
    case hQ => exact fun _ _ _ h => h
    (try simp only [Act.put, List.setIfInBounds_toArray, List.set_cons_zero, List.set_cons_succ])
    apply branch_more
    case hi => (simp only [List.getElem?_toArray, List.getElem?_cons_zero, List.getElem?_cons_succ]; exact rfl)
    case h =>
      go_wp2_with (refine wpList_store_mid rfl 109 (.tmp 10) (.tmp 6) rfl g7 (l.length * 7) (st7 t x).toArray rfl rfl PUT.out.1 (by kernel_rfl) (one_seven HXZ.out) ?_)
      have O8 := setCells_other (b := g7) (st7 t x) (l.length * 7) w7
      have rp8 : (w7.setCells g7 (l.length * 7) (st7 t x)).cell? ⟨B.pb, 0, none⟩ = some (.pointer (some ⟨B.b, 0, none⟩)) := (cell_same (O8.block B.pb (by have := H7.out.size; omega) (fun e => GE.2.1 e.symm))).trans rp7
      have rd8 : (w7.setCells g7 (l.length * 7) (st7 t x)).cell? ⟨B.dk, 0, none⟩ = some (.int .i64 (9 - (B.d : Int))) := (cell_same (O8.block B.dk (by have := H7.out.size; omega) (fun e => GE.2.2 e.symm))).trans rd7
      have RL8 := (O8.block B.lb zl7 (fun e => GE.1 e.symm)).trans HRL7.out
      have rl8 : (w7.setCells g7 (l.length * 7) (st7 t x)).cell? ⟨B.lb, 0, none⟩ = some (.slice A l.length cc) := (cell_of_block RL8 0).trans rfl
      have fl8 := free_same (j := 0) RL8
      have OWN8 := Lib.hid (ownsRow_setCell_other (a := ⟨B.lb, 0, none⟩) PUT.out.2 (by simp [Value.ownBlock]; exact GE.1) (.slice (some ⟨g7, 0, none⟩) (l.length + 1) c7))
      have TW := Lib.hid (set_two (lb := B.lb) (g := g7) (o := l.length * 7) (v := .slice (some ⟨g7, 0, none⟩) (l.length + 1) c7) (cells := st7 t x) HRL7.out GE.1)
      have FIN := Lib.hid (HS.out.last HFZ.out HAZ.out HV1.out HV3.out hg hgl HXZ.out H7.out HAT.out TW.out.1 TW.out.2.1 TW.out.2.2.1 OWN8.out TW.out.2.2.2)
      have HZ8 := Lib.hid (⟨rp8, rd8⟩ : _ ∧ _)
      refine ⟨⟨rp8, rd8⟩, ?_⟩
      (try simp only [Act.put, List.setIfInBounds_toArray, List.set_cons_zero, List.set_cons_succ])
      apply branch_one
      case hi => (simp only [List.getElem?_toArray, List.getElem?_cons_zero, List.getElem?_cons_succ]; exact rfl)
      case h =>
      clear O8 RL8
      generalize w7.setCells g7 (l.length * 7) (st7 t x) = w8 at *
      go_wp2_with fail
      refine ⟨⟨(cell_same (Below.heap_setCell w8 ⟨B.lb, 0, none⟩ _ B.pb (fun e => n1 e.symm))).trans rp8, (cell_same (Below.heap_setCell w8 ⟨B.lb, 0, none⟩ _ B.dk (fun e => n2 e.symm))).trans rd8⟩, ?_⟩
      refine branch_nil ?_
      (try go_wp2_with fail)
      go_end0
      exact ⟨rfl, ⟨_, FIN.out.1⟩, FIN.out.2⟩
    case hr =>
      apply branch_one
      case hi => (simp only [List.getElem?_toArray, List.getElem?_cons_zero, List.getElem?_cons_succ]; exact rfl)
      case h =>
      go_wp2_with fail
      have OWN9 := Lib.hid (ownsRow_setCell_other (a := ⟨B.lb, 0, none⟩) HOWN.out (by simp [Value.ownBlock]; exact GE.1) (.slice (some ⟨g7, 0, none⟩) (l.length + 1) c7))
      have PUT9 := Lib.hid (row_put (cells := (st7 t x).toArray) OWN9.out rfl rfl)
      have rp9 := (cell_same (o := 0) (Below.heap_setCell w7 ⟨B.lb, 0, none⟩ (.slice (some ⟨g7, 0, none⟩) (l.length + 1) c7) B.pb (fun e => n1 e.symm))).trans rp7
      have rd9 := (cell_same (o := 0) (Below.heap_setCell w7 ⟨B.lb, 0, none⟩ (.slice (some ⟨g7, 0, none⟩) (l.length + 1) c7) B.dk (fun e => n2 e.symm))).trans rd7
      have TW := Lib.hid (set_two' (lb := B.lb) (g := g7) (o := l.length * 7) (v := .slice (some ⟨g7, 0, none⟩) (l.length + 1) c7) (cells := st7 t x) HRL7.out GE.1)
      have FIN := Lib.hid (HS.out.last HFZ.out HAZ.out HV1.out HV3.out hg hgl HXZ.out H7.out HAT.out TW.out.1 TW.out.2.1 TW.out.2.2.1 PUT9.out.2 TW.out.2.2.2)
      refine ⟨⟨rp9, rd9⟩, ?_⟩
      (try simp only [Act.put, List.setIfInBounds_toArray, List.set_cons_zero, List.set_cons_succ])
      apply branch_one
      case hi => (simp only [List.getElem?_toArray, List.getElem?_cons_zero, List.getElem?_cons_succ]; exact rfl)
      case h =>
      go_wp2_with (refine wpList_store_mid rfl 109 (.tmp 10) (.tmp 6) rfl g7 (l.length * 7) (st7 t x).toArray rfl rfl PUT9.out.1 (by kernel_rfl) (one_seven HXZ.out) ?_)
      have O9 := setCells_other (b := g7) (st7 t x) (l.length * 7) (w7.setCell ⟨B.lb, 0, none⟩ (.slice (some ⟨g7, 0, none⟩) (l.length + 1) c7))
      refine ⟨⟨(cell_same (O9.block B.pb (by simp; have := H7.out.size; omega) (fun e => GE.2.1 e.symm))).trans rp9, (cell_same (O9.block B.dk (by simp; have := H7.out.size; omega) (fun e => GE.2.2 e.symm))).trans rd9⟩, ?_⟩
      refine branch_nil ?_
      (try go_wp2_with fail)
      go_end0
      exact ⟨rfl, ⟨_, FIN.out.1⟩, FIN.out.2⟩
end Go.Proofs.YtpbflgemhcaooaaDoor
