import Derived.Test.YtljcgcllhcdleaaMo17
import Derived.Test.YtljcgcllhcdleaaMo5
import Derived.Test.YtljcgcllhcdleaaMo15
import Derived.Test.YtljcgcllhcdleaaMo14
import Derived.Test.YtljcgcllhcdleaaMo1
import Derived.Test.YtljcgcllhcdleaaMo13
/- The reference's comparisons of flat instructions, ends and leaks. -/
namespace Go.Proofs.Ytljcgcllhcdleaa
open Go.RowKit
set_option linter.unusedSimpArgs false
set_option linter.unusedVariables false
theorem RVars.el {w : World} {B : Nat} {v : Value} {l : List Ev.Vr} (h : RVars w B v l) {k : Nat} {x : Ev.Vr} (hk : l[k]? = some x) :
    ∃ b o c, v = .slice (some ⟨b, o, none⟩) l.length c ∧ b < B ∧ k < l.length ∧ l.length ≤ c ∧ c ≤ maxLen ∧ w.cell? ⟨b, o + k * 3, none⟩ = some (.string ⟨x.name.toArray⟩) ∧ w.cell? ⟨b, o + k * 3 + 1, none⟩ = some (.bool x.secret) ∧ w.cell? ⟨b, o + k * 3 + 2, none⟩ = some (.int .i64 x.size) := by
  have hlt : k < l.length := (List.getElem?_eq_some_iff.1 hk).1
  obtain ⟨b, o, c, e, hb, h1, h2, hc⟩ := SL.row h (by omega)
  have hj := fun j u (hu : (cellsV x)[j]? = some u) => hc (k * 3 + j) u (flatMap_at cellsV (fun _ => rfl) l k _ j u hk hu)
  simp only [← Nat.add_assoc] at hj
  exact ⟨b, o, c, e, hb, hlt, h1, h2, hj 0 _ rfl, hj 1 _ rfl, hj 2 _ rfl⟩
theorem get_neq {α : Type} {l m : List α} {k : Nat} {x y : α} (hx : l[k]? = some x) (hy : m[k]? = some y) (h : x ≠ y) : l ≠ m := fun e => h (by
  rw [e, hy] at hx
  exact (Option.some.inj hx).symm)
set_option maxRecDepth 4000 in
set_option maxHeartbeats 1600000 in
theorem sameVars_any (l m : List Ev.Vr) (u v : Value) (w : World) {B : Nat} (hl : RVars w B u l) (hm : RVars w B v m) :
    Calls Try.prog 20 #[u, v] w fun e w' => e = .returned (.bool (decide (l = m))) ∧ ∃ n, w' = w.drewN n := by
  have HL := Lib.hid hl
  have HM := Lib.hid hm
  obtain ⟨A, c, rfl, hc1, hc2⟩ := SL.form hl
  obtain ⟨A', c', rfl, hd1, hd2⟩ := SL.form hm
  unfold maxLen at hc2 hd2
  clear hl hm
  go_enter Try.func20, Try.ntmps20
  by_cases hlen : l.length = m.length
  case neg =>
    go_wp2
    go_ret
    refine ⟨?_, by (first | exact ⟨0, rfl⟩ | exact ⟨_, rfl⟩ | (simp only [World.drewN_drewN, World.drew_is_drewN]; exact ⟨_, rfl⟩))⟩
    have : l ≠ m := fun e => hlen (by rw [e])
    simp [this]
  case pos =>
  go_wp2_with fail
  have hlen1 : m.length ≤ l.length := by omega
  have hlen2 : l.length ≤ m.length := by omega
  clear hlen
  go_loopw [13] (fun z wr => ∃ j : Nat, j ≤ l.length ∧ z = .int .i64 j ∧ Hid (l.take j = m.take j) ∧ ∃ n, wr = w.drewN n) (fun z _ => l.length - (intOf z).toNat)
  case atStart => exact ⟨0, by omega, rfl, by simp [Hid], by (first | exact ⟨0, rfl⟩ | exact ⟨_, rfl⟩ | (simp only [World.drewN_drewN, World.drew_is_drewN]; exact ⟨_, rfl⟩))⟩
  case round =>
    obtain ⟨j, hj, rfl, HT, nw, rfl⟩ := hrel
    by_cases hlt : j < l.length
    · obtain ⟨x, hx⟩ : ∃ x, l[j]? = some x := ⟨l[j], List.getElem?_eq_getElem hlt⟩
      obtain ⟨y, hy⟩ : ∃ y, m[j]? = some y := ⟨m[j]'(by omega), List.getElem?_eq_getElem _⟩
      obtain ⟨b1, o1, r1, hv, hb1, _, _, _, p1, p2, p3⟩ := RVars.el HL.out hx
      injection hv with hA _ hcr
      subst hA hcr
      obtain ⟨b2, o2, r2, hv, hb2, _, _, _, q1, q2, q3⟩ := RVars.el HM.out hy
      injection hv with hA _ hcr
      subst hA hcr
      have HX := Lib.hid hx
      have HY := Lib.hid hy
      clear hx hy
      by_cases hxy : x = y
      · have hs := Lib.hid (take_snoc_same HT.out HX.out HY.out hxy)
        have hn := fun w => neq_var x y w false (by simpa using hxy)
        unfold aggV at hn
        clear hxy
        go_wp2_with fail
        go_quiet (fail)
        go_wp2_with fail
        go_roundw
        case rel => exact ⟨j + 1, by omega, by go_num, hs, by (first | exact ⟨0, rfl⟩ | exact ⟨_, rfl⟩ | (simp only [World.drewN_drewN, World.drew_is_drewN]; exact ⟨_, rfl⟩))⟩
        case measure => simp [intOf]; omega
      · have hn := fun w => neq_var x y w true (by simpa using hxy)
        unfold aggV at hn
        have HXY := Lib.hid hxy
        clear hxy
        go_wp2_with fail
        go_quiet (fail)
        go_wp2
        go_ret
        refine ⟨?_, by (first | exact ⟨0, rfl⟩ | exact ⟨_, rfl⟩ | (simp only [World.drewN_drewN, World.drew_is_drewN]; exact ⟨_, rfl⟩))⟩
        simp [get_neq HX.out HY.out HXY.out]
    · go_wp2
      go_ret
      refine ⟨?_, by (first | exact ⟨0, rfl⟩ | exact ⟨_, rfl⟩ | (simp only [World.drewN_drewN, World.drew_is_drewN]; exact ⟨_, rfl⟩))⟩
      have h := HT.out
      rw [List.take_of_length_le (by omega), List.take_of_length_le (by omega)] at h
      simp [h]
theorem sameVars_is (l m : List Ev.Vr) (u v : Value) (w : World) {B : Nat} (hl : RVars w B u l) (hm : RVars w B v m) (b : Bool) (h : decide (l = m) = b) :
    Calls Try.prog 20 #[u, v] w fun e w' => e = .returned (.bool b) ∧ ∃ n, w' = w.drewN n := by
  subst h
  exact sameVars_any l m u v w hl hm
set_option maxRecDepth 4000 in
set_option maxHeartbeats 1600000 in
theorem sameEnded_any (x y : Ev.Ended) (u v : Value) (w : World) (hx : REnded w u x) (hy : REnded w v y) :
    Calls Try.prog 24 #[u, v] w fun e w' => e = .returned (.bool (decide (x = y))) ∧ Below w.heap.size w w' := by
  obtain ⟨va, rfl, ha⟩ := hx
  obtain ⟨vb, rfl, hb⟩ := hy
  obtain ⟨x1, x2, x3⟩ := x
  obtain ⟨y1, y2, y3⟩ := y
  dsimp only at ha hb ⊢
  have HA := Lib.hid ha
  have HB := Lib.hid hb
  obtain ⟨us, hul, hus, _⟩ := ha
  obtain ⟨vs, hvl, hvs, _⟩ := hb
  obtain ⟨A, c, rfl, _, _⟩ := SL.form hus
  obtain ⟨A', c', rfl, _, _⟩ := SL.form hvs
  clear hus hvs
  go_enter Try.func24, Try.ntmps24
  by_cases h1 : x1 = y1
  · subst h1
    by_cases h2 : x2 = y2
    · subst h2
      go_wp2_with (go_at_call 60; refine (quiet_below (sameArrays_any x3 y3 _ _ _ (HA.out.at_ (B := w.heap.size) (w' := (w.alloc _).alloc _) (by (repeat' first | with_reducible (first | exact Below.refl _ _ | assumption | refine Below.alloc ?_ ?_ _ | refine below_drewN ?_ _ | refine Below.drew ?_ | refine Below.setCell ?_ ?_ _ | refine Below.trans ?_ (Below.mono (by with_reducible assumption) ?_)) | go_size)) (Nat.le_refl _)) (HB.out.at_ (B := w.heap.size) (w' := (w.alloc _).alloc _) (by (repeat' first | with_reducible (first | exact Below.refl _ _ | assumption | refine Below.alloc ?_ ?_ _ | refine below_drewN ?_ _ | refine Below.drew ?_ | refine Below.setCell ?_ ?_ _ | refine Below.trans ?_ (Below.mono (by with_reducible assumption) ?_)) | go_size)) (Nat.le_refl _)))).mono ?_; rintro e w1 ⟨rfl, hb1⟩)
      go_wp2
      go_ret
      refine ⟨?_, by (repeat' first | with_reducible (first | exact Below.refl _ _ | assumption | refine Below.alloc ?_ ?_ _ | refine below_drewN ?_ _ | refine Below.drew ?_ | refine Below.setCell ?_ ?_ _ | refine Below.trans ?_ (Below.mono (by with_reducible assumption) ?_)) | go_size)⟩
      simp
    · go_wp2
      go_ret
      refine ⟨?_, by (repeat' first | with_reducible (first | exact Below.refl _ _ | assumption | refine Below.alloc ?_ ?_ _ | refine below_drewN ?_ _ | refine Below.drew ?_ | refine Below.setCell ?_ ?_ _ | refine Below.trans ?_ (Below.mono (by with_reducible assumption) ?_)) | go_size)⟩
      simp [h2]
  · go_wp2
    go_ret
    refine ⟨?_, by (repeat' first | with_reducible (first | exact Below.refl _ _ | assumption | refine Below.alloc ?_ ?_ _ | refine below_drewN ?_ _ | refine Below.drew ?_ | refine Below.setCell ?_ ?_ _ | refine Below.trans ?_ (Below.mono (by with_reducible assumption) ?_)) | go_size)⟩
    simp [h1]
theorem RLeaks.row {w : World} {v : Value} {l : List Ev.Leak} (h : RLeaks w v l) {k : Nat} {x : Ev.Leak} (hk : l[k]? = some x) :
    ∃ b o c A ca, v = .slice (some ⟨b, o, none⟩) l.length c ∧ b < w.heap.size ∧ w.cell? ⟨b, o + k * 3, none⟩ = some (.int .i64 x.pc) ∧ w.cell? ⟨b, o + k * 3 + 1, none⟩ = some (.int .i64 x.op) ∧ w.cell? ⟨b, o + k * 3 + 2, none⟩ = some (.slice A x.vals.length ca) ∧ RInts w w.heap.size (.slice A x.vals.length ca) x.vals := by
  obtain ⟨us, h1, h2, h3⟩ := h
  have hlt : k < l.length := (List.getElem?_eq_some_iff.1 hk).1
  obtain ⟨u, hu⟩ : ∃ u, us[k]? = some u := ⟨us[k]'(by omega), List.getElem?_eq_getElem _⟩
  obtain ⟨b, o, c, e, hb, _, _, hc⟩ := SL.row h2 (by omega)
  have hr := h3 k u x hu hk
  obtain ⟨A, ca, rfl, _, _⟩ := SL.form hr
  have hj := fun j z (hz : (leakCells x (.slice A x.vals.length ca))[j]? = some z) => hc (k * 3 + j) z (leaksCells_at l us k x _ hk hu j z hz)
  simp only [← Nat.add_assoc] at hj
  exact ⟨b, o, c, A, ca, e, hb, hj 0 _ rfl, hj 1 _ rfl, hj 2 _ rfl, hr⟩
set_option maxRecDepth 4000 in
set_option maxHeartbeats 3200000 in
theorem sameLeaks_any (l m : List Ev.Leak) (u v : Value) (w : World) (hl : RLeaks w u l) (hm : RLeaks w v m) :
    Calls Try.prog 42 #[u, v] w fun e w' => e = .returned (.bool (decide (l = m))) ∧ ∃ n, w' = w.drewN n := by
  have HL := Lib.hid hl
  have HM := Lib.hid hm
  obtain ⟨us, hul, hus, _⟩ := hl
  obtain ⟨vs, hvl, hvs, _⟩ := hm
  obtain ⟨A, c, rfl, hc1, hc2⟩ := SL.form hus
  obtain ⟨A', c', rfl, hd1, hd2⟩ := SL.form hvs
  unfold maxLen at hc2 hd2
  clear hus hvs hul hvl
  go_enter Try.func42, Try.ntmps42
  by_cases hlen : l.length = m.length
  case neg =>
    go_wp2
    go_ret
    refine ⟨?_, by (first | exact ⟨0, rfl⟩ | exact ⟨_, rfl⟩ | (simp only [World.drewN_drewN, World.drew_is_drewN]; exact ⟨_, rfl⟩))⟩
    have : l ≠ m := fun e => hlen (by rw [e])
    simp [this]
  case pos =>
  go_wp2_with fail
  have hlen1 : m.length ≤ l.length := by omega
  have hlen2 : l.length ≤ m.length := by omega
  clear hlen
  go_loopw [13] (fun z wr => ∃ j : Nat, j ≤ l.length ∧ z = .int .i64 j ∧ Hid (l.take j = m.take j) ∧ ∃ n, wr = w.drewN n) (fun z _ => l.length - (intOf z).toNat)
  case atStart => exact ⟨0, by omega, rfl, by simp [Hid], by (first | exact ⟨0, rfl⟩ | exact ⟨_, rfl⟩ | (simp only [World.drewN_drewN, World.drew_is_drewN]; exact ⟨_, rfl⟩))⟩
  case round =>
    obtain ⟨j, hj, rfl, HT, nw, rfl⟩ := hrel
    by_cases hlt : j < l.length
    · obtain ⟨x, hx⟩ : ∃ x, l[j]? = some x := ⟨l[j], List.getElem?_eq_getElem hlt⟩
      obtain ⟨y, hy⟩ : ∃ y, m[j]? = some y := ⟨m[j]'(by omega), List.getElem?_eq_getElem _⟩
      obtain ⟨b1, o1, r1, A1, c1, hv, hb1, p1, p2, p3, RA⟩ := RLeaks.row HL.out hx
      injection hv with hA _ hcr
      subst hA hcr
      obtain ⟨b2, o2, r2, A2, c2, hv, hb2, q1, q2, q3, RB⟩ := RLeaks.row HM.out hy
      injection hv with hA _ hcr
      subst hA hcr
      have HX := Lib.hid hx
      have HY := Lib.hid hy
      have RA := Lib.hid RA
      have RB := Lib.hid RB
      clear hx hy
      by_cases h1 : x.pc = y.pc
      · by_cases h2 : x.op = y.op
        · by_cases h3 : x.vals = y.vals
          · have hxy : x = y := by cases x; cases y; simp_all
            have hs := Lib.hid (take_snoc_same HT.out HX.out HY.out hxy)
            have g1 : decide (x.vals = y.vals) = true := by simpa using h3
            have e1 : (x.pc != y.pc) = false := by simpa using h1
            have e2 : (x.op != y.op) = false := by simpa using h2
            clear h1 h2 h3 hxy
            go_wp2_with fail
            go_quiet ((go_at_call 34; first | exact Calls.quiet_of (sameInts_is x.vals y.vals _ _ (w.drewN _) (SL.dr _ RA.out) (SL.dr _ RB.out) _ g1) | exact quiet_at (sameInts_is x.vals y.vals _ _ (w.drewN _) (SL.dr _ RA.out) (SL.dr _ RB.out) _ g1)))
            go_wp2_with fail
            go_roundw
            case rel => exact ⟨j + 1, by omega, by go_num, hs, by (first | exact ⟨0, rfl⟩ | exact ⟨_, rfl⟩ | (simp only [World.drewN_drewN, World.drew_is_drewN]; exact ⟨_, rfl⟩))⟩
            case measure => simp [intOf]; omega
          · have g1 : decide (x.vals = y.vals) = false := by simpa using h3
            have e1 : (x.pc != y.pc) = false := by simpa using h1
            have e2 : (x.op != y.op) = false := by simpa using h2
            have HXY := Lib.hid (show x ≠ y from fun e => h3 (by rw [e]))
            clear h1 h2 h3
            go_wp2_with fail
            go_quiet ((go_at_call 34; first | exact Calls.quiet_of (sameInts_is x.vals y.vals _ _ (w.drewN _) (SL.dr _ RA.out) (SL.dr _ RB.out) _ g1) | exact quiet_at (sameInts_is x.vals y.vals _ _ (w.drewN _) (SL.dr _ RA.out) (SL.dr _ RB.out) _ g1)))
            go_wp2
            go_ret
            refine ⟨?_, by (first | exact ⟨0, rfl⟩ | exact ⟨_, rfl⟩ | (simp only [World.drewN_drewN, World.drew_is_drewN]; exact ⟨_, rfl⟩))⟩
            simp [get_neq HX.out HY.out HXY.out]
        · have e1 : (x.pc != y.pc) = false := by simpa using h1
          have e2 : (x.op != y.op) = true := by simpa using h2
          have HXY := Lib.hid (show x ≠ y from fun e => h2 (by rw [e]))
          clear h1 h2
          go_wp2_with fail
          go_quiet (fail)
          go_wp2
          go_ret
          refine ⟨?_, by (first | exact ⟨0, rfl⟩ | exact ⟨_, rfl⟩ | (simp only [World.drewN_drewN, World.drew_is_drewN]; exact ⟨_, rfl⟩))⟩
          simp [get_neq HX.out HY.out HXY.out]
      · have e1 : (x.pc != y.pc) = true := by simpa using h1
        have HXY := Lib.hid (show x ≠ y from fun e => h1 (by rw [e]))
        clear h1
        go_wp2_with fail
        go_quiet (fail)
        go_wp2
        go_ret
        refine ⟨?_, by (first | exact ⟨0, rfl⟩ | exact ⟨_, rfl⟩ | (simp only [World.drewN_drewN, World.drew_is_drewN]; exact ⟨_, rfl⟩))⟩
        simp [get_neq HX.out HY.out HXY.out]
    · go_wp2
      go_ret
      refine ⟨?_, by (first | exact ⟨0, rfl⟩ | exact ⟨_, rfl⟩ | (simp only [World.drewN_drewN, World.drew_is_drewN]; exact ⟨_, rfl⟩))⟩
      have h := HT.out
      rw [List.take_of_length_le (by omega), List.take_of_length_le (by omega)] at h
      simp [h]
end Go.Proofs.Ytljcgcllhcdleaa
/- Boxes in memory, told whole; flat programs. -/
namespace Go.Proofs.Ytljcgcllhcdleaa
open Go.RowKit
set_option linter.unusedSimpArgs false
set_option linter.unusedVariables false
theorem box_looseM {w : World} {g : Nat} {cs : Array Value} {t : TypeId} (h : w.heap[g]? = some (.cells cs t (0, 0))) (j : Nat) : w.frozen? ⟨g, j, none⟩ = false := by
  unfold World.frozen?
  rw [h]
  simp
theorem cell_six_mk (w : World) (i : Ev.Instr) (t : TypeId) : ∀ j u, (cellsI i)[j]? = some u → (w.alloc (.cells (cellsI i).toArray t)).cell? ((⟨w.heap.size, 0, none⟩ : Addr).add j) = some u := by
  intro j u hj
  match j, hj with
  | 0, hj => simp [cellsI] at hj; subst hj; simp [Addr.add, cellsI]
  | 1, hj => simp [cellsI] at hj; subst hj; simp [Addr.add, cellsI]
  | 2, hj => simp [cellsI] at hj; subst hj; simp [Addr.add, cellsI]
  | 3, hj => simp [cellsI] at hj; subst hj; simp [Addr.add, cellsI]
  | 4, hj => simp [cellsI] at hj; subst hj; simp [Addr.add, cellsI]
  | 5, hj => simp [cellsI] at hj; subst hj; simp [Addr.add, cellsI]
  | j + 6, hj => simp [cellsI] at hj
theorem one_six_mk (i : Ev.Instr) : ∀ u ∈ cellsI i, u.oneCell' = true := fun x hx => by
  simp [cellsI] at hx
  rcases hx with rfl | rfl | rfl | rfl | rfl | rfl <;> rfl
theorem box_on {w w' : World} {b : Nat} {o : Obj} (h : Hid (w.heap[b]? = some o)) (hb : Below w.heap.size w w') : Hid (w'.heap[b]? = some o) :=
  Lib.hid ((hb.block b (Array.getElem?_eq_some_iff.1 h.out).1).trans h.out)
theorem box_lt {w : World} {b : Nat} {o : Obj} (h : Hid (w.heap[b]? = some o)) : b < w.heap.size := (Array.getElem?_eq_some_iff.1 h.out).1
theorem box_load {w : World} {b : Nat} {T : TypeId} {cs : Array Value} {d : TypeDesc} (hu : Try.prog.underlying T = some d) (hd : d.isRow = true) (hs : cs.toList.toArray = cs) (hi : (Try.prog.info? T).map (·.size) = some cs.toList.length)
    (h : Hid (w.heap[b]? = some (.cells cs T (0, 0)))) : (Go.Instr.loadAt T (.pointer (some ⟨b, 0, none⟩))).run Try.prog w = .ok (.agg cs) w :=
  load_box hu hd hs hi (fun j v hj => (cell_of_block h.out j).trans hj) (box_lt h) (Below.refl _ _)
theorem box_cell {w : World} {b : Nat} {T : TypeId} {cs : Array Value} (h : Hid (w.heap[b]? = some (.cells cs T (0, 0)))) (j : Nat) {v : Value} (hv : cs[j]? = some v) : w.cell? ⟨b, j, none⟩ = some v := (cell_of_block h.out j).trans hv
theorem box_free {w : World} {b : Nat} {T : TypeId} {cs : Array Value} (h : Hid (w.heap[b]? = some (.cells cs T (0, 0)))) (j : Nat) : w.frozen? ⟨b, j, none⟩ = false := box_looseM h.out j
theorem box_new (w : World) (o : Obj) : Hid ((w.alloc o).heap[w.heap.size]? = some o) := Lib.hid (heap_alloc_new w o)
theorem RFlat.on {w w' : World} {v : Value} {f : Ev.Flat} (h : Hid (RFlat w w.heap.size v f)) (hb : Below w.heap.size w w') : Hid (RFlat w' w'.heap.size v f) := by
  obtain ⟨vc, vs, va, h1, h2, h3, h4⟩ := h.out
  exact Lib.hid ⟨vc, vs, va, h1, SL.at_ h2 hb (Nat.le_refl _), SL.at_ h3 hb (Nat.le_refl _), SL.at_ h4 hb (Nat.le_refl _)⟩
theorem RFlat.slices {w : World} {v : Value} {f : Ev.Flat} (h : RFlat w w.heap.size v f) : ∃ A1 c1 A2 c2 A3 c3, v = .agg #[.slice A1 f.code.length c1, .slice A2 f.secret.length c2, .int .i64 f.params, .slice A3 f.arrays.length c3] := by
  obtain ⟨vc, vs, va, rfl, h2, h3, h4⟩ := h
  obtain ⟨A1, c1, rfl, _, _⟩ := SL.form h2
  obtain ⟨A2, c2, rfl, _, _⟩ := SL.form h3
  obtain ⟨A3, c3, rfl, _, _⟩ := SL.form h4
  exact ⟨A1, c1, A2, c2, A3, c3, rfl⟩
/-- a flat program's rows lie in blocks from lo on -/
def FromFlat (lo : Nat) (v : Value) : Prop := ∃ vc vs va p, v = .agg #[vc, vs, p, va] ∧ from_ lo vc ∧ from_ lo vs ∧ from_ lo va
theorem FromFlat.no (lo : Nat) (p : Value) : FromFlat lo (.agg #[.slice none 0 0, .slice none 0 0, p, .slice none 0 0]) := ⟨_, _, _, _, rfl, from_nil _ _ _, from_nil _ _ _, from_nil _ _ _⟩
theorem RFlat.aside {w : World} {lo : Nat} {v : Value} {f : Ev.Flat} (h : RFlat w w.heap.size v f) (hf : FromFlat lo v) (k o : Nat) (u : Value) (hk : k < lo) : RFlat (w.setCell ⟨k, o, none⟩ u) (w.setCell ⟨k, o, none⟩ u).heap.size v f := by
  obtain ⟨vc, vs, va, e, h1, h2, h3⟩ := h
  obtain ⟨vc', vs', va', p, rfl, f1, f2, f3⟩ := hf
  injection e with e
  simp only [Array.mk.injEq, List.cons.injEq] at e
  obtain ⟨rfl, rfl, rfl, rfl, _⟩ := e
  have hs : (w.setCell ⟨k, o, none⟩ u).heap.size = w.heap.size := by simp
  rw [hs]
  exact ⟨_, _, _, rfl, SL.aside h1 f1 _ _ _ hk, SL.aside h2 f2 _ _ _ hk, SL.aside h3 f3 _ _ _ hk⟩
theorem own_lt {w : World} {base size n : Nat} {e : TypeId} {v : Value} {xs : List Value} (h : w.ownsRow base e size v n xs) {b : Nat} (hb : v.ownBlock = some b) : b < w.heap.size := (h.lt b hb).2
theorem own_ge {w : World} {base size n : Nat} {e : TypeId} {v : Value} {xs : List Value} (h : w.ownsRow base e size v n xs) {b : Nat} (hb : v.ownBlock = some b) : base ≤ b := (h.lt b hb).1
theorem kept_other {w w' : World} {base size n : Nat} {e : TypeId} {v : Value} {xs : List Value} {row : Option Nat} (h : w.ownsRow base e size v n xs) (hg : w.grownBy w' row) (hne : ∀ b, v.ownBlock = some b → some b ≠ row) : w'.ownsRow base e size v n xs :=
  h.kept hg (by
    cases hb : v.ownBlock with
    | none => exact .inl rfl
    | some b => exact .inr (hne b hb))
end Go.Proofs.Ytljcgcllhcdleaa
/- A drawn region whose last operation (a counter's beginning) is taken ahead of all others. -/
namespace Go.Proofs.Ytljcgcllhcdleaa
open Go.RowKit
set_option linter.unusedSimpArgs false
set_option linter.unusedVariables false
section
variable {P : Program} {ops : Array Oper} {Q : Exit → Act → World → Prop}
theorem wpAny_flock_tail {ls : List Oper} {a : Act} {w : World} (n : Nat) (pr : Nat → Option Hv)
    (hl : ((List.range (ls.length - n)).all fun i => lastIn (ls.take (n + (i + 1))).toArray (n + i) && orderly (ls.take (n + (i + 1))).toArray) = true) (hn : decide (n ≤ ls.length) = true) (ho : orderly (ls.take n).toArray = true)
    (hf : flock P (ls.take n).toArray w pr (fun a' w' => wpList P ls.toArray Q (ls.drop n) a' w') 0 [] (ls.take n) a) : wpAny P .any ls.toArray Q ls.toArray.size (Array.replicate ls.toArray.size false) a w := by
  have hn := of_decide_eq_true hn
  rw [List.all_eq_true] at hl
  have hln : (ls.take n).length = n := by rw [List.length_take]; omega
  have htk : ∀ i, ls.take n ++ (ls.drop n).take i = ls.take (n + i) := fun i => by rw [List.take_add]
  have htd : ls.take n ++ ls.drop n = ls := List.take_append_drop n ls
  obtain ⟨Qh, h1, h2⟩ := tail_up (P := P) (ls.take n) _ (ls.drop n) Q rfl (fun i hi => by
      have := hl i (List.mem_range.2 (by simpa using hi))
      rw [Bool.and_eq_true] at this
      rw [htk, hln]
      exact this.1) (fun i hi => by
      cases i with
      | zero => simpa using ho
      | succ i =>
        have := hl i (List.mem_range.2 (by simp at hi; omega))
        rw [Bool.and_eq_true] at this
        rw [htk]
        exact this.2)
  rw [htd] at h1 h2
  have H := flock_start (Q := Qh) (l := ls.take n) (a := a) (w := w) (pr := pr) (flock_mono h1 _ 0 [] a hf) ho
  have h3 := h2 (ls.take n).length a w (by
    simp only [List.size_toArray] at H
    exact H)
  have e : (ls.take n).length + (ls.drop n).length = ls.toArray.size := by simp; omega
  rw [e] at h3
  exact h3
/-- operation p is the last one; nobody waits for it, no guard looks at it -/
def looseIn (ops : Array Oper) (p : Nat) : Bool :=
  decide (p + 1 = ops.size) && (List.range p).all fun k => match ops[k]? with
    | some o => o.after.all (fun e => decide (e.on < p)) && match o.guard with
      | some (g, _) => decide (g < p)
      | none => true
    | none => true
theorem looseIn_spec {p : Nat} (h : looseIn ops p = true) : p + 1 = ops.size ∧ ∀ k o, k < p → ops[k]? = some o → (∀ e ∈ o.after, e.on < p) ∧ ∀ g b, o.guard = some (g, b) → g < p := by
  unfold looseIn at h
  rw [Bool.and_eq_true, decide_eq_true_eq, List.all_eq_true] at h
  refine ⟨h.1, fun k o hk ho => ?_⟩
  have h2 := h.2 k (List.mem_range.2 hk)
  rw [ho] at h2
  simp only [Bool.and_eq_true, Array.all_eq_true_iff_forall_mem, decide_eq_true_eq] at h2
  refine ⟨h2.1, fun g b hg => ?_⟩
  have h3 := h2.2
  rw [hg] at h3
  simpa using h3
theorem loose_ready {p : Nat} (h : looseIn ops p = true) {listed : Array Bool} (hsz : listed.size = ops.size) {i : Nat} (hi : i < p) : i ∈ Region.ready .any ops listed ↔ i ∈ Region.ready .any ops.pop listed.pop := by
  obtain ⟨hp, hs⟩ := looseIn_spec h
  have hg : ∀ k b, k < p → listed.pop.getD k b = listed.getD k b := fun k b hk => by
    have h1 : k < listed.size := by omega
    have h2 : k < listed.size - 1 := by omega
    simp [Array.getD_eq_getD_getElem?, Array.getElem?_pop, h1, h2]
  rw [mem_ready, mem_ready, pop_get hp hi, hg i true hi]
  constructor
  · rintro ⟨h1, o, h2, h3⟩
    exact ⟨h1, o, h2, fun e he hb => by rw [hg e.on false ((hs i o hi h2).1 e he)]; exact h3 e he hb⟩
  · rintro ⟨h1, o, h2, h3⟩
    exact ⟨h1, o, h2, fun e he hb => by have := h3 e he hb; rwa [hg e.on false ((hs i o hi h2).1 e he)] at this⟩
theorem loose_wpOp {p i : Nat} (h : looseIn ops p = true) (hi : i < p) {K : Act → World → Prop} {a : Act} {w : World} (hh : Go.wpOp P ops.pop Q i K a w) : Go.wpOp P ops Q i K a w := by
  obtain ⟨hp, hs⟩ := looseIn_spec h
  unfold Go.wpOp at *
  rw [pop_get hp hi] at hh
  cases ho : ops[i]? with
  | none => rw [ho] at hh; exact hh
  | some o =>
    rw [ho] at hh
    simp only at hh ⊢
    rw [wanted_pop hp (hs i o hi ho).2] at hh
    exact hh
theorem loose_wpAny {p : Nat} (h : looseIn ops p = true) : ∀ (fuel : Nat) (listed : Array Bool) (a : Act) (w : World), listed.size = ops.size → listed.getD p true = true → wpAny P .any ops.pop Q fuel listed.pop a w → wpAny P .any ops Q fuel listed a w := by
  obtain ⟨hp, hs⟩ := looseIn_spec h
  have none_ : ∀ (listed : Array Bool), listed.size = ops.size → listed.getD p true = true → (Region.ready .any ops listed = [] ↔ Region.ready .any ops.pop listed.pop = []) := fun listed hsz hl => by
    constructor
    · intro h0
      cases hr : Region.ready .any ops.pop listed.pop with
      | nil => rfl
      | cons x xs =>
        have hm : x ∈ Region.ready .any ops.pop listed.pop := by rw [hr]; exact List.mem_cons_self
        obtain ⟨_, g2, g3, _⟩ := mem_ready.1 hm
        have hx : x < p := by
          have := (Array.getElem?_eq_some_iff.1 g3).1
          simp at this
          omega
        have := (loose_ready h hsz hx).2 hm
        rw [h0] at this; cases this
    · intro h0
      cases hr : Region.ready .any ops listed with
      | nil => rfl
      | cons x xs =>
        have hm : x ∈ Region.ready .any ops listed := by rw [hr]; exact List.mem_cons_self
        obtain ⟨g1, g2, g3, _⟩ := mem_ready.1 hm
        have hx : x < p := by
          have := (Array.getElem?_eq_some_iff.1 g3).1
          rcases Nat.lt_or_ge x p with h1 | h1
          · exact h1
          · have : x = p := by omega
            subst this
            rw [hl] at g1; cases g1
        have := (loose_ready h hsz hx).1 hm
        rw [h0] at this; cases this
  intro fuel
  induction fuel with
  | zero => intro listed a w hsz hl H; exact ⟨(none_ listed hsz hl).2 H.1, H.2⟩
  | succ fuel ih =>
    intro listed a w hsz hl H
    refine ⟨fun hr => H.1 ((none_ listed hsz hl).1 hr), fun i hi => ?_⟩
    obtain ⟨h1, o, h2, _⟩ := mem_ready.1 hi
    have hx : i < p := by
      have := (Array.getElem?_eq_some_iff.1 h2).1
      rcases Nat.lt_or_ge i p with h3 | h3
      · exact h3
      · have : i = p := by omega
        subst this
        rw [hl] at h1; cases h1
    refine wpOp_mono (fun a' w' h5 => ?_) (loose_wpOp h hx (H.2 i ((loose_ready h hsz hx).1 hi)))
    refine ih (listed.setIfInBounds i true) a' w' (by simpa using hsz) ?_ ?_
    · rw [getD_set_ne true (show ¬ i = p by omega)]; exact hl
    · rw [pop_set (show p + 1 = listed.size by omega) hx]; exact h5
/-- **the last operation, of which nobody hears, and that hears of nobody (a counter's beginning), ahead of all others** -/
theorem wp_region_first {id : Nat} {ls : List Oper} {a : Act} {w : World} (p : Nat) (v : Value) (d : Option Tmp) (hm : P.follows .mixedOrders = true) (hs : Region.noSelect ls.toArray = true) (h : looseIn ls.toArray p = true)
    (hf : Region.free .any ls.toArray (Array.replicate ls.toArray.size false) p = true) (hr : (Region.ready .any ls.toArray (Array.replicate ls.toArray.size false)).contains p = true)
    (hQ : ∀ c a w, Q (.panic c) (a.put d v) w → Q (.panic c) a w) (ho : ∃ o, ls.toArray[p]? = some o ∧ o.dst = d ∧ Yields P ls.toArray o v a)
    (hK : wpAny P .any (ls.dropLast).toArray Q (ls.dropLast).toArray.size (Array.replicate (ls.dropLast).toArray.size false) (a.put d v) w.drew) : (Code.region id ls.toArray true).wp P Q a w := by
  obtain ⟨o, hls, rfl, hy⟩ := ho
  obtain ⟨hp, _⟩ := looseIn_spec h
  refine wp_region_any hm ?_
  have e : ls.toArray.size = (ls.dropLast).toArray.size + 1 := by simp at hp ⊢; omega
  have e3 : ls.toArray.pop = (ls.dropLast).toArray := by simp
  rw [e]
  refine wpAny_take hls hs (by rw [← e]; exact hf) (by rw [← e]; exact hr) hQ hy ?_
  refine loose_wpAny h _ _ _ _ (by simp at hp ⊢; omega) (by simp at hp ⊢; try omega) ?_
  rw [e3]
  have e2 : ((Array.replicate ((ls.dropLast).toArray.size + 1) false).setIfInBounds p true).pop = Array.replicate (ls.dropLast).toArray.size false := by
    apply Array.ext_getElem?
    intro k
    simp only [Array.getElem?_pop, Array.getElem?_setIfInBounds, Array.getElem?_replicate, Array.size_setIfInBounds, Array.size_replicate]
    simp at hp
    by_cases hk : k < ls.length - 1
    · have : p ≠ k := by omega
      simp [this, hk]
      try omega
    · simp [hk]
      try omega
  rw [e2]
  exact hK
end
end Go.Proofs.Ytljcgcllhcdleaa
