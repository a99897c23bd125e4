import Derived.Test.YtpbflgemhcaooaaDoorTabText
import Derived.ChangeKeysEq
/- Chapter 2, the reference: a table's text. -/
namespace Go.Proofs.YtpbflgemhcaooaaDoor
open Go.RowKit
set_option linter.unusedSimpArgs false
set_option linter.unusedVariables false
def opsCells : Array Value := (([] :: Ev.opNames).map strV).toArray
theorem ops_at {k : Nat} (h : k < 18) : opsCells[k]? = some (strV (([] :: Ev.opNames).getD k [])) := by
  unfold opsCells
  rw [List.getElem?_toArray, List.getElem?_map, List.getD_eq_getElem?_getD]
  have : k < ([] :: Ev.opNames).length := h
  rw [List.getElem?_eq_getElem this]
  rfl
set_option maxHeartbeats 800000 in
theorem ops2_any (w : World) :
    Calls Tryd.prog 29 #[] w fun e w' => e = .returned (.tuple #[.slice (some ⟨w.heap.size, 0, none⟩) 18 18, .slice (some ⟨w.heap.size + 1, 0, none⟩) 18 18]) ∧ w' = (w.alloc (.cells opsCells 9)).alloc (.cells (Ev.opsMost.map (Value.int .i64)).toArray 3) := by
  go_enter Tryd.func29, Tryd.ntmps29
  go_wp2
  go_ret2
  exact ⟨rfl, rfl⟩
theorem wpList_index_at {ops : Array Oper} {rest : List Oper} {o : Oper} {a : Act} {w : World} {Q : Exit → Act → World → Prop} (hg : o.guard = none) (T : TypeId) (x y : Operand) (ho : o.op = Op.index T x y) {p i v : Value} (hx : a.eval x = p) (hy : a.eval y = i)
    (hl : (Go.Instr.index T p i).run Tryd.prog w = .ok v w) (h : wpList Tryd.prog ops Q rest (a.put o.dst v) w) : wpList Tryd.prog ops Q (o :: rest) a w := by
  refine wpList_plain hg fun K hK => ?_
  unfold Oper.wp
  simp [execOp, ho, hx, hy, hl, Result.andThen]
  exact hK _ _ h
theorem index_table {ta : Array Value} {j : Nat} {n : Int} (u : World) (hj : j < 18) (h : ta[j]? = some (.int .i64 n)) : (Go.Instr.index 56 (.agg ta) (.int .i64 (j : Int))).run Tryd.prog u = .ok (.int .i64 n) u := by
  have h1 : (sizeOf 3).run Tryd.prog u = .ok 1 u := by kernel_rfl
  have h3 : (j : Int) < 18 := by omega
  have h4 := Go.run_part_plain (P := Tryd.prog) (e := 3) (by kernel_rfl) h (w := u)
  simp [Go.Instr.index, asIntOf, run_underlying Tryd.underlying56, Sem.run_bind, h1, h3, h4]
  omega
theorem line_bytes2 (a nm it : List UInt8) : ((((⟨a.toArray⟩ : ByteArray) ++ (⟨nm.toArray⟩ : ByteArray)) ++ (⟨#[32]⟩ : ByteArray)) ++ (⟨it.toArray⟩ : ByteArray)) ++ (⟨#[10]⟩ : ByteArray) = ⟨(a ++ (nm ++ [32] ++ it ++ [10])).toArray⟩ := by
  apply ByteArray.ext
  simp
set_option maxRecDepth 4000 in
set_option maxHeartbeats 3200000 in
theorem refText_any (t : List Int) (w : World) (hv : Vars w) (ht : t.length = 18) (hr : ∀ x ∈ t, -9223372036854775808 ≤ x ∧ x ≤ 9223372036854775807) :
    Calls Tryd.prog 32 #[tableV t] w fun e w' => e = .returned (.tuple #[.string ⟨(Ev.textOf t).toArray⟩, .int .i64 (Ev.wrong t)]) ∧ Below w.heap.size w w' := by
  have HT := Lib.hid (box_table (w := w) ht 58)
  have CW := Lib.hid (fun u => refWrong_any t u ht hr)
  have HV := Lib.hid hv
  obtain ⟨wt, hwt⟩ : ∃ wt, Ev.wrong t = wt := ⟨_, rfl⟩
  have HXT := Lib.hid (show Ev.textOf t = if wt = 0 then Ev.ttext t else [] by unfold Ev.textOf; rw [hwt])
  rw [hwt]
  generalize Ev.textOf t = txt at *
  have HWB := Lib.hid (show wt = 0 → Ev.seenOf t 0 = 0 ∧ ∀ op : Nat, 1 ≤ op → op ≤ 17 → 0 ≤ t.getD op 0 ∧ t.getD op 0 ≤ 7 from fun h => Ev.wrong_bits (hwt.trans h))
  replace CW : Hid (∀ u : World, Calls Tryd.prog 37 #[tableV t] u fun e w' => e = .returned (.int .i64 wt) ∧ Below u.heap.size u w') := Lib.hid (fun u => by
    have h := CW.out u
    rw [hwt] at h
    exact h)
  clear hwt hv
  have HL := Lib.hid ht
  have HLD : Hid (∀ u, Below (w.alloc (.cells (t.map (Value.int .i64)).toArray 58)).heap.size (w.alloc (.cells (t.map (Value.int .i64)).toArray 58)) u → (Go.Instr.loadAt 58 (.pointer (some ⟨w.heap.size, 0, none⟩))).run Tryd.prog u = .ok (tableV t) u ∧ (Go.Instr.loadAt 56 (.pointer (some ⟨w.heap.size, 0, none⟩))).run Tryd.prog u = .ok (tableV t) u) := Lib.hid (fun u hu => ⟨load_box Tryd.underlying58 (by kernel_rfl) (by simp) (by rw [List.toList_toArray, List.length_map, ht]; kernel_rfl) (fun j v hj => by
      unfold World.cell?
      simp only [heap_alloc_new]
      exact hj) (by simp) hu, load_box Tryd.underlying56 (by kernel_rfl) (by simp) (by rw [List.toList_toArray, List.length_map, ht]; kernel_rfl) (fun j v hj => by
      unfold World.cell?
      simp only [heap_alloc_new]
      exact hj) (by simp) hu⟩)
  have HTA : Hid (∀ k, k < 18 → (t.map (Value.int .i64)).toArray[k]? = some (.int .i64 (t.getD k 0))) := Lib.hid (fun k hk => by
    rw [List.getElem?_toArray, List.getElem?_map, List.getD_eq_getElem?_getD, List.getElem?_eq_getElem (by omega)]
    rfl)
  have HTZ : Hid ((t.map (Value.int .i64)).toArray.size = 18) := Lib.hid (by simp [ht])
  unfold tableV at *
  generalize (t.map (Value.int .i64)).toArray = ta at *
  clear ht hr
  go_enter Tryd.func32, Tryd.ntmps32
  have bA : Below w.heap.size w (w.alloc (.cells ta 58)) := by (repeat' first | with_reducible (first | exact Below.refl _ _ | assumption | refine Below.alloc ?_ ?_ _ | refine below_drewN ?_ _ | refine Below.drew ?_ | refine Below.setCell ?_ ?_ _ | refine Below.trans ?_ (Below.mono (by with_reducible assumption) ?_)) | go_size)
  have zA : w.heap.size < (w.alloc (.cells ta 58)).heap.size := by simp
  go_upto_region 1 with fail
  generalize w.alloc (.cells ta 58) = wA at *
  go_upto_region 2 with (first | (refine wpList_load_box rfl 58 _ rfl rfl (HLD.out _ (Below.refl _ _)).1 ?_) | (go_at_call 37; refine (CW.out _).mono ?_; rintro e w1 ⟨rfl, hb1⟩))
  have s1 := bA.size
  have b1 : Below w.heap.size w w1 := bA.trans (hb1.mono s1)
  replace HT := Lib.hid (HT.out.stays hb1)
  replace HLD := Lib.hid (fun u (hu : Below w1.heap.size w1 u) => (HLD.out u (hb1.trans (hu.mono hb1.size))).2)
  have z1 := HT.out.lt
  clear hb1 bA zA s1
  by_cases h0 : wt = 0
  case neg =>
    have g0 : (wt != 0) = true := bne_iff_ne.2 h0
    obtain rfl : txt = [] := by rw [HXT.out, if_neg h0]
    clear h0 HXT
    go_wp2_with fail
    go_ret2
    exact ⟨rfl, b1⟩
  case pos =>
  subst h0
  obtain rfl : txt = Ev.ttext t := by rw [HXT.out, if_pos rfl]
  clear HXT
  have HB := HWB.out rfl
  clear HWB
  have s1 := b1.size
  go_upto_region 5 with (go_at_call 29; refine (ops2_any _).mono ?_; rintro e w2 ⟨rfl, hw2⟩; have HW2 := Lib.hid hw2; clear hw2)
  have hw2 := HW2.out
  clear HW2
  have HN0 : Hid (w2.heap[w1.heap.size]? = some (.cells opsCells 9 (0, 0))) := Lib.hid (by
    subst hw2
    have h := (Below.alloc (Below.refl _ (w1.alloc (.cells opsCells 9))) (Nat.le_refl _) (.cells (Ev.opsMost.map (Value.int .i64)).toArray 3)).block w1.heap.size (by simp)
    exact h.trans (heap_alloc_new _ _))
  have hb2 : Below w1.heap.size w1 w2 := by subst hw2; (repeat' first | with_reducible (first | exact Below.refl _ _ | assumption | refine Below.alloc ?_ ?_ _ | refine below_drewN ?_ _ | refine Below.drew ?_ | refine Below.setCell ?_ ?_ _ | refine Below.trans ?_ (Below.mono (by with_reducible assumption) ?_)) | go_size)
  have zn : w1.heap.size < w2.heap.size := by subst hw2; simp; omega
  have b2 : Below w.heap.size w w2 := b1.trans (hb2.mono s1)
  replace HT := Lib.hid (HT.out.stays hb2)
  clear hw2
  have s2 := b2.size
  go_upto_region 7 with (refine wpList_load_box rfl 56 _ rfl rfl (HLD.out _ hb2) ?_)
  clear HLD HT CW b1 z1 s1 hb2
  go_loopw [21, 7] (fun z sv wr => ∃ j : Nat, j ≤ 18 ∧ z = .int .i64 (j : Int) ∧ sv = .string ⟨(Ev.ttextTo t (j - 1)).toArray⟩ ∧ (Ev.ttextTo t (j - 1)).length ≤ 8 * j ∧ Below w2.heap.size w2 wr) (fun z _ _ => 18 - (intOf z).toNat)
  case atStart => exact ⟨0, by omega, rfl, rfl, Nat.le_refl _, by (repeat' first | with_reducible (first | exact Below.refl _ _ | assumption | refine Below.alloc ?_ ?_ _ | refine below_drewN ?_ _ | refine Below.drew ?_ | refine Below.setCell ?_ ?_ _ | refine Below.trans ?_ (Below.mono (by with_reducible assumption) ?_)) | go_size)⟩
  case round =>
    obtain ⟨j, hj, rfl, rfl, hal, hB⟩ := hrel
    have sB := hB.size
    by_cases hlt : j < 18
    case neg =>
      obtain rfl : j = 18 := by omega
      go_wp2_with fail
      go_ret2
      exact ⟨rfl, by (repeat' first | with_reducible (first | exact Below.refl _ _ | assumption | refine Below.alloc ?_ ?_ _ | refine below_drewN ?_ _ | refine Below.drew ?_ | refine Below.setCell ?_ ?_ _ | refine Below.trans ?_ (Below.mono (by with_reducible assumption) ?_)) | go_size)⟩
    case pos =>
    obtain ⟨n, hn⟩ : ∃ n, t.getD j 0 = n := ⟨_, rfl⟩
    have hta := HTA.out j hlt
    rw [hn] at hta
    have htz := HTZ.out
    have HIX := Lib.hid (fun u => index_table (ta := ta) (j := j) (n := n) u hlt hta)
    have hj18 : (j : Int) < 18 := by omega
    clear hta htz
    go_upto_region 9 with (refine wpList_index_at rfl _ _ _ rfl rfl rfl (HIX.out _) ?_)
    by_cases hn0 : n = 0
    · have g1 : decide (0 < n) = false := decide_eq_false (by omega)
      have HS2 := Lib.hid (show Ev.ttextTo t (j + 1 - 1) = Ev.ttextTo t (j - 1) by
        cases j with
        | zero => rfl
        | succ k => rw [Nat.add_sub_cancel, Nat.add_sub_cancel, Ev.text_step n hn, if_neg (by simpa using hn0)])
      clear hn0 hn
      generalize Ev.ttextTo t (j - 1) = a at *
      go_wp2_with fail
      go_roundw
      case rel => exact ⟨j + 1, by omega, by go_num, by rw [HS2.out], by rw [HS2.out]; omega, by (repeat' first | with_reducible (first | exact Below.refl _ _ | assumption | refine Below.alloc ?_ ?_ _ | refine below_drewN ?_ _ | refine Below.drew ?_ | refine Below.setCell ?_ ?_ _ | refine Below.trans ?_ (Below.mono (by with_reducible assumption) ?_)) | go_size)⟩
      case measure => simp [intOf]; omega
    · obtain ⟨k, rfl⟩ : ∃ k, j = k + 1 := ⟨j - 1, by
        rcases Nat.eq_zero_or_pos j with h0 | h0
        · exfalso
          rw [h0] at hn
          exact hn0 (hn.symm.trans HB.1)
        · omega⟩
      have hnb := HB.2 (k + 1) (by omega) (by omega)
      rw [hn] at hnb
      have g1 : decide (0 < n) = true := decide_eq_true (by omega)
      have HS2 := Lib.hid (show Ev.ttextTo t (k + 1 + 1 - 1) = Ev.ttextTo t (k + 1 - 1) ++ (Ev.opNames.getD k [] ++ [32] ++ Lib.itoa n ++ [10]) by
        rw [Nat.add_sub_cancel, Nat.add_sub_cancel, Ev.text_step n hn, if_pos hn0]; rfl)
      have nmk := ops_at (k := k + 1) (by omega)
      rw [show (([] : List UInt8) :: Ev.opNames).getD (k + 1) [] = Ev.opNames.getD k [] from rfl] at nmk
      have CI := Lib.hid (fun u hu => itoa_any n u (by omega) hu)
      have hln := Ev.name_len k (by omega)
      have hli : (Lib.itoa n).length ≤ 1 := Nat.le_of_eq (Ev.itoa_len hnb hn0)
      unfold strV at nmk
      have HNM := Lib.hid nmk
      clear nmk HIX
      generalize Ev.ttextTo t (k + 1 - 1) = a at *
      generalize Ev.opNames.getD k [] = nm at *
      generalize Lib.itoa n = it at *
      have HVr := Lib.hid (HV.out.stays (b2.trans (hB.mono s2)))
      have n1 : wr.cell? ⟨w1.heap.size, k + 1, none⟩ = some (.string ⟨(nm).toArray⟩) := (hB.cell (p := ⟨w1.heap.size, k + 1, none⟩) zn).trans ((cell_of_block HN0.out (k + 1)).trans HNM.out)
      have zr : w1.heap.size < wr.heap.size := by omega
      have m1 : (9223372036854775807 < a.length + nm.length) = False := by simp; omega
      have m2 : (9223372036854775807 < a.length + nm.length + 1) = False := by simp; omega
      have m3 : (9223372036854775807 < a.length + nm.length + 1 + it.length) = False := by simp; omega
      have m4 : (9223372036854775807 < a.length + nm.length + 1 + it.length + 1) = False := by simp; omega
      have hk17 : (k : Int) + 1 < 18 := by omega
      have hk16 : (0 : Int) ≤ (k : Int) + 1 := by omega
      clear hn0 hn
      go_upto_region 10 with fail
      generalize hwc : wr = wc at *
      refine wp_region_flock_tailW 11 (fun k => match k with | 8 => some (Hv.is (.string ⟨(it).toArray⟩)) | _ => none) (by kernel_rfl) (by kernel_rfl) (by kernel_rfl) (by kernel_rfl) ?_
      simp only [List.take_succ_cons, List.take_zero, List.drop_succ_cons, List.drop_zero]
      apply flock_light rfl
      case h => first | exact light_no (by rfl) | ((first | apply light_plain rfl | apply light_yes (by rfl)); intro w9 hw9; obtain ⟨hb9, hh9⟩ := hw9; skip; go_simp; try rfl)
      (try simp only [Act.put, List.setIfInBounds_toArray, List.set_cons_zero, List.set_cons_succ])
      apply flock_light rfl
      case h => first | exact light_no (by rfl) | ((first | apply light_plain rfl | apply light_yes (by rfl)); intro w9 hw9; obtain ⟨hb9, hh9⟩ := hw9; skip; go_simp; try rfl)
      (try simp only [Act.put, List.setIfInBounds_toArray, List.set_cons_zero, List.set_cons_succ])
      apply flock_light rfl
      case h => first | exact light_no (by rfl) | ((first | apply light_plain rfl | apply light_yes (by rfl)); intro w9 hw9; obtain ⟨hb9, hh9⟩ := hw9; skip; go_simp; try rfl)
      (try simp only [Act.put, List.setIfInBounds_toArray, List.set_cons_zero, List.set_cons_succ])
      apply flock_light rfl
      case h => first | exact light_no (by rfl) | ((first | apply light_plain rfl | apply light_yes (by rfl)); intro w9 hw9; obtain ⟨hb9, hh9⟩ := hw9; have hB9 : Below wc.heap.size wc w9 := (by (repeat' first | with_reducible (first | exact Below.refl _ _ | assumption | refine Below.alloc ?_ ?_ _ | refine below_drewN ?_ _ | refine Below.drew ?_ | refine Below.setCell ?_ ?_ _ | refine Below.trans ?_ (Below.mono (by with_reducible assumption) ?_)) | go_size)); obtain ⟨kc9, kf9, s9⟩ := bfacts hb9; obtain ⟨kd9, kg9, _⟩ := bfacts hB9; have n2 : w9.cell? ⟨w1.heap.size, k + 1, none⟩ = some (.string ⟨(nm).toArray⟩) := (kd9 _ _ zr).trans n1; go_simp; try rfl)
      (try simp only [Act.put, List.setIfInBounds_toArray, List.set_cons_zero, List.set_cons_succ])
      apply flock_light rfl
      case h => first | exact light_no (by rfl) | ((first | apply light_plain rfl | apply light_yes (by rfl)); intro w9 hw9; obtain ⟨hb9, hh9⟩ := hw9; have hB9 : Below wc.heap.size wc w9 := (by (repeat' first | with_reducible (first | exact Below.refl _ _ | assumption | refine Below.alloc ?_ ?_ _ | refine below_drewN ?_ _ | refine Below.drew ?_ | refine Below.setCell ?_ ?_ _ | refine Below.trans ?_ (Below.mono (by with_reducible assumption) ?_)) | go_size)); obtain ⟨kc9, kf9, s9⟩ := bfacts hb9; obtain ⟨kd9, kg9, _⟩ := bfacts hB9; have n2 : w9.cell? ⟨w1.heap.size, k + 1, none⟩ = some (.string ⟨(nm).toArray⟩) := (kd9 _ _ zr).trans n1; go_simp; try rfl)
      (try simp only [Act.put, List.setIfInBounds_toArray, List.set_cons_zero, List.set_cons_succ])
      apply flock_light rfl
      case h => first | exact light_no (by rfl) | ((first | apply light_plain rfl | apply light_yes (by rfl)); intro w9 hw9; obtain ⟨hb9, hh9⟩ := hw9; skip; go_simp; try rfl)
      (try simp only [Act.put, List.setIfInBounds_toArray, List.set_cons_zero, List.set_cons_succ])
      apply flock_light rfl
      case h => first | exact light_no (by rfl) | ((first | apply light_plain rfl | apply light_yes (by rfl)); intro w9 hw9; obtain ⟨hb9, hh9⟩ := hw9; skip; go_simp; try rfl)
      (try simp only [Act.put, List.setIfInBounds_toArray, List.set_cons_zero, List.set_cons_succ])
      apply flock_light rfl
      case h => first | exact light_no (by rfl) | ((first | apply light_plain rfl | apply light_yes (by rfl)); intro w9 hw9; obtain ⟨hb9, hh9⟩ := hw9; skip; go_simp; try rfl)
      (try simp only [Act.put, List.setIfInBounds_toArray, List.set_cons_zero, List.set_cons_succ])
      refine flock_heavy _ rfl ?_ ?_
      · intro w9 hb9 hh9
        have hB9 : Below wc.heap.size wc w9 := (by (repeat' first | with_reducible (first | exact Below.refl _ _ | assumption | refine Below.alloc ?_ ?_ _ | refine below_drewN ?_ _ | refine Below.drew ?_ | refine Below.setCell ?_ ?_ _ | refine Below.trans ?_ (Below.mono (by with_reducible assumption) ?_)) | go_size))
        obtain ⟨kc9, kf9, s9⟩ := bfacts hb9
        obtain ⟨kd9, kg9, _⟩ := bfacts hB9
        have n2 : w9.cell? ⟨w1.heap.size, k + 1, none⟩ = some (.string ⟨(nm).toArray⟩) := (kd9 _ _ zr).trans n1
        go_wp2_with (go_at_call 75; refine (CI.out _ (HVr.out.stays (by (repeat' first | with_reducible (first | exact Below.refl _ _ | assumption | refine Below.alloc ?_ ?_ _ | refine below_drewN ?_ _ | refine Below.drew ?_ | refine Below.setCell ?_ ?_ _ | refine Below.trans ?_ (Below.mono (by with_reducible assumption) ?_)) | go_size)))).mono ?_; rintro e w6 ⟨rfl, hb6⟩)
        refine grewTo_at (by rfl) (by (repeat' first | with_reducible (first | exact Below.refl _ _ | assumption | refine Below.alloc ?_ ?_ _ | refine below_drewN ?_ _ | refine Below.drew ?_ | refine Below.setCell ?_ ?_ _ | refine Below.trans ?_ (Below.mono (by with_reducible assumption) ?_)) | go_size)) ?_
        exact rfl
      intro x8 ok8
      (try simp only [Act.put, List.setIfInBounds_toArray, List.set_cons_zero, List.set_cons_succ])
      (try dsimp only [Hv.own, Hv.is, Hv.lit, Hv.box, Hv.sl] at ok8)
      first | subst ok8 | (obtain ⟨A8, c8, ok8⟩ := ok8; subst ok8) | (obtain ⟨A8, ok8⟩ := ok8; subst ok8) | skip
      apply flock_light rfl
      case h => first | exact light_no (by rfl) | ((first | apply light_plain rfl | apply light_yes (by rfl)); intro w9 hw9; obtain ⟨hb9, hh9⟩ := hw9; have hB9 : Below wc.heap.size wc w9 := (by (repeat' first | with_reducible (first | exact Below.refl _ _ | assumption | refine Below.alloc ?_ ?_ _ | refine below_drewN ?_ _ | refine Below.drew ?_ | refine Below.setCell ?_ ?_ _ | refine Below.trans ?_ (Below.mono (by with_reducible assumption) ?_)) | go_size)); obtain ⟨kc9, kf9, s9⟩ := bfacts hb9; obtain ⟨kd9, kg9, _⟩ := bfacts hB9; have r8 := hh9 _ (.head _) (by kernel_rfl); dsimp only [Hv.own, Hv.is, Hv.lit, Hv.box, Hv.sl] at r8; (first | replace r8 := lit_heap r8 | replace r8 := box_heap r8 | skip); have n2 : w9.cell? ⟨w1.heap.size, k + 1, none⟩ = some (.string ⟨(nm).toArray⟩) := (kd9 _ _ zr).trans n1; go_simp; try rfl)
      (try simp only [Act.put, List.setIfInBounds_toArray, List.set_cons_zero, List.set_cons_succ])
      apply flock_light rfl
      case h => first | exact light_no (by rfl) | ((first | apply light_plain rfl | apply light_yes (by rfl)); intro w9 hw9; obtain ⟨hb9, hh9⟩ := hw9; have hB9 : Below wc.heap.size wc w9 := (by (repeat' first | with_reducible (first | exact Below.refl _ _ | assumption | refine Below.alloc ?_ ?_ _ | refine below_drewN ?_ _ | refine Below.drew ?_ | refine Below.setCell ?_ ?_ _ | refine Below.trans ?_ (Below.mono (by with_reducible assumption) ?_)) | go_size)); obtain ⟨kc9, kf9, s9⟩ := bfacts hb9; obtain ⟨kd9, kg9, _⟩ := bfacts hB9; have r8 := hh9 _ (.head _) (by kernel_rfl); dsimp only [Hv.own, Hv.is, Hv.lit, Hv.box, Hv.sl] at r8; (first | replace r8 := lit_heap r8 | replace r8 := box_heap r8 | skip); have n2 : w9.cell? ⟨w1.heap.size, k + 1, none⟩ = some (.string ⟨(nm).toArray⟩) := (kd9 _ _ zr).trans n1; go_simp; try rfl)
      (try simp only [Act.put, List.setIfInBounds_toArray, List.set_cons_zero, List.set_cons_succ])
      refine flock_nil ?_
      intro w9 hb9 hh9
      have hB9 : Below wc.heap.size wc w9 := (by (repeat' first | with_reducible (first | exact Below.refl _ _ | assumption | refine Below.alloc ?_ ?_ _ | refine below_drewN ?_ _ | refine Below.drew ?_ | refine Below.setCell ?_ ?_ _ | refine Below.trans ?_ (Below.mono (by with_reducible assumption) ?_)) | go_size))
      have r8 := hh9 _ (.head _); dsimp only [Hv.own, Hv.is, Hv.lit, Hv.box, Hv.sl] at r8; (first | replace r8 := lit_heap r8 | replace r8 := box_heap r8 | skip); clear hh9
      (try dsimp only)
      have s9 := hB9.size
      have b9 : Below w2.heap.size w2 w9 := hB.trans (hB9.mono sB)
      clear r8 hb9 hB9
      go_wp2_with fail
      go_roundw
      case rel => exact ⟨k + 1 + 1, by omega, by go_num, by rw [HS2.out, ← line_bytes2], by rw [HS2.out]; simp; omega, b9⟩
      case measure => simp [intOf]; omega
end Go.Proofs.YtpbflgemhcaooaaDoor
