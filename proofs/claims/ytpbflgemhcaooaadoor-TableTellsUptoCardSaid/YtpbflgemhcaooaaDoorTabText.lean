import Derived.Test.YtpbflgemhcaooaaDoorTable
import Derived.Test.YtpbflgemhcaooaaDoorBox
import Derived.Test.YtpbflgemhcaooaaDoorHvBase
import Derived.Test.YtpbflgemhcaooaaDoorFlockW
/- Chapter 2: a table's text. -/
namespace Ev
open Go
theorem text_step {t : List Int} {k : Nat} (n : Int) (hn : t.getD (k + 1) 0 = n) : ttextTo t (k + 1) = if n ≠ 0 then ttextTo t k ++ tlineOf (k + 1) n else ttextTo t k := by
  conv => lhs; unfold ttextTo
  rw [hn]
  split
  · rfl
  · rw [List.append_nil]
theorem name_len : ∀ k, k < 17 → (opNames.getD k []).length ≤ 5 := by decide
theorem itoa_len {n : Int} (h : 0 ≤ n ∧ n ≤ 7) (h0 : n ≠ 0) : (Lib.itoa n).length = 1 := by
  obtain ⟨m, rfl⟩ : ∃ m : Nat, n = m := ⟨n.toNat, by omega⟩
  rw [(digits_good m (by omega) (by omega)).1]
  rfl
theorem ttext_len {t : List Int} (h : wrong t = 0) : (ttext t).length ≤ 136 := by
  obtain ⟨_, hb⟩ := wrong_bits h
  have : ∀ k, k ≤ 17 → (ttextTo t k).length ≤ 8 * k := by
    intro k
    induction k with
    | zero => intro _; exact Nat.le_refl _
    | succ k ih =>
      intro hk
      have h1 := ih (by omega)
      rw [text_step _ rfl]
      split
      · rename_i hn
        have h2 := itoa_len (hb (k + 1) (by omega) hk) hn
        have h3 := name_len k (by omega)
        unfold tlineOf
        rw [List.length_append, List.length_append, List.length_append, List.length_append, h2, Nat.add_sub_cancel]
        simp only [List.length_cons, List.length_nil]
        omega
      · omega
  exact this 17 (Nat.le_refl _)
def textOf (t : List Int) : List UInt8 := if wrong t = 0 then ttext t else []
end Ev
namespace Go.Proofs.YtpbflgemhcaooaaDoor
open Go.RowKit
set_option linter.unusedSimpArgs false
set_option linter.unusedVariables false
theorem bytes_app (a b : List UInt8) : (⟨a.toArray⟩ : ByteArray) ++ (⟨b.toArray⟩ : ByteArray) = ⟨(a ++ b).toArray⟩ := by
  apply ByteArray.ext
  simp
theorem line_bytes (a nm it : List UInt8) : (⟨a.toArray⟩ : ByteArray) ++ ((⟨nm.toArray⟩ : ByteArray) ++ (⟨#[32]⟩ : ByteArray) ++ (⟨it.toArray⟩ : ByteArray) ++ (⟨#[10]⟩ : ByteArray)) = ⟨(a ++ (nm ++ [32] ++ it ++ [10])).toArray⟩ := by
  apply ByteArray.ext
  simp
theorem names_at {k : Nat} (h : k < 17) : namesCells[k]? = some (strV (Ev.opNames.getD k [])) := by
  unfold namesCells
  rw [List.getElem?_toArray, List.getElem?_map, List.getD_eq_getElem?_getD]
  have : k < Ev.opNames.length := h
  rw [List.getElem?_eq_getElem this]
  rfl
set_option maxRecDepth 4000 in
set_option maxHeartbeats 3200000 in
theorem text_any (t : List Int) (w : World) (hv : Vars w) (ht : t.length = 18) (hr : ∀ x ∈ t, -9223372036854775808 ≤ x ∧ x ≤ 9223372036854775807) :
    Calls Tryd.prog 31 #[tableV t] w fun e w' => e = .returned (.tuple #[.string ⟨(Ev.textOf t).toArray⟩, .int .i64 (Ev.wrong t)]) ∧ Below w.heap.size w w' := by
  have HT := Lib.hid (box_table (w := w) ht 58)
  have CW := Lib.hid (fun u => wrongP_any t u ht hr)
  have HV := Lib.hid hv
  obtain ⟨wt, hwt⟩ : ∃ wt, Ev.wrong t = wt := ⟨_, rfl⟩
  have HXT := Lib.hid (show Ev.textOf t = if wt = 0 then Ev.ttext t else [] by unfold Ev.textOf; rw [hwt])
  rw [hwt]
  generalize Ev.textOf t = txt at *
  have HWB := Lib.hid (show wt = 0 → Ev.seenOf t 0 = 0 ∧ ∀ op : Nat, 1 ≤ op → op ≤ 17 → 0 ≤ t.getD op 0 ∧ t.getD op 0 ≤ 7 from fun h => Ev.wrong_bits (hwt.trans h))
  replace CW : Hid (∀ u : World, Calls Tryd.prog 36 #[tableV t] u fun e w' => e = .returned (.int .i64 wt) ∧ Below u.heap.size u w') := Lib.hid (fun u => by
    have h := CW.out u
    rw [hwt] at h
    exact h)
  clear hwt hv
  have HL := Lib.hid ht
  have HLD : Hid ((Go.Instr.loadAt 58 (.pointer (some ⟨w.heap.size, 0, none⟩))).run Tryd.prog (w.alloc (.cells (t.map (Value.int .i64)).toArray 58)) = .ok (tableV t) (w.alloc (.cells (t.map (Value.int .i64)).toArray 58))) := Lib.hid (load_box Tryd.underlying58 (by kernel_rfl) (by simp) (by rw [List.toList_toArray, List.length_map, ht]; kernel_rfl) (fun j v hj => by
      unfold World.cell?
      simp only [heap_alloc_new]
      exact hj) (by simp) (Below.refl _ _))
  unfold tableV at *
  generalize (t.map (Value.int .i64)).toArray = ta at *
  clear ht hr
  go_enter Tryd.func31, Tryd.ntmps31
  have bA : Below w.heap.size w (w.alloc (.cells ta 58)) := by (repeat' first | with_reducible (first | exact Below.refl _ _ | assumption | refine Below.alloc ?_ ?_ _ | refine below_drewN ?_ _ | refine Below.drew ?_ | refine Below.setCell ?_ ?_ _ | refine Below.trans ?_ (Below.mono (by with_reducible assumption) ?_)) | go_size)
  have zA : w.heap.size < (w.alloc (.cells ta 58)).heap.size := by simp
  go_upto_region 1 with fail
  generalize w.alloc (.cells ta 58) = wA at *
  go_upto_region 2 with (first | (refine wpList_load_box rfl 58 _ rfl rfl HLD.out ?_) | (go_at_call 36; refine (CW.out _).mono ?_; rintro e w1 ⟨rfl, hb1⟩))
  have s1 := bA.size
  have b1 : Below w.heap.size w w1 := bA.trans (hb1.mono s1)
  replace HT := Lib.hid (HT.out.stays hb1)
  have z1 := HT.out.lt
  clear hb1 HLD bA zA s1
  by_cases h0 : wt = 0
  case neg =>
    have g0 : (wt != 0) = true := bne_iff_ne.2 h0
    obtain rfl : txt = [] := by rw [HXT.out, if_neg h0]
    clear h0 HXT
    go_wp2_with fail
    go_ret2
    exact ⟨rfl, b1⟩
  case pos =>
  subst h0
  obtain rfl : txt = Ev.ttext t := by rw [HXT.out, if_pos rfl]
  clear HXT
  have HB := Lib.hid (HWB.out rfl).2
  clear HWB
  have s1 := b1.size
  go_wp2_with fail
  go_loopw [6, 5] (fun z sv wr => ∃ k : Nat, k ≤ 17 ∧ z = .int .i64 ((k : Int) + 1) ∧ sv = .string ⟨(Ev.ttextTo t k).toArray⟩ ∧ (Ev.ttextTo t k).length ≤ 8 * k ∧ Below w1.heap.size w1 wr) (fun z _ _ => 18 - (intOf z).toNat)
  case atStart => exact ⟨0, by omega, rfl, rfl, Nat.le_refl _, by (repeat' first | with_reducible (first | exact Below.refl _ _ | assumption | refine Below.alloc ?_ ?_ _ | refine below_drewN ?_ _ | refine Below.drew ?_ | refine Below.setCell ?_ ?_ _ | refine Below.trans ?_ (Below.mono (by with_reducible assumption) ?_)) | go_size)⟩
  case round =>
    obtain ⟨k, hk, rfl, rfl, hal, hB⟩ := hrel
    have sB := hB.size
    by_cases hlt : k < 17
    case neg =>
      obtain rfl : k = 17 := by omega
      go_wp2_with fail
      go_ret2
      exact ⟨rfl, by (repeat' first | with_reducible (first | exact Below.refl _ _ | assumption | refine Below.alloc ?_ ?_ _ | refine below_drewN ?_ _ | refine Below.drew ?_ | refine Below.setCell ?_ ?_ _ | refine Below.trans ?_ (Below.mono (by with_reducible assumption) ?_)) | go_size)⟩
    case pos =>
    have hk17 : (k : Int) < 17 := by omega
    have hk18 : (0 : Int) ≤ (k : Int) + 1 := by omega
    have hk19 : (k : Int) + 1 < 18 := by omega
    have hwk : IntKind.i64.wrap (k : Int) = (k : Int) := by rw [IntKind.wrap_i64]; omega
    have g17 : decide ((k : Int) + 1 ≤ 17) = true := decide_eq_true (by omega)
    obtain ⟨n, hn⟩ : ∃ n, t.getD (k + 1) 0 = n := ⟨_, rfl⟩
    have hnb := HB.out (k + 1) (by omega) (by omega)
    rw [hn] at hnb
    have HST := Lib.hid (Ev.text_step n hn)
    have c1 : wr.cell? ⟨w.heap.size, k + 1, none⟩ = some (.int .i64 n) := by
      have := HT.out.cell (k + 1) (by omega)
      rw [hn] at this
      exact (hB.cell (p := ⟨w.heap.size, k + 1, none⟩) z1).trans this
    clear hn
    by_cases hn0 : n = 0
    · have g1 : (n != 0) = false := by rw [hn0]; rfl
      have HS2 := Lib.hid (show Ev.ttextTo t (k + 1) = Ev.ttextTo t k by rw [HST.out, if_neg (by simpa using hn0)])
      generalize Ev.ttextTo t k = a at *
      clear hn0 HST
      go_wp2_with fail
      go_roundw
      case rel => exact ⟨k + 1, by omega, by go_num, by rw [HS2.out], by rw [HS2.out]; omega, by (repeat' first | with_reducible (first | exact Below.refl _ _ | assumption | refine Below.alloc ?_ ?_ _ | refine below_drewN ?_ _ | refine Below.drew ?_ | refine Below.setCell ?_ ?_ _ | refine Below.trans ?_ (Below.mono (by with_reducible assumption) ?_)) | go_size)⟩
      case measure => simp [intOf]; omega
    · have g1 : (n != 0) = true := bne_iff_ne.2 hn0
      have HS2 := Lib.hid (show Ev.ttextTo t (k + 1) = Ev.ttextTo t k ++ (Ev.opNames.getD k [] ++ [32] ++ Lib.itoa n ++ [10]) by rw [HST.out, if_pos hn0]; rfl)
      have nmk := names_at (k := k) (by omega)
      have CI := Lib.hid (fun u hu => itoa_any n u (by omega) hu)
      have hln := Ev.name_len k hlt
      have hli : (Lib.itoa n).length ≤ 1 := Nat.le_of_eq (Ev.itoa_len hnb hn0)
      unfold strV at nmk
      have HNM := Lib.hid nmk
      clear nmk
      generalize Ev.ttextTo t k = a at *
      generalize Ev.opNames.getD k [] = nm at *
      generalize Lib.itoa n = it at *
      clear hn0 HST
      have hVr := HV.out.stays (b1.trans (hB.mono s1))
      have HVr := Lib.hid hVr
      clear hVr
      have m1 : (9223372036854775807 < nm.length + 1) = False := by simp; omega
      have m2 : (9223372036854775807 < nm.length + 1 + it.length) = False := by simp; omega
      have m3 : (9223372036854775807 < nm.length + 1 + it.length + 1) = False := by simp; omega
      have m4 : (9223372036854775807 < a.length + (nm.length + 1 + it.length + 1)) = False := by simp; omega
      go_upto_region 9 with fail
      have bw : Below wr.heap.size wr wr := Below.refl _ _
      have zt : w.heap.size < wr.heap.size := by omega
      generalize hwc : wr = wc at *
      refine wp_region_flock_tailW 15 (fun k => match k with | 1 => some (Hv.lit namesCells 9 17) | 11 => some (Hv.is (.string ⟨(it).toArray⟩)) | _ => none) (by kernel_rfl) (by kernel_rfl) (by kernel_rfl) (by kernel_rfl) ?_
      simp only [List.take_succ_cons, List.take_zero, List.drop_succ_cons, List.drop_zero]
      apply flock_light rfl
      case h => first | exact light_no (by rfl) | ((first | apply light_plain rfl | apply light_yes (by rfl)); intro w9 hw9; obtain ⟨hb9, hh9⟩ := hw9; skip; go_simp; try rfl)
      (try simp only [Act.put, List.setIfInBounds_toArray, List.set_cons_zero, List.set_cons_succ])
      refine flock_heavy _ rfl ?_ ?_
      · intro w9 hb9 hh9
        have hB9 : Below wc.heap.size wc w9 := (by (repeat' first | with_reducible (first | exact Below.refl _ _ | assumption | refine Below.alloc ?_ ?_ _ | refine below_drewN ?_ _ | refine Below.drew ?_ | refine Below.setCell ?_ ?_ _ | refine Below.trans ?_ (Below.mono (by with_reducible assumption) ?_)) | go_size))
        obtain ⟨kc9, kf9, s9⟩ := bfacts hb9
        obtain ⟨kd9, kg9, _⟩ := bfacts hB9
        (try have n1 : w9.cell? ⟨A1, k, none⟩ = some (.string ⟨(nm).toArray⟩) := (cell_of_block r1 k).trans HNM.out); have t1 : w9.cell? ⟨w.heap.size, k + 1, none⟩ = some (.int .i64 n) := (kd9 _ _ zt).trans c1
        go_wp2_with (go_at_call 30; refine (names_any _).mono ?_; rintro e w6 ⟨rfl, rfl⟩)
        refine grewTo_at (by rfl) (by (repeat' first | with_reducible (first | exact Below.refl _ _ | assumption | refine Below.alloc ?_ ?_ _ | refine below_drewN ?_ _ | refine Below.drew ?_ | refine Below.setCell ?_ ?_ _ | refine Below.trans ?_ (Below.mono (by with_reducible assumption) ?_)) | go_size)) ?_
        exact ⟨_, rfl, heap_alloc_new _ _⟩
      intro x1 ok1
      (try simp only [Act.put, List.setIfInBounds_toArray, List.set_cons_zero, List.set_cons_succ])
      (try dsimp only [Hv.own, Hv.is, Hv.lit, Hv.box, Hv.sl] at ok1)
      first | subst ok1 | (obtain ⟨A1, c1, ok1⟩ := ok1; subst ok1) | (obtain ⟨A1, ok1⟩ := ok1; subst ok1) | skip
      apply flock_light rfl
      case h => first | exact light_no (by rfl) | ((first | apply light_plain rfl | apply light_yes (by rfl)); intro w9 hw9; obtain ⟨hb9, hh9⟩ := hw9; skip; go_simp; try rfl)
      (try simp only [Act.put, List.setIfInBounds_toArray, List.set_cons_zero, List.set_cons_succ])
      apply flock_light rfl
      case h => first | exact light_no (by rfl) | ((first | apply light_plain rfl | apply light_yes (by rfl)); intro w9 hw9; obtain ⟨hb9, hh9⟩ := hw9; skip; go_simp; try rfl)
      (try simp only [Act.put, List.setIfInBounds_toArray, List.set_cons_zero, List.set_cons_succ])
      apply flock_light rfl
      case h => first | exact light_no (by rfl) | ((first | apply light_plain rfl | apply light_yes (by rfl)); intro w9 hw9; obtain ⟨hb9, hh9⟩ := hw9; have hB9 : Below wc.heap.size wc w9 := (by (repeat' first | with_reducible (first | exact Below.refl _ _ | assumption | refine Below.alloc ?_ ?_ _ | refine below_drewN ?_ _ | refine Below.drew ?_ | refine Below.setCell ?_ ?_ _ | refine Below.trans ?_ (Below.mono (by with_reducible assumption) ?_)) | go_size)); obtain ⟨kc9, kf9, s9⟩ := bfacts hb9; obtain ⟨kd9, kg9, _⟩ := bfacts hB9; have r1 := hh9 _ (.head _) (by kernel_rfl); dsimp only [Hv.own, Hv.is, Hv.lit, Hv.box, Hv.sl] at r1; (first | replace r1 := lit_heap r1 | replace r1 := box_heap r1 | skip); (try have n1 : w9.cell? ⟨A1, k, none⟩ = some (.string ⟨(nm).toArray⟩) := (cell_of_block r1 k).trans HNM.out); have t1 : w9.cell? ⟨w.heap.size, k + 1, none⟩ = some (.int .i64 n) := (kd9 _ _ zt).trans c1; go_simp; try rfl)
      (try simp only [Act.put, List.setIfInBounds_toArray, List.set_cons_zero, List.set_cons_succ])
      apply flock_light rfl
      case h => first | exact light_no (by rfl) | ((first | apply light_plain rfl | apply light_yes (by rfl)); intro w9 hw9; obtain ⟨hb9, hh9⟩ := hw9; have hB9 : Below wc.heap.size wc w9 := (by (repeat' first | with_reducible (first | exact Below.refl _ _ | assumption | refine Below.alloc ?_ ?_ _ | refine below_drewN ?_ _ | refine Below.drew ?_ | refine Below.setCell ?_ ?_ _ | refine Below.trans ?_ (Below.mono (by with_reducible assumption) ?_)) | go_size)); obtain ⟨kc9, kf9, s9⟩ := bfacts hb9; obtain ⟨kd9, kg9, _⟩ := bfacts hB9; have r1 := hh9 _ (.head _) (by kernel_rfl); dsimp only [Hv.own, Hv.is, Hv.lit, Hv.box, Hv.sl] at r1; (first | replace r1 := lit_heap r1 | replace r1 := box_heap r1 | skip); (try have n1 : w9.cell? ⟨A1, k, none⟩ = some (.string ⟨(nm).toArray⟩) := (cell_of_block r1 k).trans HNM.out); have t1 : w9.cell? ⟨w.heap.size, k + 1, none⟩ = some (.int .i64 n) := (kd9 _ _ zt).trans c1; go_simp; try rfl)
      (try simp only [Act.put, List.setIfInBounds_toArray, List.set_cons_zero, List.set_cons_succ])
      apply flock_light rfl
      case h => first | exact light_no (by rfl) | ((first | apply light_plain rfl | apply light_yes (by rfl)); intro w9 hw9; obtain ⟨hb9, hh9⟩ := hw9; have hB9 : Below wc.heap.size wc w9 := (by (repeat' first | with_reducible (first | exact Below.refl _ _ | assumption | refine Below.alloc ?_ ?_ _ | refine below_drewN ?_ _ | refine Below.drew ?_ | refine Below.setCell ?_ ?_ _ | refine Below.trans ?_ (Below.mono (by with_reducible assumption) ?_)) | go_size)); obtain ⟨kc9, kf9, s9⟩ := bfacts hb9; obtain ⟨kd9, kg9, _⟩ := bfacts hB9; have r1 := hh9 _ (.head _) (by kernel_rfl); dsimp only [Hv.own, Hv.is, Hv.lit, Hv.box, Hv.sl] at r1; (first | replace r1 := lit_heap r1 | replace r1 := box_heap r1 | skip); (try have n1 : w9.cell? ⟨A1, k, none⟩ = some (.string ⟨(nm).toArray⟩) := (cell_of_block r1 k).trans HNM.out); have t1 : w9.cell? ⟨w.heap.size, k + 1, none⟩ = some (.int .i64 n) := (kd9 _ _ zt).trans c1; go_simp; try rfl)
      (try simp only [Act.put, List.setIfInBounds_toArray, List.set_cons_zero, List.set_cons_succ])
      apply flock_light rfl
      case h => first | exact light_no (by rfl) | ((first | apply light_plain rfl | apply light_yes (by rfl)); intro w9 hw9; obtain ⟨hb9, hh9⟩ := hw9; skip; go_simp; try rfl)
      (try simp only [Act.put, List.setIfInBounds_toArray, List.set_cons_zero, List.set_cons_succ])
      apply flock_light rfl
      case h => first | exact light_no (by rfl) | ((first | apply light_plain rfl | apply light_yes (by rfl)); intro w9 hw9; obtain ⟨hb9, hh9⟩ := hw9; skip; go_simp; try rfl)
      (try simp only [Act.put, List.setIfInBounds_toArray, List.set_cons_zero, List.set_cons_succ])
      apply flock_light rfl
      case h => first | exact light_no (by rfl) | ((first | apply light_plain rfl | apply light_yes (by rfl)); intro w9 hw9; obtain ⟨hb9, hh9⟩ := hw9; have hB9 : Below wc.heap.size wc w9 := (by (repeat' first | with_reducible (first | exact Below.refl _ _ | assumption | refine Below.alloc ?_ ?_ _ | refine below_drewN ?_ _ | refine Below.drew ?_ | refine Below.setCell ?_ ?_ _ | refine Below.trans ?_ (Below.mono (by with_reducible assumption) ?_)) | go_size)); obtain ⟨kc9, kf9, s9⟩ := bfacts hb9; obtain ⟨kd9, kg9, _⟩ := bfacts hB9; (try have n1 : w9.cell? ⟨A1, k, none⟩ = some (.string ⟨(nm).toArray⟩) := (cell_of_block r1 k).trans HNM.out); have t1 : w9.cell? ⟨w.heap.size, k + 1, none⟩ = some (.int .i64 n) := (kd9 _ _ zt).trans c1; go_simp; try rfl)
      (try simp only [Act.put, List.setIfInBounds_toArray, List.set_cons_zero, List.set_cons_succ])
      apply flock_light rfl
      case h => first | exact light_no (by rfl) | ((first | apply light_plain rfl | apply light_yes (by rfl)); intro w9 hw9; obtain ⟨hb9, hh9⟩ := hw9; have hB9 : Below wc.heap.size wc w9 := (by (repeat' first | with_reducible (first | exact Below.refl _ _ | assumption | refine Below.alloc ?_ ?_ _ | refine below_drewN ?_ _ | refine Below.drew ?_ | refine Below.setCell ?_ ?_ _ | refine Below.trans ?_ (Below.mono (by with_reducible assumption) ?_)) | go_size)); obtain ⟨kc9, kf9, s9⟩ := bfacts hb9; obtain ⟨kd9, kg9, _⟩ := bfacts hB9; (try have n1 : w9.cell? ⟨A1, k, none⟩ = some (.string ⟨(nm).toArray⟩) := (cell_of_block r1 k).trans HNM.out); have t1 : w9.cell? ⟨w.heap.size, k + 1, none⟩ = some (.int .i64 n) := (kd9 _ _ zt).trans c1; go_simp; try rfl)
      (try simp only [Act.put, List.setIfInBounds_toArray, List.set_cons_zero, List.set_cons_succ])
      refine flock_heavy _ rfl ?_ ?_
      · intro w9 hb9 hh9
        have hB9 : Below wc.heap.size wc w9 := (by (repeat' first | with_reducible (first | exact Below.refl _ _ | assumption | refine Below.alloc ?_ ?_ _ | refine below_drewN ?_ _ | refine Below.drew ?_ | refine Below.setCell ?_ ?_ _ | refine Below.trans ?_ (Below.mono (by with_reducible assumption) ?_)) | go_size))
        obtain ⟨kc9, kf9, s9⟩ := bfacts hb9
        obtain ⟨kd9, kg9, _⟩ := bfacts hB9
        have r1 := hh9 _ (.head _) (by kernel_rfl); dsimp only [Hv.own, Hv.is, Hv.lit, Hv.box, Hv.sl] at r1; (first | replace r1 := lit_heap r1 | replace r1 := box_heap r1 | skip); (try have n1 : w9.cell? ⟨A1, k, none⟩ = some (.string ⟨(nm).toArray⟩) := (cell_of_block r1 k).trans HNM.out); have t1 : w9.cell? ⟨w.heap.size, k + 1, none⟩ = some (.int .i64 n) := (kd9 _ _ zt).trans c1
        go_wp2_with (go_at_call 75; refine (CI.out _ (HVr.out.stays (by (repeat' first | with_reducible (first | exact Below.refl _ _ | assumption | refine Below.alloc ?_ ?_ _ | refine below_drewN ?_ _ | refine Below.drew ?_ | refine Below.setCell ?_ ?_ _ | refine Below.trans ?_ (Below.mono (by with_reducible assumption) ?_)) | go_size)))).mono ?_; rintro e w6 ⟨rfl, hb6⟩)
        refine grewTo_at (by rfl) (by (repeat' first | with_reducible (first | exact Below.refl _ _ | assumption | refine Below.alloc ?_ ?_ _ | refine below_drewN ?_ _ | refine Below.drew ?_ | refine Below.setCell ?_ ?_ _ | refine Below.trans ?_ (Below.mono (by with_reducible assumption) ?_)) | go_size)) ?_
        exact rfl
      intro x11 ok11
      (try simp only [Act.put, List.setIfInBounds_toArray, List.set_cons_zero, List.set_cons_succ])
      (try dsimp only [Hv.own, Hv.is, Hv.lit, Hv.box, Hv.sl] at ok11)
      first | subst ok11 | (obtain ⟨A11, c11, ok11⟩ := ok11; subst ok11) | (obtain ⟨A11, ok11⟩ := ok11; subst ok11) | skip
      apply flock_light rfl
      case h => first | exact light_no (by rfl) | ((first | apply light_plain rfl | apply light_yes (by rfl)); intro w9 hw9; obtain ⟨hb9, hh9⟩ := hw9; have hB9 : Below wc.heap.size wc w9 := (by (repeat' first | with_reducible (first | exact Below.refl _ _ | assumption | refine Below.alloc ?_ ?_ _ | refine below_drewN ?_ _ | refine Below.drew ?_ | refine Below.setCell ?_ ?_ _ | refine Below.trans ?_ (Below.mono (by with_reducible assumption) ?_)) | go_size)); obtain ⟨kc9, kf9, s9⟩ := bfacts hb9; obtain ⟨kd9, kg9, _⟩ := bfacts hB9; have r11 := hh9 _ (.head _) (by kernel_rfl); dsimp only [Hv.own, Hv.is, Hv.lit, Hv.box, Hv.sl] at r11; (first | replace r11 := lit_heap r11 | replace r11 := box_heap r11 | skip); have r1 := hh9 _ (.tail _ (.head _)) (by kernel_rfl); dsimp only [Hv.own, Hv.is, Hv.lit, Hv.box, Hv.sl] at r1; (first | replace r1 := lit_heap r1 | replace r1 := box_heap r1 | skip); (try have n1 : w9.cell? ⟨A1, k, none⟩ = some (.string ⟨(nm).toArray⟩) := (cell_of_block r1 k).trans HNM.out); have t1 : w9.cell? ⟨w.heap.size, k + 1, none⟩ = some (.int .i64 n) := (kd9 _ _ zt).trans c1; go_simp; try rfl)
      (try simp only [Act.put, List.setIfInBounds_toArray, List.set_cons_zero, List.set_cons_succ])
      apply flock_light rfl
      case h => first | exact light_no (by rfl) | ((first | apply light_plain rfl | apply light_yes (by rfl)); intro w9 hw9; obtain ⟨hb9, hh9⟩ := hw9; have hB9 : Below wc.heap.size wc w9 := (by (repeat' first | with_reducible (first | exact Below.refl _ _ | assumption | refine Below.alloc ?_ ?_ _ | refine below_drewN ?_ _ | refine Below.drew ?_ | refine Below.setCell ?_ ?_ _ | refine Below.trans ?_ (Below.mono (by with_reducible assumption) ?_)) | go_size)); obtain ⟨kc9, kf9, s9⟩ := bfacts hb9; obtain ⟨kd9, kg9, _⟩ := bfacts hB9; have r11 := hh9 _ (.head _) (by kernel_rfl); dsimp only [Hv.own, Hv.is, Hv.lit, Hv.box, Hv.sl] at r11; (first | replace r11 := lit_heap r11 | replace r11 := box_heap r11 | skip); have r1 := hh9 _ (.tail _ (.head _)) (by kernel_rfl); dsimp only [Hv.own, Hv.is, Hv.lit, Hv.box, Hv.sl] at r1; (first | replace r1 := lit_heap r1 | replace r1 := box_heap r1 | skip); (try have n1 : w9.cell? ⟨A1, k, none⟩ = some (.string ⟨(nm).toArray⟩) := (cell_of_block r1 k).trans HNM.out); have t1 : w9.cell? ⟨w.heap.size, k + 1, none⟩ = some (.int .i64 n) := (kd9 _ _ zt).trans c1; go_simp; try rfl)
      (try simp only [Act.put, List.setIfInBounds_toArray, List.set_cons_zero, List.set_cons_succ])
      apply flock_light rfl
      case h => first | exact light_no (by rfl) | ((first | apply light_plain rfl | apply light_yes (by rfl)); intro w9 hw9; obtain ⟨hb9, hh9⟩ := hw9; have hB9 : Below wc.heap.size wc w9 := (by (repeat' first | with_reducible (first | exact Below.refl _ _ | assumption | refine Below.alloc ?_ ?_ _ | refine below_drewN ?_ _ | refine Below.drew ?_ | refine Below.setCell ?_ ?_ _ | refine Below.trans ?_ (Below.mono (by with_reducible assumption) ?_)) | go_size)); obtain ⟨kc9, kf9, s9⟩ := bfacts hb9; obtain ⟨kd9, kg9, _⟩ := bfacts hB9; have r11 := hh9 _ (.head _) (by kernel_rfl); dsimp only [Hv.own, Hv.is, Hv.lit, Hv.box, Hv.sl] at r11; (first | replace r11 := lit_heap r11 | replace r11 := box_heap r11 | skip); have r1 := hh9 _ (.tail _ (.head _)) (by kernel_rfl); dsimp only [Hv.own, Hv.is, Hv.lit, Hv.box, Hv.sl] at r1; (first | replace r1 := lit_heap r1 | replace r1 := box_heap r1 | skip); (try have n1 : w9.cell? ⟨A1, k, none⟩ = some (.string ⟨(nm).toArray⟩) := (cell_of_block r1 k).trans HNM.out); have t1 : w9.cell? ⟨w.heap.size, k + 1, none⟩ = some (.int .i64 n) := (kd9 _ _ zt).trans c1; go_simp; try rfl)
      (try simp only [Act.put, List.setIfInBounds_toArray, List.set_cons_zero, List.set_cons_succ])
      refine flock_nil ?_
      intro w9 hb9 hh9
      have hB9 : Below wc.heap.size wc w9 := (by (repeat' first | with_reducible (first | exact Below.refl _ _ | assumption | refine Below.alloc ?_ ?_ _ | refine below_drewN ?_ _ | refine Below.drew ?_ | refine Below.setCell ?_ ?_ _ | refine Below.trans ?_ (Below.mono (by with_reducible assumption) ?_)) | go_size))
      have r11 := hh9 _ (.head _); dsimp only [Hv.own, Hv.is, Hv.lit, Hv.box, Hv.sl] at r11; (first | replace r11 := lit_heap r11 | replace r11 := box_heap r11 | skip); have r1 := hh9 _ (.tail _ (.head _)); dsimp only [Hv.own, Hv.is, Hv.lit, Hv.box, Hv.sl] at r1; (first | replace r1 := lit_heap r1 | replace r1 := box_heap r1 | skip); clear hh9
      (try dsimp only)
      have s9 := hB9.size
      have b9 : Below w1.heap.size w1 w9 := hB.trans (hB9.mono sB)
      clear r1 r11 hb9 hB9
      go_wp2_with fail
      go_roundw
      case rel => exact ⟨k + 1, by omega, by go_num, by rw [HS2.out, ← line_bytes], by rw [HS2.out]; simp; omega, b9⟩
      case measure => simp [intOf]; omega
end Go.Proofs.YtpbflgemhcaooaaDoor
