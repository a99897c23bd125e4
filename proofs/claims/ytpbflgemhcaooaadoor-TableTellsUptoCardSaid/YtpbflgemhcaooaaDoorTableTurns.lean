import Derived.Test.YtpbflgemhcaooaaDoorTabParse
import Derived.Deep.DeepCutAuto
import Derived.ChangeKeysEq
/- evlaw2.TableTurns: the walk; evlaw2.alive. -/
namespace Ev
open Go
theorem alive_parse : tparse [109, 117, 108, 32, 51, 10, 115, 101, 108, 32, 49, 10] = (0, [0, 0, 0, 0, 0, 0, 0, 0, 3, 0, 0, 0, 0, 1, 0, 0, 0, 0]) := by decide +kernel
theorem alive_text : textOf [0, 0, 0, 0, 0, 0, 0, 0, 3, 0, 0, 0, 0, 1, 0, 0, 0, 0] = [109, 117, 108, 32, 51, 10, 115, 101, 108, 32, 49, 10] := by decide +kernel
theorem alive_wrong : wrong [0, 0, 0, 0, 0, 0, 0, 0, 3, 0, 0, 0, 0, 1, 0, 0, 0, 0] = 0 := by decide
theorem parse_err {s : List UInt8} (h : (tparse s).1 ≠ 0) : (tparse s).2 = zeros18 := scan_err s [] h
end Ev
namespace Go.Proofs.YtpbflgemhcaooaaDoor
open Go.RowKit
set_option linter.unusedSimpArgs false
set_option linter.unusedVariables false
theorem list18t {t : List Int} (h : t.length = 18) : ∃ x0 x1 x2 x3 x4 x5 x6 x7 x8 x9 x10 x11 x12 x13 x14 x15 x16 x17, t = [x0, x1, x2, x3, x4, x5, x6, x7, x8, x9, x10, x11, x12, x13, x14, x15, x16, x17] := by
  match t, h with
  | [x0, x1, x2, x3, x4, x5, x6, x7, x8, x9, x10, x11, x12, x13, x14, x15, x16, x17], _ => exact ⟨_, _, _, _, _, _, _, _, _, _, _, _, _, _, _, _, _, _, rfl⟩
theorem items_same (xs : Array Value) (d : Nat) (u : World) : ∀ is : List Nat, (∀ i ∈ is, ∃ n, xs[i]? = some (.int .i64 n)) → (Op.eqItems (d + 1) 3 1 xs xs is).run Tryd.prog u = .ok true u
  | [], _ => by simp [Op.eqItems]
  | i :: is, h => by
    obtain ⟨n, hn⟩ := h i List.mem_cons_self
    have hp := Go.run_part_plain (P := Tryd.prog) (e := 3) (by kernel_rfl) hn (w := u)
    have he := run_equalIn_int (P := Tryd.prog) u d 3 .i64 .i64 n n Tryd.underlying3
    have ih := items_same xs d u is (fun j hj => h j (List.mem_cons_of_mem _ hj))
    simp only [Op.eqItems, Sem.run_bind, Nat.mul_one, hp, he, Result.andThen_ok, beq_self_eq_true, Bool.not_true, Bool.false_eq_true, if_false]
    exact ih
theorem arr_same (ns : List Int) (h : ns.length = 18) (u : World) : (Op.equalIn 9999 56 (.agg (ns.map (Value.int .i64)).toArray) (.agg (ns.map (Value.int .i64)).toArray)).run Tryd.prog u = .ok true u := by
  obtain ⟨i, hi⟩ : ∃ i, Tryd.prog.info? 3 = some i := Option.isSome_iff_exists.1 (by kernel_rfl)
  have hc : Tryd.prog.cellsOf 3 = 1 := by kernel_rfl
  rw [run_equalIn_array u 9998 _ _ Tryd.underlying56 hi, hc]
  refine items_same _ 9997 u _ (fun j hj => ?_)
  rw [List.mem_range] at hj
  refine ⟨ns[j]'(by omega), ?_⟩
  rw [List.getElem?_toArray, List.getElem?_map, List.getElem?_eq_getElem (by omega)]
  rfl
set_option maxRecDepth 8000 in
set_option maxHeartbeats 6400000 in
theorem alive_tab (w : World) (hv : Vars w) (hm : MaxL w) : Calls Tryd.prog 38 #[] w fun e w' => e = .returned (.bool true) ∧ Below w.heap.size w w' := by
  have CP : Hid (∀ u, Vars u → MaxL u → Calls Tryd.prog 33 #[.string ⟨#[109, 117, 108, 32, 51, 10, 115, 101, 108, 32, 49, 10]⟩] u fun e w' => e = .returned (.tuple #[.agg #[.int .i64 0, .int .i64 0, .int .i64 0, .int .i64 0, .int .i64 0, .int .i64 0, .int .i64 0, .int .i64 0, .int .i64 3, .int .i64 0, .int .i64 0, .int .i64 0, .int .i64 0, .int .i64 1, .int .i64 0, .int .i64 0, .int .i64 0, .int .i64 0], .int .i64 0]) ∧ Below u.heap.size u w') := Lib.hid (fun u hv hm => by
    have h := parse_any [109, 117, 108, 32, 51, 10, 115, 101, 108, 32, 49, 10] u hv hm (by decide)
    rw [Ev.alive_parse] at h
    exact h)
  have CT : Hid (∀ u, Vars u → Calls Tryd.prog 31 #[.agg #[.int .i64 0, .int .i64 0, .int .i64 0, .int .i64 0, .int .i64 0, .int .i64 0, .int .i64 0, .int .i64 0, .int .i64 3, .int .i64 0, .int .i64 0, .int .i64 0, .int .i64 0, .int .i64 1, .int .i64 0, .int .i64 0, .int .i64 0, .int .i64 0]] u fun e w' => e = .returned (.tuple #[.string ⟨#[109, 117, 108, 32, 51, 10, 115, 101, 108, 32, 49, 10]⟩, .int .i64 0]) ∧ Below u.heap.size u w') := Lib.hid (fun u hv => by
    have h := text_any [0, 0, 0, 0, 0, 0, 0, 0, 3, 0, 0, 0, 0, 1, 0, 0, 0, 0] u hv rfl (by decide)
    rw [Ev.alive_text, Ev.alive_wrong] at h
    exact h)
  have CW : Hid (∀ u, Calls Tryd.prog 36 #[.agg #[.int .i64 0, .int .i64 0, .int .i64 0, .int .i64 0, .int .i64 0, .int .i64 0, .int .i64 0, .int .i64 0, .int .i64 3, .int .i64 0, .int .i64 0, .int .i64 0, .int .i64 0, .int .i64 1, .int .i64 0, .int .i64 0, .int .i64 0, .int .i64 0]] u fun e w' => e = .returned (.int .i64 0) ∧ Below u.heap.size u w') := Lib.hid (fun u => by
    have h := wrongP_any [0, 0, 0, 0, 0, 0, 0, 0, 3, 0, 0, 0, 0, 1, 0, 0, 0, 0] u rfl (by decide)
    rw [Ev.alive_wrong] at h
    exact h)
  have CA : Hid (∀ u, Calls Tryd.prog 35 #[.int .i64 13] u fun e w' => e = .returned (.int .i64 7) ∧ u = w') := Lib.hid (fun u => (all_any 13 u).mono fun _ _ h => ⟨h.1, h.2.symm⟩)
  have HV := Lib.hid hv
  have HM := Lib.hid hm
  clear hv hm
  go_enter Tryd.func38, Tryd.ntmps38
  go_upto_region 2 with (go_at_call 33; refine (CP.out _ HV.out HM.out).mono ?_; rintro e w1 ⟨rfl, hb1⟩)
  have HB1 := Lib.hid (heap_alloc_new w1 (.cells #[.int .i64 0, .int .i64 0, .int .i64 0, .int .i64 0, .int .i64 0, .int .i64 0, .int .i64 0, .int .i64 0, .int .i64 3, .int .i64 0, .int .i64 0, .int .i64 0, .int .i64 0, .int .i64 1, .int .i64 0, .int .i64 0, .int .i64 0, .int .i64 0] 58))
  have b1 : Below w.heap.size w (w1.alloc (.cells #[.int .i64 0, .int .i64 0, .int .i64 0, .int .i64 0, .int .i64 0, .int .i64 0, .int .i64 0, .int .i64 0, .int .i64 3, .int .i64 0, .int .i64 0, .int .i64 0, .int .i64 0, .int .i64 1, .int .i64 0, .int .i64 0, .int .i64 0, .int .i64 0] 58)) := by have s1 := hb1.size; (repeat' first | with_reducible (first | exact Below.refl _ _ | assumption | refine Below.alloc ?_ ?_ _ | refine below_drewN ?_ _ | refine Below.drew ?_ | refine Below.setCell ?_ ?_ _ | refine Below.trans ?_ (Below.mono (by with_reducible assumption) ?_)) | go_size)
  have HV1 := Lib.hid (HV.out.stays b1)
  clear hb1
  generalize w1.alloc (.cells #[.int .i64 0, .int .i64 0, .int .i64 0, .int .i64 0, .int .i64 0, .int .i64 0, .int .i64 0, .int .i64 0, .int .i64 3, .int .i64 0, .int .i64 0, .int .i64 0, .int .i64 0, .int .i64 1, .int .i64 0, .int .i64 0, .int .i64 0, .int .i64 0] 58) = w2 at *
  generalize w1.heap.size = bt at *
  go_upto_region 3 with (first | (refine wpList_load_box rfl 58 _ rfl rfl (load_box Tryd.underlying58 (by kernel_rfl) rfl (by kernel_rfl) (fun j v hj => (cell_of_block HB1.out j).trans hj) (Array.getElem?_eq_some_iff.1 HB1.out).1 (Below.refl _ _)) ?_) | (go_at_call 31; refine (CT.out _ HV1.out).mono ?_; rintro e w3 ⟨rfl, hb3⟩))
  have s1 := b1.size
  have b3 : Below w.heap.size w w3 := b1.trans (hb3.mono s1)
  replace HB1 := Lib.hid ((hb3.block bt (Array.getElem?_eq_some_iff.1 HB1.out).1).trans HB1.out)
  have t8 : w3.cell? ⟨bt, 8, none⟩ = some (.int .i64 3) := (cell_of_block HB1.out 8).trans rfl
  have t13 : w3.cell? ⟨bt, 13, none⟩ = some (.int .i64 1) := (cell_of_block HB1.out 13).trans rfl
  have zt := (Array.getElem?_eq_some_iff.1 HB1.out).1
  have s3 := b3.size
  clear hb3 b1 s1
  go_wp2_with (first | (refine wpList_load_boxg (by rfl) 58 _ rfl rfl (load_box Tryd.underlying58 (by kernel_rfl) rfl (by kernel_rfl) (fun j v hj => (cell_of_block HB4.out j).trans hj) (Array.getElem?_eq_some_iff.1 HB4.out).1 (Below.refl _ _)) ?_) | (go_at_call 35; refine (CA.out _).mono ?_; rintro e w' ⟨rfl, rfl⟩) | (go_at_call 30; refine (names_any _).mono ?_; rintro e w4 ⟨rfl, hw4⟩; have hb4 : Below w3.heap.size w3 w4 := (by subst hw4; exact Below.alloc (Below.refl _ _) (Nat.le_refl _) _); clear hw4; have HB4 := Lib.hid ((hb4.block bt zt).trans HB1.out)) | (go_at_call 36; refine (CW.out _).mono ?_; rintro e w5 ⟨rfl, hb5⟩))
  go_ret
  exact ⟨rfl, (b3.trans (hb4.mono s3)).trans (hb5.mono (Nat.le_trans s3 hb4.size))⟩
set_option maxRecDepth 8000 in
set_option maxHeartbeats 12800000 in
theorem tableTurns_walk (t : List Int) (s : List UInt8) (w : World) (hv : Vars w) (hm : MaxL w) (hl : t.length = 18) (ht : ∀ x ∈ t, -9223372036854775808 ≤ x ∧ x ≤ 9223372036854775807) (hs : s.length < 4294967281) :
    Calls Tryd.prog 10 #[tableV t, .string ⟨(s).toArray⟩] w fun e w' => e = .returned (.bool true) ∧ Below w.heap.size w w' := by
  have HV := Lib.hid hv
  have HM := Lib.hid hm
  obtain ⟨wt, hwt⟩ : ∃ wt, Ev.wrong t = wt := ⟨_, rfl⟩
  have CW : Hid (∀ u, Calls Tryd.prog 36 #[tableV t] u fun e w' => e = .returned (.int .i64 wt) ∧ Below u.heap.size u w') := Lib.hid (fun u => by
    have h := wrongP_any t u hl ht
    rw [hwt] at h
    exact h)
  obtain ⟨tx, htx⟩ : ∃ tx, Ev.ttext t = tx := ⟨_, rfl⟩
  have CT : Hid (wt = 0 → ∀ u, Vars u → Calls Tryd.prog 31 #[tableV t] u fun e w' => e = .returned (.tuple #[.string ⟨(tx).toArray⟩, .int .i64 0]) ∧ Below u.heap.size u w') := Lib.hid (fun h0 u hv => by
    have h := text_any t u hv hl ht
    unfold Ev.textOf at h
    rw [hwt, h0, if_pos rfl, htx] at h
    exact h)
  have CP : Hid (wt = 0 → ∀ u, Vars u → MaxL u → Calls Tryd.prog 33 #[.string ⟨(tx).toArray⟩] u fun e w' => e = .returned (.tuple #[tableV t, .int .i64 0]) ∧ Below u.heap.size u w') := Lib.hid (fun h0 u hv hm => by
    have hn : tx.length ≤ 136 := by
      rw [← htx]
      exact Ev.ttext_len (hwt.trans h0)
    have h := parse_any tx u hv hm (by omega)
    rw [← htx, Ev.text_parse hl (hwt.trans h0)] at h
    rw [← htx]
    exact h)
  obtain ⟨xe, xt, hx⟩ : ∃ xe xt, Ev.tparse s = (xe, xt) := ⟨_, _, rfl⟩
  have CS : Hid (∀ u, Vars u → MaxL u → Calls Tryd.prog 33 #[.string ⟨(s).toArray⟩] u fun e w' => e = .returned (.tuple #[tableV xt, .int .i64 xe]) ∧ Below u.heap.size u w') := Lib.hid (fun u hv hm => by
    have h := parse_any s u hv hm hs
    rw [hx] at h
    exact h)
  have hXL : xt.length = 18 := by
    by_cases h0 : xe = 0
    · rw [h0] at hx; exact (Ev.parse_text hx).1
    · have := Ev.parse_err (s := s) (by rw [hx]; exact h0)
      rw [hx] at this
      rw [show xt = Ev.zeros18 from this]
      rfl
  have HXZ := Lib.hid (show xe ≠ 0 → xt = Ev.zeros18 from fun h0 => by
    have := Ev.parse_err (s := s) (by rw [hx]; exact h0)
    rw [hx] at this
    exact this)
  have CX : Hid (xe = 0 → ∀ u, Vars u → Calls Tryd.prog 31 #[tableV xt] u fun e w' => e = .returned (.tuple #[.string ⟨(s).toArray⟩, .int .i64 0]) ∧ Below u.heap.size u w') := Lib.hid (fun h0 u hv => by
    rw [h0] at hx
    obtain ⟨h1, h2, h3⟩ := Ev.parse_text hx
    have hb : ∀ x ∈ xt, -9223372036854775808 ≤ x ∧ x ≤ 9223372036854775807 := fun x hxm => by
      obtain ⟨g0, g1⟩ := Ev.wrong_bits h2
      obtain ⟨k, hk, rfl⟩ := List.getElem_of_mem hxm
      have e : xt.getD k 0 = xt[k] := by rw [List.getD_eq_getElem?_getD, List.getElem?_eq_getElem hk]; rfl
      rcases Nat.eq_zero_or_pos k with h | h
      · subst h
        rw [show xt[0] = 0 from e.symm.trans g0]
        omega
      · have := g1 k h (by omega)
        rw [e] at this
        omega
    have h := text_any xt u hv h1 hb
    unfold Ev.textOf at h
    rw [h2, if_pos rfl, h3] at h
    exact h)
  obtain ⟨x0, x1, x2, x3, x4, x5, x6, x7, x8, x9, x10, x11, x12, x13, x14, x15, x16, x17, rfl⟩ := list18t hl
  have HTL := Lib.hid (show tableV [x0, x1, x2, x3, x4, x5, x6, x7, x8, x9, x10, x11, x12, x13, x14, x15, x16, x17] = .agg #[.int .i64 x0, .int .i64 x1, .int .i64 x2, .int .i64 x3, .int .i64 x4, .int .i64 x5, .int .i64 x6, .int .i64 x7, .int .i64 x8, .int .i64 x9, .int .i64 x10, .int .i64 x11, .int .i64 x12, .int .i64 x13, .int .i64 x14, .int .i64 x15, .int .i64 x16, .int .i64 x17] from rfl)
  rw [HTL.out] at CW CT CP ⊢
  clear hwt htx hx ht hv hm hl HTL
  go_enter Tryd.func10, Tryd.ntmps10
  go_upto_region 1 with fail
  have HB := Lib.hid (heap_alloc_new w (.cells #[.int .i64 x0, .int .i64 x1, .int .i64 x2, .int .i64 x3, .int .i64 x4, .int .i64 x5, .int .i64 x6, .int .i64 x7, .int .i64 x8, .int .i64 x9, .int .i64 x10, .int .i64 x11, .int .i64 x12, .int .i64 x13, .int .i64 x14, .int .i64 x15, .int .i64 x16, .int .i64 x17] 58))
  have bA : Below w.heap.size w (w.alloc (.cells #[.int .i64 x0, .int .i64 x1, .int .i64 x2, .int .i64 x3, .int .i64 x4, .int .i64 x5, .int .i64 x6, .int .i64 x7, .int .i64 x8, .int .i64 x9, .int .i64 x10, .int .i64 x11, .int .i64 x12, .int .i64 x13, .int .i64 x14, .int .i64 x15, .int .i64 x16, .int .i64 x17] 58)) := by (repeat' first | with_reducible (first | exact Below.refl _ _ | assumption | refine Below.alloc ?_ ?_ _ | refine below_drewN ?_ _ | refine Below.drew ?_ | refine Below.setCell ?_ ?_ _ | refine Below.trans ?_ (Below.mono (by with_reducible assumption) ?_)) | go_size)
  generalize w.alloc (.cells #[.int .i64 x0, .int .i64 x1, .int .i64 x2, .int .i64 x3, .int .i64 x4, .int .i64 x5, .int .i64 x6, .int .i64 x7, .int .i64 x8, .int .i64 x9, .int .i64 x10, .int .i64 x11, .int .i64 x12, .int .i64 x13, .int .i64 x14, .int .i64 x15, .int .i64 x16, .int .i64 x17] 58) = wA at *
  have HV1 := Lib.hid (HV.out.stays bA)
  have HM1 := Lib.hid (HM.out.stays bA)
  go_upto_region 3 with (go_at_call 38; refine (alive_tab _ HV1.out HM1.out).mono ?_; rintro e w1 ⟨rfl, hb1⟩)
  have sA := bA.size
  have b1 : Below w.heap.size w w1 := bA.trans (hb1.mono sA)
  replace HB := Lib.hid ((hb1.block w.heap.size (Array.getElem?_eq_some_iff.1 HB.out).1).trans HB.out)
  clear hb1 bA sA HV1 HM1
  have s1 := b1.size
  have HV1 := Lib.hid (HV.out.stays b1)
  have HM1 := Lib.hid (HM.out.stays b1)
  by_cases h0 : wt = 0
  case neg => as_aux_lemma =>
    have g0 : (wt == 0) = false := beq_eq_false_iff_ne.2 h0
    clear h0 CT CP
    go_upto_region 8 with (first | (refine wpList_load_box rfl 58 _ rfl rfl (load_box Tryd.underlying58 (by kernel_rfl) rfl (by kernel_rfl) (fun j v hj => (cell_of_block HB.out j).trans hj) (Array.getElem?_eq_some_iff.1 HB.out).1 (Below.refl _ _)) ?_) | (go_at_call 36; refine (CW.out _).mono ?_; rintro e w5 ⟨rfl, hb5⟩))
    have b5 : Below w.heap.size w w5 := b1.trans (hb5.mono s1)
    clear hb5 b1 s1 HV1 HM1 HB CW
    have HV5 := Lib.hid (HV.out.stays b5)
    have HM5 := Lib.hid (HM.out.stays b5)
    have s5 := b5.size
    by_cases hx0 : xe = 0
    case neg => as_aux_lemma =>
      have g1 : (xe != 0) = true := bne_iff_ne.2 hx0
      obtain rfl : xt = Ev.zeros18 := HXZ.out hx0
      have HTZ := Lib.hid (show tableV Ev.zeros18 = .agg #[.int .i64 0, .int .i64 0, .int .i64 0, .int .i64 0, .int .i64 0, .int .i64 0, .int .i64 0, .int .i64 0, .int .i64 0, .int .i64 0, .int .i64 0, .int .i64 0, .int .i64 0, .int .i64 0, .int .i64 0, .int .i64 0, .int .i64 0, .int .i64 0] from rfl)
      rw [HTZ.out] at CS
      clear hx0 CX HXZ hXL HTZ
      have HEQ : ∀ u, (Op.equalIn 9999 56 (.agg #[.int .i64 0, .int .i64 0, .int .i64 0, .int .i64 0, .int .i64 0, .int .i64 0, .int .i64 0, .int .i64 0, .int .i64 0, .int .i64 0, .int .i64 0, .int .i64 0, .int .i64 0, .int .i64 0, .int .i64 0, .int .i64 0, .int .i64 0, .int .i64 0]) (.agg #[.int .i64 0, .int .i64 0, .int .i64 0, .int .i64 0, .int .i64 0, .int .i64 0, .int .i64 0, .int .i64 0, .int .i64 0, .int .i64 0, .int .i64 0, .int .i64 0, .int .i64 0, .int .i64 0, .int .i64 0, .int .i64 0, .int .i64 0, .int .i64 0])).run Tryd.prog u = .ok true u := fun u => arr_same Ev.zeros18 rfl u
      go_upto_region 9 with (go_at_call 33; refine (CS.out _ HV5.out HM5.out).mono ?_; rintro e w6 ⟨rfl, hb6⟩)
      have HB9 := Lib.hid (heap_alloc_new w6 (.cells #[.int .i64 0, .int .i64 0, .int .i64 0, .int .i64 0, .int .i64 0, .int .i64 0, .int .i64 0, .int .i64 0, .int .i64 0, .int .i64 0, .int .i64 0, .int .i64 0, .int .i64 0, .int .i64 0, .int .i64 0, .int .i64 0, .int .i64 0, .int .i64 0] 58))
      have b9 : Below w.heap.size w (w6.alloc (.cells #[.int .i64 0, .int .i64 0, .int .i64 0, .int .i64 0, .int .i64 0, .int .i64 0, .int .i64 0, .int .i64 0, .int .i64 0, .int .i64 0, .int .i64 0, .int .i64 0, .int .i64 0, .int .i64 0, .int .i64 0, .int .i64 0, .int .i64 0, .int .i64 0] 58)) := by have := hb6.size; (repeat' first | with_reducible (first | exact Below.refl _ _ | assumption | refine Below.alloc ?_ ?_ _ | refine below_drewN ?_ _ | refine Below.drew ?_ | refine Below.setCell ?_ ?_ _ | refine Below.trans ?_ (Below.mono (by with_reducible assumption) ?_)) | go_size)
      generalize w6.alloc (.cells #[.int .i64 0, .int .i64 0, .int .i64 0, .int .i64 0, .int .i64 0, .int .i64 0, .int .i64 0, .int .i64 0, .int .i64 0, .int .i64 0, .int .i64 0, .int .i64 0, .int .i64 0, .int .i64 0, .int .i64 0, .int .i64 0, .int .i64 0, .int .i64 0] 58) = w7 at *
      generalize w6.heap.size = b8 at *
      go_wp2_with (refine wpList_load_box rfl 58 _ rfl rfl (load_box Tryd.underlying58 (by kernel_rfl) rfl (by kernel_rfl) (fun j v hj => (cell_of_block HB9.out j).trans hj) (Array.getElem?_eq_some_iff.1 HB9.out).1 (Below.refl _ _)) ?_)
      go_ret
      exact ⟨rfl, b9⟩
    case pos => as_aux_lemma =>
      subst hx0
      have CX1 := Lib.hid (CX.out rfl)
      obtain ⟨y0, y1, y2, y3, y4, y5, y6, y7, y8, y9, y10, y11, y12, y13, y14, y15, y16, y17, rfl⟩ := list18t hXL
      have HTZ := Lib.hid (show tableV [y0, y1, y2, y3, y4, y5, y6, y7, y8, y9, y10, y11, y12, y13, y14, y15, y16, y17] = .agg #[.int .i64 y0, .int .i64 y1, .int .i64 y2, .int .i64 y3, .int .i64 y4, .int .i64 y5, .int .i64 y6, .int .i64 y7, .int .i64 y8, .int .i64 y9, .int .i64 y10, .int .i64 y11, .int .i64 y12, .int .i64 y13, .int .i64 y14, .int .i64 y15, .int .i64 y16, .int .i64 y17] from rfl)
      rw [HTZ.out] at CS CX1
      clear CX HXZ hXL HTZ
      go_upto_region 9 with (go_at_call 33; refine (CS.out _ HV5.out HM5.out).mono ?_; rintro e w6 ⟨rfl, hb6⟩)
      have HB9 := Lib.hid (heap_alloc_new w6 (.cells #[.int .i64 y0, .int .i64 y1, .int .i64 y2, .int .i64 y3, .int .i64 y4, .int .i64 y5, .int .i64 y6, .int .i64 y7, .int .i64 y8, .int .i64 y9, .int .i64 y10, .int .i64 y11, .int .i64 y12, .int .i64 y13, .int .i64 y14, .int .i64 y15, .int .i64 y16, .int .i64 y17] 58))
      have b9 : Below w.heap.size w (w6.alloc (.cells #[.int .i64 y0, .int .i64 y1, .int .i64 y2, .int .i64 y3, .int .i64 y4, .int .i64 y5, .int .i64 y6, .int .i64 y7, .int .i64 y8, .int .i64 y9, .int .i64 y10, .int .i64 y11, .int .i64 y12, .int .i64 y13, .int .i64 y14, .int .i64 y15, .int .i64 y16, .int .i64 y17] 58)) := by have := hb6.size; (repeat' first | with_reducible (first | exact Below.refl _ _ | assumption | refine Below.alloc ?_ ?_ _ | refine below_drewN ?_ _ | refine Below.drew ?_ | refine Below.setCell ?_ ?_ _ | refine Below.trans ?_ (Below.mono (by with_reducible assumption) ?_)) | go_size)
      generalize w6.alloc (.cells #[.int .i64 y0, .int .i64 y1, .int .i64 y2, .int .i64 y3, .int .i64 y4, .int .i64 y5, .int .i64 y6, .int .i64 y7, .int .i64 y8, .int .i64 y9, .int .i64 y10, .int .i64 y11, .int .i64 y12, .int .i64 y13, .int .i64 y14, .int .i64 y15, .int .i64 y16, .int .i64 y17] 58) = w7 at *
      generalize w6.heap.size = b8 at *
      have HV7 := Lib.hid (HV.out.stays b9)
      go_upto_region 12 with (first | (refine wpList_load_box rfl 58 _ rfl rfl (load_box Tryd.underlying58 (by kernel_rfl) rfl (by kernel_rfl) (fun j v hj => (cell_of_block HB9.out j).trans hj) (Array.getElem?_eq_some_iff.1 HB9.out).1 (Below.refl _ _)) ?_) | (go_at_call 31; refine (CX1.out _ HV7.out).mono ?_; rintro e w8 ⟨rfl, hb8⟩))
      have b10 : Below w.heap.size w w8 := b9.trans (hb8.mono b9.size)
      go_wp2_with fail
      go_ret
      exact ⟨rfl, b10⟩
  case pos => as_aux_lemma =>
    subst h0
    have CT1 := Lib.hid (CT.out rfl)
    have CP1 := Lib.hid (CP.out rfl)
    clear CT CP
    go_upto_region 4 with (first | (refine wpList_load_box rfl 58 _ rfl rfl (load_box Tryd.underlying58 (by kernel_rfl) rfl (by kernel_rfl) (fun j v hj => (cell_of_block HB.out j).trans hj) (Array.getElem?_eq_some_iff.1 HB.out).1 (Below.refl _ _)) ?_) | (go_at_call 36; refine (CW.out _).mono ?_; rintro e w2 ⟨rfl, hb2⟩))
    have b2 : Below w.heap.size w w2 := b1.trans (hb2.mono s1)
    replace HB := Lib.hid ((hb2.block w.heap.size (Array.getElem?_eq_some_iff.1 HB.out).1).trans HB.out)
    have s2 := b2.size
    clear hb2 b1 s1 HV1 HM1 CW
    have HV2 := Lib.hid (HV.out.stays b2)
    go_upto_region 5 with (first | (refine wpList_load_box rfl 58 _ rfl rfl (load_box Tryd.underlying58 (by kernel_rfl) rfl (by kernel_rfl) (fun j v hj => (cell_of_block HB.out j).trans hj) (Array.getElem?_eq_some_iff.1 HB.out).1 (Below.refl _ _)) ?_) | (go_at_call 31; refine (CT1.out _ HV2.out).mono ?_; rintro e w3 ⟨rfl, hb3⟩))
    have b3 : Below w.heap.size w w3 := b2.trans (hb3.mono s2)
    replace HB := Lib.hid ((hb3.block w.heap.size (Array.getElem?_eq_some_iff.1 HB.out).1).trans HB.out)
    have s3 := b3.size
    clear hb3 b2 s2 HV2 CT1
    have HV3 := Lib.hid (HV.out.stays b3)
    have HM3 := Lib.hid (HM.out.stays b3)
    go_upto_region 6 with (go_at_call 33; refine (CP1.out _ HV3.out HM3.out).mono ?_; rintro e w4 ⟨rfl, hb4⟩)
    have HB7 := Lib.hid (heap_alloc_new w4 (.cells #[.int .i64 x0, .int .i64 x1, .int .i64 x2, .int .i64 x3, .int .i64 x4, .int .i64 x5, .int .i64 x6, .int .i64 x7, .int .i64 x8, .int .i64 x9, .int .i64 x10, .int .i64 x11, .int .i64 x12, .int .i64 x13, .int .i64 x14, .int .i64 x15, .int .i64 x16, .int .i64 x17] 58))
    have bC : Below w3.heap.size w3 (w4.alloc (.cells #[.int .i64 x0, .int .i64 x1, .int .i64 x2, .int .i64 x3, .int .i64 x4, .int .i64 x5, .int .i64 x6, .int .i64 x7, .int .i64 x8, .int .i64 x9, .int .i64 x10, .int .i64 x11, .int .i64 x12, .int .i64 x13, .int .i64 x14, .int .i64 x15, .int .i64 x16, .int .i64 x17] 58)) := by have := hb4.size; (repeat' first | with_reducible (first | exact Below.refl _ _ | assumption | refine Below.alloc ?_ ?_ _ | refine below_drewN ?_ _ | refine Below.drew ?_ | refine Below.setCell ?_ ?_ _ | refine Below.trans ?_ (Below.mono (by with_reducible assumption) ?_)) | go_size)
    have b5 : Below w.heap.size w (w4.alloc (.cells #[.int .i64 x0, .int .i64 x1, .int .i64 x2, .int .i64 x3, .int .i64 x4, .int .i64 x5, .int .i64 x6, .int .i64 x7, .int .i64 x8, .int .i64 x9, .int .i64 x10, .int .i64 x11, .int .i64 x12, .int .i64 x13, .int .i64 x14, .int .i64 x15, .int .i64 x16, .int .i64 x17] 58)) := b3.trans (bC.mono s3)
    replace HB := Lib.hid ((bC.block w.heap.size (Array.getElem?_eq_some_iff.1 HB.out).1).trans HB.out)
    clear hb4 b3 s3 HV3 HM3 CP1 bC
    generalize w4.alloc (.cells #[.int .i64 x0, .int .i64 x1, .int .i64 x2, .int .i64 x3, .int .i64 x4, .int .i64 x5, .int .i64 x6, .int .i64 x7, .int .i64 x8, .int .i64 x9, .int .i64 x10, .int .i64 x11, .int .i64 x12, .int .i64 x13, .int .i64 x14, .int .i64 x15, .int .i64 x16, .int .i64 x17] 58) = w5 at *
    generalize w4.heap.size = b7 at *
    have HEQ : ∀ u, (Op.equalIn 9999 56 (.agg #[.int .i64 x0, .int .i64 x1, .int .i64 x2, .int .i64 x3, .int .i64 x4, .int .i64 x5, .int .i64 x6, .int .i64 x7, .int .i64 x8, .int .i64 x9, .int .i64 x10, .int .i64 x11, .int .i64 x12, .int .i64 x13, .int .i64 x14, .int .i64 x15, .int .i64 x16, .int .i64 x17]) (.agg #[.int .i64 x0, .int .i64 x1, .int .i64 x2, .int .i64 x3, .int .i64 x4, .int .i64 x5, .int .i64 x6, .int .i64 x7, .int .i64 x8, .int .i64 x9, .int .i64 x10, .int .i64 x11, .int .i64 x12, .int .i64 x13, .int .i64 x14, .int .i64 x15, .int .i64 x16, .int .i64 x17])).run Tryd.prog u = .ok true u := fun u => arr_same [x0, x1, x2, x3, x4, x5, x6, x7, x8, x9, x10, x11, x12, x13, x14, x15, x16, x17] rfl u
    go_upto_region 8 with (first | (refine wpList_load_boxg (by rfl) 58 _ rfl rfl (load_box Tryd.underlying58 (by kernel_rfl) rfl (by kernel_rfl) (fun j v hj => (cell_of_block HB7.out j).trans hj) (Array.getElem?_eq_some_iff.1 HB7.out).1 (Below.refl _ _)) ?_) | (refine wpList_load_boxg (by rfl) 58 _ rfl rfl (load_box Tryd.underlying58 (by kernel_rfl) rfl (by kernel_rfl) (fun j v hj => (cell_of_block HB.out j).trans hj) (Array.getElem?_eq_some_iff.1 HB.out).1 (Below.refl _ _)) ?_))
    clear HB HB7 HEQ
    have HV5 := Lib.hid (HV.out.stays b5)
    have HM5 := Lib.hid (HM.out.stays b5)
    have s5 := b5.size
    by_cases hx0 : xe = 0
    case neg => as_aux_lemma =>
      have g1 : (xe != 0) = true := bne_iff_ne.2 hx0
      obtain rfl : xt = Ev.zeros18 := HXZ.out hx0
      have HTZ := Lib.hid (show tableV Ev.zeros18 = .agg #[.int .i64 0, .int .i64 0, .int .i64 0, .int .i64 0, .int .i64 0, .int .i64 0, .int .i64 0, .int .i64 0, .int .i64 0, .int .i64 0, .int .i64 0, .int .i64 0, .int .i64 0, .int .i64 0, .int .i64 0, .int .i64 0, .int .i64 0, .int .i64 0] from rfl)
      rw [HTZ.out] at CS
      clear hx0 CX HXZ hXL HTZ
      have HEQ : ∀ u, (Op.equalIn 9999 56 (.agg #[.int .i64 0, .int .i64 0, .int .i64 0, .int .i64 0, .int .i64 0, .int .i64 0, .int .i64 0, .int .i64 0, .int .i64 0, .int .i64 0, .int .i64 0, .int .i64 0, .int .i64 0, .int .i64 0, .int .i64 0, .int .i64 0, .int .i64 0, .int .i64 0]) (.agg #[.int .i64 0, .int .i64 0, .int .i64 0, .int .i64 0, .int .i64 0, .int .i64 0, .int .i64 0, .int .i64 0, .int .i64 0, .int .i64 0, .int .i64 0, .int .i64 0, .int .i64 0, .int .i64 0, .int .i64 0, .int .i64 0, .int .i64 0, .int .i64 0])).run Tryd.prog u = .ok true u := fun u => arr_same Ev.zeros18 rfl u
      go_upto_region 9 with (go_at_call 33; refine (CS.out _ HV5.out HM5.out).mono ?_; rintro e w6 ⟨rfl, hb6⟩)
      have HB9 := Lib.hid (heap_alloc_new w6 (.cells #[.int .i64 0, .int .i64 0, .int .i64 0, .int .i64 0, .int .i64 0, .int .i64 0, .int .i64 0, .int .i64 0, .int .i64 0, .int .i64 0, .int .i64 0, .int .i64 0, .int .i64 0, .int .i64 0, .int .i64 0, .int .i64 0, .int .i64 0, .int .i64 0] 58))
      have b9 : Below w.heap.size w (w6.alloc (.cells #[.int .i64 0, .int .i64 0, .int .i64 0, .int .i64 0, .int .i64 0, .int .i64 0, .int .i64 0, .int .i64 0, .int .i64 0, .int .i64 0, .int .i64 0, .int .i64 0, .int .i64 0, .int .i64 0, .int .i64 0, .int .i64 0, .int .i64 0, .int .i64 0] 58)) := by have := hb6.size; (repeat' first | with_reducible (first | exact Below.refl _ _ | assumption | refine Below.alloc ?_ ?_ _ | refine below_drewN ?_ _ | refine Below.drew ?_ | refine Below.setCell ?_ ?_ _ | refine Below.trans ?_ (Below.mono (by with_reducible assumption) ?_)) | go_size)
      generalize w6.alloc (.cells #[.int .i64 0, .int .i64 0, .int .i64 0, .int .i64 0, .int .i64 0, .int .i64 0, .int .i64 0, .int .i64 0, .int .i64 0, .int .i64 0, .int .i64 0, .int .i64 0, .int .i64 0, .int .i64 0, .int .i64 0, .int .i64 0, .int .i64 0, .int .i64 0] 58) = w7 at *
      generalize w6.heap.size = b8 at *
      go_wp2_with (refine wpList_load_box rfl 58 _ rfl rfl (load_box Tryd.underlying58 (by kernel_rfl) rfl (by kernel_rfl) (fun j v hj => (cell_of_block HB9.out j).trans hj) (Array.getElem?_eq_some_iff.1 HB9.out).1 (Below.refl _ _)) ?_)
      go_ret
      exact ⟨rfl, b9⟩
    case pos => as_aux_lemma =>
      subst hx0
      have CX1 := Lib.hid (CX.out rfl)
      obtain ⟨y0, y1, y2, y3, y4, y5, y6, y7, y8, y9, y10, y11, y12, y13, y14, y15, y16, y17, rfl⟩ := list18t hXL
      have HTZ := Lib.hid (show tableV [y0, y1, y2, y3, y4, y5, y6, y7, y8, y9, y10, y11, y12, y13, y14, y15, y16, y17] = .agg #[.int .i64 y0, .int .i64 y1, .int .i64 y2, .int .i64 y3, .int .i64 y4, .int .i64 y5, .int .i64 y6, .int .i64 y7, .int .i64 y8, .int .i64 y9, .int .i64 y10, .int .i64 y11, .int .i64 y12, .int .i64 y13, .int .i64 y14, .int .i64 y15, .int .i64 y16, .int .i64 y17] from rfl)
      rw [HTZ.out] at CS CX1
      clear CX HXZ hXL HTZ
      go_upto_region 9 with (go_at_call 33; refine (CS.out _ HV5.out HM5.out).mono ?_; rintro e w6 ⟨rfl, hb6⟩)
      have HB9 := Lib.hid (heap_alloc_new w6 (.cells #[.int .i64 y0, .int .i64 y1, .int .i64 y2, .int .i64 y3, .int .i64 y4, .int .i64 y5, .int .i64 y6, .int .i64 y7, .int .i64 y8, .int .i64 y9, .int .i64 y10, .int .i64 y11, .int .i64 y12, .int .i64 y13, .int .i64 y14, .int .i64 y15, .int .i64 y16, .int .i64 y17] 58))
      have b9 : Below w.heap.size w (w6.alloc (.cells #[.int .i64 y0, .int .i64 y1, .int .i64 y2, .int .i64 y3, .int .i64 y4, .int .i64 y5, .int .i64 y6, .int .i64 y7, .int .i64 y8, .int .i64 y9, .int .i64 y10, .int .i64 y11, .int .i64 y12, .int .i64 y13, .int .i64 y14, .int .i64 y15, .int .i64 y16, .int .i64 y17] 58)) := by have := hb6.size; (repeat' first | with_reducible (first | exact Below.refl _ _ | assumption | refine Below.alloc ?_ ?_ _ | refine below_drewN ?_ _ | refine Below.drew ?_ | refine Below.setCell ?_ ?_ _ | refine Below.trans ?_ (Below.mono (by with_reducible assumption) ?_)) | go_size)
      generalize w6.alloc (.cells #[.int .i64 y0, .int .i64 y1, .int .i64 y2, .int .i64 y3, .int .i64 y4, .int .i64 y5, .int .i64 y6, .int .i64 y7, .int .i64 y8, .int .i64 y9, .int .i64 y10, .int .i64 y11, .int .i64 y12, .int .i64 y13, .int .i64 y14, .int .i64 y15, .int .i64 y16, .int .i64 y17] 58) = w7 at *
      generalize w6.heap.size = b8 at *
      have HV7 := Lib.hid (HV.out.stays b9)
      go_upto_region 12 with (first | (refine wpList_load_box rfl 58 _ rfl rfl (load_box Tryd.underlying58 (by kernel_rfl) rfl (by kernel_rfl) (fun j v hj => (cell_of_block HB9.out j).trans hj) (Array.getElem?_eq_some_iff.1 HB9.out).1 (Below.refl _ _)) ?_) | (go_at_call 31; refine (CX1.out _ HV7.out).mono ?_; rintro e w8 ⟨rfl, hb8⟩))
      have b10 : Below w.heap.size w w8 := b9.trans (hb8.mono b9.size)
      go_wp2_with fail
      go_ret
      exact ⟨rfl, b10⟩
end Go.Proofs.YtpbflgemhcaooaaDoor
