import Derived.Test.YtpbflgemhcaooaaDoorTabParse
import Derived.Test.YtpbflgemhcaooaaDoorTabRefText
/- Chapter 2, the reference: a text's table. -/
namespace Go.Proofs.YtpbflgemhcaooaaDoor
open Go.RowKit
set_option linter.unusedSimpArgs false
set_option linter.unusedVariables false
set_option maxHeartbeats 1600000 in
/-- the closure 'no' -/
theorem no_any (e0 : Int) (w : World) :
    Calls Tryd.prog 78 #[.int .i64 e0] w fun e w' => e = .returned (.tuple #[.agg zeroT, .int .i64 e0]) ∧ Below w.heap.size w w' := by
  go_enter Tryd.func78, Tryd.ntmps78
  go_upto_region 1 with fail
  have HR2 : Hid ((w.alloc (.cells #[.int .i64 0, .int .i64 0, .int .i64 0, .int .i64 0, .int .i64 0, .int .i64 0, .int .i64 0, .int .i64 0, .int .i64 0, .int .i64 0, .int .i64 0, .int .i64 0, .int .i64 0, .int .i64 0, .int .i64 0, .int .i64 0, .int .i64 0, .int .i64 0] 58)).heap[w.heap.size]? = some (.cells zeroT 58 (0, 0))) := Lib.hid (heap_alloc_new _ _)
  have bA : Below w.heap.size w (w.alloc (.cells #[.int .i64 0, .int .i64 0, .int .i64 0, .int .i64 0, .int .i64 0, .int .i64 0, .int .i64 0, .int .i64 0, .int .i64 0, .int .i64 0, .int .i64 0, .int .i64 0, .int .i64 0, .int .i64 0, .int .i64 0, .int .i64 0, .int .i64 0, .int .i64 0] 58)) := by (repeat' first | with_reducible (first | exact Below.refl _ _ | assumption | refine Below.alloc ?_ ?_ _ | refine below_drewN ?_ _ | refine Below.drew ?_ | refine Below.setCell ?_ ?_ _ | refine Below.trans ?_ (Below.mono (by with_reducible assumption) ?_)) | go_size)
  generalize w.alloc (.cells #[.int .i64 0, .int .i64 0, .int .i64 0, .int .i64 0, .int .i64 0, .int .i64 0, .int .i64 0, .int .i64 0, .int .i64 0, .int .i64 0, .int .i64 0, .int .i64 0, .int .i64 0, .int .i64 0, .int .i64 0, .int .i64 0, .int .i64 0, .int .i64 0] 58) = wA at *
  go_wp2_with (refine wpList_put_box (cells := zeroT) rfl 58 _ _ rfl rfl rfl HR2.out rfl (by kernel_rfl) zeroT_one ?_; intro w2 hr2 hb2 hz2)
  have hl2 := load_range Tryd.underlying58 (by kernel_rfl) (by simp) (by kernel_rfl) hr2
  refine bodyPost_ret (v := .tuple #[.agg zeroT, .int .i64 e0]) (by simp [results, Tryd.results78, Sem.run_bind, asAddr, hl2]) rfl ?_
  exact ⟨rfl, bA.trans hb2⟩
theorem str_ix {T : TypeId} (hT : Tryd.prog.underlying T = some .string) {l : List UInt8} {i : Nat} {c : UInt8} (h : l[i]? = some c) (u : World) : (Go.Instr.index T (.string ⟨l.toArray⟩) (.int .i64 (i : Int))).run Tryd.prog u = .ok (.int .u8 (c.toNat : Int)) u := by
  obtain ⟨hi, hc⟩ := List.getElem?_eq_some_iff.1 h
  have hs : (⟨l.toArray⟩ : ByteArray).size = l.length := by show l.toArray.size = _; simp
  rw [run_index_string u T _ .i64 _ hT]
  rw [dif_pos ⟨by omega, by rw [hs]; omega⟩]
  have e : ∀ hh, (⟨l.toArray⟩ : ByteArray)[(i : Int).toNat]'hh = c := fun hh => by
    show l.toArray[i]'_ = c
    simpa using hc
  rw [e]
theorem str_from {T : TypeId} (hT : Tryd.prog.underlying T = some .string) {l : List UInt8} {i : Nat} (h : i ≤ l.length) (u : World) : (Go.Instr.slice T (.string ⟨l.toArray⟩) (some (.int .i64 (i : Int))) none none).run Tryd.prog u = .ok (.string ⟨(l.drop i).toArray⟩) u := by
  have hs : (⟨l.toArray⟩ : ByteArray).size = l.length := by show l.toArray.size = _; simp
  rw [run_slice_string_from_if u T _ .i64 _ hT, if_pos ⟨by omega, by rw [hs]; omega⟩, hs]
  rw [ByteArray.extract_mk, show (i : Int).toNat = i from rfl, List.take_of_length_le (by simp)]
theorem str_to {T : TypeId} (hT : Tryd.prog.underlying T = some .string) {l : List UInt8} {i : Nat} (h : i ≤ l.length) (u : World) : (Go.Instr.slice T (.string ⟨l.toArray⟩) none (some (.int .i64 (i : Int))) none).run Tryd.prog u = .ok (.string ⟨(l.take i).toArray⟩) u := by
  have hs : (⟨l.toArray⟩ : ByteArray).size = l.length := by show l.toArray.size = _; simp
  rw [run_slice_string_to_if u T _ .i64 _ hT, if_pos ⟨by omega, by rw [hs]; omega⟩]
  rw [ByteArray.extract_mk, show (i : Int).toNat = i from rfl, List.drop_zero, Nat.sub_zero]
theorem str_sub {T : TypeId} (hT : Tryd.prog.underlying T = some .string) {l : List UInt8} {i j : Nat} (h : i ≤ j) (h2 : j ≤ l.length) (u : World) : (Go.Instr.slice T (.string ⟨l.toArray⟩) (some (.int .i64 (i : Int))) (some (.int .i64 (j : Int))) none).run Tryd.prog u = .ok (.string ⟨((l.drop i).take (j - i)).toArray⟩) u := by
  have hs : (⟨l.toArray⟩ : ByteArray).size = l.length := by show l.toArray.size = _; simp
  rw [run_slice_string u T _ .i64 .i64 _ _ hT (by omega) (by omega) (by rw [hs]; omega)]
  rw [ByteArray.extract_mk]
  rfl
theorem wpList_slice_at {ops : Array Oper} {rest : List Oper} {o : Oper} {a : Act} {w : World} {Q : Exit → Act → World → Prop} (hg : o.guard = none) (T : TypeId) (x : Operand) (lo hi : Option Operand) (ho : o.op = Op.slice T x lo hi none) {p v : Value} {l h : Option Value} (hx : a.eval x = p) (hl : lo.map a.eval = l) (hh : hi.map a.eval = h)
    (hT : Tryd.prog.underlying T = some .string) (hr : (Go.Instr.slice T p l h none).run Tryd.prog w = .ok v w) (hq : wpList Tryd.prog ops Q rest (a.put o.dst v) w) : wpList Tryd.prog ops Q (o :: rest) a w := by
  refine wpList_plain hg fun K hK => ?_
  unfold Oper.wp
  simp [execOp, ho, hx, hl, hh, run_sliceAt_string _ _ _ _ _ _ hT, hr, Result.andThen]
  exact hK _ _ hq
theorem u8_neq {c : UInt8} (k : Nat) (hk : k < 256) (h : c ≠ UInt8.ofNat k) : ((c.toNat : Int) != (k : Int)) = true := by
  refine bne_iff_ne.2 (fun e => h ?_)
  apply UInt8.toNat_inj.1
  rw [UInt8.toNat_ofNat_of_lt' hk]
  omega
theorem first_here {b : UInt8} {l : List UInt8} (h : Ev.first b l < l.length) : l[Ev.first b l]? = some b := by
  have e := Ev.first_at h
  obtain ⟨n, hn⟩ : ∃ n, Ev.first b l = n := ⟨_, rfl⟩
  rw [hn] at h e ⊢
  rw [e, List.getElem?_append_right (by rw [List.length_take]; omega), List.length_take, Nat.min_eq_left (by omega), Nat.sub_self]
  rfl
theorem first_before {b c : UInt8} {l : List UInt8} {k : Nat} (h : k < Ev.first b l) (hc : l[k]? = some c) : c ≠ b := by
  intro e
  subst e
  refine Ev.first_not (b := c) (l := l) (k := k + 1) h ?_
  rw [List.mem_iff_getElem?]
  exact ⟨k, by rw [List.getElem?_take, if_pos (by omega)]; exact hc⟩
/-- the ops' names: which one, from the second on -/
def opUp (n : List UInt8) : Nat → Nat := fun k => Ev.opTo n (k - 1)
theorem ops_get {j : Nat} (h : j < 18) {x : List UInt8} (hx : ([] :: Ev.opNames).getD j [] = x) : opsCells[j]? = some (.string ⟨(x).toArray⟩) := by
  rw [ops_at h, hx]
  rfl
set_option maxRecDepth 6000 in
set_option maxHeartbeats 40000000 in
theorem refParse_any (s0 : List UInt8) (w : World) (hv : Vars w) (hs : s0.length < 4294967281) :
    Calls Tryd.prog 34 #[.string ⟨(s0).toArray⟩] w fun e w' => e = .returned (.tuple #[tableV (Ev.tparse s0).2, .int .i64 (Ev.tparse s0).1]) ∧ Below w.heap.size w w' := by
  obtain ⟨RE, RT, hR⟩ : ∃ RE RT, Ev.tparse s0 = (RE, RT) := ⟨_, _, rfl⟩
  rw [hR]
  have HR0 := Lib.hid (show Ev.tscan s0 [] Ev.zeros18 0 = (RE, RT) from hR)
  have HV := Lib.hid hv
  clear hR hv
  go_enter Tryd.func34, Tryd.ntmps34
  go_upto_region 3 with fail
  have bA : Below w.heap.size w ((w.alloc (.cells #[.int .i64 0, .int .i64 0, .int .i64 0, .int .i64 0, .int .i64 0, .int .i64 0, .int .i64 0, .int .i64 0, .int .i64 0, .int .i64 0, .int .i64 0, .int .i64 0, .int .i64 0, .int .i64 0, .int .i64 0, .int .i64 0, .int .i64 0, .int .i64 0] 58)).alloc (.cells #[.int .i64 0, .int .i64 0, .int .i64 0, .int .i64 0, .int .i64 0, .int .i64 0, .int .i64 0, .int .i64 0, .int .i64 0, .int .i64 0, .int .i64 0, .int .i64 0, .int .i64 0, .int .i64 0, .int .i64 0, .int .i64 0, .int .i64 0, .int .i64 0] 58)) := by (repeat' first | with_reducible (first | exact Below.refl _ _ | assumption | refine Below.alloc ?_ ?_ _ | refine below_drewN ?_ _ | refine Below.drew ?_ | refine Below.setCell ?_ ?_ _ | refine Below.trans ?_ (Below.mono (by with_reducible assumption) ?_)) | go_size)
  have HR2 : Hid ((((w.alloc (.cells #[.int .i64 0, .int .i64 0, .int .i64 0, .int .i64 0, .int .i64 0, .int .i64 0, .int .i64 0, .int .i64 0, .int .i64 0, .int .i64 0, .int .i64 0, .int .i64 0, .int .i64 0, .int .i64 0, .int .i64 0, .int .i64 0, .int .i64 0, .int .i64 0] 58)).alloc (.cells #[.int .i64 0, .int .i64 0, .int .i64 0, .int .i64 0, .int .i64 0, .int .i64 0, .int .i64 0, .int .i64 0, .int .i64 0, .int .i64 0, .int .i64 0, .int .i64 0, .int .i64 0, .int .i64 0, .int .i64 0, .int .i64 0, .int .i64 0, .int .i64 0] 58))).heap[w.heap.size]? = some (.cells zeroT 58 (0, 0))) := Lib.hid (((Below.refl _ _).alloc (Nat.le_refl _) _).block w.heap.size (by simp) |>.trans (heap_alloc_new _ _))
  have HT4 : Hid ((((w.alloc (.cells #[.int .i64 0, .int .i64 0, .int .i64 0, .int .i64 0, .int .i64 0, .int .i64 0, .int .i64 0, .int .i64 0, .int .i64 0, .int .i64 0, .int .i64 0, .int .i64 0, .int .i64 0, .int .i64 0, .int .i64 0, .int .i64 0, .int .i64 0, .int .i64 0] 58)).alloc (.cells #[.int .i64 0, .int .i64 0, .int .i64 0, .int .i64 0, .int .i64 0, .int .i64 0, .int .i64 0, .int .i64 0, .int .i64 0, .int .i64 0, .int .i64 0, .int .i64 0, .int .i64 0, .int .i64 0, .int .i64 0, .int .i64 0, .int .i64 0, .int .i64 0] 58))).heap[w.heap.size + 1]? = some (.cells (Ev.zeros18.map (Value.int .i64)).toArray 58 (0, 0))) := by
    have h := heap_alloc_new (w.alloc (.cells #[.int .i64 0, .int .i64 0, .int .i64 0, .int .i64 0, .int .i64 0, .int .i64 0, .int .i64 0, .int .i64 0, .int .i64 0, .int .i64 0, .int .i64 0, .int .i64 0, .int .i64 0, .int .i64 0, .int .i64 0, .int .i64 0, .int .i64 0, .int .i64 0] 58)) (.cells #[.int .i64 0, .int .i64 0, .int .i64 0, .int .i64 0, .int .i64 0, .int .i64 0, .int .i64 0, .int .i64 0, .int .i64 0, .int .i64 0, .int .i64 0, .int .i64 0, .int .i64 0, .int .i64 0, .int .i64 0, .int .i64 0, .int .i64 0, .int .i64 0] 58)
    rw [World.size_alloc] at h
    exact h
  generalize ((w.alloc (.cells #[.int .i64 0, .int .i64 0, .int .i64 0, .int .i64 0, .int .i64 0, .int .i64 0, .int .i64 0, .int .i64 0, .int .i64 0, .int .i64 0, .int .i64 0, .int .i64 0, .int .i64 0, .int .i64 0, .int .i64 0, .int .i64 0, .int .i64 0, .int .i64 0] 58)).alloc (.cells #[.int .i64 0, .int .i64 0, .int .i64 0, .int .i64 0, .int .i64 0, .int .i64 0, .int .i64 0, .int .i64 0, .int .i64 0, .int .i64 0, .int .i64 0, .int .i64 0, .int .i64 0, .int .i64 0, .int .i64 0, .int .i64 0, .int .i64 0, .int .i64 0] 58)) = wA at *
  have zA : w.heap.size + 1 < wA.heap.size := (Array.getElem?_eq_some_iff.1 HT4.out).1
  have sA := bA.size
  go_upto_region 4 with (go_at_call 29; refine (ops2_any _).mono ?_; rintro e w1 ⟨rfl, hw1⟩; have HW1 := Lib.hid hw1; clear hw1)
  have hw1 := HW1.out
  clear HW1
  have HN0 : Hid (w1.heap[wA.heap.size]? = some (.cells opsCells 9 (0, 0))) := Lib.hid (by
    subst hw1
    have h := (Below.alloc (Below.refl _ (wA.alloc (.cells opsCells 9))) (Nat.le_refl _) (.cells (Ev.opsMost.map (Value.int .i64)).toArray 3)).block wA.heap.size (by simp)
    exact h.trans (heap_alloc_new _ _))
  have hb1 : Below wA.heap.size wA w1 := by subst hw1; (repeat' first | with_reducible (first | exact Below.refl _ _ | assumption | refine Below.alloc ?_ ?_ _ | refine below_drewN ?_ _ | refine Below.drew ?_ | refine Below.setCell ?_ ?_ _ | refine Below.trans ?_ (Below.mono (by with_reducible assumption) ?_)) | go_size)
  clear hw1
  replace HR2 := Lib.hid ((hb1.block w.heap.size (Array.getElem?_eq_some_iff.1 HR2.out).1).trans HR2.out)
  replace HT4 := Lib.hid ((hb1.block (w.heap.size + 1) (Array.getElem?_eq_some_iff.1 HT4.out).1).trans HT4.out)
  have zn : wA.heap.size < w1.heap.size := (Array.getElem?_eq_some_iff.1 HN0.out).1
  replace bA : Below w.heap.size w w1 := bA.trans (hb1.mono sA)
  clear hb1 sA
  go_wp2_with fail
  go_loopw [26, 8, 9] (fun iv lv fv wr => ∃ (i from_ : Nat) (acc : List UInt8) (t : List Int) (last : Nat), iv = .int .i64 (i : Int) ∧ lv = .int .i64 (last : Int) ∧ fv = .int .i64 (from_ : Int) ∧ i ≤ s0.length ∧ from_ ≤ i ∧ Hid ((s0.drop from_).take (i - from_) = acc) ∧ last ≤ 17 ∧ t.length = 18 ∧ Hid (Ev.tscan (s0.drop i) acc t last = (RE, RT)) ∧ Hid (wr.heap[w.heap.size]? = some (.cells zeroT 58 (0, 0))) ∧ Hid (wr.heap[w.heap.size + 1]? = some (.cells (t.map (Value.int .i64)).toArray 58 (0, 0))) ∧ Hid (∀ x ∈ t, -9223372036854775808 ≤ x ∧ x ≤ 9223372036854775807) ∧ Hid (wr.heap[wA.heap.size]? = some (.cells opsCells 9 (0, 0))) ∧ Below w.heap.size w wr) (fun iv _ _ _ => s0.length - (intOf iv).toNat)
  case atStart => exact ⟨0, 0, [], Ev.zeros18, 0, rfl, rfl, rfl, by omega, by omega, Lib.hid (by simp), by omega, rfl, HR0, HR2, HT4, Lib.hid (by decide), HN0, bA⟩
  case round =>
    clear HR0 HR2 HT4 bA HN0 zn
    obtain ⟨i, from_, acc, t, last, rfl, rfl, rfl, hi, hfi, HAC, hla, htl, HT, HR2, HT4, HTB, HN0, hB⟩ := hrel
    have sB := hB.size
    by_cases hlt : i < s0.length
    case neg =>
      obtain rfl : i = s0.length := by omega
      have HE : Hid ((if acc = [] then Ev.tend t else (2, Ev.zeros18)) = (RE, RT)) := Lib.hid (by
        have h := HT.out
        rw [List.drop_length] at h
        unfold Ev.tscan at h
        exact h)
      clear HT
      by_cases hfl : from_ < s0.length
      · obtain ⟨rfl, rfl⟩ : (2 : Int) = RE ∧ Ev.zeros18 = RT := by
          have h := HE.out
          rw [if_neg (by rw [← HAC.out]; intro e; have := congrArg List.length e; rw [List.length_take, List.length_drop] at this; simp at this; omega)] at h
          injection h with h1 h2
          exact ⟨h1, h2⟩
        clear HE HAC hlt
        go_wp2_with (first | (go_at_call 78; refine (no_any _ _).mono ?_; rintro e wn ⟨rfl, hbn⟩; have HRn := Lib.hid ((hbn.block w.heap.size (Array.getElem?_eq_some_iff.1 HR2.out).1).trans HR2.out)) | (refine wpList_put_box (cells := zeroT) rfl 58 _ _ rfl rfl rfl HRn.out rfl (by kernel_rfl) zeroT_one ?_; intro w2 hr2 hb2 hz2))
        have hl2 := load_range Tryd.underlying58 (by kernel_rfl) (by simp) (by kernel_rfl) hr2
        refine bodyPost_ret (v := .tuple #[.agg zeroT, .int .i64 2]) (by simp [results, Tryd.results34, Sem.run_bind, asAddr, hl2]) rfl ?_
        exact ⟨rfl, (hB.trans (hbn.mono hB.size)).trans hb2⟩
      · have hacc : acc = [] := by
          rw [← HAC.out, List.drop_eq_nil_of_le (by omega)]
          simp
        have HE2 : Hid (Ev.tend t = (RE, RT)) := Lib.hid (by
          have h := HE.out
          rw [if_pos hacc] at h
          exact h)
        clear HE HAC hacc hlt
        obtain ⟨wt, hwt⟩ : ∃ wt, Ev.wrong t = wt := ⟨_, rfl⟩
        have CW : Hid (∀ u : World, Calls Tryd.prog 37 #[.agg (t.map (Value.int .i64)).toArray] u fun e w' => e = .returned (.int .i64 wt) ∧ Below u.heap.size u w') := Lib.hid (fun u => by
          have h := refWrong_any t u htl HTB.out
          rw [hwt] at h
          exact h)
        have HW := Lib.hid hwt
        have hz : (t.map (Value.int .i64)).toArray.size = 18 := by simp [htl]
        have HZ := Lib.hid hz
        have ho : (t.map (Value.int .i64)).toArray.all (·.oneCell') = true := by simp [Value.oneCell']
        have HO := Lib.hid ho
        generalize hta : (t.map (Value.int .i64)).toArray = ta at *
        have HTA := Lib.hid hta
        have HLD : Hid (∀ u, Below wr.heap.size wr u → (Go.Instr.loadAt 58 (.pointer (some ⟨w.heap.size + 1, 0, none⟩))).run Tryd.prog u = .ok (.agg ta) u) := Lib.hid (fun u hu => load_box Tryd.underlying58 (by kernel_rfl) (by simp) (by rw [Array.length_toList, hz]; kernel_rfl) (fun j v hj => (cell_of_block HT4.out j).trans hj) (Array.getElem?_eq_some_iff.1 HT4.out).1 hu)
        clear hwt hz ho hta
        go_upto_region 33 with (first | (refine wpList_load_box rfl 58 _ rfl rfl (HLD.out _ (Below.refl _ _)) ?_) | (go_at_call 37; refine (CW.out _).mono ?_; rintro e w1b ⟨rfl, hb1⟩))
        have b1 : Below w.heap.size w w1b := hB.trans (hb1.mono sB)
        replace HR2 := Lib.hid ((hb1.block w.heap.size (Array.getElem?_eq_some_iff.1 HR2.out).1).trans HR2.out)
        have HLD2 := Lib.hid (HLD.out w1b hb1)
        clear HLD CW hb1 HT4 hB sB HN0
        by_cases h0 : wt = 0
        · subst h0
          obtain ⟨rfl, rfl⟩ : (0 : Int) = RE ∧ t = RT := by
            have h := HE2.out
            unfold Ev.tend at h
            rw [if_pos HW.out] at h
            injection h with h1 h2
            exact ⟨h1, h2⟩
          go_wp2_with (first | (refine wpList_load_box rfl 58 _ rfl rfl HLD2.out ?_) | (refine wpList_put_box rfl 58 _ _ rfl rfl rfl HR2.out (by rw [HZ.out]; rfl) (by rw [HZ.out]; kernel_rfl) HO.out ?_; intro w2 hr2 hb2 hz2))
          have hl2 := load_range Tryd.underlying58 (by kernel_rfl) (by simp) (by rw [Array.length_toList, HZ.out]; kernel_rfl) hr2
          refine bodyPost_ret (v := .tuple #[.agg ta, .int .i64 0]) (by simp [results, Tryd.results34, Sem.run_bind, asAddr, hl2]) rfl ?_
          exact ⟨by unfold tableV; rw [HTA.out], b1.trans hb2⟩
        · have g0 : (wt != 0) = true := bne_iff_ne.2 h0
          obtain ⟨rfl, rfl⟩ : wt = RE ∧ Ev.zeros18 = RT := by
            have h := HE2.out
            unfold Ev.tend at h
            rw [if_neg (by rw [HW.out]; exact h0), HW.out] at h
            injection h with h1 h2
            exact ⟨h1, h2⟩
          clear h0 HE2 HW
          go_wp2_with (first | (go_at_call 78; refine (no_any _ _).mono ?_; rintro e wn ⟨rfl, hbn⟩; have HRn := Lib.hid ((hbn.block w.heap.size (Array.getElem?_eq_some_iff.1 HR2.out).1).trans HR2.out)) | (refine wpList_put_box (cells := zeroT) rfl 58 _ _ rfl rfl rfl HRn.out rfl (by kernel_rfl) zeroT_one ?_; intro w2 hr2 hb2 hz2))
          have hl2 := load_range Tryd.underlying58 (by kernel_rfl) (by simp) (by kernel_rfl) hr2
          refine bodyPost_ret (v := .tuple #[.agg zeroT, .int .i64 wt]) (by simp [results, Tryd.results34, Sem.run_bind, asAddr, hl2]) rfl ?_
          exact ⟨rfl, (b1.trans (hbn.mono b1.size)).trans hb2⟩
    case pos =>
    obtain ⟨c, hc⟩ : ∃ c, s0[i]? = some c := ⟨s0[i], List.getElem?_eq_getElem hlt⟩
    have hIX := Lib.hid (fun u => str_ix (T := 9) Tryd.underlying9 hc u)
    have HDR := Lib.hid (show s0.drop i = c :: s0.drop (i + 1) by rw [List.drop_eq_getElem_cons hlt]; congr 1; rw [List.getElem?_eq_getElem hlt] at hc; injection hc)
    by_cases c10 : c = 10
    case neg =>
      have g0 : ((c.toNat : Int) != 10) = true := u8_neq 10 (by omega) c10
      have HT2 : Hid (Ev.tscan (s0.drop (i + 1)) (acc ++ [c]) t last = (RE, RT)) := Lib.hid (by
        have h := HT.out
        rw [HDR.out] at h
        unfold Ev.tscan at h
        rw [if_neg c10] at h
        exact h)
      have HA2 : Hid ((s0.drop from_).take (i + 1 - from_) = acc ++ [c]) := Lib.hid (by
        have h := HAC.out
        rw [show i + 1 - from_ = (i - from_) + 1 by omega, List.take_add_one, h, List.getElem?_drop, show from_ + (i - from_) = i by omega, hc]
        rfl)
      clear HT HAC HDR c10 hc
      go_upto_region 9 with (refine wpList_index_at rfl _ _ _ rfl rfl rfl (hIX.out _) ?_)
      go_wp2_with fail
      go_roundw
      case rel => exact ⟨i + 1, from_, acc ++ [c], t, last, by go_num, rfl, rfl, by omega, by omega, HA2, hla, htl, HT2, HR2, HT4, HTB, HN0, hB⟩
      case measure => simp [intOf]; omega
    case pos =>
    subst c10
    have hacl : acc.length = i - from_ := by rw [← HAC.out, List.length_take, List.length_drop]; omega
    have hSB : Hid (∀ u, (Go.Instr.slice 9 (.string ⟨(s0).toArray⟩) (some (.int .i64 (from_ : Int))) (some (.int .i64 (i : Int))) none).run Tryd.prog u = .ok (.string ⟨(acc).toArray⟩) u) := Lib.hid (fun u => by
      have h := str_sub (T := 9) Tryd.underlying9 hfi hi u
      rw [HAC.out] at h
      exact h)
    have HT2 : Hid ((if (Ev.tline acc t last).1 = 0 then Ev.tscan (s0.drop (i + 1)) [] (Ev.tline acc t last).2.1 (Ev.tline acc t last).2.2 else ((Ev.tline acc t last).1, Ev.zeros18)) = (RE, RT)) := Lib.hid (by
      have h := HT.out
      rw [HDR.out] at h
      unfold Ev.tscan at h
      rw [if_pos rfl] at h
      exact h)
    clear HT HDR HAC hc
    have hfirst := Ev.first_le 32 acc
    go_upto_region 9 with (refine wpList_index_at rfl _ _ _ rfl rfl rfl (hIX.out _) ?_)
    go_upto_region 10 with (refine wpList_slice_at rfl _ _ _ _ rfl rfl rfl rfl Tryd.underlying9 (hSB.out _) ?_)
    clear hIX hSB
    go_upto_region 12 with fail
    go_loopw [12] (fun kk wx => ∃ k : Nat, kk = .int .i64 (k : Int) ∧ k ≤ Ev.first 32 acc ∧ wr = wx) (fun kk _ => acc.length - (intOf kk).toNat)
    case atStart => exact ⟨0, rfl, by omega, rfl⟩
    case round =>
    obtain ⟨k, rfl, hk, rfl⟩ := hrel
    by_cases hkf : k < Ev.first 32 acc
    case pos =>
      obtain ⟨c, hc⟩ : ∃ c, acc[k]? = some c := ⟨acc[k]'(by omega), List.getElem?_eq_getElem (by omega)⟩
      have ix : ∀ u, (Go.Instr.index 9 (.string ⟨(acc).toArray⟩) (.int .i64 (k : Int))).run Tryd.prog u = .ok (.int .u8 (c.toNat : Int)) u := fun u => str_ix (T := 9) Tryd.underlying9 hc u
      have g0 : ((c.toNat : Int) != 32) = true := u8_neq 32 (by omega) (first_before hkf hc)
      have gk : k < acc.length := by omega
      clear hc
      go_wp2_with fail
      go_roundw
      case rel => exact ⟨k + 1, by go_num, by omega, by first | rfl | trivial⟩
      case measure => simp [intOf]; omega
    case neg =>
    obtain rfl : k = Ev.first 32 acc := by omega
    by_cases c2 : Ev.first 32 acc < acc.length
    case neg =>
      obtain ⟨rfl, rfl⟩ : (2 : Int) = RE ∧ Ev.zeros18 = RT := by
        have h := HT2.out
        rw [Ev.tline_form c2] at h
        rw [if_neg (by show ¬ ((2 : Int) = 0); decide)] at h
        injection h with h1 h2
        exact ⟨h1, h2⟩
      obtain ⟨k, hk2⟩ : ∃ k, Ev.first 32 acc = k := ⟨_, rfl⟩
      rw [hk2] at c2 hfirst ⊢
      have gk : ¬ k < acc.length := c2
      have gk2 : k = acc.length := by omega
      subst gk2
      clear c2 hk2 HT2
      go_wp2_with (first | (go_at_call 78; refine (no_any _ _).mono ?_; rintro e wn ⟨rfl, hbn⟩; have HRn := Lib.hid ((hbn.block w.heap.size (Array.getElem?_eq_some_iff.1 HR2.out).1).trans HR2.out)) | (refine wpList_put_box (cells := zeroT) rfl 58 _ _ rfl rfl rfl HRn.out rfl (by kernel_rfl) zeroT_one ?_; intro w2 hr2 hb2 hz2))
      have hl2 := load_range Tryd.underlying58 (by kernel_rfl) (by simp) (by kernel_rfl) hr2
      refine bodyPost_ret (v := .tuple #[.agg zeroT, .int .i64 2]) (by simp [results, Tryd.results34, Sem.run_bind, asAddr, hl2]) rfl ?_
      exact ⟨rfl, (hB.trans (hbn.mono hB.size)).trans hb2⟩
    case pos =>
    have TN := Lib.hid (Ev.tline_none (t := t) (last := last) c2)
    have TO := Lib.hid (Ev.tline_not (t := t) (last := last) c2)
    have TY := Lib.hid (Ev.tline_yes (t := t) (last := last) c2)
    have hc32 := first_here c2
    obtain ⟨k, hk2⟩ : ∃ k, Ev.first 32 acc = k := ⟨_, rfl⟩
    rw [hk2] at c2 hfirst TN TO TY hc32 ⊢
    obtain ⟨NM, hNM⟩ : ∃ NM, acc.take k = NM := ⟨_, rfl⟩
    obtain ⟨WH, hWH⟩ : ∃ WH, acc.drop (k + 1) = WH := ⟨_, rfl⟩
    have hWl : WH.length < 4294967281 := by rw [← hWH, List.length_drop]; omega
    rw [hNM] at TN
    rw [hNM, hWH] at TO TY
    have ix : ∀ u, (Go.Instr.index 9 (.string ⟨(acc).toArray⟩) (.int .i64 (k : Int))).run Tryd.prog u = .ok (.int .u8 32) u := fun u => str_ix (T := 9) Tryd.underlying9 hc32 u
    have st : ∀ u, (Go.Instr.slice 9 (.string ⟨(acc).toArray⟩) none (some (.int .i64 (k : Int))) none).run Tryd.prog u = .ok (.string ⟨(NM).toArray⟩) u := fun u => by
      have h := str_to (T := 9) Tryd.underlying9 (l := acc) (i := k) (by omega) u
      rw [hNM] at h
      exact h
    have sf : ∀ u, (Go.Instr.slice 9 (.string ⟨(acc).toArray⟩) (some (.int .i64 ((k : Int) + 1))) none none).run Tryd.prog u = .ok (.string ⟨(WH).toArray⟩) u := fun u => by
      have h := str_from (T := 9) Tryd.underlying9 (l := acc) (i := k + 1) (by omega) u
      rw [hWH] at h
      exact h
    have gk : k < acc.length := c2
    have gk2 : ¬ k = acc.length := by omega
    clear c2 hk2 hNM hWH hc32 hkf
    go_upto_region 18 with fail
    go_loopw [61, 13] (fun jj ov wz => ∃ j : Nat, j ≤ 18 ∧ jj = .int .i64 (j : Int) ∧ ov = .int .i64 ((Ev.opTo NM (j - 1) : Nat) : Int) ∧ wr = wz) (fun jj _ _ => 18 - (intOf jj).toNat)
    case atStart => exact ⟨0, by omega, rfl, rfl, rfl⟩
    case round =>
    obtain ⟨j, hj, rfl, rfl, rfl⟩ := hrel
    have zn : wA.heap.size < wr.heap.size := (Array.getElem?_eq_some_iff.1 HN0.out).1
    by_cases hjl : j < 18
    case pos =>
      obtain ⟨x, hx⟩ : ∃ x, ([] :: Ev.opNames).getD j [] = x := ⟨_, rfl⟩
      have n1 : wr.cell? ⟨wA.heap.size, j, none⟩ = some (.string ⟨(x).toArray⟩) := (cell_of_block HN0.out j).trans (ops_get hjl hx)
      have hob := (Ev.opTo_name NM (j - 1) (by omega)).1
      rcases j with _ | j
      · go_wp2_with fail
        go_roundw
        case rel => exact ⟨1, by omega, by go_num, rfl, by first | rfl | trivial⟩
        case measure => simp [intOf]
      · have hx2 : Ev.opNames.getD j [] = x := hx
        have HST := Lib.hid (show Ev.opTo NM (j + 1) = if x = NM then j + 1 else Ev.opTo NM j by rw [← hx2]; rfl)
        have gj : (0 : Int) < ((j + 1 : Nat) : Int) := by omega
        clear hx hx2
        by_cases hxn : x = NM
        · subst hxn
          have HS2 := Lib.hid (show Ev.opTo x (j + 1) = j + 1 by rw [HST.out, if_pos rfl])
          clear HST
          go_wp2_with fail
          go_roundw
          case rel => exact ⟨j + 1 + 1, by omega, by go_num, by show _ = Value.int .i64 ((Ev.opTo x (j + 1) : Nat) : Int); rw [HS2.out] <;> go_num, by first | rfl | trivial⟩
          case measure => simp [intOf]; omega
        · have HS2 := Lib.hid (show Ev.opTo NM (j + 1) = Ev.opTo NM j by rw [HST.out, if_neg hxn])
          have gx : (x == NM) = false := beq_eq_false_iff_ne.2 hxn
          clear HST
          go_wp2_with fail
          go_roundw
          case rel => exact ⟨j + 1 + 1, by omega, by go_num, by show _ = Value.int .i64 ((Ev.opTo NM (j + 1) : Nat) : Int); rw [HS2.out]; rfl, by first | rfl | trivial⟩
          case measure => simp [intOf]; omega
    case neg =>
    obtain rfl : j = 18 := by omega
    dsimp only [Nat.add_one_sub_one, show 18 - 1 = 17 from rfl]
    obtain ⟨op, hop⟩ : ∃ op, Ev.opTo NM 17 = op := ⟨_, rfl⟩
    have hop17 := (Ev.opTo_name NM 17 (Nat.le_refl _)).1
    rw [hop] at hop17 ⊢
    have TN1 := Lib.hid (show op = 0 → Ev.tline acc t last = (7, t, last) from fun h => TN.out (hop.trans h))
    have TO1 := Lib.hid (fun (h0 : op ≠ 0) (h : ¬ (Ev.atoiY WH = true ∧ Lib.itoa (Ev.atoiN WH) = WH ∧ 1 ≤ Ev.atoiN WH ∧ last < op)) => TO.out (show Ev.opOf NM ≠ 0 by unfold Ev.opOf; rw [hop]; exact h0) (by unfold Ev.opOf; rw [hop]; exact h))
    have TY1 := Lib.hid (fun (h0 : op ≠ 0) (h : Ev.atoiY WH = true ∧ Lib.itoa (Ev.atoiN WH) = WH ∧ 1 ≤ Ev.atoiN WH ∧ last < op) => TY.out (show Ev.opOf NM ≠ 0 by unfold Ev.opOf; rw [hop]; exact h0) (by unfold Ev.opOf; rw [hop]; exact h))
    have HOP := Lib.hid (show Ev.opOf NM = op from hop)
    clear hop TN TO TY zn st ix
    by_cases h0 : op = 0
    · obtain ⟨rfl, rfl⟩ : (7 : Int) = RE ∧ Ev.zeros18 = RT := by
        have h := HT2.out
        rw [TN1.out h0] at h
        rw [if_neg (by show ¬ ((7 : Int) = 0); decide)] at h
        injection h with h1 h2
        exact ⟨h1, h2⟩
      have g0 : ((op : Int) == 0) = true := by rw [h0]; rfl
      clear h0 HT2 TN1 TO1 TY1
      go_wp2_with (first | (go_at_call 78; refine (no_any _ _).mono ?_; rintro e wn ⟨rfl, hbn⟩; have HRn := Lib.hid ((hbn.block w.heap.size (Array.getElem?_eq_some_iff.1 HR2.out).1).trans HR2.out)) | (refine wpList_put_box (cells := zeroT) rfl 58 _ _ rfl rfl rfl HRn.out rfl (by kernel_rfl) zeroT_one ?_; intro w2 hr2 hb2 hz2))
      have hl2 := load_range Tryd.underlying58 (by kernel_rfl) (by simp) (by kernel_rfl) hr2
      refine bodyPost_ret (v := .tuple #[.agg zeroT, .int .i64 7]) (by simp [results, Tryd.results34, Sem.run_bind, asAddr, hl2]) rfl ?_
      exact ⟨rfl, (hB.trans (hbn.mono hB.size)).trans hb2⟩
    have g0 : ((op : Int) == 0) = false := beq_eq_false_iff_ne.2 (by omega)
    have hop1 : 1 ≤ op := by omega
    replace TO1 := Lib.hid (TO1.out h0)
    replace TY1 := Lib.hid (TY1.out h0)
    clear h0 TN1
    have BAD : Hid (¬ (Ev.atoiY WH = true ∧ Lib.itoa (Ev.atoiN WH) = WH ∧ 1 ≤ Ev.atoiN WH ∧ last < op) → (2 : Int) = RE ∧ Ev.zeros18 = RT) := Lib.hid (fun hn => by
      have h := HT2.out
      rw [TO1.out hn] at h
      rw [if_neg (by show ¬ ((2 : Int) = 0); decide)] at h
      injection h with h1 h2
      exact ⟨h1, h2⟩)
    have GOOD : Hid (Ev.atoiY WH = true ∧ Lib.itoa (Ev.atoiN WH) = WH ∧ 1 ≤ Ev.atoiN WH ∧ last < op → Ev.tscan (s0.drop (i + 1)) [] (t.set op (Ev.atoiN WH)) op = (RE, RT)) := Lib.hid (fun hy => by
      have h := HT2.out
      rw [TY1.out hy, HOP.out] at h
      exact h)
    have hWs : (⟨WH.toArray⟩ : ByteArray).size ≤ 281474976710656 := by show WH.toArray.size ≤ _; simp; omega
    have HNB := Lib.hid (atoiV_in ⟨WH.toArray⟩)
    have e0 : (⟨WH.toArray⟩ : ByteArray).data.toList = WH := List.toList_toArray
    have e1 : atoiV ⟨WH.toArray⟩ = Ev.atoiN WH := by unfold atoiV Ev.atoiN; rw [e0]; cases Lib.atoiAll WH <;> rfl
    have e2 : atoiB ⟨WH.toArray⟩ = Ev.atoiY WH := by unfold atoiB Ev.atoiY; rw [e0]; cases Lib.atoiAll WH <;> rfl
    clear e0
    rw [e1] at HNB
    have CY := Lib.hid (fun u => atoi_yes ⟨WH.toArray⟩ u hWs)
    have CN := Lib.hid (fun u => atoi_no ⟨WH.toArray⟩ u hWs)
    rw [e1, e2] at CY CN
    clear e1 e2 hWs HT2 TO1 TY1
    have HVr := Lib.hid (HV.out.stays hB)
    have HS := Lib.hid sf
    obtain ⟨n, hn⟩ : ∃ n, Ev.atoiN WH = n := ⟨_, rfl⟩
    rw [hn] at BAD GOOD CY CN HNB
    clear hn
    cases hy : Ev.atoiY WH with
    | false =>
      obtain ⟨rfl, rfl⟩ := BAD.out (fun h => by rw [hy] at h; cases h.1)
      replace CN := Lib.hid (fun u hv => CN.out u hv hy)
      clear hy CY BAD GOOD
      go_upto_region 26 with (go_at_call 77; refine (CN.out _ HVr.out).mono ?_; rintro e w7 ⟨N7, rfl, hb7⟩)
      have b7 : Below w.heap.size w w7 := hB.trans (hb7.mono sB)
      replace HR2 := Lib.hid ((hb7.block w.heap.size (Array.getElem?_eq_some_iff.1 HR2.out).1).trans HR2.out)
      clear hb7 HT4
      refine wp_region_chain (fun w' => Below (w7).heap.size (w7) w') (by kernel_rfl) (by kernel_rfl) (by (repeat' first | with_reducible (first | exact Below.refl _ _ | assumption | refine Below.alloc ?_ ?_ _ | refine below_drewN ?_ _ | refine Below.drew ?_ | refine Below.setCell ?_ ?_ _ | refine Below.trans ?_ (Below.mono (by with_reducible assumption) ?_)) | go_size)) ?_
      repeat (
        apply chain_cons
        case h =>
          refine fun w9 hb9 => ?_
          have hB9 : Below w7.heap.size w7 w9 := by (repeat' first | with_reducible (first | exact Below.refl _ _ | assumption | refine Below.alloc ?_ ?_ _ | refine below_drewN ?_ _ | refine Below.drew ?_ | refine Below.setCell ?_ ?_ _ | refine Below.trans ?_ (Below.mono (by with_reducible assumption) ?_)) | go_size)
          obtain ⟨kc9, kf9, s9⟩ := bfacts hb9
          obtain ⟨kd9, kg9, _⟩ := bfacts hB9
          go_wp2_with (fail)
          (try (fail; go_wp2_with fail))
          refine settled_intro (S := fun w' => Below (w7).heap.size (w7) w') ?_
          (repeat' first | with_reducible (first | exact Below.refl _ _ | assumption | refine Below.alloc ?_ ?_ _ | refine below_drewN ?_ _ | refine Below.drew ?_ | refine Below.setCell ?_ ?_ _ | refine Below.trans ?_ (Below.mono (by with_reducible assumption) ?_)) | go_size)
        case hp => first | rfl | (simp only [*]; done) | (simp only [*]; rfl))
      refine chain.nil ?_
      refine fun w8 hb8 => ?_
      have B8 : Below w7.heap.size w7 w8 := by (repeat' first | with_reducible (first | exact Below.refl _ _ | assumption | refine Below.alloc ?_ ?_ _ | refine below_drewN ?_ _ | refine Below.drew ?_ | refine Below.setCell ?_ ?_ _ | refine Below.trans ?_ (Below.mono (by with_reducible assumption) ?_)) | go_size)
      obtain ⟨kc8, kf8, s8⟩ := bfacts hb8
      obtain ⟨kd8, kg8, _⟩ := bfacts B8
      (try simp only [World.size_alloc, World.size_setCell, World.size_drew, World.heap_drewN, Nat.add_one_le_iff] at s8)
      clear hb8
      have hb8 := B8
      clear B8
      have B8 : Hid (Below w7.heap.size w7 w8) := hb8
      (try have z8 : w7.heap.size < w8.heap.size := by omega)
      (try dsimp only)
      replace HR2 := Lib.hid ((hb8.block w.heap.size (Array.getElem?_eq_some_iff.1 HR2.out).1).trans HR2.out)
      have b8 : Below w.heap.size w w8 := b7.trans (hb8.mono b7.size)
      go_wp2_with (first | (go_at_call 78; refine (no_any _ _).mono ?_; rintro e wn ⟨rfl, hbn⟩; have HRn := Lib.hid ((hbn.block w.heap.size (Array.getElem?_eq_some_iff.1 HR2.out).1).trans HR2.out)) | (refine wpList_put_box (cells := zeroT) rfl 58 _ _ rfl rfl rfl HRn.out rfl (by kernel_rfl) zeroT_one ?_; intro w2 hr2 hb2 hz2))
      have hl2 := load_range Tryd.underlying58 (by kernel_rfl) (by simp) (by kernel_rfl) hr2
      refine bodyPost_ret (v := .tuple #[.agg zeroT, .int .i64 2]) (by simp [results, Tryd.results34, Sem.run_bind, asAddr, hl2]) rfl ?_
      exact ⟨rfl, (b8.trans (hbn.mono b8.size)).trans hb2⟩
    | true =>
      replace CY := Lib.hid (fun u => CY.out u hy)
      rw [hy] at BAD GOOD
      clear hy CN
      have CI := Lib.hid (fun u hv => itoa_any n u HNB.out hv)
      obtain ⟨it, hit⟩ : ∃ it, Lib.itoa n = it := ⟨_, rfl⟩
      rw [hit] at CI BAD GOOD
      clear hit
      go_upto_region 26 with (go_at_call 77; refine (CY.out _).mono ?_; rintro e w7 ⟨rfl, hb7⟩)
      have b7 : Below w.heap.size w w7 := hB.trans (hb7.mono sB)
      replace HR2 := Lib.hid ((hb7.block w.heap.size (Array.getElem?_eq_some_iff.1 HR2.out).1).trans HR2.out)
      replace HT4 := Lib.hid ((hb7.block (w.heap.size + 1) (Array.getElem?_eq_some_iff.1 HT4.out).1).trans HT4.out)
      replace HN0 := Lib.hid ((hb7.block wA.heap.size (Array.getElem?_eq_some_iff.1 HN0.out).1).trans HN0.out)
      replace HVr := Lib.hid (HVr.out.stays hb7)
      clear hb7 CY hB sB
      have s7 := b7.size
      by_cases hI : it = WH
      case neg =>
        obtain ⟨rfl, rfl⟩ := BAD.out (fun h => hI h.2.1)
        have gi : (it == WH) = false := beq_eq_false_iff_ne.2 hI
        have gj : (it != WH) = true := bne_iff_ne.2 hI
        clear hI BAD GOOD HT4
        refine wp_region_chain (fun w' => Below (w7).heap.size (w7) w') (by kernel_rfl) (by kernel_rfl) (by (repeat' first | with_reducible (first | exact Below.refl _ _ | assumption | refine Below.alloc ?_ ?_ _ | refine below_drewN ?_ _ | refine Below.drew ?_ | refine Below.setCell ?_ ?_ _ | refine Below.trans ?_ (Below.mono (by with_reducible assumption) ?_)) | go_size)) ?_
        repeat (
          apply chain_cons
          case h =>
            refine fun w9 hb9 => ?_
            have hB9 : Below w7.heap.size w7 w9 := by (repeat' first | with_reducible (first | exact Below.refl _ _ | assumption | refine Below.alloc ?_ ?_ _ | refine below_drewN ?_ _ | refine Below.drew ?_ | refine Below.setCell ?_ ?_ _ | refine Below.trans ?_ (Below.mono (by with_reducible assumption) ?_)) | go_size)
            obtain ⟨kc9, kf9, s9⟩ := bfacts hb9
            obtain ⟨kd9, kg9, _⟩ := bfacts hB9
            go_wp2_with (fail)
            (try (go_at_call 75; refine (CI.out _ (HVr.out.stays hB9)).mono ?_; rintro e wi ⟨rfl, hbi⟩; go_wp2_with fail))
            refine settled_intro (S := fun w' => Below (w7).heap.size (w7) w') ?_
            (repeat' first | with_reducible (first | exact Below.refl _ _ | assumption | refine Below.alloc ?_ ?_ _ | refine below_drewN ?_ _ | refine Below.drew ?_ | refine Below.setCell ?_ ?_ _ | refine Below.trans ?_ (Below.mono (by with_reducible assumption) ?_)) | go_size)
          case hp => first | rfl | (simp only [*]; done) | (simp only [*]; rfl))
        refine chain.nil ?_
        refine fun w8 hb8 => ?_
        have B8 : Below w7.heap.size w7 w8 := by (repeat' first | with_reducible (first | exact Below.refl _ _ | assumption | refine Below.alloc ?_ ?_ _ | refine below_drewN ?_ _ | refine Below.drew ?_ | refine Below.setCell ?_ ?_ _ | refine Below.trans ?_ (Below.mono (by with_reducible assumption) ?_)) | go_size)
        obtain ⟨kc8, kf8, s8⟩ := bfacts hb8
        obtain ⟨kd8, kg8, _⟩ := bfacts B8
        (try simp only [World.size_alloc, World.size_setCell, World.size_drew, World.heap_drewN, Nat.add_one_le_iff] at s8)
        clear hb8
        have hb8 := B8
        clear B8
        have B8 : Hid (Below w7.heap.size w7 w8) := hb8
        (try have z8 : w7.heap.size < w8.heap.size := by omega)
        (try dsimp only)
        have b8 : Below w.heap.size w w8 := b7.trans (hb8.mono s7)
        replace HR2 := Lib.hid ((hb8.block w.heap.size (Array.getElem?_eq_some_iff.1 HR2.out).1).trans HR2.out)
        go_wp2_with (first | (go_at_call 78; refine (no_any _ _).mono ?_; rintro e wn ⟨rfl, hbn⟩; have HRn := Lib.hid ((hbn.block w.heap.size (Array.getElem?_eq_some_iff.1 HR2.out).1).trans HR2.out)) | (refine wpList_put_box (cells := zeroT) rfl 58 _ _ rfl rfl rfl HRn.out rfl (by kernel_rfl) zeroT_one ?_; intro w2 hr2 hb2 hz2))
        have hl2 := load_range Tryd.underlying58 (by kernel_rfl) (by simp) (by kernel_rfl) hr2
        refine bodyPost_ret (v := .tuple #[.agg zeroT, .int .i64 2]) (by simp [results, Tryd.results34, Sem.run_bind, asAddr, hl2]) rfl ?_
        exact ⟨rfl, (b8.trans (hbn.mono b8.size)).trans hb2⟩
      case pos =>
      subst hI
      by_cases h1 : 1 ≤ n
      case neg =>
        obtain ⟨rfl, rfl⟩ := BAD.out (fun h => h1 h.2.2.1)
        have gi : decide (n < 1) = true := decide_eq_true (by omega)
        have gl : n < 1 := by omega
        clear h1 BAD GOOD HT4
        refine wp_region_chain (fun w' => Below (w7).heap.size (w7) w') (by kernel_rfl) (by kernel_rfl) (by (repeat' first | with_reducible (first | exact Below.refl _ _ | assumption | refine Below.alloc ?_ ?_ _ | refine below_drewN ?_ _ | refine Below.drew ?_ | refine Below.setCell ?_ ?_ _ | refine Below.trans ?_ (Below.mono (by with_reducible assumption) ?_)) | go_size)) ?_
        repeat (
          apply chain_cons
          case h =>
            refine fun w9 hb9 => ?_
            have hB9 : Below w7.heap.size w7 w9 := by (repeat' first | with_reducible (first | exact Below.refl _ _ | assumption | refine Below.alloc ?_ ?_ _ | refine below_drewN ?_ _ | refine Below.drew ?_ | refine Below.setCell ?_ ?_ _ | refine Below.trans ?_ (Below.mono (by with_reducible assumption) ?_)) | go_size)
            obtain ⟨kc9, kf9, s9⟩ := bfacts hb9
            obtain ⟨kd9, kg9, _⟩ := bfacts hB9
            go_wp2_with (fail)
            (try (go_at_call 75; refine (CI.out _ (HVr.out.stays hB9)).mono ?_; rintro e wi ⟨rfl, hbi⟩; go_wp2_with fail))
            refine settled_intro (S := fun w' => Below (w7).heap.size (w7) w') ?_
            (repeat' first | with_reducible (first | exact Below.refl _ _ | assumption | refine Below.alloc ?_ ?_ _ | refine below_drewN ?_ _ | refine Below.drew ?_ | refine Below.setCell ?_ ?_ _ | refine Below.trans ?_ (Below.mono (by with_reducible assumption) ?_)) | go_size)
          case hp => first | rfl | (simp only [*]; done) | (simp only [*]; rfl))
        refine chain.nil ?_
        refine fun w8 hb8 => ?_
        have B8 : Below w7.heap.size w7 w8 := by (repeat' first | with_reducible (first | exact Below.refl _ _ | assumption | refine Below.alloc ?_ ?_ _ | refine below_drewN ?_ _ | refine Below.drew ?_ | refine Below.setCell ?_ ?_ _ | refine Below.trans ?_ (Below.mono (by with_reducible assumption) ?_)) | go_size)
        obtain ⟨kc8, kf8, s8⟩ := bfacts hb8
        obtain ⟨kd8, kg8, _⟩ := bfacts B8
        (try simp only [World.size_alloc, World.size_setCell, World.size_drew, World.heap_drewN, Nat.add_one_le_iff] at s8)
        clear hb8
        have hb8 := B8
        clear B8
        have B8 : Hid (Below w7.heap.size w7 w8) := hb8
        (try have z8 : w7.heap.size < w8.heap.size := by omega)
        (try dsimp only)
        have b8 : Below w.heap.size w w8 := b7.trans (hb8.mono s7)
        replace HR2 := Lib.hid ((hb8.block w.heap.size (Array.getElem?_eq_some_iff.1 HR2.out).1).trans HR2.out)
        go_wp2_with (first | (go_at_call 78; refine (no_any _ _).mono ?_; rintro e wn ⟨rfl, hbn⟩; have HRn := Lib.hid ((hbn.block w.heap.size (Array.getElem?_eq_some_iff.1 HR2.out).1).trans HR2.out)) | (refine wpList_put_box (cells := zeroT) rfl 58 _ _ rfl rfl rfl HRn.out rfl (by kernel_rfl) zeroT_one ?_; intro w2 hr2 hb2 hz2))
        have hl2 := load_range Tryd.underlying58 (by kernel_rfl) (by simp) (by kernel_rfl) hr2
        refine bodyPost_ret (v := .tuple #[.agg zeroT, .int .i64 2]) (by simp [results, Tryd.results34, Sem.run_bind, asAddr, hl2]) rfl ?_
        exact ⟨rfl, (b8.trans (hbn.mono b8.size)).trans hb2⟩
      case pos =>
      have gi : decide (n < 1) = false := decide_eq_false (by omega)
      by_cases h2 : last < op
      case neg =>
        obtain ⟨rfl, rfl⟩ := BAD.out (fun h => h2 h.2.2.2)
        have gl : decide ((op : Int) ≤ (last : Int)) = true := decide_eq_true (by omega)
        have gm : op ≤ last := by omega
        clear h2 BAD GOOD HT4
        refine wp_region_chain (fun w' => Below (w7).heap.size (w7) w') (by kernel_rfl) (by kernel_rfl) (by (repeat' first | with_reducible (first | exact Below.refl _ _ | assumption | refine Below.alloc ?_ ?_ _ | refine below_drewN ?_ _ | refine Below.drew ?_ | refine Below.setCell ?_ ?_ _ | refine Below.trans ?_ (Below.mono (by with_reducible assumption) ?_)) | go_size)) ?_
        repeat (
          apply chain_cons
          case h =>
            refine fun w9 hb9 => ?_
            have hB9 : Below w7.heap.size w7 w9 := by (repeat' first | with_reducible (first | exact Below.refl _ _ | assumption | refine Below.alloc ?_ ?_ _ | refine below_drewN ?_ _ | refine Below.drew ?_ | refine Below.setCell ?_ ?_ _ | refine Below.trans ?_ (Below.mono (by with_reducible assumption) ?_)) | go_size)
            obtain ⟨kc9, kf9, s9⟩ := bfacts hb9
            obtain ⟨kd9, kg9, _⟩ := bfacts hB9
            go_wp2_with (fail)
            (try (go_at_call 75; refine (CI.out _ (HVr.out.stays hB9)).mono ?_; rintro e wi ⟨rfl, hbi⟩; go_wp2_with fail))
            refine settled_intro (S := fun w' => Below (w7).heap.size (w7) w') ?_
            (repeat' first | with_reducible (first | exact Below.refl _ _ | assumption | refine Below.alloc ?_ ?_ _ | refine below_drewN ?_ _ | refine Below.drew ?_ | refine Below.setCell ?_ ?_ _ | refine Below.trans ?_ (Below.mono (by with_reducible assumption) ?_)) | go_size)
          case hp => first | rfl | (simp only [*]; done) | (simp only [*]; rfl))
        refine chain.nil ?_
        refine fun w8 hb8 => ?_
        have B8 : Below w7.heap.size w7 w8 := by (repeat' first | with_reducible (first | exact Below.refl _ _ | assumption | refine Below.alloc ?_ ?_ _ | refine below_drewN ?_ _ | refine Below.drew ?_ | refine Below.setCell ?_ ?_ _ | refine Below.trans ?_ (Below.mono (by with_reducible assumption) ?_)) | go_size)
        obtain ⟨kc8, kf8, s8⟩ := bfacts hb8
        obtain ⟨kd8, kg8, _⟩ := bfacts B8
        (try simp only [World.size_alloc, World.size_setCell, World.size_drew, World.heap_drewN, Nat.add_one_le_iff] at s8)
        clear hb8
        have hb8 := B8
        clear B8
        have B8 : Hid (Below w7.heap.size w7 w8) := hb8
        (try have z8 : w7.heap.size < w8.heap.size := by omega)
        (try dsimp only)
        have b8 : Below w.heap.size w w8 := b7.trans (hb8.mono s7)
        replace HR2 := Lib.hid ((hb8.block w.heap.size (Array.getElem?_eq_some_iff.1 HR2.out).1).trans HR2.out)
        go_wp2_with (first | (go_at_call 78; refine (no_any _ _).mono ?_; rintro e wn ⟨rfl, hbn⟩; have HRn := Lib.hid ((hbn.block w.heap.size (Array.getElem?_eq_some_iff.1 HR2.out).1).trans HR2.out)) | (refine wpList_put_box (cells := zeroT) rfl 58 _ _ rfl rfl rfl HRn.out rfl (by kernel_rfl) zeroT_one ?_; intro w2 hr2 hb2 hz2))
        have hl2 := load_range Tryd.underlying58 (by kernel_rfl) (by simp) (by kernel_rfl) hr2
        refine bodyPost_ret (v := .tuple #[.agg zeroT, .int .i64 2]) (by simp [results, Tryd.results34, Sem.run_bind, asAddr, hl2]) rfl ?_
        exact ⟨rfl, (b8.trans (hbn.mono b8.size)).trans hb2⟩
      case pos =>
      have gl : decide ((op : Int) ≤ (last : Int)) = false := decide_eq_false (by omega)
      have gm : ¬ op ≤ last := by omega
      have GD := Lib.hid (GOOD.out ⟨by first | rfl | trivial, by first | rfl | trivial, h1, h2⟩)
      clear BAD GOOD
      refine wp_region_chain (fun w' => Below (w7).heap.size (w7) w') (by kernel_rfl) (by kernel_rfl) (by (repeat' first | with_reducible (first | exact Below.refl _ _ | assumption | refine Below.alloc ?_ ?_ _ | refine below_drewN ?_ _ | refine Below.drew ?_ | refine Below.setCell ?_ ?_ _ | refine Below.trans ?_ (Below.mono (by with_reducible assumption) ?_)) | go_size)) ?_
      repeat (
        apply chain_cons
        case h =>
          refine fun w9 hb9 => ?_
          have hB9 : Below w7.heap.size w7 w9 := by (repeat' first | with_reducible (first | exact Below.refl _ _ | assumption | refine Below.alloc ?_ ?_ _ | refine below_drewN ?_ _ | refine Below.drew ?_ | refine Below.setCell ?_ ?_ _ | refine Below.trans ?_ (Below.mono (by with_reducible assumption) ?_)) | go_size)
          obtain ⟨kc9, kf9, s9⟩ := bfacts hb9
          obtain ⟨kd9, kg9, _⟩ := bfacts hB9
          go_wp2_with (fail)
          (try (go_at_call 75; refine (CI.out _ (HVr.out.stays hB9)).mono ?_; rintro e wi ⟨rfl, hbi⟩; go_wp2_with fail))
          refine settled_intro (S := fun w' => Below (w7).heap.size (w7) w') ?_
          (repeat' first | with_reducible (first | exact Below.refl _ _ | assumption | refine Below.alloc ?_ ?_ _ | refine below_drewN ?_ _ | refine Below.drew ?_ | refine Below.setCell ?_ ?_ _ | refine Below.trans ?_ (Below.mono (by with_reducible assumption) ?_)) | go_size)
        case hp => first | rfl | (simp only [*]; done) | (simp only [*]; rfl))
      refine chain.nil ?_
      refine fun w8 hb8 => ?_
      have B8 : Below w7.heap.size w7 w8 := by (repeat' first | with_reducible (first | exact Below.refl _ _ | assumption | refine Below.alloc ?_ ?_ _ | refine below_drewN ?_ _ | refine Below.drew ?_ | refine Below.setCell ?_ ?_ _ | refine Below.trans ?_ (Below.mono (by with_reducible assumption) ?_)) | go_size)
      obtain ⟨kc8, kf8, s8⟩ := bfacts hb8
      obtain ⟨kd8, kg8, _⟩ := bfacts B8
      (try simp only [World.size_alloc, World.size_setCell, World.size_drew, World.heap_drewN, Nat.add_one_le_iff] at s8)
      clear hb8
      have hb8 := B8
      clear B8
      have B8 : Hid (Below w7.heap.size w7 w8) := hb8
      (try have z8 : w7.heap.size < w8.heap.size := by omega)
      (try dsimp only)
      have b8 : Below w.heap.size w w8 := b7.trans (hb8.mono s7)
      replace HR2 := Lib.hid ((hb8.block w.heap.size (Array.getElem?_eq_some_iff.1 HR2.out).1).trans HR2.out)
      replace HT4 := Lib.hid ((hb8.block (w.heap.size + 1) (Array.getElem?_eq_some_iff.1 HT4.out).1).trans HT4.out)
      replace HN0 := Lib.hid ((hb8.block wA.heap.size (Array.getElem?_eq_some_iff.1 HN0.out).1).trans HN0.out)
      clear hb8 b7 s7 h2 gl gm gi
      have t1 : w8.cell? ⟨w.heap.size + 1, op, none⟩ = some (.int .i64 (t.getD op 0)) := by
        rw [cell_of_block HT4.out, List.getElem?_toArray, List.getElem?_map, List.getD_eq_getElem?_getD, List.getElem?_eq_getElem (by omega)]
        rfl
      have tf : w8.frozen? ⟨w.heap.size + 1, op, none⟩ = false := by
        unfold World.frozen?
        rw [HT4.out]
        simp
      have hop18 : (op : Int) < 18 := by omega
      have zt := (Array.getElem?_eq_some_iff.1 HT4.out).1
      have zo := (Array.getElem?_eq_some_iff.1 HN0.out).1
      go_wp2_with fail
      go_roundw
      case rel =>
        refine ⟨i + 1, i + 1, [], t.set op n, op, by go_num, by first | rfl | trivial, by go_num, by omega, Nat.le_refl _, Lib.hid (by simp), hop17, by rw [List.length_set]; exact htl, GD, Lib.hid ?_, Lib.hid ?_, Lib.hid ?_, Lib.hid ?_, b8.setCell (by show w.heap.size ≤ w.heap.size + 1; omega) _⟩
        · rw [Below.heap_setCell _ _ _ _ (by show w.heap.size ≠ w.heap.size + 1; omega)]
          exact HR2.out
        · rw [heap_setCell_same _ _ _ _ _ _ HT4.out, List.map_set, List.setIfInBounds_toArray]
        · intro x hx
          rcases List.mem_or_eq_of_mem_set hx with h | rfl
          · exact HTB.out x h
          · exact HNB.out
        · rw [Below.heap_setCell _ _ _ _ (by show wA.heap.size ≠ w.heap.size + 1; omega)]
          exact HN0.out
      case measure => simp [intOf]; omega
end Go.Proofs.YtpbflgemhcaooaaDoor
