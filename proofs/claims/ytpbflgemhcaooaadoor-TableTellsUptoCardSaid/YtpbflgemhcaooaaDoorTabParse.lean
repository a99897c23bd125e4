import Derived.Test.YtpbflgemhcaooaaDoorTabText
import Derived.Test.YtpbflgemhcaooaaDoorPutBox
import Derived.Shelf.Strings.Cut
/- Chapter 2: a text's table. -/
namespace Ev
open Go
theorem first_out {b : UInt8} {l : List UInt8} (h : ¬ first b l < l.length) : b ∉ l := by
  have h1 := first_le b l
  have h2 := first_not (b := b) (l := l) (k := first b l) (Nat.le_refl _)
  rw [show first b l = l.length by omega, List.take_length] at h2
  exact h2
theorem scan_cut {s : List UInt8} {t : List Int} {last : Nat} (h : first 10 s < s.length) :
    tscan s [] t last = if (tline (s.take (first 10 s)) t last).1 = 0 then tscan (s.drop (first 10 s + 1)) [] (tline (s.take (first 10 s)) t last).2.1 (tline (s.take (first 10 s)) t last).2.2 else ((tline (s.take (first 10 s)) t last).1, zeros18) := by
  conv => lhs; rw [first_at h]
  have := scan_line (s.take (first 10 s)) (s := s.drop (first 10 s + 1)) (acc := []) (t := t) (last := last) (first_not (Nat.le_refl _))
  rw [List.nil_append] at this
  exact this
theorem tline_form {l : List UInt8} {t : List Int} {last : Nat} (h : ¬ first 32 l < l.length) : tline l t last = (2, t, last) := by
  unfold tline
  rw [if_pos (by have := first_le 32 l; omega)]
theorem tline_none {l : List UInt8} {t : List Int} {last : Nat} (h : first 32 l < l.length) (h0 : opOf (l.take (first 32 l)) = 0) : tline l t last = (7, t, last) := by
  unfold tline
  rw [if_neg (by omega), if_pos h0]
theorem tline_not {l : List UInt8} {t : List Int} {last : Nat} (h : first 32 l < l.length) (h0 : opOf (l.take (first 32 l)) ≠ 0) (h1 : ¬ (atoiY (l.drop (first 32 l + 1)) = true ∧ Lib.itoa (atoiN (l.drop (first 32 l + 1))) = l.drop (first 32 l + 1) ∧ 1 ≤ atoiN (l.drop (first 32 l + 1)) ∧ last < opOf (l.take (first 32 l)))) : tline l t last = (2, t, last) := by
  unfold tline
  rw [if_neg (by omega), if_neg h0, if_neg h1]
theorem tline_yes {l : List UInt8} {t : List Int} {last : Nat} (h : first 32 l < l.length) (h0 : opOf (l.take (first 32 l)) ≠ 0) (h1 : atoiY (l.drop (first 32 l + 1)) = true ∧ Lib.itoa (atoiN (l.drop (first 32 l + 1))) = l.drop (first 32 l + 1) ∧ 1 ≤ atoiN (l.drop (first 32 l + 1)) ∧ last < opOf (l.take (first 32 l))) :
    tline l t last = (0, t.set (opOf (l.take (first 32 l))) (atoiN (l.drop (first 32 l + 1))), opOf (l.take (first 32 l))) := by
  unfold tline
  rw [if_neg (by omega), if_neg h0, if_pos h1]
end Ev
namespace Go.Proofs.YtpbflgemhcaooaaDoor
open Go.RowKit
set_option linter.unusedSimpArgs false
set_option linter.unusedVariables false
/-- internal/bytealg.MaxLen is some number -/
def MaxL (w : World) : Prop := ∃ m, w.cell? ⟨0, 0, none⟩ = some (.int .i64 m)
theorem MaxL.stays {w w' : World} (h : MaxL w) (hb : Below w.heap.size w w') : MaxL w' := by
  obtain ⟨m, hm⟩ := h
  exact ⟨m, (hb.cell (p := ⟨0, 0, none⟩) (World.block_lt_of_cell? w _ hm)).trans hm⟩
theorem cut_yes (b : UInt8) (l : List UInt8) (w : World) (hm : MaxL w) (hl : l.length < 4294967281) (h : Ev.first b l < l.length) :
    Calls Tryd.prog 76 #[.string ⟨(l).toArray⟩, .string ⟨#[b]⟩] w fun e w' => e = .returned (.tuple #[.string ⟨(l.take (Ev.first b l)).toArray⟩, .string ⟨(l.drop (Ev.first b l + 1)).toArray⟩, .bool true]) ∧ ∃ n, w' = w.drewN n := by
  obtain ⟨m, hm⟩ := hm
  have hc := Any.strings_Cut Tryd.lays145 ⟨l.toArray⟩ ⟨#[b]⟩ m w hl hm
  have e : Lib.cut (⟨l.toArray⟩ : ByteArray).data.toList (⟨#[b]⟩ : ByteArray).data.toList = (l.take (Ev.first b l), l.drop (Ev.first b l + 1), true) := by
    show Lib.cut l.toArray.toList [b] = _
    rw [List.toList_toArray, Ev.cut_first, if_pos h]
  rw [e] at hc
  exact hc
theorem cut_no (b : UInt8) (l : List UInt8) (w : World) (hm : MaxL w) (hl : l.length < 4294967281) (h : ¬ Ev.first b l < l.length) :
    Calls Tryd.prog 76 #[.string ⟨(l).toArray⟩, .string ⟨#[b]⟩] w fun e w' => e = .returned (.tuple #[.string ⟨(l).toArray⟩, .string ⟨#[]⟩, .bool false]) ∧ ∃ n, w' = w.drewN n := by
  obtain ⟨m, hm⟩ := hm
  have hc := Any.strings_Cut Tryd.lays145 ⟨l.toArray⟩ ⟨#[b]⟩ m w hl hm
  have e : Lib.cut (⟨l.toArray⟩ : ByteArray).data.toList (⟨#[b]⟩ : ByteArray).data.toList = (l, [], false) := by
    show Lib.cut l.toArray.toList [b] = _
    rw [List.toList_toArray, Ev.cut_first, if_neg h]
  rw [e] at hc
  exact hc
/-- what Cut hands back -/
def cutV (b : UInt8) (l : List UInt8) : List UInt8 × List UInt8 × Bool := if Ev.first b l < l.length then (l.take (Ev.first b l), l.drop (Ev.first b l + 1), true) else (l, [], false)
theorem cut_any (b : UInt8) (l : List UInt8) (w : World) (hm : MaxL w) (hl : l.length < 4294967281) :
    Calls Tryd.prog 76 #[.string ⟨(l).toArray⟩, .string ⟨#[b]⟩] w fun e w' => e = .returned (.tuple #[.string ⟨((cutV b l).1).toArray⟩, .string ⟨((cutV b l).2.1).toArray⟩, .bool (cutV b l).2.2]) ∧ ∃ n, w' = w.drewN n := by
  unfold cutV
  by_cases h : Ev.first b l < l.length
  · rw [if_pos h]; exact cut_yes b l w hm hl h
  · rw [if_neg h]; exact cut_no b l w hm hl h
def strLenV : Value → Nat | .string b => b.size | _ => 0
def zeroT : Array Value := (Ev.zeros18.map (Value.int .i64)).toArray
theorem zeroT_one : zeroT.all (·.oneCell') = true := by unfold zeroT Ev.zeros18; simp [Value.oneCell']
theorem zeroT_lit : zeroT = #[.int .i64 0, .int .i64 0, .int .i64 0, .int .i64 0, .int .i64 0, .int .i64 0, .int .i64 0, .int .i64 0, .int .i64 0, .int .i64 0, .int .i64 0, .int .i64 0, .int .i64 0, .int .i64 0, .int .i64 0, .int .i64 0, .int .i64 0, .int .i64 0] := by unfold zeroT Ev.zeros18; rfl
set_option maxRecDepth 6000 in
set_option maxHeartbeats 6400000 in
theorem parse_any (s0 : List UInt8) (w : World) (hv : Vars w) (hm : MaxL w) (hs : s0.length < 4294967281) :
    Calls Tryd.prog 33 #[.string ⟨(s0).toArray⟩] w fun e w' => e = .returned (.tuple #[tableV (Ev.tparse s0).2, .int .i64 (Ev.tparse s0).1]) ∧ Below w.heap.size w w' := by
  obtain ⟨RE, RT, hR⟩ : ∃ RE RT, Ev.tparse s0 = (RE, RT) := ⟨_, _, rfl⟩
  rw [hR]
  have HR0 := Lib.hid (show Ev.tscan s0 [] Ev.zeros18 0 = (RE, RT) from hR)
  have HV := Lib.hid hv
  have HM := Lib.hid hm
  clear hR hv hm
  go_enter Tryd.func33, Tryd.ntmps33
  go_upto_region 3 with fail
  have bA : Below w.heap.size w ((w.alloc (.cells #[.int .i64 0, .int .i64 0, .int .i64 0, .int .i64 0, .int .i64 0, .int .i64 0, .int .i64 0, .int .i64 0, .int .i64 0, .int .i64 0, .int .i64 0, .int .i64 0, .int .i64 0, .int .i64 0, .int .i64 0, .int .i64 0, .int .i64 0, .int .i64 0] 58)).alloc (.cells #[.int .i64 0, .int .i64 0, .int .i64 0, .int .i64 0, .int .i64 0, .int .i64 0, .int .i64 0, .int .i64 0, .int .i64 0, .int .i64 0, .int .i64 0, .int .i64 0, .int .i64 0, .int .i64 0, .int .i64 0, .int .i64 0, .int .i64 0, .int .i64 0] 58)) := by (repeat' first | with_reducible (first | exact Below.refl _ _ | assumption | refine Below.alloc ?_ ?_ _ | refine below_drewN ?_ _ | refine Below.drew ?_ | refine Below.setCell ?_ ?_ _ | refine Below.trans ?_ (Below.mono (by with_reducible assumption) ?_)) | go_size)
  have HR2 : Hid ((((w.alloc (.cells #[.int .i64 0, .int .i64 0, .int .i64 0, .int .i64 0, .int .i64 0, .int .i64 0, .int .i64 0, .int .i64 0, .int .i64 0, .int .i64 0, .int .i64 0, .int .i64 0, .int .i64 0, .int .i64 0, .int .i64 0, .int .i64 0, .int .i64 0, .int .i64 0] 58)).alloc (.cells #[.int .i64 0, .int .i64 0, .int .i64 0, .int .i64 0, .int .i64 0, .int .i64 0, .int .i64 0, .int .i64 0, .int .i64 0, .int .i64 0, .int .i64 0, .int .i64 0, .int .i64 0, .int .i64 0, .int .i64 0, .int .i64 0, .int .i64 0, .int .i64 0] 58))).heap[w.heap.size]? = some (.cells zeroT 58 (0, 0))) := Lib.hid (((Below.refl _ _).alloc (Nat.le_refl _) _).block w.heap.size (by simp) |>.trans (heap_alloc_new _ _))
  have HT4 : Hid ((((w.alloc (.cells #[.int .i64 0, .int .i64 0, .int .i64 0, .int .i64 0, .int .i64 0, .int .i64 0, .int .i64 0, .int .i64 0, .int .i64 0, .int .i64 0, .int .i64 0, .int .i64 0, .int .i64 0, .int .i64 0, .int .i64 0, .int .i64 0, .int .i64 0, .int .i64 0] 58)).alloc (.cells #[.int .i64 0, .int .i64 0, .int .i64 0, .int .i64 0, .int .i64 0, .int .i64 0, .int .i64 0, .int .i64 0, .int .i64 0, .int .i64 0, .int .i64 0, .int .i64 0, .int .i64 0, .int .i64 0, .int .i64 0, .int .i64 0, .int .i64 0, .int .i64 0] 58))).heap[w.heap.size + 1]? = some (.cells (Ev.zeros18.map (Value.int .i64)).toArray 58 (0, 0))) := by
    have h := heap_alloc_new (w.alloc (.cells #[.int .i64 0, .int .i64 0, .int .i64 0, .int .i64 0, .int .i64 0, .int .i64 0, .int .i64 0, .int .i64 0, .int .i64 0, .int .i64 0, .int .i64 0, .int .i64 0, .int .i64 0, .int .i64 0, .int .i64 0, .int .i64 0, .int .i64 0, .int .i64 0] 58)) (.cells #[.int .i64 0, .int .i64 0, .int .i64 0, .int .i64 0, .int .i64 0, .int .i64 0, .int .i64 0, .int .i64 0, .int .i64 0, .int .i64 0, .int .i64 0, .int .i64 0, .int .i64 0, .int .i64 0, .int .i64 0, .int .i64 0, .int .i64 0, .int .i64 0] 58)
    rw [World.size_alloc] at h
    exact h
  generalize ((w.alloc (.cells #[.int .i64 0, .int .i64 0, .int .i64 0, .int .i64 0, .int .i64 0, .int .i64 0, .int .i64 0, .int .i64 0, .int .i64 0, .int .i64 0, .int .i64 0, .int .i64 0, .int .i64 0, .int .i64 0, .int .i64 0, .int .i64 0, .int .i64 0, .int .i64 0] 58)).alloc (.cells #[.int .i64 0, .int .i64 0, .int .i64 0, .int .i64 0, .int .i64 0, .int .i64 0, .int .i64 0, .int .i64 0, .int .i64 0, .int .i64 0, .int .i64 0, .int .i64 0, .int .i64 0, .int .i64 0, .int .i64 0, .int .i64 0, .int .i64 0, .int .i64 0] 58)) = wA at *
  go_loopw [0, 5] (fun sv lv wr => ∃ (s : List UInt8) (t : List Int) (last : Nat), sv = .string ⟨(s).toArray⟩ ∧ lv = .int .i64 (last : Int) ∧ s.length ≤ s0.length ∧ last ≤ 17 ∧ t.length = 18 ∧ Hid (Ev.tscan s [] t last = (RE, RT)) ∧ Hid (wr.heap[w.heap.size]? = some (.cells zeroT 58 (0, 0))) ∧ Hid (wr.heap[w.heap.size + 1]? = some (.cells (t.map (Value.int .i64)).toArray 58 (0, 0))) ∧ Hid (∀ x ∈ t, -9223372036854775808 ≤ x ∧ x ≤ 9223372036854775807) ∧ Below w.heap.size w wr) (fun sv _ _ => strLenV sv)
  case atStart => exact ⟨s0, Ev.zeros18, 0, rfl, rfl, Nat.le_refl _, by omega, rfl, HR0, HR2, HT4, Lib.hid (by decide), bA⟩
  case round =>
    clear HR0 HR2 HT4 bA
    obtain ⟨s, t, last, rfl, rfl, hsl, hla, htl, HT, HR2, HT4, HTB, hB⟩ := hrel
    have sB := hB.size
    cases s with
    | nil =>
      obtain ⟨wt, hwt⟩ : ∃ wt, Ev.wrong t = wt := ⟨_, rfl⟩
      have HE : Hid (Ev.tend t = (RE, RT)) := Lib.hid (by
        have h := HT.out
        unfold Ev.tscan at h
        rw [if_pos rfl] at h
        exact h)
      have CW : Hid (∀ u : World, Calls Tryd.prog 36 #[.agg (t.map (Value.int .i64)).toArray] u fun e w' => e = .returned (.int .i64 wt) ∧ Below u.heap.size u w') := Lib.hid (fun u => by
        have h := wrongP_any t u htl HTB.out
        rw [hwt] at h
        exact h)
      have HW := Lib.hid hwt
      have hz : (t.map (Value.int .i64)).toArray.size = 18 := by simp [htl]
      have HZ := Lib.hid hz
      have ho : (t.map (Value.int .i64)).toArray.all (·.oneCell') = true := by simp [Value.oneCell']
      have HO := Lib.hid ho
      generalize hta : (t.map (Value.int .i64)).toArray = ta at *
      have HTA := Lib.hid hta
      have HLD : Hid (∀ u, Below wr.heap.size wr u → (Go.Instr.loadAt 58 (.pointer (some ⟨w.heap.size + 1, 0, none⟩))).run Tryd.prog u = .ok (.agg ta) u) := Lib.hid (fun u hu => load_box Tryd.underlying58 (by kernel_rfl) (by simp) (by rw [Array.length_toList, hz]; kernel_rfl) (fun j v hj => (cell_of_block HT4.out j).trans hj) (Array.getElem?_eq_some_iff.1 HT4.out).1 hu)
      clear hwt hz ho hta
      go_upto_region 22 with (first | (refine wpList_load_box rfl 58 _ rfl rfl (HLD.out _ (Below.refl _ _)) ?_) | (go_at_call 36; refine (CW.out _).mono ?_; rintro e w1 ⟨rfl, hb1⟩))
      have b1 : Below w.heap.size w w1 := hB.trans (hb1.mono sB)
      replace HR2 := Lib.hid ((hb1.block w.heap.size (Array.getElem?_eq_some_iff.1 HR2.out).1).trans HR2.out)
      have HLD2 := Lib.hid (HLD.out w1 hb1)
      clear HLD CW hb1 HT4 hB sB
      by_cases h0 : wt = 0
      · subst h0
        obtain ⟨rfl, rfl⟩ : (0 : Int) = RE ∧ t = RT := by
          have h := HE.out
          unfold Ev.tend at h
          rw [if_pos HW.out] at h
          injection h with h1 h2
          exact ⟨h1, h2⟩
        go_wp2_with (first | (refine wpList_load_box rfl 58 _ rfl rfl HLD2.out ?_) | (refine wpList_put_box rfl 58 _ _ rfl rfl rfl HR2.out (by rw [HZ.out]; rfl) (by rw [HZ.out]; kernel_rfl) HO.out ?_; intro w2 hr2 hb2 hz2))
        have hl2 := load_range Tryd.underlying58 (by kernel_rfl) (by simp) (by rw [Array.length_toList, HZ.out]; kernel_rfl) hr2
        refine bodyPost_ret (v := .tuple #[.agg ta, .int .i64 0]) (by simp [results, Tryd.results33, Sem.run_bind, asAddr, hl2]) rfl ?_
        exact ⟨by unfold tableV; rw [HTA.out], b1.trans hb2⟩
      · have g0 : (wt != 0) = true := bne_iff_ne.2 h0
        obtain ⟨rfl, rfl⟩ : wt = RE ∧ Ev.zeros18 = RT := by
          have h := HE.out
          unfold Ev.tend at h
          rw [if_neg (by rw [HW.out]; exact h0), HW.out] at h
          injection h with h1 h2
          exact ⟨h1, h2⟩
        clear h0 HE HW
        go_wp2_with (refine wpList_put_box (cells := zeroT) rfl 58 _ _ rfl rfl rfl HR2.out rfl (by kernel_rfl) zeroT_one ?_; intro w2 hr2 hb2 hz2)
        have hl2 := load_range Tryd.underlying58 (by kernel_rfl) (by simp) (by kernel_rfl) hr2
        refine bodyPost_ret (v := .tuple #[.agg zeroT, .int .i64 wt]) (by simp [results, Tryd.results33, Sem.run_bind, asAddr, hl2]) rfl ?_
        exact ⟨rfl, b1.trans hb2⟩
    | cons c s =>
      go_upto_region 4 with fail
      obtain ⟨S, hS⟩ : ∃ S, c :: s = S := ⟨_, rfl⟩
      have hSn : Ev.first 10 S ≤ S.length := Ev.first_le 10 S
      rw [hS] at hsl HT ⊢
      have HSN := Lib.hid (show S ≠ [] by rw [← hS]; simp)
      have HSS := Lib.hid hS
      clear hS
      have HMr := Lib.hid (HM.out.stays hB)
      have HVr := Lib.hid (HV.out.stays hB)
      have hSl : S.length < 4294967281 := by omega
      by_cases c1 : Ev.first 10 S < S.length
      case neg =>
        obtain ⟨rfl, rfl⟩ : (2 : Int) = RE ∧ Ev.zeros18 = RT := by
          have h := HT.out
          rw [Ev.scan_tail S (Ev.first_out c1) (by simpa using HSN.out)] at h
          injection h with h1 h2
          exact ⟨h1, h2⟩
        have C1 := Lib.hid (fun u hm => cut_no 10 S u hm hSl c1)
        have C2 := Lib.hid (fun u hm => cut_any 32 S u hm hSl)
        generalize (cutV 32 S).1 = x1 at *
        generalize (cutV 32 S).2.1 = x2 at *
        generalize (cutV 32 S).2.2 = x3 at *
        clear c1 HT
        go_upto_region 5 with (go_at_call 76; refine (C1.out _ HMr.out).mono ?_; rintro e w4 ⟨rfl, n4, hw4⟩; have hb4 : Below wr.heap.size wr w4 := (by rw [hw4]; exact below_drewN (Below.refl _ _) n4); clear hw4)
        go_upto_region 6 with (go_at_call 76; refine (C2.out _ (HMr.out.stays hb4)).mono ?_; rintro e w5 ⟨rfl, n5, hw5⟩; have hb5 : Below w4.heap.size w4 w5 := (by rw [hw5]; exact below_drewN (Below.refl _ _) n5); clear hw5)
        have b5 : Below w.heap.size w w5 := (hB.trans (hb4.mono sB)).trans (hb5.mono (Nat.le_trans sB hb4.size))
        replace HR2 := Lib.hid ((hb5.block w.heap.size (by have := (Array.getElem?_eq_some_iff.1 HR2.out).1; have := hb4.size; omega)).trans ((hb4.block w.heap.size (Array.getElem?_eq_some_iff.1 HR2.out).1).trans HR2.out))
        go_wp2_with (refine wpList_put_box (cells := zeroT) rfl 58 _ _ rfl rfl rfl HR2.out rfl (by kernel_rfl) zeroT_one ?_; intro w2 hr2 hb2 hz2)
        have hl2 := load_range Tryd.underlying58 (by kernel_rfl) (by simp) (by kernel_rfl) hr2
        refine bodyPost_ret (v := .tuple #[.agg zeroT, .int .i64 2]) (by simp [results, Tryd.results33, Sem.run_bind, asAddr, hl2]) rfl ?_
        exact ⟨rfl, b5.trans hb2⟩
      case pos =>
      obtain ⟨L, hL⟩ : ∃ L, S.take (Ev.first 10 S) = L := ⟨_, rfl⟩
      obtain ⟨R, hR⟩ : ∃ R, S.drop (Ev.first 10 S + 1) = R := ⟨_, rfl⟩
      have hLl : L.length < 4294967281 := by rw [← hL]; have := List.length_take_le (Ev.first 10 S) S; omega
      have hRl : R.length ≤ s0.length := by rw [← hR, List.length_drop]; omega
      have hRs : R.length < S.length := by rw [← hR, List.length_drop]; omega
      have HT2 := Lib.hid (Ev.scan_cut (t := t) (last := last) c1 ▸ HT.out)
      rw [hL, hR] at HT2
      have C1 : Hid (∀ u : World, MaxL u → Calls Tryd.prog 76 #[.string ⟨(S).toArray⟩, .string ⟨#[10]⟩] u fun e w' => e = .returned (.tuple #[.string ⟨(L).toArray⟩, .string ⟨(R).toArray⟩, .bool true]) ∧ ∃ n, w' = u.drewN n) := Lib.hid (fun u hm => by
        have h := cut_yes 10 S u hm hSl c1
        rw [hL, hR] at h
        exact h)
      clear HT c1 hL hR hSn
      by_cases c2 : Ev.first 32 L < L.length
      case neg =>
        obtain ⟨rfl, rfl⟩ : (2 : Int) = RE ∧ Ev.zeros18 = RT := by
          have h := HT2.out
          rw [Ev.tline_form c2] at h
          rw [if_neg (by show ¬ ((2 : Int) = 0); decide)] at h
          injection h with h1 h2
          exact ⟨h1, h2⟩
        have C2 := Lib.hid (fun u hm => cut_no 32 L u hm hLl c2)
        clear c2 HT2
        go_upto_region 5 with (go_at_call 76; refine (C1.out _ HMr.out).mono ?_; rintro e w4 ⟨rfl, n4, hw4⟩; have hb4 : Below wr.heap.size wr w4 := (by rw [hw4]; exact below_drewN (Below.refl _ _) n4); clear hw4)
        go_upto_region 6 with (go_at_call 76; refine (C2.out _ (HMr.out.stays hb4)).mono ?_; rintro e w5 ⟨rfl, n5, hw5⟩; have hb5 : Below w4.heap.size w4 w5 := (by rw [hw5]; exact below_drewN (Below.refl _ _) n5); clear hw5)
        have b5 : Below w.heap.size w w5 := (hB.trans (hb4.mono sB)).trans (hb5.mono (Nat.le_trans sB hb4.size))
        replace HR2 := Lib.hid ((hb5.block w.heap.size (by have := (Array.getElem?_eq_some_iff.1 HR2.out).1; have := hb4.size; omega)).trans ((hb4.block w.heap.size (Array.getElem?_eq_some_iff.1 HR2.out).1).trans HR2.out))
        go_wp2_with (refine wpList_put_box (cells := zeroT) rfl 58 _ _ rfl rfl rfl HR2.out rfl (by kernel_rfl) zeroT_one ?_; intro w2 hr2 hb2 hz2)
        have hl2 := load_range Tryd.underlying58 (by kernel_rfl) (by simp) (by kernel_rfl) hr2
        refine bodyPost_ret (v := .tuple #[.agg zeroT, .int .i64 2]) (by simp [results, Tryd.results33, Sem.run_bind, asAddr, hl2]) rfl ?_
        exact ⟨rfl, b5.trans hb2⟩
      case pos =>
      have TN := Lib.hid (Ev.tline_none (t := t) (last := last) c2)
      have TO := Lib.hid (Ev.tline_not (t := t) (last := last) c2)
      have TY := Lib.hid (Ev.tline_yes (t := t) (last := last) c2)
      have C2 := Lib.hid (fun u hm => cut_yes 32 L u hm hLl c2)
      obtain ⟨NM, hNM⟩ : ∃ NM, L.take (Ev.first 32 L) = NM := ⟨_, rfl⟩
      obtain ⟨WH, hWH⟩ : ∃ WH, L.drop (Ev.first 32 L + 1) = WH := ⟨_, rfl⟩
      have hWl : WH.length < 4294967281 := by rw [← hWH, List.length_drop]; omega
      rw [hNM] at TN
      rw [hNM, hWH] at TO TY C2
      clear c2 hNM hWH
      go_upto_region 5 with (go_at_call 76; refine (C1.out _ HMr.out).mono ?_; rintro e w4 ⟨rfl, n4, hw4⟩; have hb4 : Below wr.heap.size wr w4 := (by rw [hw4]; exact below_drewN (Below.refl _ _) n4); clear hw4)
      go_upto_region 8 with (go_at_call 76; refine (C2.out _ (HMr.out.stays hb4)).mono ?_; rintro e w5 ⟨rfl, n5, hw5⟩; have hb5 : Below w4.heap.size w4 w5 := (by rw [hw5]; exact below_drewN (Below.refl _ _) n5); clear hw5)
      have b5 : Below wr.heap.size wr w5 := hb4.trans (hb5.mono hb4.size)
      clear hb4 hb5 C1 C2
      replace HR2 := Lib.hid ((b5.block w.heap.size (Array.getElem?_eq_some_iff.1 HR2.out).1).trans HR2.out)
      replace HT4 := Lib.hid ((b5.block (w.heap.size + 1) (Array.getElem?_eq_some_iff.1 HT4.out).1).trans HT4.out)
      replace HVr := Lib.hid (HVr.out.stays b5)
      replace hB : Below w.heap.size w w5 := hB.trans (b5.mono sB)
      clear b5 sB HMr
      have sB := hB.size
      go_upto_region 10 with (go_at_call 30; refine (names_any _).mono ?_; rintro e w6 ⟨rfl, hw6⟩; have HW6 := Lib.hid hw6; clear hw6)
      have hw6 := HW6.out
      have HN0 : Hid (w6.heap[w5.heap.size]? = some (.cells namesCells 9 (0, 0))) := Lib.hid (by subst hw6; exact heap_alloc_new _ _)
      have hb6 : Below w5.heap.size w5 w6 := by subst hw6; (repeat' first | with_reducible (first | exact Below.refl _ _ | assumption | refine Below.alloc ?_ ?_ _ | refine below_drewN ?_ _ | refine Below.drew ?_ | refine Below.setCell ?_ ?_ _ | refine Below.trans ?_ (Below.mono (by with_reducible assumption) ?_)) | go_size)
      clear hw6 HW6
      replace HR2 := Lib.hid ((hb6.block w.heap.size (Array.getElem?_eq_some_iff.1 HR2.out).1).trans HR2.out)
      replace HT4 := Lib.hid ((hb6.block (w.heap.size + 1) (Array.getElem?_eq_some_iff.1 HT4.out).1).trans HT4.out)
      replace HVr := Lib.hid (HVr.out.stays hb6)
      replace hB : Below w.heap.size w w6 := hB.trans (hb6.mono sB)
      have zn : w5.heap.size < w6.heap.size := (Array.getElem?_eq_some_iff.1 HN0.out).1
      clear hb6 sB
      have sB := hB.size
      go_loopw [41, 12] (fun jj ov wz => ∃ j : Nat, j ≤ 17 ∧ jj = .int .i64 (j : Int) ∧ ov = .int .i64 ((Ev.opTo NM j : Nat) : Int) ∧ w6 = wz) (fun jj _ _ => 17 - (intOf jj).toNat)
      case atStart => exact ⟨0, by omega, rfl, rfl, rfl⟩
      case round =>
        obtain ⟨j, hj, rfl, rfl, rfl⟩ := hrel
        by_cases hjl : j < 17
        case pos =>
          obtain ⟨x, hx⟩ : ∃ x, Ev.opNames.getD j [] = x := ⟨_, rfl⟩
          have n1 : w6.cell? ⟨w5.heap.size, j, none⟩ = some (.string ⟨(x).toArray⟩) := by
            have h := (cell_of_block HN0.out j).trans (names_at hjl)
            rw [hx] at h
            exact h
          have HST := Lib.hid (show Ev.opTo NM (j + 1) = if x = NM then j + 1 else Ev.opTo NM j by rw [← hx]; rfl)
          have hob := (Ev.opTo_name NM j (by omega)).1
          clear hx
          by_cases hxn : x = NM
          · subst hxn
            have HS2 := Lib.hid (show Ev.opTo x (j + 1) = j + 1 by rw [HST.out, if_pos rfl])
            clear HST
            go_wp2_with fail
            go_roundw
            case rel => exact ⟨j + 1, by omega, by go_num, by rw [HS2.out]; go_num, by first | rfl | trivial⟩
            case measure => simp [intOf]; omega
          · have HS2 := Lib.hid (show Ev.opTo NM (j + 1) = Ev.opTo NM j by rw [HST.out, if_neg hxn])
            have gx : (x == NM) = false := beq_eq_false_iff_ne.2 hxn
            clear HST
            go_wp2_with fail
            go_roundw
            case rel => exact ⟨j + 1, by omega, by go_num, by rw [HS2.out], by first | rfl | trivial⟩
            case measure => simp [intOf]; omega
        case neg =>
        obtain rfl : j = 17 := by omega
        obtain ⟨op, hop⟩ : ∃ op, Ev.opTo NM 17 = op := ⟨_, rfl⟩
        have hop17 := (Ev.opTo_name NM 17 (Nat.le_refl _)).1
        rw [hop] at hop17 ⊢
        have TN1 := Lib.hid (show op = 0 → Ev.tline L t last = (7, t, last) from fun h => TN.out (hop.trans h))
        have TO1 := Lib.hid (fun (h0 : op ≠ 0) (h : ¬ (Ev.atoiY WH = true ∧ Lib.itoa (Ev.atoiN WH) = WH ∧ 1 ≤ Ev.atoiN WH ∧ last < op)) => TO.out (show Ev.opOf NM ≠ 0 by unfold Ev.opOf; rw [hop]; exact h0) (by unfold Ev.opOf; rw [hop]; exact h))
        have TY1 := Lib.hid (fun (h0 : op ≠ 0) (h : Ev.atoiY WH = true ∧ Lib.itoa (Ev.atoiN WH) = WH ∧ 1 ≤ Ev.atoiN WH ∧ last < op) => TY.out (show Ev.opOf NM ≠ 0 by unfold Ev.opOf; rw [hop]; exact h0) (by unfold Ev.opOf; rw [hop]; exact h))
        have HOP := Lib.hid (show Ev.opOf NM = op from hop)
        clear hop TN TO TY HN0 zn
        by_cases h0 : op = 0
        · obtain ⟨rfl, rfl⟩ : (7 : Int) = RE ∧ Ev.zeros18 = RT := by
            have h := HT2.out
            rw [TN1.out h0] at h
            rw [if_neg (by show ¬ ((7 : Int) = 0); decide)] at h
            injection h with h1 h2
            exact ⟨h1, h2⟩
          have g0 : ((op : Int) == 0) = true := by rw [h0]; rfl
          clear h0 HT2 TN1 TO1 TY1
          go_wp2_with (refine wpList_put_box (cells := zeroT) rfl 58 _ _ rfl rfl rfl HR2.out rfl (by kernel_rfl) zeroT_one ?_; intro w2 hr2 hb2 hz2)
          have hl2 := load_range Tryd.underlying58 (by kernel_rfl) (by simp) (by kernel_rfl) hr2
          refine bodyPost_ret (v := .tuple #[.agg zeroT, .int .i64 7]) (by simp [results, Tryd.results33, Sem.run_bind, asAddr, hl2]) rfl ?_
          exact ⟨rfl, hB.trans hb2⟩
        have g0 : ((op : Int) == 0) = false := beq_eq_false_iff_ne.2 (by omega)
        have hop1 : 1 ≤ op := by omega
        replace TO1 := Lib.hid (TO1.out h0)
        replace TY1 := Lib.hid (TY1.out h0)
        clear h0 TN1
        have BAD : Hid (¬ (Ev.atoiY WH = true ∧ Lib.itoa (Ev.atoiN WH) = WH ∧ 1 ≤ Ev.atoiN WH ∧ last < op) → (2 : Int) = RE ∧ Ev.zeros18 = RT) := Lib.hid (fun hn => by
          have h := HT2.out
          rw [TO1.out hn] at h
          rw [if_neg (by show ¬ ((2 : Int) = 0); decide)] at h
          injection h with h1 h2
          exact ⟨h1, h2⟩)
        have GOOD : Hid (Ev.atoiY WH = true ∧ Lib.itoa (Ev.atoiN WH) = WH ∧ 1 ≤ Ev.atoiN WH ∧ last < op → Ev.tscan R [] (t.set op (Ev.atoiN WH)) op = (RE, RT)) := Lib.hid (fun hy => by
          have h := HT2.out
          rw [TY1.out hy, HOP.out] at h
          exact h)
        have hWs : (⟨WH.toArray⟩ : ByteArray).size ≤ 281474976710656 := by show WH.toArray.size ≤ _; simp; omega
        have HNB := Lib.hid (atoiV_in ⟨WH.toArray⟩)
        have e0 : (⟨WH.toArray⟩ : ByteArray).data.toList = WH := List.toList_toArray
        have e1 : atoiV ⟨WH.toArray⟩ = Ev.atoiN WH := by unfold atoiV Ev.atoiN; rw [e0]; cases Lib.atoiAll WH <;> rfl
        have e2 : atoiB ⟨WH.toArray⟩ = Ev.atoiY WH := by unfold atoiB Ev.atoiY; rw [e0]; cases Lib.atoiAll WH <;> rfl
        clear e0
        rw [e1] at HNB
        have CY := Lib.hid (fun u => atoi_yes ⟨WH.toArray⟩ u hWs)
        have CN := Lib.hid (fun u => atoi_no ⟨WH.toArray⟩ u hWs)
        rw [e1, e2] at CY CN
        clear e1 e2 hWs HT2 TO1 TY1
        obtain ⟨n, hn⟩ : ∃ n, Ev.atoiN WH = n := ⟨_, rfl⟩
        rw [hn] at BAD GOOD CY CN HNB
        clear hn
        cases hy : Ev.atoiY WH with
        | false =>
          obtain ⟨rfl, rfl⟩ := BAD.out (fun h => by rw [hy] at h; cases h.1)
          replace CN := Lib.hid (fun u hv => CN.out u hv hy)
          clear hy CY BAD GOOD
          go_upto_region 18 with (go_at_call 77; refine (CN.out _ HVr.out).mono ?_; rintro e w7 ⟨N7, rfl, hb7⟩)
          have b7 : Below w.heap.size w w7 := hB.trans (hb7.mono sB)
          replace HR2 := Lib.hid ((hb7.block w.heap.size (Array.getElem?_eq_some_iff.1 HR2.out).1).trans HR2.out)
          clear hb7 HT4
          go_wp2_with (refine wpList_put_box (cells := zeroT) rfl 58 _ _ rfl rfl rfl HR2.out rfl (by kernel_rfl) zeroT_one ?_; intro w2 hr2 hb2 hz2)
          have hl2 := load_range Tryd.underlying58 (by kernel_rfl) (by simp) (by kernel_rfl) hr2
          refine bodyPost_ret (v := .tuple #[.agg zeroT, .int .i64 2]) (by simp [results, Tryd.results33, Sem.run_bind, asAddr, hl2]) rfl ?_
          exact ⟨rfl, b7.trans hb2⟩
        | true =>
          replace CY := Lib.hid (fun u => CY.out u hy)
          rw [hy] at BAD GOOD
          clear hy CN
          have CI := Lib.hid (fun u hv => itoa_any n u HNB.out hv)
          obtain ⟨it, hit⟩ : ∃ it, Lib.itoa n = it := ⟨_, rfl⟩
          rw [hit] at CI BAD GOOD
          clear hit
          go_upto_region 18 with (go_at_call 77; refine (CY.out _).mono ?_; rintro e w7 ⟨rfl, hb7⟩)
          have b7 : Below w.heap.size w w7 := hB.trans (hb7.mono sB)
          replace HR2 := Lib.hid ((hb7.block w.heap.size (Array.getElem?_eq_some_iff.1 HR2.out).1).trans HR2.out)
          replace HT4 := Lib.hid ((hb7.block (w.heap.size + 1) (Array.getElem?_eq_some_iff.1 HT4.out).1).trans HT4.out)
          replace HVr := Lib.hid (HVr.out.stays hb7)
          clear hb7 CY hB sB
          have s7 := b7.size
          by_cases hI : it = WH
          case neg =>
            obtain ⟨rfl, rfl⟩ := BAD.out (fun h => hI h.2.1)
            have gi : (it == WH) = false := beq_eq_false_iff_ne.2 hI
            have gj : (it != WH) = true := bne_iff_ne.2 hI
            clear hI BAD GOOD HT4
            go_upto_region 19 with (go_at_call 75; refine (CI.out _ HVr.out).mono ?_; rintro e w8 ⟨rfl, hb8⟩)
            have b8 : Below w.heap.size w w8 := b7.trans (hb8.mono s7)
            replace HR2 := Lib.hid ((hb8.block w.heap.size (Array.getElem?_eq_some_iff.1 HR2.out).1).trans HR2.out)
            clear hb8
            go_wp2_with (refine wpList_put_box (cells := zeroT) rfl 58 _ _ rfl rfl rfl HR2.out rfl (by kernel_rfl) zeroT_one ?_; intro w2 hr2 hb2 hz2)
            have hl2 := load_range Tryd.underlying58 (by kernel_rfl) (by simp) (by kernel_rfl) hr2
            refine bodyPost_ret (v := .tuple #[.agg zeroT, .int .i64 2]) (by simp [results, Tryd.results33, Sem.run_bind, asAddr, hl2]) rfl ?_
            exact ⟨rfl, b8.trans hb2⟩
          case pos =>
          subst hI
          by_cases h1 : 1 ≤ n
          case neg =>
            obtain ⟨rfl, rfl⟩ := BAD.out (fun h => h1 h.2.2.1)
            have gi : decide (n < 1) = true := decide_eq_true (by omega)
            have gl : n < 1 := by omega
            clear h1 BAD GOOD HT4
            go_upto_region 19 with (go_at_call 75; refine (CI.out _ HVr.out).mono ?_; rintro e w8 ⟨rfl, hb8⟩)
            have b8 : Below w.heap.size w w8 := b7.trans (hb8.mono s7)
            replace HR2 := Lib.hid ((hb8.block w.heap.size (Array.getElem?_eq_some_iff.1 HR2.out).1).trans HR2.out)
            clear hb8
            go_wp2_with (refine wpList_put_box (cells := zeroT) rfl 58 _ _ rfl rfl rfl HR2.out rfl (by kernel_rfl) zeroT_one ?_; intro w2 hr2 hb2 hz2)
            have hl2 := load_range Tryd.underlying58 (by kernel_rfl) (by simp) (by kernel_rfl) hr2
            refine bodyPost_ret (v := .tuple #[.agg zeroT, .int .i64 2]) (by simp [results, Tryd.results33, Sem.run_bind, asAddr, hl2]) rfl ?_
            exact ⟨rfl, b8.trans hb2⟩
          case pos =>
          have gi : decide (n < 1) = false := decide_eq_false (by omega)
          by_cases h2 : last < op
          case neg =>
            obtain ⟨rfl, rfl⟩ := BAD.out (fun h => h2 h.2.2.2)
            have gl : decide ((op : Int) ≤ (last : Int)) = true := decide_eq_true (by omega)
            have gm : op ≤ last := by omega
            clear h2 BAD GOOD HT4
            go_upto_region 19 with (go_at_call 75; refine (CI.out _ HVr.out).mono ?_; rintro e w8 ⟨rfl, hb8⟩)
            have b8 : Below w.heap.size w w8 := b7.trans (hb8.mono s7)
            replace HR2 := Lib.hid ((hb8.block w.heap.size (Array.getElem?_eq_some_iff.1 HR2.out).1).trans HR2.out)
            clear hb8
            go_wp2_with (refine wpList_put_box (cells := zeroT) rfl 58 _ _ rfl rfl rfl HR2.out rfl (by kernel_rfl) zeroT_one ?_; intro w2 hr2 hb2 hz2)
            have hl2 := load_range Tryd.underlying58 (by kernel_rfl) (by simp) (by kernel_rfl) hr2
            refine bodyPost_ret (v := .tuple #[.agg zeroT, .int .i64 2]) (by simp [results, Tryd.results33, Sem.run_bind, asAddr, hl2]) rfl ?_
            exact ⟨rfl, b8.trans hb2⟩
          case pos =>
          have gl : decide ((op : Int) ≤ (last : Int)) = false := decide_eq_false (by omega)
          have gm : ¬ op ≤ last := by omega
          have GD := Lib.hid (GOOD.out ⟨by first | rfl | trivial, by first | rfl | trivial, h1, h2⟩)
          clear BAD GOOD
          go_upto_region 20 with (go_at_call 75; refine (CI.out _ HVr.out).mono ?_; rintro e w8 ⟨rfl, hb8⟩)
          have b8 : Below w.heap.size w w8 := b7.trans (hb8.mono s7)
          replace HR2 := Lib.hid ((hb8.block w.heap.size (Array.getElem?_eq_some_iff.1 HR2.out).1).trans HR2.out)
          replace HT4 := Lib.hid ((hb8.block (w.heap.size + 1) (Array.getElem?_eq_some_iff.1 HT4.out).1).trans HT4.out)
          have s8 := b8.size
          clear hb8 b7 s7 h2 gl gm gi
          have t1 : w8.cell? ⟨w.heap.size + 1, op, none⟩ = some (.int .i64 (t.getD op 0)) := by
            rw [cell_of_block HT4.out, List.getElem?_toArray, List.getElem?_map, List.getD_eq_getElem?_getD, List.getElem?_eq_getElem (by omega)]
            rfl
          have tf : w8.frozen? ⟨w.heap.size + 1, op, none⟩ = false := by
            unfold World.frozen?
            rw [HT4.out]
            simp
          have hop18 : (op : Int) < 18 := by omega
          have zt := (Array.getElem?_eq_some_iff.1 HT4.out).1
          go_wp2_with fail
          go_roundw
          case rel =>
            refine ⟨R, t.set op n, op, by first | rfl | trivial, by first | rfl | trivial, hRl, hop17, by rw [List.length_set]; exact htl, GD, Lib.hid ?_, Lib.hid ?_, Lib.hid ?_, b8.setCell (by show w.heap.size ≤ w.heap.size + 1; omega) _⟩
            · rw [Below.heap_setCell _ _ _ _ (by show w.heap.size ≠ w.heap.size + 1; omega)]
              exact HR2.out
            · rw [heap_setCell_same _ _ _ _ _ _ HT4.out, List.map_set, List.setIfInBounds_toArray]
            · intro x hx
              rcases List.mem_or_eq_of_mem_set hx with h | rfl
              · exact HTB.out x h
              · exact HNB.out
          case measure =>
            show R.toArray.size < (c :: s).toArray.size
            have h := hRs
            rw [← HSS.out] at h
            simpa using h
end Go.Proofs.YtpbflgemhcaooaaDoor
