import Derived.Test.YtpbflgemhcaooaaDoorLb16
import Derived.Test.YtpbflgemhcaooaaDoorLb21
import Derived.Test.YtpbflgemhcaooaaDoorLb11
import Derived.Test.YtpbflgemhcaooaaDoorLb4
import Derived.Deep.DeepCutAuto
import Derived.RangeFuncNested
import Derived.RangeFuncBound
import Derived.RangeFuncCalls
import Derived.RangeFuncLeaves
import Derived.Shelf.Abstract
import Derived.Shelf.RegionOpen
import Derived.WalkKit
import Derived.OwnWalkIn
import Derived.TacticsInMore
import Derived.LoopNIn
import Derived.LoopIn
import Derived.Test.YtpbflgemhcaooaaDoorLb18
import Derived.Test.YtpbflgemhcaooaaDoorLb15
/- evlaw4's own functions: fn, vars, all. -/
namespace Go.Proofs.YtpbflgemhcaooaaDoor
open Go.RowKit
set_option linter.unusedSimpArgs false
set_option linter.unusedVariables false
theorem one_three_mk' (x : Ev.Par) : ∀ u ∈ cellsP x, u.oneCell' = true := one_three_mk x
set_option maxRecDepth 6000 in
set_option maxHeartbeats 3200000 in
theorem fn4_any (s : List UInt8) (w : World) (hv : Vars w) (hs : s.length ≤ 9223372036854775807) :
    Calls Tryd.prog 60 #[.string ⟨(s).toArray⟩] w fun e w' => ∃ v1 v2 v3, e = .returned (.agg #[v1, v2, v3]) ∧ RFn w' (fun k => w.heap.size ≤ k ∧ k < w'.heap.size) v1 v2 v3 (Ev.parseW s).1 ∧ Below w.heap.size w w' := by
  have CP := Lib.hid (fun u hu => refParseFn s u hu hs)
  have HV := Lib.hid hv
  clear hv
  go_enter Tryd.func60, Tryd.ntmps60
  go_upto_region 1 with fail
  have b1 : Below w.heap.size w (w.alloc (.cells #[.slice none 0 0, .slice none 0 0, .slice none 0 0] 25)) := (Below.refl _ _).alloc (Nat.le_refl _) _
  have r1 := heap_alloc_new w (.cells #[.slice none 0 0, .slice none 0 0, .slice none 0 0] 25)
  generalize w.alloc (.cells #[.slice none 0 0, .slice none 0 0, .slice none 0 0] 25) = w1 at *
  have HV1 := Lib.hid (HV.out.stays b1)
  have z1 := (Array.getElem?_eq_some_iff.1 r1).1
  have ZW1 := Lib.hid z1
  go_upto_region 2 with (go_at_call 14; refine (CP.out _ HV1.out).mono ?_; rintro e w2 ⟨v1, v2, v3, rfl, hr, hb2⟩; obtain ⟨A1, c1, rfl, _, _⟩ := SL.form hr.1; obtain ⟨A2, c2, rfl, _, _⟩ := SL.form hr.2.1; obtain ⟨A3, c3, rfl⟩ := hr.2.2.1.slice)
  have HR := Lib.hid hr
  have b3 : Below w2.heap.size w2 (w2.alloc (.cells #[.slice A1 (Ev.parseW s).1.params.length c1, .slice A2 (Ev.parseW s).1.arrays.length c2, .slice A3 (Ev.parseW s).1.body.length c3] 25)) := (Below.refl _ _).alloc (Nat.le_refl _) _
  have r3 := heap_alloc_new w2 (.cells #[.slice A1 (Ev.parseW s).1.params.length c1, .slice A2 (Ev.parseW s).1.arrays.length c2, .slice A3 (Ev.parseW s).1.body.length c3] 25)
  have r1' := (b3.block w.heap.size (Nat.lt_of_lt_of_le z1 hb2.size)).trans ((hb2.block w.heap.size z1).trans r1)
  have B13 : Below w.heap.size w _ := b1.trans ((hb2.mono b1.size).trans (b3.mono (Nat.le_trans b1.size hb2.size)))
  have HB := Lib.hid B13
  have s3 : w.heap.size < w2.heap.size := Nat.lt_of_lt_of_le z1 hb2.size
  have HB3 := Lib.hid b3
  clear hr b1 r1 z1 hb2 b3 B13
  generalize w2.alloc (.cells #[.slice A1 (Ev.parseW s).1.params.length c1, .slice A2 (Ev.parseW s).1.arrays.length c2, .slice A3 (Ev.parseW s).1.body.length c3] 25) = w3 at *
  have zr3 := (Array.getElem?_eq_some_iff.1 r3).1
  have R3 := Lib.hid r3
  have R1 := Lib.hid r1'
  clear r3 r1'
  go_wp2_with (first | (refine wpList_load_box rfl 25 _ rfl rfl (load_box Tryd.underlying25 (by kernel_rfl) (by rfl) (by kernel_rfl) (fun j v hj => (cell_of_block R3.out j).trans hj) zr3 (Below.refl _ _)) ?_) | (refine wpList_put_all (cells := #[.slice A1 (Ev.parseW s).1.params.length c1, .slice A2 (Ev.parseW s).1.arrays.length c2, .slice A3 (Ev.parseW s).1.body.length c3]) rfl 25 _ _ rfl rfl rfl R1.out rfl (by kernel_rfl) (by simp [Value.oneCell']) ?_; intro w4 hr4 hf4 hz4))
  have hl2 := load_whole Tryd.underlying25 (by kernel_rfl) (by rfl) (by kernel_rfl) hr4
  refine bodyPost_ret (v := .agg #[.slice A1 (Ev.parseW s).1.params.length c1, .slice A2 (Ev.parseW s).1.arrays.length c2, .slice A3 (Ev.parseW s).1.body.length c3]) (by simp [results, Tryd.f60, Sem.run_bind, asAddr, Act.put, hl2]) rfl ?_
  have s23 := HB3.out.size
  have sf := hf4.size
  have bl : ∀ k, w.heap.size < k → k < w2.heap.size → w4.heap[k]? = w2.heap[k]? := fun k h1 h2 => (hf4.block k (by omega) (by omega)).trans (HB3.out.block k h2)
  obtain ⟨h1, h2, h3, h4, h5⟩ := HR.out
  have kk : ∀ k, (w1.heap.size ≤ k ∧ k < w2.heap.size) → w4.heap[k]? = w2.heap[k]? := fun k hk => bl k (by have := ZW1.out; omega) hk.2
  refine ⟨_, _, _, rfl, ⟨SL.keep h1 h4 (by omega) (fun k hk _ => kk k hk), SL.keep h2 h5 (by omega) (fun k hk _ => kk k hk), ?_, ?_, ?_⟩, ?_⟩
  · exact RStL.wide (fun k hk => ⟨by have := ZW1.out; omega, by omega⟩) 10 _ _ (RStL.keep (by omega) (fun k hk _ => kk k hk) 10 _ _ h3)
  · exact fun a n c e => ⟨by have := (h4 a n c e).1; have := ZW1.out; omega, by have := (h4 a n c e).2; omega⟩
  · exact fun a n c e => ⟨by have := (h5 a n c e).1; have := ZW1.out; omega, by have := (h5 a n c e).2; omega⟩
  · exact ⟨hf4.os.trans HB.out.os, hf4.tape.trans HB.out.tape, hf4.output.trans HB.out.output, Nat.le_trans HB.out.size hf4.size, fun k hk => (hf4.block k (by have := HB.out.size; omega) (by omega)).trans (HB.out.block k hk)⟩
end Go.Proofs.YtpbflgemhcaooaaDoor
/- slices.Backward over a slice of variables, and a name's place (label.find). -/
namespace Ev
/-- what comes when k rounds are over -/
def uptoF {α : Type} (f : Nat → α) (k : Nat) : List α := (List.range k).map f
theorem uptoF_succ {α : Type} (f : Nat → α) (k : Nat) : uptoF f (k + 1) = uptoF f k ++ [f k] := by simp [uptoF, List.range_succ]
theorem uptoF_length {α : Type} (f : Nat → α) (k : Nat) : (uptoF f k).length = k := by simp [uptoF]
def noPar : Par := ⟨[], false, 0⟩
def backF (l : List Par) (j : Nat) : Nat × Par := (l.length - 1 - j, l[l.length - 1 - j]?.getD noPar)
theorem last_skip (l : List Par) (nm : List UInt8) : ∀ k, k ≤ l.length → (∀ j, j < k → (backF l j).2.name ≠ nm) → nameTo l nm l.length = nameTo l nm (l.length - k)
  | 0, _, _ => rfl
  | k + 1, h, hj => by
    rw [last_skip l nm k (by omega) (fun j hj' => hj j (by omega)), show l.length - k = (l.length - (k + 1)) + 1 by omega]
    conv => lhs; unfold nameTo
    rw [if_neg]
    intro e
    have h1 := hj k (by omega)
    unfold backF at h1
    rw [show l.length - 1 - k = l.length - (k + 1) by omega] at h1
    have h2 : l.length - (k + 1) < l.length := by omega
    rw [List.getElem?_eq_getElem h2] at e h1
    exact h1 (by injection e)
theorem last_none (l : List Par) (nm : List UInt8) (h : ∀ j, j < l.length → (backF l j).2.name ≠ nm) : nameI l nm = -1 := by
  unfold nameI
  rw [last_skip l nm l.length (Nat.le_refl _) h, Nat.sub_self]
  rfl
theorem last_some (l : List Par) (nm : List UInt8) (k : Nat) (hk : k < l.length) (h : ∀ j, j < k → (backF l j).2.name ≠ nm) (e : (backF l k).2.name = nm) : nameI l nm = (((backF l k).1 : Nat) : Int) := by
  unfold nameI
  rw [last_skip l nm k (by omega) h, show l.length - k = (l.length - 1 - k) + 1 by omega]
  conv => lhs; unfold nameTo
  have h2 : l.length - 1 - k < l.length := by omega
  unfold backF at e ⊢
  rw [List.getElem?_eq_getElem h2] at e ⊢
  rw [if_pos (by rw [← e]; rfl)]
end Ev
namespace Go.Proofs.YtpbflgemhcaooaaDoor
open Go.RowKit Go.Shelf
set_option linter.unusedSimpArgs false
set_option linter.unusedVariables false
attribute [local go_sem] Oper.semAt_some
def parV (p : Ev.Par) : Value := .agg #[.string ⟨p.name.toArray⟩, .bool p.secret, .int .i64 p.size]
/-- the variables l lie at b, off -/
def ParsAt (W : World) (b off : Nat) (l : List Ev.Par) : Prop := ∀ (j : Nat) p, l[j]? = some p → W.cell? ⟨b, off + j * 3, none⟩ = some (.string ⟨p.name.toArray⟩) ∧ W.cell? ⟨b, off + j * 3 + 1, none⟩ = some (.bool p.secret) ∧ W.cell? ⟨b, off + j * 3 + 2, none⟩ = some (.int .i64 p.size)
theorem ParsAt.below {n₀ : Nat} {A B : World} {b off : Nat} {l : List Ev.Par} (h : ParsAt A b off l) (k : Below n₀ A B) (hb : b < n₀) : ParsAt B b off l :=
  fun j p e => ⟨(k.cell (p := ⟨b, off + j * 3, none⟩) hb).trans (h j p e).1, (k.cell (p := ⟨b, off + j * 3 + 1, none⟩) hb).trans (h j p e).2.1, (k.cell (p := ⟨b, off + j * 3 + 2, none⟩) hb).trans (h j p e).2.2⟩
set_option maxRecDepth 100000 in
set_option maxHeartbeats 2000000 in
theorem back1_in (F : Fence) (n : Nat) (hf : F.fn 105) (hro : F.round = none) (hn : 1 ≤ n) (r Bs n₀ b off cap : Nat) (l : List Ev.Par) (hreach : l.length * 32 ≤ 140737488351232) (hb : b < n₀) (J Jx : List (Nat × Ev.Par) → World → Prop)
    (hY : ∀ pre x W, J pre W → pre.length < l.length → YieldAt F (n - 1) Tryd.prog r #[.int .i64 (x.1 : Int), parV x.2] W fun e W' =>
      (e = .returned (.bool true) ∧ J (pre ++ [x]) W' ∧ Below n₀ W W') ∨ (e = .returned (.bool false) ∧ Jx (pre ++ [x]) W'))
    (W : World) (hBs : W.cell? ⟨Bs, 0, none⟩ = some (.slice (some ⟨b, off, none⟩) l.length cap)) (hB2 : Bs < n₀) (hc : ParsAt W b off l) (h0 : J [] W) :
    CallsIn F n Tryd.prog 105 #[.func (.yield r) #[] #[], .pointer (some ⟨Bs, 0, none⟩)] W fun e W' => (∃ v, e = .returned v) ∧
      ((∃ ys, ys = Ev.uptoF (Ev.backF l) l.length ∧ J ys W') ∨ (∃ pre, (∃ k, k ≤ l.length ∧ pre = Ev.uptoF (Ev.backF l) k) ∧ Jx pre W')) := by
  refine callsIn_of_wp Tryd.func105 rfl hf ?_ hro
  simp only [Tryd.ntmps105, List.size_toArray, List.length_cons, List.length_nil, Nat.reduceAdd, Nat.reduceSub, Array.replicate_succ, Array.replicate_zero, List.push_toArray, List.append_toArray, List.nil_append, List.cons_append]
  gi_wp2
  gi_loopw [3] (fun i wr => ∃ m : Nat, m ≤ l.length ∧ i = .int .i64 ((m : Int) - 1) ∧ J (Ev.uptoF (Ev.backF l) (l.length - m)) wr ∧ Below n₀ W wr)
    (fun i _ => (intOf i + 1).toNat)
  case atStart => exact ⟨l.length, Nat.le_refl _, rfl, by rw [Nat.sub_self]; exact h0, Below.refl _ _⟩
  case round =>
    obtain ⟨m, hk, rfl, hJs, hnx⟩ := hrel
    have hbx := (hnx.cell (p := ⟨Bs, 0, none⟩) hB2).trans hBs
    rcases m with _ | m
    · rw [Nat.sub_zero] at hJs
      gi_wp2
      go_end0
      exact ⟨⟨_, rfl⟩, .inl ⟨_, rfl, hJs⟩⟩
    · have hm : m < l.length := by omega
      obtain ⟨x, hx⟩ : ∃ x, l[m]? = some x := ⟨_, List.getElem?_eq_getElem hm⟩
      have hbk : Ev.backF l (l.length - (m + 1)) = (m, x) := by
        unfold Ev.backF
        rw [show l.length - 1 - (l.length - (m + 1)) = m by omega, hx]
        rfl
      obtain ⟨c1, c2, c3⟩ := hc.below hnx hb m x hx
      obtain ⟨fn, tmps, assign, body, hy, hR⟩ := hY _ (m, x) wr hJs (by rw [Ev.uptoF_length]; omega)
      dsimp only [parV] at hy
      rw [show (((m + 1 : Nat) : Int) - 1) = (m : Int) by omega]
      have hup : Ev.uptoF (Ev.backF l) (l.length - (m + 1)) ++ [(m, x)] = Ev.uptoF (Ev.backF l) (l.length - m) := by
        rw [← hbk, ← Ev.uptoF_succ, show l.length - (m + 1) + 1 = l.length - m by omega]
      rw [hup] at hR
      clear hbk hx
      gi_wp2
      refine hR.mono ?_
      rintro e W3 (⟨rfl, hJ3, hk3⟩ | ⟨rfl, hJx3⟩)
      · gi_wp2
        go_roundw
        case rel => exact ⟨m, by omega, by simp, hJ3, hnx.trans hk3⟩
        case measure => simp [intOf]
      · gi_wp2
        refine bodyPost_ret (results_none rfl _ _ _) rfl ?_
        exact ⟨⟨_, rfl⟩, .inr ⟨_, ⟨l.length - m, by omega, rfl⟩, hJx3⟩⟩
set_option maxRecDepth 100000 in
set_option maxHeartbeats 1000000 in
theorem back1_nil_in (F : Fence) (n : Nat) (hf : F.fn 105) (hro : F.round = none) (r Bs cap : Nat) (A : Option Addr) (J : List (Nat × Ev.Par) → World → Prop) (W : World) (hBs : W.cell? ⟨Bs, 0, none⟩ = some (.slice A 0 cap)) (h0 : J [] W) :
    CallsIn F n Tryd.prog 105 #[.func (.yield r) #[] #[], .pointer (some ⟨Bs, 0, none⟩)] W fun e W' => (∃ v, e = .returned v) ∧ J [] W' := by
  refine callsIn_of_wp Tryd.func105 rfl hf ?_ hro
  simp only [Tryd.ntmps105, List.size_toArray, List.length_cons, List.length_nil, Nat.reduceAdd, Nat.reduceSub, Array.replicate_succ, Array.replicate_zero, List.push_toArray, List.append_toArray, List.nil_append, List.cons_append]
  gi_wp2
  gi_loopw [3] (fun i wr => i = .int .i64 (-1) ∧ J [] wr) (fun _ _ => 0)
  case atStart => exact ⟨rfl, h0⟩
  case round =>
    obtain ⟨rfl, hJs⟩ := hrel
    gi_wp2
    go_end0
    exact ⟨⟨_, rfl⟩, hJs⟩
set_option maxHeartbeats 1000000 in
theorem back_in (F : Fence) (n : Nat) (hf : F.fn 89) (hro : F.round = none) (a : Option Addr) (len cap : Nat) (w : World) :
    CallsIn F n Tryd.prog 89 #[.slice a len cap] w fun e w' => e = .returned (.func (.func 105) #[] #[.pointer (some ⟨w.heap.size, 0, none⟩)]) ∧ w' = w.alloc (.cells #[.slice a len cap] 22) := by
  refine callsIn_of_wp Tryd.func89 rfl hf ?_ hro
  simp only [Tryd.ntmps89, List.size_toArray, List.length_cons, List.length_nil, Nat.reduceAdd, Nat.reduceSub, Array.replicate_succ, Array.replicate_zero, List.push_toArray, List.append_toArray, List.nil_append, List.cons_append]
  gi_wp2
  go_ret
  exact ⟨rfl, rfl⟩
theorem back_stops (F : Fence) (n : Nat) (hf : F.fn 105) (hro : F.round = none) (hn : 1 ≤ n) (Bs n₀ : Nat) (A : Option Addr) (cap : Nat) (l : List Ev.Par) (hreach : l.length * 32 ≤ 140737488351232) (w : World) (hBs : Bs < n₀) (hn₀ : n₀ ≤ w.heap.size)
    (hc : w.cell? ⟨Bs, 0, none⟩ = some (.slice A l.length cap)) (hI : l = [] ∨ ∃ b off, A = some ⟨b, off, none⟩ ∧ b < n₀ ∧ ParsAt w b off l) :
    SeqStopsK F n Tryd.prog 105 #[.pointer (some ⟨Bs, 0, none⟩)] (fun x : Nat × Ev.Par => #[Value.int .i64 (x.1 : Int), parV x.2]) (Below n₀) (fun ys => ys = Ev.uptoF (Ev.backF l) l.length)
      (fun pre => ∃ k, k ≤ l.length ∧ pre = Ev.uptoF (Ev.backF l) k) l.length w := fun r J Jx W hW _ _ hY h0 => by
  have hc' := (hW.cell (p := ⟨Bs, 0, none⟩) (by show Bs < w.heap.size; omega)).trans hc
  rcases hI with rfl | ⟨b, off, rfl, hb, hcs⟩
  · exact (back1_nil_in F n hf hro r Bs cap A J W hc' h0).mono fun e W' ⟨he, hj⟩ => ⟨he, .inl ⟨_, rfl, hj⟩⟩
  · exact back1_in F n hf hro hn r Bs n₀ b off cap l hreach hb J Jx hY W hc' hBs (hcs.below hW (by omega)) h0
end Go.Proofs.YtpbflgemhcaooaaDoor
/- label.find: a name's place, the last one first. -/
namespace Go.Proofs.YtpbflgemhcaooaaDoor
open Go.RowKit Go.Shelf
set_option linter.unusedSimpArgs false
set_option linter.unusedVariables false
attribute [local go_sem] Oper.semAt_some
/-- a variable in a box -/
def PBox (W : World) (B : Nat) (p : Ev.Par) : Prop := W.heap[B]? = some (.cells #[.string ⟨p.name.toArray⟩, .bool p.secret, .int .i64 p.size] 35 (0, 0))
theorem pbox_own (B : Nat) (p : Ev.Par) : Own (fun (_ : Unit) W => PBox W B p) := fun s X Y row hs hg hrow =>
  (hg.block B (Array.getElem?_eq_some_iff.1 hs).1 (fun e' => by obtain ⟨o, ho, hc⟩ := hrow B e'.symm; rw [show X.heap[B]? = _ from hs] at ho; cases ho; cases hc)).trans hs
set_option maxRecDepth 100000 in
set_option maxHeartbeats 4000000 in
theorem find_in (F : Fence) (n : Nat) (h1 : F.fn 57) (h2 : F.fn 89) (h3 : F.fn 105) (hro : F.round = none) (hn : 3 ≤ n) (A : Option Addr) (cap : Nat) (l : List Ev.Par) (hreach : l.length * 32 ≤ 140737488351232) (nm : List UInt8) (w : World) (hI : l = [] ∨ ∃ b off, A = some ⟨b, off, none⟩ ∧ b < w.heap.size ∧ ParsAt w b off l) :
    CallsIn F n Tryd.prog 57 #[.slice A l.length cap, .string ⟨(nm).toArray⟩] w fun e W' => e = .returned (.int .i64 (Ev.nameI l nm)) ∧ Below w.heap.size w W' := by
  have hn1 : 1 ≤ n := by omega
  refine callsIn_of_wp_marks Tryd.func57 rfl h1 ?_ hro
  simp only [Tryd.ntmps57, List.size_toArray, List.length_cons, List.length_nil, Nat.reduceAdd, Nat.reduceSub, Array.replicate_succ, Array.replicate_zero, List.push_toArray, List.append_toArray, List.nil_append, List.cons_append]
  gi_wp2_with (gi_at_call 89; refine (back_in F (n - 1) h2 hro _ _ _ _).mono ?_; rintro e w' ⟨rfl, rfl⟩)
  have bM := ((Boxed.new w 9 (.string ⟨(nm).toArray⟩)).alloc (.cells #[.int .i64 0] 3)).alloc (.cells #[.slice A l.length cap] 22)
  have bR := (Boxed.new (w.alloc (.cells #[.string ⟨(nm).toArray⟩] 9)) 3 (.int .i64 0)).alloc (.cells #[.slice A l.length cap] 22)
  have bS := Boxed.new ((w.alloc (.cells #[.string ⟨(nm).toArray⟩] 9)).alloc (.cells #[.int .i64 0] 3)) 22 (.slice A l.length cap)
  simp only [World.size_alloc] at bR bS
  have hB0 : Below w.heap.size w (((w.alloc (.cells #[.string ⟨(nm).toArray⟩] 9)).alloc (.cells #[.int .i64 0] 3)).alloc (.cells #[.slice A l.length cap] 22)) := (((Below.refl _ w).alloc (Nat.le_refl _) _).alloc (by simp) _).alloc (by simp; omega) _
  have hsz : (((w.alloc (.cells #[.string ⟨(nm).toArray⟩] 9)).alloc (.cells #[.int .i64 0] 3)).alloc (.cells #[.slice A l.length cap] 22)).heap.size = w.heap.size + 3 := by simp
  obtain ⟨W0, hW0⟩ : ∃ W0, ((w.alloc (.cells #[.string ⟨(nm).toArray⟩] 9)).alloc (.cells #[.int .i64 0] 3)).alloc (.cells #[.slice A l.length cap] 22) = W0 := ⟨_, rfl⟩
  rw [hW0] at bM bR bS hB0 hsz ⊢
  clear hW0
  refine wpIn_rangeFunc_ownH hro hn1 (gf := 105) (lb := #[.pointer (some ⟨w.heap.size + 1 + 1, 0, none⟩)]) rfl h3 (enters_of Tryd.func105 (by kernel_rfl) rfl)
    (back_stops F (n - 1) h3 hro (by omega) (w.heap.size + 1 + 1) (w.heap.size + 3) A cap l hreach W0 (by omega) (by omega) bS.cell (hI.imp id (fun ⟨b, off, e, hb, hp⟩ => ⟨b, off, e, by omega, hp.below hB0 hb⟩))) belowK_t (belowK_b (by omega)) (Below.refl _ _) (fun _ => rfl)
    (fun pre W => (((∀ p ∈ pre, p.2.name ≠ nm) ∧ Boxed W w.heap.size 9 (.string ⟨(nm).toArray⟩)) ∧ Boxed W (w.heap.size + 1) 3 (.int .i64 0) ∧ Boxed W (w.heap.size + 1 + 1) 22 (.slice A l.length cap)) ∧ Below w.heap.size w W)
    (fun c pre W => (c = .ret ∧ ∃ ini last, pre = ini ++ [last] ∧ (∀ p ∈ ini, p.2.name ≠ nm) ∧ last.2.name = nm ∧ Boxed W (w.heap.size + 1) 3 (.int .i64 (last.1 : Int))) ∧ Below w.heap.size w W)
    (OwnFrom.and (OwnFrom.and (OwnFrom.and (fun s W W' row hs hg hr => hs) (Own.from (boxed_own _ _ (fun _ => (.string ⟨(nm).toArray⟩ : Value))) _)) (OwnFrom.and (Own.from (boxed_own _ _ (fun _ => (Value.int .i64 0 : Value))) _) (Own.from (boxed_own _ _ (fun _ => (Value.slice A l.length cap : Value))) _))) (ownFrom_below (Nat.le_refl _) (by omega)))
    (fun c => OwnFrom.and (Own.from (fun s X Y row hs hg hr => by obtain ⟨hc, ini, last, e1, e2, e3, e4⟩ := hs; exact ⟨hc, ini, last, e1, e2, e3, boxed_own (w.heap.size + 1) 3 (fun (_ : Unit) => Value.int .i64 (last.1 : Int)) () X Y row e4 hg hr⟩) _) (ownFrom_below (Nat.le_refl _) (by omega)))
    ⟨⟨⟨by simp, bM⟩, bR, bS⟩, hB0⟩
    (fun x a' W => ∃ Bx, w.heap.size + 1 + 1 < Bx ∧ PBox W Bx x.2 ∧ a' = { tmps := #[.slice A l.length cap, .string ⟨(nm).toArray⟩, undef, .pointer (some ⟨w.heap.size, 0, none⟩), .pointer (some ⟨w.heap.size + 1, 0, none⟩), .int .i64 (x.1 : Int), .pointer (some ⟨Bx, 0, none⟩), .slice A l.length cap, .func (.func 105) #[] #[.pointer (some ⟨w.heap.size + 1 + 1, 0, none⟩)], .int .i64 (x.1 : Int), parV x.2, undef, undef, undef, undef, undef], defers := [] })
    (fun x a' _ X Y row hs hg hr => by obtain ⟨Bx, e1, e2, e3⟩ := hs; exact ⟨Bx, e1, pbox_own Bx x.2 () X Y row e2 hg (fun r e => (hr r e).2), e3⟩)
    ?assign ?body ?done ?stop
  case assign =>
    rintro r pre x W K ⟨⟨⟨hp, bM1⟩, bR1, bS1⟩, hB1⟩ hK
    unfold parV at hK ⊢
    gi_wp2
    have hlt := bS1.lt
    exact hK _ _ ((KeepsOthers.alloc _ _).from _) ((Below.refl _ W).alloc (by omega) _) ⟨⟨⟨hp, bM1.alloc _⟩, bR1.alloc _, bS1.alloc _⟩, hB1.alloc hB1.size _⟩ ⟨W.heap.size, by omega, heap_alloc_new W _, rfl⟩
  case body =>
    rintro r pre x a' W hl ⟨r', hr⟩ ⟨⟨⟨hp, bM1⟩, bR1, bS1⟩, hB1⟩ ⟨Bx, hBx, bX, rfl⟩ hlt
    have cM := bM1.cell
    have cR := bR1.cell
    have fR := bR1.frozen
    have cX : W.cell? ⟨Bx, 0, none⟩ = some (.string ⟨x.2.name.toArray⟩) := cell_of_block bX 0
    by_cases hx : x.2.name = nm
    · rw [hx] at cX
      gi_wp2
      exact ⟨(KeepsOthers.setCell _ _ _).from _, ⟨rfl, pre, x, rfl, hp, hx, bR1.set _⟩, hB1.setCell (p := ⟨w.heap.size + 1, 0, none⟩) (by simp) _⟩
    · have gx : (x.2.name == nm) = false := beq_eq_false_iff_ne.2 hx
      gi_wp2
      exact ⟨KeepsFrom.refl _ _, Below.refl _ _, ⟨⟨fun p hp' => (List.mem_append.1 hp').elim (hp p) (fun e => by simp at e; subst e; exact hx), bM1⟩, bR1, bS1⟩, hB1⟩
  case done =>
    rintro D ys W hD rfl ⟨⟨⟨hp, bM1⟩, bR1, bS1⟩, hB1⟩ hK
    have cR := bR1.cell
    have fR := bR1.frozen
    gi_wp2
    have hK' := (KeepsOthers.setCell W ⟨w.heap.size + 1, 0, none⟩ (.int .i64 (-1))).same D _ hK rfl
    refine ⟨by simp, .inl ⟨_, _, rfl, run_takeDeferred hK', ?_⟩⟩
    have hc5 := cell_kept (World.cell?_setCell_same' W ⟨w.heap.size + 1, 0, none⟩ (.int .i64 (-1)) (by rw [cR]; rfl)) (grownBy_putObj' _ D (.deferred none)) (fun r e => by cases e; exact ⟨_, hK', rfl⟩)
    refine ⟨.int .i64 (-1), ?_, by rw [Ev.last_none l nm (fun j hj => hp _ (by simp only [Ev.uptoF, List.mem_map, List.mem_range]; exact ⟨j, hj, rfl⟩))], (hB1.setCell (p := ⟨w.heap.size + 1, 0, none⟩) (by simp) _).trans (belowK_b (w := w) (Nat.le_refl _) _ D _ _ (by omega) hK' rfl rfl)⟩
    simp [results, Tryd.f57, go_sem, hc5]
  case stop =>
    rintro D c pre W hD ⟨k, hk, rfl⟩ ⟨⟨rfl, ini, last, e1, e2, e3, bR1⟩, hB1⟩ hK
    have cR := bR1.cell
    gi_wp2
    refine ⟨by simp, .inl ⟨_, _, rfl, run_takeDeferred hK, ?_⟩⟩
    have hc5 := cell_kept cR (grownBy_putObj' _ D (.deferred none)) (fun r e => by cases e; exact ⟨_, hK, rfl⟩)
    obtain ⟨k', rfl⟩ : ∃ k', k = k' + 1 := by
      cases k with
      | zero => simp [Ev.uptoF] at e1
      | succ k' => exact ⟨k', rfl⟩
    rw [Ev.uptoF_succ] at e1
    obtain ⟨rfl, e5⟩ := List.append_inj' e1 rfl
    obtain rfl : Ev.backF l k' = last := by simpa using e5
    refine ⟨.int .i64 ((Ev.backF l k').1 : Int), ?_, by rw [Ev.last_some l nm k' (by omega) (fun j hj => e2 _ (by simp only [Ev.uptoF, List.mem_map, List.mem_range]; exact ⟨j, hj, rfl⟩)) e3], hB1.trans (belowK_b (w := w) (Nat.le_refl _) W D _ _ (by omega) hK rfl rfl)⟩
    simp [results, Tryd.f57, go_sem, hc5]
theorem RPars.at_ {w : World} {A : Option Addr} {len cap : Nat} {l : List Ev.Par} (h : RPars w (.slice A len cap) l) : len = l.length ∧ (l = [] ∨ ∃ b off, A = some ⟨b, off, none⟩ ∧ b < w.heap.size ∧ ParsAt w b off l) := by
  have hf := SL.form h
  obtain ⟨A', c', e, _, _⟩ := hf
  injection e with e1 e2 e3
  subst e2
  refine ⟨rfl, ?_⟩
  by_cases hl : l = []
  · exact .inl hl
  · right
    obtain ⟨b, o, c, e, hb, h1, h2, hc⟩ := SL.row h (by have := List.length_pos_iff.2 hl; omega)
    injection e with e4 _ _
    subst e4
    refine ⟨b, o, rfl, hb, fun j p hp => ?_⟩
    have hj := fun i u (hu : (cellsP p)[i]? = some u) => hc (j * 3 + i) u (flatMap_at cellsP (fun _ => rfl) l j _ i u hp hu)
    simp only [← Nat.add_assoc] at hj
    exact ⟨hj 0 _ rfl, hj 1 _ rfl, hj 2 _ rfl⟩
/-- label.find -/
theorem find_any (l : List Ev.Par) (v : Value) (nm : List UInt8) (w : World) (h : RPars w v l) (hreach : l.length * 32 ≤ 140737488351232) :
    Calls Tryd.prog 57 #[v, .string ⟨(nm).toArray⟩] w fun e W' => e = .returned (.int .i64 (Ev.nameI l nm)) ∧ Below w.heap.size w W' := by
  obtain ⟨A, c, rfl, _, _⟩ := SL.form h
  exact callsIn_wide.1 (find_in Fence.wide 3 trivial trivial trivial rfl (Nat.le_refl _) A c l hreach nm w (RPars.at_ h).2)
end Go.Proofs.YtpbflgemhcaooaaDoor
/- label.looker: is an expression secret. -/
namespace Ev
theorem find_cases (l : List Par) (n : List UInt8) : (nameI l n < 0 ∧ findP l n = none) ∨ ∃ (m : Nat) (p : Par), nameI l n = (m : Int) ∧ l[m]? = some p ∧ findP l n = some p := by
  by_cases h : nameI l n < 0
  · exact .inl ⟨h, findP_none h⟩
  · obtain ⟨p, e1, e2⟩ := findP_some (l := l) (n := n) (by omega)
    exact .inr ⟨(nameI l n).toNat, p, by omega, e2, e1⟩
end Ev
namespace Go.Proofs.YtpbflgemhcaooaaDoor
open Go.RowKit
set_option linter.unusedSimpArgs false
set_option linter.unusedVariables false
/-- an expression stands at b, o; its arguments are the slice va -/
structure XAt (w : World) (b o : Nat) (e : Ev.Ex) (va : Value) : Prop where
  lt : b < w.heap.size
  c0 : w.cell? ⟨b, o, none⟩ = some (.int .i64 e.kind)
  c1 : w.cell? ⟨b, o + 1, none⟩ = some (.int .i64 e.n)
  c2 : w.cell? ⟨b, o + 2, none⟩ = some (.string ⟨e.name.toArray⟩)
  c3 : w.cell? ⟨b, o + 3, none⟩ = some va
theorem XAt.on {w w' : World} {b o : Nat} {e : Ev.Ex} {va : Value} (h : XAt w b o e va) (hb : Below w.heap.size w w') : XAt w' b o e va :=
  ⟨Nat.lt_of_lt_of_le h.lt hb.size, (hb.cell (p := ⟨b, o, none⟩) h.lt).trans h.c0, (hb.cell (p := ⟨b, o + 1, none⟩) h.lt).trans h.c1, (hb.cell (p := ⟨b, o + 2, none⟩) h.lt).trans h.c2, (hb.cell (p := ⟨b, o + 3, none⟩) h.lt).trans h.c3⟩
/-- the looker's block -/
structure LkAt (w : World) (kb : Nat) (A : List Ev.Par) (va : Value) (k : Ev.LK) : Prop where
  r : w.heap[kb]? = some (.cells #[va, .int .i64 k.work, .int .i64 k.lets] 94 (0, 0))
  a : RPars w va A
theorem RPars.on {w w' : World} {v : Value} {l : List Ev.Par} (h : RPars w v l) (hb : Below w.heap.size w w') : RPars w' v l := (SL.below h hb).more hb.size
theorem LkAt.lt {w : World} {kb : Nat} {A : List Ev.Par} {va : Value} {k : Ev.LK} (h : LkAt w kb A va k) : kb < w.heap.size := (Array.getElem?_eq_some_iff.1 h.r).1
theorem LkAt.on {w w' : World} {kb : Nat} {A : List Ev.Par} {va : Value} {k : Ev.LK} (h : LkAt w kb A va k) (hb : Below w.heap.size w w') : LkAt w' kb A va k :=
  ⟨(hb.block kb h.lt).trans h.r, h.a.on hb⟩
theorem LkAt.cell {w : World} {kb : Nat} {A : List Ev.Par} {va : Value} {k : Ev.LK} (h : LkAt w kb A va k) (j : Nat) : w.cell? ⟨kb, j, none⟩ = #[va, .int .i64 k.work, .int .i64 k.lets][j]? := cell_of_block h.r j
set_option maxRecDepth 6000 in
set_option maxHeartbeats 3200000 in
theorem lkAt_any (A : List Ev.Par) (hA : A.length * 32 ≤ 140737488351232) (va : Value) (k : Ev.LK) (kb : Nat) (nm : List UInt8) (b o : Nat) (e : Ev.Ex) (vx : Value) (secret dark : Bool) (w : World) (hk : LkAt w kb A va k) (hx : XAt w b o e vx) :
    Calls Tryd.prog 107 #[.pointer (some ⟨kb, 0, none⟩), .string ⟨(nm).toArray⟩, .pointer (some ⟨b, o, none⟩), .bool secret, .bool dark] w fun r w' => r = .returned (.tuple #[.bool (Ev.plC A nm e secret dark).1, .int .i64 (Ev.plC A nm e secret dark).2]) ∧ Below w.heap.size w w' := by
  have HK := Lib.hid hk
  have HX := Lib.hid hx
  obtain ⟨R, hR⟩ : ∃ R, Ev.plC A nm e secret dark = R := ⟨_, rfl⟩
  rw [hR]
  have HP := Lib.hid hR
  clear hR
  unfold Ev.plC at HP
  obtain ⟨a, c, rfl, _, hcm⟩ := SL.form hk.a
  have k0 : w.cell? ⟨kb, 0, none⟩ = some (.slice a A.length c) := hk.cell 0
  have klt := hk.lt
  have CF := Lib.hid (find_any A (.slice a A.length c) nm w hk.a hA)
  clear hk hx
  go_enter Tryd.func107, Tryd.ntmps107
  rcases Ev.find_cases A nm with ⟨hn, hf⟩ | ⟨m, p, hn, hp, hf⟩
  case inl =>
    rw [hf] at HP
    have g0 : decide (Ev.nameI A nm < 0) = true := decide_eq_true hn
    go_wp2_with (go_at_call 57; refine CF.out.mono ?_; rintro r w1 ⟨rfl, hb1⟩)
    go_ret2
    exact ⟨by rw [← HP.out]; rfl, hb1⟩
  case inr =>
  rw [hf] at HP
  rw [hn] at CF
  clear hn hf
  have HPP := Lib.hid hp
  have hml := (List.getElem?_eq_some_iff.1 hp).1
  clear hp
  dsimp only at HP
  cases secret with
  | true =>
    go_wp2_with (go_at_call 57; refine CF.out.mono ?_; rintro r w1 ⟨rfl, hb1⟩)
    go_ret2
    exact ⟨by rw [← HP.out]; rfl, hb1⟩
  | false =>
  rw [if_neg (by decide)] at HP
  obtain ⟨ba, oa, hA2⟩ : ∃ ba oa, a = some ⟨ba, oa, none⟩ ∧ ba < w.heap.size ∧ ParsAt w ba oa A := by
    rcases (RPars.at_ HK.out.a).2 with h | h
    · rw [h] at hml; simp at hml
    · exact h
  obtain ⟨rfl, hal, hpa⟩ := hA2
  obtain ⟨_, p1, p2⟩ := hpa m p HPP.out
  have HX1 := Lib.hid HX.out.c0
  go_upto_region 2 with (go_at_call 57; refine CF.out.mono ?_; rintro r w1 ⟨rfl, hb1⟩)
  have k0' : w1.cell? ⟨kb, 0, none⟩ = _ := (hb1.cell (p := ⟨kb, 0, none⟩) klt).trans k0
  have p1' : w1.cell? ⟨ba, oa + m * 3 + 1, none⟩ = _ := (hb1.cell (p := ⟨ba, oa + m * 3 + 1, none⟩) hal).trans p1
  have p2' : w1.cell? ⟨ba, oa + m * 3 + 2, none⟩ = _ := (hb1.cell (p := ⟨ba, oa + m * 3 + 2, none⟩) hal).trans p2
  have e0 : w1.cell? ⟨b, o, none⟩ = _ := (hb1.cell (p := ⟨b, o, none⟩) HX.out.lt).trans HX.out.c0
  have e1 : w1.cell? ⟨b, o + 1, none⟩ = _ := (hb1.cell (p := ⟨b, o + 1, none⟩) HX.out.lt).trans HX.out.c1
  have hsz := hb1.size
  have zk : kb < w1.heap.size := by omega
  have za : ba < w1.heap.size := by omega
  have zb : b < w1.heap.size := by have := HX.out.lt; omega
  clear k0 p1 p2 HX1 CF hpa
  cases dark with
  | false =>
    rw [if_neg (by simp)] at HP
    go_wp2_with fail
    go_quiet (fail)
    go_wp2_with fail
    go_ret2
    exact ⟨by rw [← HP.out]; rfl, by (repeat' first | with_reducible (first | exact Below.refl _ _ | assumption | refine Below.alloc ?_ ?_ _ | refine below_drewN ?_ _ | refine Below.drew ?_ | refine Below.setCell ?_ ?_ _ | refine Below.trans ?_ (Below.mono (by with_reducible assumption) ?_)) | go_size)⟩
  | true =>
  by_cases hkind : e.kind = 1
  case neg =>
    have g1 : (e.kind != 1) = true := bne_iff_ne.2 hkind
    rw [if_pos ⟨rfl, .inl hkind⟩] at HP
    go_wp2_with fail
    go_quiet (fail)
    go_wp2_with fail
    go_ret2
    exact ⟨by rw [← HP.out]; rfl, by (repeat' first | with_reducible (first | exact Below.refl _ _ | assumption | refine Below.alloc ?_ ?_ _ | refine below_drewN ?_ _ | refine Below.drew ?_ | refine Below.setCell ?_ ?_ _ | refine Below.trans ?_ (Below.mono (by with_reducible assumption) ?_)) | go_size)⟩
  case pos =>
  have g1 : (e.kind != 1) = false := by rw [hkind]; rfl
  by_cases hnn : p.size ≤ e.n
  case pos =>
    have g2 : decide (p.size ≤ e.n) = true := decide_eq_true hnn
    rw [if_pos ⟨rfl, .inr hnn⟩] at HP
    go_wp2_with fail
    go_quiet (fail)
    go_wp2_with fail
    go_ret2
    exact ⟨by rw [← HP.out]; rfl, by (repeat' first | with_reducible (first | exact Below.refl _ _ | assumption | refine Below.alloc ?_ ?_ _ | refine below_drewN ?_ _ | refine Below.drew ?_ | refine Below.setCell ?_ ?_ _ | refine Below.trans ?_ (Below.mono (by with_reducible assumption) ?_)) | go_size)⟩
  case neg =>
    have g2 : decide (p.size ≤ e.n) = false := decide_eq_false hnn
    rw [if_neg (fun h => h.2.elim (fun h => h hkind) hnn)] at HP
    go_wp2_with fail
    go_quiet (fail)
    go_wp2_with fail
    go_ret2
    exact ⟨by rw [← HP.out]; rfl, by (repeat' first | with_reducible (first | exact Below.refl _ _ | assumption | refine Below.alloc ?_ ?_ _ | refine below_drewN ?_ _ | refine Below.drew ?_ | refine Below.setCell ?_ ?_ _ | refine Below.trans ?_ (Below.mono (by with_reducible assumption) ?_)) | go_size)⟩
end Go.Proofs.YtpbflgemhcaooaaDoor
/- evlaw4's own functions: vars. -/
namespace Go.Proofs.YtpbflgemhcaooaaDoor
open Go.RowKit
set_option linter.unusedSimpArgs false
set_option linter.unusedVariables false
theorem pars_at {w : World} {A : Option Addr} {len c : Nat} {l : List Ev.Par} (h : RPars w (.slice A len c) l) {j : Nat} {p : Ev.Par} (hp : l[j]? = some p) : ∃ b o, A = some ⟨b, o, none⟩ ∧ b < w.heap.size ∧ len = l.length ∧ w.cell? ⟨b, o + j * 3, none⟩ = some (.string ⟨p.name.toArray⟩) ∧ w.cell? ⟨b, o + j * 3 + 1, none⟩ = some (.bool p.secret) ∧ w.cell? ⟨b, o + j * 3 + 2, none⟩ = some (.int .i64 p.size) := by
  have hlt := (List.getElem?_eq_some_iff.1 hp).1
  obtain ⟨A', c', e, _, _⟩ := SL.form h
  injection e with e1 e2 _
  obtain ⟨b, o, c2, e3, hb, _, _, hc⟩ := SL.row h (by omega)
  injection e3 with e3 _ _
  have hj := fun i u (hu : (cellsP p)[i]? = some u) => hc (j * 3 + i) u (flatMap_at cellsP (fun _ => rfl) l j _ i u hp hu)
  simp only [← Nat.add_assoc] at hj
  exact ⟨b, o, e3, hb, e2, hj 0 _ rfl, hj 1 _ rfl, hj 2 _ rfl⟩
set_option maxRecDepth 6000 in
set_option maxHeartbeats 3200000 in
theorem vars4_any (l : List Ev.Par) (v : Value) (w : World) (h : RPars w v l) (hl : l.length ≤ 1201) :
    Calls Tryd.prog 18 #[v, .bool false] w fun e w' => ∃ v', e = .returned v' ∧ RPars w' v' (l.map Ev.pubP) ∧ inK (fun k => w.heap.size ≤ k ∧ k < w'.heap.size) v' ∧ Below w.heap.size w w' := by
  obtain ⟨A, c, rfl, _, _⟩ := SL.form h
  have H := Lib.hid h
  clear h
  go_enter Tryd.func18, Tryd.ntmps18
  obtain ⟨i3, hi1, hz0, hz1, hz2⟩ := info_parts Tryd.varInfo
  have IV := Lib.hid (⟨hi1, hz0, hz1, hz2⟩ : _ ∧ _ ∧ _ ∧ _)
  clear hi1 hz0 hz1 hz2
  go_upto_region 3 with fail
  go_loopw [10, 5] (fun ii vv wr => ∃ (M : List Ev.Par), M.length ≤ l.length ∧ ii = .int .i64 (M.length : Int) ∧ Hid (M = (l.take M.length).map Ev.pubP) ∧ Hid (wr.ownsRow w.heap.size 35 3 vv M.length (M.flatMap cellsP)) ∧ Below w.heap.size w wr) (fun ii _ _ => l.length - (intOf ii).toNat)
  case atStart => exact ⟨[], by simp, rfl, Lib.hid rfl, Lib.hid (World.ownsRow_nil _ _ _ _), by (repeat' first | with_reducible (first | exact Below.refl _ _ | assumption | refine Below.alloc ?_ ?_ _ | refine below_drewN ?_ _ | refine Below.drew ?_ | refine Below.setCell ?_ ?_ _ | refine Below.trans ?_ (Below.mono (by with_reducible assumption) ?_)) | go_size)⟩
  case round =>
  obtain ⟨M, hM, rfl, HM, HO, hbr⟩ := hrel
  obtain ⟨sa, sc, rfl, _, _⟩ := SL.form (SL.of_own HO.out)
  by_cases hlt : M.length < l.length
  case pos =>
    obtain ⟨p, hp⟩ : ∃ p, l[M.length]? = some p := ⟨_, List.getElem?_eq_getElem hlt⟩
    obtain ⟨b, o, rfl, hb, _, p0, p1, p2⟩ := pars_at (H.out.on hbr) hp
    have HP := Lib.hid (show M ++ [Ev.pubP p] = (l.take (M.length + 1)).map Ev.pubP by
      rw [List.take_add_one, hp, List.map_append, ← HM.out]
      rfl)
    clear hp
    go_upto_region 5 with fail
    have OWN5 := Lib.hid (HO.out.alloc (.cells #[.string ⟨p.name.toArray⟩, .bool p.secret, .int .i64 p.size] 35))
    have b5 : Below w.heap.size w (wr.alloc (.cells #[.string ⟨p.name.toArray⟩, .bool p.secret, .int .i64 p.size] 35)) := hbr.alloc hbr.size _
    have r5 := heap_alloc_new wr (.cells #[.string ⟨p.name.toArray⟩, .bool p.secret, .int .i64 p.size] 35)
    have hne : (Value.slice sa M.length sc).ownBlock ≠ some wr.heap.size := fun e => by
      have := (HO.out.lt _ e).2
      omega
    have hsr := hbr.size
    clear p0 p1 p2 hb HO HM hbr
    generalize wr.alloc (.cells #[.string ⟨p.name.toArray⟩, .bool p.secret, .int .i64 p.size] 35) = w5 at *
    have q1 : w5.cell? ⟨wr.heap.size, 1, none⟩ = some (.bool p.secret) := cell_of_block r5 1
    have z5 := (Array.getElem?_eq_some_iff.1 r5).1
    have f1 : w5.frozen? ⟨wr.heap.size, 1, none⟩ = false := by
      unfold World.frozen?
      rw [r5]
      simp
    generalize wr.heap.size = g at *
    have OWN6 := Lib.hid (ownsRow_setCell_other (a := ⟨g, 1, none⟩) OWN5.out hne (.bool false))
    have b6 := b5.setCell (p := ⟨g, 1, none⟩) hsr (.bool false)
    have r6 : Hid ((w5.setCell ⟨g, 1, none⟩ (.bool false)).heap[g]? = some (.cells #[.string ⟨p.name.toArray⟩, .bool false, .int .i64 p.size] 35 (0, 0))) := Lib.hid (heap_setCell_same w5 g 1 _ _ (.bool false) r5)
    clear r5 b5 OWN5
    go_upto_region 6 with fail
    clear q1 f1 z5
    generalize w5.setCell ⟨g, 1, none⟩ (.bool false) = w6 at *
    have z6 := (Array.getElem?_eq_some_iff.1 r6.out).1
    have s6 := b6.size
    go_upto_region 7 with (first | (refine wpList_load_box rfl 35 _ rfl rfl (load_box Tryd.underlying35 (by kernel_rfl) (by rfl) (by kernel_rfl) (fun j v hj => (cell_of_block r6.out j).trans hj) z6 (Below.refl _ _)) ?_) | (at_builtin; refine wpList_append_own_at _ rfl (.tmp 16) (.tmp 18) _ rfl w.heap.size 35 i3 (.agg #[.string ⟨#[]⟩, .bool false, .int .i64 0]) 3 32 Tryd.underlying22 IV.out.1 IV.out.2.1 IV.out.2.2.1 IV.out.2.2.2 rfl (by decide) _ _ _ rfl (OWN6.out.alloc _) ⟨w6.heap.size, 0, none⟩ 1 1 (cellsP (Ev.pubP p)) rfl rfl (cell_three_mk _ _ _) (one_three_mk _) (by unfold maxLen; omega) (by omega) (by simp; omega) ?_; intro v7 w7 hown7 hg7 hn7 hat7; obtain ⟨A7, c7, rfl, _, _⟩ := SL.form (SL.of_own hown7)))
    have hb7 : Below w.heap.size w w7 := (b6.alloc s6 _).grown hg7 (by simp; omega) (fun k hk => (OWN6.out.lt k hk).1)
    have HOWN := Lib.hid hown7
    clear hown7 hg7 hat7 hn7 OWN6
    go_wp2_with fail
    go_roundw
    case rel => exact ⟨M ++ [Ev.pubP p], by (simp <;> omega), by (simp <;> go_num), Lib.hid (by have h := HP.out; simpa using h), Lib.hid (by have h := HOWN.out; simpa using h), hb7⟩
    case measure => simp [intOf]; omega
  case neg =>
  have hMl : M.length = l.length := by omega
  have HX := Lib.hid (show M = l.map Ev.pubP by rw [HM.out, hMl, List.take_length])
  clear hMl
  go_wp2_with fail
  go_ret
  refine ⟨_, rfl, ?_, fun a n c' e => ?_, hbr⟩
  · rw [← HX.out]
    exact SL.of_own HO.out
  · injection e with e1 _ _
    subst e1
    exact HO.out.lt a.block rfl
end Go.Proofs.YtpbflgemhcaooaaDoor
