import Derived.RangeFuncNested
import Derived.RangeFuncBound
import Derived.RangeFuncCalls
import Derived.RangeFuncLeaves
import Derived.Shelf.Abstract
import Derived.Shelf.RegionOpen
import Derived.WalkKit
import Derived.OwnWalkIn
import Derived.TacticsInMore
import Derived.LoopNIn
import Derived.LoopIn
import Derived.Test.YtpbflgemhcaooaaDoorPk18
import Derived.Test.YtpbflgemhcaooaaDoorPk15
import Derived.Test.YtpbflgemhcaooaaDoorPk16
import Derived.Test.YtpbflgemhcaooaaDoorPk4
import Derived.Deep.DeepCutAuto
import Derived.Test.YtpbflgemhcaooaaDoorPk10
/- slices.Backward over a slice of variables, and a name's place (label.find). -/
namespace Ev
/-- what comes when k rounds are over -/
def uptoF {α : Type} (f : Nat → α) (k : Nat) : List α := (List.range k).map f
theorem uptoF_succ {α : Type} (f : Nat → α) (k : Nat) : uptoF f (k + 1) = uptoF f k ++ [f k] := by simp [uptoF, List.range_succ]
theorem uptoF_length {α : Type} (f : Nat → α) (k : Nat) : (uptoF f k).length = k := by simp [uptoF]
def noPar : Par := ⟨[], false, 0⟩
def backF (l : List Par) (j : Nat) : Nat × Par := (l.length - 1 - j, l[l.length - 1 - j]?.getD noPar)
theorem last_skip (l : List Par) (nm : List UInt8) : ∀ k, k ≤ l.length → (∀ j, j < k → (backF l j).2.name ≠ nm) → nameTo l nm l.length = nameTo l nm (l.length - k)
  | 0, _, _ => rfl
  | k + 1, h, hj => by
    rw [last_skip l nm k (by omega) (fun j hj' => hj j (by omega)), show l.length - k = (l.length - (k + 1)) + 1 by omega]
    conv => lhs; unfold nameTo
    rw [if_neg]
    intro e
    have h1 := hj k (by omega)
    unfold backF at h1
    rw [show l.length - 1 - k = l.length - (k + 1) by omega] at h1
    have h2 : l.length - (k + 1) < l.length := by omega
    rw [List.getElem?_eq_getElem h2] at e h1
    exact h1 (by injection e)
theorem last_none (l : List Par) (nm : List UInt8) (h : ∀ j, j < l.length → (backF l j).2.name ≠ nm) : nameI l nm = -1 := by
  unfold nameI
  rw [last_skip l nm l.length (Nat.le_refl _) h, Nat.sub_self]
  rfl
theorem last_some (l : List Par) (nm : List UInt8) (k : Nat) (hk : k < l.length) (h : ∀ j, j < k → (backF l j).2.name ≠ nm) (e : (backF l k).2.name = nm) : nameI l nm = (((backF l k).1 : Nat) : Int) := by
  unfold nameI
  rw [last_skip l nm k (by omega) h, show l.length - k = (l.length - 1 - k) + 1 by omega]
  conv => lhs; unfold nameTo
  have h2 : l.length - 1 - k < l.length := by omega
  unfold backF at e ⊢
  rw [List.getElem?_eq_getElem h2] at e ⊢
  rw [if_pos (by rw [← e]; rfl)]
end Ev
namespace Go.Proofs.YtpbflgemhcaooaaDoor
open Go.RowKit Go.Shelf
set_option linter.unusedSimpArgs false
set_option linter.unusedVariables false
attribute [local go_sem] Oper.semAt_some
def parV (p : Ev.Par) : Value := .agg #[.string ⟨p.name.toArray⟩, .bool p.secret, .int .i64 p.size]
/-- the variables l lie at b, off -/
def ParsAt (W : World) (b off : Nat) (l : List Ev.Par) : Prop := ∀ (j : Nat) p, l[j]? = some p → W.cell? ⟨b, off + j * 3, none⟩ = some (.string ⟨p.name.toArray⟩) ∧ W.cell? ⟨b, off + j * 3 + 1, none⟩ = some (.bool p.secret) ∧ W.cell? ⟨b, off + j * 3 + 2, none⟩ = some (.int .i64 p.size)
theorem ParsAt.below {n₀ : Nat} {A B : World} {b off : Nat} {l : List Ev.Par} (h : ParsAt A b off l) (k : Below n₀ A B) (hb : b < n₀) : ParsAt B b off l :=
  fun j p e => ⟨(k.cell (p := ⟨b, off + j * 3, none⟩) hb).trans (h j p e).1, (k.cell (p := ⟨b, off + j * 3 + 1, none⟩) hb).trans (h j p e).2.1, (k.cell (p := ⟨b, off + j * 3 + 2, none⟩) hb).trans (h j p e).2.2⟩
set_option maxRecDepth 100000 in
set_option maxHeartbeats 2000000 in
theorem back1_in (F : Fence) (n : Nat) (hf : F.fn 105) (hro : F.round = none) (hn : 1 ≤ n) (r Bs n₀ b off cap : Nat) (l : List Ev.Par) (hreach : l.length * 32 ≤ 140737488351232) (hb : b < n₀) (J Jx : List (Nat × Ev.Par) → World → Prop)
    (hY : ∀ pre x W, J pre W → pre.length < l.length → YieldAt F (n - 1) Tryd.prog r #[.int .i64 (x.1 : Int), parV x.2] W fun e W' =>
      (e = .returned (.bool true) ∧ J (pre ++ [x]) W' ∧ Below n₀ W W') ∨ (e = .returned (.bool false) ∧ Jx (pre ++ [x]) W'))
    (W : World) (hBs : W.cell? ⟨Bs, 0, none⟩ = some (.slice (some ⟨b, off, none⟩) l.length cap)) (hB2 : Bs < n₀) (hc : ParsAt W b off l) (h0 : J [] W) :
    CallsIn F n Tryd.prog 105 #[.func (.yield r) #[] #[], .pointer (some ⟨Bs, 0, none⟩)] W fun e W' => (∃ v, e = .returned v) ∧
      ((∃ ys, ys = Ev.uptoF (Ev.backF l) l.length ∧ J ys W') ∨ (∃ pre, (∃ k, k ≤ l.length ∧ pre = Ev.uptoF (Ev.backF l) k) ∧ Jx pre W')) := by
  refine callsIn_of_wp Tryd.func105 rfl hf ?_ hro
  simp only [Tryd.ntmps105, List.size_toArray, List.length_cons, List.length_nil, Nat.reduceAdd, Nat.reduceSub, Array.replicate_succ, Array.replicate_zero, List.push_toArray, List.append_toArray, List.nil_append, List.cons_append]
  gi_wp2
  gi_loopw [3] (fun i wr => ∃ m : Nat, m ≤ l.length ∧ i = .int .i64 ((m : Int) - 1) ∧ J (Ev.uptoF (Ev.backF l) (l.length - m)) wr ∧ Below n₀ W wr)
    (fun i _ => (intOf i + 1).toNat)
  case atStart => exact ⟨l.length, Nat.le_refl _, rfl, by rw [Nat.sub_self]; exact h0, Below.refl _ _⟩
  case round =>
    obtain ⟨m, hk, rfl, hJs, hnx⟩ := hrel
    have hbx := (hnx.cell (p := ⟨Bs, 0, none⟩) hB2).trans hBs
    rcases m with _ | m
    · rw [Nat.sub_zero] at hJs
      gi_wp2
      go_end0
      exact ⟨⟨_, rfl⟩, .inl ⟨_, rfl, hJs⟩⟩
    · have hm : m < l.length := by omega
      obtain ⟨x, hx⟩ : ∃ x, l[m]? = some x := ⟨_, List.getElem?_eq_getElem hm⟩
      have hbk : Ev.backF l (l.length - (m + 1)) = (m, x) := by
        unfold Ev.backF
        rw [show l.length - 1 - (l.length - (m + 1)) = m by omega, hx]
        rfl
      obtain ⟨c1, c2, c3⟩ := hc.below hnx hb m x hx
      obtain ⟨fn, tmps, assign, body, hy, hR⟩ := hY _ (m, x) wr hJs (by rw [Ev.uptoF_length]; omega)
      dsimp only [parV] at hy
      rw [show (((m + 1 : Nat) : Int) - 1) = (m : Int) by omega]
      have hup : Ev.uptoF (Ev.backF l) (l.length - (m + 1)) ++ [(m, x)] = Ev.uptoF (Ev.backF l) (l.length - m) := by
        rw [← hbk, ← Ev.uptoF_succ, show l.length - (m + 1) + 1 = l.length - m by omega]
      rw [hup] at hR
      clear hbk hx
      gi_wp2
      refine hR.mono ?_
      rintro e W3 (⟨rfl, hJ3, hk3⟩ | ⟨rfl, hJx3⟩)
      · gi_wp2
        go_roundw
        case rel => exact ⟨m, by omega, by simp, hJ3, hnx.trans hk3⟩
        case measure => simp [intOf]
      · gi_wp2
        refine bodyPost_ret (results_none rfl _ _ _) rfl ?_
        exact ⟨⟨_, rfl⟩, .inr ⟨_, ⟨l.length - m, by omega, rfl⟩, hJx3⟩⟩
set_option maxRecDepth 100000 in
set_option maxHeartbeats 1000000 in
theorem back1_nil_in (F : Fence) (n : Nat) (hf : F.fn 105) (hro : F.round = none) (r Bs cap : Nat) (A : Option Addr) (J : List (Nat × Ev.Par) → World → Prop) (W : World) (hBs : W.cell? ⟨Bs, 0, none⟩ = some (.slice A 0 cap)) (h0 : J [] W) :
    CallsIn F n Tryd.prog 105 #[.func (.yield r) #[] #[], .pointer (some ⟨Bs, 0, none⟩)] W fun e W' => (∃ v, e = .returned v) ∧ J [] W' := by
  refine callsIn_of_wp Tryd.func105 rfl hf ?_ hro
  simp only [Tryd.ntmps105, List.size_toArray, List.length_cons, List.length_nil, Nat.reduceAdd, Nat.reduceSub, Array.replicate_succ, Array.replicate_zero, List.push_toArray, List.append_toArray, List.nil_append, List.cons_append]
  gi_wp2
  gi_loopw [3] (fun i wr => i = .int .i64 (-1) ∧ J [] wr) (fun _ _ => 0)
  case atStart => exact ⟨rfl, h0⟩
  case round =>
    obtain ⟨rfl, hJs⟩ := hrel
    gi_wp2
    go_end0
    exact ⟨⟨_, rfl⟩, hJs⟩
set_option maxHeartbeats 1000000 in
theorem back_in (F : Fence) (n : Nat) (hf : F.fn 89) (hro : F.round = none) (a : Option Addr) (len cap : Nat) (w : World) :
    CallsIn F n Tryd.prog 89 #[.slice a len cap] w fun e w' => e = .returned (.func (.func 105) #[] #[.pointer (some ⟨w.heap.size, 0, none⟩)]) ∧ w' = w.alloc (.cells #[.slice a len cap] 22) := by
  refine callsIn_of_wp Tryd.func89 rfl hf ?_ hro
  simp only [Tryd.ntmps89, List.size_toArray, List.length_cons, List.length_nil, Nat.reduceAdd, Nat.reduceSub, Array.replicate_succ, Array.replicate_zero, List.push_toArray, List.append_toArray, List.nil_append, List.cons_append]
  gi_wp2
  go_ret
  exact ⟨rfl, rfl⟩
theorem back_stops (F : Fence) (n : Nat) (hf : F.fn 105) (hro : F.round = none) (hn : 1 ≤ n) (Bs n₀ : Nat) (A : Option Addr) (cap : Nat) (l : List Ev.Par) (hreach : l.length * 32 ≤ 140737488351232) (w : World) (hBs : Bs < n₀) (hn₀ : n₀ ≤ w.heap.size)
    (hc : w.cell? ⟨Bs, 0, none⟩ = some (.slice A l.length cap)) (hI : l = [] ∨ ∃ b off, A = some ⟨b, off, none⟩ ∧ b < n₀ ∧ ParsAt w b off l) :
    SeqStopsK F n Tryd.prog 105 #[.pointer (some ⟨Bs, 0, none⟩)] (fun x : Nat × Ev.Par => #[Value.int .i64 (x.1 : Int), parV x.2]) (Below n₀) (fun ys => ys = Ev.uptoF (Ev.backF l) l.length)
      (fun pre => ∃ k, k ≤ l.length ∧ pre = Ev.uptoF (Ev.backF l) k) l.length w := fun r J Jx W hW _ _ hY h0 => by
  have hc' := (hW.cell (p := ⟨Bs, 0, none⟩) (by show Bs < w.heap.size; omega)).trans hc
  rcases hI with rfl | ⟨b, off, rfl, hb, hcs⟩
  · exact (back1_nil_in F n hf hro r Bs cap A J W hc' h0).mono fun e W' ⟨he, hj⟩ => ⟨he, .inl ⟨_, rfl, hj⟩⟩
  · exact back1_in F n hf hro hn r Bs n₀ b off cap l hreach hb J Jx hY W hc' hBs (hcs.below hW (by omega)) h0
end Go.Proofs.YtpbflgemhcaooaaDoor
/- label.find: a name's place, the last one first. -/
namespace Go.Proofs.YtpbflgemhcaooaaDoor
open Go.RowKit Go.Shelf
set_option linter.unusedSimpArgs false
set_option linter.unusedVariables false
attribute [local go_sem] Oper.semAt_some
/-- a variable in a box -/
def PBox (W : World) (B : Nat) (p : Ev.Par) : Prop := W.heap[B]? = some (.cells #[.string ⟨p.name.toArray⟩, .bool p.secret, .int .i64 p.size] 35 (0, 0))
theorem pbox_own (B : Nat) (p : Ev.Par) : Own (fun (_ : Unit) W => PBox W B p) := fun s X Y row hs hg hrow =>
  (hg.block B (Array.getElem?_eq_some_iff.1 hs).1 (fun e' => by obtain ⟨o, ho, hc⟩ := hrow B e'.symm; rw [show X.heap[B]? = _ from hs] at ho; cases ho; cases hc)).trans hs
set_option maxRecDepth 100000 in
set_option maxHeartbeats 4000000 in
theorem find_in (F : Fence) (n : Nat) (h1 : F.fn 57) (h2 : F.fn 89) (h3 : F.fn 105) (hro : F.round = none) (hn : 3 ≤ n) (A : Option Addr) (cap : Nat) (l : List Ev.Par) (hreach : l.length * 32 ≤ 140737488351232) (nm : List UInt8) (w : World) (hI : l = [] ∨ ∃ b off, A = some ⟨b, off, none⟩ ∧ b < w.heap.size ∧ ParsAt w b off l) :
    CallsIn F n Tryd.prog 57 #[.slice A l.length cap, .string ⟨(nm).toArray⟩] w fun e W' => e = .returned (.int .i64 (Ev.nameI l nm)) ∧ Below w.heap.size w W' := by
  have hn1 : 1 ≤ n := by omega
  refine callsIn_of_wp_marks Tryd.func57 rfl h1 ?_ hro
  simp only [Tryd.ntmps57, List.size_toArray, List.length_cons, List.length_nil, Nat.reduceAdd, Nat.reduceSub, Array.replicate_succ, Array.replicate_zero, List.push_toArray, List.append_toArray, List.nil_append, List.cons_append]
  gi_wp2_with (gi_at_call 89; refine (back_in F (n - 1) h2 hro _ _ _ _).mono ?_; rintro e w' ⟨rfl, rfl⟩)
  have bM := ((Boxed.new w 9 (.string ⟨(nm).toArray⟩)).alloc (.cells #[.int .i64 0] 3)).alloc (.cells #[.slice A l.length cap] 22)
  have bR := (Boxed.new (w.alloc (.cells #[.string ⟨(nm).toArray⟩] 9)) 3 (.int .i64 0)).alloc (.cells #[.slice A l.length cap] 22)
  have bS := Boxed.new ((w.alloc (.cells #[.string ⟨(nm).toArray⟩] 9)).alloc (.cells #[.int .i64 0] 3)) 22 (.slice A l.length cap)
  simp only [World.size_alloc] at bR bS
  have hB0 : Below w.heap.size w (((w.alloc (.cells #[.string ⟨(nm).toArray⟩] 9)).alloc (.cells #[.int .i64 0] 3)).alloc (.cells #[.slice A l.length cap] 22)) := (((Below.refl _ w).alloc (Nat.le_refl _) _).alloc (by simp) _).alloc (by simp; omega) _
  have hsz : (((w.alloc (.cells #[.string ⟨(nm).toArray⟩] 9)).alloc (.cells #[.int .i64 0] 3)).alloc (.cells #[.slice A l.length cap] 22)).heap.size = w.heap.size + 3 := by simp
  obtain ⟨W0, hW0⟩ : ∃ W0, ((w.alloc (.cells #[.string ⟨(nm).toArray⟩] 9)).alloc (.cells #[.int .i64 0] 3)).alloc (.cells #[.slice A l.length cap] 22) = W0 := ⟨_, rfl⟩
  rw [hW0] at bM bR bS hB0 hsz ⊢
  clear hW0
  refine wpIn_rangeFunc_ownH hro hn1 (gf := 105) (lb := #[.pointer (some ⟨w.heap.size + 1 + 1, 0, none⟩)]) rfl h3 (enters_of Tryd.func105 (by kernel_rfl) rfl)
    (back_stops F (n - 1) h3 hro (by omega) (w.heap.size + 1 + 1) (w.heap.size + 3) A cap l hreach W0 (by omega) (by omega) bS.cell (hI.imp id (fun ⟨b, off, e, hb, hp⟩ => ⟨b, off, e, by omega, hp.below hB0 hb⟩))) belowK_t (belowK_b (by omega)) (Below.refl _ _) (fun _ => rfl)
    (fun pre W => (((∀ p ∈ pre, p.2.name ≠ nm) ∧ Boxed W w.heap.size 9 (.string ⟨(nm).toArray⟩)) ∧ Boxed W (w.heap.size + 1) 3 (.int .i64 0) ∧ Boxed W (w.heap.size + 1 + 1) 22 (.slice A l.length cap)) ∧ Below w.heap.size w W)
    (fun c pre W => (c = .ret ∧ ∃ ini last, pre = ini ++ [last] ∧ (∀ p ∈ ini, p.2.name ≠ nm) ∧ last.2.name = nm ∧ Boxed W (w.heap.size + 1) 3 (.int .i64 (last.1 : Int))) ∧ Below w.heap.size w W)
    (OwnFrom.and (OwnFrom.and (OwnFrom.and (fun s W W' row hs hg hr => hs) (Own.from (boxed_own _ _ (fun _ => (.string ⟨(nm).toArray⟩ : Value))) _)) (OwnFrom.and (Own.from (boxed_own _ _ (fun _ => (Value.int .i64 0 : Value))) _) (Own.from (boxed_own _ _ (fun _ => (Value.slice A l.length cap : Value))) _))) (ownFrom_below (Nat.le_refl _) (by omega)))
    (fun c => OwnFrom.and (Own.from (fun s X Y row hs hg hr => by obtain ⟨hc, ini, last, e1, e2, e3, e4⟩ := hs; exact ⟨hc, ini, last, e1, e2, e3, boxed_own (w.heap.size + 1) 3 (fun (_ : Unit) => Value.int .i64 (last.1 : Int)) () X Y row e4 hg hr⟩) _) (ownFrom_below (Nat.le_refl _) (by omega)))
    ⟨⟨⟨by simp, bM⟩, bR, bS⟩, hB0⟩
    (fun x a' W => ∃ Bx, w.heap.size + 1 + 1 < Bx ∧ PBox W Bx x.2 ∧ a' = { tmps := #[.slice A l.length cap, .string ⟨(nm).toArray⟩, undef, .pointer (some ⟨w.heap.size, 0, none⟩), .pointer (some ⟨w.heap.size + 1, 0, none⟩), .int .i64 (x.1 : Int), .pointer (some ⟨Bx, 0, none⟩), .slice A l.length cap, .func (.func 105) #[] #[.pointer (some ⟨w.heap.size + 1 + 1, 0, none⟩)], .int .i64 (x.1 : Int), parV x.2, undef, undef, undef, undef, undef], defers := [] })
    (fun x a' _ X Y row hs hg hr => by obtain ⟨Bx, e1, e2, e3⟩ := hs; exact ⟨Bx, e1, pbox_own Bx x.2 () X Y row e2 hg (fun r e => (hr r e).2), e3⟩)
    ?assign ?body ?done ?stop
  case assign =>
    rintro r pre x W K ⟨⟨⟨hp, bM1⟩, bR1, bS1⟩, hB1⟩ hK
    unfold parV at hK ⊢
    gi_wp2
    have hlt := bS1.lt
    exact hK _ _ ((KeepsOthers.alloc _ _).from _) ((Below.refl _ W).alloc (by omega) _) ⟨⟨⟨hp, bM1.alloc _⟩, bR1.alloc _, bS1.alloc _⟩, hB1.alloc hB1.size _⟩ ⟨W.heap.size, by omega, heap_alloc_new W _, rfl⟩
  case body =>
    rintro r pre x a' W hl ⟨r', hr⟩ ⟨⟨⟨hp, bM1⟩, bR1, bS1⟩, hB1⟩ ⟨Bx, hBx, bX, rfl⟩ hlt
    have cM := bM1.cell
    have cR := bR1.cell
    have fR := bR1.frozen
    have cX : W.cell? ⟨Bx, 0, none⟩ = some (.string ⟨x.2.name.toArray⟩) := cell_of_block bX 0
    by_cases hx : x.2.name = nm
    · rw [hx] at cX
      gi_wp2
      exact ⟨(KeepsOthers.setCell _ _ _).from _, ⟨rfl, pre, x, rfl, hp, hx, bR1.set _⟩, hB1.setCell (p := ⟨w.heap.size + 1, 0, none⟩) (by simp) _⟩
    · have gx : (x.2.name == nm) = false := beq_eq_false_iff_ne.2 hx
      gi_wp2
      exact ⟨KeepsFrom.refl _ _, Below.refl _ _, ⟨⟨fun p hp' => (List.mem_append.1 hp').elim (hp p) (fun e => by simp at e; subst e; exact hx), bM1⟩, bR1, bS1⟩, hB1⟩
  case done =>
    rintro D ys W hD rfl ⟨⟨⟨hp, bM1⟩, bR1, bS1⟩, hB1⟩ hK
    have cR := bR1.cell
    have fR := bR1.frozen
    gi_wp2
    have hK' := (KeepsOthers.setCell W ⟨w.heap.size + 1, 0, none⟩ (.int .i64 (-1))).same D _ hK rfl
    refine ⟨by simp, .inl ⟨_, _, rfl, run_takeDeferred hK', ?_⟩⟩
    have hc5 := cell_kept (World.cell?_setCell_same' W ⟨w.heap.size + 1, 0, none⟩ (.int .i64 (-1)) (by rw [cR]; rfl)) (grownBy_putObj' _ D (.deferred none)) (fun r e => by cases e; exact ⟨_, hK', rfl⟩)
    refine ⟨.int .i64 (-1), ?_, by rw [Ev.last_none l nm (fun j hj => hp _ (by simp only [Ev.uptoF, List.mem_map, List.mem_range]; exact ⟨j, hj, rfl⟩))], (hB1.setCell (p := ⟨w.heap.size + 1, 0, none⟩) (by simp) _).trans (belowK_b (w := w) (Nat.le_refl _) _ D _ _ (by omega) hK' rfl rfl)⟩
    simp [results, Tryd.f57, go_sem, hc5]
  case stop =>
    rintro D c pre W hD ⟨k, hk, rfl⟩ ⟨⟨rfl, ini, last, e1, e2, e3, bR1⟩, hB1⟩ hK
    have cR := bR1.cell
    gi_wp2
    refine ⟨by simp, .inl ⟨_, _, rfl, run_takeDeferred hK, ?_⟩⟩
    have hc5 := cell_kept cR (grownBy_putObj' _ D (.deferred none)) (fun r e => by cases e; exact ⟨_, hK, rfl⟩)
    obtain ⟨k', rfl⟩ : ∃ k', k = k' + 1 := by
      cases k with
      | zero => simp [Ev.uptoF] at e1
      | succ k' => exact ⟨k', rfl⟩
    rw [Ev.uptoF_succ] at e1
    obtain ⟨rfl, e5⟩ := List.append_inj' e1 rfl
    obtain rfl : Ev.backF l k' = last := by simpa using e5
    refine ⟨.int .i64 ((Ev.backF l k').1 : Int), ?_, by rw [Ev.last_some l nm k' (by omega) (fun j hj => e2 _ (by simp only [Ev.uptoF, List.mem_map, List.mem_range]; exact ⟨j, hj, rfl⟩)) e3], hB1.trans (belowK_b (w := w) (Nat.le_refl _) W D _ _ (by omega) hK rfl rfl)⟩
    simp [results, Tryd.f57, go_sem, hc5]
theorem RPars.at_ {w : World} {A : Option Addr} {len cap : Nat} {l : List Ev.Par} (h : RPars w (.slice A len cap) l) : len = l.length ∧ (l = [] ∨ ∃ b off, A = some ⟨b, off, none⟩ ∧ b < w.heap.size ∧ ParsAt w b off l) := by
  have hf := SL.form h
  obtain ⟨A', c', e, _, _⟩ := hf
  injection e with e1 e2 e3
  subst e2
  refine ⟨rfl, ?_⟩
  by_cases hl : l = []
  · exact .inl hl
  · right
    obtain ⟨b, o, c, e, hb, h1, h2, hc⟩ := SL.row h (by have := List.length_pos_iff.2 hl; omega)
    injection e with e4 _ _
    subst e4
    refine ⟨b, o, rfl, hb, fun j p hp => ?_⟩
    have hj := fun i u (hu : (cellsP p)[i]? = some u) => hc (j * 3 + i) u (flatMap_at cellsP (fun _ => rfl) l j _ i u hp hu)
    simp only [← Nat.add_assoc] at hj
    exact ⟨hj 0 _ rfl, hj 1 _ rfl, hj 2 _ rfl⟩
/-- label.find -/
theorem find_any (l : List Ev.Par) (v : Value) (nm : List UInt8) (w : World) (h : RPars w v l) (hreach : l.length * 32 ≤ 140737488351232) :
    Calls Tryd.prog 57 #[v, .string ⟨(nm).toArray⟩] w fun e W' => e = .returned (.int .i64 (Ev.nameI l nm)) ∧ Below w.heap.size w W' := by
  obtain ⟨A, c, rfl, _, _⟩ := SL.form h
  exact callsIn_wide.1 (find_in Fence.wide 3 trivial trivial trivial rfl (Nat.le_refl _) A c l hreach nm w (RPars.at_ h).2)
end Go.Proofs.YtpbflgemhcaooaaDoor
/- label.looker: is an expression secret. -/
namespace Ev
theorem find_cases (l : List Par) (n : List UInt8) : (nameI l n < 0 ∧ findP l n = none) ∨ ∃ (m : Nat) (p : Par), nameI l n = (m : Int) ∧ l[m]? = some p ∧ findP l n = some p := by
  by_cases h : nameI l n < 0
  · exact .inl ⟨h, findP_none h⟩
  · obtain ⟨p, e1, e2⟩ := findP_some (l := l) (n := n) (by omega)
    exact .inr ⟨(nameI l n).toNat, p, by omega, e2, e1⟩
end Ev
namespace Go.Proofs.YtpbflgemhcaooaaDoor
open Go.RowKit
set_option linter.unusedSimpArgs false
set_option linter.unusedVariables false
/-- an expression stands at b, o; its arguments are the slice va -/
structure XAt (w : World) (b o : Nat) (e : Ev.Ex) (va : Value) : Prop where
  lt : b < w.heap.size
  c0 : w.cell? ⟨b, o, none⟩ = some (.int .i64 e.kind)
  c1 : w.cell? ⟨b, o + 1, none⟩ = some (.int .i64 e.n)
  c2 : w.cell? ⟨b, o + 2, none⟩ = some (.string ⟨e.name.toArray⟩)
  c3 : w.cell? ⟨b, o + 3, none⟩ = some va
theorem XAt.on {w w' : World} {b o : Nat} {e : Ev.Ex} {va : Value} (h : XAt w b o e va) (hb : Below w.heap.size w w') : XAt w' b o e va :=
  ⟨Nat.lt_of_lt_of_le h.lt hb.size, (hb.cell (p := ⟨b, o, none⟩) h.lt).trans h.c0, (hb.cell (p := ⟨b, o + 1, none⟩) h.lt).trans h.c1, (hb.cell (p := ⟨b, o + 2, none⟩) h.lt).trans h.c2, (hb.cell (p := ⟨b, o + 3, none⟩) h.lt).trans h.c3⟩
/-- the looker's block -/
structure LkAt (w : World) (kb : Nat) (A : List Ev.Par) (va : Value) (k : Ev.LK) : Prop where
  r : w.heap[kb]? = some (.cells #[va, .int .i64 k.work, .int .i64 k.lets] 94 (0, 0))
  a : RPars w va A
theorem RPars.on {w w' : World} {v : Value} {l : List Ev.Par} (h : RPars w v l) (hb : Below w.heap.size w w') : RPars w' v l := (SL.below h hb).more hb.size
theorem LkAt.lt {w : World} {kb : Nat} {A : List Ev.Par} {va : Value} {k : Ev.LK} (h : LkAt w kb A va k) : kb < w.heap.size := (Array.getElem?_eq_some_iff.1 h.r).1
theorem LkAt.on {w w' : World} {kb : Nat} {A : List Ev.Par} {va : Value} {k : Ev.LK} (h : LkAt w kb A va k) (hb : Below w.heap.size w w') : LkAt w' kb A va k :=
  ⟨(hb.block kb h.lt).trans h.r, h.a.on hb⟩
theorem LkAt.cell {w : World} {kb : Nat} {A : List Ev.Par} {va : Value} {k : Ev.LK} (h : LkAt w kb A va k) (j : Nat) : w.cell? ⟨kb, j, none⟩ = #[va, .int .i64 k.work, .int .i64 k.lets][j]? := cell_of_block h.r j
set_option maxRecDepth 6000 in
set_option maxHeartbeats 3200000 in
theorem lkAt_any (A : List Ev.Par) (hA : A.length * 32 ≤ 140737488351232) (va : Value) (k : Ev.LK) (kb : Nat) (nm : List UInt8) (b o : Nat) (e : Ev.Ex) (vx : Value) (secret dark : Bool) (w : World) (hk : LkAt w kb A va k) (hx : XAt w b o e vx) :
    Calls Tryd.prog 107 #[.pointer (some ⟨kb, 0, none⟩), .string ⟨(nm).toArray⟩, .pointer (some ⟨b, o, none⟩), .bool secret, .bool dark] w fun r w' => r = .returned (.tuple #[.bool (Ev.plC A nm e secret dark).1, .int .i64 (Ev.plC A nm e secret dark).2]) ∧ Below w.heap.size w w' := by
  have HK := Lib.hid hk
  have HX := Lib.hid hx
  obtain ⟨R, hR⟩ : ∃ R, Ev.plC A nm e secret dark = R := ⟨_, rfl⟩
  rw [hR]
  have HP := Lib.hid hR
  clear hR
  unfold Ev.plC at HP
  obtain ⟨a, c, rfl, _, hcm⟩ := SL.form hk.a
  have k0 : w.cell? ⟨kb, 0, none⟩ = some (.slice a A.length c) := hk.cell 0
  have klt := hk.lt
  have CF := Lib.hid (find_any A (.slice a A.length c) nm w hk.a hA)
  clear hk hx
  go_enter Tryd.func107, Tryd.ntmps107
  rcases Ev.find_cases A nm with ⟨hn, hf⟩ | ⟨m, p, hn, hp, hf⟩
  case inl =>
    rw [hf] at HP
    have g0 : decide (Ev.nameI A nm < 0) = true := decide_eq_true hn
    go_wp2_with (go_at_call 57; refine CF.out.mono ?_; rintro r w1 ⟨rfl, hb1⟩)
    go_ret2
    exact ⟨by rw [← HP.out]; rfl, hb1⟩
  case inr =>
  rw [hf] at HP
  rw [hn] at CF
  clear hn hf
  have HPP := Lib.hid hp
  have hml := (List.getElem?_eq_some_iff.1 hp).1
  clear hp
  dsimp only at HP
  cases secret with
  | true =>
    go_wp2_with (go_at_call 57; refine CF.out.mono ?_; rintro r w1 ⟨rfl, hb1⟩)
    go_ret2
    exact ⟨by rw [← HP.out]; rfl, hb1⟩
  | false =>
  rw [if_neg (by decide)] at HP
  obtain ⟨ba, oa, hA2⟩ : ∃ ba oa, a = some ⟨ba, oa, none⟩ ∧ ba < w.heap.size ∧ ParsAt w ba oa A := by
    rcases (RPars.at_ HK.out.a).2 with h | h
    · rw [h] at hml; simp at hml
    · exact h
  obtain ⟨rfl, hal, hpa⟩ := hA2
  obtain ⟨_, p1, p2⟩ := hpa m p HPP.out
  have HX1 := Lib.hid HX.out.c0
  go_upto_region 2 with (go_at_call 57; refine CF.out.mono ?_; rintro r w1 ⟨rfl, hb1⟩)
  have k0' : w1.cell? ⟨kb, 0, none⟩ = _ := (hb1.cell (p := ⟨kb, 0, none⟩) klt).trans k0
  have p1' : w1.cell? ⟨ba, oa + m * 3 + 1, none⟩ = _ := (hb1.cell (p := ⟨ba, oa + m * 3 + 1, none⟩) hal).trans p1
  have p2' : w1.cell? ⟨ba, oa + m * 3 + 2, none⟩ = _ := (hb1.cell (p := ⟨ba, oa + m * 3 + 2, none⟩) hal).trans p2
  have e0 : w1.cell? ⟨b, o, none⟩ = _ := (hb1.cell (p := ⟨b, o, none⟩) HX.out.lt).trans HX.out.c0
  have e1 : w1.cell? ⟨b, o + 1, none⟩ = _ := (hb1.cell (p := ⟨b, o + 1, none⟩) HX.out.lt).trans HX.out.c1
  have hsz := hb1.size
  have zk : kb < w1.heap.size := by omega
  have za : ba < w1.heap.size := by omega
  have zb : b < w1.heap.size := by have := HX.out.lt; omega
  clear k0 p1 p2 HX1 CF hpa
  cases dark with
  | false =>
    rw [if_neg (by simp)] at HP
    go_wp2_with fail
    go_quiet (fail)
    go_wp2_with fail
    go_ret2
    exact ⟨by rw [← HP.out]; rfl, by (repeat' first | with_reducible (first | exact Below.refl _ _ | assumption | refine Below.alloc ?_ ?_ _ | refine below_drewN ?_ _ | refine Below.drew ?_ | refine Below.setCell ?_ ?_ _ | refine Below.trans ?_ (Below.mono (by with_reducible assumption) ?_)) | go_size)⟩
  | true =>
  by_cases hkind : e.kind = 1
  case neg =>
    have g1 : (e.kind != 1) = true := bne_iff_ne.2 hkind
    rw [if_pos ⟨rfl, .inl hkind⟩] at HP
    go_wp2_with fail
    go_quiet (fail)
    go_wp2_with fail
    go_ret2
    exact ⟨by rw [← HP.out]; rfl, by (repeat' first | with_reducible (first | exact Below.refl _ _ | assumption | refine Below.alloc ?_ ?_ _ | refine below_drewN ?_ _ | refine Below.drew ?_ | refine Below.setCell ?_ ?_ _ | refine Below.trans ?_ (Below.mono (by with_reducible assumption) ?_)) | go_size)⟩
  case pos =>
  have g1 : (e.kind != 1) = false := by rw [hkind]; rfl
  by_cases hnn : p.size ≤ e.n
  case pos =>
    have g2 : decide (p.size ≤ e.n) = true := decide_eq_true hnn
    rw [if_pos ⟨rfl, .inr hnn⟩] at HP
    go_wp2_with fail
    go_quiet (fail)
    go_wp2_with fail
    go_ret2
    exact ⟨by rw [← HP.out]; rfl, by (repeat' first | with_reducible (first | exact Below.refl _ _ | assumption | refine Below.alloc ?_ ?_ _ | refine below_drewN ?_ _ | refine Below.drew ?_ | refine Below.setCell ?_ ?_ _ | refine Below.trans ?_ (Below.mono (by with_reducible assumption) ?_)) | go_size)⟩
  case neg =>
    have g2 : decide (p.size ≤ e.n) = false := decide_eq_false hnn
    rw [if_neg (fun h => h.2.elim (fun h => h hkind) hnn)] at HP
    go_wp2_with fail
    go_quiet (fail)
    go_wp2_with fail
    go_ret2
    exact ⟨by rw [← HP.out]; rfl, by (repeat' first | with_reducible (first | exact Below.refl _ _ | assumption | refine Below.alloc ?_ ?_ _ | refine below_drewN ?_ _ | refine Below.drew ?_ | refine Below.setCell ?_ ?_ _ | refine Below.trans ?_ (Below.mono (by with_reducible assumption) ?_)) | go_size)⟩
end Go.Proofs.YtpbflgemhcaooaaDoor
/- label.looker: is an expression secret. -/
namespace Ev
theorem wf_args {e : Ex} (h : WfE e) : (∀ a ∈ e.args, WfE a) ∧ (e.kind = 5 → ∃ a, e.args = [a]) ∧ e.args.length ≤ 3 := by
  cases h with
  | num n h1 h2 => exact ⟨fun a ha => (by cases ha), fun h => (by cases h), Nat.zero_le _⟩
  | name s h1 => exact ⟨fun a ha => (by cases ha), fun h => (by cases h), Nat.zero_le _⟩
  | op n a b h1 h2 h3 h4 =>
    refine ⟨fun x hx => ?_, fun h => (by cases h), by show 2 ≤ 3; decide⟩
    simp only [Ex.args, List.mem_cons, List.not_mem_nil, or_false] at hx
    rcases hx with rfl | rfl
    · exact h3
    · exact h4
  | sel a b c h1 h2 h3 =>
    refine ⟨fun x hx => ?_, fun h => (by cases h), by show 3 ≤ 3; decide⟩
    simp only [Ex.args, List.mem_cons, List.not_mem_nil, or_false] at hx
    rcases hx with rfl | rfl | rfl
    · exact h1
    · exact h2
    · exact h3
  | «at» s a h1 h2 =>
    refine ⟨fun x hx => ?_, fun h => ⟨a, rfl⟩, by show 1 ≤ 3; decide⟩
    simp only [Ex.args, List.mem_cons, List.not_mem_nil, or_false] at hx
    subst hx
    exact h2
end Ev
namespace Go.Proofs.YtpbflgemhcaooaaDoor
open Go.RowKit
set_option linter.unusedSimpArgs false
set_option linter.unusedVariables false
theorem exCells_at : ∀ (l : List Ev.Ex) (vs : List Value) (j : Nat) (e : Ev.Ex) (vx : Value) (i : Nat) (u : Value), vs.length = l.length → l[j]? = some e → vs[j]? = some vx → (ex4 e vx)[i]? = some u → (exCells l vs)[j * 4 + i]? = some u
  | [], _, j, e, vx, i, u, _, h, _, _ => by simp at h
  | _ :: _, [], j, e, vx, i, u, h, _, _, _ => by simp at h
  | x :: l, y :: vs, 0, e, vx, i, u, hl, h1, h2, h3 => by
    simp at h1 h2
    subst h1 h2
    have hi := (List.getElem?_eq_some_iff.1 h3).1
    unfold exCells
    rw [Nat.zero_mul, Nat.zero_add, List.getElem?_append_left hi]
    exact h3
  | x :: l, y :: vs, j + 1, e, vx, i, u, hl, h1, h2, h3 => by
    have := exCells_at l vs j e vx i u (by simpa using hl) (by simpa using h1) (by simpa using h2) h3
    unfold exCells
    rw [List.getElem?_append_right (by show 4 ≤ _; omega)]
    rw [show (j + 1) * 4 + i - (ex4 x y).length = j * 4 + i by show (j + 1) * 4 + i - 4 = _; omega]
    exact this
theorem RExL.el {d : Nat} {w : World} {K : Nat → Prop} {va : Value} {l : List Ev.Ex} {j : Nat} {e : Ev.Ex} (h : RExL d w K va l) (hj : l[j]? = some e) : ∃ (d' : Nat) (b off c : Nat) (vx : Value), d = d' + 1 ∧ va = .slice (some ⟨b, off, none⟩) l.length c ∧ XAt w b (off + j * 4) e vx ∧ RExL d' w K vx e.args := by
  cases d with
  | zero => obtain ⟨rfl, rfl⟩ := h; simp at hj
  | succ d =>
    obtain ⟨vs, h1, h2, h3, h4⟩ := h
    have hlt := (List.getElem?_eq_some_iff.1 hj).1
    have hv : vs[j]? = some (vs[j]'(by omega)) := List.getElem?_eq_getElem _
    obtain ⟨b, o, c, e1, hb, _, _, hc⟩ := SL.row h2 (by omega)
    have hk := fun i u (hu : (ex4 e (vs[j]'(by omega)))[i]? = some u) => hc (j * 4 + i) u (exCells_at l vs j e _ i u h1 hj hv hu)
    simp only [← Nat.add_assoc] at hk
    exact ⟨d, b, o, c, _, rfl, e1, ⟨hb, hk 0 _ rfl, hk 1 _ rfl, hk 2 _ rfl, hk 3 _ rfl⟩, h4 j e _ hj hv⟩
theorem RExL.on {d : Nat} {w w' : World} {K : Nat → Prop} {v : Value} {l : List Ev.Ex} (h : RExL d w K v l) (hb : Below w.heap.size w w') : RExL d w' K v l := RExL.keep hb.size (fun k _ hk => hb.block k hk) d v l h
theorem RExL.form {d : Nat} {w : World} {K : Nat → Prop} {v : Value} {l : List Ev.Ex} (h : RExL d w K v l) : ∃ A c, v = .slice A l.length c := by
  cases d with
  | zero => obtain ⟨rfl, rfl⟩ := h; exact ⟨_, _, rfl⟩
  | succ d => obtain ⟨_, _, h2, _⟩ := h; obtain ⟨A, c, e, _⟩ := SL.form h2; exact ⟨A, c, e⟩
theorem slice_two {a a' : Option Addr} {n n' c c' : Nat} (h : Value.slice a n c = .slice a' n' c') : a = a' ∧ c = c' := by
  injection h with h1 _ h2
  exact ⟨h1, h2⟩
abbrev fewP (l : List Ev.Par) : Prop := l.length * 32 ≤ 140737488351232
def LExDo (d : Nat) : Prop := ∀ (e : Ev.Ex) (A l : List Ev.Par) (va vl vx : Value) (k : Ev.LK) (kb b o : Nat) (dark : Bool) (w : World) (K : Nat → Prop), fewP A → fewP l → LkAt w kb A va k → RPars w vl l → XAt w b o e vx → RExL d w K vx e.args → Ev.WfE e →
  Calls Tryd.prog 106 #[.pointer (some ⟨kb, 0, none⟩), .pointer (some ⟨b, o, none⟩), vl, .bool dark] w fun r w' => r = .returned (.tuple #[.bool (Ev.exC A l dark e).1, .int .i64 (Ev.exC A l dark e).2]) ∧ Below w.heap.size w w'
set_option maxRecDepth 6000 in
set_option maxHeartbeats 3200000 in
theorem lookX (d : Nat) (ih : ∀ d', d = d' + 1 → LExDo d') : LExDo d := by
  intro e A l va vl vx k kb b o dark w K fA fl hk hl hx hr hw
  have HK := Lib.hid hk
  have HL := Lib.hid hl
  have HX := Lib.hid hx
  have HR := Lib.hid hr
  have HW := Lib.hid (Ev.wf_args hw)
  obtain ⟨a, c, rfl⟩ := hr.form
  have hlen3 : e.args.length ≤ 3 := HW.out.2.2
  obtain ⟨R, hR⟩ : ∃ R, Ev.exC A l dark e = R := ⟨_, rfl⟩
  rw [hR]
  have HE := Lib.hid ((Ev.exC_eq A l dark e).symm.trans hR)
  have FA := Lib.hid fA
  have FL := Lib.hid fl
  clear hR hk hl hx hr hw fA fl
  obtain ⟨la, lc, rfl, _, _⟩ := SL.form HL.out
  have b3 := HX.out.c3
  have blt := HX.out.lt
  go_enter Tryd.func106, Tryd.ntmps106
  go_upto_region 3 with fail
  go_loopw [20, 10] (fun ii ss wr => ∃ (i : Nat) (s : Bool), i ≤ e.args.length ∧ ii = .int .i64 (i : Int) ∧ ss = .bool s ∧ Hid (Ev.exsC A l dark e.args false = Ev.exsC A l dark (e.args.drop i) s) ∧ Below w.heap.size w wr) (fun ii _ _ => e.args.length - (intOf ii).toNat)
  case atStart => exact ⟨0, false, by omega, rfl, rfl, Lib.hid (by rw [List.drop_zero]), by (repeat' first | with_reducible (first | exact Below.refl _ _ | assumption | refine Below.alloc ?_ ?_ _ | refine below_drewN ?_ _ | refine Below.drew ?_ | refine Below.setCell ?_ ?_ _ | refine Below.trans ?_ (Below.mono (by with_reducible assumption) ?_)) | go_size)⟩
  case round =>
  obtain ⟨i, s, hi, rfl, rfl, HS, hbr⟩ := hrel
  have b3r := (hbr.cell (p := ⟨b, o + 3, none⟩) blt).trans b3
  have bltr : b < wr.heap.size := Nat.lt_of_lt_of_le blt hbr.size
  by_cases hlt : i < e.args.length
  case pos =>
    obtain ⟨x, hx⟩ : ∃ x, e.args[i]? = some x := ⟨_, List.getElem?_eq_getElem hlt⟩
    obtain ⟨d', b', off, c', vx, hd, hva, hxa, hxr⟩ := HR.out.el hx
    obtain ⟨h1, h2⟩ := slice_two hva
    clear hva
    subst h1 h2
    have hdr : e.args.drop i = x :: e.args.drop (i + 1) := by
      rw [List.getElem?_eq_getElem hlt] at hx
      injection hx with hx
      rw [← hx]
      exact List.drop_eq_getElem_cons hlt
    have HS2 := Lib.hid (HS.out.trans (by rw [hdr, Ev.exsC_cons]))
    have CI := Lib.hid (ih d' hd x A l va (.slice la l.length lc) vx k kb b' (off + i * 4) dark wr K FA.out FL.out (HK.out.on hbr) (HL.out.on hbr) (hxa.on hbr) (hxr.on hbr) (HW.out.1 x (List.mem_of_getElem? hx)))
    obtain ⟨RX, hRX⟩ : ∃ RX, Ev.exC A l dark x = RX := ⟨_, rfl⟩
    rw [hRX] at CI HS2
    clear hx hxa hxr hdr HS hRX hd
    go_upto_region 6 with (go_at_call 106; refine CI.out.mono ?_; rintro r w5 ⟨rfl, hb5⟩)
    by_cases h0 : RX.2 = 0
    case neg =>
      have g0 : (RX.2 != 0) = true := bne_iff_ne.2 h0
      have HF := Lib.hid (show (false, RX.2) = R by
        rw [← HE.out, HS2.out, if_pos h0, if_pos h0])
      clear h0
      go_wp2_with fail
      go_ret2
      exact ⟨by rw [← HF.out]; rfl, hbr.trans (hb5.mono hbr.size)⟩
    case pos =>
      have g0 : (RX.2 != 0) = false := by rw [h0]; rfl
      have HF := Lib.hid (show Ev.exsC A l dark e.args false = Ev.exsC A l dark (e.args.drop (i + 1)) (s || RX.1) by
        rw [HS2.out, if_neg (by simp [h0])])
      clear h0
      obtain ⟨sx, hsx⟩ : ∃ sx, RX.1 = sx := ⟨_, rfl⟩
      rw [hsx] at HF ⊢
      clear hsx
      cases s with
      | true =>
        go_wp2_with fail
        go_roundw
        case rel => exact ⟨i + 1, true, by omega, by go_num, rfl, Lib.hid HF.out, hbr.trans (hb5.mono hbr.size)⟩
        case measure => simp [intOf]; omega
      | false =>
        go_wp2_with fail
        go_roundw
        case rel => exact ⟨i + 1, sx, by omega, by go_num, rfl, Lib.hid HF.out, hbr.trans (hb5.mono hbr.size)⟩
        case measure => simp [intOf]; omega
  case neg =>
  obtain rfl : i = e.args.length := by omega
  have HS2 := Lib.hid (show Ev.exsC A l dark e.args false = (s, 0) by
    rw [HS.out, List.drop_length, Ev.exsC_nil])
  clear HS
  rw [HS2.out, if_neg (by simp)] at HE
  have c0 := (hbr.cell (p := ⟨b, o, none⟩) blt).trans HX.out.c0
  have c2 := (hbr.cell (p := ⟨b, o + 2, none⟩) blt).trans HX.out.c2
  by_cases h2 : e.kind = 2
  case pos =>
    rw [if_pos h2] at HE
    rw [h2] at c0
    have CF := Lib.hid (find_any l (.slice la l.length lc) e.name wr (HL.out.on hbr) FL.out)
    clear h2
    rcases Ev.find_cases l e.name with ⟨hn, hf⟩ | ⟨m, p, hn, hp, hf⟩
    case inl =>
      rw [hf] at HE
      have g0 : decide (Ev.nameI l e.name < 0) = true := decide_eq_true hn
      clear hf
      go_wp2_with (go_at_call 57; refine CF.out.mono ?_; rintro r w1 ⟨rfl, hb1⟩)
      go_ret2
      exact ⟨by rw [← HE.out]; rfl, hbr.trans (hb1.mono hbr.size)⟩
    case inr =>
      rw [hf] at HE
      rw [hn] at CF
      have hml := (List.getElem?_eq_some_iff.1 hp).1
      have HPA := Lib.hid ((RPars.at_ HL.out).2)
      obtain ⟨ba, oa, rfl, hal, hpa⟩ : ∃ ba oa, la = some ⟨ba, oa, none⟩ ∧ ba < w.heap.size ∧ ParsAt w ba oa l := by
        rcases HPA.out with h | h
        · rw [h] at hml; simp at hml
        · exact h
      obtain ⟨_, p1, p2⟩ := hpa m p hp
      have p1r := (hbr.cell (p := ⟨ba, oa + m * 3 + 1, none⟩) hal).trans p1
      have za : ba < wr.heap.size := Nat.lt_of_lt_of_le hal hbr.size
      clear hn hf hp hpa p1 p2
      go_upto_region 13 with (go_at_call 57; refine CF.out.mono ?_; rintro r w1 ⟨rfl, hb1⟩)
      have p1' := (hb1.cell (p := ⟨ba, oa + m * 3 + 1, none⟩) za).trans p1r
      go_wp2_with fail
      go_ret2
      exact ⟨by rw [← HE.out]; rfl, hbr.trans (hb1.mono hbr.size)⟩
  case neg =>
  rw [if_neg h2] at HE
  have g2 : (e.kind == 2) = false := beq_eq_false_iff_ne.2 h2
  by_cases h5 : e.kind = 5
  case neg =>
    rw [if_neg h5] at HE
    have g5 : (e.kind == 5) = false := beq_eq_false_iff_ne.2 h5
    clear h2 h5
    go_wp2_with fail
    go_ret2
    exact ⟨by rw [← HE.out]; rfl, hbr⟩
  case pos =>
    rw [if_pos h5] at HE
    obtain ⟨x, hxl⟩ := HW.out.2.1 h5
    have hx : e.args[0]? = some x := by rw [hxl]; rfl
    obtain ⟨d', b', off, c', vx, hd, hva, hxa, hxr⟩ := HR.out.el hx
    obtain ⟨h1, h3⟩ := slice_two hva
    clear hva
    subst h1 h3
    rw [hxl] at HE
    rw [h5] at c0
    have hln : (0 : Int) < (e.args.length : Int) := by simp [hxl]
    have hbr2 := Lib.hid hbr
    have CP := Lib.hid (fun u (hu : Below wr.heap.size wr u) => lkAt_any A FA.out va k kb e.name b' (off + 0 * 4) x vx s dark u ((HK.out.on hbr).on hu) ((hxa.on hbr).on hu))
    rw [show off + 0 * 4 = off by omega] at CP
    clear h2 g2 hx hxa hxr hxl h5 hd ih HW HR HS2
    go_upto_region 17 with fail
    clear hbr
    refine wp_region_chain (fun w' => Below (wr).heap.size (wr) w') (by kernel_rfl) (by kernel_rfl) (by (repeat' first | with_reducible (first | exact Below.refl _ _ | assumption | refine Below.alloc ?_ ?_ _ | refine below_drewN ?_ _ | refine Below.drew ?_ | refine Below.setCell ?_ ?_ _ | refine Below.trans ?_ (Below.mono (by with_reducible assumption) ?_)) | go_size)) ?_
    repeat (
      apply chain_cons
      case h =>
        refine fun w9 hb9 => ?_
        have hB9 : Below wr.heap.size wr w9 := by (repeat' first | with_reducible (first | exact Below.refl _ _ | assumption | refine Below.alloc ?_ ?_ _ | refine below_drewN ?_ _ | refine Below.drew ?_ | refine Below.setCell ?_ ?_ _ | refine Below.trans ?_ (Below.mono (by with_reducible assumption) ?_)) | go_size)
        obtain ⟨kc9, kf9, s9⟩ := bfacts hb9
        obtain ⟨kd9, kg9, _⟩ := bfacts hB9
        go_wp2_with (fail)
        (try (go_at_call 107; refine (CP.out _ hb9).mono ?_; rintro _ _ ⟨rfl, hb8⟩; go_wp2_with fail))
        refine settled_intro (S := fun w' => Below (wr).heap.size (wr) w') ?_
        (repeat' first | with_reducible (first | exact Below.refl _ _ | assumption | refine Below.alloc ?_ ?_ _ | refine below_drewN ?_ _ | refine Below.drew ?_ | refine Below.setCell ?_ ?_ _ | refine Below.trans ?_ (Below.mono (by with_reducible assumption) ?_)) | go_size)
      case hp => first | rfl | (simp only [*]; done) | (simp only [*]; rfl))
    refine chain.nil ?_
    refine fun w17 hb17 => ?_
    have B17 : Below wr.heap.size wr w17 := by (repeat' first | with_reducible (first | exact Below.refl _ _ | assumption | refine Below.alloc ?_ ?_ _ | refine below_drewN ?_ _ | refine Below.drew ?_ | refine Below.setCell ?_ ?_ _ | refine Below.trans ?_ (Below.mono (by with_reducible assumption) ?_)) | go_size)
    obtain ⟨kc17, kf17, s17⟩ := bfacts hb17
    obtain ⟨kd17, kg17, _⟩ := bfacts B17
    (try simp only [World.size_alloc, World.size_setCell, World.size_drew, World.heap_drewN, Nat.add_one_le_iff] at s17)
    clear hb17
    have hb17 := B17
    clear B17
    have B17 : Hid (Below wr.heap.size wr w17) := hb17
    (try have z17 : wr.heap.size < w17.heap.size := by omega)
    (try dsimp only)
    go_wp2_with fail
    go_ret2
    exact ⟨by rw [← HE.out]; rfl, hbr2.out.trans (hb17.mono hbr2.out.size)⟩
theorem lookX_all : ∀ d, LExDo d
  | 0 => lookX 0 (fun d' h => (by omega))
  | d + 1 => lookX (d + 1) (fun d' h => (by obtain rfl : d = d' := by omega
                                            exact lookX_all d))
end Go.Proofs.YtpbflgemhcaooaaDoor
