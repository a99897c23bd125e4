import Derived.Test.YtpbflgemhcaooaaDoorPt14
import Derived.RangeFuncNested
import Derived.RangeFuncBound
import Derived.RangeFuncCalls
import Derived.RangeFuncLeaves
import Derived.Shelf.Abstract
import Derived.Shelf.RegionOpen
import Derived.WalkKit
import Derived.OwnWalkIn
import Derived.TacticsInMore
import Derived.LoopNIn
import Derived.LoopIn
import Derived.Test.YtpbflgemhcaooaaDoorPt5
import Derived.Test.YtpbflgemhcaooaaDoorPt13
/- The document's reader: parameters and arrays (closures): what holds ahead of one, and behind it. -/
namespace Go.Proofs.YtpbflgemhcaooaaDoor
open Go.RowKit
set_option linter.unusedSimpArgs false
set_option linter.unusedVariables false
def cellsP (x : Ev.Par) : List Value := [.string ⟨x.name.toArray⟩, .bool x.secret, .int .i64 x.size]
structure FB where
  w0 : World
  b : Nat
  pb : Nat
  fb : Nat
  h1 : w0.heap.size < b
  h2 : w0.heap.size < pb
  h3 : w0.heap.size < fb
  n1 : b ≠ pb
  n2 : b ≠ fb
  n3 : pb ≠ fb
/-- what holds between two of them: the program so far -/
structure FI (B : FB) (u : World) (v1 v2 : Value) (l1 l2 : List Ev.Par) : Prop where
  fr : Below B.w0.heap.size B.w0 u
  rp : u.heap[B.pb]? = some (.cells #[.pointer (some ⟨B.b, 0, none⟩)] 81 (0, 0))
  rf : u.heap[B.fb]? = some (.cells #[v1, v2, .slice none 0 0] 25 (0, 0))
  r1 : u.ownsRow B.w0.heap.size 35 3 v1 l1.length (l1.flatMap cellsP)
  r2 : u.ownsRow B.w0.heap.size 35 3 v2 l2.length (l2.flatMap cellsP)
  r0 : u.heap[B.w0.heap.size]? = some (.cells #[.slice none 0 0, .slice none 0 0, .slice none 0 0] 25 (0, 0))
  a1 : v1.ownBlock ≠ some B.b ∧ v1.ownBlock ≠ some B.pb ∧ v1.ownBlock ≠ some B.fb ∧ v1.ownBlock ≠ some B.w0.heap.size
  a2 : v2.ownBlock ≠ some B.b ∧ v2.ownBlock ≠ some B.pb ∧ v2.ownBlock ≠ some B.fb ∧ v2.ownBlock ≠ some B.w0.heap.size
  a3 : ∀ k, v1.ownBlock = some k → v2.ownBlock ≠ some k
theorem FI.move {B : FB} {u u' : World} {v1 v2 : Value} {l1 l2 : List Ev.Par} (h : FI B u v1 v2 l1 l2) (hF : PFr B.b u u') : FI B u' v1 v2 l1 l2 := by
  have n1 := B.n1
  have n2 := B.n2
  have h1 := B.h1
  have hs := h.fr.size
  have lt : ∀ {k o}, u.heap[k]? = some o → k < u.heap.size := fun h => (Array.getElem?_eq_some_iff.1 h).1
  exact ⟨⟨hF.os.trans h.fr.os, hF.tape.trans h.fr.tape, hF.output.trans h.fr.output, Nat.le_trans hs hF.size, fun k hk => (hF.block k (by omega) (by omega)).trans (h.fr.block k hk)⟩,
    (hF.block _ (lt h.rp) (fun e => n1 e.symm)).trans h.rp, (hF.block _ (lt h.rf) (fun e => n2 e.symm)).trans h.rf, kept_ps h.r1 hF h.a1.1, kept_ps h.r2 hF h.a2.1, (hF.block _ (lt h.r0) (by omega)).trans h.r0, h.a1, h.a2, h.a3⟩
theorem FI.grow1 {B : FB} {u w1 w3 : World} {v1 v2 v3 : Value} {l1 l2 : List Ev.Par} {x : Ev.Par} (h : FI B u v1 v2 l1 l2) (hF : PFr B.b u w1) (hg : w1.grownBy w3 v1.ownBlock)
    (hown : w3.ownsRow B.w0.heap.size 35 3 v3 (l1.length + 1) (l1.flatMap cellsP ++ cellsP x)) (hat : v3.ownBlock = v1.ownBlock ∨ v3.ownBlock = some w1.heap.size) (hbl : B.b < u.heap.size) :
    FI B (w3.setCell ⟨B.fb, 0, none⟩ v3) v3 v2 (l1 ++ [x]) l2 := by
  have n1 := B.n1
  have n2 := B.n2
  have n3 := B.n3
  have h1 := B.h1
  have h3 := B.h3
  have hs := h.fr.size
  have hm := h.move hF
  have lt : ∀ {k o}, w1.heap[k]? = some o → k < w1.heap.size := fun h => (Array.getElem?_eq_some_iff.1 h).1
  have lp := lt hm.rp
  have lf := lt hm.rf
  have lb : B.b < w1.heap.size := Nat.lt_of_lt_of_le hbl hF.size
  have o1 := hm.r1.lt
  have o2 := hm.r2.lt
  have e3 : ∀ k, v3.ownBlock = some k → v1.ownBlock = some k ∨ k = w1.heap.size := fun k hk => by
    rcases hat with e | e
    · exact .inl (e ▸ hk)
    · right; rw [e] at hk; injection hk with hk; exact hk.symm
  have a1 : v3.ownBlock ≠ some B.b ∧ v3.ownBlock ≠ some B.pb ∧ v3.ownBlock ≠ some B.fb ∧ v3.ownBlock ≠ some B.w0.heap.size :=
    ⟨fun e => (e3 _ e).elim h.a1.1 (by omega), fun e => (e3 _ e).elim h.a1.2.1 (by omega), fun e => (e3 _ e).elim h.a1.2.2.1 (by omega), fun e => (e3 _ e).elim h.a1.2.2.2 (by have := lt hm.r0; omega)⟩
  have r0' : (w3.setCell ⟨B.fb, 0, none⟩ v3).heap[B.w0.heap.size]? = some (.cells #[.slice none 0 0, .slice none 0 0, .slice none 0 0] 25 (0, 0)) := by
    rw [Below.heap_setCell w3 ⟨B.fb, 0, none⟩ v3 _ (by show B.w0.heap.size ≠ B.fb; omega), hg.block _ (lt hm.r0) (fun e => h.a1.2.2.2 e.symm)]
    exact hm.r0
  have hrf : w3.heap[B.fb]? = some (.cells #[v1, v2, .slice none 0 0] 25 (0, 0)) := (hg.block _ lf (fun e => h.a1.2.2.1 e.symm)).trans hm.rf
  refine ⟨⟨hg.os.trans hm.fr.os, hg.tape.trans hm.fr.tape, hg.output.trans hm.fr.output, by have := hg.size; have := hm.fr.size; simp; omega, fun k hk => ?_⟩, ?_, heap_setCell_same w3 B.fb 0 _ _ v3 hrf, ?_, ?_, r0', a1, h.a2, fun k hk => ?_⟩
  · rw [Below.heap_setCell w3 ⟨B.fb, 0, none⟩ v3 k (by show k ≠ B.fb; omega), hg.block k (by have := hm.fr.size; omega) (fun e => by have := (o1 k e.symm).1; omega)]
    exact hm.fr.block k hk
  · rw [Below.heap_setCell w3 ⟨B.fb, 0, none⟩ v3 B.pb n3, hg.block _ lp (fun e => h.a1.2.1 e.symm)]
    exact hm.rp
  · rw [List.length_append, List.flatMap_append, List.flatMap_cons, List.flatMap_nil, List.append_nil]
    exact ownsRow_setCell_other hown a1.2.2.1 _
  · refine ownsRow_setCell_other (hm.r2.kept hg ?_) h.a2.2.2.1 _
    cases hb : v2.ownBlock with
    | none => exact .inl rfl
    | some k => exact .inr (fun e => h.a3 k e.symm hb)
  · rcases e3 k hk with e | e
    · exact h.a3 k e
    · intro e2; have := (o2 k e2).2; omega
theorem FI.grow2 {B : FB} {u w1 w3 : World} {v1 v2 v3 : Value} {l1 l2 : List Ev.Par} {x : Ev.Par} (h : FI B u v1 v2 l1 l2) (hF : PFr B.b u w1) (hg : w1.grownBy w3 v2.ownBlock)
    (hown : w3.ownsRow B.w0.heap.size 35 3 v3 (l2.length + 1) (l2.flatMap cellsP ++ cellsP x)) (hat : v3.ownBlock = v2.ownBlock ∨ v3.ownBlock = some w1.heap.size) (hbl : B.b < u.heap.size) :
    FI B (w3.setCell ⟨B.fb, 1, none⟩ v3) v1 v3 l1 (l2 ++ [x]) := by
  have n1 := B.n1
  have n2 := B.n2
  have n3 := B.n3
  have h1 := B.h1
  have h3 := B.h3
  have hs := h.fr.size
  have hm := h.move hF
  have lt : ∀ {k o}, w1.heap[k]? = some o → k < w1.heap.size := fun h => (Array.getElem?_eq_some_iff.1 h).1
  have lp := lt hm.rp
  have lf := lt hm.rf
  have lb : B.b < w1.heap.size := Nat.lt_of_lt_of_le hbl hF.size
  have o1 := hm.r1.lt
  have o2 := hm.r2.lt
  have e3 : ∀ k, v3.ownBlock = some k → v2.ownBlock = some k ∨ k = w1.heap.size := fun k hk => by
    rcases hat with e | e
    · exact .inl (e ▸ hk)
    · right; rw [e] at hk; injection hk with hk; exact hk.symm
  have a2 : v3.ownBlock ≠ some B.b ∧ v3.ownBlock ≠ some B.pb ∧ v3.ownBlock ≠ some B.fb ∧ v3.ownBlock ≠ some B.w0.heap.size :=
    ⟨fun e => (e3 _ e).elim h.a2.1 (by omega), fun e => (e3 _ e).elim h.a2.2.1 (by omega), fun e => (e3 _ e).elim h.a2.2.2.1 (by omega), fun e => (e3 _ e).elim h.a2.2.2.2 (by have := lt hm.r0; omega)⟩
  have r0' : (w3.setCell ⟨B.fb, 1, none⟩ v3).heap[B.w0.heap.size]? = some (.cells #[.slice none 0 0, .slice none 0 0, .slice none 0 0] 25 (0, 0)) := by
    rw [Below.heap_setCell w3 ⟨B.fb, 1, none⟩ v3 _ (by show B.w0.heap.size ≠ B.fb; omega), hg.block _ (lt hm.r0) (fun e => h.a2.2.2.2 e.symm)]
    exact hm.r0
  have hrf : w3.heap[B.fb]? = some (.cells #[v1, v2, .slice none 0 0] 25 (0, 0)) := (hg.block _ lf (fun e => h.a2.2.2.1 e.symm)).trans hm.rf
  refine ⟨⟨hg.os.trans hm.fr.os, hg.tape.trans hm.fr.tape, hg.output.trans hm.fr.output, by have := hg.size; have := hm.fr.size; simp; omega, fun k hk => ?_⟩, ?_, heap_setCell_same w3 B.fb 1 _ _ v3 hrf, ?_, ?_, r0', h.a1, a2, fun k hk e => ?_⟩
  · rw [Below.heap_setCell w3 ⟨B.fb, 1, none⟩ v3 k (by show k ≠ B.fb; omega), hg.block k (by have := hm.fr.size; omega) (fun e => by have := (o2 k e.symm).1; omega)]
    exact hm.fr.block k hk
  · rw [Below.heap_setCell w3 ⟨B.fb, 1, none⟩ v3 B.pb n3, hg.block _ lp (fun e => h.a2.2.1 e.symm)]
    exact hm.rp
  · refine ownsRow_setCell_other (hm.r1.kept hg ?_) h.a1.2.2.1 _
    cases hb : v1.ownBlock with
    | none => exact .inl rfl
    | some k => exact .inr (fun e => h.a3 k hb e.symm)
  · rw [List.length_append, List.flatMap_append, List.flatMap_cons, List.flatMap_nil, List.append_nil]
    exact ownsRow_setCell_other hown a2.2.2.1 _
  · rcases e3 k e with e' | e'
    · exact h.a3 k hk e'
    · have := (o1 k hk).2; omega
theorem Tryd.varInfo : (Tryd.prog.info? 35).map (fun i => (i.zero, i.size, i.bytes)) = some (some (.agg #[.string ⟨#[]⟩, .bool false, .int .i64 0]), 3, 32) := by kernel_rfl
theorem cell_three_mk (w : World) (x : Ev.Par) (t : TypeId) : ∀ j u, (cellsP x)[j]? = some u → (w.alloc (.cells (cellsP x).toArray t)).cell? ((⟨w.heap.size, 0, none⟩ : Addr).add j) = some u := by
  intro j u hj
  match j, hj with
  | 0, hj => simp [cellsP] at hj; subst hj; simp [Addr.add, cellsP]
  | 1, hj => simp [cellsP] at hj; subst hj; simp [Addr.add, cellsP]
  | 2, hj => simp [cellsP] at hj; subst hj; simp [Addr.add, cellsP]
  | j + 3, hj => simp [cellsP] at hj
theorem one_three_mk (x : Ev.Par) : ∀ u ∈ cellsP x, u.oneCell' = true := fun y hy => by
  simp [cellsP] at hy
  rcases hy with rfl | rfl | rfl <;> rfl
end Go.Proofs.YtpbflgemhcaooaaDoor
/- slices.Backward over a slice of variables, and a name's place (label.find). -/
namespace Ev
/-- what comes when k rounds are over -/
def uptoF {α : Type} (f : Nat → α) (k : Nat) : List α := (List.range k).map f
theorem uptoF_succ {α : Type} (f : Nat → α) (k : Nat) : uptoF f (k + 1) = uptoF f k ++ [f k] := by simp [uptoF, List.range_succ]
theorem uptoF_length {α : Type} (f : Nat → α) (k : Nat) : (uptoF f k).length = k := by simp [uptoF]
def noPar : Par := ⟨[], false, 0⟩
def backF (l : List Par) (j : Nat) : Nat × Par := (l.length - 1 - j, l[l.length - 1 - j]?.getD noPar)
theorem last_skip (l : List Par) (nm : List UInt8) : ∀ k, k ≤ l.length → (∀ j, j < k → (backF l j).2.name ≠ nm) → nameTo l nm l.length = nameTo l nm (l.length - k)
  | 0, _, _ => rfl
  | k + 1, h, hj => by
    rw [last_skip l nm k (by omega) (fun j hj' => hj j (by omega)), show l.length - k = (l.length - (k + 1)) + 1 by omega]
    conv => lhs; unfold nameTo
    rw [if_neg]
    intro e
    have h1 := hj k (by omega)
    unfold backF at h1
    rw [show l.length - 1 - k = l.length - (k + 1) by omega] at h1
    have h2 : l.length - (k + 1) < l.length := by omega
    rw [List.getElem?_eq_getElem h2] at e h1
    exact h1 (by injection e)
theorem last_none (l : List Par) (nm : List UInt8) (h : ∀ j, j < l.length → (backF l j).2.name ≠ nm) : nameI l nm = -1 := by
  unfold nameI
  rw [last_skip l nm l.length (Nat.le_refl _) h, Nat.sub_self]
  rfl
theorem last_some (l : List Par) (nm : List UInt8) (k : Nat) (hk : k < l.length) (h : ∀ j, j < k → (backF l j).2.name ≠ nm) (e : (backF l k).2.name = nm) : nameI l nm = (((backF l k).1 : Nat) : Int) := by
  unfold nameI
  rw [last_skip l nm k (by omega) h, show l.length - k = (l.length - 1 - k) + 1 by omega]
  conv => lhs; unfold nameTo
  have h2 : l.length - 1 - k < l.length := by omega
  unfold backF at e ⊢
  rw [List.getElem?_eq_getElem h2] at e ⊢
  rw [if_pos (by rw [← e]; rfl)]
end Ev
namespace Go.Proofs.YtpbflgemhcaooaaDoor
open Go.RowKit Go.Shelf
set_option linter.unusedSimpArgs false
set_option linter.unusedVariables false
attribute [local go_sem] Oper.semAt_some
def parV (p : Ev.Par) : Value := .agg #[.string ⟨p.name.toArray⟩, .bool p.secret, .int .i64 p.size]
/-- the variables l lie at b, off -/
def ParsAt (W : World) (b off : Nat) (l : List Ev.Par) : Prop := ∀ (j : Nat) p, l[j]? = some p → W.cell? ⟨b, off + j * 3, none⟩ = some (.string ⟨p.name.toArray⟩) ∧ W.cell? ⟨b, off + j * 3 + 1, none⟩ = some (.bool p.secret) ∧ W.cell? ⟨b, off + j * 3 + 2, none⟩ = some (.int .i64 p.size)
theorem ParsAt.below {n₀ : Nat} {A B : World} {b off : Nat} {l : List Ev.Par} (h : ParsAt A b off l) (k : Below n₀ A B) (hb : b < n₀) : ParsAt B b off l :=
  fun j p e => ⟨(k.cell (p := ⟨b, off + j * 3, none⟩) hb).trans (h j p e).1, (k.cell (p := ⟨b, off + j * 3 + 1, none⟩) hb).trans (h j p e).2.1, (k.cell (p := ⟨b, off + j * 3 + 2, none⟩) hb).trans (h j p e).2.2⟩
set_option maxRecDepth 100000 in
set_option maxHeartbeats 2000000 in
theorem back1_in (F : Fence) (n : Nat) (hf : F.fn 105) (hro : F.round = none) (hn : 1 ≤ n) (r Bs n₀ b off cap : Nat) (l : List Ev.Par) (hreach : l.length * 32 ≤ 140737488351232) (hb : b < n₀) (J Jx : List (Nat × Ev.Par) → World → Prop)
    (hY : ∀ pre x W, J pre W → pre.length < l.length → YieldAt F (n - 1) Tryd.prog r #[.int .i64 (x.1 : Int), parV x.2] W fun e W' =>
      (e = .returned (.bool true) ∧ J (pre ++ [x]) W' ∧ Below n₀ W W') ∨ (e = .returned (.bool false) ∧ Jx (pre ++ [x]) W'))
    (W : World) (hBs : W.cell? ⟨Bs, 0, none⟩ = some (.slice (some ⟨b, off, none⟩) l.length cap)) (hB2 : Bs < n₀) (hc : ParsAt W b off l) (h0 : J [] W) :
    CallsIn F n Tryd.prog 105 #[.func (.yield r) #[] #[], .pointer (some ⟨Bs, 0, none⟩)] W fun e W' => (∃ v, e = .returned v) ∧
      ((∃ ys, ys = Ev.uptoF (Ev.backF l) l.length ∧ J ys W') ∨ (∃ pre, (∃ k, k ≤ l.length ∧ pre = Ev.uptoF (Ev.backF l) k) ∧ Jx pre W')) := by
  refine callsIn_of_wp Tryd.func105 rfl hf ?_ hro
  simp only [Tryd.ntmps105, List.size_toArray, List.length_cons, List.length_nil, Nat.reduceAdd, Nat.reduceSub, Array.replicate_succ, Array.replicate_zero, List.push_toArray, List.append_toArray, List.nil_append, List.cons_append]
  gi_wp2
  gi_loopw [3] (fun i wr => ∃ m : Nat, m ≤ l.length ∧ i = .int .i64 ((m : Int) - 1) ∧ J (Ev.uptoF (Ev.backF l) (l.length - m)) wr ∧ Below n₀ W wr)
    (fun i _ => (intOf i + 1).toNat)
  case atStart => exact ⟨l.length, Nat.le_refl _, rfl, by rw [Nat.sub_self]; exact h0, Below.refl _ _⟩
  case round =>
    obtain ⟨m, hk, rfl, hJs, hnx⟩ := hrel
    have hbx := (hnx.cell (p := ⟨Bs, 0, none⟩) hB2).trans hBs
    rcases m with _ | m
    · rw [Nat.sub_zero] at hJs
      gi_wp2
      go_end0
      exact ⟨⟨_, rfl⟩, .inl ⟨_, rfl, hJs⟩⟩
    · have hm : m < l.length := by omega
      obtain ⟨x, hx⟩ : ∃ x, l[m]? = some x := ⟨_, List.getElem?_eq_getElem hm⟩
      have hbk : Ev.backF l (l.length - (m + 1)) = (m, x) := by
        unfold Ev.backF
        rw [show l.length - 1 - (l.length - (m + 1)) = m by omega, hx]
        rfl
      obtain ⟨c1, c2, c3⟩ := hc.below hnx hb m x hx
      obtain ⟨fn, tmps, assign, body, hy, hR⟩ := hY _ (m, x) wr hJs (by rw [Ev.uptoF_length]; omega)
      dsimp only [parV] at hy
      rw [show (((m + 1 : Nat) : Int) - 1) = (m : Int) by omega]
      have hup : Ev.uptoF (Ev.backF l) (l.length - (m + 1)) ++ [(m, x)] = Ev.uptoF (Ev.backF l) (l.length - m) := by
        rw [← hbk, ← Ev.uptoF_succ, show l.length - (m + 1) + 1 = l.length - m by omega]
      rw [hup] at hR
      clear hbk hx
      gi_wp2
      refine hR.mono ?_
      rintro e W3 (⟨rfl, hJ3, hk3⟩ | ⟨rfl, hJx3⟩)
      · gi_wp2
        go_roundw
        case rel => exact ⟨m, by omega, by simp, hJ3, hnx.trans hk3⟩
        case measure => simp [intOf]
      · gi_wp2
        refine bodyPost_ret (results_none rfl _ _ _) rfl ?_
        exact ⟨⟨_, rfl⟩, .inr ⟨_, ⟨l.length - m, by omega, rfl⟩, hJx3⟩⟩
set_option maxRecDepth 100000 in
set_option maxHeartbeats 1000000 in
theorem back1_nil_in (F : Fence) (n : Nat) (hf : F.fn 105) (hro : F.round = none) (r Bs cap : Nat) (A : Option Addr) (J : List (Nat × Ev.Par) → World → Prop) (W : World) (hBs : W.cell? ⟨Bs, 0, none⟩ = some (.slice A 0 cap)) (h0 : J [] W) :
    CallsIn F n Tryd.prog 105 #[.func (.yield r) #[] #[], .pointer (some ⟨Bs, 0, none⟩)] W fun e W' => (∃ v, e = .returned v) ∧ J [] W' := by
  refine callsIn_of_wp Tryd.func105 rfl hf ?_ hro
  simp only [Tryd.ntmps105, List.size_toArray, List.length_cons, List.length_nil, Nat.reduceAdd, Nat.reduceSub, Array.replicate_succ, Array.replicate_zero, List.push_toArray, List.append_toArray, List.nil_append, List.cons_append]
  gi_wp2
  gi_loopw [3] (fun i wr => i = .int .i64 (-1) ∧ J [] wr) (fun _ _ => 0)
  case atStart => exact ⟨rfl, h0⟩
  case round =>
    obtain ⟨rfl, hJs⟩ := hrel
    gi_wp2
    go_end0
    exact ⟨⟨_, rfl⟩, hJs⟩
set_option maxHeartbeats 1000000 in
theorem back_in (F : Fence) (n : Nat) (hf : F.fn 89) (hro : F.round = none) (a : Option Addr) (len cap : Nat) (w : World) :
    CallsIn F n Tryd.prog 89 #[.slice a len cap] w fun e w' => e = .returned (.func (.func 105) #[] #[.pointer (some ⟨w.heap.size, 0, none⟩)]) ∧ w' = w.alloc (.cells #[.slice a len cap] 22) := by
  refine callsIn_of_wp Tryd.func89 rfl hf ?_ hro
  simp only [Tryd.ntmps89, List.size_toArray, List.length_cons, List.length_nil, Nat.reduceAdd, Nat.reduceSub, Array.replicate_succ, Array.replicate_zero, List.push_toArray, List.append_toArray, List.nil_append, List.cons_append]
  gi_wp2
  go_ret
  exact ⟨rfl, rfl⟩
theorem back_stops (F : Fence) (n : Nat) (hf : F.fn 105) (hro : F.round = none) (hn : 1 ≤ n) (Bs n₀ : Nat) (A : Option Addr) (cap : Nat) (l : List Ev.Par) (hreach : l.length * 32 ≤ 140737488351232) (w : World) (hBs : Bs < n₀) (hn₀ : n₀ ≤ w.heap.size)
    (hc : w.cell? ⟨Bs, 0, none⟩ = some (.slice A l.length cap)) (hI : l = [] ∨ ∃ b off, A = some ⟨b, off, none⟩ ∧ b < n₀ ∧ ParsAt w b off l) :
    SeqStopsK F n Tryd.prog 105 #[.pointer (some ⟨Bs, 0, none⟩)] (fun x : Nat × Ev.Par => #[Value.int .i64 (x.1 : Int), parV x.2]) (Below n₀) (fun ys => ys = Ev.uptoF (Ev.backF l) l.length)
      (fun pre => ∃ k, k ≤ l.length ∧ pre = Ev.uptoF (Ev.backF l) k) l.length w := fun r J Jx W hW _ _ hY h0 => by
  have hc' := (hW.cell (p := ⟨Bs, 0, none⟩) (by show Bs < w.heap.size; omega)).trans hc
  rcases hI with rfl | ⟨b, off, rfl, hb, hcs⟩
  · exact (back1_nil_in F n hf hro r Bs cap A J W hc' h0).mono fun e W' ⟨he, hj⟩ => ⟨he, .inl ⟨_, rfl, hj⟩⟩
  · exact back1_in F n hf hro hn r Bs n₀ b off cap l hreach hb J Jx hY W hc' hBs (hcs.below hW (by omega)) h0
end Go.Proofs.YtpbflgemhcaooaaDoor
/- The document's reader: a parameter (a closure): the walk. -/
namespace Go.Proofs.YtpbflgemhcaooaaDoor
open Go.RowKit
set_option linter.unusedSimpArgs false
set_option linter.unusedVariables false
theorem free_box {w : World} {b j : Nat} {cs : Array Value} {T : TypeId} (h : w.heap[b]? = some (.cells cs T (0, 0))) : w.frozen? ⟨b, j, none⟩ = false := by
  unfold World.frozen?
  rw [h]
  simp
theorem PFr.aside {b k : Nat} {w u : World} (h : PFr b w u) (hk : w.heap.size ≤ k) (j : Nat) (v : Value) : PFr b w (u.setCell ⟨k, j, none⟩ v) :=
  ⟨h.os, h.tape, h.output, by simpa using h.size, fun i hi hne => (Below.heap_setCell u ⟨k, j, none⟩ v i (by show i ≠ k; omega)).trans (h.block i hi hne)⟩
theorem PAt.aside {b k : Nat} {w : World} {p : Ev.PS} (h : PAt w b p) (hk : b ≠ k) (j : Nat) (v : Value) : PAt (w.setCell ⟨k, j, none⟩ v) b p := (Below.heap_setCell w ⟨k, j, none⟩ v b hk).trans h
set_option maxRecDepth 6000 in
set_option maxHeartbeats 3200000 in
theorem par_any (B : FB) (u : World) (v1 v2 : Value) (l1 l2 : List Ev.Par) (q : Ev.PS) (hI : FI B u v1 v2 l1 l2) (hA : PAt u B.b q) (hq : q.s.length ≤ 1200) (hl : l1.length ≤ 1200) :
    Calls Tryd.prog 48 #[.pointer (some ⟨B.pb, 0, none⟩), .pointer (some ⟨B.fb, 0, none⟩)] u fun e u' => e = .returned (.tuple #[]) ∧ (∃ v, FI B u' v v2 (l1 ++ [(Ev.parW q).1]) l2) ∧ PAt u' B.b (Ev.parW q).2 := by
  have n1 := B.n1
  have n2 := B.n2
  have n3 := B.n3
  have h1 := B.h1
  have h2 := B.h2
  have h3 := B.h3
  have HI := Lib.hid hI
  have HA := Lib.hid hA
  have LA := (Ev.is_steps [40] q).1.len
  have LB := (Ev.lab_steps (Ev.isW [40] q)).1.len
  have LC := (Ev.name_steps (Ev.labW (Ev.isW [40] q)).2).1.len
  have HR : Hid (Ev.parW q = (⟨(Ev.nameW (Ev.labW (Ev.isW [40] q)).2).1, (Ev.labW (Ev.isW [40] q)).1, 0⟩, Ev.isW [41] (Ev.nameW (Ev.labW (Ev.isW [40] q)).2).2)) := Lib.hid rfl
  generalize Ev.parW q = R at *
  have CA := Lib.hid (fun w h => is_any q [40] B.b w h hq)
  generalize Ev.isW [40] q = qa at *
  have CB := Lib.hid (fun w h => lab_any qa B.b w h (by omega))
  generalize (Ev.labW qa).1 = sec at *
  generalize (Ev.labW qa).2 = qb at *
  have CC := Lib.hid (fun w h => name_any qb B.b w h (by omega))
  generalize (Ev.nameW qb).1 = nm at *
  generalize (Ev.nameW qb).2 = qc at *
  have CD := Lib.hid (fun w h => is_any qc [41] B.b w h (by omega))
  generalize Ev.isW [41] qc = qd at *
  clear hI hA LA LB LC
  have cp : u.cell? ⟨B.pb, 0, none⟩ = some (.pointer (some ⟨B.b, 0, none⟩)) := (cell_of_block HI.out.rp 0).trans rfl
  have zp := (Array.getElem?_eq_some_iff.1 HI.out.rp).1
  have hbl := HA.out.lt
  go_enter Tryd.func48, Tryd.ntmps48
  go_upto_region 1 with (go_at_call 46; refine (CA.out _ HA.out).mono ?_; rintro e w1 ⟨rfl, h1', hF1⟩)
  have I1 := Lib.hid (HI.out.move hF1)
  have A1 := Lib.hid h1'
  have s1 := hF1.size
  clear cp zp h1' hF1 HI HA CA
  have cp : w1.cell? ⟨B.pb, 0, none⟩ = some (.pointer (some ⟨B.b, 0, none⟩)) := (cell_of_block I1.out.rp 0).trans rfl
  have zp := (Array.getElem?_eq_some_iff.1 I1.out.rp).1
  go_upto_region 2 with (go_at_call 49; refine (CB.out _ A1.out).mono ?_; rintro e w2 ⟨rfl, h2', hF2⟩)
  have I2 := Lib.hid (I1.out.move hF2)
  have s2 := hF2.size
  have b2 := h2'.lt
  have BX : Below w2.heap.size w2 (w2.alloc (.cells #[.string ⟨#[]⟩, .bool sec, .int .i64 0] 35)) := (Below.refl _ _).alloc (Nat.le_refl _) _
  have A2 := Lib.hid (h2'.stays BX)
  have F2 := Lib.hid (show PFr B.b w2 (w2.alloc (.cells #[.string ⟨#[]⟩, .bool sec, .int .i64 0] 35)) from PFr.of BX)
  have X2 := Lib.hid (heap_alloc_new w2 (.cells #[.string ⟨#[]⟩, .bool sec, .int .i64 0] 35))
  clear cp zp h2' hF2 I1 A1 BX CB
  generalize w2.alloc (.cells #[.string ⟨#[]⟩, .bool sec, .int .i64 0] 35) = w3 at *
  have cp : w3.cell? ⟨B.pb, 0, none⟩ = some (.pointer (some ⟨B.b, 0, none⟩)) := (cell_of_block (I2.out.move F2.out).rp 0).trans rfl
  have zp := (Array.getElem?_eq_some_iff.1 (I2.out.move F2.out).rp).1
  have zx := (Array.getElem?_eq_some_iff.1 X2.out).1
  go_upto_region 3 with (go_at_call 50; refine (CC.out _ A2.out).mono ?_; rintro e w4 ⟨rfl, h4', hF4⟩; have x4 := (hF4.block w2.heap.size zx (by omega)).trans X2.out; have y0 : w4.cell? ⟨w2.heap.size, 0, none⟩ = some (.string ⟨#[]⟩) := (cell_of_block x4 0).trans rfl; have y1 : w4.frozen? ⟨w2.heap.size, 0, none⟩ = false := free_box x4; have zy := (Array.getElem?_eq_some_iff.1 x4).1)
  have X5 := Lib.hid (heap_setCell_same w4 w2.heap.size 0 _ _ (.string ⟨nm.toArray⟩) x4)
  have F5 := Lib.hid ((F2.out.trans hF4).aside (k := w2.heap.size) (Nat.le_refl _) 0 (.string ⟨nm.toArray⟩))
  have A5 := Lib.hid (h4'.aside (k := w2.heap.size) (by omega) 0 (.string ⟨nm.toArray⟩))
  clear cp zp h4' hF4 A2 F2 X2 zx x4 y0 y1 zy CC
  generalize w4.setCell ⟨w2.heap.size, 0, none⟩ (.string ⟨nm.toArray⟩) = w5 at *
  have X6 : Hid (w5.heap[w2.heap.size]? = some (.cells #[.string ⟨nm.toArray⟩, .bool sec, .int .i64 0] 35 (0, 0))) := Lib.hid X5.out
  have I5 := Lib.hid (I2.out.move F5.out)
  obtain ⟨A, cc, rfl, hc1, hc2⟩ := SL.form (SL.of_own I5.out.r1)
  obtain ⟨i1, hi1, hz0, hz1, hz2⟩ := info_parts Tryd.varInfo
  have IC := Lib.hid (⟨hi1, hz0, hz1, hz2⟩ : _ ∧ _ ∧ _ ∧ _)
  clear hi1 hz0 hz1 hz2 X5
  have cf : w5.cell? ⟨B.fb, 0, none⟩ = some (.slice A l1.length cc) := (cell_of_block I5.out.rf 0).trans rfl
  have zf := (Array.getElem?_eq_some_iff.1 I5.out.rf).1
  have s5 := F5.out.size
  have zx := (Array.getElem?_eq_some_iff.1 X6.out).1
  have hw0 := I2.out.fr.size
  go_upto_region 4 with (first | (refine wpList_load_box rfl 35 _ rfl rfl (load_box Tryd.underlying35 (by kernel_rfl) (by rfl) (by kernel_rfl) (fun j v hj => (cell_of_block X6.out j).trans hj) zx (Below.refl _ _)) ?_) | (at_builtin; refine wpList_append_own_at _ rfl (.tmp 12) (.tmp 14) _ rfl B.w0.heap.size 35 i1 (.agg #[.string ⟨#[]⟩, .bool false, .int .i64 0]) 3 32 Tryd.underlying22 IC.out.1 IC.out.2.1 IC.out.2.2.1 IC.out.2.2.2 rfl (by decide) _ _ _ rfl (I5.out.r1.alloc _) ⟨w5.heap.size, 0, none⟩ 1 1 (cellsP ⟨nm, sec, 0⟩) rfl rfl (cell_three_mk _ _ _) (one_three_mk _) (by unfold maxLen; omega) (by omega) (by simp; omega) ?_; intro v7 w7 hown7 hg7 hn7 hat7; obtain ⟨A7, c7, rfl, _, _⟩ := SL.form (SL.of_own hown7); have x7 : w7.heap[B.fb]? = some (.cells #[.slice A l1.length cc, v2, .slice none 0 0] 25 (0, 0)) := (hg7.block B.fb (by simp; omega) (fun e => I5.out.a1.2.2.1 e.symm)).trans ((((Below.refl w5.heap.size w5).alloc (Nat.le_refl _) _).block B.fb zf).trans I5.out.rf); have c7f : w7.cell? ⟨B.fb, 0, none⟩ = some (.slice A l1.length cc) := (cell_of_block x7 0).trans rfl; have f7f : w7.frozen? ⟨B.fb, 0, none⟩ = false := free_box x7; have z7f := (Array.getElem?_eq_some_iff.1 x7).1))
  have BX : Below w5.heap.size w5 (w5.alloc (.cells #[.string ⟨nm.toArray⟩, .bool sec, .int .i64 0] 35)) := (Below.refl _ _).alloc (Nat.le_refl _) _
  have I8 := Lib.hid (FI.grow1 (x := ⟨nm, sec, 0⟩) I5.out (PFr.of BX) hg7 hown7 hat7 A5.out.lt)
  have A8 : PAt (w7.setCell ⟨B.fb, 0, none⟩ (.slice A7 (l1.length + 1) c7)) B.b qc := PAt.aside ((hg7.block B.b (by have := A5.out.lt; simp; omega) (fun e => I5.out.a1.1 e.symm)).trans (A5.out.stays BX)) n2 0 _
  have HA8 := Lib.hid A8
  clear cf zf zx BX hown7 hg7 hn7 hat7 x7 c7f f7f z7f X6 I5 A8 I2
  generalize w7.setCell ⟨B.fb, 0, none⟩ (.slice A7 (l1.length + 1) c7) = w8 at *
  have cp : w8.cell? ⟨B.pb, 0, none⟩ = some (.pointer (some ⟨B.b, 0, none⟩)) := (cell_of_block I8.out.rp 0).trans rfl
  have zp := (Array.getElem?_eq_some_iff.1 I8.out.rp).1
  go_wp2_with (go_at_call 46; refine (CD.out _ HA8.out).mono ?_; rintro e w9 ⟨rfl, h9, hF9⟩)
  go_end0
  exact ⟨rfl, ⟨_, by rw [HR.out]; exact I8.out.move hF9⟩, by rw [HR.out]; exact h9⟩
end Go.Proofs.YtpbflgemhcaooaaDoor
/- The document's reader: an array (a closure): the walk. -/
namespace Go.Proofs.YtpbflgemhcaooaaDoor
open Go.RowKit
set_option linter.unusedSimpArgs false
set_option linter.unusedVariables false
set_option maxRecDepth 6000 in
set_option maxHeartbeats 3200000 in
theorem arr_any (B : FB) (u : World) (v1 v2 : Value) (l1 l2 : List Ev.Par) (q : Ev.PS) (hI : FI B u v1 v2 l1 l2) (hA : PAt u B.b q) (hq : q.s.length ≤ 1200) (hv : VarsP B.b u) (hl : l2.length ≤ 1200) :
    Calls Tryd.prog 51 #[.pointer (some ⟨B.pb, 0, none⟩), .pointer (some ⟨B.fb, 0, none⟩)] u fun e u' => e = .returned (.tuple #[]) ∧ (∃ v, FI B u' v1 v l1 (l2 ++ [(Ev.arrW q).1])) ∧ PAt u' B.b (Ev.arrW q).2 := by
  have n1 := B.n1
  have n2 := B.n2
  have n3 := B.n3
  have h1 := B.h1
  have h2 := B.h2
  have h3 := B.h3
  have HI := Lib.hid hI
  have HA := Lib.hid hA
  have LA := (Ev.is_steps [40] q).1.len
  have LB := (Ev.lab_steps (Ev.isW [40] q)).1.len
  have LC := (Ev.name_steps (Ev.labW (Ev.isW [40] q)).2).1.len
  have LD := (Ev.num_steps 1 8 (Ev.nameW (Ev.labW (Ev.isW [40] q)).2).2).1.len
  have HR : Hid (Ev.arrW q = (⟨(Ev.nameW (Ev.labW (Ev.isW [40] q)).2).1, (Ev.labW (Ev.isW [40] q)).1, (Ev.numW 1 8 (Ev.nameW (Ev.labW (Ev.isW [40] q)).2).2).1⟩, Ev.isW [41] (Ev.numW 1 8 (Ev.nameW (Ev.labW (Ev.isW [40] q)).2).2).2)) := Lib.hid rfl
  have HV := Lib.hid hv
  generalize Ev.arrW q = R at *
  have CA := Lib.hid (fun w h => is_any q [40] B.b w h hq)
  generalize Ev.isW [40] q = qa at *
  have CB := Lib.hid (fun w h => lab_any qa B.b w h (by omega))
  generalize (Ev.labW qa).1 = sec at *
  generalize (Ev.labW qa).2 = qb at *
  have CC := Lib.hid (fun w h => name_any qb B.b w h (by omega))
  generalize (Ev.nameW qb).1 = nm at *
  generalize (Ev.nameW qb).2 = qc at *
  have CN := Lib.hid (fun w h hw => num_any 1 8 qc B.b w h (by omega) hw)
  generalize (Ev.numW 1 8 qc).1 = nn at *
  generalize (Ev.numW 1 8 qc).2 = qe at *
  have CD := Lib.hid (fun w h => is_any qe [41] B.b w h (by omega))
  generalize Ev.isW [41] qe = qd at *
  clear hI hA hv LA LB LC LD
  have cp : u.cell? ⟨B.pb, 0, none⟩ = some (.pointer (some ⟨B.b, 0, none⟩)) := (cell_of_block HI.out.rp 0).trans rfl
  have zp := (Array.getElem?_eq_some_iff.1 HI.out.rp).1
  have hbl := HA.out.lt
  go_enter Tryd.func51, Tryd.ntmps51
  go_upto_region 1 with (go_at_call 46; refine (CA.out _ HA.out).mono ?_; rintro e w1 ⟨rfl, h1', hF1⟩)
  have I1 := Lib.hid (HI.out.move hF1)
  have A1 := Lib.hid h1'
  have V1 := Lib.hid (HV.out.to hF1)
  have s1 := hF1.size
  clear cp zp h1' hF1 HI HA HV CA
  have cp : w1.cell? ⟨B.pb, 0, none⟩ = some (.pointer (some ⟨B.b, 0, none⟩)) := (cell_of_block I1.out.rp 0).trans rfl
  have zp := (Array.getElem?_eq_some_iff.1 I1.out.rp).1
  go_upto_region 2 with (go_at_call 49; refine (CB.out _ A1.out).mono ?_; rintro e w2 ⟨rfl, h2', hF2⟩)
  have I2 := Lib.hid (I1.out.move hF2)
  have s2 := hF2.size
  have b2 := h2'.lt
  have BX : Below w2.heap.size w2 (w2.alloc (.cells #[.string ⟨#[]⟩, .bool sec, .int .i64 0] 35)) := (Below.refl _ _).alloc (Nat.le_refl _) _
  have A2 := Lib.hid (h2'.stays BX)
  have V2 := Lib.hid (V1.out.to hF2)
  have F2 := Lib.hid (show PFr B.b w2 (w2.alloc (.cells #[.string ⟨#[]⟩, .bool sec, .int .i64 0] 35)) from PFr.of BX)
  have X2 := Lib.hid (heap_alloc_new w2 (.cells #[.string ⟨#[]⟩, .bool sec, .int .i64 0] 35))
  clear cp zp h2' hF2 I1 A1 V1 BX CB
  generalize w2.alloc (.cells #[.string ⟨#[]⟩, .bool sec, .int .i64 0] 35) = w3 at *
  have cp : w3.cell? ⟨B.pb, 0, none⟩ = some (.pointer (some ⟨B.b, 0, none⟩)) := (cell_of_block (I2.out.move F2.out).rp 0).trans rfl
  have zp := (Array.getElem?_eq_some_iff.1 (I2.out.move F2.out).rp).1
  have zx := (Array.getElem?_eq_some_iff.1 X2.out).1
  go_upto_region 3 with (go_at_call 50; refine (CC.out _ A2.out).mono ?_; rintro e w4 ⟨rfl, h4', hF4⟩; have x4 := (hF4.block w2.heap.size zx (by omega)).trans X2.out; have y0 : w4.cell? ⟨w2.heap.size, 0, none⟩ = some (.string ⟨#[]⟩) := (cell_of_block x4 0).trans rfl; have y1 : w4.frozen? ⟨w2.heap.size, 0, none⟩ = false := free_box x4; have zy := (Array.getElem?_eq_some_iff.1 x4).1)
  have X5 := Lib.hid (heap_setCell_same w4 w2.heap.size 0 _ _ (.string ⟨nm.toArray⟩) x4)
  have F5 := Lib.hid ((F2.out.trans hF4).aside (k := w2.heap.size) (Nat.le_refl _) 0 (.string ⟨nm.toArray⟩))
  have A5 := Lib.hid (h4'.aside (k := w2.heap.size) (by omega) 0 (.string ⟨nm.toArray⟩))
  clear cp zp h4' hF4 A2 F2 X2 zx x4 y0 y1 zy CC
  generalize w4.setCell ⟨w2.heap.size, 0, none⟩ (.string ⟨nm.toArray⟩) = w5 at *
  have x5 : w5.heap[w2.heap.size]? = some (.cells #[.string ⟨nm.toArray⟩, .bool sec, .int .i64 0] 35 (0, 0)) := X5.out
  have cp : w5.cell? ⟨B.pb, 0, none⟩ = some (.pointer (some ⟨B.b, 0, none⟩)) := (cell_of_block (I2.out.move F5.out).rp 0).trans rfl
  have zp := (Array.getElem?_eq_some_iff.1 (I2.out.move F5.out).rp).1
  have zx := (Array.getElem?_eq_some_iff.1 x5).1
  have V5 := Lib.hid (V2.out.to F5.out)
  go_upto_region 4 with (go_at_call 52; refine (CN.out _ A5.out V5.out).mono ?_; rintro e wn ⟨rfl, hn', hFn⟩; have xn := (hFn.block w2.heap.size zx (by omega)).trans x5; have y0 : wn.cell? ⟨w2.heap.size, 2, none⟩ = some (.int .i64 0) := (cell_of_block xn 2).trans rfl; have y1 : wn.frozen? ⟨w2.heap.size, 2, none⟩ = false := free_box xn; have zy := (Array.getElem?_eq_some_iff.1 xn).1)
  have X7 := Lib.hid (heap_setCell_same wn w2.heap.size 2 _ _ (.int .i64 nn) xn)
  have F7 := Lib.hid ((F5.out.trans hFn).aside (k := w2.heap.size) (Nat.le_refl _) 2 (.int .i64 nn))
  have A7 := Lib.hid (hn'.aside (k := w2.heap.size) (by omega) 2 (.int .i64 nn))
  clear cp zp hn' hFn A5 V5 V2 F5 X5 zx x5 xn y0 y1 zy CN
  generalize wn.setCell ⟨w2.heap.size, 2, none⟩ (.int .i64 nn) = w6 at *
  clear w5
  obtain ⟨w5, rfl⟩ : ∃ w5, w5 = w6 := ⟨_, rfl⟩
  have F5 := F7
  have A5 := A7
  have X5 := X7
  clear F7 A7 X7
  have X6 : Hid (w5.heap[w2.heap.size]? = some (.cells #[.string ⟨nm.toArray⟩, .bool sec, .int .i64 nn] 35 (0, 0))) := Lib.hid X5.out
  have I5 := Lib.hid (I2.out.move F5.out)
  obtain ⟨A, cc, rfl, hc1, hc2⟩ := SL.form (SL.of_own I5.out.r2)
  obtain ⟨i1, hi1, hz0, hz1, hz2⟩ := info_parts Tryd.varInfo
  have IC := Lib.hid (⟨hi1, hz0, hz1, hz2⟩ : _ ∧ _ ∧ _ ∧ _)
  clear hi1 hz0 hz1 hz2 X5
  have cf : w5.cell? ⟨B.fb, 1, none⟩ = some (.slice A l2.length cc) := (cell_of_block I5.out.rf 1).trans rfl
  have zf := (Array.getElem?_eq_some_iff.1 I5.out.rf).1
  have s5 := F5.out.size
  have zx := (Array.getElem?_eq_some_iff.1 X6.out).1
  have hw0 := I2.out.fr.size
  go_upto_region 5 with (first | (refine wpList_load_box rfl 35 _ rfl rfl (load_box Tryd.underlying35 (by kernel_rfl) (by rfl) (by kernel_rfl) (fun j v hj => (cell_of_block X6.out j).trans hj) zx (Below.refl _ _)) ?_) | (at_builtin; refine wpList_append_own_at _ rfl (.tmp 15) (.tmp 17) _ rfl B.w0.heap.size 35 i1 (.agg #[.string ⟨#[]⟩, .bool false, .int .i64 0]) 3 32 Tryd.underlying22 IC.out.1 IC.out.2.1 IC.out.2.2.1 IC.out.2.2.2 rfl (by decide) _ _ _ rfl (I5.out.r2.alloc _) ⟨w5.heap.size, 0, none⟩ 1 1 (cellsP ⟨nm, sec, nn⟩) rfl rfl (cell_three_mk _ _ _) (one_three_mk _) (by unfold maxLen; omega) (by omega) (by simp; omega) ?_; intro v7 w7 hown7 hg7 hn7 hat7; obtain ⟨A7, c7, rfl, _, _⟩ := SL.form (SL.of_own hown7); have x7 : w7.heap[B.fb]? = some (.cells #[v1, .slice A l2.length cc, .slice none 0 0] 25 (0, 0)) := (hg7.block B.fb (by simp; omega) (fun e => I5.out.a2.2.2.1 e.symm)).trans ((((Below.refl w5.heap.size w5).alloc (Nat.le_refl _) _).block B.fb zf).trans I5.out.rf); have c7f : w7.cell? ⟨B.fb, 1, none⟩ = some (.slice A l2.length cc) := (cell_of_block x7 1).trans rfl; have f7f : w7.frozen? ⟨B.fb, 1, none⟩ = false := free_box x7; have z7f := (Array.getElem?_eq_some_iff.1 x7).1))
  have BX : Below w5.heap.size w5 (w5.alloc (.cells #[.string ⟨nm.toArray⟩, .bool sec, .int .i64 nn] 35)) := (Below.refl _ _).alloc (Nat.le_refl _) _
  have I8 := Lib.hid (FI.grow2 (x := ⟨nm, sec, nn⟩) I5.out (PFr.of BX) hg7 hown7 hat7 A5.out.lt)
  have A8 : PAt (w7.setCell ⟨B.fb, 1, none⟩ (.slice A7 (l2.length + 1) c7)) B.b qe := PAt.aside ((hg7.block B.b (by have := A5.out.lt; simp; omega) (fun e => I5.out.a2.1 e.symm)).trans (A5.out.stays BX)) n2 1 _
  have HA8 := Lib.hid A8
  clear cf zf zx BX hown7 hg7 hn7 hat7 x7 c7f f7f z7f X6 I5 A8 I2
  generalize w7.setCell ⟨B.fb, 1, none⟩ (.slice A7 (l2.length + 1) c7) = w8 at *
  have cp : w8.cell? ⟨B.pb, 0, none⟩ = some (.pointer (some ⟨B.b, 0, none⟩)) := (cell_of_block I8.out.rp 0).trans rfl
  have zp := (Array.getElem?_eq_some_iff.1 I8.out.rp).1
  go_wp2_with (go_at_call 46; refine (CD.out _ HA8.out).mono ?_; rintro e w9 ⟨rfl, h9, hF9⟩)
  go_end0
  exact ⟨rfl, ⟨_, by rw [HR.out]; exact I8.out.move hF9⟩, by rw [HR.out]; exact h9⟩
end Go.Proofs.YtpbflgemhcaooaaDoor
/- The document's reader: what goes on up to a bracket: plainly; how far the reader is from its end. -/
namespace Ev
open Go
theorem skip_twice : ∀ s, skipB (skipB s) = skipB s
  | [] => rfl
  | c :: s => by
    by_cases h : blank c = true
    · rw [skip_head h]; exact skip_twice s
    · rw [skip_stop h, skip_stop h]
theorem take_skip (p : PS) : takeW p.skip = takeW p := by
  unfold takeW PS.skip peekW
  dsimp only
  rw [skip_twice]
  unfold PS.bad
  by_cases h : p.err = 0
  · rw [if_pos h, if_pos h]
  · rw [if_neg h, if_neg h]
theorem is_skip (w : List UInt8) (p : PS) : isW w p.skip = isW w p := by
  unfold isW
  rw [take_skip]
theorem all_stop {α : Type} {f : PS → α × PS} {k : Nat} {p : PS} (h : ¬ (p.err = 0 ∧ peekW p.s ≠ [41])) : allW f k p = ([], isW [41] p) := by
  rcases k with _ | k
  · rfl
  · unfold allW
    rw [if_neg h]
/-- one round more -/
theorem all_round {α : Type} {f : PS → α × PS} (hf : ∀ p, Steps p (f p).2) {p : PS} (h : p.err = 0) (h2 : peekW p.s ≠ [41]) :
    allW f (p.s.length + 1) p = ((f p.skip).1 :: (allW f ((f p.skip).2.s.length + 1) (f p.skip).2).1, (allW f ((f p.skip).2.s.length + 1) (f p.skip).2).2) := by
  have hs := hf p.skip
  have hl := skip_le p.s
  have e : allW f p.s.length (f p.skip).2 = allW f ((f p.skip).2.s.length + 1) (f p.skip).2 := by
    refine all_fuel hf _ _ _ _ (Nat.le_refl _) (fun h3 => ?_) (fun _ => by omega)
    rcases hs.2 h with h4 | h4
    · exact absurd h3 h4
    · have h5 : (skipB p.s).length = p.skip.s.length := rfl
      omega
  conv => lhs; unfold allW
  rw [if_pos ⟨h, h2⟩, e]
end Ev
namespace Go.Proofs.YtpbflgemhcaooaaDoor
open Go.RowKit
set_option linter.unusedSimpArgs false
set_option linter.unusedVariables false
/-- how far the reader is from its end -/
def psM (w : World) (b : Nat) : Nat := match w.cell? ⟨b, 1, none⟩ with | some (.int _ n) => if n = 0 then psLen w b + 1 else 0 | _ => 0
theorem psM_at {w : World} {b : Nat} {p : Ev.PS} (h : PAt w b p) : psM w b = if p.err = 0 then p.s.length + 1 else 0 := by
  unfold psM
  rw [h.c1, psLen_at h]
theorem psM_less {w w' : World} {b : Nat} {p q : Ev.PS} (h : PAt w b p) (h' : PAt w' b q) (h0 : p.err = 0) (hs : q.err ≠ 0 ∨ q.s.length < p.s.length) : psM w' b < psM w b := by
  rw [psM_at h, psM_at h', if_pos h0]
  split
  · rcases hs with h1 | h1
    · rename_i h2; exact absurd h2 h1
    · omega
  · omega
end Go.Proofs.YtpbflgemhcaooaaDoor
