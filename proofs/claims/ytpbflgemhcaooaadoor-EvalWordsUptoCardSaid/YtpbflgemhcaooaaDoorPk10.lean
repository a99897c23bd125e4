import Derived.Test.YtpbflgemhcaooaaDoorPk9
/- Statements in memory: trees of slices, no deeper than so much; a list that grows. -/
namespace Go.Proofs.YtpbflgemhcaooaaDoor
open Go.RowKit
set_option linter.unusedSimpArgs false
set_option linter.unusedVariables false
theorem RExL.deeper {w : World} {K : Nat → Prop} : ∀ (d : Nat) (v : Value) (l : List Ev.Ex), RExL d w K v l → RExL (d + 1) w K v l
  | 0, v, l, h => by obtain ⟨rfl, rfl⟩ := h; exact RExL.nil_ _ _ _
  | d + 1, v, l, ⟨vs, h1, h2, h3, h4⟩ => ⟨vs, h1, h2, h3, fun j e va he hva => RExL.deeper d va e.args (h4 j e va he hva)⟩
theorem RExL.to9 {w : World} {K : Nat → Prop} {v : Value} {l : List Ev.Ex} : ∀ {d : Nat}, d ≤ 9 → RExL d w K v l → RExL 9 w K v l := by
  intro d hd h
  induction hk : 9 - d generalizing d with
  | zero => obtain rfl : d = 9 := by omega
            exact h
  | succ k ih => exact ih (d := d + 1) (by omega) (RExL.deeper d v l h) (by omega)
abbrev V3 := Value × Value × Value
def st7 (t : Ev.St1) (x : V3) : List Value := [.int .i64 t.kind, .int .i64 t.n, .string ⟨t.name.toArray⟩, .bool t.secret, x.1, x.2.1, x.2.2]
def stCells : List Ev.St1 → List V3 → List Value
  | t :: l, x :: vs => st7 t x ++ stCells l vs
  | _, _ => []
def stV (t : Ev.St1) (x : V3) : Value := .agg #[.int .i64 t.kind, .int .i64 t.n, .string ⟨t.name.toArray⟩, .bool t.secret, x.1, x.2.1, x.2.2]
/-- statements in memory, no deeper than d, all in blocks of K -/
def RStL : Nat → World → (Nat → Prop) → Value → List Ev.St1 → Prop
  | 0, _, _, v, l => l = [] ∧ v = .slice none 0 0
  | d + 1, w, K, v, l => ∃ vs : List V3, vs.length = l.length ∧ SL w w.heap.size 7 v l.length (stCells l vs) ∧ inK K v ∧ ∀ (j : Nat) t x, l[j]? = some t → vs[j]? = some x → RExL 9 w K x.1 t.args ∧ RStL d w K x.2.1 t.thn ∧ RStL d w K x.2.2 t.els
/-- what a statement leads to -/
def RParts (d : Nat) (w : World) (K : Nat → Prop) (t : Ev.St1) (x : V3) : Prop := RExL 9 w K x.1 t.args ∧ RStL d w K x.2.1 t.thn ∧ RStL d w K x.2.2 t.els
theorem stCells_snoc : ∀ (l : List Ev.St1) (vs : List V3) (t : Ev.St1) (x : V3), vs.length = l.length → stCells (l ++ [t]) (vs ++ [x]) = stCells l vs ++ st7 t x
  | [], [], t, x, _ => by simp [stCells]
  | [], _ :: _, t, x, h => by simp at h
  | _ :: _, [], t, x, h => by simp at h
  | y :: l, z :: vs, t, x, h => by
    have := stCells_snoc l vs t x (by simpa using h)
    simp only [List.cons_append, stCells, this, List.append_assoc]
theorem RStL.keep {w w' : World} {K : Nat → Prop} (hs : w.heap.size ≤ w'.heap.size) (hk : ∀ k, K k → k < w.heap.size → w'.heap[k]? = w.heap[k]?) : ∀ (d : Nat) (v : Value) (l : List Ev.St1), RStL d w K v l → RStL d w' K v l
  | 0, v, l, h => h
  | d + 1, v, l, ⟨vs, h1, h2, h3, h4⟩ => ⟨vs, h1, h2.keep h3 hs hk, h3, fun j t x ht hx => ⟨RExL.keep hs hk 9 _ _ (h4 j t x ht hx).1, RStL.keep hs hk d _ _ (h4 j t x ht hx).2.1, RStL.keep hs hk d _ _ (h4 j t x ht hx).2.2⟩⟩
theorem RStL.wide {w : World} {K K' : Nat → Prop} (hk : ∀ k, K k → K' k) : ∀ (d : Nat) (v : Value) (l : List Ev.St1), RStL d w K v l → RStL d w K' v l
  | 0, v, l, h => h
  | d + 1, v, l, ⟨vs, h1, h2, h3, h4⟩ => ⟨vs, h1, h2, fun a n c e => hk _ (h3 a n c e), fun j t x ht hx => ⟨RExL.wide hk 9 _ _ (h4 j t x ht hx).1, RStL.wide hk d _ _ (h4 j t x ht hx).2.1, RStL.wide hk d _ _ (h4 j t x ht hx).2.2⟩⟩
theorem RStL.nil_ (d : Nat) (w : World) (K : Nat → Prop) : RStL d w K (.slice none 0 0) [] := by
  cases d with
  | zero => exact ⟨rfl, rfl⟩
  | succ d => exact ⟨[], rfl, SL.nil_ _ _ _, fun a n c e => (by cases e), fun j t x ht => (by simp at ht)⟩
theorem RStL.slice {d : Nat} {w : World} {K : Nat → Prop} {v : Value} {l : List Ev.St1} (h : RStL d w K v l) : ∃ A c, v = .slice A l.length c := by
  cases d with
  | zero => obtain ⟨rfl, rfl⟩ := h; exact ⟨_, _, rfl⟩
  | succ d => obtain ⟨_, _, h2, _⟩ := h; obtain ⟨A, c, e, _⟩ := SL.form h2; exact ⟨A, c, e⟩
theorem RParts.keep {d : Nat} {w w' : World} {K : Nat → Prop} {t : Ev.St1} {x : V3} (h : RParts d w K t x) (hs : w.heap.size ≤ w'.heap.size) (hk : ∀ k, K k → k < w.heap.size → w'.heap[k]? = w.heap[k]?) : RParts d w' K t x :=
  ⟨RExL.keep hs hk 9 _ _ h.1, RStL.keep hs hk d _ _ h.2.1, RStL.keep hs hk d _ _ h.2.2⟩
theorem RParts.wide {d : Nat} {w : World} {K K' : Nat → Prop} {t : Ev.St1} {x : V3} (h : RParts d w K t x) (hk : ∀ k, K k → K' k) : RParts d w K' t x :=
  ⟨RExL.wide hk 9 _ _ h.1, RStL.wide hk d _ _ h.2.1, RStL.wide hk d _ _ h.2.2⟩
theorem RParts.none_ (d : Nat) (w : World) (K : Nat → Prop) : RParts d w K Ev.St1.none (.slice none 0 0, .slice none 0 0, .slice none 0 0) := ⟨RExL.nil_ _ _ _, RStL.nil_ _ _ _, RStL.nil_ _ _ _⟩
theorem one_seven {d : Nat} {w : World} {K : Nat → Prop} {t : Ev.St1} {x : V3} (h : RParts d w K t x) : (st7 t x).toArray.all (·.oneCell') = true := by
  obtain ⟨A, c, e1⟩ := h.1.slice
  obtain ⟨B, c', e2⟩ := h.2.1.slice
  obtain ⟨C, c'', e3⟩ := h.2.2.slice
  simp [st7, e1, e2, e3, Value.oneCell']
/-- a row of one's own with statements -/
def StRow (w : World) (lo : Nat) (K : Nat → Prop) (d : Nat) (v : Value) (l : List Ev.St1) : Prop :=
  ∃ vs : List V3, vs.length = l.length ∧ w.ownsRow lo 109 7 v l.length (stCells l vs) ∧ ∀ (j : Nat) t x, l[j]? = some t → vs[j]? = some x → RParts d w (fun k => K k ∧ k < w.heap.size ∧ v.ownBlock ≠ some k) t x
theorem StRow.nil_ (w : World) (lo : Nat) (K : Nat → Prop) (d : Nat) : StRow w lo K d (.slice none 0 0) [] := ⟨[], rfl, ⟨rfl, .inl ⟨rfl, rfl⟩⟩, fun j t x ht => (by simp at ht)⟩
theorem StRow.whole {w : World} {lo : Nat} {K K' : Nat → Prop} {d : Nat} {v : Value} {l : List Ev.St1} (h : StRow w lo K d v l) (hk : ∀ k, K k → k < w.heap.size → K' k) (hl : ∀ k, lo ≤ k → k < w.heap.size → v.ownBlock = some k → K' k) : RStL (d + 1) w K' v l := by
  obtain ⟨vs, h1, h2, h3⟩ := h
  refine ⟨vs, h1, SL.of_own h2, fun a n c e => ?_, fun j t x ht hx => (h3 j t x ht hx).wide (fun k hk' => hk k hk'.1 hk'.2.1)⟩
  subst e
  have := h2.lt a.block rfl
  exact hl a.block this.1 this.2 rfl
/-- it stays, where others change -/
theorem StRow.keep {w w' : World} {lo : Nat} {K : Nat → Prop} {d : Nat} {v : Value} {l : List Ev.St1} (h : StRow w lo K d v l) (ho : w.os = w'.os ∧ w.tape = w'.tape ∧ w.output = w'.output) (hs : w.heap.size ≤ w'.heap.size) (hk : ∀ k, (K k ∨ v.ownBlock = some k) → k < w.heap.size → w'.heap[k]? = w.heap[k]?) : StRow w' lo K d v l := by
  obtain ⟨vs, h1, h2, h3⟩ := h
  refine ⟨vs, h1, ?_, fun j t x ht hx => ((h3 j t x ht hx).keep hs (fun k hk' hkl => hk k (.inl hk'.1) hkl)).wide (fun k hk' => ⟨hk'.1, by omega, hk'.2.2⟩)⟩
  refine ⟨h2.1, ?_⟩
  rcases h2.2 with hn | ⟨g, cap, cur, rfl, hb, hg, rest⟩
  · exact .inl hn
  · exact .inr ⟨g, cap, cur, rfl, hb, (hk g (.inr rfl) (Array.getElem?_eq_some_iff.1 hg).1).trans hg, rest⟩
theorem Tryd.stmtInfo : (Tryd.prog.info? 109).map (fun i => (i.zero, i.size, i.bytes)) = some (some (.agg #[.int .i64 0, .int .i64 0, .string ⟨#[]⟩, .bool false, .slice none 0 0, .slice none 0 0, .slice none 0 0]), 7, 112) := by kernel_rfl
/-- a whole element of a row of one's own is set: the last one -/
theorem row_put {w : World} {lo s n cap g : Nat} {T : TypeId} {xs zs : List Value} {cells : Array Value} (h : w.ownsRow lo T s (.slice (some ⟨g, 0, none⟩) (n + 1) cap) (n + 1) (xs ++ zs)) (hz : zs.length = s) (hc : cells.size = s) :
    w.there g (n * s) cells.size ∧ (w.setCells g (n * s) cells.toList).ownsRow lo T s (.slice (some ⟨g, 0, none⟩) (n + 1) cap) (n + 1) (xs ++ cells.toList) := by
  have hxl : xs.length = n * s := by
    have := h.1
    rw [List.length_append, hz, Nat.succ_mul] at this
    omega
  rcases h.2 with ⟨e, _⟩ | ⟨g', cap', cur, e, hb, hg, h1, h2, h3, h4⟩
  · cases e
  · injection e with e1 e2 e3
    injection e1 with e1
    injection e1 with e1 _ _
    subst e1 e3
    have hcl : cur.toList.length = cap * s := by rw [Array.length_toList]; exact h3
    have hns : (n + 1) * s ≤ cap * s := Nat.mul_le_mul_right s h1
    have hsp : cur.toList = xs ++ zs ++ cur.toList.drop ((n + 1) * s) := by
      rw [← h4, List.take_append_drop]
    have hg' : w.heap[g]? = some (.cells (xs ++ zs ++ cur.toList.drop ((n + 1) * s)).toArray T (0, 0)) := by
      rw [← hsp]; simpa using hg
    constructor
    · intro j hj
      have hlt : n * s + j < cur.size := by rw [h3]; rw [Nat.succ_mul] at hns; omega
      refine ⟨?_, ?_⟩
      · unfold World.cell?
        rw [hg]
        simp [hlt]
      · unfold World.frozen?
        rw [hg]
        simp
    · have h5 := setCells_same (T := T) cells.toList xs zs (cur.toList.drop ((n + 1) * s)) w hg' (by simpa using hz.trans hc.symm)
      rw [hxl] at h5
      have hcc : cells.toList.length = s := by simp [hc]
      have hxc : (xs ++ cells.toList).length = (n + 1) * s := by rw [List.length_append, hxl, hcc, Nat.succ_mul]
      refine ⟨hxc, .inr ⟨g, cap, _, rfl, hb, h5, h1, h2, ?_, ?_⟩⟩
      · show (xs ++ cells.toList ++ cur.toList.drop ((n + 1) * s)).toArray.size = cap * s
        rw [List.size_toArray, List.length_append, hxc, List.length_drop, hcl]
        omega
      · show (xs ++ cells.toList ++ cur.toList.drop ((n + 1) * s)).toArray.toList.take ((n + 1) * s) = _
        rw [List.toList_toArray, List.take_append_of_le_length (by rw [hxc]; exact Nat.le_refl _), List.take_of_length_le (by rw [hxc]; exact Nat.le_refl _)]
end Go.Proofs.YtpbflgemhcaooaaDoor
/- The document's reader: an expression; what its head is. -/
namespace Ev
open Go
structure HeadX where
  kind : Int
  n : Int
  name : List UInt8
  count : Nat
  q : PS
def headW (v : List UInt8) (p : PS) : HeadX :=
  if v = [115, 101, 108] then ⟨4, 0, [], 3, p⟩ else if v = [97, 116] then ⟨5, 0, (nameW p).1, 1, (nameW p).2⟩ else ⟨3, signOf v, [], 2, if signOf v = 0 then p.bad 1 else p⟩
def callW (f : PS → Ex × PS) (h : HeadX) : Ex × PS := (.mk h.kind h.n h.name (timesW f h.count h.q).1, isW [41] (timesW f h.count h.q).2)
theorem expr_paren {d : Nat} {p : PS} (h : (takeW p).1 = [40]) : exprW (d + 1) p = callW (exprW d) (headW (takeW (takeW p).2).1 (takeW (takeW p).2).2) := by
  rw [exprW]
  dsimp only
  rw [if_neg (by rw [h]; exact fun e => e rfl)]
  unfold headW callW
  generalize (takeW (takeW p).2).1 = v at *
  generalize (takeW (takeW p).2).2 = q at *
  by_cases h1 : v = [115, 101, 108]
  · rw [if_pos h1, if_pos h1]
  · rw [if_neg h1, if_neg h1]
    by_cases h2 : v = [97, 116]
    · rw [if_pos h2, if_pos h2]
    · rw [if_neg h2, if_neg h2]
theorem expr_num {d : Nat} {p : PS} (h : (takeW p).1 ≠ [40]) (hn : numOk (takeW p).1 = true) : exprW (d + 1) p = (.mk 1 (atoiN (takeW p).1) [] [], (takeW p).2) := by
  rw [exprW]
  dsimp only
  rw [if_pos h, if_pos hn]
theorem expr_name {d : Nat} {p : PS} (h : (takeW p).1 ≠ [40]) (hn : numOk (takeW p).1 = false) : exprW (d + 1) p = (.mk 2 0 (takeW p).1 [], if nameOk (takeW p).1 = true then (takeW p).2 else (takeW p).2.bad 7) := by
  rw [exprW]
  dsimp only
  rw [if_pos h, if_neg (by rw [hn]; decide)]
end Ev
namespace Go.Proofs.YtpbflgemhcaooaaDoor
open Go.RowKit
set_option linter.unusedSimpArgs false
set_option linter.unusedVariables false
def signCells : Array Value := (([] :: Ev.opSigns).map strW).toArray
theorem signs_at {k : Nat} (h : k < 13) {x : List UInt8} (hx : ([] :: Ev.opSigns).getD k [] = x) : signCells[k]? = some (.string ⟨(x).toArray⟩) := by
  unfold signCells
  rw [List.getElem?_toArray, List.getElem?_map]
  have : k < ([] :: Ev.opSigns).length := h
  rw [List.getD_eq_getElem?_getD, List.getElem?_eq_getElem this] at hx
  rw [List.getElem?_eq_getElem this]
  simp at hx
  rw [hx]
  rfl
set_option maxHeartbeats 800000 in
theorem signs_any (w : World) :
    Calls Tryd.prog 124 #[] w fun e w' => e = .returned (.slice (some ⟨w.heap.size, 0, none⟩) 13 13) ∧ w' = w.alloc (.cells signCells 9) := by
  go_enter Tryd.func124, Tryd.ntmps124
  go_wp2
  go_ret
  exact ⟨rfl, rfl⟩
/-- what holds behind the head of an expression -/
structure HeadAt (w wx : World) (b t8 : Nat) (h : Ev.HeadX) : Prop where
  at_ : PAt wx b h.q
  fr : PFr b w wx
  r4 : wx.heap[w.heap.size]? = some (.cells #[.int .i64 0, .int .i64 0, .string ⟨#[]⟩, .slice none 0 0] 140 (0, 0))
  r8 : wx.heap[t8]? = some (.cells #[.int .i64 h.kind, .int .i64 h.n, .string ⟨h.name.toArray⟩, .slice none 0 0] 140 (0, 0))
theorem signTo_le (v : List UInt8) : ∀ k, Ev.signTo v k ≤ k
  | 0 => Nat.le_refl _
  | k + 1 => by
    unfold Ev.signTo
    split
    · exact Nat.le_refl _
    · exact Nat.le_succ_of_le (signTo_le v k)
end Go.Proofs.YtpbflgemhcaooaaDoor
