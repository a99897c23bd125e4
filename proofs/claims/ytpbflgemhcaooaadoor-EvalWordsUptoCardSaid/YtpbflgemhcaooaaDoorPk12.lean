import Derived.Test.YtpbflgemhcaooaaDoorPk10
import Derived.Test.YtpbflgemhcaooaaDoorPk11
import Derived.Test.YtpbflgemhcaooaaDoorPk9
/- The document's reader: one statement more on a list (a closure): what holds ahead of it, and behind it. -/
namespace Go.Proofs.YtpbflgemhcaooaaDoor
open Go.RowKit
set_option linter.unusedSimpArgs false
set_option linter.unusedVariables false
/-- what a statement's reader does -/
def StDoes (d : Nat) : Prop := ∀ (p : Ev.PS) (b : Nat) (w : World), PAt w b p → p.s.length ≤ 1200 → VarsP b w →
  Calls Tryd.prog 88 #[.pointer (some ⟨b, 0, none⟩), .int .i64 (9 - (d : Int))] w fun e w' => ∃ x, e = .returned (stV (Ev.stmtW d p).1 x) ∧ RParts d w' (fun k => w.heap.size ≤ k ∧ k < w'.heap.size) (Ev.stmtW d p).1 x ∧ PAt w' b (Ev.stmtW d p).2 ∧ PFr b w w'
/-- where the closure's things lie -/
structure SB where
  w0 : World
  b : Nat
  lb : Nat
  pb : Nat
  dk : Nat
  d : Nat
  hb : b < w0.heap.size
  h1 : w0.heap.size ≤ lb
  h2 : w0.heap.size ≤ pb
  h3 : w0.heap.size ≤ dk
  n1 : lb ≠ pb
  n2 : lb ≠ dk
def SB.K (B : SB) : Nat → Prop := fun k => B.w0.heap.size ≤ k ∧ k ≠ B.lb ∧ k ≠ B.pb ∧ k ≠ B.dk
/-- what holds between two statements -/
structure SI (B : SB) (u : World) (va : Value) (l : List Ev.St1) : Prop where
  fr : PFr B.b B.w0 u
  rp : u.heap[B.pb]? = some (.cells #[.pointer (some ⟨B.b, 0, none⟩)] 81 (0, 0))
  rd : u.heap[B.dk]? = some (.cells #[.int .i64 (9 - (B.d : Int))] 3 (0, 0))
  rl : u.heap[B.lb]? = some (.cells #[va] 23 (0, 0))
  row : StRow u B.w0.heap.size B.K B.d va l
  o1 : va.ownBlock ≠ some B.lb
  o2 : va.ownBlock ≠ some B.pb
  o3 : va.ownBlock ≠ some B.dk
theorem SI.own {B : SB} {u : World} {va : Value} {l : List Ev.St1} (h : SI B u va l) : ∃ vs : List V3, vs.length = l.length ∧ u.ownsRow B.w0.heap.size 109 7 va l.length (stCells l vs) := by
  obtain ⟨vs, h1, h2, _⟩ := h.row
  exact ⟨vs, h1, h2⟩
theorem SI.ol {B : SB} {u : World} {va : Value} {l : List Ev.St1} (h : SI B u va l) : ∀ k, va.ownBlock = some k → B.w0.heap.size ≤ k ∧ k < u.heap.size := by
  obtain ⟨vs, _, h2⟩ := h.own
  exact h2.lt
/-- it stays, where only the reader's block and new ones are changed -/
theorem SI.move {B : SB} {u u' : World} {va : Value} {l : List Ev.St1} (h : SI B u va l) (hF : PFr B.b u u') : SI B u' va l := by
  have hb := B.hb
  have h1 := B.h1
  have h2 := B.h2
  have h3 := B.h3
  have lt : ∀ {k o}, u.heap[k]? = some o → k < u.heap.size := fun h => (Array.getElem?_eq_some_iff.1 h).1
  refine ⟨h.fr.trans hF, (hF.block _ (lt h.rp) (by omega)).trans h.rp, (hF.block _ (lt h.rd) (by omega)).trans h.rd, (hF.block _ (lt h.rl) (by omega)).trans h.rl, ?_, h.o1, h.o2, h.o3⟩
  refine h.row.keep ⟨hF.os.symm, hF.tape.symm, hF.output.symm⟩ hF.size (fun k hk hkl => hF.block k hkl ?_)
  rcases hk with hk | hk
  · have := hk.1; omega
  · have := (h.ol k hk).1; omega
/-- the last steps: the row has grown, and is set; the list is the new row -/
theorem SI.last {B : SB} {u Z w7 W : World} {va : Value} {l : List Ev.St1} {q1 : Ev.PS} {g g7 c7 : Nat} {t : Ev.St1} {x : V3} {vs : List V3} (h : SI B u va l) (hF : PFr B.b u Z) (hA : PAt Z B.b q1) (hv1 : vs.length = l.length)
    (hv3 : ∀ (j : Nat) t x, l[j]? = some t → vs[j]? = some x → RParts B.d u (fun k => B.K k ∧ k < u.heap.size ∧ va.ownBlock ≠ some k) t x)
    (hg : u.heap.size ≤ g) (hgz : g < Z.heap.size) (hx : RParts B.d Z (fun k => u.heap.size ≤ k ∧ k < Z.heap.size ∧ k ≠ g) t x) (h7 : Z.grownBy w7 va.ownBlock)
    (hat : (Value.slice (some ⟨g7, 0, none⟩) (l.length + 1) c7).ownBlock = va.ownBlock ∨ (Value.slice (some ⟨g7, 0, none⟩) (l.length + 1) c7).ownBlock = some Z.heap.size)
    (hos : W.os = w7.os ∧ W.tape = w7.tape ∧ W.output = w7.output) (hsz : W.heap.size = w7.heap.size) (hlb : W.heap[B.lb]? = some (.cells #[.slice (some ⟨g7, 0, none⟩) (l.length + 1) c7] 23 (0, 0)))
    (hown : W.ownsRow B.w0.heap.size 109 7 (.slice (some ⟨g7, 0, none⟩) (l.length + 1) c7) (l.length + 1) (stCells l vs ++ st7 t x)) (hoth : ∀ k, k ≠ B.lb → k ≠ g7 → W.heap[k]? = w7.heap[k]?) :
    SI B W (.slice (some ⟨g7, 0, none⟩) (l.length + 1) c7) (l ++ [t]) ∧ PAt W B.b q1 := by
  have hb := B.hb
  have h1 := B.h1
  have h2 := B.h2
  have h3 := B.h3
  have n1 := B.n1
  have n2 := B.n2
  have lt : ∀ {k o}, u.heap[k]? = some o → k < u.heap.size := fun h => (Array.getElem?_eq_some_iff.1 h).1
  have s1 := hF.size
  have s2 := h7.size
  have hw0 := h.fr.size
  have e7 : g7 = g7 := rfl
  have g7c : va.ownBlock = some g7 ∨ g7 = Z.heap.size := by
    rcases hat with h | h
    · exact .inl h.symm
    · right; simp [Value.ownBlock] at h; exact h
  have ge7 : B.w0.heap.size ≤ g7 ∧ g7 ≠ B.lb ∧ g7 ≠ B.pb ∧ g7 ≠ B.dk := by
    rcases g7c with e | e
    · exact ⟨(h.ol g7 e).1, fun h' => h.o1 (h' ▸ e), fun h' => h.o2 (h' ▸ e), fun h' => h.o3 (h' ▸ e)⟩
    · have := lt h.rl; have := lt h.rp; have := lt h.rd
      exact ⟨by omega, by omega, by omega, by omega⟩
  -- what was there, but for the reader's block, the list's, the row
  have st : ∀ k, k < u.heap.size → k ≠ B.b → k ≠ B.lb → va.ownBlock ≠ some k → W.heap[k]? = u.heap[k]? := fun k hk hk1 hk2 hk3 => by
    rw [hoth k hk2 (by
      rcases g7c with e | e
      · exact fun h' => hk3 (h' ▸ e)
      · omega), h7.block k (by omega) (fun e => hk3 e.symm), hF.block k hk hk1]
  have sn : ∀ k, u.heap.size ≤ k → k < Z.heap.size → W.heap[k]? = Z.heap[k]? := fun k hk1 hk2 => by
    have hol := h.ol
    rw [hoth k (by have := lt h.rl; omega) (by
      rcases g7c with e | e
      · have := (hol g7 e).2; omega
      · omega), h7.block k hk2 (fun e => by have := (hol k e.symm).2; omega)]
  have on : ∀ k, va.ownBlock ≠ some k → k < Z.heap.size → (Value.slice (some ⟨g7, 0, none⟩) (l.length + 1) c7).ownBlock ≠ some k := fun k hk1 hk2 e => by
    simp [Value.ownBlock] at e
    rcases g7c with e' | e'
    · exact hk1 (e ▸ e')
    · omega
  have ol := h.ol
  constructor
  · refine ⟨⟨hos.1.trans (h7.os.trans (hF.os.trans h.fr.os)), hos.2.1.trans (h7.tape.trans (hF.tape.trans h.fr.tape)), hos.2.2.trans (h7.output.trans (hF.output.trans h.fr.output)), by omega, fun k hk hne => (st k (by omega) hne (by omega) (fun e => by have := (ol k e).1; omega)).trans (h.fr.block k hk hne)⟩,
      (st _ (lt h.rp) (by omega) (fun e => n1 e.symm) h.o2).trans h.rp, (st _ (lt h.rd) (by omega) (fun e => n2 e.symm) h.o3).trans h.rd, hlb, ?_, ?_, ?_, ?_⟩
    · refine ⟨vs ++ [x], by simp [hv1], ?_, fun j y z hy hz => ?_⟩
      · rw [stCells_snoc l vs t x hv1, List.length_append]
        exact hown
      · by_cases hi : j < l.length
        · rw [List.getElem?_append_left hi] at hy
          rw [List.getElem?_append_left (by omega)] at hz
          refine ((hv3 j y z hy hz).keep (by omega) (fun k hk hkl => st k hkl (by have := hk.1.1; omega) hk.1.2.1 hk.2.2)).wide (fun k hk => ⟨hk.1, by omega, on k hk.2.2 (by omega)⟩)
        · rw [List.getElem?_append_right (by omega)] at hy
          rw [List.getElem?_append_right (by omega)] at hz
          have hi0 : j = l.length := by
            by_cases h : j = l.length
            · exact h
            · rw [List.getElem?_eq_none (by simp; omega)] at hy; cases hy
          subst hi0
          rw [hv1] at hz
          simp at hy hz
          subst hy hz
          refine (hx.keep (by omega) (fun k hk hkl => sn k hk.1 hk.2.1)).wide (fun k hk => ⟨⟨by omega, by have := lt h.rl; omega, by have := lt h.rp; omega, by have := lt h.rd; omega⟩, by omega, on k (fun e => by have := (ol k e).2; omega) hk.2.1⟩)
    · simp [Value.ownBlock]; exact ge7.2.1
    · simp [Value.ownBlock]; exact ge7.2.2.1
    · simp [Value.ownBlock]; exact ge7.2.2.2
  · have hbl := hA.lt
    rw [show PAt W B.b q1 ↔ W.heap[B.b]? = some (.cells (psCells q1) 83 (0, 0)) from Iff.rfl, hoth B.b (by omega) (by omega), h7.block B.b hbl (fun e => by have := (ol B.b e.symm).1; omega)]
    exact hA
end Go.Proofs.YtpbflgemhcaooaaDoor
/- The document's reader: one statement more on a list (a closure): the walk. -/
namespace Go.Proofs.YtpbflgemhcaooaaDoor
open Go.RowKit
set_option linter.unusedSimpArgs false
set_option linter.unusedVariables false
def zero7 : List Value := [.int .i64 0, .int .i64 0, .string ⟨#[]⟩, .bool false, .slice none 0 0, .slice none 0 0, .slice none 0 0]
theorem zero7_one : ∀ u ∈ zero7, u.oneCell' = true := fun x hx => by
  simp [zero7] at hx
  rcases hx with rfl | rfl | rfl | rfl | rfl | rfl | rfl <;> rfl
theorem set_two {w : World} {lb g o : Nat} {T : TypeId} {old v : Value} {cells : List Value} (hl : w.heap[lb]? = some (.cells #[old] T (0, 0))) (hne : g ≠ lb) :
    (((w.setCells g o cells).setCell ⟨lb, 0, none⟩ v).os = w.os ∧ ((w.setCells g o cells).setCell ⟨lb, 0, none⟩ v).tape = w.tape ∧ ((w.setCells g o cells).setCell ⟨lb, 0, none⟩ v).output = w.output) ∧
    ((w.setCells g o cells).setCell ⟨lb, 0, none⟩ v).heap.size = w.heap.size ∧ ((w.setCells g o cells).setCell ⟨lb, 0, none⟩ v).heap[lb]? = some (.cells #[v] T (0, 0)) ∧
    (∀ k, k ≠ lb → k ≠ g → ((w.setCells g o cells).setCell ⟨lb, 0, none⟩ v).heap[k]? = w.heap[k]?) := by
  have h := setCells_other (b := g) cells o w
  have hll := (Array.getElem?_eq_some_iff.1 hl).1
  refine ⟨⟨h.os, h.tape, h.output⟩, by simp [setCells_size], ?_, fun k h1 h2 => ?_⟩
  · rw [heap_setCell_same _ lb 0 _ _ v ((h.block lb hll (fun e => hne e.symm)).trans hl)]
    rfl
  · rw [Below.heap_setCell _ ⟨lb, 0, none⟩ v k h1]
    by_cases hk : k < w.heap.size
    · exact h.block k hk h2
    · rw [Array.getElem?_eq_none (by rw [setCells_size]; omega), Array.getElem?_eq_none (by omega)]
theorem set_two' {w : World} {lb g o : Nat} {T : TypeId} {old v : Value} {cells : List Value} (hl : w.heap[lb]? = some (.cells #[old] T (0, 0))) (hne : g ≠ lb) :
    (((w.setCell ⟨lb, 0, none⟩ v).setCells g o cells).os = w.os ∧ ((w.setCell ⟨lb, 0, none⟩ v).setCells g o cells).tape = w.tape ∧ ((w.setCell ⟨lb, 0, none⟩ v).setCells g o cells).output = w.output) ∧
    ((w.setCell ⟨lb, 0, none⟩ v).setCells g o cells).heap.size = w.heap.size ∧ ((w.setCell ⟨lb, 0, none⟩ v).setCells g o cells).heap[lb]? = some (.cells #[v] T (0, 0)) ∧
    (∀ k, k ≠ lb → k ≠ g → ((w.setCell ⟨lb, 0, none⟩ v).setCells g o cells).heap[k]? = w.heap[k]?) := by
  have h := setCells_other (b := g) cells o (w.setCell ⟨lb, 0, none⟩ v)
  have hll := (Array.getElem?_eq_some_iff.1 hl).1
  have h2 := heap_setCell_same w lb 0 _ _ v hl
  refine ⟨⟨h.os, h.tape, h.output⟩, by simp [setCells_size], ?_, fun k h3 h4 => ?_⟩
  · rw [h.block lb (by simpa using hll) (fun e => hne e.symm), h2]
    rfl
  · by_cases hk : k < w.heap.size
    · rw [h.block k (by simpa using hk) h4, Below.heap_setCell w ⟨lb, 0, none⟩ v k h3]
    · rw [Array.getElem?_eq_none (by rw [setCells_size]; simp; omega), Array.getElem?_eq_none (by omega)]
theorem own_form {w : World} {lo s n : Nat} {T : TypeId} {v : Value} {xs : List Value} (h : w.ownsRow lo T s v (n + 1) xs) : ∃ g c, v = .slice (some ⟨g, 0, none⟩) (n + 1) c := by
  rcases h.2 with ⟨_, h⟩ | ⟨g, cap, cur, e, _⟩
  · omega
  · exact ⟨g, cap, e⟩
theorem cell_same {w w' : World} {b o : Nat} (h : w'.heap[b]? = w.heap[b]?) : w'.cell? ⟨b, o, none⟩ = w.cell? ⟨b, o, none⟩ := by
  unfold World.cell?
  dsimp only
  rw [h]
theorem free_same {w : World} {b j : Nat} {cs : Array Value} {T : TypeId} (h : w.heap[b]? = some (.cells cs T (0, 0))) : w.frozen? ⟨b, j, none⟩ = false := by
  unfold World.frozen?
  rw [h]
  simp
def treeT : Tr := .light 1 (.light 2 (.any [0, 3, 5] fun i => match i with
  | 0 => .light 4 (.any [3, 5] fun i => match i with
    | 3 => .any [5] fun _ => .nil
    | _ => .any [3] fun _ => .nil)
  | 3 => .any [0, 5] fun i => match i with
    | 0 => .light 4 (.any [5] fun _ => .nil)
    | _ => .any [0] fun _ => .light 4 .nil
  | _ => .any [0, 3] fun i => match i with
    | 0 => .light 4 (.any [3] fun _ => .nil)
    | _ => .any [0] fun _ => .light 4 .nil))
def tailT : Tr := .any [6] fun _ => .light 7 (.any [8, 9] fun i => match i with | 8 => .any [9] fun _ => .nil | _ => .any [8] fun _ => .nil)
theorem leaf_at {P : Program} {ops : Array Oper} {Q : Exit → Act → World → Prop} {S : World → Prop} {T : Act → World → Prop} {a : Act} {w : World} (h : T a w) : branch P ops (onNormal T Q) S .nil a w := h
set_option maxRecDepth 6000 in
set_option maxHeartbeats 12800000 in
theorem stmts1_any (B : SB) (hd : B.d ≤ 9) (ih : StDoes B.d) (u0 : World) (va : Value) (l : List Ev.St1) (q : Ev.PS) (hS0 : SI B u0 va l) (hA0 : PAt u0 B.b q) (hq : q.s.length ≤ 1200) (hv0 : VarsP B.b u0) (hl : l.length ≤ 1200) :
    Calls Tryd.prog 87 #[.pointer (some ⟨B.lb, 0, none⟩), .pointer (some ⟨B.pb, 0, none⟩), .pointer (some ⟨B.dk, 0, none⟩)] u0 fun e u' => e = .returned (.tuple #[]) ∧ (∃ va', SI B u' va' (l ++ [(Ev.stmtW B.d q).1])) ∧ PAt u' B.b (Ev.stmtW B.d q).2 := by
  obtain ⟨t, ht⟩ : ∃ t, (Ev.stmtW B.d q).1 = t := ⟨_, rfl⟩
  obtain ⟨q1, hq1⟩ : ∃ q1, (Ev.stmtW B.d q).2 = q1 := ⟨_, rfl⟩
  have CI := Lib.hid (fun u hu hw => ih q B.b u hu hq hw)
  rw [ht, hq1] at CI ⊢
  simp only [stV] at CI
  clear ht hq1 ih
  have HS0 := Lib.hid hS0
  have HA0 := Lib.hid hA0
  have HV0 := Lib.hid hv0
  clear hS0 hA0 hv0
  go_enter Tryd.func87, Tryd.ntmps87
  go_upto_region 0 with fail
  have HF0 : PFr B.b u0 u0.drew := PFr.of ((Below.refl _ _).drew)
  have HS := Lib.hid (HS0.out.move HF0)
  have HA := Lib.hid (show PAt u0.drew B.b q from HA0.out)
  have HV := Lib.hid (HV0.out.to HF0)
  clear HF0 HS0 HA0 HV0
  obtain ⟨u, hu⟩ : ∃ u, u0.drew = u := ⟨_, rfl⟩
  rw [hu] at HS HA HV
  have HU := Lib.hid hu
  clear hu
  obtain ⟨vs, hv1, hv2, hv3⟩ := HS.out.row
  obtain ⟨A, cc, rfl, hc1, hc2⟩ := SL.form (SL.of_own hv2)
  have HV1 := Lib.hid hv1
  have HV2 := Lib.hid hv2
  have HV3 := Lib.hid hv3
  clear hv1 hv2 hv3
  obtain ⟨i1, hi1, hz0, hz1, hz2⟩ := info_parts Tryd.stmtInfo
  have IC := Lib.hid (⟨hi1, hz0, hz1, hz2⟩ : _ ∧ _ ∧ _ ∧ _)
  clear hi1 hz0 hz1 hz2
  have hb0 := B.hb
  have h1 := B.h1
  have h2 := B.h2
  have h3 := B.h3
  have zl := (Array.getElem?_eq_some_iff.1 HS.out.rl).1
  have zp := (Array.getElem?_eq_some_iff.1 HS.out.rp).1
  have zd := (Array.getElem?_eq_some_iff.1 HS.out.rd).1
  have hw0 := HS.out.fr.size
  refine wp_region_graft (fun w' => w'.cell? ⟨B.pb, 0, none⟩ = some (.pointer (some ⟨B.b, 0, none⟩)) ∧ w'.cell? ⟨B.dk, 0, none⟩ = some (.int .i64 (9 - (B.d : Int))))
    (fun a Z => ∃ g x, a = ⟨#[.pointer (some ⟨B.lb, 0, none⟩), .pointer (some ⟨B.pb, 0, none⟩), .pointer (some ⟨B.dk, 0, none⟩), .slice A l.length cc, .pointer (some ⟨B.b, 0, none⟩), .int .i64 (9 - (B.d : Int)), .agg #[.int .i64 t.kind, .int .i64 t.n, .string ⟨t.name.toArray⟩, .bool t.secret, x.1, x.2.1, x.2.2], .int .i64 (l.length : Int), .slice (some ⟨g, 0, none⟩) 1 1, undef, undef], []⟩ ∧ PFr B.b u Z ∧ PAt Z B.b q1 ∧ u.heap.size ≤ g ∧ Z.heap[g]? = some (.cells zero7.toArray 109 (0, 0)) ∧ RParts B.d Z (fun k => u.heap.size ≤ k ∧ k < Z.heap.size ∧ k ≠ g) t x)
    treeT tailT (by kernel_rfl) (by kernel_rfl) (by kernel_rfl) (by kernel_rfl) (by rw [HU.out]; exact ⟨(cell_of_block HS.out.rp 0).trans rfl, (cell_of_block HS.out.rd 0).trans rfl⟩) ?_ ?_
  ·
    rw [HU.out]
    obtain ⟨X, hX⟩ : ∃ X, X = u.alloc (.cells #[.int .i64 0, .int .i64 0, .string ⟨#[]⟩, .bool false, .slice none 0 0, .slice none 0 0, .slice none 0 0] 109) := ⟨_, rfl⟩
    have hXe : u.alloc (.cells #[.int .i64 0, .int .i64 0, .string ⟨#[]⟩, .bool false, .slice none 0 0, .slice none 0 0, .slice none 0 0] 109) = X := hX.symm
    have BX : Below u.heap.size u X := by rw [hX]; exact (Below.refl _ _).alloc (Nat.le_refl _) _
    have gX : X.heap[u.heap.size]? = some (.cells zero7.toArray 109 (0, 0)) := by rw [hX]; exact heap_alloc_new _ _
    have sX : X.heap.size = u.heap.size + 1 := by rw [hX]; simp
    have LCB : ∀ Y x, RParts B.d Y (fun k => u.heap.size ≤ k ∧ k < Y.heap.size) t x → PAt Y B.b q1 → PFr B.b u Y → PFr B.b u (Y.alloc (.cells #[.int .i64 0, .int .i64 0, .string ⟨#[]⟩, .bool false, .slice none 0 0, .slice none 0 0, .slice none 0 0] 109)) ∧ PAt (Y.alloc (.cells #[.int .i64 0, .int .i64 0, .string ⟨#[]⟩, .bool false, .slice none 0 0, .slice none 0 0, .slice none 0 0] 109)) B.b q1 ∧ u.heap.size ≤ Y.heap.size ∧ (Y.alloc (.cells #[.int .i64 0, .int .i64 0, .string ⟨#[]⟩, .bool false, .slice none 0 0, .slice none 0 0, .slice none 0 0] 109)).heap[Y.heap.size]? = some (.cells zero7.toArray 109 (0, 0)) ∧ RParts B.d (Y.alloc (.cells #[.int .i64 0, .int .i64 0, .string ⟨#[]⟩, .bool false, .slice none 0 0, .slice none 0 0, .slice none 0 0] 109)) (fun k => u.heap.size ≤ k ∧ k < (Y.alloc (.cells #[.int .i64 0, .int .i64 0, .string ⟨#[]⟩, .bool false, .slice none 0 0, .slice none 0 0, .slice none 0 0] 109)).heap.size ∧ k ≠ Y.heap.size) t x := fun Y x hx hA hF => by
      have hb : Below Y.heap.size Y (Y.alloc (.cells #[.int .i64 0, .int .i64 0, .string ⟨#[]⟩, .bool false, .slice none 0 0, .slice none 0 0, .slice none 0 0] 109)) := (Below.refl _ _).alloc (Nat.le_refl _) _
      exact ⟨hF.on hb, hA.stays hb, hF.size, heap_alloc_new _ _, (hx.keep hb.size (fun k hk hkl => hb.block k hkl)).wide (fun k hk => ⟨hk.1, Nat.lt_of_lt_of_le hk.2 hb.size, by omega⟩)⟩
    have LBC : ∀ Y x, RParts B.d Y (fun k => X.heap.size ≤ k ∧ k < Y.heap.size) t x → PAt Y B.b q1 → PFr B.b X Y → PFr B.b u Y ∧ PAt Y B.b q1 ∧ u.heap.size ≤ u.heap.size ∧ Y.heap[u.heap.size]? = some (.cells zero7.toArray 109 (0, 0)) ∧ RParts B.d Y (fun k => u.heap.size ≤ k ∧ k < Y.heap.size ∧ k ≠ u.heap.size) t x := fun Y x hx hA hF =>
      ⟨(PFr.of BX).trans hF, hA, Nat.le_refl _, (hF.block u.heap.size (by omega) (by omega)).trans gX, hx.wide (fun k hk => ⟨by omega, hk.2, by omega⟩)⟩
    have M_u := HS
    have M_X := Lib.hid (HS.out.move (PFr.of BX))
    have Q_u : PAt u B.b q ∧ VarsP B.b u := ⟨HA.out, HV.out⟩
    have Q_X : PAt X B.b q ∧ VarsP B.b X := ⟨HA.out.stays BX, HV.out.to (PFr.of BX)⟩
    have rp_u : u.cell? ⟨B.pb, 0, none⟩ = some (.pointer (some ⟨B.b, 0, none⟩)) := (cell_of_block HS.out.rp 0).trans rfl
    have rd_u : u.cell? ⟨B.dk, 0, none⟩ = some (.int .i64 (9 - (B.d : Int))) := (cell_of_block HS.out.rd 0).trans rfl
    have rl_u : u.cell? ⟨B.lb, 0, none⟩ = some (.slice A l.length cc) := (cell_of_block HS.out.rl 0).trans rfl
    have rp_X : X.cell? ⟨B.pb, 0, none⟩ = some (.pointer (some ⟨B.b, 0, none⟩)) := (cell_of_block M_X.out.rp 0).trans rfl
    have rd_X : X.cell? ⟨B.dk, 0, none⟩ = some (.int .i64 (9 - (B.d : Int))) := (cell_of_block M_X.out.rd 0).trans rfl
    have rl_X : X.cell? ⟨B.lb, 0, none⟩ = some (.slice A l.length cc) := (cell_of_block M_X.out.rl 0).trans rfl
    have LCBh := Lib.hid LCB
    have LBCh := Lib.hid LBC
    have QuH := Lib.hid Q_u
    have QXH := Lib.hid Q_X
    have HXE := Lib.hid hXe
    clear LCB LBC Q_u Q_X hX hXe BX gX sX HV1 HV2 HV3 IC
    have gm : ((9223372036854775807 : Int) < (l.length : Int)) = False := eq_false (by omega)
    unfold treeT
    apply branch_light
    case hi => (simp only [List.getElem?_toArray, List.getElem?_cons_zero, List.getElem?_cons_succ]; exact rfl)
    case hl => first | exact light_no (by rfl) | ((first | apply light_plain rfl | apply light_yes (by rfl)); intro w9 hS9; obtain ⟨h91, h92⟩ := hS9; first | (go_simp; done) | (go_simp; try rfl))
    case hQ => exact fun _ _ _ h => h
    (try simp only [Act.put, List.setIfInBounds_toArray, List.set_cons_zero, List.set_cons_succ])
    apply branch_light
    case hi => (simp only [List.getElem?_toArray, List.getElem?_cons_zero, List.getElem?_cons_succ]; exact rfl)
    case hl => first | exact light_no (by rfl) | ((first | apply light_plain rfl | apply light_yes (by rfl)); intro w9 hS9; obtain ⟨h91, h92⟩ := hS9; first | (go_simp; done) | (go_simp; try rfl))
    case hQ => exact fun _ _ _ h => h
    (try simp only [Act.put, List.setIfInBounds_toArray, List.set_cons_zero, List.set_cons_succ])
    apply branch_more
    case hi => (simp only [List.getElem?_toArray, List.getElem?_cons_zero, List.getElem?_cons_succ]; exact rfl)
    case h =>
      go_wp2_with fail
      refine ⟨⟨rp_u, rd_u⟩, ?_⟩
      (try simp only [Act.put, List.setIfInBounds_toArray, List.set_cons_zero, List.set_cons_succ])
      apply branch_light
      case hi => (simp only [List.getElem?_toArray, List.getElem?_cons_zero, List.getElem?_cons_succ]; exact rfl)
      case hl => first | exact light_no (by rfl) | ((first | apply light_plain rfl | apply light_yes (by rfl)); intro w9 hS9; obtain ⟨h91, h92⟩ := hS9; first | (go_simp; done) | (go_simp; try rfl))
      case hQ => exact fun _ _ _ h => h
      (try simp only [Act.put, List.setIfInBounds_toArray, List.set_cons_zero, List.set_cons_succ])
      apply branch_more
      case hi => (simp only [List.getElem?_toArray, List.getElem?_cons_zero, List.getElem?_cons_succ]; exact rfl)
      case h =>
        go_wp2_with (go_at_call 88; refine (CI.out _ QuH.out.1 QuH.out.2).mono ?_; rintro e Y ⟨x, rfl, hx5, h5, hF5⟩; have M5 := Lib.hid (M_u.out.move hF5); have rp_Y : Y.cell? ⟨B.pb, 0, none⟩ = some (.pointer (some ⟨B.b, 0, none⟩)) := (cell_of_block M5.out.rp 0).trans rfl; have rd_Y : Y.cell? ⟨B.dk, 0, none⟩ = some (.int .i64 (9 - (B.d : Int))) := (cell_of_block M5.out.rd 0).trans rfl; have rl_Y : Y.cell? ⟨B.lb, 0, none⟩ = some (.slice A l.length cc) := (cell_of_block M5.out.rl 0).trans rfl)
        refine ⟨⟨rp_Y, rd_Y⟩, ?_⟩
        (try simp only [Act.put, List.setIfInBounds_toArray, List.set_cons_zero, List.set_cons_succ])
        apply branch_one
        case hi => (simp only [List.getElem?_toArray, List.getElem?_cons_zero, List.getElem?_cons_succ]; exact rfl)
        case h =>
          go_wp2_with fail
          have MZ := Lib.hid (M5.out.move (PFr.of ((Below.refl Y.heap.size Y).alloc (Nat.le_refl _) (.cells #[.int .i64 0, .int .i64 0, .string ⟨#[]⟩, .bool false, .slice none 0 0, .slice none 0 0, .slice none 0 0] 109))))
          refine ⟨⟨(cell_of_block MZ.out.rp 0).trans rfl, (cell_of_block MZ.out.rd 0).trans rfl⟩, ?_⟩
          (try simp only [Act.put, List.setIfInBounds_toArray, List.set_cons_zero, List.set_cons_succ])
          exact leaf_at ⟨Y.heap.size, x.1, x.2.1, x.2.2, rfl, LCBh.out Y x hx5 h5 hF5⟩
      case hr =>
        apply branch_one
        case hi => (simp only [List.getElem?_toArray, List.getElem?_cons_zero, List.getElem?_cons_succ]; exact rfl)
        case h =>
          go_wp2_with fail
          rw [HXE.out]
          refine ⟨⟨rp_X, rd_X⟩, ?_⟩
          (try simp only [Act.put, List.setIfInBounds_toArray, List.set_cons_zero, List.set_cons_succ])
          apply branch_one
          case hi => (simp only [List.getElem?_toArray, List.getElem?_cons_zero, List.getElem?_cons_succ]; exact rfl)
          case h =>
            go_wp2_with (go_at_call 88; refine (CI.out _ QXH.out.1 QXH.out.2).mono ?_; rintro e Y ⟨x, rfl, hx5, h5, hF5⟩; have M5 := Lib.hid (M_X.out.move hF5); have rp_Y : Y.cell? ⟨B.pb, 0, none⟩ = some (.pointer (some ⟨B.b, 0, none⟩)) := (cell_of_block M5.out.rp 0).trans rfl; have rd_Y : Y.cell? ⟨B.dk, 0, none⟩ = some (.int .i64 (9 - (B.d : Int))) := (cell_of_block M5.out.rd 0).trans rfl; have rl_Y : Y.cell? ⟨B.lb, 0, none⟩ = some (.slice A l.length cc) := (cell_of_block M5.out.rl 0).trans rfl)
            refine ⟨⟨rp_Y, rd_Y⟩, ?_⟩
            (try simp only [Act.put, List.setIfInBounds_toArray, List.set_cons_zero, List.set_cons_succ])
            exact leaf_at ⟨u.heap.size, x.1, x.2.1, x.2.2, rfl, LBCh.out Y x hx5 h5 hF5⟩
    case hr =>
      apply branch_more
      case hi => (simp only [List.getElem?_toArray, List.getElem?_cons_zero, List.getElem?_cons_succ]; exact rfl)
      case h =>
        go_wp2_with (go_at_call 88; refine (CI.out _ QuH.out.1 QuH.out.2).mono ?_; rintro e Y ⟨x, rfl, hx5, h5, hF5⟩; have M5 := Lib.hid (M_u.out.move hF5); have rp_Y : Y.cell? ⟨B.pb, 0, none⟩ = some (.pointer (some ⟨B.b, 0, none⟩)) := (cell_of_block M5.out.rp 0).trans rfl; have rd_Y : Y.cell? ⟨B.dk, 0, none⟩ = some (.int .i64 (9 - (B.d : Int))) := (cell_of_block M5.out.rd 0).trans rfl; have rl_Y : Y.cell? ⟨B.lb, 0, none⟩ = some (.slice A l.length cc) := (cell_of_block M5.out.rl 0).trans rfl)
        refine ⟨⟨rp_Y, rd_Y⟩, ?_⟩
        (try simp only [Act.put, List.setIfInBounds_toArray, List.set_cons_zero, List.set_cons_succ])
        apply branch_more
        case hi => (simp only [List.getElem?_toArray, List.getElem?_cons_zero, List.getElem?_cons_succ]; exact rfl)
        case h =>
          go_wp2_with fail
          refine ⟨⟨rp_Y, rd_Y⟩, ?_⟩
          (try simp only [Act.put, List.setIfInBounds_toArray, List.set_cons_zero, List.set_cons_succ])
          apply branch_light
          case hi => (simp only [List.getElem?_toArray, List.getElem?_cons_zero, List.getElem?_cons_succ]; exact rfl)
          case hl => first | exact light_no (by rfl) | ((first | apply light_plain rfl | apply light_yes (by rfl)); intro w9 hS9; obtain ⟨h91, h92⟩ := hS9; first | (go_simp; done) | (go_simp; try rfl))
          case hQ => exact fun _ _ _ h => h
          (try simp only [Act.put, List.setIfInBounds_toArray, List.set_cons_zero, List.set_cons_succ])
          apply branch_one
          case hi => (simp only [List.getElem?_toArray, List.getElem?_cons_zero, List.getElem?_cons_succ]; exact rfl)
          case h =>
            go_wp2_with fail
            have MZ := Lib.hid (M5.out.move (PFr.of ((Below.refl Y.heap.size Y).alloc (Nat.le_refl _) (.cells #[.int .i64 0, .int .i64 0, .string ⟨#[]⟩, .bool false, .slice none 0 0, .slice none 0 0, .slice none 0 0] 109))))
            refine ⟨⟨(cell_of_block MZ.out.rp 0).trans rfl, (cell_of_block MZ.out.rd 0).trans rfl⟩, ?_⟩
            (try simp only [Act.put, List.setIfInBounds_toArray, List.set_cons_zero, List.set_cons_succ])
            exact leaf_at ⟨Y.heap.size, x.1, x.2.1, x.2.2, rfl, LCBh.out Y x hx5 h5 hF5⟩
        case hr =>
          apply branch_one
          case hi => (simp only [List.getElem?_toArray, List.getElem?_cons_zero, List.getElem?_cons_succ]; exact rfl)
          case h =>
            go_wp2_with fail
            have MZ := Lib.hid (M5.out.move (PFr.of ((Below.refl Y.heap.size Y).alloc (Nat.le_refl _) (.cells #[.int .i64 0, .int .i64 0, .string ⟨#[]⟩, .bool false, .slice none 0 0, .slice none 0 0, .slice none 0 0] 109))))
            refine ⟨⟨(cell_of_block MZ.out.rp 0).trans rfl, (cell_of_block MZ.out.rd 0).trans rfl⟩, ?_⟩
            (try simp only [Act.put, List.setIfInBounds_toArray, List.set_cons_zero, List.set_cons_succ])
            apply branch_one
            case hi => (simp only [List.getElem?_toArray, List.getElem?_cons_zero, List.getElem?_cons_succ]; exact rfl)
            case h =>
              have rl_Z : (Y.alloc (.cells #[.int .i64 0, .int .i64 0, .string ⟨#[]⟩, .bool false, .slice none 0 0, .slice none 0 0, .slice none 0 0] 109)).cell? ⟨B.lb, 0, none⟩ = some (.slice A l.length cc) := (cell_of_block MZ.out.rl 0).trans rfl
              go_wp2_with fail
              refine ⟨⟨(cell_of_block MZ.out.rp 0).trans rfl, (cell_of_block MZ.out.rd 0).trans rfl⟩, ?_⟩
              (try simp only [Act.put, List.setIfInBounds_toArray, List.set_cons_zero, List.set_cons_succ])
              apply branch_light
              case hi => (simp only [List.getElem?_toArray, List.getElem?_cons_zero, List.getElem?_cons_succ]; exact rfl)
              case hl => first | exact light_no (by rfl) | ((first | apply light_plain rfl | apply light_yes (by rfl)); intro w9 hS9; obtain ⟨h91, h92⟩ := hS9; first | (go_simp; done) | (go_simp; try rfl))
              case hQ => exact fun _ _ _ h => h
              (try simp only [Act.put, List.setIfInBounds_toArray, List.set_cons_zero, List.set_cons_succ])
              exact leaf_at ⟨Y.heap.size, x.1, x.2.1, x.2.2, rfl, LCBh.out Y x hx5 h5 hF5⟩
      case hr =>
        apply branch_one
        case hi => (simp only [List.getElem?_toArray, List.getElem?_cons_zero, List.getElem?_cons_succ]; exact rfl)
        case h =>
          go_wp2_with fail
          rw [HXE.out]
          refine ⟨⟨rp_X, rd_X⟩, ?_⟩
          (try simp only [Act.put, List.setIfInBounds_toArray, List.set_cons_zero, List.set_cons_succ])
          apply branch_more
          case hi => (simp only [List.getElem?_toArray, List.getElem?_cons_zero, List.getElem?_cons_succ]; exact rfl)
          case h =>
            go_wp2_with fail
            refine ⟨⟨rp_X, rd_X⟩, ?_⟩
            (try simp only [Act.put, List.setIfInBounds_toArray, List.set_cons_zero, List.set_cons_succ])
            apply branch_light
            case hi => (simp only [List.getElem?_toArray, List.getElem?_cons_zero, List.getElem?_cons_succ]; exact rfl)
            case hl => first | exact light_no (by rfl) | ((first | apply light_plain rfl | apply light_yes (by rfl)); intro w9 hS9; obtain ⟨h91, h92⟩ := hS9; first | (go_simp; done) | (go_simp; try rfl))
            case hQ => exact fun _ _ _ h => h
            (try simp only [Act.put, List.setIfInBounds_toArray, List.set_cons_zero, List.set_cons_succ])
            apply branch_one
            case hi => (simp only [List.getElem?_toArray, List.getElem?_cons_zero, List.getElem?_cons_succ]; exact rfl)
            case h =>
              go_wp2_with (go_at_call 88; refine (CI.out _ QXH.out.1 QXH.out.2).mono ?_; rintro e Y ⟨x, rfl, hx5, h5, hF5⟩; have M5 := Lib.hid (M_X.out.move hF5); have rp_Y : Y.cell? ⟨B.pb, 0, none⟩ = some (.pointer (some ⟨B.b, 0, none⟩)) := (cell_of_block M5.out.rp 0).trans rfl; have rd_Y : Y.cell? ⟨B.dk, 0, none⟩ = some (.int .i64 (9 - (B.d : Int))) := (cell_of_block M5.out.rd 0).trans rfl; have rl_Y : Y.cell? ⟨B.lb, 0, none⟩ = some (.slice A l.length cc) := (cell_of_block M5.out.rl 0).trans rfl)
              refine ⟨⟨rp_Y, rd_Y⟩, ?_⟩
              (try simp only [Act.put, List.setIfInBounds_toArray, List.set_cons_zero, List.set_cons_succ])
              exact leaf_at ⟨u.heap.size, x.1, x.2.1, x.2.2, rfl, LBCh.out Y x hx5 h5 hF5⟩
          case hr =>
            apply branch_one
            case hi => (simp only [List.getElem?_toArray, List.getElem?_cons_zero, List.getElem?_cons_succ]; exact rfl)
            case h =>
              go_wp2_with (go_at_call 88; refine (CI.out _ QXH.out.1 QXH.out.2).mono ?_; rintro e Y ⟨x, rfl, hx5, h5, hF5⟩; have M5 := Lib.hid (M_X.out.move hF5); have rp_Y : Y.cell? ⟨B.pb, 0, none⟩ = some (.pointer (some ⟨B.b, 0, none⟩)) := (cell_of_block M5.out.rp 0).trans rfl; have rd_Y : Y.cell? ⟨B.dk, 0, none⟩ = some (.int .i64 (9 - (B.d : Int))) := (cell_of_block M5.out.rd 0).trans rfl; have rl_Y : Y.cell? ⟨B.lb, 0, none⟩ = some (.slice A l.length cc) := (cell_of_block M5.out.rl 0).trans rfl)
              refine ⟨⟨rp_Y, rd_Y⟩, ?_⟩
              (try simp only [Act.put, List.setIfInBounds_toArray, List.set_cons_zero, List.set_cons_succ])
              apply branch_one
              case hi => (simp only [List.getElem?_toArray, List.getElem?_cons_zero, List.getElem?_cons_succ]; exact rfl)
              case h =>
                go_wp2_with fail
                refine ⟨⟨rp_Y, rd_Y⟩, ?_⟩
                (try simp only [Act.put, List.setIfInBounds_toArray, List.set_cons_zero, List.set_cons_succ])
                apply branch_light
                case hi => (simp only [List.getElem?_toArray, List.getElem?_cons_zero, List.getElem?_cons_succ]; exact rfl)
                case hl => first | exact light_no (by rfl) | ((first | apply light_plain rfl | apply light_yes (by rfl)); intro w9 hS9; obtain ⟨h91, h92⟩ := hS9; first | (go_simp; done) | (go_simp; try rfl))
                case hQ => exact fun _ _ _ h => h
                (try simp only [Act.put, List.setIfInBounds_toArray, List.set_cons_zero, List.set_cons_succ])
                exact leaf_at ⟨u.heap.size, x.1, x.2.1, x.2.2, rfl, LBCh.out Y x hx5 h5 hF5⟩
  ·
    rintro a Z ⟨g, x, rfl, hFZ, hAZ, hg, hgz, hxZ⟩
    have HFZ := Lib.hid hFZ
    have HAZ := Lib.hid hAZ
    have HXZ := Lib.hid hxZ
    have HGZ := Lib.hid hgz
    have MZ := Lib.hid (HS.out.move hFZ)
    have OWN := Lib.hid (kept_ps HV2.out hFZ (fun e => by have := (HS.out.ol _ e).1; omega))
    have zZ := hFZ.size
    have hgl := (Array.getElem?_eq_some_iff.1 hgz).1
    have gix : (l.length : Int) < (l.length : Int) + 1 := by omega
    have gix2 : l.length < l.length + 1 := by omega
    clear hFZ hAZ hxZ hgz CI HA HV
    unfold tailT
    apply branch_one
    case hi => (simp only [List.getElem?_toArray, List.getElem?_cons_zero, List.getElem?_cons_succ]; exact rfl)
    case h =>
    go_wp2_with (at_builtin; refine wpList_append_own_at _ rfl (.tmp 3) (.tmp 8) _ rfl B.w0.heap.size 109 i1 (.agg #[.int .i64 0, .int .i64 0, .string ⟨#[]⟩, .bool false, .slice none 0 0, .slice none 0 0, .slice none 0 0]) 7 112 Tryd.underlying23 IC.out.1 IC.out.2.1 IC.out.2.2.1 IC.out.2.2.2 rfl (by decide) _ _ _ rfl OWN.out ⟨g, 0, none⟩ 1 1 zero7 rfl rfl (fun j y hy => cells_of_block HGZ.out j y (by simpa using hy)) zero7_one (by unfold maxLen; omega) (by omega) (by omega) ?_; intro v7 w7 hown7 hg7 hn7 hat7)
    obtain ⟨g7, c7, rfl⟩ := own_form hown7
    have g7c : (Value.slice A l.length cc).ownBlock = some g7 ∨ g7 = Z.heap.size := by
      rcases hat7 with h | h
      · exact .inl h.symm
      · right; simp [Value.ownBlock] at h; exact h
    have zlZ := Nat.lt_of_lt_of_le zl zZ
    have zpZ := Nat.lt_of_lt_of_le zp zZ
    have zdZ := Nat.lt_of_lt_of_le zd zZ
    have GE : g7 ≠ B.lb ∧ g7 ≠ B.pb ∧ g7 ≠ B.dk := by
      rcases g7c with e | e
      · exact ⟨fun h' => HS.out.o1 (h' ▸ e), fun h' => HS.out.o2 (h' ▸ e), fun h' => HS.out.o3 (h' ▸ e)⟩
      · exact ⟨by omega, by omega, by omega⟩
    have RL7 : w7.heap[B.lb]? = some (.cells #[.slice A l.length cc] 23 (0, 0)) := (hg7.block B.lb zlZ (fun e => HS.out.o1 e.symm)).trans MZ.out.rl
    have RP7 : w7.heap[B.pb]? = some (.cells #[.pointer (some ⟨B.b, 0, none⟩)] 81 (0, 0)) := (hg7.block B.pb zpZ (fun e => HS.out.o2 e.symm)).trans MZ.out.rp
    have RD7 : w7.heap[B.dk]? = some (.cells #[.int .i64 (9 - (B.d : Int))] 3 (0, 0)) := (hg7.block B.dk zdZ (fun e => HS.out.o3 e.symm)).trans MZ.out.rd
    have rp7 : w7.cell? ⟨B.pb, 0, none⟩ = some (.pointer (some ⟨B.b, 0, none⟩)) := (cell_of_block RP7 0).trans rfl
    have rd7 : w7.cell? ⟨B.dk, 0, none⟩ = some (.int .i64 (9 - (B.d : Int))) := (cell_of_block RD7 0).trans rfl
    have rl7 : w7.cell? ⟨B.lb, 0, none⟩ = some (.slice A l.length cc) := (cell_of_block RL7 0).trans rfl
    have fl7 := free_same (j := 0) RL7
    have zl7 := (Array.getElem?_eq_some_iff.1 RL7).1
    have PUT := Lib.hid (row_put (cells := (st7 t x).toArray) hown7 rfl rfl)
    have H7 := Lib.hid hg7
    have HAT := Lib.hid hat7
    have HOWN := Lib.hid hown7
    have HRL7 := Lib.hid RL7
    have n1 := B.n1
    have n2 := B.n2
    clear hown7 hg7 hn7 hat7 RL7 RP7 RD7
    refine ⟨⟨rp7, rd7⟩, ?_⟩
    (try simp only [Act.put, List.setIfInBounds_toArray, List.set_cons_zero, List.set_cons_succ])
    apply branch_light
    case hi => (simp only [List.getElem?_toArray, List.getElem?_cons_zero, List.getElem?_cons_succ]; exact rfl)
    case hl => first | exact light_no (by rfl) | ((first | apply light_plain rfl | apply light_yes (by rfl)); intro w9 hS9; first | (go_simp; done) | (go_simp; try rfl))
    case hQ => exact fun _ _ _ h => h
    (try simp only [Act.put, List.setIfInBounds_toArray, List.set_cons_zero, List.set_cons_succ])
    apply branch_more
    case hi => (simp only [List.getElem?_toArray, List.getElem?_cons_zero, List.getElem?_cons_succ]; exact rfl)
    case h =>
      go_wp2_with (refine wpList_store_mid rfl 109 (.tmp 10) (.tmp 6) rfl g7 (l.length * 7) (st7 t x).toArray rfl rfl PUT.out.1 (by kernel_rfl) (one_seven HXZ.out) ?_)
      have O8 := setCells_other (b := g7) (st7 t x) (l.length * 7) w7
      have rp8 : (w7.setCells g7 (l.length * 7) (st7 t x)).cell? ⟨B.pb, 0, none⟩ = some (.pointer (some ⟨B.b, 0, none⟩)) := (cell_same (O8.block B.pb (by have := H7.out.size; omega) (fun e => GE.2.1 e.symm))).trans rp7
      have rd8 : (w7.setCells g7 (l.length * 7) (st7 t x)).cell? ⟨B.dk, 0, none⟩ = some (.int .i64 (9 - (B.d : Int))) := (cell_same (O8.block B.dk (by have := H7.out.size; omega) (fun e => GE.2.2 e.symm))).trans rd7
      have RL8 := (O8.block B.lb zl7 (fun e => GE.1 e.symm)).trans HRL7.out
      have rl8 : (w7.setCells g7 (l.length * 7) (st7 t x)).cell? ⟨B.lb, 0, none⟩ = some (.slice A l.length cc) := (cell_of_block RL8 0).trans rfl
      have fl8 := free_same (j := 0) RL8
      have OWN8 := Lib.hid (ownsRow_setCell_other (a := ⟨B.lb, 0, none⟩) PUT.out.2 (by simp [Value.ownBlock]; exact GE.1) (.slice (some ⟨g7, 0, none⟩) (l.length + 1) c7))
      have TW := Lib.hid (set_two (lb := B.lb) (g := g7) (o := l.length * 7) (v := .slice (some ⟨g7, 0, none⟩) (l.length + 1) c7) (cells := st7 t x) HRL7.out GE.1)
      have FIN := Lib.hid (HS.out.last HFZ.out HAZ.out HV1.out HV3.out hg hgl HXZ.out H7.out HAT.out TW.out.1 TW.out.2.1 TW.out.2.2.1 OWN8.out TW.out.2.2.2)
      have HZ8 := Lib.hid (⟨rp8, rd8⟩ : _ ∧ _)
      refine ⟨⟨rp8, rd8⟩, ?_⟩
      (try simp only [Act.put, List.setIfInBounds_toArray, List.set_cons_zero, List.set_cons_succ])
      apply branch_one
      case hi => (simp only [List.getElem?_toArray, List.getElem?_cons_zero, List.getElem?_cons_succ]; exact rfl)
      case h =>
      clear O8 RL8
      generalize w7.setCells g7 (l.length * 7) (st7 t x) = w8 at *
      go_wp2_with fail
      refine ⟨⟨(cell_same (Below.heap_setCell w8 ⟨B.lb, 0, none⟩ _ B.pb (fun e => n1 e.symm))).trans rp8, (cell_same (Below.heap_setCell w8 ⟨B.lb, 0, none⟩ _ B.dk (fun e => n2 e.symm))).trans rd8⟩, ?_⟩
      refine branch_nil ?_
      (try go_wp2_with fail)
      go_end0
      exact ⟨rfl, ⟨_, FIN.out.1⟩, FIN.out.2⟩
    case hr =>
      apply branch_one
      case hi => (simp only [List.getElem?_toArray, List.getElem?_cons_zero, List.getElem?_cons_succ]; exact rfl)
      case h =>
      go_wp2_with fail
      have OWN9 := Lib.hid (ownsRow_setCell_other (a := ⟨B.lb, 0, none⟩) HOWN.out (by simp [Value.ownBlock]; exact GE.1) (.slice (some ⟨g7, 0, none⟩) (l.length + 1) c7))
      have PUT9 := Lib.hid (row_put (cells := (st7 t x).toArray) OWN9.out rfl rfl)
      have rp9 := (cell_same (o := 0) (Below.heap_setCell w7 ⟨B.lb, 0, none⟩ (.slice (some ⟨g7, 0, none⟩) (l.length + 1) c7) B.pb (fun e => n1 e.symm))).trans rp7
      have rd9 := (cell_same (o := 0) (Below.heap_setCell w7 ⟨B.lb, 0, none⟩ (.slice (some ⟨g7, 0, none⟩) (l.length + 1) c7) B.dk (fun e => n2 e.symm))).trans rd7
      have TW := Lib.hid (set_two' (lb := B.lb) (g := g7) (o := l.length * 7) (v := .slice (some ⟨g7, 0, none⟩) (l.length + 1) c7) (cells := st7 t x) HRL7.out GE.1)
      have FIN := Lib.hid (HS.out.last HFZ.out HAZ.out HV1.out HV3.out hg hgl HXZ.out H7.out HAT.out TW.out.1 TW.out.2.1 TW.out.2.2.1 PUT9.out.2 TW.out.2.2.2)
      refine ⟨⟨rp9, rd9⟩, ?_⟩
      (try simp only [Act.put, List.setIfInBounds_toArray, List.set_cons_zero, List.set_cons_succ])
      apply branch_one
      case hi => (simp only [List.getElem?_toArray, List.getElem?_cons_zero, List.getElem?_cons_succ]; exact rfl)
      case h =>
      go_wp2_with (refine wpList_store_mid rfl 109 (.tmp 10) (.tmp 6) rfl g7 (l.length * 7) (st7 t x).toArray rfl rfl PUT9.out.1 (by kernel_rfl) (one_seven HXZ.out) ?_)
      have O9 := setCells_other (b := g7) (st7 t x) (l.length * 7) (w7.setCell ⟨B.lb, 0, none⟩ (.slice (some ⟨g7, 0, none⟩) (l.length + 1) c7))
      refine ⟨⟨(cell_same (O9.block B.pb (by simp; have := H7.out.size; omega) (fun e => GE.2.1 e.symm))).trans rp9, (cell_same (O9.block B.dk (by simp; have := H7.out.size; omega) (fun e => GE.2.2 e.symm))).trans rd9⟩, ?_⟩
      refine branch_nil ?_
      (try go_wp2_with fail)
      go_end0
      exact ⟨rfl, ⟨_, FIN.out.1⟩, FIN.out.2⟩
end Go.Proofs.YtpbflgemhcaooaaDoor
/- The document's reader: what goes on up to a bracket: plainly; how far the reader is from its end. -/
namespace Ev
open Go
theorem skip_twice : ∀ s, skipB (skipB s) = skipB s
  | [] => rfl
  | c :: s => by
    by_cases h : blank c = true
    · rw [skip_head h]; exact skip_twice s
    · rw [skip_stop h, skip_stop h]
theorem take_skip (p : PS) : takeW p.skip = takeW p := by
  unfold takeW PS.skip peekW
  dsimp only
  rw [skip_twice]
  unfold PS.bad
  by_cases h : p.err = 0
  · rw [if_pos h, if_pos h]
  · rw [if_neg h, if_neg h]
theorem is_skip (w : List UInt8) (p : PS) : isW w p.skip = isW w p := by
  unfold isW
  rw [take_skip]
theorem all_stop {α : Type} {f : PS → α × PS} {k : Nat} {p : PS} (h : ¬ (p.err = 0 ∧ peekW p.s ≠ [41])) : allW f k p = ([], isW [41] p) := by
  rcases k with _ | k
  · rfl
  · unfold allW
    rw [if_neg h]
/-- one round more -/
theorem all_round {α : Type} {f : PS → α × PS} (hf : ∀ p, Steps p (f p).2) {p : PS} (h : p.err = 0) (h2 : peekW p.s ≠ [41]) :
    allW f (p.s.length + 1) p = ((f p.skip).1 :: (allW f ((f p.skip).2.s.length + 1) (f p.skip).2).1, (allW f ((f p.skip).2.s.length + 1) (f p.skip).2).2) := by
  have hs := hf p.skip
  have hl := skip_le p.s
  have e : allW f p.s.length (f p.skip).2 = allW f ((f p.skip).2.s.length + 1) (f p.skip).2 := by
    refine all_fuel hf _ _ _ _ (Nat.le_refl _) (fun h3 => ?_) (fun _ => by omega)
    rcases hs.2 h with h4 | h4
    · exact absurd h3 h4
    · have h5 : (skipB p.s).length = p.skip.s.length := rfl
      omega
  conv => lhs; unfold allW
  rw [if_pos ⟨h, h2⟩, e]
end Ev
namespace Go.Proofs.YtpbflgemhcaooaaDoor
open Go.RowKit
set_option linter.unusedSimpArgs false
set_option linter.unusedVariables false
/-- how far the reader is from its end -/
def psM (w : World) (b : Nat) : Nat := match w.cell? ⟨b, 1, none⟩ with | some (.int _ n) => if n = 0 then psLen w b + 1 else 0 | _ => 0
theorem psM_at {w : World} {b : Nat} {p : Ev.PS} (h : PAt w b p) : psM w b = if p.err = 0 then p.s.length + 1 else 0 := by
  unfold psM
  rw [h.c1, psLen_at h]
theorem psM_less {w w' : World} {b : Nat} {p q : Ev.PS} (h : PAt w b p) (h' : PAt w' b q) (h0 : p.err = 0) (hs : q.err ≠ 0 ∨ q.s.length < p.s.length) : psM w' b < psM w b := by
  rw [psM_at h, psM_at h', if_pos h0]
  split
  · rcases hs with h1 | h1
    · rename_i h2; exact absurd h2 h1
    · omega
  · omega
end Go.Proofs.YtpbflgemhcaooaaDoor
