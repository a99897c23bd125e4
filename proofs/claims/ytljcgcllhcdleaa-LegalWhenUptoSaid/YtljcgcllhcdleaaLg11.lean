import Derived.Test.YtljcgcllhcdleaaLg2
import Derived.Test.YtljcgcllhcdleaaLg3
import Derived.Test.YtljcgcllhcdleaaLg5
import Derived.Test.YtljcgcllhcdleaaLg8
import Derived.Test.YtljcgcllhcdleaaLg9
import Derived.Test.YtljcgcllhcdleaaLg10
import Derived.Deep.DeepCutAuto
/- legal's maker in memory; it puts instructions, and places. -/
namespace Go.Proofs.Ytljcgcllhcdleaa
open Go.RowKit
set_option linter.unusedSimpArgs false
set_option linter.unusedVariables false
theorem ret_intM {a b : Int} (h : a = b) : Ending.returned (.int .i64 a) = .returned (.int .i64 b) := by rw [h]
theorem box_looseM {w : World} {g : Nat} {cs : Array Value} {t : TypeId} (h : w.heap[g]? = some (.cells cs t (0, 0))) (j : Nat) : w.frozen? ⟨g, j, none⟩ = false := by
  unfold World.frozen?
  rw [h]
  simp
theorem cell_six_mk (w : World) (i : Ev.Instr) (t : TypeId) : ∀ j u, (cellsI i)[j]? = some u → (w.alloc (.cells (cellsI i).toArray t)).cell? ((⟨w.heap.size, 0, none⟩ : Addr).add j) = some u := by
  intro j u hj
  match j, hj with
  | 0, hj => simp [cellsI] at hj; subst hj; simp [Addr.add, cellsI]
  | 1, hj => simp [cellsI] at hj; subst hj; simp [Addr.add, cellsI]
  | 2, hj => simp [cellsI] at hj; subst hj; simp [Addr.add, cellsI]
  | 3, hj => simp [cellsI] at hj; subst hj; simp [Addr.add, cellsI]
  | 4, hj => simp [cellsI] at hj; subst hj; simp [Addr.add, cellsI]
  | 5, hj => simp [cellsI] at hj; subst hj; simp [Addr.add, cellsI]
  | j + 6, hj => simp [cellsI] at hj
theorem one_six_mk (i : Ev.Instr) : ∀ u ∈ cellsI i, u.oneCell' = true := fun x hx => by
  simp [cellsI] at hx
  rcases hx with rfl | rfl | rfl | rfl | rfl | rfl <;> rfl
/-- what stays as it is about a maker: where it lies, from where on all is its own (lo), which blocks nobody touches (K), its other fields -/
structure MkC where
  mb : Nat
  lo : Nat
  K : Nat → Prop
  p : Int
  va : Value
  vt : Value
  vo : Value
def mkCells (c : MkC) (vc vs vx : Value) : Array Value := #[vc, vs, .int .i64 c.p, c.va, c.vt, c.vo, vx]
structure MkAt (w : World) (c : MkC) (vc vs vx : Value) (m : Ev.Mk) (l : List Int) : Prop where
  blk : w.heap[c.mb]? = some (.cells (mkCells c vc vs vx) 96 (0, 0))
  code : w.ownsRow c.lo 39 6 vc m.code.length (m.code.flatMap cellsI)
  sec : w.ownsRow c.lo 4 1 vs m.secret.length (m.secret.map Value.bool)
  ats : w.ownsRow c.lo 3 1 vx l.length (l.map (Value.int .i64))
  kb : ¬ c.K c.mb
  kc : ∀ b, vc.ownBlock = some b → ¬ c.K b
  ks : ∀ b, vs.ownBlock = some b → ¬ c.K b
  kx : ∀ b, vx.ownBlock = some b → ¬ c.K b
  klt : ∀ b, c.K b → b < w.heap.size
  cs : ∀ b, vc.ownBlock = some b → vs.ownBlock ≠ some b
  cx : ∀ b, vc.ownBlock = some b → vx.ownBlock ≠ some b
  sx : ∀ b, vs.ownBlock = some b → vx.ownBlock ≠ some b
  bc : vc.ownBlock ≠ some c.mb
  bs : vs.ownBlock ≠ some c.mb
  bx : vx.ownBlock ≠ some c.mb
  h1 : c.lo ≤ c.mb
/-- what changes: nothing below lo, nothing in K -/
structure MkFr (c : MkC) (w w' : World) : Prop where
  below : Below c.lo w w'
  keep : ∀ b, c.K b → w'.heap[b]? = w.heap[b]?
theorem MkFr.refl (c : MkC) (w : World) : MkFr c w w := ⟨Below.refl _ _, fun _ _ => rfl⟩
theorem MkFr.trans {c : MkC} {w w' w'' : World} (h : MkFr c w w') (k : MkFr c w' w'') : MkFr c w w'' := ⟨h.below.trans k.below, fun b h1 => (k.keep b h1).trans (h.keep b h1)⟩
theorem MkFr.drew {c : MkC} {w w' : World} (h : MkFr c w w') : MkFr c w w'.drew := ⟨h.below.drew, h.keep⟩
theorem MkFr.drewN {c : MkC} {w w' : World} (h : MkFr c w w') (n : Nat) : MkFr c w (w'.drewN n) := ⟨below_drewN h.below n, h.keep⟩
/-- fewer blocks kept -/
theorem MkFr.weak {c : MkC} {w w' : World} {K : Nat → Prop} (h : MkFr c w w') (hk : ∀ b, K b → c.K b) : MkFr { c with K := K } w w' := ⟨h.below, fun b hb => h.keep b (hk b hb)⟩
def MkIn (w : World) (c : MkC) (m : Ev.Mk) (l : List Int) : Prop := ∃ vc vs vx, MkAt w c vc vs vx m l
section
variable {w w' : World} {c : MkC} {vc vs vx : Value} {m : Ev.Mk} {l : List Int}
theorem MkAt.lt (h : MkAt w c vc vs vx m l) : c.mb < w.heap.size := (Array.getElem?_eq_some_iff.1 h.blk).1
theorem MkAt.stays (h : MkAt w c vc vs vx m l) (hb : Below w.heap.size w w') : MkAt w' c vc vs vx m l :=
  ⟨(hb.block _ h.lt).trans h.blk, owns_below h.code hb, owns_below h.sec hb, owns_below h.ats hb, h.kb, h.kc, h.ks, h.kx, fun b hk => Nat.lt_of_lt_of_le (h.klt b hk) hb.size, h.cs, h.cx, h.sx, h.bc, h.bs, h.bx, h.h1⟩
theorem MkIn.stays (h : MkIn w c m l) (hb : Below w.heap.size w w') : MkIn w' c m l := by obtain ⟨vc, vs, vx, h⟩ := h; exact ⟨vc, vs, vx, h.stays hb⟩
theorem MkAt.weak {K : Nat → Prop} (h : MkAt w c vc vs vx m l) (hk : ∀ b, K b → c.K b) : MkAt w { c with K := K } vc vs vx m l :=
  ⟨h.blk, h.code, h.sec, h.ats, fun e => h.kb (hk _ e), fun b hb e => h.kc b hb (hk _ e), fun b hb e => h.ks b hb (hk _ e), fun b hb e => h.kx b hb (hk _ e), fun b hb => h.klt b (hk b hb), h.cs, h.cx, h.sx, h.bc, h.bs, h.bx, h.h1⟩
theorem MkIn.weak {K : Nat → Prop} (h : MkIn w c m l) (hk : ∀ b, K b → c.K b) : MkIn w { c with K := K } m l := by obtain ⟨vc, vs, vx, h⟩ := h; exact ⟨vc, vs, vx, h.weak hk⟩
/-- one block more is kept: one that is none of the maker's -/
theorem MkAt.guard (h : MkAt w c vc vs vx m l) {g : Nat} (hg : g < w.heap.size) (h0 : g ≠ c.mb) (h1 : vc.ownBlock ≠ some g) (h2 : vs.ownBlock ≠ some g) (h3 : vx.ownBlock ≠ some g) : MkAt w { c with K := fun b => c.K b ∨ b = g } vc vs vx m l :=
  ⟨h.blk, h.code, h.sec, h.ats, fun e => e.elim h.kb (fun e => h0 e.symm), fun b hb e => e.elim (h.kc b hb) (fun e => h1 (e ▸ hb)), fun b hb e => e.elim (h.ks b hb) (fun e => h2 (e ▸ hb)), fun b hb e => e.elim (h.kx b hb) (fun e => h3 (e ▸ hb)), fun b hb => hb.elim (h.klt b) (fun e => e ▸ hg), h.cs, h.cx, h.sx, h.bc, h.bs, h.bx, h.h1⟩
theorem MkAt.at_ (h : MkAt w c vc vs vx m l) (j : Nat) : w.cell? ⟨c.mb, j, none⟩ = (mkCells c vc vs vx)[j]? := by
  unfold World.cell?
  rw [h.blk]
  simp
theorem MkAt.loose (h : MkAt w c vc vs vx m l) (j : Nat) : w.frozen? ⟨c.mb, j, none⟩ = false := by
  unfold World.frozen?
  rw [h.blk]
  simp
theorem own_lt {base size n : Nat} {e : TypeId} {v : Value} {xs : List Value} (h : w.ownsRow base e size v n xs) {b : Nat} (hb : v.ownBlock = some b) : b < w.heap.size := (h.lt b hb).2
theorem own_ge {base size n : Nat} {e : TypeId} {v : Value} {xs : List Value} (h : w.ownsRow base e size v n xs) {b : Nat} (hb : v.ownBlock = some b) : base ≤ b := (h.lt b hb).1
theorem kept_other {base size n : Nat} {e : TypeId} {v : Value} {xs : List Value} {row : Option Nat} (h : w.ownsRow base e size v n xs) (hg : w.grownBy w' row) (hne : ∀ b, v.ownBlock = some b → some b ≠ row) : w'.ownsRow base e size v n xs :=
  h.kept hg (by
    cases hb : v.ownBlock with
    | none => exact .inl rfl
    | some b => exact .inr (hne b hb))
/-- the secrets' row has grown, and is set -/
theorem MkAt.pushSec {w1 w2 : World} {vs' : Value} {s : Bool} (h : MkAt w c vc vs vx m l) (hb : Below w.heap.size w w1) (hg : w1.grownBy w2 vs.ownBlock) (hv : w2.ownsRow c.lo 4 1 vs' (m.secret.length + 1) (m.secret.map Value.bool ++ [Value.bool s])) (hat : vs'.ownBlock = vs.ownBlock ∨ vs'.ownBlock = some w1.heap.size) :
    MkAt (w2.setCell ⟨c.mb, 1, none⟩ vs') c vc vs' vx (m.place s) l ∧ MkFr c w (w2.setCell ⟨c.mb, 1, none⟩ vs') := by
  have h1 := h.stays hb
  have hlt := h1.lt
  have hsz := hb.size
  have hsz2 := hg.size
  have hbk : w2.heap[c.mb]? = some (.cells (mkCells c vc vs vx) 96 (0, 0)) := (hg.block _ hlt (fun e => h.bs e.symm)).trans h1.blk
  have nb : ∀ b, vs'.ownBlock = some b → vs.ownBlock = some b ∨ w1.heap.size ≤ b := fun b hb => by
    rcases hat with e | e
    · exact .inl (e.symm.trans hb)
    · rw [e] at hb; injection hb with hb; exact .inr (by omega)
  have hb' : vs'.ownBlock ≠ some c.mb := fun e => by
    rcases nb _ e with e | e
    · exact h.bs e
    · omega
  have c1 : w2.ownsRow c.lo 39 6 vc m.code.length (m.code.flatMap cellsI) := kept_other h1.code hg (fun b hb e => h.cs b hb e.symm)
  have x1 : w2.ownsRow c.lo 3 1 vx l.length (l.map (Value.int .i64)) := kept_other h1.ats hg (fun b hb e => h.sx b e.symm hb)
  have H1 := h.h1
  refine ⟨⟨?_, ownsRow_setCell_other c1 (fun e => h.bc e) _, ownsRow_setCell_other (by simpa [Ev.Mk.place] using hv) hb' _, ownsRow_setCell_other x1 (fun e => h.bx e) _, h.kb, h.kc, fun b hb => ?_, h.kx, fun b hk => ?_, fun b hb e => ?_, h.cx, fun b hb e => ?_, h.bc, hb', h.bx, h.h1⟩, ⟨?_, fun b hk => ?_⟩⟩
  · rw [heap_setCell_same w2 c.mb 1 _ _ vs' hbk]; rfl
  · rcases nb b hb with e | e
    · exact h.ks b e
    · intro hk; have := h.klt b hk; omega
  · have := h.klt b hk
    show b < (w2.setCell _ _).heap.size
    simp only [World.size_setCell]; omega
  · rcases nb b e with e' | e'
    · exact h.cs b hb e'
    · have := own_lt h.code hb; omega
  · rcases nb b hb with e' | e'
    · exact h.sx b e' e
    · have := own_lt h.ats e; omega
  · have hlo : c.lo ≤ w.heap.size := by have := h.lt; omega
    exact ((hb.mono hlo).grown hg (by omega) (fun q hq => own_ge h.sec hq)).setCell (by show c.lo ≤ c.mb; omega) _
  · have := h.klt b hk
    rw [Below.heap_setCell w2 ⟨c.mb, 1, none⟩ vs' b (fun e => h.kb ((show b = c.mb from e) ▸ hk)), hg.block b (by omega) (fun e => h.ks b e.symm hk), hb.block b (by omega)]
/-- the code's row has grown, and is set -/
theorem MkAt.pushCode {w1 w2 : World} {vc' : Value} {i : Ev.Instr} (h : MkAt w c vc vs vx m l) (hb : Below w.heap.size w w1) (hg : w1.grownBy w2 vc.ownBlock) (hv : w2.ownsRow c.lo 39 6 vc' (m.code.length + 1) (m.code.flatMap cellsI ++ cellsI i)) (hat : vc'.ownBlock = vc.ownBlock ∨ vc'.ownBlock = some w1.heap.size) :
    MkAt (w2.setCell ⟨c.mb, 0, none⟩ vc') c vc' vs vx (m.put i) l ∧ MkFr c w (w2.setCell ⟨c.mb, 0, none⟩ vc') := by
  have h1 := h.stays hb
  have hlt := h1.lt
  have hsz := hb.size
  have hsz2 := hg.size
  have hbk : w2.heap[c.mb]? = some (.cells (mkCells c vc vs vx) 96 (0, 0)) := (hg.block _ hlt (fun e => h.bc e.symm)).trans h1.blk
  have nb : ∀ b, vc'.ownBlock = some b → vc.ownBlock = some b ∨ w1.heap.size ≤ b := fun b hb => by
    rcases hat with e | e
    · exact .inl (e.symm.trans hb)
    · rw [e] at hb; injection hb with hb; exact .inr (by omega)
  have hb' : vc'.ownBlock ≠ some c.mb := fun e => by
    rcases nb _ e with e | e
    · exact h.bc e
    · omega
  have s1 : w2.ownsRow c.lo 4 1 vs m.secret.length (m.secret.map Value.bool) := kept_other h1.sec hg (fun b hb e => h.cs b e.symm hb)
  have x1 : w2.ownsRow c.lo 3 1 vx l.length (l.map (Value.int .i64)) := kept_other h1.ats hg (fun b hb e => h.cx b e.symm hb)
  have H1 := h.h1
  refine ⟨⟨?_, ownsRow_setCell_other (by simpa [Ev.Mk.put] using hv) hb' _, ownsRow_setCell_other s1 (fun e => h.bs e) _, ownsRow_setCell_other x1 (fun e => h.bx e) _, h.kb, fun b hb => ?_, h.ks, h.kx, fun b hk => ?_, fun b hb e => ?_, fun b hb e => ?_, h.sx, hb', h.bs, h.bx, h.h1⟩, ⟨?_, fun b hk => ?_⟩⟩
  · rw [heap_setCell_same w2 c.mb 0 _ _ vc' hbk]; rfl
  · rcases nb b hb with e | e
    · exact h.kc b e
    · intro hk; have := h.klt b hk; omega
  · have := h.klt b hk
    show b < (w2.setCell _ _).heap.size
    simp only [World.size_setCell]; omega
  · rcases nb b hb with e' | e'
    · exact h.cs b e' e
    · have := own_lt h.sec e; omega
  · rcases nb b hb with e' | e'
    · exact h.cx b e' e
    · have := own_lt h.ats e; omega
  · have hlo : c.lo ≤ w.heap.size := by have := h.lt; omega
    exact ((hb.mono hlo).grown hg (by omega) (fun q hq => by have := own_ge h.code hq; omega)).setCell (by show c.lo ≤ c.mb; omega) _
  · have := h.klt b hk
    rw [Below.heap_setCell w2 ⟨c.mb, 0, none⟩ vc' b (fun e => h.kb ((show b = c.mb from e) ▸ hk)), hg.block b (by omega) (fun e => h.kc b e.symm hk), hb.block b (by omega)]
end
set_option maxRecDepth 4000 in
set_option maxHeartbeats 1600000 in
theorem place_any (c : MkC) (m : Ev.Mk) (l : List Int) (s : Bool) (w : World) (h : MkIn w c m l) (hn : m.secret.length ≤ 1073741824) :
    Calls Try.prog 96 #[.pointer (some ⟨c.mb, 0, none⟩), .bool s] w fun e w' => e = .returned (.int .i64 (m.secret.length : Int)) ∧ MkIn w' c (m.place s) l ∧ MkFr c w w' := by
  obtain ⟨vc, vs, vx, h⟩ := h
  obtain ⟨i1, hi1, hz0, hz1, hz2⟩ := info_parts cloneBools_info
  have IC := Lib.hid (⟨hi1, hz0, hz1, hz2⟩ : _ ∧ _ ∧ _ ∧ _)
  clear hi1 hz0 hz1 hz2
  obtain ⟨A, cc, rfl, hc1, hc2⟩ := SL.form (SL.of_own h.sec)
  have k1 := h.at_ 1
  have hlt := h.lt
  have lo1 : c.lo ≤ w.heap.size := by have := h.h1; omega
  simp [mkCells] at k1
  have lm := h.loose
  have HM := Lib.hid h
  have HO := Lib.hid h.sec
  clear h
  go_enter Try.func96, Try.ntmps96
  go_upto_region 2 with (at_builtin; refine wpList_append_own_at _ rfl (.tmp 10) (.tmp 12) _ rfl c.lo 4 i1 (.bool false) 1 1 Try.underlying23 IC.out.1 IC.out.2.1 IC.out.2.2.1 IC.out.2.2.2 rfl (by decide) _ _ _ rfl (HO.out.alloc _) ⟨w.heap.size, 0, none⟩ 1 1 [.bool s] rfl rfl (cell_one_new _ _ _) (fun x hx => by simp at hx; subst hx; rfl) (by unfold maxLen; omega) (by omega) (by simp; omega) ?_; intro v3 w3 hown3 hg3 hn3 hat3; have k3 := (hg3.block c.mb (by simp; omega) (fun e => HM.out.bs e.symm)).trans (((heap_alloc_old w (.cells #[.bool s] 4) hlt)).trans HM.out.blk); have l3 := fun j => box_looseM k3 j; have k3' : w3.cell? ⟨c.mb, 1, none⟩ = some (.slice A m.secret.length cc) := (cell_of_block k3 1).trans rfl; obtain ⟨A3, c3, rfl, _, _⟩ := SL.form (SL.of_own hown3))
  have hg3' : (w.alloc (.cells #[.bool s] 4)).grownBy w3 (.slice A m.secret.length cc : Value).ownBlock := hg3
  have hat3' : (.slice A3 (m.secret.length + 1) c3 : Value).ownBlock = (.slice A m.secret.length cc : Value).ownBlock ∨ (.slice A3 (m.secret.length + 1) c3 : Value).ownBlock = some (w.alloc (.cells #[.bool s] 4)).heap.size := hat3
  have HP := Lib.hid (HM.out.pushSec (s := s) ((Below.refl _ _).alloc (Nat.le_refl _) _) hg3' hown3 hat3')
  have k5 : (w3.setCell ⟨c.mb, 1, none⟩ (.slice A3 (m.secret.length + 1) c3)).cell? ⟨c.mb, 1, none⟩ = some (.slice A3 (m.secret.length + 1) c3) := (HP.out.1.at_ 1).trans rfl
  clear hg3 hat3 hn3 hown3 hg3' hat3' k3 k3' l3 k1 lm
  go_wp2_with fail
  go_ret
  exact ⟨ret_intM (by omega), ⟨_, _, _, HP.out.1⟩, HP.out.2⟩
set_option maxRecDepth 4000 in
set_option maxHeartbeats 1600000 in
theorem put_any (c : MkC) (m : Ev.Mk) (l : List Int) (i : Ev.Instr) (w : World) (h : MkIn w c m l) (hn : m.code.length ≤ 1073741824) :
    Calls Try.prog 54 #[.pointer (some ⟨c.mb, 0, none⟩), .agg #[.int .i64 i.op, .int .i64 i.d, .int .i64 i.a, .int .i64 i.b, .int .i64 i.c, .int .i64 i.imm]] w fun e w' => e = .returned (.tuple #[]) ∧ MkIn w' c (m.put i) l ∧ MkFr c w w' := by
  obtain ⟨vc, vs, vx, h⟩ := h
  obtain ⟨i1, hi1, hz0, hz1, hz2⟩ := info_parts cloneCode_info
  have IC := Lib.hid (⟨hi1, hz0, hz1, hz2⟩ : _ ∧ _ ∧ _ ∧ _)
  clear hi1 hz0 hz1 hz2
  obtain ⟨A, cc, rfl, hc1, hc2⟩ := SL.form (SL.of_own h.code)
  have hlt := h.lt
  have lo1 : c.lo ≤ w.heap.size := by have := h.h1; omega
  have lo2 : c.mb < (w.alloc (.cells #[.int .i64 i.op, .int .i64 i.d, .int .i64 i.a, .int .i64 i.b, .int .i64 i.c, .int .i64 i.imm] 39)).heap.size := by simp; omega
  have lo3 : w.heap.size < (w.alloc (.cells #[.int .i64 i.op, .int .i64 i.d, .int .i64 i.a, .int .i64 i.b, .int .i64 i.c, .int .i64 i.imm] 39)).heap.size := by simp
  have BW : Below w.heap.size w (w.alloc (.cells #[.int .i64 i.op, .int .i64 i.d, .int .i64 i.a, .int .i64 i.b, .int .i64 i.c, .int .i64 i.imm] 39)) := (Below.refl _ _).alloc (Nat.le_refl _) _
  have HM0 := Lib.hid (h.stays BW)
  have HM := Lib.hid h
  have HB : Hid ((w.alloc (.cells #[.int .i64 i.op, .int .i64 i.d, .int .i64 i.a, .int .i64 i.b, .int .i64 i.c, .int .i64 i.imm] 39)).heap[w.heap.size]? = some (.cells #[.int .i64 i.op, .int .i64 i.d, .int .i64 i.a, .int .i64 i.b, .int .i64 i.c, .int .i64 i.imm] 39 (0, 0))) := Lib.hid (heap_alloc_new _ _)
  have HBW := Lib.hid BW
  clear h BW
  go_enter Try.func54, Try.ntmps54
  go_upto_region 1 with fail
  generalize hwJ : w.alloc (.cells #[.int .i64 i.op, .int .i64 i.d, .int .i64 i.a, .int .i64 i.b, .int .i64 i.c, .int .i64 i.imm] 39) = wJ at *
  clear hwJ
  generalize hbI : w.heap.size = bI at *
  have HI := Lib.hid hbI
  clear hbI
  refine wp_region_lastT (S := fun w' => wJ.grownBy w' (Value.slice A m.code.length cc).ownBlock) [(0, true), (1, true), (2, true), (3, true), (4, true), (5, true), (6, true), (7, false), (8, false), (9, true), (10, true), (11, true)] 12 (by kernel_rfl) (by kernel_rfl) (by kernel_rfl) (by kernel_rfl) (by kernel_rfl) (by decide) (grown_of_below (Below.refl _ _).drew _) ?_
  simp only [List.pop_toArray, List.dropLast_cons_cons, List.dropLast_singleton]
  apply trail_light
  case hi => (simp only [List.getElem?_toArray, List.getElem?_cons_zero, List.getElem?_cons_succ]; exact rfl)
  case hl => first | exact light_no (by rfl) | ((first | apply light_plain rfl | apply light_yes (by rfl)); intro w9 hS9; skip; first | (exact exec_load rfl rfl (by first | exact ldi9 | exact ldt9)) | (go_simp; try rfl))
  case hQ => exact fun _ _ _ h => h
  (try simp only [Act.put, List.setIfInBounds_toArray, List.set_cons_zero, List.set_cons_succ])
  apply trail_light
  case hi => (simp only [List.getElem?_toArray, List.getElem?_cons_zero, List.getElem?_cons_succ]; exact rfl)
  case hl => first | exact light_no (by rfl) | ((first | apply light_plain rfl | apply light_yes (by rfl)); intro w9 hS9; skip; first | (exact exec_load rfl rfl (by first | exact ldi9 | exact ldt9)) | (go_simp; try rfl))
  case hQ => exact fun _ _ _ h => h
  (try simp only [Act.put, List.setIfInBounds_toArray, List.set_cons_zero, List.set_cons_succ])
  apply trail_light
  case hi => (simp only [List.getElem?_toArray, List.getElem?_cons_zero, List.getElem?_cons_succ]; exact rfl)
  case hl => first | exact light_no (by rfl) | ((first | apply light_plain rfl | apply light_yes (by rfl)); intro w9 hS9; have kb9 := (hS9.block c.mb lo2 (fun e => HM.out.bc e.symm)).trans HM0.out.blk; have k9 : w9.cell? ⟨c.mb, 0, none⟩ = some (.slice A m.code.length cc) := (cell_of_block kb9 0).trans rfl; have hl9 := fun j => box_looseM kb9 j; have ib9 := (hS9.block bI lo3 (fun e => by have := own_lt HM.out.code e.symm; have := HI.out; omega)).trans HB.out; have hw9 := hS9.size; have ldi9 := loadAt_cells Try.underlying39 (by kernel_rfl) rfl (by kernel_rfl) (fun j v hj => (cell_of_block ib9 j).trans hj); clear kb9 ib9; first | (exact exec_load rfl rfl (by first | exact ldi9 | exact ldt9)) | (go_simp; try rfl))
  case hQ => exact fun _ _ _ h => h
  (try simp only [Act.put, List.setIfInBounds_toArray, List.set_cons_zero, List.set_cons_succ])
  apply trail_light
  case hi => (simp only [List.getElem?_toArray, List.getElem?_cons_zero, List.getElem?_cons_succ]; exact rfl)
  case hl => first | exact light_no (by rfl) | ((first | apply light_plain rfl | apply light_yes (by rfl)); intro w9 hS9; have kb9 := (hS9.block c.mb lo2 (fun e => HM.out.bc e.symm)).trans HM0.out.blk; have k9 : w9.cell? ⟨c.mb, 0, none⟩ = some (.slice A m.code.length cc) := (cell_of_block kb9 0).trans rfl; have hl9 := fun j => box_looseM kb9 j; have ib9 := (hS9.block bI lo3 (fun e => by have := own_lt HM.out.code e.symm; have := HI.out; omega)).trans HB.out; have hw9 := hS9.size; have ldi9 := loadAt_cells Try.underlying39 (by kernel_rfl) rfl (by kernel_rfl) (fun j v hj => (cell_of_block ib9 j).trans hj); clear kb9 ib9; first | (exact exec_load rfl rfl (by first | exact ldi9 | exact ldt9)) | (go_simp; try rfl))
  case hQ => exact fun _ _ _ h => h
  (try simp only [Act.put, List.setIfInBounds_toArray, List.set_cons_zero, List.set_cons_succ])
  apply trail_light
  case hi => (simp only [List.getElem?_toArray, List.getElem?_cons_zero, List.getElem?_cons_succ]; exact rfl)
  case hl => first | exact light_no (by rfl) | ((first | apply light_plain rfl | apply light_yes (by rfl)); intro w9 hS9; have kb9 := (hS9.block c.mb lo2 (fun e => HM.out.bc e.symm)).trans HM0.out.blk; have k9 : w9.cell? ⟨c.mb, 0, none⟩ = some (.slice A m.code.length cc) := (cell_of_block kb9 0).trans rfl; have hl9 := fun j => box_looseM kb9 j; have ib9 := (hS9.block bI lo3 (fun e => by have := own_lt HM.out.code e.symm; have := HI.out; omega)).trans HB.out; have hw9 := hS9.size; have ldi9 := loadAt_cells Try.underlying39 (by kernel_rfl) rfl (by kernel_rfl) (fun j v hj => (cell_of_block ib9 j).trans hj); clear kb9 ib9; first | (exact exec_load rfl rfl (by first | exact ldi9 | exact ldt9)) | (go_simp; try rfl))
  case hQ => exact fun _ _ _ h => h
  (try simp only [Act.put, List.setIfInBounds_toArray, List.set_cons_zero, List.set_cons_succ])
  apply trail_light
  case hi => (simp only [List.getElem?_toArray, List.getElem?_cons_zero, List.getElem?_cons_succ]; exact rfl)
  case hl => first | exact light_no (by rfl) | ((first | apply light_plain rfl | apply light_yes (by rfl)); intro w9 hS9; have kb9 := (hS9.block c.mb lo2 (fun e => HM.out.bc e.symm)).trans HM0.out.blk; have k9 : w9.cell? ⟨c.mb, 0, none⟩ = some (.slice A m.code.length cc) := (cell_of_block kb9 0).trans rfl; have hl9 := fun j => box_looseM kb9 j; have ib9 := (hS9.block bI lo3 (fun e => by have := own_lt HM.out.code e.symm; have := HI.out; omega)).trans HB.out; have hw9 := hS9.size; have ldi9 := loadAt_cells Try.underlying39 (by kernel_rfl) rfl (by kernel_rfl) (fun j v hj => (cell_of_block ib9 j).trans hj); clear kb9 ib9; first | (exact exec_load rfl rfl (by first | exact ldi9 | exact ldt9)) | (go_simp; try rfl))
  case hQ => exact fun _ _ _ h => h
  (try simp only [Act.put, List.setIfInBounds_toArray, List.set_cons_zero, List.set_cons_succ])
  apply trail_light
  case hi => (simp only [List.getElem?_toArray, List.getElem?_cons_zero, List.getElem?_cons_succ]; exact rfl)
  case hl => first | exact light_no (by rfl) | ((first | apply light_plain rfl | apply light_yes (by rfl)); intro w9 hS9; have kb9 := (hS9.block c.mb lo2 (fun e => HM.out.bc e.symm)).trans HM0.out.blk; have k9 : w9.cell? ⟨c.mb, 0, none⟩ = some (.slice A m.code.length cc) := (cell_of_block kb9 0).trans rfl; have hl9 := fun j => box_looseM kb9 j; have ib9 := (hS9.block bI lo3 (fun e => by have := own_lt HM.out.code e.symm; have := HI.out; omega)).trans HB.out; have hw9 := hS9.size; have ldi9 := loadAt_cells Try.underlying39 (by kernel_rfl) rfl (by kernel_rfl) (fun j v hj => (cell_of_block ib9 j).trans hj); clear kb9 ib9; first | (exact exec_load rfl rfl (by first | exact ldi9 | exact ldt9)) | (go_simp; try rfl))
  case hQ => exact fun _ _ _ h => h
  (try simp only [Act.put, List.setIfInBounds_toArray, List.set_cons_zero, List.set_cons_succ])
  apply trail_heavy
  case hi => (simp only [List.getElem?_toArray, List.getElem?_cons_zero, List.getElem?_cons_succ]; exact rfl)
  go_wp2_with ((at_builtin; refine wpList_append_own_at _ rfl (.tmp 9) (.tmp 11) _ rfl c.lo 39 i1 (.agg #[.int .i64 0, .int .i64 0, .int .i64 0, .int .i64 0, .int .i64 0, .int .i64 0]) 6 48 Try.underlying22 IC.out.1 IC.out.2.1 IC.out.2.2.1 IC.out.2.2.2 rfl (by decide) _ _ _ rfl ((owns_below HM0.out.code (Below.refl _ _).drew).alloc _) ⟨wJ.heap.size, 0, none⟩ 1 1 (cellsI i) rfl rfl (cell_six_mk _ _ _) (one_six_mk i) (by unfold maxLen; omega) (by omega) (by simp; omega) ?_; intro v5 w5 hown5 hg5 hn5 hat5))
  refine ⟨by (first | exact grown_trans (grown_of_below (by (repeat' first | with_reducible (first | exact Below.refl _ _ | assumption | refine Below.alloc ?_ ?_ _ | refine below_drewN ?_ _ | refine Below.drew ?_ | refine Below.setCell ?_ ?_ _ | refine Below.trans ?_ (Below.mono (by with_reducible assumption) ?_)) | go_size) : Below wJ.heap.size wJ _) _) hg5 | exact grown_of_below (by (repeat' first | with_reducible (first | exact Below.refl _ _ | assumption | refine Below.alloc ?_ ?_ _ | refine below_drewN ?_ _ | refine Below.drew ?_ | refine Below.setCell ?_ ?_ _ | refine Below.trans ?_ (Below.mono (by with_reducible assumption) ?_)) | go_size) : Below wJ.heap.size wJ _) _), ?_⟩
  apply trail_heavy
  case hi => (simp only [List.getElem?_toArray, List.getElem?_cons_zero, List.getElem?_cons_succ]; exact rfl)
  go_wp2_with ((at_builtin; refine wpList_append_own_at _ rfl (.tmp 9) (.tmp 11) _ rfl c.lo 39 i1 (.agg #[.int .i64 0, .int .i64 0, .int .i64 0, .int .i64 0, .int .i64 0, .int .i64 0]) 6 48 Try.underlying22 IC.out.1 IC.out.2.1 IC.out.2.2.1 IC.out.2.2.2 rfl (by decide) _ _ _ rfl ((owns_below HM0.out.code (Below.refl _ _).drew).alloc _) ⟨wJ.heap.size, 0, none⟩ 1 1 (cellsI i) rfl rfl (cell_six_mk _ _ _) (one_six_mk i) (by unfold maxLen; omega) (by omega) (by simp; omega) ?_; intro v5 w5 hown5 hg5 hn5 hat5))
  refine ⟨by (first | exact grown_trans (grown_of_below (by (repeat' first | with_reducible (first | exact Below.refl _ _ | assumption | refine Below.alloc ?_ ?_ _ | refine below_drewN ?_ _ | refine Below.drew ?_ | refine Below.setCell ?_ ?_ _ | refine Below.trans ?_ (Below.mono (by with_reducible assumption) ?_)) | go_size) : Below wJ.heap.size wJ _) _) hg5 | exact grown_of_below (by (repeat' first | with_reducible (first | exact Below.refl _ _ | assumption | refine Below.alloc ?_ ?_ _ | refine below_drewN ?_ _ | refine Below.drew ?_ | refine Below.setCell ?_ ?_ _ | refine Below.trans ?_ (Below.mono (by with_reducible assumption) ?_)) | go_size) : Below wJ.heap.size wJ _) _), ?_⟩
  apply trail_light
  case hi => (simp only [List.getElem?_toArray, List.getElem?_cons_zero, List.getElem?_cons_succ]; exact rfl)
  case hl => first | exact light_no (by rfl) | ((first | apply light_plain rfl | apply light_yes (by rfl)); intro w9 hS9; have kb9 := (hS9.block c.mb lo2 (fun e => HM.out.bc e.symm)).trans HM0.out.blk; have k9 : w9.cell? ⟨c.mb, 0, none⟩ = some (.slice A m.code.length cc) := (cell_of_block kb9 0).trans rfl; have hl9 := fun j => box_looseM kb9 j; have ib9 := (hS9.block bI lo3 (fun e => by have := own_lt HM.out.code e.symm; have := HI.out; omega)).trans HB.out; have hw9 := hS9.size; have ldi9 := loadAt_cells Try.underlying39 (by kernel_rfl) rfl (by kernel_rfl) (fun j v hj => (cell_of_block ib9 j).trans hj); clear kb9 ib9; first | (exact exec_load rfl rfl (by first | exact ldi9 | exact ldt9)) | (go_simp; try rfl))
  case hQ => exact fun _ _ _ h => h
  (try simp only [Act.put, List.setIfInBounds_toArray, List.set_cons_zero, List.set_cons_succ])
  apply trail_light
  case hi => (simp only [List.getElem?_toArray, List.getElem?_cons_zero, List.getElem?_cons_succ]; exact rfl)
  case hl => first | exact light_no (by rfl) | ((first | apply light_plain rfl | apply light_yes (by rfl)); intro w9 hS9; have kb9 := (hS9.block c.mb lo2 (fun e => HM.out.bc e.symm)).trans HM0.out.blk; have k9 : w9.cell? ⟨c.mb, 0, none⟩ = some (.slice A m.code.length cc) := (cell_of_block kb9 0).trans rfl; have hl9 := fun j => box_looseM kb9 j; have ib9 := (hS9.block bI lo3 (fun e => by have := own_lt HM.out.code e.symm; have := HI.out; omega)).trans HB.out; have hw9 := hS9.size; have ldi9 := loadAt_cells Try.underlying39 (by kernel_rfl) rfl (by kernel_rfl) (fun j v hj => (cell_of_block ib9 j).trans hj); clear kb9 ib9; first | (exact exec_load rfl rfl (by first | exact ldi9 | exact ldt9)) | (go_simp; try rfl))
  case hQ => exact fun _ _ _ h => h
  (try simp only [Act.put, List.setIfInBounds_toArray, List.set_cons_zero, List.set_cons_succ])
  apply trail_light
  case hi => (simp only [List.getElem?_toArray, List.getElem?_cons_zero, List.getElem?_cons_succ]; exact rfl)
  case hl => first | exact light_no (by rfl) | ((first | apply light_plain rfl | apply light_yes (by rfl)); intro w9 hS9; have kb9 := (hS9.block c.mb lo2 (fun e => HM.out.bc e.symm)).trans HM0.out.blk; have k9 : w9.cell? ⟨c.mb, 0, none⟩ = some (.slice A m.code.length cc) := (cell_of_block kb9 0).trans rfl; have hl9 := fun j => box_looseM kb9 j; have ib9 := (hS9.block bI lo3 (fun e => by have := own_lt HM.out.code e.symm; have := HI.out; omega)).trans HB.out; have hw9 := hS9.size; have ldi9 := loadAt_cells Try.underlying39 (by kernel_rfl) rfl (by kernel_rfl) (fun j v hj => (cell_of_block ib9 j).trans hj); clear kb9 ib9; first | (exact exec_load rfl rfl (by first | exact ldi9 | exact ldt9)) | (go_simp; try rfl))
  case hQ => exact fun _ _ _ h => h
  (try simp only [Act.put, List.setIfInBounds_toArray, List.set_cons_zero, List.set_cons_succ])
  refine trail_nil ?_
  refine last_at rfl ?_
  (try dsimp only)
  obtain ⟨A5, c5, rfl, _, _⟩ := SL.form (SL.of_own hown5)
  have hg5' : ((wJ.alloc (.cells #[.int .i64 i.op, .int .i64 i.d, .int .i64 i.a, .int .i64 i.b, .int .i64 i.c, .int .i64 i.imm] 39)).drew).grownBy w5 (.slice A m.code.length cc : Value).ownBlock := hg5
  have hat5' : (.slice A5 (m.code.length + 1) c5 : Value).ownBlock = (.slice A m.code.length cc : Value).ownBlock ∨ (.slice A5 (m.code.length + 1) c5 : Value).ownBlock = some ((wJ.alloc (.cells #[.int .i64 i.op, .int .i64 i.d, .int .i64 i.a, .int .i64 i.b, .int .i64 i.c, .int .i64 i.imm] 39)).drew).heap.size := hat5
  have hb5 : Below w.heap.size w (wJ.alloc (.cells #[.int .i64 i.op, .int .i64 i.d, .int .i64 i.a, .int .i64 i.b, .int .i64 i.c, .int .i64 i.imm] 39)).drew := by
    have h1 := HBW.out
    rw [← HI.out] at h1
    have h2 := h1.size
    exact (h1.alloc h2 _).drew
  have HP := Lib.hid (HM.out.pushCode (i := i) hb5 hg5' hown5 hat5')
  have k5b : w5.heap[c.mb]? = some (.cells (mkCells c (.slice A m.code.length cc) vs vx) 96 (0, 0)) := (hg5'.block c.mb (by simp; omega) (fun e => HM.out.bc e.symm)).trans ((Below.block ((Below.refl wJ.heap.size wJ).alloc (Nat.le_refl _) (.cells #[.int .i64 i.op, .int .i64 i.d, .int .i64 i.a, .int .i64 i.b, .int .i64 i.c, .int .i64 i.imm] 39)).drew c.mb lo2).trans HM0.out.blk)
  have k5 : w5.cell? ⟨c.mb, 0, none⟩ = some (.slice A m.code.length cc) := (cell_of_block k5b 0).trans rfl
  have l5 := fun j => box_looseM k5b j
  clear k5b hg5 hat5 hn5 hown5 hg5' hat5' hb5
  go_wp2_with fail
  go_end0
  exact ⟨rfl, ⟨_, _, _, HP.out.1⟩, HP.out.2⟩
end Go.Proofs.Ytljcgcllhcdleaa
/- Chapter 8, in plain words: what an instruction is made of otherwise is worth the same; what legal.Legal makes. -/
namespace Ev
theorem divto_holds (m : Mk) (e : Env) {a b : Int} {x y : Nat} (ha : Holds m e a x) (hb : Holds m e b y) : ∀ n, n ≤ 32 → ∃ e', Ext m e (mkDivTo m a b n).m e' ∧ Holds (mkDivTo m a b n).m e' (mkDivTo m a b n).q (divTo x y n).1 ∧ Holds (mkDivTo m a b n).m e' (mkDivTo m a b n).r (divTo x y n).2
  | 0, _ => by
    obtain ⟨e1, h1, k1, _⟩ := num_holds m e 0 (by decide)
    obtain ⟨e2, h2, k2, _⟩ := num_holds _ e1 0 (by decide)
    exact ⟨e2, h1.trans h2, k1.ext h2, k2⟩
  | n + 1, h => by
    obtain ⟨e1, h1, k1, k2⟩ := divto_holds m e ha hb n (by omega)
    obtain ⟨e2, h2, k3, k4⟩ := divstep_holds a b (mkDivTo m a b n) e1 (ha.ext h1) (hb.ext h1) k1 k2 (31 - n) (by omega)
    exact ⟨e2, h1.trans h2, k3, k4⟩
/-- what an instruction makes of words -/
def opVal (i : Instr) (e : Env) : Int := if i.op ≤ 12 then two i.op (e i.a) (e i.b) else sel (e i.a) (e i.b) (e i.c)
theorem twoN6 (x y : Nat) : twoN 6 x y = wshl x (y % 32) := two6 x y
theorem twoN8 (x y : Nat) : twoN 8 x y = x * y % 4294967296 := by unfold twoN; rw [if_neg (by decide), if_neg (by decide), if_neg (by decide), if_neg (by decide), if_neg (by decide), if_neg (by decide), if_neg (by decide), if_pos rfl]
theorem twoN9 (x y : Nat) : twoN 9 x y = if y = 0 then 4294967295 else x / y := by unfold twoN; rw [if_neg (by decide), if_neg (by decide), if_neg (by decide), if_neg (by decide), if_neg (by decide), if_neg (by decide), if_neg (by decide), if_neg (by decide), if_pos rfl]
theorem twoN10 (x y : Nat) : twoN 10 x y = if y = 0 then x else x % y := by unfold twoN; rw [if_neg (by decide), if_neg (by decide), if_neg (by decide), if_neg (by decide), if_neg (by decide), if_neg (by decide), if_neg (by decide), if_neg (by decide), if_neg (by decide), if_pos rfl]
theorem twoN11 (x y : Nat) : twoN 11 x y = if x < y then 1 else 0 := by unfold twoN; rw [if_neg (by decide), if_neg (by decide), if_neg (by decide), if_neg (by decide), if_neg (by decide), if_neg (by decide), if_neg (by decide), if_neg (by decide), if_neg (by decide), if_neg (by decide), if_pos rfl]
theorem twoN12 (x y : Nat) : twoN 12 x y = if x = y then 1 else 0 := by unfold twoN; rw [if_neg (by decide), if_neg (by decide), if_neg (by decide), if_neg (by decide), if_neg (by decide), if_neg (by decide), if_neg (by decide), if_neg (by decide), if_neg (by decide), if_neg (by decide), if_neg (by decide), if_pos rfl]
theorem xor_zero_iff {x y : Nat} : x ^^^ y = 0 ↔ x = y := by
  constructor
  · intro h
    apply Nat.eq_of_testBit_eq
    intro k
    have := congrArg (Nat.testBit · k) h
    simp [Nat.testBit_xor] at this
    exact this
  · rintro rfl; exact Nat.xor_self x
theorem div_words {x y : Nat} (hx : x < 4294967296) (hy : y < 4294967296) : divTo x y 32 = (twoN 9 x y, twoN 10 x y) := by
  rw [twoN9, twoN10]
  by_cases h : y = 0
  · subst h; rw [if_pos rfl, if_pos rfl]; exact div_bits_zero hx
  · rw [if_neg h, if_neg h]; exact div_bits hx hy (by omega)
theorem out_holds (m : Mk) (e : Env) {i : Instr} {r : Int × Mk} (h : mkOut m i = some r) {x y z : Nat} (ha : Holds m e i.a x) (hb : Holds m e i.b y) (hc : i.op = 13 → Holds m e i.c z) :
    ∃ e', Ext m e r.2 e' ∧ Holds r.2 e' r.1 (if i.op = 13 then (if x = 0 then z else y) else twoN i.op x y) := by
  unfold mkOut at h
  by_cases c8 : i.op = 8
  · rw [if_pos c8] at h; injection h with h; subst h
    rw [if_neg (by omega), c8, twoN8]
    obtain ⟨e1, h1, k1⟩ := multo_holds m e ha hb 32 (Nat.le_refl _)
    rw [mul_bits hb.2.2] at k1
    exact ⟨e1, h1, k1⟩
  rw [if_neg c8] at h
  by_cases c9 : i.op = 9
  · rw [if_pos c9] at h; injection h with h; subst h
    rw [if_neg (by omega), c9]
    obtain ⟨e1, h1, k1, _⟩ := divto_holds m e ha hb 32 (Nat.le_refl _)
    rw [div_words ha.2.2 hb.2.2] at k1
    exact ⟨e1, h1, k1⟩
  rw [if_neg c9] at h
  by_cases c10 : i.op = 10
  · rw [if_pos c10] at h; injection h with h; subst h
    rw [if_neg (by omega), c10]
    obtain ⟨e1, h1, _, k1⟩ := divto_holds m e ha hb 32 (Nat.le_refl _)
    rw [div_words ha.2.2 hb.2.2] at k1
    exact ⟨e1, h1, k1⟩
  rw [if_neg c10] at h
  by_cases c6 : i.op = 6 ∨ i.op = 7
  · rw [if_pos c6] at h; injection h with h; subst h
    rw [if_neg (by omega)]
    obtain ⟨e1, h1, k1⟩ := shto_holds m e c6 ha hb 5 (Nat.le_refl _)
    have e0 : (List.range 5).foldl (shStep (decide (i.op = 6)) y) x = twoN i.op x y := by
      have := shift_bits (left := decide (i.op = 6)) (b := y) ha.2.2
      show shStep (decide (i.op = 6)) y (shStep (decide (i.op = 6)) y (shStep (decide (i.op = 6)) y (shStep (decide (i.op = 6)) y (shStep (decide (i.op = 6)) y x 0) 1) 2) 3) 4 = _
      rw [this]
      rcases c6 with c | c
      · rw [c, two6]; rfl
      · rw [c, two7]; rfl
    rw [e0] at k1
    exact ⟨e1, h1, k1⟩
  rw [if_neg c6] at h
  by_cases c11 : i.op = 11
  · rw [if_pos c11] at h; injection h with h; subst h
    rw [if_neg (by omega), c11, twoN11]
    exact less_holds m e ha hb
  rw [if_neg c11] at h
  by_cases c12 : i.op = 12
  · rw [if_pos c12] at h; injection h with h; subst h
    rw [if_neg (by omega), c12, twoN12]
    obtain ⟨z1, hz1⟩ : ∃ z, z = x ^^^ y := ⟨_, rfl⟩
    obtain ⟨e1, h1, k1⟩ := two_holds m e (op := 5) ha hb z1 (by rw [hz1]; exact two5 _ _) (by decide) (fun h => absurd h (by decide))
    obtain ⟨e2, h2, k2⟩ := some_holds _ e1 k1
    obtain ⟨e3, h3, k3, _⟩ := num_holds (mkSome (mkTwo m 5 i.a i.b).2 (mkTwo m 5 i.a i.b).1).2 e2 1 (by decide)
    have hv : twoN 5 (if z1 = 0 then 0 else 1) 1 = if x = y then 1 else 0 := by
      rw [two5, hz1]
      by_cases hxy : x = y
      · rw [if_pos (xor_zero_iff.2 hxy), if_pos hxy]; rfl
      · rw [if_neg (fun h => hxy (xor_zero_iff.1 h)), if_neg hxy]; rfl
    obtain ⟨e4, h4, k4⟩ := two_holds _ e3 (op := 5) (k2.ext h3) k3 _ hv (by decide) (fun h => absurd h (by decide))
    exact ⟨e4, ((h1.trans h2).trans h3).trans h4, k4⟩
  rw [if_neg c12] at h
  by_cases c13 : i.op = 13
  · rw [if_pos c13] at h; injection h with h; subst h
    rw [if_pos c13]
    obtain ⟨e1, h1, k1⟩ := some_holds m e ha
    obtain ⟨e2, h2, k2⟩ := mask_holds _ e1 k1
    obtain ⟨e3, h3, k3⟩ := sel_holds _ e2 k2 ((hb.ext h1).ext h2) (((hc c13).ext h1).ext h2)
    have hv := sel_bits hb.2.2 (hc c13).2.2 (!decide (x = 0))
    have hv2 : (if x = 0 then z else y) = ((y &&& wsub 0 (if x = 0 then 0 else 1)) ||| (z &&& wnot (wsub 0 (if x = 0 then 0 else 1)))) := by
      by_cases hx : x = 0
      · simp only [hx, if_true, decide_true, Bool.not_true] at hv ⊢; exact hv.symm
      · simp only [hx, if_false, decide_false, Bool.not_false, if_true] at hv ⊢; exact hv.symm
    rw [hv2]
    exact ⟨e3, (h1.trans h2).trans h3, k3⟩
  · rw [if_neg c13] at h; cases h
theorem out_none {m : Mk} {i : Instr} (h : mkOut m i = none) : ¬ (6 ≤ i.op ∧ i.op ≤ 13) := by
  intro hop
  unfold mkOut at h
  by_cases c8 : i.op = 8
  · rw [if_pos c8] at h; cases h
  rw [if_neg c8] at h
  by_cases c9 : i.op = 9
  · rw [if_pos c9] at h; cases h
  rw [if_neg c9] at h
  by_cases c10 : i.op = 10
  · rw [if_pos c10] at h; cases h
  rw [if_neg c10] at h
  by_cases c6 : i.op = 6 ∨ i.op = 7
  · rw [if_pos c6] at h; cases h
  rw [if_neg c6] at h
  by_cases c11 : i.op = 11
  · rw [if_pos c11] at h; cases h
  rw [if_neg c11] at h
  by_cases c12 : i.op = 12
  · rw [if_pos c12] at h; cases h
  rw [if_neg c12] at h
  rw [if_pos (by omega)] at h; cases h
theorem out_some {m : Mk} {i : Instr} {r : Int × Mk} (h : mkOut m i = some r) : 6 ≤ i.op ∧ i.op ≤ 13 := by
  unfold mkOut at h
  by_cases c8 : i.op = 8
  · omega
  rw [if_neg c8] at h
  by_cases c9 : i.op = 9
  · omega
  rw [if_neg c9] at h
  by_cases c10 : i.op = 10
  · omega
  rw [if_neg c10] at h
  by_cases c6 : i.op = 6 ∨ i.op = 7
  · omega
  rw [if_neg c6] at h
  by_cases c11 : i.op = 11
  · omega
  rw [if_neg c11] at h
  by_cases c12 : i.op = 12
  · omega
  rw [if_neg c12] at h
  by_cases c13 : i.op = 13
  · omega
  rw [if_neg c13] at h; cases h
/-! ### How many -/
theorem num_code (m : Mk) (n : Int) : (mkNum m n).2.code.length = m.code.length + 1 ∧ (mkNum m n).2.secret.length = m.secret.length + 1 := by simp [mkNum, Mk.put, Mk.place]
theorem two_code (m : Mk) (op a b : Int) : (mkTwo m op a b).2.code.length = m.code.length + 1 ∧ (mkTwo m op a b).2.secret.length = m.secret.length + 1 := by simp [mkTwo, Mk.put, Mk.place]
theorem not_code (m : Mk) (a : Int) : (mkNot m a).2.code.length = m.code.length + 2 ∧ (mkNot m a).2.secret.length = m.secret.length + 2 := by simp [mkNot, num_code, two_code]
theorem some_code (m : Mk) (a : Int) : (mkSome m a).2.code.length = m.code.length + 5 ∧ (mkSome m a).2.secret.length = m.secret.length + 5 := by simp [mkSome, num_code, two_code]
theorem mask_code (m : Mk) (a : Int) : (mkMask m a).2.code.length = m.code.length + 2 ∧ (mkMask m a).2.secret.length = m.secret.length + 2 := by simp [mkMask, num_code, two_code]
theorem sel_code (m : Mk) (k b c : Int) : (mkSel m k b c).2.code.length = m.code.length + 5 ∧ (mkSel m k b c).2.secret.length = m.secret.length + 5 := by simp [mkSel, not_code, two_code]
theorem less_code (m : Mk) (a b : Int) : (mkLess m a b).2.code.length = m.code.length + 9 ∧ (mkLess m a b).2.secret.length = m.secret.length + 9 := by simp [mkLess, num_code, not_code, two_code]
theorem bit_code (m : Mk) (a n : Int) : (mkBit m a n).2.code.length = m.code.length + 4 ∧ (mkBit m a n).2.secret.length = m.secret.length + 4 := by simp [mkBit, num_code, two_code]
theorem shStep_code (op b : Int) (x : Int × Mk) (k : Nat) : (mkShStep op b x k).2.code.length = x.2.code.length + 13 ∧ (mkShStep op b x k).2.secret.length = x.2.secret.length + 13 := by simp [mkShStep, num_code, two_code, bit_code, mask_code, sel_code]
theorem shTo_code (m : Mk) (op a b : Int) : ∀ n, (mkShTo m op a b n).2.code.length = m.code.length + 13 * n ∧ (mkShTo m op a b n).2.secret.length = m.secret.length + 13 * n
  | 0 => ⟨rfl, rfl⟩
  | n + 1 => by
    have := shTo_code m op a b n
    have h2 := shStep_code op b (mkShTo m op a b n) n
    unfold mkShTo
    omega
theorem mulStep_code (a b : Int) (x : Int × Mk) (k : Nat) : (mkMulStep a b x k).2.code.length = x.2.code.length + 10 ∧ (mkMulStep a b x k).2.secret.length = x.2.secret.length + 10 := by simp [mkMulStep, num_code, two_code, bit_code, mask_code]
theorem mulTo_code (m : Mk) (a b : Int) : ∀ n, (mkMulTo m a b n).2.code.length = m.code.length + 1 + 10 * n ∧ (mkMulTo m a b n).2.secret.length = m.secret.length + 1 + 10 * n
  | 0 => num_code m 0
  | n + 1 => by
    have := mulTo_code m a b n
    have h2 := mulStep_code a b (mkMulTo m a b n) n
    unfold mkMulTo
    omega
theorem divStep_code (a b : Int) (x : Qr) (k : Nat) : (mkDivStep a b x k).m.code.length = x.m.code.length + 30 ∧ (mkDivStep a b x k).m.secret.length = x.m.secret.length + 30 := by simp [mkDivStep, num_code, two_code, bit_code, mask_code, less_code]
theorem divTo_code (m : Mk) (a b : Int) : ∀ n, (mkDivTo m a b n).m.code.length = m.code.length + 2 + 30 * n ∧ (mkDivTo m a b n).m.secret.length = m.secret.length + 2 + 30 * n
  | 0 => by simp [mkDivTo, num_code]
  | n + 1 => by
    have := divTo_code m a b n
    have h2 := divStep_code a b (mkDivTo m a b n) (31 - n)
    unfold mkDivTo
    omega
theorem out_code {m : Mk} {i : Instr} {r : Int × Mk} (h : mkOut m i = some r) : r.2.code.length ≤ m.code.length + 962 ∧ r.2.secret.length ≤ m.secret.length + 962 ∧ m.code.length + 1 ≤ r.2.code.length := by
  unfold mkOut at h
  have c1 := mulTo_code m i.a i.b 32
  have c2 := divTo_code m i.a i.b 32
  have c3 := shTo_code m i.op i.a i.b 5
  have c4 := less_code m i.a i.b
  split at h
  · injection h with h; subst h; omega
  split at h
  · injection h with h; subst h; simp only; omega
  split at h
  · injection h with h; subst h; simp only; omega
  split at h
  · injection h with h; subst h; omega
  split at h
  · injection h with h; subst h; omega
  split at h
  · injection h with h; subst h; simp [some_code, two_code, num_code]
  split at h
  · injection h with h; subst h; simp [some_code, mask_code, sel_code]
  · cases h
end Ev
