import Derived.Test.YtljcgcllhcdleaaRefCheck
import Derived.Test.YtljcgcllhcdleaaRefRun
import Derived.Test.YtljcgcllhcdleaaSameC
import Derived.Test.YtljcgcllhcdleaaWrong
import Derived.Test.YtljcgcllhcdleaaFits
import Derived.Test.YtljcgcllhcdleaaRefSeen
import Derived.Test.YtljcgcllhcdleaaSeenPub
import Derived.Test.YtljcgcllhcdleaaOwn
import Derived.Test.YtljcgcllhcdleaaOpenA
import Derived.Deep.DeepCutAuto
import Derived.Deep.MidRow
/- Chapter 7: FlowTells's walk. The bounds come from the bulk of what is read. -/
namespace Ev
theorem fits_given {f : Flat} {g : Given} {np : Nat} (h : fits np f.arrays g = 0) : g.arrays.length = f.arrays.length ∧ (∀ x ∈ g.words, Wd x) ∧ ∀ a ∈ g.arrays, ∀ x ∈ a, Wd x := by
  unfold fits at h
  split at h
  · exact absurd h (by decide)
  rename_i h1
  split at h
  · exact absurd h (by decide)
  split at h
  case isFalse => exact absurd h (by decide)
  rename_i h2
  rw [List.all_eq_true] at h2
  have hw : ∀ x ∈ g.words ++ g.arrays.flatten, Wd x := fun x hx => by
    have := h2 x hx
    unfold isWord at this
    simp at this
    exact this
  refine ⟨by omega, fun x hx => hw x (by simp [hx]), fun a ha x hx => hw x ?_⟩
  rw [List.mem_append, List.mem_flatten]
  exact .inr ⟨a, ha, hx⟩
theorem len_flatten {l : List (List Int)} {a : List Int} (h : a ∈ l) : a.length ≤ l.flatten.length := by
  induction l with
  | nil => cases h
  | cons b r ih =>
    rw [List.flatten_cons, List.length_append]
    rcases List.mem_cons.1 h with rfl | h
    · omega
    · have := ih h; omega
end Ev
namespace Go.Proofs.Ytljcgcllhcdleaa
open Go.RowKit
set_option linter.unusedSimpArgs false
set_option linter.unusedVariables false
theorem seenIn_all {t : List Int} (ht : Ev.wrong t = 0) {i : Ev.Instr} {n : Nat} {al : Bool} (h1 : 1 ≤ i.op) (ha : inR n i.a) (hb : inR n i.b) (hc : inR n i.c) (hd : inR n i.d) : SeenIn i n (whichOf t i.op al) := by
  refine ⟨?_, fun k _ _ => ⟨fun _ => hd, fun _ _ => ?_⟩, fun _ => ha⟩
  · unfold whichOf
    cases al with
    | true =>
      rw [if_pos rfl]
      unfold Ev.all
      repeat' split
      all_goals decide
    | false =>
      rw [if_neg (by decide)]
      by_cases h17 : i.op ≤ 17
      · rw [if_pos h17]
        refine (Ev.sub_small ?_ (Ev.table_bits ht h1 h17)).1
        unfold Ev.most Ev.all
        repeat' split
        all_goals simp
      · rw [if_neg h17]; decide
  · unfold placeOf
    split
    · exact ha
    split
    · exact hb
    · exact hc
theorem boxes4 (w : World) (c0 c1 c2 c3 : Array Value) (t0 t1 t2 t3 : TypeId) :
    (∀ (j : Nat) u, c0[j]? = some u → ((((w.alloc (.cells c0 t0)).alloc (.cells c1 t1)).alloc (.cells c2 t2)).alloc (.cells c3 t3)).cell? ⟨w.heap.size, j, none⟩ = some u) ∧
    (∀ (j : Nat) u, c1[j]? = some u → ((((w.alloc (.cells c0 t0)).alloc (.cells c1 t1)).alloc (.cells c2 t2)).alloc (.cells c3 t3)).cell? ⟨w.heap.size + 1, j, none⟩ = some u) ∧
    (∀ (j : Nat) u, c2[j]? = some u → ((((w.alloc (.cells c0 t0)).alloc (.cells c1 t1)).alloc (.cells c2 t2)).alloc (.cells c3 t3)).cell? ⟨w.heap.size + 1 + 1, j, none⟩ = some u) ∧
    (∀ (j : Nat) u, c3[j]? = some u → ((((w.alloc (.cells c0 t0)).alloc (.cells c1 t1)).alloc (.cells c2 t2)).alloc (.cells c3 t3)).cell? ⟨w.heap.size + 1 + 1 + 1, j, none⟩ = some u) := by
  have new : ∀ (v : World) (c : Array Value) (t : TypeId) (n j : Nat) u, n = v.heap.size → c[j]? = some u → (v.alloc (.cells c t)).cell? ⟨n, j, none⟩ = some u := fun v c t n j u hn hu => by
    subst hn
    rw [World.cell?_alloc_at _ _ _ _ rfl]
    exact hu
  have old : ∀ (v : World) (c : Array Value) (t : TypeId) (n j : Nat) u, n < v.heap.size → v.cell? ⟨n, j, none⟩ = some u → (v.alloc (.cells c t)).cell? ⟨n, j, none⟩ = some u := fun v c t n j u hn hu =>
    (((Below.refl v.heap.size v).alloc (Nat.le_refl _) (.cells c t)).cell (p := ⟨n, j, none⟩) hn).trans hu
  refine ⟨fun j u h => ?_, fun j u h => ?_, fun j u h => ?_, fun j u h => ?_⟩
  · exact old _ _ _ _ _ _ (by simp <;> omega) (old _ _ _ _ _ _ (by simp <;> omega) (old _ _ _ _ _ _ (by simp) (new _ _ _ _ _ _ rfl h)))
  · exact old _ _ _ _ _ _ (by simp <;> omega) (old _ _ _ _ _ _ (by simp) (new _ _ _ _ _ _ (by simp) h))
  · exact old _ _ _ _ _ _ (by simp) (new _ _ _ _ _ _ (by simp) h)
  · exact new _ _ _ _ _ _ (by simp) h
theorem load_box {w u : World} {b : Nat} {T : TypeId} {cs : Array Value} {d : TypeDesc} (hu : Try.prog.underlying T = some d) (hd : d.isRow = true) (hs : cs.toList.toArray = cs) (hi : (Try.prog.info? T).map (·.size) = some cs.toList.length)
    (hc : ∀ (j : Nat) v, cs[j]? = some v → w.cell? ⟨b, j, none⟩ = some v) (hb : b < w.heap.size) (hbl : Below w.heap.size w u) : (Go.Instr.loadAt T (.pointer (some ⟨b, 0, none⟩))).run Try.prog u = .ok (.agg cs) u := by
  have h := run_loadAt_mid (P := Try.prog) u b 0 T cs.toList d (fun j v hj => by
    rw [Nat.zero_add]
    exact (hbl.cell (p := ⟨b, j, none⟩) hb).trans (hc j v (by simpa using hj))) hu hd hi
  rw [hs] at h
  exact h
theorem exec_load {ev : Operand → Value} {o : Oper} {w : World} {T : TypeId} {x : Operand} {p v : Value} (ho : o.op = .load T x) (hx : ev x = p) (h : (Go.Instr.loadAt T p).run Try.prog w = .ok v w) :
    (execOp ev o).run Try.prog w = .ok (.value v) w := by
  unfold execOp
  simp only [ho, hx, Sem.run_bind, h, Result.andThen_ok, Sem.run_pure]
theorem wpList_load_box {ops : Array Oper} {rest : List Oper} {op : Oper} {a : Act} {w : World} {Q : Exit → Act → World → Prop} (hgd : op.guard = none) (T : TypeId) (x : Operand) (ho : op.op = .load T x) {p v : Value} (hx : a.eval x = p)
    (hl : (Go.Instr.loadAt T p).run Try.prog w = .ok v w) (h : wpList Try.prog ops Q rest (a.put op.dst v) w) : wpList Try.prog ops Q (op :: rest) a w :=
  wpList_plain hgd fun K hK => by
    unfold Oper.wp
    rw [exec_load ho hx hl]
    exact hK _ _ h
theorem RFlat.at_ {w w' : World} {B : Nat} {v : Value} {f : Ev.Flat} (h : RFlat w B v f) (hb : Below w.heap.size w w') (hB : B ≤ w.heap.size) : RFlat w' w'.heap.size v f := by
  obtain ⟨vc, vs, va, h1, h2, h3, h4⟩ := h
  exact ⟨vc, vs, va, h1, SL.at_ h2 hb hB, SL.at_ h3 hb hB, SL.at_ h4 hb hB⟩
theorem sameFlat_same (f : Ev.Flat) (u v : Value) (w : World) (hf : RFlat w w.heap.size u f) (hg : RFlat w w.heap.size v f) :
    Calls Try.prog 32 #[u, v] w fun e w' => e = .returned (.bool true) ∧ Below w.heap.size w w' :=
  (sameFlat_any f f u v w hf hg).mono fun e w' ⟨h, hb⟩ => ⟨by rw [h]; simp, hb⟩
theorem sameEnded_same (x : Ev.Ended) (u v : Value) (w : World) (hx : REnded w u x) (hy : REnded w v x) :
    Calls Try.prog 24 #[u, v] w fun e w' => e = .returned (.bool true) ∧ Below w.heap.size w w' :=
  (sameEnded_any x x u v w hx hy).mono fun e w' ⟨h, hb⟩ => ⟨by rw [h]; simp, hb⟩
theorem sameLeaks_same (l : List Ev.Leak) (u v : Value) (w : World) (hl : RLeaks w u l) (hm : RLeaks w v l) :
    Calls Try.prog 42 #[u, v] w fun e w' => e = .returned (.bool true) ∧ Below w.heap.size w w' :=
  (quiet_below (sameLeaks_any l l u v w hl hm)).mono fun e w' ⟨h, hb⟩ => ⟨by rw [h]; simp, hb⟩
theorem sameInts_same (l : List Int) (u v : Value) (w : World) (hl : RInts w w.heap.size u l) (hm : RInts w w.heap.size v l) :
    Calls Try.prog 34 #[u, v] w fun e w' => e = .returned (.bool true) ∧ Below w.heap.size w w' :=
  quiet_below (sameInts_is l l u v w hl hm true (by simp))
theorem var_info : (Try.prog.info? 88).map (fun i => (i.zero, i.size, i.bytes)) = some (some (.agg #[.string .empty, .bool false, .int .i64 0]), 3, 32) := by kernel_rfl
theorem made_vars (n : Nat) : (madeCells #[.string .empty, .bool false, .int .i64 0] (n * 3)).toList = (List.replicate n (default : Ev.Vr)).flatMap cellsV := by
  have hc : ∀ c ∈ List.replicate n (cellsV default), c.length = 3 := fun c h => by rw [List.eq_of_mem_replicate h]; rfl
  rw [List.flatMap_def, List.map_replicate]
  apply List.ext_getElem?
  intro m
  by_cases hm : m < n * 3
  · have hd : m = m / 3 * 3 + m % 3 := by omega
    have h1 : (madeCells #[.string .empty, .bool false, .int .i64 0] (n * 3)).toList[m]? = some ((#[Value.string .empty, .bool false, .int .i64 0])[m % 3]!) := by
      simp [madeCells, hm]
    have hk : m / 3 < n := by omega
    rw [h1, hd, flatten_at _ hc (m / 3) (m % 3) (Nat.mod_lt _ (by decide)), List.getElem?_replicate, if_pos hk]
    have hmod : (m / 3 * 3 + m % 3) % 3 = m % 3 := by omega
    rw [hmod]
    rcases (show m % 3 = 0 ∨ m % 3 = 1 ∨ m % 3 = 2 by omega) with h | h | h <;> rw [h] <;> rfl
  · rw [List.getElem?_eq_none (by simp [madeCells]; omega), List.getElem?_eq_none (by rw [flatten_len _ hc, List.length_replicate]; omega)]
theorem params_make {n : Nat} {p : Int} (hp : (n : Int) = p) (hn : n ≤ 1048576) (u : World) :
    (Go.Instr.makeSlice 24 (.int .i64 p) (.int .i64 p)).run Try.prog u = .ok (.slice (some ⟨u.heap.size, 0, none⟩) n n) (u.alloc (.cells (madeCells #[.string .empty, .bool false, .int .i64 0] (n * 3)) 88)) := by
  obtain ⟨i, hi, hz0, hz1, hz2⟩ := info_parts var_info
  subst hp
  have h := run_make (P := Try.prog) (w := u) 24 88 i _ Try.underlying24 hi hz0 .i64 .i64 (n : Int) (n : Int) (by omega) (Int.le_refl _) (by rw [hz2]; omega) (by omega)
  rw [hz1] at h
  simpa [Value.cells] using h
theorem params_vars {n : Nat} (hn : n ≤ 1048576) (u : World) :
    RVars (u.alloc (.cells (madeCells #[.string .empty, .bool false, .int .i64 0] (n * 3)) 88)) (u.alloc (.cells (madeCells #[.string .empty, .bool false, .int .i64 0] (n * 3)) 88)).heap.size (.slice (some ⟨u.heap.size, 0, none⟩) n n) (List.replicate n default) := by
  unfold RVars
  rw [List.length_replicate, ← made_vars]
  have hl : (madeCells #[Value.string .empty, .bool false, .int .i64 0] (n * 3)).toList.length = n * 3 := by simp [madeCells]
  refine SL.new _ _ 88 u.heap.size hl (by unfold maxLen; omega) ?_ (by simp)
  rw [heap_alloc_new]
theorem params_drew {n : Nat} (hn : n ≤ 1048576) (u : World) :
    RVars (u.alloc (.cells (madeCells #[.string .empty, .bool false, .int .i64 0] (n * 3)) 88)).drew (u.alloc (.cells (madeCells #[.string .empty, .bool false, .int .i64 0] (n * 3)) 88)).drew.heap.size (.slice (some ⟨u.heap.size, 0, none⟩) n n) (List.replicate n default) :=
  SL.at_ (params_vars hn u) (Below.drew (Below.refl _ _)) (Nat.le_refl _)
set_option maxRecDepth 16000 in
set_option maxHeartbeats 12800000 in
theorem flowTells_walk (f : Ev.Flat) (t : List Int) (g : Ev.Given) (i : Ev.Instr) (v : List Int) (al : Bool) (vf vg vv : Value) (w : World) (hf : RFlat w w.heap.size vf f) (hg : RGiven w w.heap.size vg g) (hv : RInts w w.heap.size vv v)
    (hl : t.length = 18) (ht : ∀ x ∈ t, -9223372036854775808 ≤ x ∧ x ≤ 9223372036854775807) (hbf : f.code.length + f.secret.length + f.arrays.length ≤ 1048576) (hbg : g.words.length + g.arrays.length + g.arrays.flatten.length ≤ 1048576) :
    Calls Try.prog 10 #[vf, tableV t, vg, .agg #[.int .i64 i.op, .int .i64 i.d, .int .i64 i.a, .int .i64 i.b, .int .i64 i.c, .int .i64 i.imm], vv, .bool al] w fun e w' => e = .returned (.bool true) ∧ Below w.heap.size w w' := by
  have HF0 := Lib.hid hf
  have HG0 := Lib.hid hg
  have HV0 := Lib.hid hv
  obtain ⟨vc, vs, va, rfl, hc, hs, ha⟩ := hf
  obtain ⟨vw, vx, rfl, hw, hx⟩ := hg
  obtain ⟨Ac, cc, rfl, _, _⟩ := SL.form hc
  obtain ⟨As, cs, rfl, _, _⟩ := SL.form hs
  obtain ⟨Av, cv, rfl, _, _⟩ := SL.form ha
  obtain ⟨Aw, cw, rfl, _, _⟩ := SL.form hw
  obtain ⟨_, _, hxs, _⟩ := hx
  obtain ⟨Ax, cx, rfl, _, _⟩ := SL.form hxs
  obtain ⟨Al, cl, rfl, _, _⟩ := SL.form hv
  have l1 : f.code.length ≤ 1073741824 := by omega
  have l2 : f.secret.length ≤ 1073741824 := by omega
  have l3 : f.arrays.length ≤ 1073741824 := by omega
  have l4 : g.words.length ≤ 1048576 := by omega
  have HL := Lib.hid hl
  have HTI := Lib.hid ht
  have HBF := Lib.hid hbf
  have HBG := Lib.hid hbg
  clear hc hs ha hw hxs hv ht hbf hbg
  obtain ⟨x0, x1, x2, x3, x4, x5, x6, x7, x8, x9, x10, x11, x12, x13, x14, x15, x16, x17, hT18⟩ := list18 hl
  have HTV := Lib.hid (show tableV t = .agg #[.int .i64 x0, .int .i64 x1, .int .i64 x2, .int .i64 x3, .int .i64 x4, .int .i64 x5, .int .i64 x6, .int .i64 x7, .int .i64 x8, .int .i64 x9, .int .i64 x10, .int .i64 x11, .int .i64 x12, .int .i64 x13, .int .i64 x14, .int .i64 x15, .int .i64 x16, .int .i64 x17] by rw [hT18]; rfl)
  clear hl hT18
  have CW : Hid (∀ u : World, Calls Try.prog 18 #[.agg #[.int .i64 x0, .int .i64 x1, .int .i64 x2, .int .i64 x3, .int .i64 x4, .int .i64 x5, .int .i64 x6, .int .i64 x7, .int .i64 x8, .int .i64 x9, .int .i64 x10, .int .i64 x11, .int .i64 x12, .int .i64 x13, .int .i64 x14, .int .i64 x15, .int .i64 x16, .int .i64 x17]] u fun e w' => e = .returned (.int .i64 (Ev.wrong t)) ∧ Below u.heap.size u w') := by
    intro u
    have h := refWrong_any t u HL.out HTI.out
    rw [HTV.out] at h
    exact h
  have CS1 : Hid (∀ (vv : Value) (u : World), RInts u u.heap.size vv v → 1 ≤ i.op → SeenIn i v.length (whichOf t i.op al) → Calls Try.prog 39 #[.agg #[.int .i64 x0, .int .i64 x1, .int .i64 x2, .int .i64 x3, .int .i64 x4, .int .i64 x5, .int .i64 x6, .int .i64 x7, .int .i64 x8, .int .i64 x9, .int .i64 x10, .int .i64 x11, .int .i64 x12, .int .i64 x13, .int .i64 x14, .int .i64 x15, .int .i64 x16, .int .i64 x17], .agg #[.int .i64 i.op, .int .i64 i.d, .int .i64 i.a, .int .i64 i.b, .int .i64 i.c, .int .i64 i.imm], vv, .bool al] u fun e w' => ∃ v', e = .returned v' ∧ RInts w' w'.heap.size v' (Ev.seen t i v al) ∧ Below u.heap.size u w') := by
    intro vv u h1 h2 h3
    have h := seenPub_any t i v al vv u HL.out h1 h2 h3
    rw [HTV.out] at h
    exact h.mono fun e w' ⟨v', a, b, _, _, c⟩ => ⟨v', a, b, c⟩
  have CS2 : Hid (∀ (vv : Value) (u : World), RInts u u.heap.size vv v → SeenIn i v.length (whichOf t i.op al) → Calls Try.prog 40 #[.agg #[.int .i64 x0, .int .i64 x1, .int .i64 x2, .int .i64 x3, .int .i64 x4, .int .i64 x5, .int .i64 x6, .int .i64 x7, .int .i64 x8, .int .i64 x9, .int .i64 x10, .int .i64 x11, .int .i64 x12, .int .i64 x13, .int .i64 x14, .int .i64 x15, .int .i64 x16, .int .i64 x17], .agg #[.int .i64 i.op, .int .i64 i.d, .int .i64 i.a, .int .i64 i.b, .int .i64 i.c, .int .i64 i.imm], vv, .bool al] u fun e w' => ∃ v', e = .returned v' ∧ RInts w' w'.heap.size v' (Ev.seen t i v al) ∧ Below u.heap.size u w') := by
    intro vv u h1 h3
    have h := refSeen_any t i v al vv u HL.out h1 h3
    rw [HTV.out] at h
    exact h.mono fun e w' ⟨v', a, b, c⟩ => ⟨v', a, SL.of_own b, c⟩
  have CR1 : Hid (∀ u : World, Below w.heap.size w u → Ev.wrong t = 0 → Ev.Right f → Given f g → Calls Try.prog 41 #[.agg #[.slice Ac f.code.length cc, .slice As f.secret.length cs, .int .i64 f.params, .slice Av f.arrays.length cv], .agg #[.int .i64 x0, .int .i64 x1, .int .i64 x2, .int .i64 x3, .int .i64 x4, .int .i64 x5, .int .i64 x6, .int .i64 x7, .int .i64 x8, .int .i64 x9, .int .i64 x10, .int .i64 x11, .int .i64 x12, .int .i64 x13, .int .i64 x14, .int .i64 x15, .int .i64 x16, .int .i64 x17], .agg #[.slice Aw g.words.length cw, .slice Ax g.arrays.length cx]] u fun e w' => ∃ ve vl, e = .returned (.tuple #[ve, vl]) ∧ REnded w' ve (Ev.run f t g).1 ∧ RLeaks w' vl (Ev.run f t g).2 ∧ Below u.heap.size u w') := by
    intro u hb h1 h2 h3
    have h := run_any f t g _ _ u (HF0.out.at_ hb (Nat.le_refl _)) (HG0.out.at_ hb (Nat.le_refl _)) HL.out h1 h2 h3
    rw [HTV.out] at h
    exact h
  have CR2 : Hid (∀ u : World, Below w.heap.size w u → Ev.wrong t = 0 → Ev.Right f → Given f g → Calls Try.prog 23 #[.agg #[.slice Ac f.code.length cc, .slice As f.secret.length cs, .int .i64 f.params, .slice Av f.arrays.length cv], .agg #[.int .i64 x0, .int .i64 x1, .int .i64 x2, .int .i64 x3, .int .i64 x4, .int .i64 x5, .int .i64 x6, .int .i64 x7, .int .i64 x8, .int .i64 x9, .int .i64 x10, .int .i64 x11, .int .i64 x12, .int .i64 x13, .int .i64 x14, .int .i64 x15, .int .i64 x16, .int .i64 x17], .agg #[.slice Aw g.words.length cw, .slice Ax g.arrays.length cx]] u fun e w' => ∃ ve vl, e = .returned (.tuple #[ve, vl]) ∧ REnded w' ve (Ev.run f t g).1 ∧ RLeaks w' vl (Ev.run f t g).2 ∧ Below u.heap.size u w') := by
    intro u hb h1 h2 h3
    have h := refRun_any f t g _ _ u (HF0.out.at_ hb (Nat.le_refl _)) (HG0.out.at_ hb (Nat.le_refl _)) HL.out h1 h2 h3
    rw [HTV.out] at h
    exact h
  have hRT : ∀ {er ek : Int}, Ev.check f = (er, ek) → er = 0 → Ev.Right f := fun h h0 => Ev.right_of_check (by rw [h]; exact h0)
  obtain ⟨er, ek, hck⟩ : ∃ er ek, Ev.check f = (er, ek) := ⟨_, _, rfl⟩
  have HRT := Lib.hid (fun h0 => hRT hck h0)
  have CC1 : Hid (∀ u : World, Below w.heap.size w u → Calls Try.prog 38 #[.agg #[.slice Ac f.code.length cc, .slice As f.secret.length cs, .int .i64 f.params, .slice Av f.arrays.length cv]] u fun e w' => e = .returned (.tuple #[.int .i64 er, .int .i64 ek]) ∧ Below u.heap.size u w') := by
    intro u hb
    obtain ⟨vc, vs, va, e, h2, h3, h4⟩ := HF0.out.at_ hb (Nat.le_refl _)
    have h := check_any f vc vs va u h2 h3 h4
    rw [hck, ← e] at h
    exact h
  have CC2 : Hid (∀ u : World, Below w.heap.size w u → Calls Try.prog 17 #[.agg #[.slice Ac f.code.length cc, .slice As f.secret.length cs, .int .i64 f.params, .slice Av f.arrays.length cv]] u fun e w' => e = .returned (.tuple #[.int .i64 er, .int .i64 ek]) ∧ Below u.heap.size u w') := by
    intro u hb
    have h := refCheck_any f _ u (HF0.out.at_ hb (Nat.le_refl _))
    rw [hck] at h
    exact h
  clear hRT hck
  rw [HTV.out]
  go_enter Try.func10, Try.ntmps10
  go_upto_region 1 with fail
  have hbx := boxes4 w #[.slice Ac f.code.length cc, .slice As f.secret.length cs, .int .i64 f.params, .slice Av f.arrays.length cv] #[.int .i64 x0, .int .i64 x1, .int .i64 x2, .int .i64 x3, .int .i64 x4, .int .i64 x5, .int .i64 x6, .int .i64 x7, .int .i64 x8, .int .i64 x9, .int .i64 x10, .int .i64 x11, .int .i64 x12, .int .i64 x13, .int .i64 x14, .int .i64 x15, .int .i64 x16, .int .i64 x17] #[.slice Aw g.words.length cw, .slice Ax g.arrays.length cx] #[.int .i64 i.op, .int .i64 i.d, .int .i64 i.a, .int .i64 i.b, .int .i64 i.c, .int .i64 i.imm] 26 29 45 39
  have sA : w.heap.size + 1 + 1 + 1 + 1 ≤ ((((w.alloc (.cells #[.slice Ac f.code.length cc, .slice As f.secret.length cs, .int .i64 f.params, .slice Av f.arrays.length cv] 26)).alloc (.cells #[.int .i64 x0, .int .i64 x1, .int .i64 x2, .int .i64 x3, .int .i64 x4, .int .i64 x5, .int .i64 x6, .int .i64 x7, .int .i64 x8, .int .i64 x9, .int .i64 x10, .int .i64 x11, .int .i64 x12, .int .i64 x13, .int .i64 x14, .int .i64 x15, .int .i64 x16, .int .i64 x17] 29)).alloc (.cells #[.slice Aw g.words.length cw, .slice Ax g.arrays.length cx] 45)).alloc (.cells #[.int .i64 i.op, .int .i64 i.d, .int .i64 i.a, .int .i64 i.b, .int .i64 i.c, .int .i64 i.imm] 39)).heap.size := by simp
  have bA : Below w.heap.size w ((((w.alloc (.cells #[.slice Ac f.code.length cc, .slice As f.secret.length cs, .int .i64 f.params, .slice Av f.arrays.length cv] 26)).alloc (.cells #[.int .i64 x0, .int .i64 x1, .int .i64 x2, .int .i64 x3, .int .i64 x4, .int .i64 x5, .int .i64 x6, .int .i64 x7, .int .i64 x8, .int .i64 x9, .int .i64 x10, .int .i64 x11, .int .i64 x12, .int .i64 x13, .int .i64 x14, .int .i64 x15, .int .i64 x16, .int .i64 x17] 29)).alloc (.cells #[.slice Aw g.words.length cw, .slice Ax g.arrays.length cx] 45)).alloc (.cells #[.int .i64 i.op, .int .i64 i.d, .int .i64 i.a, .int .i64 i.b, .int .i64 i.c, .int .i64 i.imm] 39)) := by (repeat' (first | (with_reducible exact Below.refl _ _) | (with_reducible assumption) | (with_reducible refine Below.alloc ?_ ?_ _) | (with_reducible refine below_drewN ?_ _) | (with_reducible refine Below.drew ?_) | (with_reducible refine Below.setCell ?_ ?_ _) | (with_reducible refine Below.trans ?_ (Below.mono (by with_reducible assumption) ?_)) | go_size))
  obtain ⟨wA, hwA⟩ : ∃ wA, ((((w.alloc (.cells #[.slice Ac f.code.length cc, .slice As f.secret.length cs, .int .i64 f.params, .slice Av f.arrays.length cv] 26)).alloc (.cells #[.int .i64 x0, .int .i64 x1, .int .i64 x2, .int .i64 x3, .int .i64 x4, .int .i64 x5, .int .i64 x6, .int .i64 x7, .int .i64 x8, .int .i64 x9, .int .i64 x10, .int .i64 x11, .int .i64 x12, .int .i64 x13, .int .i64 x14, .int .i64 x15, .int .i64 x16, .int .i64 x17] 29)).alloc (.cells #[.slice Aw g.words.length cw, .slice Ax g.arrays.length cx] 45)).alloc (.cells #[.int .i64 i.op, .int .i64 i.d, .int .i64 i.a, .int .i64 i.b, .int .i64 i.c, .int .i64 i.imm] 39)) = wA := ⟨_, rfl⟩
  rw [hwA] at sA bA hbx
  obtain ⟨hbx0, hbx1, hbx2, hbx3⟩ := hbx
  have f0c : wA.cell? ⟨w.heap.size, 0, none⟩ = some (.slice Ac f.code.length cc) := hbx0 0 _ rfl
  have f1c : wA.cell? ⟨w.heap.size, 1, none⟩ = some (.slice As f.secret.length cs) := hbx0 1 _ rfl
  have f2c : wA.cell? ⟨w.heap.size, 2, none⟩ = some (.int .i64 f.params) := hbx0 2 _ rfl
  have f3c : wA.cell? ⟨w.heap.size, 3, none⟩ = some (.slice Av f.arrays.length cv) := hbx0 3 _ rfl
  have g0c : wA.cell? ⟨w.heap.size + 1 + 1, 0, none⟩ = some (.slice Aw g.words.length cw) := hbx2 0 _ rfl
  have g1c : wA.cell? ⟨w.heap.size + 1 + 1, 1, none⟩ = some (.slice Ax g.arrays.length cx) := hbx2 1 _ rfl
  have i0c : wA.cell? ⟨w.heap.size + 1 + 1 + 1, 0, none⟩ = some (.int .i64 i.op) := hbx3 0 _ rfl
  have i1c : wA.cell? ⟨w.heap.size + 1 + 1 + 1, 1, none⟩ = some (.int .i64 i.d) := hbx3 1 _ rfl
  have i2c : wA.cell? ⟨w.heap.size + 1 + 1 + 1, 2, none⟩ = some (.int .i64 i.a) := hbx3 2 _ rfl
  have i3c : wA.cell? ⟨w.heap.size + 1 + 1 + 1, 3, none⟩ = some (.int .i64 i.b) := hbx3 3 _ rfl
  have i4c : wA.cell? ⟨w.heap.size + 1 + 1 + 1, 4, none⟩ = some (.int .i64 i.c) := hbx3 4 _ rfl
  have i5c : wA.cell? ⟨w.heap.size + 1 + 1 + 1, 5, none⟩ = some (.int .i64 i.imm) := hbx3 5 _ rfl
  have z0 : w.heap.size < wA.heap.size := by omega
  have z1 : w.heap.size + 1 < wA.heap.size := by omega
  have z2 : w.heap.size + 1 + 1 < wA.heap.size := by omega
  have z3 : w.heap.size + 1 + 1 + 1 < wA.heap.size := by omega
  have ldf : ∀ u, Below wA.heap.size wA u → (Go.Instr.loadAt 26 (.pointer (some ⟨w.heap.size, 0, none⟩))).run Try.prog u = .ok (.agg #[.slice Ac f.code.length cc, .slice As f.secret.length cs, .int .i64 f.params, .slice Av f.arrays.length cv]) u := fun u hu => load_box Try.underlying26 (by kernel_rfl) rfl (by kernel_rfl) hbx0 z0 hu
  have ldt : ∀ u, Below wA.heap.size wA u → (Go.Instr.loadAt 29 (.pointer (some ⟨w.heap.size + 1, 0, none⟩))).run Try.prog u = .ok (.agg #[.int .i64 x0, .int .i64 x1, .int .i64 x2, .int .i64 x3, .int .i64 x4, .int .i64 x5, .int .i64 x6, .int .i64 x7, .int .i64 x8, .int .i64 x9, .int .i64 x10, .int .i64 x11, .int .i64 x12, .int .i64 x13, .int .i64 x14, .int .i64 x15, .int .i64 x16, .int .i64 x17]) u := fun u hu => load_box Try.underlying29 (by kernel_rfl) rfl (by kernel_rfl) hbx1 z1 hu
  have ldg : ∀ u, Below wA.heap.size wA u → (Go.Instr.loadAt 45 (.pointer (some ⟨w.heap.size + 1 + 1, 0, none⟩))).run Try.prog u = .ok (.agg #[.slice Aw g.words.length cw, .slice Ax g.arrays.length cx]) u := fun u hu => load_box Try.underlying45 (by kernel_rfl) rfl (by kernel_rfl) hbx2 z2 hu
  have ldi : ∀ u, Below wA.heap.size wA u → (Go.Instr.loadAt 39 (.pointer (some ⟨w.heap.size + 1 + 1 + 1, 0, none⟩))).run Try.prog u = .ok (.agg #[.int .i64 i.op, .int .i64 i.d, .int .i64 i.a, .int .i64 i.b, .int .i64 i.c, .int .i64 i.imm]) u := fun u hu => load_box Try.underlying39 (by kernel_rfl) rfl (by kernel_rfl) hbx3 z3 hu
  have rfw := Below.refl wA.heap.size wA
  clear hbx0 hbx1 hbx2 hbx3
  (try rw [hwA])
  clear hwA
  have HBA := Lib.hid bA
  go_cut [43] (fun x wx => x = .bool false ∧ Below wA.heap.size wA wx)
  case first => as_aux_lemma =>
    refine wp_region_trail (fun w' => Below ((wA).heap.size) (wA) w') [(0, true), (2, true), (1, false), (3, false), (4, true), (5, true), (6, true), (8, true), (7, false), (9, false), (10, false), (11, true), (12, true), (13, true), (14, true), (16, true), (15, false), (17, false), (18, true), (19, true)] (by kernel_rfl) (by kernel_rfl) (by kernel_rfl) (by decide) (by (repeat' (first | (with_reducible exact Below.refl _ _) | (with_reducible assumption) | (with_reducible refine Below.alloc ?_ ?_ _) | (with_reducible refine below_drewN ?_ _) | (with_reducible refine Below.drew ?_) | (with_reducible refine Below.setCell ?_ ?_ _) | (with_reducible refine Below.trans ?_ (Below.mono (by with_reducible assumption) ?_)) | go_size))) ?_
    apply trail_light
    case hi => (simp only [List.getElem?_toArray, List.getElem?_cons_zero, List.getElem?_cons_succ]; exact rfl)
    case hl => first | exact light_no (by rfl) | (apply light_plain rfl; intro w9 hb9; have hB9 : Below wA.heap.size wA w9 := (by (repeat' (first | (with_reducible exact Below.refl _ _) | (with_reducible assumption) | (with_reducible refine Below.alloc ?_ ?_ _) | (with_reducible refine below_drewN ?_ _) | (with_reducible refine Below.drew ?_) | (with_reducible refine Below.setCell ?_ ?_ _) | (with_reducible refine Below.trans ?_ (Below.mono (by with_reducible assumption) ?_)) | go_size))); exact exec_load rfl rfl (by first | exact ldf w9 hB9 | exact ldt w9 hB9 | exact ldg w9 hB9 | exact ldi w9 hB9 | exact ldh w9 hB9)) | (apply light_yes (by rfl); intro w9 hb9; have hB9 : Below wA.heap.size wA w9 := (by (repeat' (first | (with_reducible exact Below.refl _ _) | (with_reducible assumption) | (with_reducible refine Below.alloc ?_ ?_ _) | (with_reducible refine below_drewN ?_ _) | (with_reducible refine Below.drew ?_) | (with_reducible refine Below.setCell ?_ ?_ _) | (with_reducible refine Below.trans ?_ (Below.mono (by with_reducible assumption) ?_)) | go_size))); exact exec_load rfl rfl (by first | exact ldf w9 hB9 | exact ldt w9 hB9 | exact ldg w9 hB9 | exact ldi w9 hB9 | exact ldh w9 hB9)) | (apply light_plain rfl; intro w9 hb9; have hB9 : Below wA.heap.size wA w9 := (by (repeat' (first | (with_reducible exact Below.refl _ _) | (with_reducible assumption) | (with_reducible refine Below.alloc ?_ ?_ _) | (with_reducible refine below_drewN ?_ _) | (with_reducible refine Below.drew ?_) | (with_reducible refine Below.setCell ?_ ?_ _) | (with_reducible refine Below.trans ?_ (Below.mono (by with_reducible assumption) ?_)) | go_size))); obtain ⟨kc9, kf9, s9⟩ := bfacts hb9; obtain ⟨kd9, kg9, _⟩ := bfacts hB9; go_simp; try rfl) | (apply light_yes (by rfl); intro w9 hb9; have hB9 : Below wA.heap.size wA w9 := (by (repeat' (first | (with_reducible exact Below.refl _ _) | (with_reducible assumption) | (with_reducible refine Below.alloc ?_ ?_ _) | (with_reducible refine below_drewN ?_ _) | (with_reducible refine Below.drew ?_) | (with_reducible refine Below.setCell ?_ ?_ _) | (with_reducible refine Below.trans ?_ (Below.mono (by with_reducible assumption) ?_)) | go_size))); obtain ⟨kc9, kf9, s9⟩ := bfacts hb9; obtain ⟨kd9, kg9, _⟩ := bfacts hB9; go_simp; try rfl)
    case hQ => exact fun _ _ _ h => h
    (try simp only [Act.put, List.setIfInBounds_toArray, List.set_cons_zero, List.set_cons_succ])
    apply trail_light
    case hi => (simp only [List.getElem?_toArray, List.getElem?_cons_zero, List.getElem?_cons_succ]; exact rfl)
    case hl => first | exact light_no (by rfl) | (apply light_plain rfl; intro w9 hb9; have hB9 : Below wA.heap.size wA w9 := (by (repeat' (first | (with_reducible exact Below.refl _ _) | (with_reducible assumption) | (with_reducible refine Below.alloc ?_ ?_ _) | (with_reducible refine below_drewN ?_ _) | (with_reducible refine Below.drew ?_) | (with_reducible refine Below.setCell ?_ ?_ _) | (with_reducible refine Below.trans ?_ (Below.mono (by with_reducible assumption) ?_)) | go_size))); exact exec_load rfl rfl (by first | exact ldf w9 hB9 | exact ldt w9 hB9 | exact ldg w9 hB9 | exact ldi w9 hB9 | exact ldh w9 hB9)) | (apply light_yes (by rfl); intro w9 hb9; have hB9 : Below wA.heap.size wA w9 := (by (repeat' (first | (with_reducible exact Below.refl _ _) | (with_reducible assumption) | (with_reducible refine Below.alloc ?_ ?_ _) | (with_reducible refine below_drewN ?_ _) | (with_reducible refine Below.drew ?_) | (with_reducible refine Below.setCell ?_ ?_ _) | (with_reducible refine Below.trans ?_ (Below.mono (by with_reducible assumption) ?_)) | go_size))); exact exec_load rfl rfl (by first | exact ldf w9 hB9 | exact ldt w9 hB9 | exact ldg w9 hB9 | exact ldi w9 hB9 | exact ldh w9 hB9)) | (apply light_plain rfl; intro w9 hb9; have hB9 : Below wA.heap.size wA w9 := (by (repeat' (first | (with_reducible exact Below.refl _ _) | (with_reducible assumption) | (with_reducible refine Below.alloc ?_ ?_ _) | (with_reducible refine below_drewN ?_ _) | (with_reducible refine Below.drew ?_) | (with_reducible refine Below.setCell ?_ ?_ _) | (with_reducible refine Below.trans ?_ (Below.mono (by with_reducible assumption) ?_)) | go_size))); obtain ⟨kc9, kf9, s9⟩ := bfacts hb9; obtain ⟨kd9, kg9, _⟩ := bfacts hB9; go_simp; try rfl) | (apply light_yes (by rfl); intro w9 hb9; have hB9 : Below wA.heap.size wA w9 := (by (repeat' (first | (with_reducible exact Below.refl _ _) | (with_reducible assumption) | (with_reducible refine Below.alloc ?_ ?_ _) | (with_reducible refine below_drewN ?_ _) | (with_reducible refine Below.drew ?_) | (with_reducible refine Below.setCell ?_ ?_ _) | (with_reducible refine Below.trans ?_ (Below.mono (by with_reducible assumption) ?_)) | go_size))); obtain ⟨kc9, kf9, s9⟩ := bfacts hb9; obtain ⟨kd9, kg9, _⟩ := bfacts hB9; go_simp; try rfl)
    case hQ => exact fun _ _ _ h => h
    (try simp only [Act.put, List.setIfInBounds_toArray, List.set_cons_zero, List.set_cons_succ])
    apply trail_heavy
    case hi => (simp only [List.getElem?_toArray, List.getElem?_cons_zero, List.getElem?_cons_succ]; exact rfl)
    go_wp2_with (first | (go_at_call 33; refine (own_any f _ _ (HF0.out.at_ (by (repeat' (first | (with_reducible exact Below.refl _ _) | (with_reducible assumption) | (with_reducible refine Below.alloc ?_ ?_ _) | (with_reducible refine below_drewN ?_ _) | (with_reducible refine Below.drew ?_) | (with_reducible refine Below.setCell ?_ ?_ _) | (with_reducible refine Below.trans ?_ (Below.mono (by with_reducible assumption) ?_)) | go_size))) (Nat.le_refl _)) l1 l2 l3).mono ?_; rintro e w1 ⟨v1, rfl, hR1, hb1⟩; obtain ⟨kc1, kf1, s1⟩ := bfacts hb1; (try simp only [World.size_alloc, World.size_setCell, World.size_drew, World.heap_drewN, Nat.add_one_le_iff] at s1); have HR1 := Lib.hid hR1) | (go_at_call 32; refine (sameFlat_same f _ _ _ (HR1.out) (HF0.out.at_ (by (repeat' (first | (with_reducible exact Below.refl _ _) | (with_reducible assumption) | (with_reducible refine Below.alloc ?_ ?_ _) | (with_reducible refine below_drewN ?_ _) | (with_reducible refine Below.drew ?_) | (with_reducible refine Below.setCell ?_ ?_ _) | (with_reducible refine Below.trans ?_ (Below.mono (by with_reducible assumption) ?_)) | go_size))) (Nat.le_refl _))).mono ?_; rintro e w2 ⟨rfl, hb2⟩; obtain ⟨kc2, kf2, s2⟩ := bfacts hb2; (try simp only [World.size_alloc, World.size_setCell, World.size_drew, World.heap_drewN, Nat.add_one_le_iff] at s2); skip) | (go_at_call 35; refine (reads_any i _).mono ?_; rintro e w3 ⟨v3, rfl, hR3, hb3⟩; obtain ⟨kc3, kf3, s3⟩ := bfacts hb3; (try simp only [World.size_alloc, World.size_setCell, World.size_drew, World.heap_drewN, Nat.add_one_le_iff] at s3); have HR3 := Lib.hid hR3) | (go_at_call 36; refine (refReads_any i _).mono ?_; rintro e w4 ⟨v4, rfl, hO4, hb4⟩; have HR4 : Hid (RInts w4 w4.heap.size v4 (Ev.reads i)) := SL.of_own hO4; obtain ⟨kc4, kf4, s4⟩ := bfacts hb4; have HR3' : Hid (RInts w4 w4.heap.size v3 (Ev.reads i)) := SL.at_ HR3.out (by (repeat' (first | (with_reducible exact Below.refl _ _) | (with_reducible assumption) | (with_reducible refine Below.alloc ?_ ?_ _) | (with_reducible refine below_drewN ?_ _) | (with_reducible refine Below.drew ?_) | (with_reducible refine Below.setCell ?_ ?_ _) | (with_reducible refine Below.trans ?_ (Below.mono (by with_reducible assumption) ?_)) | go_size))) (Nat.le_refl _)) | (go_at_call 34; refine (sameInts_same (Ev.reads i) _ _ _ HR3'.out HR4.out).mono ?_; rintro e w5 ⟨rfl, hb5⟩; obtain ⟨kc5, kf5, s5⟩ := bfacts hb5; (try simp only [World.size_alloc, World.size_setCell, World.size_drew, World.heap_drewN, Nat.add_one_le_iff] at s5); skip) | (go_at_call 37; refine (makes_any i _).mono ?_; rintro e w6 ⟨rfl, hb6⟩; obtain ⟨kc6, kf6, s6⟩ := bfacts hb6; (try simp only [World.size_alloc, World.size_setCell, World.size_drew, World.heap_drewN, Nat.add_one_le_iff] at s6); skip) | (go_at_call 30; refine (refMakes_any i _).mono ?_; rintro e w7 ⟨rfl, hb7⟩; obtain ⟨kc7, kf7, s7⟩ := bfacts hb7; (try simp only [World.size_alloc, World.size_setCell, World.size_drew, World.heap_drewN, Nat.add_one_le_iff] at s7); skip))
    refine ⟨by (repeat' (first | (with_reducible exact Below.refl _ _) | (with_reducible assumption) | (with_reducible refine Below.alloc ?_ ?_ _) | (with_reducible refine below_drewN ?_ _) | (with_reducible refine Below.drew ?_) | (with_reducible refine Below.setCell ?_ ?_ _) | (with_reducible refine Below.trans ?_ (Below.mono (by with_reducible assumption) ?_)) | go_size)), ?_⟩
    apply trail_heavy
    case hi => (simp only [List.getElem?_toArray, List.getElem?_cons_zero, List.getElem?_cons_succ]; exact rfl)
    go_wp2_with (first | (go_at_call 33; refine (own_any f _ _ (HF0.out.at_ (by (repeat' (first | (with_reducible exact Below.refl _ _) | (with_reducible assumption) | (with_reducible refine Below.alloc ?_ ?_ _) | (with_reducible refine below_drewN ?_ _) | (with_reducible refine Below.drew ?_) | (with_reducible refine Below.setCell ?_ ?_ _) | (with_reducible refine Below.trans ?_ (Below.mono (by with_reducible assumption) ?_)) | go_size))) (Nat.le_refl _)) l1 l2 l3).mono ?_; rintro e w1 ⟨v1, rfl, hR1, hb1⟩; obtain ⟨kc1, kf1, s1⟩ := bfacts hb1; (try simp only [World.size_alloc, World.size_setCell, World.size_drew, World.heap_drewN, Nat.add_one_le_iff] at s1); have HR1 := Lib.hid hR1) | (go_at_call 32; refine (sameFlat_same f _ _ _ (HR1.out) (HF0.out.at_ (by (repeat' (first | (with_reducible exact Below.refl _ _) | (with_reducible assumption) | (with_reducible refine Below.alloc ?_ ?_ _) | (with_reducible refine below_drewN ?_ _) | (with_reducible refine Below.drew ?_) | (with_reducible refine Below.setCell ?_ ?_ _) | (with_reducible refine Below.trans ?_ (Below.mono (by with_reducible assumption) ?_)) | go_size))) (Nat.le_refl _))).mono ?_; rintro e w2 ⟨rfl, hb2⟩; obtain ⟨kc2, kf2, s2⟩ := bfacts hb2; (try simp only [World.size_alloc, World.size_setCell, World.size_drew, World.heap_drewN, Nat.add_one_le_iff] at s2); skip) | (go_at_call 35; refine (reads_any i _).mono ?_; rintro e w3 ⟨v3, rfl, hR3, hb3⟩; obtain ⟨kc3, kf3, s3⟩ := bfacts hb3; (try simp only [World.size_alloc, World.size_setCell, World.size_drew, World.heap_drewN, Nat.add_one_le_iff] at s3); have HR3 := Lib.hid hR3) | (go_at_call 36; refine (refReads_any i _).mono ?_; rintro e w4 ⟨v4, rfl, hO4, hb4⟩; have HR4 : Hid (RInts w4 w4.heap.size v4 (Ev.reads i)) := SL.of_own hO4; obtain ⟨kc4, kf4, s4⟩ := bfacts hb4; have HR3' : Hid (RInts w4 w4.heap.size v3 (Ev.reads i)) := SL.at_ HR3.out (by (repeat' (first | (with_reducible exact Below.refl _ _) | (with_reducible assumption) | (with_reducible refine Below.alloc ?_ ?_ _) | (with_reducible refine below_drewN ?_ _) | (with_reducible refine Below.drew ?_) | (with_reducible refine Below.setCell ?_ ?_ _) | (with_reducible refine Below.trans ?_ (Below.mono (by with_reducible assumption) ?_)) | go_size))) (Nat.le_refl _)) | (go_at_call 34; refine (sameInts_same (Ev.reads i) _ _ _ HR3'.out HR4.out).mono ?_; rintro e w5 ⟨rfl, hb5⟩; obtain ⟨kc5, kf5, s5⟩ := bfacts hb5; (try simp only [World.size_alloc, World.size_setCell, World.size_drew, World.heap_drewN, Nat.add_one_le_iff] at s5); skip) | (go_at_call 37; refine (makes_any i _).mono ?_; rintro e w6 ⟨rfl, hb6⟩; obtain ⟨kc6, kf6, s6⟩ := bfacts hb6; (try simp only [World.size_alloc, World.size_setCell, World.size_drew, World.heap_drewN, Nat.add_one_le_iff] at s6); skip) | (go_at_call 30; refine (refMakes_any i _).mono ?_; rintro e w7 ⟨rfl, hb7⟩; obtain ⟨kc7, kf7, s7⟩ := bfacts hb7; (try simp only [World.size_alloc, World.size_setCell, World.size_drew, World.heap_drewN, Nat.add_one_le_iff] at s7); skip))
    refine ⟨by (repeat' (first | (with_reducible exact Below.refl _ _) | (with_reducible assumption) | (with_reducible refine Below.alloc ?_ ?_ _) | (with_reducible refine below_drewN ?_ _) | (with_reducible refine Below.drew ?_) | (with_reducible refine Below.setCell ?_ ?_ _) | (with_reducible refine Below.trans ?_ (Below.mono (by with_reducible assumption) ?_)) | go_size)), ?_⟩
    apply trail_light
    case hi => (simp only [List.getElem?_toArray, List.getElem?_cons_zero, List.getElem?_cons_succ]; exact rfl)
    case hl => first | exact light_no (by rfl) | (apply light_plain rfl; intro w9 _; go_simp; try rfl) | (apply light_yes (by rfl); intro w9 _; go_simp; try rfl)
    case hQ => exact fun _ _ _ h => h
    (try simp only [Act.put, List.setIfInBounds_toArray, List.set_cons_zero, List.set_cons_succ])
    apply trail_light
    case hi => (simp only [List.getElem?_toArray, List.getElem?_cons_zero, List.getElem?_cons_succ]; exact rfl)
    case hl => first | exact light_no (by rfl) | (apply light_plain rfl; intro w9 _; go_simp; try rfl) | (apply light_yes (by rfl); intro w9 _; go_simp; try rfl)
    case hQ => exact fun _ _ _ h => h
    (try simp only [Act.put, List.setIfInBounds_toArray, List.set_cons_zero, List.set_cons_succ])
    apply trail_light
    case hi => (simp only [List.getElem?_toArray, List.getElem?_cons_zero, List.getElem?_cons_succ]; exact rfl)
    case hl => first | exact light_no (by rfl) | (apply light_plain rfl; intro w9 hb9; have hB9 : Below wA.heap.size wA w9 := (by (repeat' (first | (with_reducible exact Below.refl _ _) | (with_reducible assumption) | (with_reducible refine Below.alloc ?_ ?_ _) | (with_reducible refine below_drewN ?_ _) | (with_reducible refine Below.drew ?_) | (with_reducible refine Below.setCell ?_ ?_ _) | (with_reducible refine Below.trans ?_ (Below.mono (by with_reducible assumption) ?_)) | go_size))); exact exec_load rfl rfl (by first | exact ldf w9 hB9 | exact ldt w9 hB9 | exact ldg w9 hB9 | exact ldi w9 hB9 | exact ldh w9 hB9)) | (apply light_yes (by rfl); intro w9 hb9; have hB9 : Below wA.heap.size wA w9 := (by (repeat' (first | (with_reducible exact Below.refl _ _) | (with_reducible assumption) | (with_reducible refine Below.alloc ?_ ?_ _) | (with_reducible refine below_drewN ?_ _) | (with_reducible refine Below.drew ?_) | (with_reducible refine Below.setCell ?_ ?_ _) | (with_reducible refine Below.trans ?_ (Below.mono (by with_reducible assumption) ?_)) | go_size))); exact exec_load rfl rfl (by first | exact ldf w9 hB9 | exact ldt w9 hB9 | exact ldg w9 hB9 | exact ldi w9 hB9 | exact ldh w9 hB9)) | (apply light_plain rfl; intro w9 hb9; have hB9 : Below wA.heap.size wA w9 := (by (repeat' (first | (with_reducible exact Below.refl _ _) | (with_reducible assumption) | (with_reducible refine Below.alloc ?_ ?_ _) | (with_reducible refine below_drewN ?_ _) | (with_reducible refine Below.drew ?_) | (with_reducible refine Below.setCell ?_ ?_ _) | (with_reducible refine Below.trans ?_ (Below.mono (by with_reducible assumption) ?_)) | go_size))); obtain ⟨kc9, kf9, s9⟩ := bfacts hb9; obtain ⟨kd9, kg9, _⟩ := bfacts hB9; go_simp; try rfl) | (apply light_yes (by rfl); intro w9 hb9; have hB9 : Below wA.heap.size wA w9 := (by (repeat' (first | (with_reducible exact Below.refl _ _) | (with_reducible assumption) | (with_reducible refine Below.alloc ?_ ?_ _) | (with_reducible refine below_drewN ?_ _) | (with_reducible refine Below.drew ?_) | (with_reducible refine Below.setCell ?_ ?_ _) | (with_reducible refine Below.trans ?_ (Below.mono (by with_reducible assumption) ?_)) | go_size))); obtain ⟨kc9, kf9, s9⟩ := bfacts hb9; obtain ⟨kd9, kg9, _⟩ := bfacts hB9; go_simp; try rfl)
    case hQ => exact fun _ _ _ h => h
    (try simp only [Act.put, List.setIfInBounds_toArray, List.set_cons_zero, List.set_cons_succ])
    apply trail_light
    case hi => (simp only [List.getElem?_toArray, List.getElem?_cons_zero, List.getElem?_cons_succ]; exact rfl)
    case hl => first | exact light_no (by rfl) | (apply light_plain rfl; intro w9 hb9; have hB9 : Below wA.heap.size wA w9 := (by (repeat' (first | (with_reducible exact Below.refl _ _) | (with_reducible assumption) | (with_reducible refine Below.alloc ?_ ?_ _) | (with_reducible refine below_drewN ?_ _) | (with_reducible refine Below.drew ?_) | (with_reducible refine Below.setCell ?_ ?_ _) | (with_reducible refine Below.trans ?_ (Below.mono (by with_reducible assumption) ?_)) | go_size))); exact exec_load rfl rfl (by first | exact ldf w9 hB9 | exact ldt w9 hB9 | exact ldg w9 hB9 | exact ldi w9 hB9 | exact ldh w9 hB9)) | (apply light_yes (by rfl); intro w9 hb9; have hB9 : Below wA.heap.size wA w9 := (by (repeat' (first | (with_reducible exact Below.refl _ _) | (with_reducible assumption) | (with_reducible refine Below.alloc ?_ ?_ _) | (with_reducible refine below_drewN ?_ _) | (with_reducible refine Below.drew ?_) | (with_reducible refine Below.setCell ?_ ?_ _) | (with_reducible refine Below.trans ?_ (Below.mono (by with_reducible assumption) ?_)) | go_size))); exact exec_load rfl rfl (by first | exact ldf w9 hB9 | exact ldt w9 hB9 | exact ldg w9 hB9 | exact ldi w9 hB9 | exact ldh w9 hB9)) | (apply light_plain rfl; intro w9 hb9; have hB9 : Below wA.heap.size wA w9 := (by (repeat' (first | (with_reducible exact Below.refl _ _) | (with_reducible assumption) | (with_reducible refine Below.alloc ?_ ?_ _) | (with_reducible refine below_drewN ?_ _) | (with_reducible refine Below.drew ?_) | (with_reducible refine Below.setCell ?_ ?_ _) | (with_reducible refine Below.trans ?_ (Below.mono (by with_reducible assumption) ?_)) | go_size))); obtain ⟨kc9, kf9, s9⟩ := bfacts hb9; obtain ⟨kd9, kg9, _⟩ := bfacts hB9; go_simp; try rfl) | (apply light_yes (by rfl); intro w9 hb9; have hB9 : Below wA.heap.size wA w9 := (by (repeat' (first | (with_reducible exact Below.refl _ _) | (with_reducible assumption) | (with_reducible refine Below.alloc ?_ ?_ _) | (with_reducible refine below_drewN ?_ _) | (with_reducible refine Below.drew ?_) | (with_reducible refine Below.setCell ?_ ?_ _) | (with_reducible refine Below.trans ?_ (Below.mono (by with_reducible assumption) ?_)) | go_size))); obtain ⟨kc9, kf9, s9⟩ := bfacts hb9; obtain ⟨kd9, kg9, _⟩ := bfacts hB9; go_simp; try rfl)
    case hQ => exact fun _ _ _ h => h
    (try simp only [Act.put, List.setIfInBounds_toArray, List.set_cons_zero, List.set_cons_succ])
    apply trail_heavy
    case hi => (simp only [List.getElem?_toArray, List.getElem?_cons_zero, List.getElem?_cons_succ]; exact rfl)
    go_wp2_with (first | (go_at_call 33; refine (own_any f _ _ (HF0.out.at_ (by (repeat' (first | (with_reducible exact Below.refl _ _) | (with_reducible assumption) | (with_reducible refine Below.alloc ?_ ?_ _) | (with_reducible refine below_drewN ?_ _) | (with_reducible refine Below.drew ?_) | (with_reducible refine Below.setCell ?_ ?_ _) | (with_reducible refine Below.trans ?_ (Below.mono (by with_reducible assumption) ?_)) | go_size))) (Nat.le_refl _)) l1 l2 l3).mono ?_; rintro e w1 ⟨v1, rfl, hR1, hb1⟩; obtain ⟨kc1, kf1, s1⟩ := bfacts hb1; (try simp only [World.size_alloc, World.size_setCell, World.size_drew, World.heap_drewN, Nat.add_one_le_iff] at s1); have HR1 := Lib.hid hR1) | (go_at_call 32; refine (sameFlat_same f _ _ _ (HR1.out) (HF0.out.at_ (by (repeat' (first | (with_reducible exact Below.refl _ _) | (with_reducible assumption) | (with_reducible refine Below.alloc ?_ ?_ _) | (with_reducible refine below_drewN ?_ _) | (with_reducible refine Below.drew ?_) | (with_reducible refine Below.setCell ?_ ?_ _) | (with_reducible refine Below.trans ?_ (Below.mono (by with_reducible assumption) ?_)) | go_size))) (Nat.le_refl _))).mono ?_; rintro e w2 ⟨rfl, hb2⟩; obtain ⟨kc2, kf2, s2⟩ := bfacts hb2; (try simp only [World.size_alloc, World.size_setCell, World.size_drew, World.heap_drewN, Nat.add_one_le_iff] at s2); skip) | (go_at_call 35; refine (reads_any i _).mono ?_; rintro e w3 ⟨v3, rfl, hR3, hb3⟩; obtain ⟨kc3, kf3, s3⟩ := bfacts hb3; (try simp only [World.size_alloc, World.size_setCell, World.size_drew, World.heap_drewN, Nat.add_one_le_iff] at s3); have HR3 := Lib.hid hR3) | (go_at_call 36; refine (refReads_any i _).mono ?_; rintro e w4 ⟨v4, rfl, hO4, hb4⟩; have HR4 : Hid (RInts w4 w4.heap.size v4 (Ev.reads i)) := SL.of_own hO4; obtain ⟨kc4, kf4, s4⟩ := bfacts hb4; have HR3' : Hid (RInts w4 w4.heap.size v3 (Ev.reads i)) := SL.at_ HR3.out (by (repeat' (first | (with_reducible exact Below.refl _ _) | (with_reducible assumption) | (with_reducible refine Below.alloc ?_ ?_ _) | (with_reducible refine below_drewN ?_ _) | (with_reducible refine Below.drew ?_) | (with_reducible refine Below.setCell ?_ ?_ _) | (with_reducible refine Below.trans ?_ (Below.mono (by with_reducible assumption) ?_)) | go_size))) (Nat.le_refl _)) | (go_at_call 34; refine (sameInts_same (Ev.reads i) _ _ _ HR3'.out HR4.out).mono ?_; rintro e w5 ⟨rfl, hb5⟩; obtain ⟨kc5, kf5, s5⟩ := bfacts hb5; (try simp only [World.size_alloc, World.size_setCell, World.size_drew, World.heap_drewN, Nat.add_one_le_iff] at s5); skip) | (go_at_call 37; refine (makes_any i _).mono ?_; rintro e w6 ⟨rfl, hb6⟩; obtain ⟨kc6, kf6, s6⟩ := bfacts hb6; (try simp only [World.size_alloc, World.size_setCell, World.size_drew, World.heap_drewN, Nat.add_one_le_iff] at s6); skip) | (go_at_call 30; refine (refMakes_any i _).mono ?_; rintro e w7 ⟨rfl, hb7⟩; obtain ⟨kc7, kf7, s7⟩ := bfacts hb7; (try simp only [World.size_alloc, World.size_setCell, World.size_drew, World.heap_drewN, Nat.add_one_le_iff] at s7); skip))
    refine ⟨by (repeat' (first | (with_reducible exact Below.refl _ _) | (with_reducible assumption) | (with_reducible refine Below.alloc ?_ ?_ _) | (with_reducible refine below_drewN ?_ _) | (with_reducible refine Below.drew ?_) | (with_reducible refine Below.setCell ?_ ?_ _) | (with_reducible refine Below.trans ?_ (Below.mono (by with_reducible assumption) ?_)) | go_size)), ?_⟩
    apply trail_heavy
    case hi => (simp only [List.getElem?_toArray, List.getElem?_cons_zero, List.getElem?_cons_succ]; exact rfl)
    go_wp2_with (first | (go_at_call 33; refine (own_any f _ _ (HF0.out.at_ (by (repeat' (first | (with_reducible exact Below.refl _ _) | (with_reducible assumption) | (with_reducible refine Below.alloc ?_ ?_ _) | (with_reducible refine below_drewN ?_ _) | (with_reducible refine Below.drew ?_) | (with_reducible refine Below.setCell ?_ ?_ _) | (with_reducible refine Below.trans ?_ (Below.mono (by with_reducible assumption) ?_)) | go_size))) (Nat.le_refl _)) l1 l2 l3).mono ?_; rintro e w1 ⟨v1, rfl, hR1, hb1⟩; obtain ⟨kc1, kf1, s1⟩ := bfacts hb1; (try simp only [World.size_alloc, World.size_setCell, World.size_drew, World.heap_drewN, Nat.add_one_le_iff] at s1); have HR1 := Lib.hid hR1) | (go_at_call 32; refine (sameFlat_same f _ _ _ (HR1.out) (HF0.out.at_ (by (repeat' (first | (with_reducible exact Below.refl _ _) | (with_reducible assumption) | (with_reducible refine Below.alloc ?_ ?_ _) | (with_reducible refine below_drewN ?_ _) | (with_reducible refine Below.drew ?_) | (with_reducible refine Below.setCell ?_ ?_ _) | (with_reducible refine Below.trans ?_ (Below.mono (by with_reducible assumption) ?_)) | go_size))) (Nat.le_refl _))).mono ?_; rintro e w2 ⟨rfl, hb2⟩; obtain ⟨kc2, kf2, s2⟩ := bfacts hb2; (try simp only [World.size_alloc, World.size_setCell, World.size_drew, World.heap_drewN, Nat.add_one_le_iff] at s2); skip) | (go_at_call 35; refine (reads_any i _).mono ?_; rintro e w3 ⟨v3, rfl, hR3, hb3⟩; obtain ⟨kc3, kf3, s3⟩ := bfacts hb3; (try simp only [World.size_alloc, World.size_setCell, World.size_drew, World.heap_drewN, Nat.add_one_le_iff] at s3); have HR3 := Lib.hid hR3) | (go_at_call 36; refine (refReads_any i _).mono ?_; rintro e w4 ⟨v4, rfl, hO4, hb4⟩; have HR4 : Hid (RInts w4 w4.heap.size v4 (Ev.reads i)) := SL.of_own hO4; obtain ⟨kc4, kf4, s4⟩ := bfacts hb4; have HR3' : Hid (RInts w4 w4.heap.size v3 (Ev.reads i)) := SL.at_ HR3.out (by (repeat' (first | (with_reducible exact Below.refl _ _) | (with_reducible assumption) | (with_reducible refine Below.alloc ?_ ?_ _) | (with_reducible refine below_drewN ?_ _) | (with_reducible refine Below.drew ?_) | (with_reducible refine Below.setCell ?_ ?_ _) | (with_reducible refine Below.trans ?_ (Below.mono (by with_reducible assumption) ?_)) | go_size))) (Nat.le_refl _)) | (go_at_call 34; refine (sameInts_same (Ev.reads i) _ _ _ HR3'.out HR4.out).mono ?_; rintro e w5 ⟨rfl, hb5⟩; obtain ⟨kc5, kf5, s5⟩ := bfacts hb5; (try simp only [World.size_alloc, World.size_setCell, World.size_drew, World.heap_drewN, Nat.add_one_le_iff] at s5); skip) | (go_at_call 37; refine (makes_any i _).mono ?_; rintro e w6 ⟨rfl, hb6⟩; obtain ⟨kc6, kf6, s6⟩ := bfacts hb6; (try simp only [World.size_alloc, World.size_setCell, World.size_drew, World.heap_drewN, Nat.add_one_le_iff] at s6); skip) | (go_at_call 30; refine (refMakes_any i _).mono ?_; rintro e w7 ⟨rfl, hb7⟩; obtain ⟨kc7, kf7, s7⟩ := bfacts hb7; (try simp only [World.size_alloc, World.size_setCell, World.size_drew, World.heap_drewN, Nat.add_one_le_iff] at s7); skip))
    refine ⟨by (repeat' (first | (with_reducible exact Below.refl _ _) | (with_reducible assumption) | (with_reducible refine Below.alloc ?_ ?_ _) | (with_reducible refine below_drewN ?_ _) | (with_reducible refine Below.drew ?_) | (with_reducible refine Below.setCell ?_ ?_ _) | (with_reducible refine Below.trans ?_ (Below.mono (by with_reducible assumption) ?_)) | go_size)), ?_⟩
    apply trail_heavy
    case hi => (simp only [List.getElem?_toArray, List.getElem?_cons_zero, List.getElem?_cons_succ]; exact rfl)
    go_wp2_with (first | (go_at_call 33; refine (own_any f _ _ (HF0.out.at_ (by (repeat' (first | (with_reducible exact Below.refl _ _) | (with_reducible assumption) | (with_reducible refine Below.alloc ?_ ?_ _) | (with_reducible refine below_drewN ?_ _) | (with_reducible refine Below.drew ?_) | (with_reducible refine Below.setCell ?_ ?_ _) | (with_reducible refine Below.trans ?_ (Below.mono (by with_reducible assumption) ?_)) | go_size))) (Nat.le_refl _)) l1 l2 l3).mono ?_; rintro e w1 ⟨v1, rfl, hR1, hb1⟩; obtain ⟨kc1, kf1, s1⟩ := bfacts hb1; (try simp only [World.size_alloc, World.size_setCell, World.size_drew, World.heap_drewN, Nat.add_one_le_iff] at s1); have HR1 := Lib.hid hR1) | (go_at_call 32; refine (sameFlat_same f _ _ _ (HR1.out) (HF0.out.at_ (by (repeat' (first | (with_reducible exact Below.refl _ _) | (with_reducible assumption) | (with_reducible refine Below.alloc ?_ ?_ _) | (with_reducible refine below_drewN ?_ _) | (with_reducible refine Below.drew ?_) | (with_reducible refine Below.setCell ?_ ?_ _) | (with_reducible refine Below.trans ?_ (Below.mono (by with_reducible assumption) ?_)) | go_size))) (Nat.le_refl _))).mono ?_; rintro e w2 ⟨rfl, hb2⟩; obtain ⟨kc2, kf2, s2⟩ := bfacts hb2; (try simp only [World.size_alloc, World.size_setCell, World.size_drew, World.heap_drewN, Nat.add_one_le_iff] at s2); skip) | (go_at_call 35; refine (reads_any i _).mono ?_; rintro e w3 ⟨v3, rfl, hR3, hb3⟩; obtain ⟨kc3, kf3, s3⟩ := bfacts hb3; (try simp only [World.size_alloc, World.size_setCell, World.size_drew, World.heap_drewN, Nat.add_one_le_iff] at s3); have HR3 := Lib.hid hR3) | (go_at_call 36; refine (refReads_any i _).mono ?_; rintro e w4 ⟨v4, rfl, hO4, hb4⟩; have HR4 : Hid (RInts w4 w4.heap.size v4 (Ev.reads i)) := SL.of_own hO4; obtain ⟨kc4, kf4, s4⟩ := bfacts hb4; have HR3' : Hid (RInts w4 w4.heap.size v3 (Ev.reads i)) := SL.at_ HR3.out (by (repeat' (first | (with_reducible exact Below.refl _ _) | (with_reducible assumption) | (with_reducible refine Below.alloc ?_ ?_ _) | (with_reducible refine below_drewN ?_ _) | (with_reducible refine Below.drew ?_) | (with_reducible refine Below.setCell ?_ ?_ _) | (with_reducible refine Below.trans ?_ (Below.mono (by with_reducible assumption) ?_)) | go_size))) (Nat.le_refl _)) | (go_at_call 34; refine (sameInts_same (Ev.reads i) _ _ _ HR3'.out HR4.out).mono ?_; rintro e w5 ⟨rfl, hb5⟩; obtain ⟨kc5, kf5, s5⟩ := bfacts hb5; (try simp only [World.size_alloc, World.size_setCell, World.size_drew, World.heap_drewN, Nat.add_one_le_iff] at s5); skip) | (go_at_call 37; refine (makes_any i _).mono ?_; rintro e w6 ⟨rfl, hb6⟩; obtain ⟨kc6, kf6, s6⟩ := bfacts hb6; (try simp only [World.size_alloc, World.size_setCell, World.size_drew, World.heap_drewN, Nat.add_one_le_iff] at s6); skip) | (go_at_call 30; refine (refMakes_any i _).mono ?_; rintro e w7 ⟨rfl, hb7⟩; obtain ⟨kc7, kf7, s7⟩ := bfacts hb7; (try simp only [World.size_alloc, World.size_setCell, World.size_drew, World.heap_drewN, Nat.add_one_le_iff] at s7); skip))
    refine ⟨by (repeat' (first | (with_reducible exact Below.refl _ _) | (with_reducible assumption) | (with_reducible refine Below.alloc ?_ ?_ _) | (with_reducible refine below_drewN ?_ _) | (with_reducible refine Below.drew ?_) | (with_reducible refine Below.setCell ?_ ?_ _) | (with_reducible refine Below.trans ?_ (Below.mono (by with_reducible assumption) ?_)) | go_size)), ?_⟩
    apply trail_light
    case hi => (simp only [List.getElem?_toArray, List.getElem?_cons_zero, List.getElem?_cons_succ]; exact rfl)
    case hl => first | exact light_no (by rfl) | (apply light_plain rfl; intro w9 _; go_simp; try rfl) | (apply light_yes (by rfl); intro w9 _; go_simp; try rfl)
    case hQ => exact fun _ _ _ h => h
    (try simp only [Act.put, List.setIfInBounds_toArray, List.set_cons_zero, List.set_cons_succ])
    apply trail_light
    case hi => (simp only [List.getElem?_toArray, List.getElem?_cons_zero, List.getElem?_cons_succ]; exact rfl)
    case hl => first | exact light_no (by rfl) | (apply light_plain rfl; intro w9 _; go_simp; try rfl) | (apply light_yes (by rfl); intro w9 _; go_simp; try rfl)
    case hQ => exact fun _ _ _ h => h
    (try simp only [Act.put, List.setIfInBounds_toArray, List.set_cons_zero, List.set_cons_succ])
    apply trail_light
    case hi => (simp only [List.getElem?_toArray, List.getElem?_cons_zero, List.getElem?_cons_succ]; exact rfl)
    case hl => first | exact light_no (by rfl) | (apply light_plain rfl; intro w9 _; go_simp; try rfl) | (apply light_yes (by rfl); intro w9 _; go_simp; try rfl)
    case hQ => exact fun _ _ _ h => h
    (try simp only [Act.put, List.setIfInBounds_toArray, List.set_cons_zero, List.set_cons_succ])
    apply trail_light
    case hi => (simp only [List.getElem?_toArray, List.getElem?_cons_zero, List.getElem?_cons_succ]; exact rfl)
    case hl => first | exact light_no (by rfl) | (apply light_plain rfl; intro w9 hb9; have hB9 : Below wA.heap.size wA w9 := (by (repeat' (first | (with_reducible exact Below.refl _ _) | (with_reducible assumption) | (with_reducible refine Below.alloc ?_ ?_ _) | (with_reducible refine below_drewN ?_ _) | (with_reducible refine Below.drew ?_) | (with_reducible refine Below.setCell ?_ ?_ _) | (with_reducible refine Below.trans ?_ (Below.mono (by with_reducible assumption) ?_)) | go_size))); exact exec_load rfl rfl (by first | exact ldf w9 hB9 | exact ldt w9 hB9 | exact ldg w9 hB9 | exact ldi w9 hB9 | exact ldh w9 hB9)) | (apply light_yes (by rfl); intro w9 hb9; have hB9 : Below wA.heap.size wA w9 := (by (repeat' (first | (with_reducible exact Below.refl _ _) | (with_reducible assumption) | (with_reducible refine Below.alloc ?_ ?_ _) | (with_reducible refine below_drewN ?_ _) | (with_reducible refine Below.drew ?_) | (with_reducible refine Below.setCell ?_ ?_ _) | (with_reducible refine Below.trans ?_ (Below.mono (by with_reducible assumption) ?_)) | go_size))); exact exec_load rfl rfl (by first | exact ldf w9 hB9 | exact ldt w9 hB9 | exact ldg w9 hB9 | exact ldi w9 hB9 | exact ldh w9 hB9)) | (apply light_plain rfl; intro w9 hb9; have hB9 : Below wA.heap.size wA w9 := (by (repeat' (first | (with_reducible exact Below.refl _ _) | (with_reducible assumption) | (with_reducible refine Below.alloc ?_ ?_ _) | (with_reducible refine below_drewN ?_ _) | (with_reducible refine Below.drew ?_) | (with_reducible refine Below.setCell ?_ ?_ _) | (with_reducible refine Below.trans ?_ (Below.mono (by with_reducible assumption) ?_)) | go_size))); obtain ⟨kc9, kf9, s9⟩ := bfacts hb9; obtain ⟨kd9, kg9, _⟩ := bfacts hB9; go_simp; try rfl) | (apply light_yes (by rfl); intro w9 hb9; have hB9 : Below wA.heap.size wA w9 := (by (repeat' (first | (with_reducible exact Below.refl _ _) | (with_reducible assumption) | (with_reducible refine Below.alloc ?_ ?_ _) | (with_reducible refine below_drewN ?_ _) | (with_reducible refine Below.drew ?_) | (with_reducible refine Below.setCell ?_ ?_ _) | (with_reducible refine Below.trans ?_ (Below.mono (by with_reducible assumption) ?_)) | go_size))); obtain ⟨kc9, kf9, s9⟩ := bfacts hb9; obtain ⟨kd9, kg9, _⟩ := bfacts hB9; go_simp; try rfl)
    case hQ => exact fun _ _ _ h => h
    (try simp only [Act.put, List.setIfInBounds_toArray, List.set_cons_zero, List.set_cons_succ])
    apply trail_light
    case hi => (simp only [List.getElem?_toArray, List.getElem?_cons_zero, List.getElem?_cons_succ]; exact rfl)
    case hl => first | exact light_no (by rfl) | (apply light_plain rfl; intro w9 hb9; have hB9 : Below wA.heap.size wA w9 := (by (repeat' (first | (with_reducible exact Below.refl _ _) | (with_reducible assumption) | (with_reducible refine Below.alloc ?_ ?_ _) | (with_reducible refine below_drewN ?_ _) | (with_reducible refine Below.drew ?_) | (with_reducible refine Below.setCell ?_ ?_ _) | (with_reducible refine Below.trans ?_ (Below.mono (by with_reducible assumption) ?_)) | go_size))); exact exec_load rfl rfl (by first | exact ldf w9 hB9 | exact ldt w9 hB9 | exact ldg w9 hB9 | exact ldi w9 hB9 | exact ldh w9 hB9)) | (apply light_yes (by rfl); intro w9 hb9; have hB9 : Below wA.heap.size wA w9 := (by (repeat' (first | (with_reducible exact Below.refl _ _) | (with_reducible assumption) | (with_reducible refine Below.alloc ?_ ?_ _) | (with_reducible refine below_drewN ?_ _) | (with_reducible refine Below.drew ?_) | (with_reducible refine Below.setCell ?_ ?_ _) | (with_reducible refine Below.trans ?_ (Below.mono (by with_reducible assumption) ?_)) | go_size))); exact exec_load rfl rfl (by first | exact ldf w9 hB9 | exact ldt w9 hB9 | exact ldg w9 hB9 | exact ldi w9 hB9 | exact ldh w9 hB9)) | (apply light_plain rfl; intro w9 hb9; have hB9 : Below wA.heap.size wA w9 := (by (repeat' (first | (with_reducible exact Below.refl _ _) | (with_reducible assumption) | (with_reducible refine Below.alloc ?_ ?_ _) | (with_reducible refine below_drewN ?_ _) | (with_reducible refine Below.drew ?_) | (with_reducible refine Below.setCell ?_ ?_ _) | (with_reducible refine Below.trans ?_ (Below.mono (by with_reducible assumption) ?_)) | go_size))); obtain ⟨kc9, kf9, s9⟩ := bfacts hb9; obtain ⟨kd9, kg9, _⟩ := bfacts hB9; go_simp; try rfl) | (apply light_yes (by rfl); intro w9 hb9; have hB9 : Below wA.heap.size wA w9 := (by (repeat' (first | (with_reducible exact Below.refl _ _) | (with_reducible assumption) | (with_reducible refine Below.alloc ?_ ?_ _) | (with_reducible refine below_drewN ?_ _) | (with_reducible refine Below.drew ?_) | (with_reducible refine Below.setCell ?_ ?_ _) | (with_reducible refine Below.trans ?_ (Below.mono (by with_reducible assumption) ?_)) | go_size))); obtain ⟨kc9, kf9, s9⟩ := bfacts hb9; obtain ⟨kd9, kg9, _⟩ := bfacts hB9; go_simp; try rfl)
    case hQ => exact fun _ _ _ h => h
    (try simp only [Act.put, List.setIfInBounds_toArray, List.set_cons_zero, List.set_cons_succ])
    apply trail_heavy
    case hi => (simp only [List.getElem?_toArray, List.getElem?_cons_zero, List.getElem?_cons_succ]; exact rfl)
    go_wp2_with (first | (go_at_call 33; refine (own_any f _ _ (HF0.out.at_ (by (repeat' (first | (with_reducible exact Below.refl _ _) | (with_reducible assumption) | (with_reducible refine Below.alloc ?_ ?_ _) | (with_reducible refine below_drewN ?_ _) | (with_reducible refine Below.drew ?_) | (with_reducible refine Below.setCell ?_ ?_ _) | (with_reducible refine Below.trans ?_ (Below.mono (by with_reducible assumption) ?_)) | go_size))) (Nat.le_refl _)) l1 l2 l3).mono ?_; rintro e w1 ⟨v1, rfl, hR1, hb1⟩; obtain ⟨kc1, kf1, s1⟩ := bfacts hb1; (try simp only [World.size_alloc, World.size_setCell, World.size_drew, World.heap_drewN, Nat.add_one_le_iff] at s1); have HR1 := Lib.hid hR1) | (go_at_call 32; refine (sameFlat_same f _ _ _ (HR1.out) (HF0.out.at_ (by (repeat' (first | (with_reducible exact Below.refl _ _) | (with_reducible assumption) | (with_reducible refine Below.alloc ?_ ?_ _) | (with_reducible refine below_drewN ?_ _) | (with_reducible refine Below.drew ?_) | (with_reducible refine Below.setCell ?_ ?_ _) | (with_reducible refine Below.trans ?_ (Below.mono (by with_reducible assumption) ?_)) | go_size))) (Nat.le_refl _))).mono ?_; rintro e w2 ⟨rfl, hb2⟩; obtain ⟨kc2, kf2, s2⟩ := bfacts hb2; (try simp only [World.size_alloc, World.size_setCell, World.size_drew, World.heap_drewN, Nat.add_one_le_iff] at s2); skip) | (go_at_call 35; refine (reads_any i _).mono ?_; rintro e w3 ⟨v3, rfl, hR3, hb3⟩; obtain ⟨kc3, kf3, s3⟩ := bfacts hb3; (try simp only [World.size_alloc, World.size_setCell, World.size_drew, World.heap_drewN, Nat.add_one_le_iff] at s3); have HR3 := Lib.hid hR3) | (go_at_call 36; refine (refReads_any i _).mono ?_; rintro e w4 ⟨v4, rfl, hO4, hb4⟩; have HR4 : Hid (RInts w4 w4.heap.size v4 (Ev.reads i)) := SL.of_own hO4; obtain ⟨kc4, kf4, s4⟩ := bfacts hb4; have HR3' : Hid (RInts w4 w4.heap.size v3 (Ev.reads i)) := SL.at_ HR3.out (by (repeat' (first | (with_reducible exact Below.refl _ _) | (with_reducible assumption) | (with_reducible refine Below.alloc ?_ ?_ _) | (with_reducible refine below_drewN ?_ _) | (with_reducible refine Below.drew ?_) | (with_reducible refine Below.setCell ?_ ?_ _) | (with_reducible refine Below.trans ?_ (Below.mono (by with_reducible assumption) ?_)) | go_size))) (Nat.le_refl _)) | (go_at_call 34; refine (sameInts_same (Ev.reads i) _ _ _ HR3'.out HR4.out).mono ?_; rintro e w5 ⟨rfl, hb5⟩; obtain ⟨kc5, kf5, s5⟩ := bfacts hb5; (try simp only [World.size_alloc, World.size_setCell, World.size_drew, World.heap_drewN, Nat.add_one_le_iff] at s5); skip) | (go_at_call 37; refine (makes_any i _).mono ?_; rintro e w6 ⟨rfl, hb6⟩; obtain ⟨kc6, kf6, s6⟩ := bfacts hb6; (try simp only [World.size_alloc, World.size_setCell, World.size_drew, World.heap_drewN, Nat.add_one_le_iff] at s6); skip) | (go_at_call 30; refine (refMakes_any i _).mono ?_; rintro e w7 ⟨rfl, hb7⟩; obtain ⟨kc7, kf7, s7⟩ := bfacts hb7; (try simp only [World.size_alloc, World.size_setCell, World.size_drew, World.heap_drewN, Nat.add_one_le_iff] at s7); skip))
    refine ⟨by (repeat' (first | (with_reducible exact Below.refl _ _) | (with_reducible assumption) | (with_reducible refine Below.alloc ?_ ?_ _) | (with_reducible refine below_drewN ?_ _) | (with_reducible refine Below.drew ?_) | (with_reducible refine Below.setCell ?_ ?_ _) | (with_reducible refine Below.trans ?_ (Below.mono (by with_reducible assumption) ?_)) | go_size)), ?_⟩
    apply trail_heavy
    case hi => (simp only [List.getElem?_toArray, List.getElem?_cons_zero, List.getElem?_cons_succ]; exact rfl)
    go_wp2_with (first | (go_at_call 33; refine (own_any f _ _ (HF0.out.at_ (by (repeat' (first | (with_reducible exact Below.refl _ _) | (with_reducible assumption) | (with_reducible refine Below.alloc ?_ ?_ _) | (with_reducible refine below_drewN ?_ _) | (with_reducible refine Below.drew ?_) | (with_reducible refine Below.setCell ?_ ?_ _) | (with_reducible refine Below.trans ?_ (Below.mono (by with_reducible assumption) ?_)) | go_size))) (Nat.le_refl _)) l1 l2 l3).mono ?_; rintro e w1 ⟨v1, rfl, hR1, hb1⟩; obtain ⟨kc1, kf1, s1⟩ := bfacts hb1; (try simp only [World.size_alloc, World.size_setCell, World.size_drew, World.heap_drewN, Nat.add_one_le_iff] at s1); have HR1 := Lib.hid hR1) | (go_at_call 32; refine (sameFlat_same f _ _ _ (HR1.out) (HF0.out.at_ (by (repeat' (first | (with_reducible exact Below.refl _ _) | (with_reducible assumption) | (with_reducible refine Below.alloc ?_ ?_ _) | (with_reducible refine below_drewN ?_ _) | (with_reducible refine Below.drew ?_) | (with_reducible refine Below.setCell ?_ ?_ _) | (with_reducible refine Below.trans ?_ (Below.mono (by with_reducible assumption) ?_)) | go_size))) (Nat.le_refl _))).mono ?_; rintro e w2 ⟨rfl, hb2⟩; obtain ⟨kc2, kf2, s2⟩ := bfacts hb2; (try simp only [World.size_alloc, World.size_setCell, World.size_drew, World.heap_drewN, Nat.add_one_le_iff] at s2); skip) | (go_at_call 35; refine (reads_any i _).mono ?_; rintro e w3 ⟨v3, rfl, hR3, hb3⟩; obtain ⟨kc3, kf3, s3⟩ := bfacts hb3; (try simp only [World.size_alloc, World.size_setCell, World.size_drew, World.heap_drewN, Nat.add_one_le_iff] at s3); have HR3 := Lib.hid hR3) | (go_at_call 36; refine (refReads_any i _).mono ?_; rintro e w4 ⟨v4, rfl, hO4, hb4⟩; have HR4 : Hid (RInts w4 w4.heap.size v4 (Ev.reads i)) := SL.of_own hO4; obtain ⟨kc4, kf4, s4⟩ := bfacts hb4; have HR3' : Hid (RInts w4 w4.heap.size v3 (Ev.reads i)) := SL.at_ HR3.out (by (repeat' (first | (with_reducible exact Below.refl _ _) | (with_reducible assumption) | (with_reducible refine Below.alloc ?_ ?_ _) | (with_reducible refine below_drewN ?_ _) | (with_reducible refine Below.drew ?_) | (with_reducible refine Below.setCell ?_ ?_ _) | (with_reducible refine Below.trans ?_ (Below.mono (by with_reducible assumption) ?_)) | go_size))) (Nat.le_refl _)) | (go_at_call 34; refine (sameInts_same (Ev.reads i) _ _ _ HR3'.out HR4.out).mono ?_; rintro e w5 ⟨rfl, hb5⟩; obtain ⟨kc5, kf5, s5⟩ := bfacts hb5; (try simp only [World.size_alloc, World.size_setCell, World.size_drew, World.heap_drewN, Nat.add_one_le_iff] at s5); skip) | (go_at_call 37; refine (makes_any i _).mono ?_; rintro e w6 ⟨rfl, hb6⟩; obtain ⟨kc6, kf6, s6⟩ := bfacts hb6; (try simp only [World.size_alloc, World.size_setCell, World.size_drew, World.heap_drewN, Nat.add_one_le_iff] at s6); skip) | (go_at_call 30; refine (refMakes_any i _).mono ?_; rintro e w7 ⟨rfl, hb7⟩; obtain ⟨kc7, kf7, s7⟩ := bfacts hb7; (try simp only [World.size_alloc, World.size_setCell, World.size_drew, World.heap_drewN, Nat.add_one_le_iff] at s7); skip))
    refine ⟨by (repeat' (first | (with_reducible exact Below.refl _ _) | (with_reducible assumption) | (with_reducible refine Below.alloc ?_ ?_ _) | (with_reducible refine below_drewN ?_ _) | (with_reducible refine Below.drew ?_) | (with_reducible refine Below.setCell ?_ ?_ _) | (with_reducible refine Below.trans ?_ (Below.mono (by with_reducible assumption) ?_)) | go_size)), ?_⟩
    apply trail_light
    case hi => (simp only [List.getElem?_toArray, List.getElem?_cons_zero, List.getElem?_cons_succ]; exact rfl)
    case hl => first | exact light_no (by rfl) | (apply light_plain rfl; intro w9 _; go_simp; try rfl) | (apply light_yes (by rfl); intro w9 _; go_simp; try rfl)
    case hQ => exact fun _ _ _ h => h
    (try simp only [Act.put, List.setIfInBounds_toArray, List.set_cons_zero, List.set_cons_succ])
    apply trail_light
    case hi => (simp only [List.getElem?_toArray, List.getElem?_cons_zero, List.getElem?_cons_succ]; exact rfl)
    case hl => first | exact light_no (by rfl) | (apply light_plain rfl; intro w9 _; go_simp; try rfl) | (apply light_yes (by rfl); intro w9 _; go_simp; try rfl)
    case hQ => exact fun _ _ _ h => h
    (try simp only [Act.put, List.setIfInBounds_toArray, List.set_cons_zero, List.set_cons_succ])
    refine trail_nil ?_
    (try dsimp only)
    go_wp2_with fail
    go_meet
    exact ⟨by simp, by (repeat' (first | (with_reducible exact Below.refl _ _) | (with_reducible assumption) | (with_reducible refine Below.alloc ?_ ?_ _) | (with_reducible refine below_drewN ?_ _) | (with_reducible refine Below.drew ?_) | (with_reducible refine Below.setCell ?_ ?_ _) | (with_reducible refine Below.trans ?_ (Below.mono (by with_reducible assumption) ?_)) | go_size))⟩
  case rest => as_aux_lemma =>
  obtain ⟨rfl, hBc⟩ := hcut
  have sC := hBc.size
  replace f0c : wc.cell? ⟨w.heap.size, 0, none⟩ = some (.slice Ac f.code.length cc) := (hBc.cell (p := ⟨w.heap.size, 0, none⟩) (by omega)).trans f0c
  replace f1c : wc.cell? ⟨w.heap.size, 1, none⟩ = some (.slice As f.secret.length cs) := (hBc.cell (p := ⟨w.heap.size, 1, none⟩) (by omega)).trans f1c
  replace f2c : wc.cell? ⟨w.heap.size, 2, none⟩ = some (.int .i64 f.params) := (hBc.cell (p := ⟨w.heap.size, 2, none⟩) (by omega)).trans f2c
  replace f3c : wc.cell? ⟨w.heap.size, 3, none⟩ = some (.slice Av f.arrays.length cv) := (hBc.cell (p := ⟨w.heap.size, 3, none⟩) (by omega)).trans f3c
  replace g0c : wc.cell? ⟨w.heap.size + 1 + 1, 0, none⟩ = some (.slice Aw g.words.length cw) := (hBc.cell (p := ⟨w.heap.size + 1 + 1, 0, none⟩) (by omega)).trans g0c
  replace g1c : wc.cell? ⟨w.heap.size + 1 + 1, 1, none⟩ = some (.slice Ax g.arrays.length cx) := (hBc.cell (p := ⟨w.heap.size + 1 + 1, 1, none⟩) (by omega)).trans g1c
  replace i0c : wc.cell? ⟨w.heap.size + 1 + 1 + 1, 0, none⟩ = some (.int .i64 i.op) := (hBc.cell (p := ⟨w.heap.size + 1 + 1 + 1, 0, none⟩) (by omega)).trans i0c
  replace i1c : wc.cell? ⟨w.heap.size + 1 + 1 + 1, 1, none⟩ = some (.int .i64 i.d) := (hBc.cell (p := ⟨w.heap.size + 1 + 1 + 1, 1, none⟩) (by omega)).trans i1c
  replace i2c : wc.cell? ⟨w.heap.size + 1 + 1 + 1, 2, none⟩ = some (.int .i64 i.a) := (hBc.cell (p := ⟨w.heap.size + 1 + 1 + 1, 2, none⟩) (by omega)).trans i2c
  replace i3c : wc.cell? ⟨w.heap.size + 1 + 1 + 1, 3, none⟩ = some (.int .i64 i.b) := (hBc.cell (p := ⟨w.heap.size + 1 + 1 + 1, 3, none⟩) (by omega)).trans i3c
  replace i4c : wc.cell? ⟨w.heap.size + 1 + 1 + 1, 4, none⟩ = some (.int .i64 i.c) := (hBc.cell (p := ⟨w.heap.size + 1 + 1 + 1, 4, none⟩) (by omega)).trans i4c
  replace i5c : wc.cell? ⟨w.heap.size + 1 + 1 + 1, 5, none⟩ = some (.int .i64 i.imm) := (hBc.cell (p := ⟨w.heap.size + 1 + 1 + 1, 5, none⟩) (by omega)).trans i5c
  replace ldf : ∀ u, Below wc.heap.size wc u → (Go.Instr.loadAt 26 (.pointer (some ⟨w.heap.size, 0, none⟩))).run Try.prog u = .ok (.agg #[.slice Ac f.code.length cc, .slice As f.secret.length cs, .int .i64 f.params, .slice Av f.arrays.length cv]) u := fun u hu => ldf u (hBc.trans (hu.mono hBc.size))
  replace ldt : ∀ u, Below wc.heap.size wc u → (Go.Instr.loadAt 29 (.pointer (some ⟨w.heap.size + 1, 0, none⟩))).run Try.prog u = .ok (.agg #[.int .i64 x0, .int .i64 x1, .int .i64 x2, .int .i64 x3, .int .i64 x4, .int .i64 x5, .int .i64 x6, .int .i64 x7, .int .i64 x8, .int .i64 x9, .int .i64 x10, .int .i64 x11, .int .i64 x12, .int .i64 x13, .int .i64 x14, .int .i64 x15, .int .i64 x16, .int .i64 x17]) u := fun u hu => ldt u (hBc.trans (hu.mono hBc.size))
  replace ldg : ∀ u, Below wc.heap.size wc u → (Go.Instr.loadAt 45 (.pointer (some ⟨w.heap.size + 1 + 1, 0, none⟩))).run Try.prog u = .ok (.agg #[.slice Aw g.words.length cw, .slice Ax g.arrays.length cx]) u := fun u hu => ldg u (hBc.trans (hu.mono hBc.size))
  replace ldi : ∀ u, Below wc.heap.size wc u → (Go.Instr.loadAt 39 (.pointer (some ⟨w.heap.size + 1 + 1 + 1, 0, none⟩))).run Try.prog u = .ok (.agg #[.int .i64 i.op, .int .i64 i.d, .int .i64 i.a, .int .i64 i.b, .int .i64 i.c, .int .i64 i.imm]) u := fun u hu => ldi u (hBc.trans (hu.mono hBc.size))
  replace z0 : w.heap.size < wc.heap.size := by omega
  replace z1 : w.heap.size + 1 < wc.heap.size := by omega
  replace z2 : w.heap.size + 1 + 1 < wc.heap.size := by omega
  replace z3 : w.heap.size + 1 + 1 + 1 < wc.heap.size := by omega
  replace rfw := Below.refl wc.heap.size wc
  have bC : Below w.heap.size w wc := HBA.out.trans (hBc.mono (by omega))
  clear HBA
  go_upto_region 4 with (go_at_call 38; refine (CC1.out _ bC).mono ?_; rintro e w1 ⟨rfl, hb1⟩)
  have s1 := hb1.size
  replace f0c : w1.cell? ⟨w.heap.size, 0, none⟩ = some (.slice Ac f.code.length cc) := (hb1.cell (p := ⟨w.heap.size, 0, none⟩) (by omega)).trans f0c
  replace f1c : w1.cell? ⟨w.heap.size, 1, none⟩ = some (.slice As f.secret.length cs) := (hb1.cell (p := ⟨w.heap.size, 1, none⟩) (by omega)).trans f1c
  replace f2c : w1.cell? ⟨w.heap.size, 2, none⟩ = some (.int .i64 f.params) := (hb1.cell (p := ⟨w.heap.size, 2, none⟩) (by omega)).trans f2c
  replace f3c : w1.cell? ⟨w.heap.size, 3, none⟩ = some (.slice Av f.arrays.length cv) := (hb1.cell (p := ⟨w.heap.size, 3, none⟩) (by omega)).trans f3c
  replace g0c : w1.cell? ⟨w.heap.size + 1 + 1, 0, none⟩ = some (.slice Aw g.words.length cw) := (hb1.cell (p := ⟨w.heap.size + 1 + 1, 0, none⟩) (by omega)).trans g0c
  replace g1c : w1.cell? ⟨w.heap.size + 1 + 1, 1, none⟩ = some (.slice Ax g.arrays.length cx) := (hb1.cell (p := ⟨w.heap.size + 1 + 1, 1, none⟩) (by omega)).trans g1c
  replace i0c : w1.cell? ⟨w.heap.size + 1 + 1 + 1, 0, none⟩ = some (.int .i64 i.op) := (hb1.cell (p := ⟨w.heap.size + 1 + 1 + 1, 0, none⟩) (by omega)).trans i0c
  replace i1c : w1.cell? ⟨w.heap.size + 1 + 1 + 1, 1, none⟩ = some (.int .i64 i.d) := (hb1.cell (p := ⟨w.heap.size + 1 + 1 + 1, 1, none⟩) (by omega)).trans i1c
  replace i2c : w1.cell? ⟨w.heap.size + 1 + 1 + 1, 2, none⟩ = some (.int .i64 i.a) := (hb1.cell (p := ⟨w.heap.size + 1 + 1 + 1, 2, none⟩) (by omega)).trans i2c
  replace i3c : w1.cell? ⟨w.heap.size + 1 + 1 + 1, 3, none⟩ = some (.int .i64 i.b) := (hb1.cell (p := ⟨w.heap.size + 1 + 1 + 1, 3, none⟩) (by omega)).trans i3c
  replace i4c : w1.cell? ⟨w.heap.size + 1 + 1 + 1, 4, none⟩ = some (.int .i64 i.c) := (hb1.cell (p := ⟨w.heap.size + 1 + 1 + 1, 4, none⟩) (by omega)).trans i4c
  replace i5c : w1.cell? ⟨w.heap.size + 1 + 1 + 1, 5, none⟩ = some (.int .i64 i.imm) := (hb1.cell (p := ⟨w.heap.size + 1 + 1 + 1, 5, none⟩) (by omega)).trans i5c
  replace ldf : ∀ u, Below w1.heap.size w1 u → (Go.Instr.loadAt 26 (.pointer (some ⟨w.heap.size, 0, none⟩))).run Try.prog u = .ok (.agg #[.slice Ac f.code.length cc, .slice As f.secret.length cs, .int .i64 f.params, .slice Av f.arrays.length cv]) u := fun u hu => ldf u (hb1.trans (hu.mono hb1.size))
  replace ldt : ∀ u, Below w1.heap.size w1 u → (Go.Instr.loadAt 29 (.pointer (some ⟨w.heap.size + 1, 0, none⟩))).run Try.prog u = .ok (.agg #[.int .i64 x0, .int .i64 x1, .int .i64 x2, .int .i64 x3, .int .i64 x4, .int .i64 x5, .int .i64 x6, .int .i64 x7, .int .i64 x8, .int .i64 x9, .int .i64 x10, .int .i64 x11, .int .i64 x12, .int .i64 x13, .int .i64 x14, .int .i64 x15, .int .i64 x16, .int .i64 x17]) u := fun u hu => ldt u (hb1.trans (hu.mono hb1.size))
  replace ldg : ∀ u, Below w1.heap.size w1 u → (Go.Instr.loadAt 45 (.pointer (some ⟨w.heap.size + 1 + 1, 0, none⟩))).run Try.prog u = .ok (.agg #[.slice Aw g.words.length cw, .slice Ax g.arrays.length cx]) u := fun u hu => ldg u (hb1.trans (hu.mono hb1.size))
  replace ldi : ∀ u, Below w1.heap.size w1 u → (Go.Instr.loadAt 39 (.pointer (some ⟨w.heap.size + 1 + 1 + 1, 0, none⟩))).run Try.prog u = .ok (.agg #[.int .i64 i.op, .int .i64 i.d, .int .i64 i.a, .int .i64 i.b, .int .i64 i.c, .int .i64 i.imm]) u := fun u hu => ldi u (hb1.trans (hu.mono hb1.size))
  replace z0 : w.heap.size < w1.heap.size := by omega
  replace z1 : w.heap.size + 1 < w1.heap.size := by omega
  replace z2 : w.heap.size + 1 + 1 < w1.heap.size := by omega
  replace z3 : w.heap.size + 1 + 1 + 1 < w1.heap.size := by omega
  replace rfw := Below.refl w1.heap.size w1
  have b1 : Below w.heap.size w w1 := bC.trans (hb1.mono (by omega))
  clear hBc bC hb1
  go_upto_region 5 with (go_at_call 17; refine (CC2.out _ b1).mono ?_; rintro e w2 ⟨rfl, hb2⟩)
  have s2 := hb2.size
  replace f0c : w2.cell? ⟨w.heap.size, 0, none⟩ = some (.slice Ac f.code.length cc) := (hb2.cell (p := ⟨w.heap.size, 0, none⟩) (by omega)).trans f0c
  replace f1c : w2.cell? ⟨w.heap.size, 1, none⟩ = some (.slice As f.secret.length cs) := (hb2.cell (p := ⟨w.heap.size, 1, none⟩) (by omega)).trans f1c
  replace f2c : w2.cell? ⟨w.heap.size, 2, none⟩ = some (.int .i64 f.params) := (hb2.cell (p := ⟨w.heap.size, 2, none⟩) (by omega)).trans f2c
  replace f3c : w2.cell? ⟨w.heap.size, 3, none⟩ = some (.slice Av f.arrays.length cv) := (hb2.cell (p := ⟨w.heap.size, 3, none⟩) (by omega)).trans f3c
  replace g0c : w2.cell? ⟨w.heap.size + 1 + 1, 0, none⟩ = some (.slice Aw g.words.length cw) := (hb2.cell (p := ⟨w.heap.size + 1 + 1, 0, none⟩) (by omega)).trans g0c
  replace g1c : w2.cell? ⟨w.heap.size + 1 + 1, 1, none⟩ = some (.slice Ax g.arrays.length cx) := (hb2.cell (p := ⟨w.heap.size + 1 + 1, 1, none⟩) (by omega)).trans g1c
  replace i0c : w2.cell? ⟨w.heap.size + 1 + 1 + 1, 0, none⟩ = some (.int .i64 i.op) := (hb2.cell (p := ⟨w.heap.size + 1 + 1 + 1, 0, none⟩) (by omega)).trans i0c
  replace i1c : w2.cell? ⟨w.heap.size + 1 + 1 + 1, 1, none⟩ = some (.int .i64 i.d) := (hb2.cell (p := ⟨w.heap.size + 1 + 1 + 1, 1, none⟩) (by omega)).trans i1c
  replace i2c : w2.cell? ⟨w.heap.size + 1 + 1 + 1, 2, none⟩ = some (.int .i64 i.a) := (hb2.cell (p := ⟨w.heap.size + 1 + 1 + 1, 2, none⟩) (by omega)).trans i2c
  replace i3c : w2.cell? ⟨w.heap.size + 1 + 1 + 1, 3, none⟩ = some (.int .i64 i.b) := (hb2.cell (p := ⟨w.heap.size + 1 + 1 + 1, 3, none⟩) (by omega)).trans i3c
  replace i4c : w2.cell? ⟨w.heap.size + 1 + 1 + 1, 4, none⟩ = some (.int .i64 i.c) := (hb2.cell (p := ⟨w.heap.size + 1 + 1 + 1, 4, none⟩) (by omega)).trans i4c
  replace i5c : w2.cell? ⟨w.heap.size + 1 + 1 + 1, 5, none⟩ = some (.int .i64 i.imm) := (hb2.cell (p := ⟨w.heap.size + 1 + 1 + 1, 5, none⟩) (by omega)).trans i5c
  replace ldf : ∀ u, Below w2.heap.size w2 u → (Go.Instr.loadAt 26 (.pointer (some ⟨w.heap.size, 0, none⟩))).run Try.prog u = .ok (.agg #[.slice Ac f.code.length cc, .slice As f.secret.length cs, .int .i64 f.params, .slice Av f.arrays.length cv]) u := fun u hu => ldf u (hb2.trans (hu.mono hb2.size))
  replace ldt : ∀ u, Below w2.heap.size w2 u → (Go.Instr.loadAt 29 (.pointer (some ⟨w.heap.size + 1, 0, none⟩))).run Try.prog u = .ok (.agg #[.int .i64 x0, .int .i64 x1, .int .i64 x2, .int .i64 x3, .int .i64 x4, .int .i64 x5, .int .i64 x6, .int .i64 x7, .int .i64 x8, .int .i64 x9, .int .i64 x10, .int .i64 x11, .int .i64 x12, .int .i64 x13, .int .i64 x14, .int .i64 x15, .int .i64 x16, .int .i64 x17]) u := fun u hu => ldt u (hb2.trans (hu.mono hb2.size))
  replace ldg : ∀ u, Below w2.heap.size w2 u → (Go.Instr.loadAt 45 (.pointer (some ⟨w.heap.size + 1 + 1, 0, none⟩))).run Try.prog u = .ok (.agg #[.slice Aw g.words.length cw, .slice Ax g.arrays.length cx]) u := fun u hu => ldg u (hb2.trans (hu.mono hb2.size))
  replace ldi : ∀ u, Below w2.heap.size w2 u → (Go.Instr.loadAt 39 (.pointer (some ⟨w.heap.size + 1 + 1 + 1, 0, none⟩))).run Try.prog u = .ok (.agg #[.int .i64 i.op, .int .i64 i.d, .int .i64 i.a, .int .i64 i.b, .int .i64 i.c, .int .i64 i.imm]) u := fun u hu => ldi u (hb2.trans (hu.mono hb2.size))
  replace z0 : w.heap.size < w2.heap.size := by omega
  replace z1 : w.heap.size + 1 < w2.heap.size := by omega
  replace z2 : w.heap.size + 1 + 1 < w2.heap.size := by omega
  replace z3 : w.heap.size + 1 + 1 + 1 < w2.heap.size := by omega
  replace rfw := Below.refl w2.heap.size w2
  have b2 : Below w.heap.size w w2 := b1.trans (hb2.mono (by omega))
  clear b1 hb2
  go_upto_region 7 with fail
  by_cases hwt : Ev.wrong t = 0
  case neg =>
    have g1 : (Ev.wrong t != 0) = true := bne_iff_ne.2 hwt
    clear hwt
    go_wp2_with (first | (refine wpList_load_box rfl 29 _ rfl rfl (ldt _ rfw) ?_) | (go_at_call 18; refine (CW.out _).mono ?_; rintro e w3 ⟨rfl, hb3⟩))
    go_ret
    exact ⟨rfl, by (repeat' (first | (with_reducible exact Below.refl _ _) | (with_reducible assumption) | (with_reducible refine Below.alloc ?_ ?_ _) | (with_reducible refine below_drewN ?_ _) | (with_reducible refine Below.drew ?_) | (with_reducible refine Below.setCell ?_ ?_ _) | (with_reducible refine Below.trans ?_ (Below.mono (by with_reducible assumption) ?_)) | go_size))⟩
  case pos => as_aux_lemma =>
  have g1 : (Ev.wrong t != 0) = false := by rw [hwt]; rfl
  go_upto_region 9 with (first | (refine wpList_load_box rfl 29 _ rfl rfl (ldt _ rfw) ?_) | (go_at_call 18; refine (CW.out _).mono ?_; rintro e w3 ⟨rfl, hb3⟩))
  have HWT := Lib.hid hwt
  clear hwt g1
  have s3 := hb3.size
  replace f0c : w3.cell? ⟨w.heap.size, 0, none⟩ = some (.slice Ac f.code.length cc) := (hb3.cell (p := ⟨w.heap.size, 0, none⟩) (by omega)).trans f0c
  replace f1c : w3.cell? ⟨w.heap.size, 1, none⟩ = some (.slice As f.secret.length cs) := (hb3.cell (p := ⟨w.heap.size, 1, none⟩) (by omega)).trans f1c
  replace f2c : w3.cell? ⟨w.heap.size, 2, none⟩ = some (.int .i64 f.params) := (hb3.cell (p := ⟨w.heap.size, 2, none⟩) (by omega)).trans f2c
  replace f3c : w3.cell? ⟨w.heap.size, 3, none⟩ = some (.slice Av f.arrays.length cv) := (hb3.cell (p := ⟨w.heap.size, 3, none⟩) (by omega)).trans f3c
  replace g0c : w3.cell? ⟨w.heap.size + 1 + 1, 0, none⟩ = some (.slice Aw g.words.length cw) := (hb3.cell (p := ⟨w.heap.size + 1 + 1, 0, none⟩) (by omega)).trans g0c
  replace g1c : w3.cell? ⟨w.heap.size + 1 + 1, 1, none⟩ = some (.slice Ax g.arrays.length cx) := (hb3.cell (p := ⟨w.heap.size + 1 + 1, 1, none⟩) (by omega)).trans g1c
  replace i0c : w3.cell? ⟨w.heap.size + 1 + 1 + 1, 0, none⟩ = some (.int .i64 i.op) := (hb3.cell (p := ⟨w.heap.size + 1 + 1 + 1, 0, none⟩) (by omega)).trans i0c
  replace i1c : w3.cell? ⟨w.heap.size + 1 + 1 + 1, 1, none⟩ = some (.int .i64 i.d) := (hb3.cell (p := ⟨w.heap.size + 1 + 1 + 1, 1, none⟩) (by omega)).trans i1c
  replace i2c : w3.cell? ⟨w.heap.size + 1 + 1 + 1, 2, none⟩ = some (.int .i64 i.a) := (hb3.cell (p := ⟨w.heap.size + 1 + 1 + 1, 2, none⟩) (by omega)).trans i2c
  replace i3c : w3.cell? ⟨w.heap.size + 1 + 1 + 1, 3, none⟩ = some (.int .i64 i.b) := (hb3.cell (p := ⟨w.heap.size + 1 + 1 + 1, 3, none⟩) (by omega)).trans i3c
  replace i4c : w3.cell? ⟨w.heap.size + 1 + 1 + 1, 4, none⟩ = some (.int .i64 i.c) := (hb3.cell (p := ⟨w.heap.size + 1 + 1 + 1, 4, none⟩) (by omega)).trans i4c
  replace i5c : w3.cell? ⟨w.heap.size + 1 + 1 + 1, 5, none⟩ = some (.int .i64 i.imm) := (hb3.cell (p := ⟨w.heap.size + 1 + 1 + 1, 5, none⟩) (by omega)).trans i5c
  replace ldf : ∀ u, Below w3.heap.size w3 u → (Go.Instr.loadAt 26 (.pointer (some ⟨w.heap.size, 0, none⟩))).run Try.prog u = .ok (.agg #[.slice Ac f.code.length cc, .slice As f.secret.length cs, .int .i64 f.params, .slice Av f.arrays.length cv]) u := fun u hu => ldf u (hb3.trans (hu.mono hb3.size))
  replace ldt : ∀ u, Below w3.heap.size w3 u → (Go.Instr.loadAt 29 (.pointer (some ⟨w.heap.size + 1, 0, none⟩))).run Try.prog u = .ok (.agg #[.int .i64 x0, .int .i64 x1, .int .i64 x2, .int .i64 x3, .int .i64 x4, .int .i64 x5, .int .i64 x6, .int .i64 x7, .int .i64 x8, .int .i64 x9, .int .i64 x10, .int .i64 x11, .int .i64 x12, .int .i64 x13, .int .i64 x14, .int .i64 x15, .int .i64 x16, .int .i64 x17]) u := fun u hu => ldt u (hb3.trans (hu.mono hb3.size))
  replace ldg : ∀ u, Below w3.heap.size w3 u → (Go.Instr.loadAt 45 (.pointer (some ⟨w.heap.size + 1 + 1, 0, none⟩))).run Try.prog u = .ok (.agg #[.slice Aw g.words.length cw, .slice Ax g.arrays.length cx]) u := fun u hu => ldg u (hb3.trans (hu.mono hb3.size))
  replace ldi : ∀ u, Below w3.heap.size w3 u → (Go.Instr.loadAt 39 (.pointer (some ⟨w.heap.size + 1 + 1 + 1, 0, none⟩))).run Try.prog u = .ok (.agg #[.int .i64 i.op, .int .i64 i.d, .int .i64 i.a, .int .i64 i.b, .int .i64 i.c, .int .i64 i.imm]) u := fun u hu => ldi u (hb3.trans (hu.mono hb3.size))
  replace z0 : w.heap.size < w3.heap.size := by omega
  replace z1 : w.heap.size + 1 < w3.heap.size := by omega
  replace z2 : w.heap.size + 1 + 1 < w3.heap.size := by omega
  replace z3 : w.heap.size + 1 + 1 + 1 < w3.heap.size := by omega
  replace rfw := Below.refl w3.heap.size w3
  have b3 : Below w.heap.size w w3 := b2.trans (hb3.mono (by omega))
  clear b2 hb3
  go_cut [17] (fun x wx => x = .bool (decide (1 ≤ i.op) && decide (i.op ≤ 23)) ∧ w3 = wx)
  case first => as_aux_lemma =>
    by_cases h1 : 1 ≤ i.op
    · have g1 : decide (1 ≤ i.op) = true := decide_eq_true h1
      have H1 := Lib.hid g1
      clear h1
      go_wp2_with fail
      go_meet
      exact ⟨by rw [H1.out]; simp, rfl⟩
    · have g1 : decide (1 ≤ i.op) = false := decide_eq_false h1
      have H1 := Lib.hid g1
      clear h1
      go_wp2_with fail
      go_meet
      exact ⟨by rw [H1.out]; rfl, rfl⟩
  case rest => as_aux_lemma =>
  obtain ⟨rfl, rfl⟩ := hcut
  obtain ⟨B0, hB0⟩ : ∃ B0, (decide (1 ≤ i.op) && decide (i.op ≤ 23)) = B0 := ⟨_, rfl⟩
  rw [hB0]
  have HB0 := Lib.hid hB0
  clear hB0
  go_wp2_with fail
  have HLR : Hid (RInts (w3.alloc (.cells #[.int .i64 i.a, .int .i64 i.b, .int .i64 i.c, .int .i64 i.d] 3)) (w3.alloc (.cells #[.int .i64 i.a, .int .i64 i.b, .int .i64 i.c, .int .i64 i.d] 3)).heap.size (.slice (some ⟨w3.heap.size, 0, none⟩) 4 4) [i.a, i.b, i.c, i.d]) := RInts.lit rfl rfl rfl (by unfold maxLen; decide)
  have bL : Below w3.heap.size w3 (w3.alloc (.cells #[.int .i64 i.a, .int .i64 i.b, .int .i64 i.c, .int .i64 i.d] 3)) := by (repeat' (first | (with_reducible exact Below.refl _ _) | (with_reducible assumption) | (with_reducible refine Below.alloc ?_ ?_ _) | (with_reducible refine below_drewN ?_ _) | (with_reducible refine Below.drew ?_) | (with_reducible refine Below.setCell ?_ ?_ _) | (with_reducible refine Below.trans ?_ (Below.mono (by with_reducible assumption) ?_)) | go_size))
  obtain ⟨w4, hw4⟩ : ∃ w4, (w3.alloc (.cells #[.int .i64 i.a, .int .i64 i.b, .int .i64 i.c, .int .i64 i.d] 3)) = w4 := ⟨_, rfl⟩
  rw [hw4] at HLR bL ⊢
  clear hw4
  obtain ⟨L, hLL⟩ : ∃ L, [i.a, i.b, i.c, i.d] = L := ⟨_, rfl⟩
  rw [hLL] at HLR
  have HL4 := Lib.hid (show L.length = 4 by rw [← hLL]; rfl)
  have HLL := Lib.hid hLL
  clear hLL
  have s4 := bL.size
  replace f0c : w4.cell? ⟨w.heap.size, 0, none⟩ = some (.slice Ac f.code.length cc) := (bL.cell (p := ⟨w.heap.size, 0, none⟩) (by omega)).trans f0c
  replace f1c : w4.cell? ⟨w.heap.size, 1, none⟩ = some (.slice As f.secret.length cs) := (bL.cell (p := ⟨w.heap.size, 1, none⟩) (by omega)).trans f1c
  replace f2c : w4.cell? ⟨w.heap.size, 2, none⟩ = some (.int .i64 f.params) := (bL.cell (p := ⟨w.heap.size, 2, none⟩) (by omega)).trans f2c
  replace f3c : w4.cell? ⟨w.heap.size, 3, none⟩ = some (.slice Av f.arrays.length cv) := (bL.cell (p := ⟨w.heap.size, 3, none⟩) (by omega)).trans f3c
  replace g0c : w4.cell? ⟨w.heap.size + 1 + 1, 0, none⟩ = some (.slice Aw g.words.length cw) := (bL.cell (p := ⟨w.heap.size + 1 + 1, 0, none⟩) (by omega)).trans g0c
  replace g1c : w4.cell? ⟨w.heap.size + 1 + 1, 1, none⟩ = some (.slice Ax g.arrays.length cx) := (bL.cell (p := ⟨w.heap.size + 1 + 1, 1, none⟩) (by omega)).trans g1c
  replace i0c : w4.cell? ⟨w.heap.size + 1 + 1 + 1, 0, none⟩ = some (.int .i64 i.op) := (bL.cell (p := ⟨w.heap.size + 1 + 1 + 1, 0, none⟩) (by omega)).trans i0c
  replace i1c : w4.cell? ⟨w.heap.size + 1 + 1 + 1, 1, none⟩ = some (.int .i64 i.d) := (bL.cell (p := ⟨w.heap.size + 1 + 1 + 1, 1, none⟩) (by omega)).trans i1c
  replace i2c : w4.cell? ⟨w.heap.size + 1 + 1 + 1, 2, none⟩ = some (.int .i64 i.a) := (bL.cell (p := ⟨w.heap.size + 1 + 1 + 1, 2, none⟩) (by omega)).trans i2c
  replace i3c : w4.cell? ⟨w.heap.size + 1 + 1 + 1, 3, none⟩ = some (.int .i64 i.b) := (bL.cell (p := ⟨w.heap.size + 1 + 1 + 1, 3, none⟩) (by omega)).trans i3c
  replace i4c : w4.cell? ⟨w.heap.size + 1 + 1 + 1, 4, none⟩ = some (.int .i64 i.c) := (bL.cell (p := ⟨w.heap.size + 1 + 1 + 1, 4, none⟩) (by omega)).trans i4c
  replace i5c : w4.cell? ⟨w.heap.size + 1 + 1 + 1, 5, none⟩ = some (.int .i64 i.imm) := (bL.cell (p := ⟨w.heap.size + 1 + 1 + 1, 5, none⟩) (by omega)).trans i5c
  replace ldf : ∀ u, Below w4.heap.size w4 u → (Go.Instr.loadAt 26 (.pointer (some ⟨w.heap.size, 0, none⟩))).run Try.prog u = .ok (.agg #[.slice Ac f.code.length cc, .slice As f.secret.length cs, .int .i64 f.params, .slice Av f.arrays.length cv]) u := fun u hu => ldf u (bL.trans (hu.mono bL.size))
  replace ldt : ∀ u, Below w4.heap.size w4 u → (Go.Instr.loadAt 29 (.pointer (some ⟨w.heap.size + 1, 0, none⟩))).run Try.prog u = .ok (.agg #[.int .i64 x0, .int .i64 x1, .int .i64 x2, .int .i64 x3, .int .i64 x4, .int .i64 x5, .int .i64 x6, .int .i64 x7, .int .i64 x8, .int .i64 x9, .int .i64 x10, .int .i64 x11, .int .i64 x12, .int .i64 x13, .int .i64 x14, .int .i64 x15, .int .i64 x16, .int .i64 x17]) u := fun u hu => ldt u (bL.trans (hu.mono bL.size))
  replace ldg : ∀ u, Below w4.heap.size w4 u → (Go.Instr.loadAt 45 (.pointer (some ⟨w.heap.size + 1 + 1, 0, none⟩))).run Try.prog u = .ok (.agg #[.slice Aw g.words.length cw, .slice Ax g.arrays.length cx]) u := fun u hu => ldg u (bL.trans (hu.mono bL.size))
  replace ldi : ∀ u, Below w4.heap.size w4 u → (Go.Instr.loadAt 39 (.pointer (some ⟨w.heap.size + 1 + 1 + 1, 0, none⟩))).run Try.prog u = .ok (.agg #[.int .i64 i.op, .int .i64 i.d, .int .i64 i.a, .int .i64 i.b, .int .i64 i.c, .int .i64 i.imm]) u := fun u hu => ldi u (bL.trans (hu.mono bL.size))
  replace z0 : w.heap.size < w4.heap.size := by omega
  replace z1 : w.heap.size + 1 < w4.heap.size := by omega
  replace z2 : w.heap.size + 1 + 1 < w4.heap.size := by omega
  replace z3 : w.heap.size + 1 + 1 + 1 < w4.heap.size := by omega
  replace rfw := Below.refl w4.heap.size w4
  have b4 : Below w.heap.size w w4 := b3.trans (bL.mono (by omega))
  clear b3 bL
  go_loop [17, 83] (fun b u => ∃ q : Nat, q ≤ 4 ∧ u = .int .i64 q ∧ b = .bool (B0 && (L.take q).all (fun p => decide (0 ≤ p) && decide (p < (v.length : Int))))) (fun _ u => 4 - (intOf u).toNat)
  case atStart => exact ⟨0, by omega, rfl, by simp⟩
  case round =>
    obtain ⟨q, hq, rfl, rfl⟩ := hrel
    by_cases hqt : q < 4
    · as_aux_lemma =>
      obtain ⟨x, hx⟩ : ∃ x, L[q]? = some x := ⟨L[q]'(by have := HL4.out; omega), List.getElem?_eq_getElem _⟩
      obtain ⟨bl, ol, cl', hv, _, _, _, _, pl⟩ := RInts.at_ HLR.out hx
      injection hv with hA _ _
      injection hA with hA
      injection hA with hA1 hA2
      subst hA1 hA2
      have pl' := pl
      rw [Nat.zero_add] at pl'
      have hstep : (B0 && (L.take (q + 1)).all (fun p => decide (0 ≤ p) && decide (p < (v.length : Int)))) = ((B0 && (L.take q).all (fun p => decide (0 ≤ p) && decide (p < (v.length : Int)))) && (decide (0 ≤ x) && decide (x < (v.length : Int)))) := by
        rw [List.take_add_one, hx]; simp [Bool.and_assoc]
      have HST := Lib.hid hstep
      clear hstep hx
      generalize (B0 && (L.take q).all (fun p => decide (0 ≤ p) && decide (p < (v.length : Int)))) = b at *
      cases b with
      | false =>
        go_wp2_with fail
        go_round
        case rel => exact ⟨q + 1, by omega, by go_num, by rw [HST.out]; rfl⟩
        case measure => simp [intOf]; omega
      | true =>
        by_cases h1 : 0 ≤ x
        · have g1 : decide (0 ≤ x) = true := decide_eq_true h1
          have H1 := Lib.hid g1
          clear h1
          go_wp2_with fail
          go_round
          case rel => exact ⟨q + 1, by omega, by go_num, by rw [HST.out, H1.out]; simp⟩
          case measure => simp [intOf]; omega
        · have g1 : decide (0 ≤ x) = false := decide_eq_false h1
          have H1 := Lib.hid g1
          clear h1
          go_wp2_with fail
          go_round
          case rel => exact ⟨q + 1, by omega, by go_num, by rw [HST.out, H1.out]; rfl⟩
          case measure => simp [intOf]; omega
    · have hqe : q = 4 := by omega
      subst hqe
      have hfull : L.take 4 = L := List.take_of_length_le (by have := HL4.out; omega)
      rw [hfull]
      have hF : (B0 && L.all (fun p => decide (0 ≤ p) && decide (p < (v.length : Int)))) = true → 1 ≤ i.op ∧ SeenIn i v.length (whichOf t i.op al) := fun h => by
        rw [Bool.and_eq_true, ← HB0.out, ← HLL.out] at h
        simp at h
        obtain ⟨⟨h1, _⟩, ha, hb, hc, hd⟩ := h
        exact ⟨h1, seenIn_all HWT.out h1 ha hb hc hd⟩
      have HFF := Lib.hid hF
      clear hF hfull hqt hq
      generalize (B0 && L.all (fun p => decide (0 ≤ p) && decide (p < (v.length : Int)))) = F at *
      clear HLR HL4 HLL HB0
      have HB4 := Lib.hid b4
      go_upto_region 15 with fail
      go_cut [113] (fun x wx => x = .bool false ∧ Below w4.heap.size w4 wx)
      case first => as_aux_lemma =>
        cases F with
        | false =>
          refine wp_region_trail (fun w' => Below ((w4).heap.size) (w4) w') [(0, true), (1, true), (2, true), (3, true), (4, true), (5, true), (7, true), (8, true), (9, true), (10, true), (6, false), (11, false), (12, false), (13, true), (14, true)] (by kernel_rfl) (by kernel_rfl) (by kernel_rfl) (by decide) (by (repeat' (first | (with_reducible exact Below.refl _ _) | (with_reducible assumption) | (with_reducible refine Below.alloc ?_ ?_ _) | (with_reducible refine below_drewN ?_ _) | (with_reducible refine Below.drew ?_) | (with_reducible refine Below.setCell ?_ ?_ _) | (with_reducible refine Below.trans ?_ (Below.mono (by with_reducible assumption) ?_)) | go_size))) ?_
          apply trail_light
          case hi => (simp only [List.getElem?_toArray, List.getElem?_cons_zero, List.getElem?_cons_succ]; exact rfl)
          case hl => first | exact light_no (by rfl) | (apply light_plain rfl; intro w9 _; go_simp; try rfl) | (apply light_yes (by rfl); intro w9 _; go_simp; try rfl)
          case hQ => exact fun _ _ _ h => h
          (try simp only [Act.put, List.setIfInBounds_toArray, List.set_cons_zero, List.set_cons_succ])
          apply trail_light
          case hi => (simp only [List.getElem?_toArray, List.getElem?_cons_zero, List.getElem?_cons_succ]; exact rfl)
          case hl => first | exact light_no (by rfl) | (apply light_plain rfl; intro w9 _; go_simp; try rfl) | (apply light_yes (by rfl); intro w9 _; go_simp; try rfl)
          case hQ => exact fun _ _ _ h => h
          (try simp only [Act.put, List.setIfInBounds_toArray, List.set_cons_zero, List.set_cons_succ])
          apply trail_light
          case hi => (simp only [List.getElem?_toArray, List.getElem?_cons_zero, List.getElem?_cons_succ]; exact rfl)
          case hl => first | exact light_no (by rfl) | (apply light_plain rfl; intro w9 hb9; have hB9 : Below w4.heap.size w4 w9 := (by (repeat' (first | (with_reducible exact Below.refl _ _) | (with_reducible assumption) | (with_reducible refine Below.alloc ?_ ?_ _) | (with_reducible refine below_drewN ?_ _) | (with_reducible refine Below.drew ?_) | (with_reducible refine Below.setCell ?_ ?_ _) | (with_reducible refine Below.trans ?_ (Below.mono (by with_reducible assumption) ?_)) | go_size))); exact exec_load rfl rfl (by first | exact ldf w9 hB9 | exact ldt w9 hB9 | exact ldg w9 hB9 | exact ldi w9 hB9 | exact ldh w9 hB9)) | (apply light_yes (by rfl); intro w9 hb9; have hB9 : Below w4.heap.size w4 w9 := (by (repeat' (first | (with_reducible exact Below.refl _ _) | (with_reducible assumption) | (with_reducible refine Below.alloc ?_ ?_ _) | (with_reducible refine below_drewN ?_ _) | (with_reducible refine Below.drew ?_) | (with_reducible refine Below.setCell ?_ ?_ _) | (with_reducible refine Below.trans ?_ (Below.mono (by with_reducible assumption) ?_)) | go_size))); exact exec_load rfl rfl (by first | exact ldf w9 hB9 | exact ldt w9 hB9 | exact ldg w9 hB9 | exact ldi w9 hB9 | exact ldh w9 hB9)) | (apply light_plain rfl; intro w9 hb9; have hB9 : Below w4.heap.size w4 w9 := (by (repeat' (first | (with_reducible exact Below.refl _ _) | (with_reducible assumption) | (with_reducible refine Below.alloc ?_ ?_ _) | (with_reducible refine below_drewN ?_ _) | (with_reducible refine Below.drew ?_) | (with_reducible refine Below.setCell ?_ ?_ _) | (with_reducible refine Below.trans ?_ (Below.mono (by with_reducible assumption) ?_)) | go_size))); obtain ⟨kc9, kf9, s9⟩ := bfacts hb9; obtain ⟨kd9, kg9, _⟩ := bfacts hB9; go_simp; try rfl) | (apply light_yes (by rfl); intro w9 hb9; have hB9 : Below w4.heap.size w4 w9 := (by (repeat' (first | (with_reducible exact Below.refl _ _) | (with_reducible assumption) | (with_reducible refine Below.alloc ?_ ?_ _) | (with_reducible refine below_drewN ?_ _) | (with_reducible refine Below.drew ?_) | (with_reducible refine Below.setCell ?_ ?_ _) | (with_reducible refine Below.trans ?_ (Below.mono (by with_reducible assumption) ?_)) | go_size))); obtain ⟨kc9, kf9, s9⟩ := bfacts hb9; obtain ⟨kd9, kg9, _⟩ := bfacts hB9; go_simp; try rfl)
          case hQ => exact fun _ _ _ h => h
          (try simp only [Act.put, List.setIfInBounds_toArray, List.set_cons_zero, List.set_cons_succ])
          apply trail_light
          case hi => (simp only [List.getElem?_toArray, List.getElem?_cons_zero, List.getElem?_cons_succ]; exact rfl)
          case hl => first | exact light_no (by rfl) | (apply light_plain rfl; intro w9 hb9; have hB9 : Below w4.heap.size w4 w9 := (by (repeat' (first | (with_reducible exact Below.refl _ _) | (with_reducible assumption) | (with_reducible refine Below.alloc ?_ ?_ _) | (with_reducible refine below_drewN ?_ _) | (with_reducible refine Below.drew ?_) | (with_reducible refine Below.setCell ?_ ?_ _) | (with_reducible refine Below.trans ?_ (Below.mono (by with_reducible assumption) ?_)) | go_size))); exact exec_load rfl rfl (by first | exact ldf w9 hB9 | exact ldt w9 hB9 | exact ldg w9 hB9 | exact ldi w9 hB9 | exact ldh w9 hB9)) | (apply light_yes (by rfl); intro w9 hb9; have hB9 : Below w4.heap.size w4 w9 := (by (repeat' (first | (with_reducible exact Below.refl _ _) | (with_reducible assumption) | (with_reducible refine Below.alloc ?_ ?_ _) | (with_reducible refine below_drewN ?_ _) | (with_reducible refine Below.drew ?_) | (with_reducible refine Below.setCell ?_ ?_ _) | (with_reducible refine Below.trans ?_ (Below.mono (by with_reducible assumption) ?_)) | go_size))); exact exec_load rfl rfl (by first | exact ldf w9 hB9 | exact ldt w9 hB9 | exact ldg w9 hB9 | exact ldi w9 hB9 | exact ldh w9 hB9)) | (apply light_plain rfl; intro w9 hb9; have hB9 : Below w4.heap.size w4 w9 := (by (repeat' (first | (with_reducible exact Below.refl _ _) | (with_reducible assumption) | (with_reducible refine Below.alloc ?_ ?_ _) | (with_reducible refine below_drewN ?_ _) | (with_reducible refine Below.drew ?_) | (with_reducible refine Below.setCell ?_ ?_ _) | (with_reducible refine Below.trans ?_ (Below.mono (by with_reducible assumption) ?_)) | go_size))); obtain ⟨kc9, kf9, s9⟩ := bfacts hb9; obtain ⟨kd9, kg9, _⟩ := bfacts hB9; go_simp; try rfl) | (apply light_yes (by rfl); intro w9 hb9; have hB9 : Below w4.heap.size w4 w9 := (by (repeat' (first | (with_reducible exact Below.refl _ _) | (with_reducible assumption) | (with_reducible refine Below.alloc ?_ ?_ _) | (with_reducible refine below_drewN ?_ _) | (with_reducible refine Below.drew ?_) | (with_reducible refine Below.setCell ?_ ?_ _) | (with_reducible refine Below.trans ?_ (Below.mono (by with_reducible assumption) ?_)) | go_size))); obtain ⟨kc9, kf9, s9⟩ := bfacts hb9; obtain ⟨kd9, kg9, _⟩ := bfacts hB9; go_simp; try rfl)
          case hQ => exact fun _ _ _ h => h
          (try simp only [Act.put, List.setIfInBounds_toArray, List.set_cons_zero, List.set_cons_succ])
          apply trail_light
          case hi => (simp only [List.getElem?_toArray, List.getElem?_cons_zero, List.getElem?_cons_succ]; exact rfl)
          case hl => first | exact light_no (by rfl) | (apply light_plain rfl; intro w9 _; go_simp; try rfl) | (apply light_yes (by rfl); intro w9 _; go_simp; try rfl)
          case hQ => exact fun _ _ _ h => h
          (try simp only [Act.put, List.setIfInBounds_toArray, List.set_cons_zero, List.set_cons_succ])
          apply trail_light
          case hi => (simp only [List.getElem?_toArray, List.getElem?_cons_zero, List.getElem?_cons_succ]; exact rfl)
          case hl => first | exact light_no (by rfl) | (apply light_plain rfl; intro w9 _; go_simp; try rfl) | (apply light_yes (by rfl); intro w9 _; go_simp; try rfl)
          case hQ => exact fun _ _ _ h => h
          (try simp only [Act.put, List.setIfInBounds_toArray, List.set_cons_zero, List.set_cons_succ])
          apply trail_light
          case hi => (simp only [List.getElem?_toArray, List.getElem?_cons_zero, List.getElem?_cons_succ]; exact rfl)
          case hl => first | exact light_no (by rfl) | (apply light_plain rfl; intro w9 hb9; have hB9 : Below w4.heap.size w4 w9 := (by (repeat' (first | (with_reducible exact Below.refl _ _) | (with_reducible assumption) | (with_reducible refine Below.alloc ?_ ?_ _) | (with_reducible refine below_drewN ?_ _) | (with_reducible refine Below.drew ?_) | (with_reducible refine Below.setCell ?_ ?_ _) | (with_reducible refine Below.trans ?_ (Below.mono (by with_reducible assumption) ?_)) | go_size))); exact exec_load rfl rfl (by first | exact ldf w9 hB9 | exact ldt w9 hB9 | exact ldg w9 hB9 | exact ldi w9 hB9 | exact ldh w9 hB9)) | (apply light_yes (by rfl); intro w9 hb9; have hB9 : Below w4.heap.size w4 w9 := (by (repeat' (first | (with_reducible exact Below.refl _ _) | (with_reducible assumption) | (with_reducible refine Below.alloc ?_ ?_ _) | (with_reducible refine below_drewN ?_ _) | (with_reducible refine Below.drew ?_) | (with_reducible refine Below.setCell ?_ ?_ _) | (with_reducible refine Below.trans ?_ (Below.mono (by with_reducible assumption) ?_)) | go_size))); exact exec_load rfl rfl (by first | exact ldf w9 hB9 | exact ldt w9 hB9 | exact ldg w9 hB9 | exact ldi w9 hB9 | exact ldh w9 hB9)) | (apply light_plain rfl; intro w9 hb9; have hB9 : Below w4.heap.size w4 w9 := (by (repeat' (first | (with_reducible exact Below.refl _ _) | (with_reducible assumption) | (with_reducible refine Below.alloc ?_ ?_ _) | (with_reducible refine below_drewN ?_ _) | (with_reducible refine Below.drew ?_) | (with_reducible refine Below.setCell ?_ ?_ _) | (with_reducible refine Below.trans ?_ (Below.mono (by with_reducible assumption) ?_)) | go_size))); obtain ⟨kc9, kf9, s9⟩ := bfacts hb9; obtain ⟨kd9, kg9, _⟩ := bfacts hB9; go_simp; try rfl) | (apply light_yes (by rfl); intro w9 hb9; have hB9 : Below w4.heap.size w4 w9 := (by (repeat' (first | (with_reducible exact Below.refl _ _) | (with_reducible assumption) | (with_reducible refine Below.alloc ?_ ?_ _) | (with_reducible refine below_drewN ?_ _) | (with_reducible refine Below.drew ?_) | (with_reducible refine Below.setCell ?_ ?_ _) | (with_reducible refine Below.trans ?_ (Below.mono (by with_reducible assumption) ?_)) | go_size))); obtain ⟨kc9, kf9, s9⟩ := bfacts hb9; obtain ⟨kd9, kg9, _⟩ := bfacts hB9; go_simp; try rfl)
          case hQ => exact fun _ _ _ h => h
          (try simp only [Act.put, List.setIfInBounds_toArray, List.set_cons_zero, List.set_cons_succ])
          apply trail_light
          case hi => (simp only [List.getElem?_toArray, List.getElem?_cons_zero, List.getElem?_cons_succ]; exact rfl)
          case hl => first | exact light_no (by rfl) | (apply light_plain rfl; intro w9 hb9; have hB9 : Below w4.heap.size w4 w9 := (by (repeat' (first | (with_reducible exact Below.refl _ _) | (with_reducible assumption) | (with_reducible refine Below.alloc ?_ ?_ _) | (with_reducible refine below_drewN ?_ _) | (with_reducible refine Below.drew ?_) | (with_reducible refine Below.setCell ?_ ?_ _) | (with_reducible refine Below.trans ?_ (Below.mono (by with_reducible assumption) ?_)) | go_size))); exact exec_load rfl rfl (by first | exact ldf w9 hB9 | exact ldt w9 hB9 | exact ldg w9 hB9 | exact ldi w9 hB9 | exact ldh w9 hB9)) | (apply light_yes (by rfl); intro w9 hb9; have hB9 : Below w4.heap.size w4 w9 := (by (repeat' (first | (with_reducible exact Below.refl _ _) | (with_reducible assumption) | (with_reducible refine Below.alloc ?_ ?_ _) | (with_reducible refine below_drewN ?_ _) | (with_reducible refine Below.drew ?_) | (with_reducible refine Below.setCell ?_ ?_ _) | (with_reducible refine Below.trans ?_ (Below.mono (by with_reducible assumption) ?_)) | go_size))); exact exec_load rfl rfl (by first | exact ldf w9 hB9 | exact ldt w9 hB9 | exact ldg w9 hB9 | exact ldi w9 hB9 | exact ldh w9 hB9)) | (apply light_plain rfl; intro w9 hb9; have hB9 : Below w4.heap.size w4 w9 := (by (repeat' (first | (with_reducible exact Below.refl _ _) | (with_reducible assumption) | (with_reducible refine Below.alloc ?_ ?_ _) | (with_reducible refine below_drewN ?_ _) | (with_reducible refine Below.drew ?_) | (with_reducible refine Below.setCell ?_ ?_ _) | (with_reducible refine Below.trans ?_ (Below.mono (by with_reducible assumption) ?_)) | go_size))); obtain ⟨kc9, kf9, s9⟩ := bfacts hb9; obtain ⟨kd9, kg9, _⟩ := bfacts hB9; go_simp; try rfl) | (apply light_yes (by rfl); intro w9 hb9; have hB9 : Below w4.heap.size w4 w9 := (by (repeat' (first | (with_reducible exact Below.refl _ _) | (with_reducible assumption) | (with_reducible refine Below.alloc ?_ ?_ _) | (with_reducible refine below_drewN ?_ _) | (with_reducible refine Below.drew ?_) | (with_reducible refine Below.setCell ?_ ?_ _) | (with_reducible refine Below.trans ?_ (Below.mono (by with_reducible assumption) ?_)) | go_size))); obtain ⟨kc9, kf9, s9⟩ := bfacts hb9; obtain ⟨kd9, kg9, _⟩ := bfacts hB9; go_simp; try rfl)
          case hQ => exact fun _ _ _ h => h
          (try simp only [Act.put, List.setIfInBounds_toArray, List.set_cons_zero, List.set_cons_succ])
          apply trail_light
          case hi => (simp only [List.getElem?_toArray, List.getElem?_cons_zero, List.getElem?_cons_succ]; exact rfl)
          case hl => first | exact light_no (by rfl) | (apply light_plain rfl; intro w9 _; go_simp; try rfl) | (apply light_yes (by rfl); intro w9 _; go_simp; try rfl)
          case hQ => exact fun _ _ _ h => h
          (try simp only [Act.put, List.setIfInBounds_toArray, List.set_cons_zero, List.set_cons_succ])
          apply trail_light
          case hi => (simp only [List.getElem?_toArray, List.getElem?_cons_zero, List.getElem?_cons_succ]; exact rfl)
          case hl => first | exact light_no (by rfl) | (apply light_plain rfl; intro w9 _; go_simp; try rfl) | (apply light_yes (by rfl); intro w9 _; go_simp; try rfl)
          case hQ => exact fun _ _ _ h => h
          (try simp only [Act.put, List.setIfInBounds_toArray, List.set_cons_zero, List.set_cons_succ])
          apply trail_heavy
          case hi => (simp only [List.getElem?_toArray, List.getElem?_cons_zero, List.getElem?_cons_succ]; exact rfl)
          go_wp2_with (fail)
          refine ⟨by (repeat' (first | (with_reducible exact Below.refl _ _) | (with_reducible assumption) | (with_reducible refine Below.alloc ?_ ?_ _) | (with_reducible refine below_drewN ?_ _) | (with_reducible refine Below.drew ?_) | (with_reducible refine Below.setCell ?_ ?_ _) | (with_reducible refine Below.trans ?_ (Below.mono (by with_reducible assumption) ?_)) | go_size)), ?_⟩
          apply trail_heavy
          case hi => (simp only [List.getElem?_toArray, List.getElem?_cons_zero, List.getElem?_cons_succ]; exact rfl)
          go_wp2_with (fail)
          refine ⟨by (repeat' (first | (with_reducible exact Below.refl _ _) | (with_reducible assumption) | (with_reducible refine Below.alloc ?_ ?_ _) | (with_reducible refine below_drewN ?_ _) | (with_reducible refine Below.drew ?_) | (with_reducible refine Below.setCell ?_ ?_ _) | (with_reducible refine Below.trans ?_ (Below.mono (by with_reducible assumption) ?_)) | go_size)), ?_⟩
          apply trail_heavy
          case hi => (simp only [List.getElem?_toArray, List.getElem?_cons_zero, List.getElem?_cons_succ]; exact rfl)
          go_wp2_with (fail)
          refine ⟨by (repeat' (first | (with_reducible exact Below.refl _ _) | (with_reducible assumption) | (with_reducible refine Below.alloc ?_ ?_ _) | (with_reducible refine below_drewN ?_ _) | (with_reducible refine Below.drew ?_) | (with_reducible refine Below.setCell ?_ ?_ _) | (with_reducible refine Below.trans ?_ (Below.mono (by with_reducible assumption) ?_)) | go_size)), ?_⟩
          apply trail_light
          case hi => (simp only [List.getElem?_toArray, List.getElem?_cons_zero, List.getElem?_cons_succ]; exact rfl)
          case hl => first | exact light_no (by rfl) | (apply light_plain rfl; intro w9 _; go_simp; try rfl) | (apply light_yes (by rfl); intro w9 _; go_simp; try rfl)
          case hQ => exact fun _ _ _ h => h
          (try simp only [Act.put, List.setIfInBounds_toArray, List.set_cons_zero, List.set_cons_succ])
          apply trail_light
          case hi => (simp only [List.getElem?_toArray, List.getElem?_cons_zero, List.getElem?_cons_succ]; exact rfl)
          case hl => first | exact light_no (by rfl) | (apply light_plain rfl; intro w9 _; go_simp; try rfl) | (apply light_yes (by rfl); intro w9 _; go_simp; try rfl)
          case hQ => exact fun _ _ _ h => h
          (try simp only [Act.put, List.setIfInBounds_toArray, List.set_cons_zero, List.set_cons_succ])
          refine trail_nil ?_
          (try dsimp only)
          go_wp2_with fail
          go_meet
          exact ⟨by simp, by (repeat' (first | (with_reducible exact Below.refl _ _) | (with_reducible assumption) | (with_reducible refine Below.alloc ?_ ?_ _) | (with_reducible refine below_drewN ?_ _) | (with_reducible refine Below.drew ?_) | (with_reducible refine Below.setCell ?_ ?_ _) | (with_reducible refine Below.trans ?_ (Below.mono (by with_reducible assumption) ?_)) | go_size))⟩
        | true =>
          obtain ⟨ho1, hsi⟩ := HFF.out rfl
          have HSI := Lib.hid hsi
          clear hsi
          refine wp_region_trail (fun w' => Below ((w4).heap.size) (w4) w') [(0, true), (1, true), (2, true), (3, true), (4, true), (5, true), (7, true), (8, true), (9, true), (10, true), (6, false), (11, false), (12, false), (13, true), (14, true)] (by kernel_rfl) (by kernel_rfl) (by kernel_rfl) (by decide) (by (repeat' (first | (with_reducible exact Below.refl _ _) | (with_reducible assumption) | (with_reducible refine Below.alloc ?_ ?_ _) | (with_reducible refine below_drewN ?_ _) | (with_reducible refine Below.drew ?_) | (with_reducible refine Below.setCell ?_ ?_ _) | (with_reducible refine Below.trans ?_ (Below.mono (by with_reducible assumption) ?_)) | go_size))) ?_
          apply trail_light
          case hi => (simp only [List.getElem?_toArray, List.getElem?_cons_zero, List.getElem?_cons_succ]; exact rfl)
          case hl => first | exact light_no (by rfl) | (apply light_plain rfl; intro w9 _; go_simp; try rfl) | (apply light_yes (by rfl); intro w9 _; go_simp; try rfl)
          case hQ => exact fun _ _ _ h => h
          (try simp only [Act.put, List.setIfInBounds_toArray, List.set_cons_zero, List.set_cons_succ])
          apply trail_light
          case hi => (simp only [List.getElem?_toArray, List.getElem?_cons_zero, List.getElem?_cons_succ]; exact rfl)
          case hl => first | exact light_no (by rfl) | (apply light_plain rfl; intro w9 _; go_simp; try rfl) | (apply light_yes (by rfl); intro w9 _; go_simp; try rfl)
          case hQ => exact fun _ _ _ h => h
          (try simp only [Act.put, List.setIfInBounds_toArray, List.set_cons_zero, List.set_cons_succ])
          apply trail_light
          case hi => (simp only [List.getElem?_toArray, List.getElem?_cons_zero, List.getElem?_cons_succ]; exact rfl)
          case hl => first | exact light_no (by rfl) | (apply light_plain rfl; intro w9 hb9; have hB9 : Below w4.heap.size w4 w9 := (by (repeat' (first | (with_reducible exact Below.refl _ _) | (with_reducible assumption) | (with_reducible refine Below.alloc ?_ ?_ _) | (with_reducible refine below_drewN ?_ _) | (with_reducible refine Below.drew ?_) | (with_reducible refine Below.setCell ?_ ?_ _) | (with_reducible refine Below.trans ?_ (Below.mono (by with_reducible assumption) ?_)) | go_size))); exact exec_load rfl rfl (by first | exact ldf w9 hB9 | exact ldt w9 hB9 | exact ldg w9 hB9 | exact ldi w9 hB9 | exact ldh w9 hB9)) | (apply light_yes (by rfl); intro w9 hb9; have hB9 : Below w4.heap.size w4 w9 := (by (repeat' (first | (with_reducible exact Below.refl _ _) | (with_reducible assumption) | (with_reducible refine Below.alloc ?_ ?_ _) | (with_reducible refine below_drewN ?_ _) | (with_reducible refine Below.drew ?_) | (with_reducible refine Below.setCell ?_ ?_ _) | (with_reducible refine Below.trans ?_ (Below.mono (by with_reducible assumption) ?_)) | go_size))); exact exec_load rfl rfl (by first | exact ldf w9 hB9 | exact ldt w9 hB9 | exact ldg w9 hB9 | exact ldi w9 hB9 | exact ldh w9 hB9)) | (apply light_plain rfl; intro w9 hb9; have hB9 : Below w4.heap.size w4 w9 := (by (repeat' (first | (with_reducible exact Below.refl _ _) | (with_reducible assumption) | (with_reducible refine Below.alloc ?_ ?_ _) | (with_reducible refine below_drewN ?_ _) | (with_reducible refine Below.drew ?_) | (with_reducible refine Below.setCell ?_ ?_ _) | (with_reducible refine Below.trans ?_ (Below.mono (by with_reducible assumption) ?_)) | go_size))); obtain ⟨kc9, kf9, s9⟩ := bfacts hb9; obtain ⟨kd9, kg9, _⟩ := bfacts hB9; go_simp; try rfl) | (apply light_yes (by rfl); intro w9 hb9; have hB9 : Below w4.heap.size w4 w9 := (by (repeat' (first | (with_reducible exact Below.refl _ _) | (with_reducible assumption) | (with_reducible refine Below.alloc ?_ ?_ _) | (with_reducible refine below_drewN ?_ _) | (with_reducible refine Below.drew ?_) | (with_reducible refine Below.setCell ?_ ?_ _) | (with_reducible refine Below.trans ?_ (Below.mono (by with_reducible assumption) ?_)) | go_size))); obtain ⟨kc9, kf9, s9⟩ := bfacts hb9; obtain ⟨kd9, kg9, _⟩ := bfacts hB9; go_simp; try rfl)
          case hQ => exact fun _ _ _ h => h
          (try simp only [Act.put, List.setIfInBounds_toArray, List.set_cons_zero, List.set_cons_succ])
          apply trail_light
          case hi => (simp only [List.getElem?_toArray, List.getElem?_cons_zero, List.getElem?_cons_succ]; exact rfl)
          case hl => first | exact light_no (by rfl) | (apply light_plain rfl; intro w9 hb9; have hB9 : Below w4.heap.size w4 w9 := (by (repeat' (first | (with_reducible exact Below.refl _ _) | (with_reducible assumption) | (with_reducible refine Below.alloc ?_ ?_ _) | (with_reducible refine below_drewN ?_ _) | (with_reducible refine Below.drew ?_) | (with_reducible refine Below.setCell ?_ ?_ _) | (with_reducible refine Below.trans ?_ (Below.mono (by with_reducible assumption) ?_)) | go_size))); exact exec_load rfl rfl (by first | exact ldf w9 hB9 | exact ldt w9 hB9 | exact ldg w9 hB9 | exact ldi w9 hB9 | exact ldh w9 hB9)) | (apply light_yes (by rfl); intro w9 hb9; have hB9 : Below w4.heap.size w4 w9 := (by (repeat' (first | (with_reducible exact Below.refl _ _) | (with_reducible assumption) | (with_reducible refine Below.alloc ?_ ?_ _) | (with_reducible refine below_drewN ?_ _) | (with_reducible refine Below.drew ?_) | (with_reducible refine Below.setCell ?_ ?_ _) | (with_reducible refine Below.trans ?_ (Below.mono (by with_reducible assumption) ?_)) | go_size))); exact exec_load rfl rfl (by first | exact ldf w9 hB9 | exact ldt w9 hB9 | exact ldg w9 hB9 | exact ldi w9 hB9 | exact ldh w9 hB9)) | (apply light_plain rfl; intro w9 hb9; have hB9 : Below w4.heap.size w4 w9 := (by (repeat' (first | (with_reducible exact Below.refl _ _) | (with_reducible assumption) | (with_reducible refine Below.alloc ?_ ?_ _) | (with_reducible refine below_drewN ?_ _) | (with_reducible refine Below.drew ?_) | (with_reducible refine Below.setCell ?_ ?_ _) | (with_reducible refine Below.trans ?_ (Below.mono (by with_reducible assumption) ?_)) | go_size))); obtain ⟨kc9, kf9, s9⟩ := bfacts hb9; obtain ⟨kd9, kg9, _⟩ := bfacts hB9; go_simp; try rfl) | (apply light_yes (by rfl); intro w9 hb9; have hB9 : Below w4.heap.size w4 w9 := (by (repeat' (first | (with_reducible exact Below.refl _ _) | (with_reducible assumption) | (with_reducible refine Below.alloc ?_ ?_ _) | (with_reducible refine below_drewN ?_ _) | (with_reducible refine Below.drew ?_) | (with_reducible refine Below.setCell ?_ ?_ _) | (with_reducible refine Below.trans ?_ (Below.mono (by with_reducible assumption) ?_)) | go_size))); obtain ⟨kc9, kf9, s9⟩ := bfacts hb9; obtain ⟨kd9, kg9, _⟩ := bfacts hB9; go_simp; try rfl)
          case hQ => exact fun _ _ _ h => h
          (try simp only [Act.put, List.setIfInBounds_toArray, List.set_cons_zero, List.set_cons_succ])
          apply trail_light
          case hi => (simp only [List.getElem?_toArray, List.getElem?_cons_zero, List.getElem?_cons_succ]; exact rfl)
          case hl => first | exact light_no (by rfl) | (apply light_plain rfl; intro w9 _; go_simp; try rfl) | (apply light_yes (by rfl); intro w9 _; go_simp; try rfl)
          case hQ => exact fun _ _ _ h => h
          (try simp only [Act.put, List.setIfInBounds_toArray, List.set_cons_zero, List.set_cons_succ])
          apply trail_light
          case hi => (simp only [List.getElem?_toArray, List.getElem?_cons_zero, List.getElem?_cons_succ]; exact rfl)
          case hl => first | exact light_no (by rfl) | (apply light_plain rfl; intro w9 _; go_simp; try rfl) | (apply light_yes (by rfl); intro w9 _; go_simp; try rfl)
          case hQ => exact fun _ _ _ h => h
          (try simp only [Act.put, List.setIfInBounds_toArray, List.set_cons_zero, List.set_cons_succ])
          apply trail_light
          case hi => (simp only [List.getElem?_toArray, List.getElem?_cons_zero, List.getElem?_cons_succ]; exact rfl)
          case hl => first | exact light_no (by rfl) | (apply light_plain rfl; intro w9 hb9; have hB9 : Below w4.heap.size w4 w9 := (by (repeat' (first | (with_reducible exact Below.refl _ _) | (with_reducible assumption) | (with_reducible refine Below.alloc ?_ ?_ _) | (with_reducible refine below_drewN ?_ _) | (with_reducible refine Below.drew ?_) | (with_reducible refine Below.setCell ?_ ?_ _) | (with_reducible refine Below.trans ?_ (Below.mono (by with_reducible assumption) ?_)) | go_size))); exact exec_load rfl rfl (by first | exact ldf w9 hB9 | exact ldt w9 hB9 | exact ldg w9 hB9 | exact ldi w9 hB9 | exact ldh w9 hB9)) | (apply light_yes (by rfl); intro w9 hb9; have hB9 : Below w4.heap.size w4 w9 := (by (repeat' (first | (with_reducible exact Below.refl _ _) | (with_reducible assumption) | (with_reducible refine Below.alloc ?_ ?_ _) | (with_reducible refine below_drewN ?_ _) | (with_reducible refine Below.drew ?_) | (with_reducible refine Below.setCell ?_ ?_ _) | (with_reducible refine Below.trans ?_ (Below.mono (by with_reducible assumption) ?_)) | go_size))); exact exec_load rfl rfl (by first | exact ldf w9 hB9 | exact ldt w9 hB9 | exact ldg w9 hB9 | exact ldi w9 hB9 | exact ldh w9 hB9)) | (apply light_plain rfl; intro w9 hb9; have hB9 : Below w4.heap.size w4 w9 := (by (repeat' (first | (with_reducible exact Below.refl _ _) | (with_reducible assumption) | (with_reducible refine Below.alloc ?_ ?_ _) | (with_reducible refine below_drewN ?_ _) | (with_reducible refine Below.drew ?_) | (with_reducible refine Below.setCell ?_ ?_ _) | (with_reducible refine Below.trans ?_ (Below.mono (by with_reducible assumption) ?_)) | go_size))); obtain ⟨kc9, kf9, s9⟩ := bfacts hb9; obtain ⟨kd9, kg9, _⟩ := bfacts hB9; go_simp; try rfl) | (apply light_yes (by rfl); intro w9 hb9; have hB9 : Below w4.heap.size w4 w9 := (by (repeat' (first | (with_reducible exact Below.refl _ _) | (with_reducible assumption) | (with_reducible refine Below.alloc ?_ ?_ _) | (with_reducible refine below_drewN ?_ _) | (with_reducible refine Below.drew ?_) | (with_reducible refine Below.setCell ?_ ?_ _) | (with_reducible refine Below.trans ?_ (Below.mono (by with_reducible assumption) ?_)) | go_size))); obtain ⟨kc9, kf9, s9⟩ := bfacts hb9; obtain ⟨kd9, kg9, _⟩ := bfacts hB9; go_simp; try rfl)
          case hQ => exact fun _ _ _ h => h
          (try simp only [Act.put, List.setIfInBounds_toArray, List.set_cons_zero, List.set_cons_succ])
          apply trail_light
          case hi => (simp only [List.getElem?_toArray, List.getElem?_cons_zero, List.getElem?_cons_succ]; exact rfl)
          case hl => first | exact light_no (by rfl) | (apply light_plain rfl; intro w9 hb9; have hB9 : Below w4.heap.size w4 w9 := (by (repeat' (first | (with_reducible exact Below.refl _ _) | (with_reducible assumption) | (with_reducible refine Below.alloc ?_ ?_ _) | (with_reducible refine below_drewN ?_ _) | (with_reducible refine Below.drew ?_) | (with_reducible refine Below.setCell ?_ ?_ _) | (with_reducible refine Below.trans ?_ (Below.mono (by with_reducible assumption) ?_)) | go_size))); exact exec_load rfl rfl (by first | exact ldf w9 hB9 | exact ldt w9 hB9 | exact ldg w9 hB9 | exact ldi w9 hB9 | exact ldh w9 hB9)) | (apply light_yes (by rfl); intro w9 hb9; have hB9 : Below w4.heap.size w4 w9 := (by (repeat' (first | (with_reducible exact Below.refl _ _) | (with_reducible assumption) | (with_reducible refine Below.alloc ?_ ?_ _) | (with_reducible refine below_drewN ?_ _) | (with_reducible refine Below.drew ?_) | (with_reducible refine Below.setCell ?_ ?_ _) | (with_reducible refine Below.trans ?_ (Below.mono (by with_reducible assumption) ?_)) | go_size))); exact exec_load rfl rfl (by first | exact ldf w9 hB9 | exact ldt w9 hB9 | exact ldg w9 hB9 | exact ldi w9 hB9 | exact ldh w9 hB9)) | (apply light_plain rfl; intro w9 hb9; have hB9 : Below w4.heap.size w4 w9 := (by (repeat' (first | (with_reducible exact Below.refl _ _) | (with_reducible assumption) | (with_reducible refine Below.alloc ?_ ?_ _) | (with_reducible refine below_drewN ?_ _) | (with_reducible refine Below.drew ?_) | (with_reducible refine Below.setCell ?_ ?_ _) | (with_reducible refine Below.trans ?_ (Below.mono (by with_reducible assumption) ?_)) | go_size))); obtain ⟨kc9, kf9, s9⟩ := bfacts hb9; obtain ⟨kd9, kg9, _⟩ := bfacts hB9; go_simp; try rfl) | (apply light_yes (by rfl); intro w9 hb9; have hB9 : Below w4.heap.size w4 w9 := (by (repeat' (first | (with_reducible exact Below.refl _ _) | (with_reducible assumption) | (with_reducible refine Below.alloc ?_ ?_ _) | (with_reducible refine below_drewN ?_ _) | (with_reducible refine Below.drew ?_) | (with_reducible refine Below.setCell ?_ ?_ _) | (with_reducible refine Below.trans ?_ (Below.mono (by with_reducible assumption) ?_)) | go_size))); obtain ⟨kc9, kf9, s9⟩ := bfacts hb9; obtain ⟨kd9, kg9, _⟩ := bfacts hB9; go_simp; try rfl)
          case hQ => exact fun _ _ _ h => h
          (try simp only [Act.put, List.setIfInBounds_toArray, List.set_cons_zero, List.set_cons_succ])
          apply trail_light
          case hi => (simp only [List.getElem?_toArray, List.getElem?_cons_zero, List.getElem?_cons_succ]; exact rfl)
          case hl => first | exact light_no (by rfl) | (apply light_plain rfl; intro w9 _; go_simp; try rfl) | (apply light_yes (by rfl); intro w9 _; go_simp; try rfl)
          case hQ => exact fun _ _ _ h => h
          (try simp only [Act.put, List.setIfInBounds_toArray, List.set_cons_zero, List.set_cons_succ])
          apply trail_light
          case hi => (simp only [List.getElem?_toArray, List.getElem?_cons_zero, List.getElem?_cons_succ]; exact rfl)
          case hl => first | exact light_no (by rfl) | (apply light_plain rfl; intro w9 _; go_simp; try rfl) | (apply light_yes (by rfl); intro w9 _; go_simp; try rfl)
          case hQ => exact fun _ _ _ h => h
          (try simp only [Act.put, List.setIfInBounds_toArray, List.set_cons_zero, List.set_cons_succ])
          apply trail_heavy
          case hi => (simp only [List.getElem?_toArray, List.getElem?_cons_zero, List.getElem?_cons_succ]; exact rfl)
          go_wp2_with (first | (go_at_call 39; refine (CS1.out _ _ (SL.at_ HV0.out (by (repeat' (first | (with_reducible exact Below.refl _ _) | (with_reducible assumption) | (with_reducible refine Below.alloc ?_ ?_ _) | (with_reducible refine below_drewN ?_ _) | (with_reducible refine Below.drew ?_) | (with_reducible refine Below.setCell ?_ ?_ _) | (with_reducible refine Below.trans ?_ (Below.mono (by with_reducible assumption) ?_)) | go_size))) (Nat.le_refl _)) ho1 HSI.out).mono ?_; rintro e w5 ⟨v5, rfl, hR5, hb5⟩; obtain ⟨kc5, kf5, s5⟩ := bfacts hb5; (try simp only [World.size_alloc, World.size_setCell, World.size_drew, World.heap_drewN, Nat.add_one_le_iff] at s5); have HR5 := Lib.hid hR5) | (go_at_call 40; refine (CS2.out _ _ (SL.at_ HV0.out (by (repeat' (first | (with_reducible exact Below.refl _ _) | (with_reducible assumption) | (with_reducible refine Below.alloc ?_ ?_ _) | (with_reducible refine below_drewN ?_ _) | (with_reducible refine Below.drew ?_) | (with_reducible refine Below.setCell ?_ ?_ _) | (with_reducible refine Below.trans ?_ (Below.mono (by with_reducible assumption) ?_)) | go_size))) (Nat.le_refl _)) HSI.out).mono ?_; rintro e w6 ⟨v6, rfl, hR6, hb6⟩; obtain ⟨kc6, kf6, s6⟩ := bfacts hb6; (try simp only [World.size_alloc, World.size_setCell, World.size_drew, World.heap_drewN, Nat.add_one_le_iff] at s6); have HR6 := Lib.hid hR6; have HR5' : Hid (RInts w6 w6.heap.size v5 (Ev.seen t i v al)) := (SL.at_ HR5.out (by (repeat' (first | (with_reducible exact Below.refl _ _) | (with_reducible assumption) | (with_reducible refine Below.alloc ?_ ?_ _) | (with_reducible refine below_drewN ?_ _) | (with_reducible refine Below.drew ?_) | (with_reducible refine Below.setCell ?_ ?_ _) | (with_reducible refine Below.trans ?_ (Below.mono (by with_reducible assumption) ?_)) | go_size))) (Nat.le_refl _))) | (go_at_call 34; refine (sameInts_same (Ev.seen t i v al) _ _ _ HR5'.out HR6.out).mono ?_; rintro e w7 ⟨rfl, hb7⟩; obtain ⟨kc7, kf7, s7⟩ := bfacts hb7; (try simp only [World.size_alloc, World.size_setCell, World.size_drew, World.heap_drewN, Nat.add_one_le_iff] at s7); skip))
          refine ⟨by (repeat' (first | (with_reducible exact Below.refl _ _) | (with_reducible assumption) | (with_reducible refine Below.alloc ?_ ?_ _) | (with_reducible refine below_drewN ?_ _) | (with_reducible refine Below.drew ?_) | (with_reducible refine Below.setCell ?_ ?_ _) | (with_reducible refine Below.trans ?_ (Below.mono (by with_reducible assumption) ?_)) | go_size)), ?_⟩
          apply trail_heavy
          case hi => (simp only [List.getElem?_toArray, List.getElem?_cons_zero, List.getElem?_cons_succ]; exact rfl)
          go_wp2_with (first | (go_at_call 39; refine (CS1.out _ _ (SL.at_ HV0.out (by (repeat' (first | (with_reducible exact Below.refl _ _) | (with_reducible assumption) | (with_reducible refine Below.alloc ?_ ?_ _) | (with_reducible refine below_drewN ?_ _) | (with_reducible refine Below.drew ?_) | (with_reducible refine Below.setCell ?_ ?_ _) | (with_reducible refine Below.trans ?_ (Below.mono (by with_reducible assumption) ?_)) | go_size))) (Nat.le_refl _)) ho1 HSI.out).mono ?_; rintro e w5 ⟨v5, rfl, hR5, hb5⟩; obtain ⟨kc5, kf5, s5⟩ := bfacts hb5; (try simp only [World.size_alloc, World.size_setCell, World.size_drew, World.heap_drewN, Nat.add_one_le_iff] at s5); have HR5 := Lib.hid hR5) | (go_at_call 40; refine (CS2.out _ _ (SL.at_ HV0.out (by (repeat' (first | (with_reducible exact Below.refl _ _) | (with_reducible assumption) | (with_reducible refine Below.alloc ?_ ?_ _) | (with_reducible refine below_drewN ?_ _) | (with_reducible refine Below.drew ?_) | (with_reducible refine Below.setCell ?_ ?_ _) | (with_reducible refine Below.trans ?_ (Below.mono (by with_reducible assumption) ?_)) | go_size))) (Nat.le_refl _)) HSI.out).mono ?_; rintro e w6 ⟨v6, rfl, hR6, hb6⟩; obtain ⟨kc6, kf6, s6⟩ := bfacts hb6; (try simp only [World.size_alloc, World.size_setCell, World.size_drew, World.heap_drewN, Nat.add_one_le_iff] at s6); have HR6 := Lib.hid hR6; have HR5' : Hid (RInts w6 w6.heap.size v5 (Ev.seen t i v al)) := (SL.at_ HR5.out (by (repeat' (first | (with_reducible exact Below.refl _ _) | (with_reducible assumption) | (with_reducible refine Below.alloc ?_ ?_ _) | (with_reducible refine below_drewN ?_ _) | (with_reducible refine Below.drew ?_) | (with_reducible refine Below.setCell ?_ ?_ _) | (with_reducible refine Below.trans ?_ (Below.mono (by with_reducible assumption) ?_)) | go_size))) (Nat.le_refl _))) | (go_at_call 34; refine (sameInts_same (Ev.seen t i v al) _ _ _ HR5'.out HR6.out).mono ?_; rintro e w7 ⟨rfl, hb7⟩; obtain ⟨kc7, kf7, s7⟩ := bfacts hb7; (try simp only [World.size_alloc, World.size_setCell, World.size_drew, World.heap_drewN, Nat.add_one_le_iff] at s7); skip))
          refine ⟨by (repeat' (first | (with_reducible exact Below.refl _ _) | (with_reducible assumption) | (with_reducible refine Below.alloc ?_ ?_ _) | (with_reducible refine below_drewN ?_ _) | (with_reducible refine Below.drew ?_) | (with_reducible refine Below.setCell ?_ ?_ _) | (with_reducible refine Below.trans ?_ (Below.mono (by with_reducible assumption) ?_)) | go_size)), ?_⟩
          apply trail_heavy
          case hi => (simp only [List.getElem?_toArray, List.getElem?_cons_zero, List.getElem?_cons_succ]; exact rfl)
          go_wp2_with (first | (go_at_call 39; refine (CS1.out _ _ (SL.at_ HV0.out (by (repeat' (first | (with_reducible exact Below.refl _ _) | (with_reducible assumption) | (with_reducible refine Below.alloc ?_ ?_ _) | (with_reducible refine below_drewN ?_ _) | (with_reducible refine Below.drew ?_) | (with_reducible refine Below.setCell ?_ ?_ _) | (with_reducible refine Below.trans ?_ (Below.mono (by with_reducible assumption) ?_)) | go_size))) (Nat.le_refl _)) ho1 HSI.out).mono ?_; rintro e w5 ⟨v5, rfl, hR5, hb5⟩; obtain ⟨kc5, kf5, s5⟩ := bfacts hb5; (try simp only [World.size_alloc, World.size_setCell, World.size_drew, World.heap_drewN, Nat.add_one_le_iff] at s5); have HR5 := Lib.hid hR5) | (go_at_call 40; refine (CS2.out _ _ (SL.at_ HV0.out (by (repeat' (first | (with_reducible exact Below.refl _ _) | (with_reducible assumption) | (with_reducible refine Below.alloc ?_ ?_ _) | (with_reducible refine below_drewN ?_ _) | (with_reducible refine Below.drew ?_) | (with_reducible refine Below.setCell ?_ ?_ _) | (with_reducible refine Below.trans ?_ (Below.mono (by with_reducible assumption) ?_)) | go_size))) (Nat.le_refl _)) HSI.out).mono ?_; rintro e w6 ⟨v6, rfl, hR6, hb6⟩; obtain ⟨kc6, kf6, s6⟩ := bfacts hb6; (try simp only [World.size_alloc, World.size_setCell, World.size_drew, World.heap_drewN, Nat.add_one_le_iff] at s6); have HR6 := Lib.hid hR6; have HR5' : Hid (RInts w6 w6.heap.size v5 (Ev.seen t i v al)) := (SL.at_ HR5.out (by (repeat' (first | (with_reducible exact Below.refl _ _) | (with_reducible assumption) | (with_reducible refine Below.alloc ?_ ?_ _) | (with_reducible refine below_drewN ?_ _) | (with_reducible refine Below.drew ?_) | (with_reducible refine Below.setCell ?_ ?_ _) | (with_reducible refine Below.trans ?_ (Below.mono (by with_reducible assumption) ?_)) | go_size))) (Nat.le_refl _))) | (go_at_call 34; refine (sameInts_same (Ev.seen t i v al) _ _ _ HR5'.out HR6.out).mono ?_; rintro e w7 ⟨rfl, hb7⟩; obtain ⟨kc7, kf7, s7⟩ := bfacts hb7; (try simp only [World.size_alloc, World.size_setCell, World.size_drew, World.heap_drewN, Nat.add_one_le_iff] at s7); skip))
          refine ⟨by (repeat' (first | (with_reducible exact Below.refl _ _) | (with_reducible assumption) | (with_reducible refine Below.alloc ?_ ?_ _) | (with_reducible refine below_drewN ?_ _) | (with_reducible refine Below.drew ?_) | (with_reducible refine Below.setCell ?_ ?_ _) | (with_reducible refine Below.trans ?_ (Below.mono (by with_reducible assumption) ?_)) | go_size)), ?_⟩
          apply trail_light
          case hi => (simp only [List.getElem?_toArray, List.getElem?_cons_zero, List.getElem?_cons_succ]; exact rfl)
          case hl => first | exact light_no (by rfl) | (apply light_plain rfl; intro w9 _; go_simp; try rfl) | (apply light_yes (by rfl); intro w9 _; go_simp; try rfl)
          case hQ => exact fun _ _ _ h => h
          (try simp only [Act.put, List.setIfInBounds_toArray, List.set_cons_zero, List.set_cons_succ])
          apply trail_light
          case hi => (simp only [List.getElem?_toArray, List.getElem?_cons_zero, List.getElem?_cons_succ]; exact rfl)
          case hl => first | exact light_no (by rfl) | (apply light_plain rfl; intro w9 _; go_simp; try rfl) | (apply light_yes (by rfl); intro w9 _; go_simp; try rfl)
          case hQ => exact fun _ _ _ h => h
          (try simp only [Act.put, List.setIfInBounds_toArray, List.set_cons_zero, List.set_cons_succ])
          refine trail_nil ?_
          (try dsimp only)
          go_wp2_with fail
          go_meet
          exact ⟨by simp, by (repeat' (first | (with_reducible exact Below.refl _ _) | (with_reducible assumption) | (with_reducible refine Below.alloc ?_ ?_ _) | (with_reducible refine below_drewN ?_ _) | (with_reducible refine Below.drew ?_) | (with_reducible refine Below.setCell ?_ ?_ _) | (with_reducible refine Below.trans ?_ (Below.mono (by with_reducible assumption) ?_)) | go_size))⟩
      case rest => as_aux_lemma =>
      obtain ⟨rfl, hBc⟩ := hcut
      have s5 := hBc.size
      replace f0c : wc.cell? ⟨w.heap.size, 0, none⟩ = some (.slice Ac f.code.length cc) := (hBc.cell (p := ⟨w.heap.size, 0, none⟩) (by omega)).trans f0c
      replace f1c : wc.cell? ⟨w.heap.size, 1, none⟩ = some (.slice As f.secret.length cs) := (hBc.cell (p := ⟨w.heap.size, 1, none⟩) (by omega)).trans f1c
      replace f2c : wc.cell? ⟨w.heap.size, 2, none⟩ = some (.int .i64 f.params) := (hBc.cell (p := ⟨w.heap.size, 2, none⟩) (by omega)).trans f2c
      replace f3c : wc.cell? ⟨w.heap.size, 3, none⟩ = some (.slice Av f.arrays.length cv) := (hBc.cell (p := ⟨w.heap.size, 3, none⟩) (by omega)).trans f3c
      replace g0c : wc.cell? ⟨w.heap.size + 1 + 1, 0, none⟩ = some (.slice Aw g.words.length cw) := (hBc.cell (p := ⟨w.heap.size + 1 + 1, 0, none⟩) (by omega)).trans g0c
      replace g1c : wc.cell? ⟨w.heap.size + 1 + 1, 1, none⟩ = some (.slice Ax g.arrays.length cx) := (hBc.cell (p := ⟨w.heap.size + 1 + 1, 1, none⟩) (by omega)).trans g1c
      replace i0c : wc.cell? ⟨w.heap.size + 1 + 1 + 1, 0, none⟩ = some (.int .i64 i.op) := (hBc.cell (p := ⟨w.heap.size + 1 + 1 + 1, 0, none⟩) (by omega)).trans i0c
      replace i1c : wc.cell? ⟨w.heap.size + 1 + 1 + 1, 1, none⟩ = some (.int .i64 i.d) := (hBc.cell (p := ⟨w.heap.size + 1 + 1 + 1, 1, none⟩) (by omega)).trans i1c
      replace i2c : wc.cell? ⟨w.heap.size + 1 + 1 + 1, 2, none⟩ = some (.int .i64 i.a) := (hBc.cell (p := ⟨w.heap.size + 1 + 1 + 1, 2, none⟩) (by omega)).trans i2c
      replace i3c : wc.cell? ⟨w.heap.size + 1 + 1 + 1, 3, none⟩ = some (.int .i64 i.b) := (hBc.cell (p := ⟨w.heap.size + 1 + 1 + 1, 3, none⟩) (by omega)).trans i3c
      replace i4c : wc.cell? ⟨w.heap.size + 1 + 1 + 1, 4, none⟩ = some (.int .i64 i.c) := (hBc.cell (p := ⟨w.heap.size + 1 + 1 + 1, 4, none⟩) (by omega)).trans i4c
      replace i5c : wc.cell? ⟨w.heap.size + 1 + 1 + 1, 5, none⟩ = some (.int .i64 i.imm) := (hBc.cell (p := ⟨w.heap.size + 1 + 1 + 1, 5, none⟩) (by omega)).trans i5c
      replace ldf : ∀ u, Below wc.heap.size wc u → (Go.Instr.loadAt 26 (.pointer (some ⟨w.heap.size, 0, none⟩))).run Try.prog u = .ok (.agg #[.slice Ac f.code.length cc, .slice As f.secret.length cs, .int .i64 f.params, .slice Av f.arrays.length cv]) u := fun u hu => ldf u (hBc.trans (hu.mono hBc.size))
      replace ldt : ∀ u, Below wc.heap.size wc u → (Go.Instr.loadAt 29 (.pointer (some ⟨w.heap.size + 1, 0, none⟩))).run Try.prog u = .ok (.agg #[.int .i64 x0, .int .i64 x1, .int .i64 x2, .int .i64 x3, .int .i64 x4, .int .i64 x5, .int .i64 x6, .int .i64 x7, .int .i64 x8, .int .i64 x9, .int .i64 x10, .int .i64 x11, .int .i64 x12, .int .i64 x13, .int .i64 x14, .int .i64 x15, .int .i64 x16, .int .i64 x17]) u := fun u hu => ldt u (hBc.trans (hu.mono hBc.size))
      replace ldg : ∀ u, Below wc.heap.size wc u → (Go.Instr.loadAt 45 (.pointer (some ⟨w.heap.size + 1 + 1, 0, none⟩))).run Try.prog u = .ok (.agg #[.slice Aw g.words.length cw, .slice Ax g.arrays.length cx]) u := fun u hu => ldg u (hBc.trans (hu.mono hBc.size))
      replace ldi : ∀ u, Below wc.heap.size wc u → (Go.Instr.loadAt 39 (.pointer (some ⟨w.heap.size + 1 + 1 + 1, 0, none⟩))).run Try.prog u = .ok (.agg #[.int .i64 i.op, .int .i64 i.d, .int .i64 i.a, .int .i64 i.b, .int .i64 i.c, .int .i64 i.imm]) u := fun u hu => ldi u (hBc.trans (hu.mono hBc.size))
      replace z0 : w.heap.size < wc.heap.size := by omega
      replace z1 : w.heap.size + 1 < wc.heap.size := by omega
      replace z2 : w.heap.size + 1 + 1 < wc.heap.size := by omega
      replace z3 : w.heap.size + 1 + 1 + 1 < wc.heap.size := by omega
      replace rfw := Below.refl wc.heap.size wc
      have b5 : Below w.heap.size w wc := b4.trans (hBc.mono (by omega))
      clear HFF CS1 CS2 CW CC1 CC2 HB4 b4 hBc
      go_upto_region 17 with fail
      by_cases he : er = 0
      case neg => as_aux_lemma =>
        have g1 : (er != 0) = true := bne_iff_ne.2 he
        clear he
        refine wp_region_trail (fun w' => Below ((wc).heap.size) (wc) w') [(0, true), (1, true), (2, true), (3, true), (4, true), (5, true), (6, true), (7, true), (8, true), (9, true), (10, true), (11, true), (12, true), (14, true), (15, true), (17, true), (13, false), (16, true), (18, false), (19, true), (20, true)] (by kernel_rfl) (by kernel_rfl) (by kernel_rfl) (by decide) (by (repeat' (first | (with_reducible exact Below.refl _ _) | (with_reducible assumption) | (with_reducible refine Below.alloc ?_ ?_ _) | (with_reducible refine below_drewN ?_ _) | (with_reducible refine Below.drew ?_) | (with_reducible refine Below.setCell ?_ ?_ _) | (with_reducible refine Below.trans ?_ (Below.mono (by with_reducible assumption) ?_)) | go_size))) ?_
        apply trail_light
        case hi => (simp only [List.getElem?_toArray, List.getElem?_cons_zero, List.getElem?_cons_succ]; exact rfl)
        case hl => first | exact light_no (by rfl) | (apply light_plain rfl; intro w9 _; go_simp; try rfl) | (apply light_yes (by rfl); intro w9 _; go_simp; try rfl)
        case hQ => exact fun _ _ _ h => h
        (try simp only [Act.put, List.setIfInBounds_toArray, List.set_cons_zero, List.set_cons_succ])
        apply trail_light
        case hi => (simp only [List.getElem?_toArray, List.getElem?_cons_zero, List.getElem?_cons_succ]; exact rfl)
        case hl => first | exact light_no (by rfl) | (apply light_plain rfl; intro w9 _; go_simp; try rfl) | (apply light_yes (by rfl); intro w9 _; go_simp; try rfl)
        case hQ => exact fun _ _ _ h => h
        (try simp only [Act.put, List.setIfInBounds_toArray, List.set_cons_zero, List.set_cons_succ])
        apply trail_light
        case hi => (simp only [List.getElem?_toArray, List.getElem?_cons_zero, List.getElem?_cons_succ]; exact rfl)
        case hl => first | exact light_no (by rfl) | (apply light_plain rfl; intro w9 _; go_simp; try rfl) | (apply light_yes (by rfl); intro w9 _; go_simp; try rfl)
        case hQ => exact fun _ _ _ h => h
        (try simp only [Act.put, List.setIfInBounds_toArray, List.set_cons_zero, List.set_cons_succ])
        apply trail_light
        case hi => (simp only [List.getElem?_toArray, List.getElem?_cons_zero, List.getElem?_cons_succ]; exact rfl)
        case hl => first | exact light_no (by rfl) | (apply light_plain rfl; intro w9 _; go_simp; try rfl) | (apply light_yes (by rfl); intro w9 _; go_simp; try rfl)
        case hQ => exact fun _ _ _ h => h
        (try simp only [Act.put, List.setIfInBounds_toArray, List.set_cons_zero, List.set_cons_succ])
        apply trail_light
        case hi => (simp only [List.getElem?_toArray, List.getElem?_cons_zero, List.getElem?_cons_succ]; exact rfl)
        case hl => first | exact light_no (by rfl) | (apply light_plain rfl; intro w9 hb9; have hB9 : Below wc.heap.size wc w9 := (by (repeat' (first | (with_reducible exact Below.refl _ _) | (with_reducible assumption) | (with_reducible refine Below.alloc ?_ ?_ _) | (with_reducible refine below_drewN ?_ _) | (with_reducible refine Below.drew ?_) | (with_reducible refine Below.setCell ?_ ?_ _) | (with_reducible refine Below.trans ?_ (Below.mono (by with_reducible assumption) ?_)) | go_size))); exact exec_load rfl rfl (by first | exact ldf w9 hB9 | exact ldt w9 hB9 | exact ldg w9 hB9 | exact ldi w9 hB9 | exact ldh w9 hB9)) | (apply light_yes (by rfl); intro w9 hb9; have hB9 : Below wc.heap.size wc w9 := (by (repeat' (first | (with_reducible exact Below.refl _ _) | (with_reducible assumption) | (with_reducible refine Below.alloc ?_ ?_ _) | (with_reducible refine below_drewN ?_ _) | (with_reducible refine Below.drew ?_) | (with_reducible refine Below.setCell ?_ ?_ _) | (with_reducible refine Below.trans ?_ (Below.mono (by with_reducible assumption) ?_)) | go_size))); exact exec_load rfl rfl (by first | exact ldf w9 hB9 | exact ldt w9 hB9 | exact ldg w9 hB9 | exact ldi w9 hB9 | exact ldh w9 hB9)) | (apply light_plain rfl; intro w9 hb9; have hB9 : Below wc.heap.size wc w9 := (by (repeat' (first | (with_reducible exact Below.refl _ _) | (with_reducible assumption) | (with_reducible refine Below.alloc ?_ ?_ _) | (with_reducible refine below_drewN ?_ _) | (with_reducible refine Below.drew ?_) | (with_reducible refine Below.setCell ?_ ?_ _) | (with_reducible refine Below.trans ?_ (Below.mono (by with_reducible assumption) ?_)) | go_size))); obtain ⟨kc9, kf9, s9⟩ := bfacts hb9; obtain ⟨kd9, kg9, _⟩ := bfacts hB9; go_simp; try rfl) | (apply light_yes (by rfl); intro w9 hb9; have hB9 : Below wc.heap.size wc w9 := (by (repeat' (first | (with_reducible exact Below.refl _ _) | (with_reducible assumption) | (with_reducible refine Below.alloc ?_ ?_ _) | (with_reducible refine below_drewN ?_ _) | (with_reducible refine Below.drew ?_) | (with_reducible refine Below.setCell ?_ ?_ _) | (with_reducible refine Below.trans ?_ (Below.mono (by with_reducible assumption) ?_)) | go_size))); obtain ⟨kc9, kf9, s9⟩ := bfacts hb9; obtain ⟨kd9, kg9, _⟩ := bfacts hB9; go_simp; try rfl)
        case hQ => exact fun _ _ _ h => h
        (try simp only [Act.put, List.setIfInBounds_toArray, List.set_cons_zero, List.set_cons_succ])
        apply trail_light
        case hi => (simp only [List.getElem?_toArray, List.getElem?_cons_zero, List.getElem?_cons_succ]; exact rfl)
        case hl => first | exact light_no (by rfl) | (apply light_plain rfl; intro w9 hb9; have hB9 : Below wc.heap.size wc w9 := (by (repeat' (first | (with_reducible exact Below.refl _ _) | (with_reducible assumption) | (with_reducible refine Below.alloc ?_ ?_ _) | (with_reducible refine below_drewN ?_ _) | (with_reducible refine Below.drew ?_) | (with_reducible refine Below.setCell ?_ ?_ _) | (with_reducible refine Below.trans ?_ (Below.mono (by with_reducible assumption) ?_)) | go_size))); obtain ⟨kc9, kf9, s9⟩ := bfacts hb9; obtain ⟨kd9, kg9, _⟩ := bfacts hB9; go_simp; try rfl) | (apply light_yes (by rfl); intro w9 hb9; have hB9 : Below wc.heap.size wc w9 := (by (repeat' (first | (with_reducible exact Below.refl _ _) | (with_reducible assumption) | (with_reducible refine Below.alloc ?_ ?_ _) | (with_reducible refine below_drewN ?_ _) | (with_reducible refine Below.drew ?_) | (with_reducible refine Below.setCell ?_ ?_ _) | (with_reducible refine Below.trans ?_ (Below.mono (by with_reducible assumption) ?_)) | go_size))); obtain ⟨kc9, kf9, s9⟩ := bfacts hb9; obtain ⟨kd9, kg9, _⟩ := bfacts hB9; go_simp; try rfl)
        case hQ => exact fun _ _ _ h => h
        (try simp only [Act.put, List.setIfInBounds_toArray, List.set_cons_zero, List.set_cons_succ])
        apply trail_light
        case hi => (simp only [List.getElem?_toArray, List.getElem?_cons_zero, List.getElem?_cons_succ]; exact rfl)
        case hl => first | exact light_no (by rfl) | (apply light_plain rfl; intro w9 _; go_simp; try rfl) | (apply light_yes (by rfl); intro w9 _; go_simp; try rfl)
        case hQ => exact fun _ _ _ h => h
        (try simp only [Act.put, List.setIfInBounds_toArray, List.set_cons_zero, List.set_cons_succ])
        apply trail_light
        case hi => (simp only [List.getElem?_toArray, List.getElem?_cons_zero, List.getElem?_cons_succ]; exact rfl)
        case hl => first | exact light_no (by rfl) | (apply light_plain rfl; intro w9 hb9; have hB9 : Below wc.heap.size wc w9 := (by (repeat' (first | (with_reducible exact Below.refl _ _) | (with_reducible assumption) | (with_reducible refine Below.alloc ?_ ?_ _) | (with_reducible refine below_drewN ?_ _) | (with_reducible refine Below.drew ?_) | (with_reducible refine Below.setCell ?_ ?_ _) | (with_reducible refine Below.trans ?_ (Below.mono (by with_reducible assumption) ?_)) | go_size))); exact exec_load rfl rfl (by first | exact ldf w9 hB9 | exact ldt w9 hB9 | exact ldg w9 hB9 | exact ldi w9 hB9 | exact ldh w9 hB9)) | (apply light_yes (by rfl); intro w9 hb9; have hB9 : Below wc.heap.size wc w9 := (by (repeat' (first | (with_reducible exact Below.refl _ _) | (with_reducible assumption) | (with_reducible refine Below.alloc ?_ ?_ _) | (with_reducible refine below_drewN ?_ _) | (with_reducible refine Below.drew ?_) | (with_reducible refine Below.setCell ?_ ?_ _) | (with_reducible refine Below.trans ?_ (Below.mono (by with_reducible assumption) ?_)) | go_size))); exact exec_load rfl rfl (by first | exact ldf w9 hB9 | exact ldt w9 hB9 | exact ldg w9 hB9 | exact ldi w9 hB9 | exact ldh w9 hB9)) | (apply light_plain rfl; intro w9 hb9; have hB9 : Below wc.heap.size wc w9 := (by (repeat' (first | (with_reducible exact Below.refl _ _) | (with_reducible assumption) | (with_reducible refine Below.alloc ?_ ?_ _) | (with_reducible refine below_drewN ?_ _) | (with_reducible refine Below.drew ?_) | (with_reducible refine Below.setCell ?_ ?_ _) | (with_reducible refine Below.trans ?_ (Below.mono (by with_reducible assumption) ?_)) | go_size))); obtain ⟨kc9, kf9, s9⟩ := bfacts hb9; obtain ⟨kd9, kg9, _⟩ := bfacts hB9; go_simp; try rfl) | (apply light_yes (by rfl); intro w9 hb9; have hB9 : Below wc.heap.size wc w9 := (by (repeat' (first | (with_reducible exact Below.refl _ _) | (with_reducible assumption) | (with_reducible refine Below.alloc ?_ ?_ _) | (with_reducible refine below_drewN ?_ _) | (with_reducible refine Below.drew ?_) | (with_reducible refine Below.setCell ?_ ?_ _) | (with_reducible refine Below.trans ?_ (Below.mono (by with_reducible assumption) ?_)) | go_size))); obtain ⟨kc9, kf9, s9⟩ := bfacts hb9; obtain ⟨kd9, kg9, _⟩ := bfacts hB9; go_simp; try rfl)
        case hQ => exact fun _ _ _ h => h
        (try simp only [Act.put, List.setIfInBounds_toArray, List.set_cons_zero, List.set_cons_succ])
        apply trail_light
        case hi => (simp only [List.getElem?_toArray, List.getElem?_cons_zero, List.getElem?_cons_succ]; exact rfl)
        case hl => first | exact light_no (by rfl) | (apply light_plain rfl; intro w9 _; go_simp; try rfl) | (apply light_yes (by rfl); intro w9 _; go_simp; try rfl)
        case hQ => exact fun _ _ _ h => h
        (try simp only [Act.put, List.setIfInBounds_toArray, List.set_cons_zero, List.set_cons_succ])
        apply trail_light
        case hi => (simp only [List.getElem?_toArray, List.getElem?_cons_zero, List.getElem?_cons_succ]; exact rfl)
        case hl => first | exact light_no (by rfl) | (apply light_plain rfl; intro w9 _; go_simp; try rfl) | (apply light_yes (by rfl); intro w9 _; go_simp; try rfl)
        case hQ => exact fun _ _ _ h => h
        (try simp only [Act.put, List.setIfInBounds_toArray, List.set_cons_zero, List.set_cons_succ])
        apply trail_light
        case hi => (simp only [List.getElem?_toArray, List.getElem?_cons_zero, List.getElem?_cons_succ]; exact rfl)
        case hl => first | exact light_no (by rfl) | (apply light_plain rfl; intro w9 _; go_simp; try rfl) | (apply light_yes (by rfl); intro w9 _; go_simp; try rfl)
        case hQ => exact fun _ _ _ h => h
        (try simp only [Act.put, List.setIfInBounds_toArray, List.set_cons_zero, List.set_cons_succ])
        apply trail_light
        case hi => (simp only [List.getElem?_toArray, List.getElem?_cons_zero, List.getElem?_cons_succ]; exact rfl)
        case hl => first | exact light_no (by rfl) | (apply light_plain rfl; intro w9 _; go_simp; try rfl) | (apply light_yes (by rfl); intro w9 _; go_simp; try rfl)
        case hQ => exact fun _ _ _ h => h
        (try simp only [Act.put, List.setIfInBounds_toArray, List.set_cons_zero, List.set_cons_succ])
        apply trail_light
        case hi => (simp only [List.getElem?_toArray, List.getElem?_cons_zero, List.getElem?_cons_succ]; exact rfl)
        case hl => first | exact light_no (by rfl) | (apply light_plain rfl; intro w9 hb9; have hB9 : Below wc.heap.size wc w9 := (by (repeat' (first | (with_reducible exact Below.refl _ _) | (with_reducible assumption) | (with_reducible refine Below.alloc ?_ ?_ _) | (with_reducible refine below_drewN ?_ _) | (with_reducible refine Below.drew ?_) | (with_reducible refine Below.setCell ?_ ?_ _) | (with_reducible refine Below.trans ?_ (Below.mono (by with_reducible assumption) ?_)) | go_size))); exact exec_load rfl rfl (by first | exact ldf w9 hB9 | exact ldt w9 hB9 | exact ldg w9 hB9 | exact ldi w9 hB9 | exact ldh w9 hB9)) | (apply light_yes (by rfl); intro w9 hb9; have hB9 : Below wc.heap.size wc w9 := (by (repeat' (first | (with_reducible exact Below.refl _ _) | (with_reducible assumption) | (with_reducible refine Below.alloc ?_ ?_ _) | (with_reducible refine below_drewN ?_ _) | (with_reducible refine Below.drew ?_) | (with_reducible refine Below.setCell ?_ ?_ _) | (with_reducible refine Below.trans ?_ (Below.mono (by with_reducible assumption) ?_)) | go_size))); exact exec_load rfl rfl (by first | exact ldf w9 hB9 | exact ldt w9 hB9 | exact ldg w9 hB9 | exact ldi w9 hB9 | exact ldh w9 hB9)) | (apply light_plain rfl; intro w9 hb9; have hB9 : Below wc.heap.size wc w9 := (by (repeat' (first | (with_reducible exact Below.refl _ _) | (with_reducible assumption) | (with_reducible refine Below.alloc ?_ ?_ _) | (with_reducible refine below_drewN ?_ _) | (with_reducible refine Below.drew ?_) | (with_reducible refine Below.setCell ?_ ?_ _) | (with_reducible refine Below.trans ?_ (Below.mono (by with_reducible assumption) ?_)) | go_size))); obtain ⟨kc9, kf9, s9⟩ := bfacts hb9; obtain ⟨kd9, kg9, _⟩ := bfacts hB9; go_simp; try rfl) | (apply light_yes (by rfl); intro w9 hb9; have hB9 : Below wc.heap.size wc w9 := (by (repeat' (first | (with_reducible exact Below.refl _ _) | (with_reducible assumption) | (with_reducible refine Below.alloc ?_ ?_ _) | (with_reducible refine below_drewN ?_ _) | (with_reducible refine Below.drew ?_) | (with_reducible refine Below.setCell ?_ ?_ _) | (with_reducible refine Below.trans ?_ (Below.mono (by with_reducible assumption) ?_)) | go_size))); obtain ⟨kc9, kf9, s9⟩ := bfacts hb9; obtain ⟨kd9, kg9, _⟩ := bfacts hB9; go_simp; try rfl)
        case hQ => exact fun _ _ _ h => h
        (try simp only [Act.put, List.setIfInBounds_toArray, List.set_cons_zero, List.set_cons_succ])
        apply trail_light
        case hi => (simp only [List.getElem?_toArray, List.getElem?_cons_zero, List.getElem?_cons_succ]; exact rfl)
        case hl => first | exact light_no (by rfl) | (apply light_plain rfl; intro w9 _; go_simp; try rfl) | (apply light_yes (by rfl); intro w9 _; go_simp; try rfl)
        case hQ => exact fun _ _ _ h => h
        (try simp only [Act.put, List.setIfInBounds_toArray, List.set_cons_zero, List.set_cons_succ])
        apply trail_light
        case hi => (simp only [List.getElem?_toArray, List.getElem?_cons_zero, List.getElem?_cons_succ]; exact rfl)
        case hl => first | exact light_no (by rfl) | (apply light_plain rfl; intro w9 hb9; have hB9 : Below wc.heap.size wc w9 := (by (repeat' (first | (with_reducible exact Below.refl _ _) | (with_reducible assumption) | (with_reducible refine Below.alloc ?_ ?_ _) | (with_reducible refine below_drewN ?_ _) | (with_reducible refine Below.drew ?_) | (with_reducible refine Below.setCell ?_ ?_ _) | (with_reducible refine Below.trans ?_ (Below.mono (by with_reducible assumption) ?_)) | go_size))); exact exec_load rfl rfl (by first | exact ldf w9 hB9 | exact ldt w9 hB9 | exact ldg w9 hB9 | exact ldi w9 hB9 | exact ldh w9 hB9)) | (apply light_yes (by rfl); intro w9 hb9; have hB9 : Below wc.heap.size wc w9 := (by (repeat' (first | (with_reducible exact Below.refl _ _) | (with_reducible assumption) | (with_reducible refine Below.alloc ?_ ?_ _) | (with_reducible refine below_drewN ?_ _) | (with_reducible refine Below.drew ?_) | (with_reducible refine Below.setCell ?_ ?_ _) | (with_reducible refine Below.trans ?_ (Below.mono (by with_reducible assumption) ?_)) | go_size))); exact exec_load rfl rfl (by first | exact ldf w9 hB9 | exact ldt w9 hB9 | exact ldg w9 hB9 | exact ldi w9 hB9 | exact ldh w9 hB9)) | (apply light_plain rfl; intro w9 hb9; have hB9 : Below wc.heap.size wc w9 := (by (repeat' (first | (with_reducible exact Below.refl _ _) | (with_reducible assumption) | (with_reducible refine Below.alloc ?_ ?_ _) | (with_reducible refine below_drewN ?_ _) | (with_reducible refine Below.drew ?_) | (with_reducible refine Below.setCell ?_ ?_ _) | (with_reducible refine Below.trans ?_ (Below.mono (by with_reducible assumption) ?_)) | go_size))); obtain ⟨kc9, kf9, s9⟩ := bfacts hb9; obtain ⟨kd9, kg9, _⟩ := bfacts hB9; go_simp; try rfl) | (apply light_yes (by rfl); intro w9 hb9; have hB9 : Below wc.heap.size wc w9 := (by (repeat' (first | (with_reducible exact Below.refl _ _) | (with_reducible assumption) | (with_reducible refine Below.alloc ?_ ?_ _) | (with_reducible refine below_drewN ?_ _) | (with_reducible refine Below.drew ?_) | (with_reducible refine Below.setCell ?_ ?_ _) | (with_reducible refine Below.trans ?_ (Below.mono (by with_reducible assumption) ?_)) | go_size))); obtain ⟨kc9, kf9, s9⟩ := bfacts hb9; obtain ⟨kd9, kg9, _⟩ := bfacts hB9; go_simp; try rfl)
        case hQ => exact fun _ _ _ h => h
        (try simp only [Act.put, List.setIfInBounds_toArray, List.set_cons_zero, List.set_cons_succ])
        apply trail_light
        case hi => (simp only [List.getElem?_toArray, List.getElem?_cons_zero, List.getElem?_cons_succ]; exact rfl)
        case hl => first | exact light_no (by rfl) | (apply light_plain rfl; intro w9 hb9; have hB9 : Below wc.heap.size wc w9 := (by (repeat' (first | (with_reducible exact Below.refl _ _) | (with_reducible assumption) | (with_reducible refine Below.alloc ?_ ?_ _) | (with_reducible refine below_drewN ?_ _) | (with_reducible refine Below.drew ?_) | (with_reducible refine Below.setCell ?_ ?_ _) | (with_reducible refine Below.trans ?_ (Below.mono (by with_reducible assumption) ?_)) | go_size))); exact exec_load rfl rfl (by first | exact ldf w9 hB9 | exact ldt w9 hB9 | exact ldg w9 hB9 | exact ldi w9 hB9 | exact ldh w9 hB9)) | (apply light_yes (by rfl); intro w9 hb9; have hB9 : Below wc.heap.size wc w9 := (by (repeat' (first | (with_reducible exact Below.refl _ _) | (with_reducible assumption) | (with_reducible refine Below.alloc ?_ ?_ _) | (with_reducible refine below_drewN ?_ _) | (with_reducible refine Below.drew ?_) | (with_reducible refine Below.setCell ?_ ?_ _) | (with_reducible refine Below.trans ?_ (Below.mono (by with_reducible assumption) ?_)) | go_size))); exact exec_load rfl rfl (by first | exact ldf w9 hB9 | exact ldt w9 hB9 | exact ldg w9 hB9 | exact ldi w9 hB9 | exact ldh w9 hB9)) | (apply light_plain rfl; intro w9 hb9; have hB9 : Below wc.heap.size wc w9 := (by (repeat' (first | (with_reducible exact Below.refl _ _) | (with_reducible assumption) | (with_reducible refine Below.alloc ?_ ?_ _) | (with_reducible refine below_drewN ?_ _) | (with_reducible refine Below.drew ?_) | (with_reducible refine Below.setCell ?_ ?_ _) | (with_reducible refine Below.trans ?_ (Below.mono (by with_reducible assumption) ?_)) | go_size))); obtain ⟨kc9, kf9, s9⟩ := bfacts hb9; obtain ⟨kd9, kg9, _⟩ := bfacts hB9; go_simp; try rfl) | (apply light_yes (by rfl); intro w9 hb9; have hB9 : Below wc.heap.size wc w9 := (by (repeat' (first | (with_reducible exact Below.refl _ _) | (with_reducible assumption) | (with_reducible refine Below.alloc ?_ ?_ _) | (with_reducible refine below_drewN ?_ _) | (with_reducible refine Below.drew ?_) | (with_reducible refine Below.setCell ?_ ?_ _) | (with_reducible refine Below.trans ?_ (Below.mono (by with_reducible assumption) ?_)) | go_size))); obtain ⟨kc9, kf9, s9⟩ := bfacts hb9; obtain ⟨kd9, kg9, _⟩ := bfacts hB9; go_simp; try rfl)
        case hQ => exact fun _ _ _ h => h
        (try simp only [Act.put, List.setIfInBounds_toArray, List.set_cons_zero, List.set_cons_succ])
        apply trail_heavy
        case hi => (simp only [List.getElem?_toArray, List.getElem?_cons_zero, List.getElem?_cons_succ]; exact rfl)
        go_wp2_with (fail)
        refine ⟨by (repeat' (first | (with_reducible exact Below.refl _ _) | (with_reducible assumption) | (with_reducible refine Below.alloc ?_ ?_ _) | (with_reducible refine below_drewN ?_ _) | (with_reducible refine Below.drew ?_) | (with_reducible refine Below.setCell ?_ ?_ _) | (with_reducible refine Below.trans ?_ (Below.mono (by with_reducible assumption) ?_)) | go_size)), ?_⟩
        apply trail_light
        case hi => (simp only [List.getElem?_toArray, List.getElem?_cons_zero, List.getElem?_cons_succ]; exact rfl)
        case hl => first | exact light_no (by rfl) | (apply light_plain rfl; intro w9 _; go_simp; try rfl) | (apply light_yes (by rfl); intro w9 _; go_simp; try rfl)
        case hQ => exact fun _ _ _ h => h
        (try simp only [Act.put, List.setIfInBounds_toArray, List.set_cons_zero, List.set_cons_succ])
        apply trail_heavy
        case hi => (simp only [List.getElem?_toArray, List.getElem?_cons_zero, List.getElem?_cons_succ]; exact rfl)
        go_wp2_with (fail)
        refine ⟨by (repeat' (first | (with_reducible exact Below.refl _ _) | (with_reducible assumption) | (with_reducible refine Below.alloc ?_ ?_ _) | (with_reducible refine below_drewN ?_ _) | (with_reducible refine Below.drew ?_) | (with_reducible refine Below.setCell ?_ ?_ _) | (with_reducible refine Below.trans ?_ (Below.mono (by with_reducible assumption) ?_)) | go_size)), ?_⟩
        apply trail_light
        case hi => (simp only [List.getElem?_toArray, List.getElem?_cons_zero, List.getElem?_cons_succ]; exact rfl)
        case hl => first | exact light_no (by rfl) | (apply light_plain rfl; intro w9 _; go_simp; try rfl) | (apply light_yes (by rfl); intro w9 _; go_simp; try rfl)
        case hQ => exact fun _ _ _ h => h
        (try simp only [Act.put, List.setIfInBounds_toArray, List.set_cons_zero, List.set_cons_succ])
        apply trail_light
        case hi => (simp only [List.getElem?_toArray, List.getElem?_cons_zero, List.getElem?_cons_succ]; exact rfl)
        case hl => first | exact light_no (by rfl) | (apply light_plain rfl; intro w9 _; go_simp; try rfl) | (apply light_yes (by rfl); intro w9 _; go_simp; try rfl)
        case hQ => exact fun _ _ _ h => h
        (try simp only [Act.put, List.setIfInBounds_toArray, List.set_cons_zero, List.set_cons_succ])
        refine trail_nil ?_
        (try dsimp only)
        go_wp2_with fail
        go_ret
        exact ⟨rfl, by (repeat' (first | (with_reducible exact Below.refl _ _) | (with_reducible assumption) | (with_reducible refine Below.alloc ?_ ?_ _) | (with_reducible refine below_drewN ?_ _) | (with_reducible refine Below.drew ?_) | (with_reducible refine Below.setCell ?_ ?_ _) | (with_reducible refine Below.trans ?_ (Below.mono (by with_reducible assumption) ?_)) | go_size))⟩
      case pos => as_aux_lemma =>
      have HRR := Lib.hid (HRT.out he)
      have g1 : (er != 0) = false := by rw [he]; rfl
      clear he HRT
      by_cases hp : (g.words.length : Int) = f.params
      case neg => as_aux_lemma =>
        have g2 : ((g.words.length : Int) != f.params) = true := bne_iff_ne.2 hp
        clear hp
        refine wp_region_trail (fun w' => Below ((wc).heap.size) (wc) w') [(0, true), (1, true), (2, true), (3, true), (4, true), (5, true), (6, true), (7, true), (8, true), (9, true), (10, true), (11, true), (12, true), (14, true), (15, true), (17, true), (13, false), (16, true), (18, false), (19, true), (20, true)] (by kernel_rfl) (by kernel_rfl) (by kernel_rfl) (by decide) (by (repeat' (first | (with_reducible exact Below.refl _ _) | (with_reducible assumption) | (with_reducible refine Below.alloc ?_ ?_ _) | (with_reducible refine below_drewN ?_ _) | (with_reducible refine Below.drew ?_) | (with_reducible refine Below.setCell ?_ ?_ _) | (with_reducible refine Below.trans ?_ (Below.mono (by with_reducible assumption) ?_)) | go_size))) ?_
        apply trail_light
        case hi => (simp only [List.getElem?_toArray, List.getElem?_cons_zero, List.getElem?_cons_succ]; exact rfl)
        case hl => first | exact light_no (by rfl) | (apply light_plain rfl; intro w9 _; go_simp; try rfl) | (apply light_yes (by rfl); intro w9 _; go_simp; try rfl)
        case hQ => exact fun _ _ _ h => h
        (try simp only [Act.put, List.setIfInBounds_toArray, List.set_cons_zero, List.set_cons_succ])
        apply trail_light
        case hi => (simp only [List.getElem?_toArray, List.getElem?_cons_zero, List.getElem?_cons_succ]; exact rfl)
        case hl => first | exact light_no (by rfl) | (apply light_plain rfl; intro w9 _; go_simp; try rfl) | (apply light_yes (by rfl); intro w9 _; go_simp; try rfl)
        case hQ => exact fun _ _ _ h => h
        (try simp only [Act.put, List.setIfInBounds_toArray, List.set_cons_zero, List.set_cons_succ])
        apply trail_light
        case hi => (simp only [List.getElem?_toArray, List.getElem?_cons_zero, List.getElem?_cons_succ]; exact rfl)
        case hl => first | exact light_no (by rfl) | (apply light_plain rfl; intro w9 _; go_simp; try rfl) | (apply light_yes (by rfl); intro w9 _; go_simp; try rfl)
        case hQ => exact fun _ _ _ h => h
        (try simp only [Act.put, List.setIfInBounds_toArray, List.set_cons_zero, List.set_cons_succ])
        apply trail_light
        case hi => (simp only [List.getElem?_toArray, List.getElem?_cons_zero, List.getElem?_cons_succ]; exact rfl)
        case hl => first | exact light_no (by rfl) | (apply light_plain rfl; intro w9 _; go_simp; try rfl) | (apply light_yes (by rfl); intro w9 _; go_simp; try rfl)
        case hQ => exact fun _ _ _ h => h
        (try simp only [Act.put, List.setIfInBounds_toArray, List.set_cons_zero, List.set_cons_succ])
        apply trail_light
        case hi => (simp only [List.getElem?_toArray, List.getElem?_cons_zero, List.getElem?_cons_succ]; exact rfl)
        case hl => first | exact light_no (by rfl) | (apply light_plain rfl; intro w9 hb9; have hB9 : Below wc.heap.size wc w9 := (by (repeat' (first | (with_reducible exact Below.refl _ _) | (with_reducible assumption) | (with_reducible refine Below.alloc ?_ ?_ _) | (with_reducible refine below_drewN ?_ _) | (with_reducible refine Below.drew ?_) | (with_reducible refine Below.setCell ?_ ?_ _) | (with_reducible refine Below.trans ?_ (Below.mono (by with_reducible assumption) ?_)) | go_size))); exact exec_load rfl rfl (by first | exact ldf w9 hB9 | exact ldt w9 hB9 | exact ldg w9 hB9 | exact ldi w9 hB9 | exact ldh w9 hB9)) | (apply light_yes (by rfl); intro w9 hb9; have hB9 : Below wc.heap.size wc w9 := (by (repeat' (first | (with_reducible exact Below.refl _ _) | (with_reducible assumption) | (with_reducible refine Below.alloc ?_ ?_ _) | (with_reducible refine below_drewN ?_ _) | (with_reducible refine Below.drew ?_) | (with_reducible refine Below.setCell ?_ ?_ _) | (with_reducible refine Below.trans ?_ (Below.mono (by with_reducible assumption) ?_)) | go_size))); exact exec_load rfl rfl (by first | exact ldf w9 hB9 | exact ldt w9 hB9 | exact ldg w9 hB9 | exact ldi w9 hB9 | exact ldh w9 hB9)) | (apply light_plain rfl; intro w9 hb9; have hB9 : Below wc.heap.size wc w9 := (by (repeat' (first | (with_reducible exact Below.refl _ _) | (with_reducible assumption) | (with_reducible refine Below.alloc ?_ ?_ _) | (with_reducible refine below_drewN ?_ _) | (with_reducible refine Below.drew ?_) | (with_reducible refine Below.setCell ?_ ?_ _) | (with_reducible refine Below.trans ?_ (Below.mono (by with_reducible assumption) ?_)) | go_size))); obtain ⟨kc9, kf9, s9⟩ := bfacts hb9; obtain ⟨kd9, kg9, _⟩ := bfacts hB9; go_simp; try rfl) | (apply light_yes (by rfl); intro w9 hb9; have hB9 : Below wc.heap.size wc w9 := (by (repeat' (first | (with_reducible exact Below.refl _ _) | (with_reducible assumption) | (with_reducible refine Below.alloc ?_ ?_ _) | (with_reducible refine below_drewN ?_ _) | (with_reducible refine Below.drew ?_) | (with_reducible refine Below.setCell ?_ ?_ _) | (with_reducible refine Below.trans ?_ (Below.mono (by with_reducible assumption) ?_)) | go_size))); obtain ⟨kc9, kf9, s9⟩ := bfacts hb9; obtain ⟨kd9, kg9, _⟩ := bfacts hB9; go_simp; try rfl)
        case hQ => exact fun _ _ _ h => h
        (try simp only [Act.put, List.setIfInBounds_toArray, List.set_cons_zero, List.set_cons_succ])
        apply trail_light
        case hi => (simp only [List.getElem?_toArray, List.getElem?_cons_zero, List.getElem?_cons_succ]; exact rfl)
        case hl => first | exact light_no (by rfl) | (apply light_plain rfl; intro w9 hb9; have hB9 : Below wc.heap.size wc w9 := (by (repeat' (first | (with_reducible exact Below.refl _ _) | (with_reducible assumption) | (with_reducible refine Below.alloc ?_ ?_ _) | (with_reducible refine below_drewN ?_ _) | (with_reducible refine Below.drew ?_) | (with_reducible refine Below.setCell ?_ ?_ _) | (with_reducible refine Below.trans ?_ (Below.mono (by with_reducible assumption) ?_)) | go_size))); obtain ⟨kc9, kf9, s9⟩ := bfacts hb9; obtain ⟨kd9, kg9, _⟩ := bfacts hB9; go_simp; try rfl) | (apply light_yes (by rfl); intro w9 hb9; have hB9 : Below wc.heap.size wc w9 := (by (repeat' (first | (with_reducible exact Below.refl _ _) | (with_reducible assumption) | (with_reducible refine Below.alloc ?_ ?_ _) | (with_reducible refine below_drewN ?_ _) | (with_reducible refine Below.drew ?_) | (with_reducible refine Below.setCell ?_ ?_ _) | (with_reducible refine Below.trans ?_ (Below.mono (by with_reducible assumption) ?_)) | go_size))); obtain ⟨kc9, kf9, s9⟩ := bfacts hb9; obtain ⟨kd9, kg9, _⟩ := bfacts hB9; go_simp; try rfl)
        case hQ => exact fun _ _ _ h => h
        (try simp only [Act.put, List.setIfInBounds_toArray, List.set_cons_zero, List.set_cons_succ])
        apply trail_light
        case hi => (simp only [List.getElem?_toArray, List.getElem?_cons_zero, List.getElem?_cons_succ]; exact rfl)
        case hl => first | exact light_no (by rfl) | (apply light_plain rfl; intro w9 _; go_simp; try rfl) | (apply light_yes (by rfl); intro w9 _; go_simp; try rfl)
        case hQ => exact fun _ _ _ h => h
        (try simp only [Act.put, List.setIfInBounds_toArray, List.set_cons_zero, List.set_cons_succ])
        apply trail_light
        case hi => (simp only [List.getElem?_toArray, List.getElem?_cons_zero, List.getElem?_cons_succ]; exact rfl)
        case hl => first | exact light_no (by rfl) | (apply light_plain rfl; intro w9 hb9; have hB9 : Below wc.heap.size wc w9 := (by (repeat' (first | (with_reducible exact Below.refl _ _) | (with_reducible assumption) | (with_reducible refine Below.alloc ?_ ?_ _) | (with_reducible refine below_drewN ?_ _) | (with_reducible refine Below.drew ?_) | (with_reducible refine Below.setCell ?_ ?_ _) | (with_reducible refine Below.trans ?_ (Below.mono (by with_reducible assumption) ?_)) | go_size))); exact exec_load rfl rfl (by first | exact ldf w9 hB9 | exact ldt w9 hB9 | exact ldg w9 hB9 | exact ldi w9 hB9 | exact ldh w9 hB9)) | (apply light_yes (by rfl); intro w9 hb9; have hB9 : Below wc.heap.size wc w9 := (by (repeat' (first | (with_reducible exact Below.refl _ _) | (with_reducible assumption) | (with_reducible refine Below.alloc ?_ ?_ _) | (with_reducible refine below_drewN ?_ _) | (with_reducible refine Below.drew ?_) | (with_reducible refine Below.setCell ?_ ?_ _) | (with_reducible refine Below.trans ?_ (Below.mono (by with_reducible assumption) ?_)) | go_size))); exact exec_load rfl rfl (by first | exact ldf w9 hB9 | exact ldt w9 hB9 | exact ldg w9 hB9 | exact ldi w9 hB9 | exact ldh w9 hB9)) | (apply light_plain rfl; intro w9 hb9; have hB9 : Below wc.heap.size wc w9 := (by (repeat' (first | (with_reducible exact Below.refl _ _) | (with_reducible assumption) | (with_reducible refine Below.alloc ?_ ?_ _) | (with_reducible refine below_drewN ?_ _) | (with_reducible refine Below.drew ?_) | (with_reducible refine Below.setCell ?_ ?_ _) | (with_reducible refine Below.trans ?_ (Below.mono (by with_reducible assumption) ?_)) | go_size))); obtain ⟨kc9, kf9, s9⟩ := bfacts hb9; obtain ⟨kd9, kg9, _⟩ := bfacts hB9; go_simp; try rfl) | (apply light_yes (by rfl); intro w9 hb9; have hB9 : Below wc.heap.size wc w9 := (by (repeat' (first | (with_reducible exact Below.refl _ _) | (with_reducible assumption) | (with_reducible refine Below.alloc ?_ ?_ _) | (with_reducible refine below_drewN ?_ _) | (with_reducible refine Below.drew ?_) | (with_reducible refine Below.setCell ?_ ?_ _) | (with_reducible refine Below.trans ?_ (Below.mono (by with_reducible assumption) ?_)) | go_size))); obtain ⟨kc9, kf9, s9⟩ := bfacts hb9; obtain ⟨kd9, kg9, _⟩ := bfacts hB9; go_simp; try rfl)
        case hQ => exact fun _ _ _ h => h
        (try simp only [Act.put, List.setIfInBounds_toArray, List.set_cons_zero, List.set_cons_succ])
        apply trail_light
        case hi => (simp only [List.getElem?_toArray, List.getElem?_cons_zero, List.getElem?_cons_succ]; exact rfl)
        case hl => first | exact light_no (by rfl) | (apply light_plain rfl; intro w9 _; go_simp; try rfl) | (apply light_yes (by rfl); intro w9 _; go_simp; try rfl)
        case hQ => exact fun _ _ _ h => h
        (try simp only [Act.put, List.setIfInBounds_toArray, List.set_cons_zero, List.set_cons_succ])
        apply trail_light
        case hi => (simp only [List.getElem?_toArray, List.getElem?_cons_zero, List.getElem?_cons_succ]; exact rfl)
        case hl => first | exact light_no (by rfl) | (apply light_plain rfl; intro w9 _; go_simp; try rfl) | (apply light_yes (by rfl); intro w9 _; go_simp; try rfl)
        case hQ => exact fun _ _ _ h => h
        (try simp only [Act.put, List.setIfInBounds_toArray, List.set_cons_zero, List.set_cons_succ])
        apply trail_light
        case hi => (simp only [List.getElem?_toArray, List.getElem?_cons_zero, List.getElem?_cons_succ]; exact rfl)
        case hl => first | exact light_no (by rfl) | (apply light_plain rfl; intro w9 _; go_simp; try rfl) | (apply light_yes (by rfl); intro w9 _; go_simp; try rfl)
        case hQ => exact fun _ _ _ h => h
        (try simp only [Act.put, List.setIfInBounds_toArray, List.set_cons_zero, List.set_cons_succ])
        apply trail_light
        case hi => (simp only [List.getElem?_toArray, List.getElem?_cons_zero, List.getElem?_cons_succ]; exact rfl)
        case hl => first | exact light_no (by rfl) | (apply light_plain rfl; intro w9 _; go_simp; try rfl) | (apply light_yes (by rfl); intro w9 _; go_simp; try rfl)
        case hQ => exact fun _ _ _ h => h
        (try simp only [Act.put, List.setIfInBounds_toArray, List.set_cons_zero, List.set_cons_succ])
        apply trail_light
        case hi => (simp only [List.getElem?_toArray, List.getElem?_cons_zero, List.getElem?_cons_succ]; exact rfl)
        case hl => first | exact light_no (by rfl) | (apply light_plain rfl; intro w9 hb9; have hB9 : Below wc.heap.size wc w9 := (by (repeat' (first | (with_reducible exact Below.refl _ _) | (with_reducible assumption) | (with_reducible refine Below.alloc ?_ ?_ _) | (with_reducible refine below_drewN ?_ _) | (with_reducible refine Below.drew ?_) | (with_reducible refine Below.setCell ?_ ?_ _) | (with_reducible refine Below.trans ?_ (Below.mono (by with_reducible assumption) ?_)) | go_size))); exact exec_load rfl rfl (by first | exact ldf w9 hB9 | exact ldt w9 hB9 | exact ldg w9 hB9 | exact ldi w9 hB9 | exact ldh w9 hB9)) | (apply light_yes (by rfl); intro w9 hb9; have hB9 : Below wc.heap.size wc w9 := (by (repeat' (first | (with_reducible exact Below.refl _ _) | (with_reducible assumption) | (with_reducible refine Below.alloc ?_ ?_ _) | (with_reducible refine below_drewN ?_ _) | (with_reducible refine Below.drew ?_) | (with_reducible refine Below.setCell ?_ ?_ _) | (with_reducible refine Below.trans ?_ (Below.mono (by with_reducible assumption) ?_)) | go_size))); exact exec_load rfl rfl (by first | exact ldf w9 hB9 | exact ldt w9 hB9 | exact ldg w9 hB9 | exact ldi w9 hB9 | exact ldh w9 hB9)) | (apply light_plain rfl; intro w9 hb9; have hB9 : Below wc.heap.size wc w9 := (by (repeat' (first | (with_reducible exact Below.refl _ _) | (with_reducible assumption) | (with_reducible refine Below.alloc ?_ ?_ _) | (with_reducible refine below_drewN ?_ _) | (with_reducible refine Below.drew ?_) | (with_reducible refine Below.setCell ?_ ?_ _) | (with_reducible refine Below.trans ?_ (Below.mono (by with_reducible assumption) ?_)) | go_size))); obtain ⟨kc9, kf9, s9⟩ := bfacts hb9; obtain ⟨kd9, kg9, _⟩ := bfacts hB9; go_simp; try rfl) | (apply light_yes (by rfl); intro w9 hb9; have hB9 : Below wc.heap.size wc w9 := (by (repeat' (first | (with_reducible exact Below.refl _ _) | (with_reducible assumption) | (with_reducible refine Below.alloc ?_ ?_ _) | (with_reducible refine below_drewN ?_ _) | (with_reducible refine Below.drew ?_) | (with_reducible refine Below.setCell ?_ ?_ _) | (with_reducible refine Below.trans ?_ (Below.mono (by with_reducible assumption) ?_)) | go_size))); obtain ⟨kc9, kf9, s9⟩ := bfacts hb9; obtain ⟨kd9, kg9, _⟩ := bfacts hB9; go_simp; try rfl)
        case hQ => exact fun _ _ _ h => h
        (try simp only [Act.put, List.setIfInBounds_toArray, List.set_cons_zero, List.set_cons_succ])
        apply trail_light
        case hi => (simp only [List.getElem?_toArray, List.getElem?_cons_zero, List.getElem?_cons_succ]; exact rfl)
        case hl => first | exact light_no (by rfl) | (apply light_plain rfl; intro w9 _; go_simp; try rfl) | (apply light_yes (by rfl); intro w9 _; go_simp; try rfl)
        case hQ => exact fun _ _ _ h => h
        (try simp only [Act.put, List.setIfInBounds_toArray, List.set_cons_zero, List.set_cons_succ])
        apply trail_light
        case hi => (simp only [List.getElem?_toArray, List.getElem?_cons_zero, List.getElem?_cons_succ]; exact rfl)
        case hl => first | exact light_no (by rfl) | (apply light_plain rfl; intro w9 hb9; have hB9 : Below wc.heap.size wc w9 := (by (repeat' (first | (with_reducible exact Below.refl _ _) | (with_reducible assumption) | (with_reducible refine Below.alloc ?_ ?_ _) | (with_reducible refine below_drewN ?_ _) | (with_reducible refine Below.drew ?_) | (with_reducible refine Below.setCell ?_ ?_ _) | (with_reducible refine Below.trans ?_ (Below.mono (by with_reducible assumption) ?_)) | go_size))); exact exec_load rfl rfl (by first | exact ldf w9 hB9 | exact ldt w9 hB9 | exact ldg w9 hB9 | exact ldi w9 hB9 | exact ldh w9 hB9)) | (apply light_yes (by rfl); intro w9 hb9; have hB9 : Below wc.heap.size wc w9 := (by (repeat' (first | (with_reducible exact Below.refl _ _) | (with_reducible assumption) | (with_reducible refine Below.alloc ?_ ?_ _) | (with_reducible refine below_drewN ?_ _) | (with_reducible refine Below.drew ?_) | (with_reducible refine Below.setCell ?_ ?_ _) | (with_reducible refine Below.trans ?_ (Below.mono (by with_reducible assumption) ?_)) | go_size))); exact exec_load rfl rfl (by first | exact ldf w9 hB9 | exact ldt w9 hB9 | exact ldg w9 hB9 | exact ldi w9 hB9 | exact ldh w9 hB9)) | (apply light_plain rfl; intro w9 hb9; have hB9 : Below wc.heap.size wc w9 := (by (repeat' (first | (with_reducible exact Below.refl _ _) | (with_reducible assumption) | (with_reducible refine Below.alloc ?_ ?_ _) | (with_reducible refine below_drewN ?_ _) | (with_reducible refine Below.drew ?_) | (with_reducible refine Below.setCell ?_ ?_ _) | (with_reducible refine Below.trans ?_ (Below.mono (by with_reducible assumption) ?_)) | go_size))); obtain ⟨kc9, kf9, s9⟩ := bfacts hb9; obtain ⟨kd9, kg9, _⟩ := bfacts hB9; go_simp; try rfl) | (apply light_yes (by rfl); intro w9 hb9; have hB9 : Below wc.heap.size wc w9 := (by (repeat' (first | (with_reducible exact Below.refl _ _) | (with_reducible assumption) | (with_reducible refine Below.alloc ?_ ?_ _) | (with_reducible refine below_drewN ?_ _) | (with_reducible refine Below.drew ?_) | (with_reducible refine Below.setCell ?_ ?_ _) | (with_reducible refine Below.trans ?_ (Below.mono (by with_reducible assumption) ?_)) | go_size))); obtain ⟨kc9, kf9, s9⟩ := bfacts hb9; obtain ⟨kd9, kg9, _⟩ := bfacts hB9; go_simp; try rfl)
        case hQ => exact fun _ _ _ h => h
        (try simp only [Act.put, List.setIfInBounds_toArray, List.set_cons_zero, List.set_cons_succ])
        apply trail_light
        case hi => (simp only [List.getElem?_toArray, List.getElem?_cons_zero, List.getElem?_cons_succ]; exact rfl)
        case hl => first | exact light_no (by rfl) | (apply light_plain rfl; intro w9 hb9; have hB9 : Below wc.heap.size wc w9 := (by (repeat' (first | (with_reducible exact Below.refl _ _) | (with_reducible assumption) | (with_reducible refine Below.alloc ?_ ?_ _) | (with_reducible refine below_drewN ?_ _) | (with_reducible refine Below.drew ?_) | (with_reducible refine Below.setCell ?_ ?_ _) | (with_reducible refine Below.trans ?_ (Below.mono (by with_reducible assumption) ?_)) | go_size))); exact exec_load rfl rfl (by first | exact ldf w9 hB9 | exact ldt w9 hB9 | exact ldg w9 hB9 | exact ldi w9 hB9 | exact ldh w9 hB9)) | (apply light_yes (by rfl); intro w9 hb9; have hB9 : Below wc.heap.size wc w9 := (by (repeat' (first | (with_reducible exact Below.refl _ _) | (with_reducible assumption) | (with_reducible refine Below.alloc ?_ ?_ _) | (with_reducible refine below_drewN ?_ _) | (with_reducible refine Below.drew ?_) | (with_reducible refine Below.setCell ?_ ?_ _) | (with_reducible refine Below.trans ?_ (Below.mono (by with_reducible assumption) ?_)) | go_size))); exact exec_load rfl rfl (by first | exact ldf w9 hB9 | exact ldt w9 hB9 | exact ldg w9 hB9 | exact ldi w9 hB9 | exact ldh w9 hB9)) | (apply light_plain rfl; intro w9 hb9; have hB9 : Below wc.heap.size wc w9 := (by (repeat' (first | (with_reducible exact Below.refl _ _) | (with_reducible assumption) | (with_reducible refine Below.alloc ?_ ?_ _) | (with_reducible refine below_drewN ?_ _) | (with_reducible refine Below.drew ?_) | (with_reducible refine Below.setCell ?_ ?_ _) | (with_reducible refine Below.trans ?_ (Below.mono (by with_reducible assumption) ?_)) | go_size))); obtain ⟨kc9, kf9, s9⟩ := bfacts hb9; obtain ⟨kd9, kg9, _⟩ := bfacts hB9; go_simp; try rfl) | (apply light_yes (by rfl); intro w9 hb9; have hB9 : Below wc.heap.size wc w9 := (by (repeat' (first | (with_reducible exact Below.refl _ _) | (with_reducible assumption) | (with_reducible refine Below.alloc ?_ ?_ _) | (with_reducible refine below_drewN ?_ _) | (with_reducible refine Below.drew ?_) | (with_reducible refine Below.setCell ?_ ?_ _) | (with_reducible refine Below.trans ?_ (Below.mono (by with_reducible assumption) ?_)) | go_size))); obtain ⟨kc9, kf9, s9⟩ := bfacts hb9; obtain ⟨kd9, kg9, _⟩ := bfacts hB9; go_simp; try rfl)
        case hQ => exact fun _ _ _ h => h
        (try simp only [Act.put, List.setIfInBounds_toArray, List.set_cons_zero, List.set_cons_succ])
        apply trail_heavy
        case hi => (simp only [List.getElem?_toArray, List.getElem?_cons_zero, List.getElem?_cons_succ]; exact rfl)
        go_wp2_with (fail)
        refine ⟨by (repeat' (first | (with_reducible exact Below.refl _ _) | (with_reducible assumption) | (with_reducible refine Below.alloc ?_ ?_ _) | (with_reducible refine below_drewN ?_ _) | (with_reducible refine Below.drew ?_) | (with_reducible refine Below.setCell ?_ ?_ _) | (with_reducible refine Below.trans ?_ (Below.mono (by with_reducible assumption) ?_)) | go_size)), ?_⟩
        apply trail_light
        case hi => (simp only [List.getElem?_toArray, List.getElem?_cons_zero, List.getElem?_cons_succ]; exact rfl)
        case hl => first | exact light_no (by rfl) | (apply light_plain rfl; intro w9 _; go_simp; try rfl) | (apply light_yes (by rfl); intro w9 _; go_simp; try rfl)
        case hQ => exact fun _ _ _ h => h
        (try simp only [Act.put, List.setIfInBounds_toArray, List.set_cons_zero, List.set_cons_succ])
        apply trail_heavy
        case hi => (simp only [List.getElem?_toArray, List.getElem?_cons_zero, List.getElem?_cons_succ]; exact rfl)
        go_wp2_with (fail)
        refine ⟨by (repeat' (first | (with_reducible exact Below.refl _ _) | (with_reducible assumption) | (with_reducible refine Below.alloc ?_ ?_ _) | (with_reducible refine below_drewN ?_ _) | (with_reducible refine Below.drew ?_) | (with_reducible refine Below.setCell ?_ ?_ _) | (with_reducible refine Below.trans ?_ (Below.mono (by with_reducible assumption) ?_)) | go_size)), ?_⟩
        apply trail_light
        case hi => (simp only [List.getElem?_toArray, List.getElem?_cons_zero, List.getElem?_cons_succ]; exact rfl)
        case hl => first | exact light_no (by rfl) | (apply light_plain rfl; intro w9 _; go_simp; try rfl) | (apply light_yes (by rfl); intro w9 _; go_simp; try rfl)
        case hQ => exact fun _ _ _ h => h
        (try simp only [Act.put, List.setIfInBounds_toArray, List.set_cons_zero, List.set_cons_succ])
        apply trail_light
        case hi => (simp only [List.getElem?_toArray, List.getElem?_cons_zero, List.getElem?_cons_succ]; exact rfl)
        case hl => first | exact light_no (by rfl) | (apply light_plain rfl; intro w9 _; go_simp; try rfl) | (apply light_yes (by rfl); intro w9 _; go_simp; try rfl)
        case hQ => exact fun _ _ _ h => h
        (try simp only [Act.put, List.setIfInBounds_toArray, List.set_cons_zero, List.set_cons_succ])
        refine trail_nil ?_
        (try dsimp only)
        go_wp2_with fail
        go_ret
        exact ⟨rfl, by (repeat' (first | (with_reducible exact Below.refl _ _) | (with_reducible assumption) | (with_reducible refine Below.alloc ?_ ?_ _) | (with_reducible refine below_drewN ?_ _) | (with_reducible refine Below.drew ?_) | (with_reducible refine Below.setCell ?_ ?_ _) | (with_reducible refine Below.trans ?_ (Below.mono (by with_reducible assumption) ?_)) | go_size))⟩
      case pos => as_aux_lemma =>
      have g2 : ((g.words.length : Int) != f.params) = false := by rw [hp]; simp
      have hmk := params_make hp (by have := HBG.out; omega)
      have CF : Hid (∀ (u : World) (vp : Value), Below w.heap.size w u → RVars u u.heap.size vp (List.replicate g.words.length default) → Calls Try.prog 22 #[.agg #[vp, .slice Av f.arrays.length cv, .slice none 0 0], .agg #[.slice Aw g.words.length cw, .slice Ax g.arrays.length cx]] u fun e w' => e = .returned (.int .i64 (Ev.fits g.words.length f.arrays g)) ∧ Below u.heap.size u w') := by
        intro u vp hb h1
        obtain ⟨vc, vs, va, e, h2, h3, h4⟩ := HF0.out.at_ hb (Nat.le_refl _)
        simp only [Value.agg.injEq, Array.mk.injEq, List.cons.injEq] at e
        obtain ⟨_, _, _, e, _⟩ := e
        subst e
        have h := fits_any (List.replicate g.words.length default) f.arrays g vp _ (.slice none 0 0) _ u h1 h4 ⟨_, _, _, rfl⟩ (HG0.out.at_ hb (Nat.le_refl _)) (by have := HBG.out; omega)
        rw [List.length_replicate] at h
        exact h
      have HFT := Lib.hid (fun h => Ev.fits_given (f := f) (g := g) (np := g.words.length) h)
      have HP := Lib.hid hp
      clear hp
      generalize Ev.fits g.words.length f.arrays g = ft at *
      by_cases hft : ft = 0
      case neg => as_aux_lemma =>
        have g3 : (ft != 0) = true := bne_iff_ne.2 hft
        clear hft
        refine wp_region_trail (fun w' => Below ((wc).heap.size) (wc) w') [(0, true), (1, true), (2, true), (3, true), (4, true), (5, true), (6, true), (7, true), (8, true), (9, true), (10, true), (11, true), (12, true), (14, true), (15, true), (17, true), (13, false), (16, true), (18, false), (19, true), (20, true)] (by kernel_rfl) (by kernel_rfl) (by kernel_rfl) (by decide) (by (repeat' (first | (with_reducible exact Below.refl _ _) | (with_reducible assumption) | (with_reducible refine Below.alloc ?_ ?_ _) | (with_reducible refine below_drewN ?_ _) | (with_reducible refine Below.drew ?_) | (with_reducible refine Below.setCell ?_ ?_ _) | (with_reducible refine Below.trans ?_ (Below.mono (by with_reducible assumption) ?_)) | go_size))) ?_
        apply trail_light
        case hi => (simp only [List.getElem?_toArray, List.getElem?_cons_zero, List.getElem?_cons_succ]; exact rfl)
        case hl => first | exact light_no (by rfl) | (apply light_plain rfl; intro w9 _; go_simp; try rfl) | (apply light_yes (by rfl); intro w9 _; go_simp; try rfl)
        case hQ => exact fun _ _ _ h => h
        (try simp only [Act.put, List.setIfInBounds_toArray, List.set_cons_zero, List.set_cons_succ])
        apply trail_light
        case hi => (simp only [List.getElem?_toArray, List.getElem?_cons_zero, List.getElem?_cons_succ]; exact rfl)
        case hl => first | exact light_no (by rfl) | (apply light_plain rfl; intro w9 _; go_simp; try rfl) | (apply light_yes (by rfl); intro w9 _; go_simp; try rfl)
        case hQ => exact fun _ _ _ h => h
        (try simp only [Act.put, List.setIfInBounds_toArray, List.set_cons_zero, List.set_cons_succ])
        apply trail_light
        case hi => (simp only [List.getElem?_toArray, List.getElem?_cons_zero, List.getElem?_cons_succ]; exact rfl)
        case hl => first | exact light_no (by rfl) | (apply light_plain rfl; intro w9 _; go_simp; try rfl) | (apply light_yes (by rfl); intro w9 _; go_simp; try rfl)
        case hQ => exact fun _ _ _ h => h
        (try simp only [Act.put, List.setIfInBounds_toArray, List.set_cons_zero, List.set_cons_succ])
        apply trail_light
        case hi => (simp only [List.getElem?_toArray, List.getElem?_cons_zero, List.getElem?_cons_succ]; exact rfl)
        case hl => first | exact light_no (by rfl) | (apply light_plain rfl; intro w9 _; go_simp; try rfl) | (apply light_yes (by rfl); intro w9 _; go_simp; try rfl)
        case hQ => exact fun _ _ _ h => h
        (try simp only [Act.put, List.setIfInBounds_toArray, List.set_cons_zero, List.set_cons_succ])
        apply trail_light
        case hi => (simp only [List.getElem?_toArray, List.getElem?_cons_zero, List.getElem?_cons_succ]; exact rfl)
        case hl => first | exact light_no (by rfl) | (apply light_plain rfl; intro w9 hb9; have hB9 : Below wc.heap.size wc w9 := (by (repeat' (first | (with_reducible exact Below.refl _ _) | (with_reducible assumption) | (with_reducible refine Below.alloc ?_ ?_ _) | (with_reducible refine below_drewN ?_ _) | (with_reducible refine Below.drew ?_) | (with_reducible refine Below.setCell ?_ ?_ _) | (with_reducible refine Below.trans ?_ (Below.mono (by with_reducible assumption) ?_)) | go_size))); exact exec_load rfl rfl (by first | exact ldf w9 hB9 | exact ldt w9 hB9 | exact ldg w9 hB9 | exact ldi w9 hB9 | exact ldh w9 hB9)) | (apply light_yes (by rfl); intro w9 hb9; have hB9 : Below wc.heap.size wc w9 := (by (repeat' (first | (with_reducible exact Below.refl _ _) | (with_reducible assumption) | (with_reducible refine Below.alloc ?_ ?_ _) | (with_reducible refine below_drewN ?_ _) | (with_reducible refine Below.drew ?_) | (with_reducible refine Below.setCell ?_ ?_ _) | (with_reducible refine Below.trans ?_ (Below.mono (by with_reducible assumption) ?_)) | go_size))); exact exec_load rfl rfl (by first | exact ldf w9 hB9 | exact ldt w9 hB9 | exact ldg w9 hB9 | exact ldi w9 hB9 | exact ldh w9 hB9)) | (apply light_plain rfl; intro w9 hb9; have hB9 : Below wc.heap.size wc w9 := (by (repeat' (first | (with_reducible exact Below.refl _ _) | (with_reducible assumption) | (with_reducible refine Below.alloc ?_ ?_ _) | (with_reducible refine below_drewN ?_ _) | (with_reducible refine Below.drew ?_) | (with_reducible refine Below.setCell ?_ ?_ _) | (with_reducible refine Below.trans ?_ (Below.mono (by with_reducible assumption) ?_)) | go_size))); obtain ⟨kc9, kf9, s9⟩ := bfacts hb9; obtain ⟨kd9, kg9, _⟩ := bfacts hB9; go_simp; try rfl) | (apply light_yes (by rfl); intro w9 hb9; have hB9 : Below wc.heap.size wc w9 := (by (repeat' (first | (with_reducible exact Below.refl _ _) | (with_reducible assumption) | (with_reducible refine Below.alloc ?_ ?_ _) | (with_reducible refine below_drewN ?_ _) | (with_reducible refine Below.drew ?_) | (with_reducible refine Below.setCell ?_ ?_ _) | (with_reducible refine Below.trans ?_ (Below.mono (by with_reducible assumption) ?_)) | go_size))); obtain ⟨kc9, kf9, s9⟩ := bfacts hb9; obtain ⟨kd9, kg9, _⟩ := bfacts hB9; go_simp; try rfl)
        case hQ => exact fun _ _ _ h => h
        (try simp only [Act.put, List.setIfInBounds_toArray, List.set_cons_zero, List.set_cons_succ])
        apply trail_light
        case hi => (simp only [List.getElem?_toArray, List.getElem?_cons_zero, List.getElem?_cons_succ]; exact rfl)
        case hl => first | exact light_no (by rfl) | (apply light_plain rfl; intro w9 hb9; have hB9 : Below wc.heap.size wc w9 := (by (repeat' (first | (with_reducible exact Below.refl _ _) | (with_reducible assumption) | (with_reducible refine Below.alloc ?_ ?_ _) | (with_reducible refine below_drewN ?_ _) | (with_reducible refine Below.drew ?_) | (with_reducible refine Below.setCell ?_ ?_ _) | (with_reducible refine Below.trans ?_ (Below.mono (by with_reducible assumption) ?_)) | go_size))); obtain ⟨kc9, kf9, s9⟩ := bfacts hb9; obtain ⟨kd9, kg9, _⟩ := bfacts hB9; go_simp; try rfl) | (apply light_yes (by rfl); intro w9 hb9; have hB9 : Below wc.heap.size wc w9 := (by (repeat' (first | (with_reducible exact Below.refl _ _) | (with_reducible assumption) | (with_reducible refine Below.alloc ?_ ?_ _) | (with_reducible refine below_drewN ?_ _) | (with_reducible refine Below.drew ?_) | (with_reducible refine Below.setCell ?_ ?_ _) | (with_reducible refine Below.trans ?_ (Below.mono (by with_reducible assumption) ?_)) | go_size))); obtain ⟨kc9, kf9, s9⟩ := bfacts hb9; obtain ⟨kd9, kg9, _⟩ := bfacts hB9; go_simp; try rfl)
        case hQ => exact fun _ _ _ h => h
        (try simp only [Act.put, List.setIfInBounds_toArray, List.set_cons_zero, List.set_cons_succ])
        apply trail_light
        case hi => (simp only [List.getElem?_toArray, List.getElem?_cons_zero, List.getElem?_cons_succ]; exact rfl)
        case hl => first | exact light_no (by rfl) | (apply light_plain rfl; intro w9 _; go_simp; try rfl) | (apply light_yes (by rfl); intro w9 _; go_simp; try rfl)
        case hQ => exact fun _ _ _ h => h
        (try simp only [Act.put, List.setIfInBounds_toArray, List.set_cons_zero, List.set_cons_succ])
        apply trail_light
        case hi => (simp only [List.getElem?_toArray, List.getElem?_cons_zero, List.getElem?_cons_succ]; exact rfl)
        case hl => first | exact light_no (by rfl) | (apply light_plain rfl; intro w9 hb9; have hB9 : Below wc.heap.size wc w9 := (by (repeat' (first | (with_reducible exact Below.refl _ _) | (with_reducible assumption) | (with_reducible refine Below.alloc ?_ ?_ _) | (with_reducible refine below_drewN ?_ _) | (with_reducible refine Below.drew ?_) | (with_reducible refine Below.setCell ?_ ?_ _) | (with_reducible refine Below.trans ?_ (Below.mono (by with_reducible assumption) ?_)) | go_size))); exact exec_load rfl rfl (by first | exact ldf w9 hB9 | exact ldt w9 hB9 | exact ldg w9 hB9 | exact ldi w9 hB9 | exact ldh w9 hB9)) | (apply light_yes (by rfl); intro w9 hb9; have hB9 : Below wc.heap.size wc w9 := (by (repeat' (first | (with_reducible exact Below.refl _ _) | (with_reducible assumption) | (with_reducible refine Below.alloc ?_ ?_ _) | (with_reducible refine below_drewN ?_ _) | (with_reducible refine Below.drew ?_) | (with_reducible refine Below.setCell ?_ ?_ _) | (with_reducible refine Below.trans ?_ (Below.mono (by with_reducible assumption) ?_)) | go_size))); exact exec_load rfl rfl (by first | exact ldf w9 hB9 | exact ldt w9 hB9 | exact ldg w9 hB9 | exact ldi w9 hB9 | exact ldh w9 hB9)) | (apply light_plain rfl; intro w9 hb9; have hB9 : Below wc.heap.size wc w9 := (by (repeat' (first | (with_reducible exact Below.refl _ _) | (with_reducible assumption) | (with_reducible refine Below.alloc ?_ ?_ _) | (with_reducible refine below_drewN ?_ _) | (with_reducible refine Below.drew ?_) | (with_reducible refine Below.setCell ?_ ?_ _) | (with_reducible refine Below.trans ?_ (Below.mono (by with_reducible assumption) ?_)) | go_size))); obtain ⟨kc9, kf9, s9⟩ := bfacts hb9; obtain ⟨kd9, kg9, _⟩ := bfacts hB9; go_simp; try rfl) | (apply light_yes (by rfl); intro w9 hb9; have hB9 : Below wc.heap.size wc w9 := (by (repeat' (first | (with_reducible exact Below.refl _ _) | (with_reducible assumption) | (with_reducible refine Below.alloc ?_ ?_ _) | (with_reducible refine below_drewN ?_ _) | (with_reducible refine Below.drew ?_) | (with_reducible refine Below.setCell ?_ ?_ _) | (with_reducible refine Below.trans ?_ (Below.mono (by with_reducible assumption) ?_)) | go_size))); obtain ⟨kc9, kf9, s9⟩ := bfacts hb9; obtain ⟨kd9, kg9, _⟩ := bfacts hB9; go_simp; try rfl)
        case hQ => exact fun _ _ _ h => h
        (try simp only [Act.put, List.setIfInBounds_toArray, List.set_cons_zero, List.set_cons_succ])
        apply trail_light
        case hi => (simp only [List.getElem?_toArray, List.getElem?_cons_zero, List.getElem?_cons_succ]; exact rfl)
        case hl => first | exact light_no (by rfl) | (apply light_plain rfl; intro w9 _; go_simp; try rfl) | (apply light_yes (by rfl); intro w9 _; go_simp; try rfl)
        case hQ => exact fun _ _ _ h => h
        (try simp only [Act.put, List.setIfInBounds_toArray, List.set_cons_zero, List.set_cons_succ])
        apply trail_light
        case hi => (simp only [List.getElem?_toArray, List.getElem?_cons_zero, List.getElem?_cons_succ]; exact rfl)
        case hl => first | exact light_no (by rfl) | (apply light_plain rfl; intro w9 _; go_simp; try rfl) | (apply light_yes (by rfl); intro w9 _; go_simp; try rfl)
        case hQ => exact fun _ _ _ h => h
        (try simp only [Act.put, List.setIfInBounds_toArray, List.set_cons_zero, List.set_cons_succ])
        apply trail_light
        case hi => (simp only [List.getElem?_toArray, List.getElem?_cons_zero, List.getElem?_cons_succ]; exact rfl)
        case hl => first | exact light_no (by rfl) | (apply light_plain rfl; intro w9 _; go_simp; try rfl) | (apply light_yes (by rfl); intro w9 _; go_simp; try rfl)
        case hQ => exact fun _ _ _ h => h
        (try simp only [Act.put, List.setIfInBounds_toArray, List.set_cons_zero, List.set_cons_succ])
        apply trail_light
        case hi => (simp only [List.getElem?_toArray, List.getElem?_cons_zero, List.getElem?_cons_succ]; exact rfl)
        case hl => first | exact light_no (by rfl) | (apply light_plain rfl; intro w9 _; go_simp; try rfl) | (apply light_yes (by rfl); intro w9 _; go_simp; try rfl)
        case hQ => exact fun _ _ _ h => h
        (try simp only [Act.put, List.setIfInBounds_toArray, List.set_cons_zero, List.set_cons_succ])
        apply trail_light
        case hi => (simp only [List.getElem?_toArray, List.getElem?_cons_zero, List.getElem?_cons_succ]; exact rfl)
        case hl => first | exact light_no (by rfl) | (apply light_plain rfl; intro w9 hb9; have hB9 : Below wc.heap.size wc w9 := (by (repeat' (first | (with_reducible exact Below.refl _ _) | (with_reducible assumption) | (with_reducible refine Below.alloc ?_ ?_ _) | (with_reducible refine below_drewN ?_ _) | (with_reducible refine Below.drew ?_) | (with_reducible refine Below.setCell ?_ ?_ _) | (with_reducible refine Below.trans ?_ (Below.mono (by with_reducible assumption) ?_)) | go_size))); exact exec_load rfl rfl (by first | exact ldf w9 hB9 | exact ldt w9 hB9 | exact ldg w9 hB9 | exact ldi w9 hB9 | exact ldh w9 hB9)) | (apply light_yes (by rfl); intro w9 hb9; have hB9 : Below wc.heap.size wc w9 := (by (repeat' (first | (with_reducible exact Below.refl _ _) | (with_reducible assumption) | (with_reducible refine Below.alloc ?_ ?_ _) | (with_reducible refine below_drewN ?_ _) | (with_reducible refine Below.drew ?_) | (with_reducible refine Below.setCell ?_ ?_ _) | (with_reducible refine Below.trans ?_ (Below.mono (by with_reducible assumption) ?_)) | go_size))); exact exec_load rfl rfl (by first | exact ldf w9 hB9 | exact ldt w9 hB9 | exact ldg w9 hB9 | exact ldi w9 hB9 | exact ldh w9 hB9)) | (apply light_plain rfl; intro w9 hb9; have hB9 : Below wc.heap.size wc w9 := (by (repeat' (first | (with_reducible exact Below.refl _ _) | (with_reducible assumption) | (with_reducible refine Below.alloc ?_ ?_ _) | (with_reducible refine below_drewN ?_ _) | (with_reducible refine Below.drew ?_) | (with_reducible refine Below.setCell ?_ ?_ _) | (with_reducible refine Below.trans ?_ (Below.mono (by with_reducible assumption) ?_)) | go_size))); obtain ⟨kc9, kf9, s9⟩ := bfacts hb9; obtain ⟨kd9, kg9, _⟩ := bfacts hB9; go_simp; try rfl) | (apply light_yes (by rfl); intro w9 hb9; have hB9 : Below wc.heap.size wc w9 := (by (repeat' (first | (with_reducible exact Below.refl _ _) | (with_reducible assumption) | (with_reducible refine Below.alloc ?_ ?_ _) | (with_reducible refine below_drewN ?_ _) | (with_reducible refine Below.drew ?_) | (with_reducible refine Below.setCell ?_ ?_ _) | (with_reducible refine Below.trans ?_ (Below.mono (by with_reducible assumption) ?_)) | go_size))); obtain ⟨kc9, kf9, s9⟩ := bfacts hb9; obtain ⟨kd9, kg9, _⟩ := bfacts hB9; go_simp; try rfl)
        case hQ => exact fun _ _ _ h => h
        (try simp only [Act.put, List.setIfInBounds_toArray, List.set_cons_zero, List.set_cons_succ])
        apply trail_light
        case hi => (simp only [List.getElem?_toArray, List.getElem?_cons_zero, List.getElem?_cons_succ]; exact rfl)
        case hl => first | exact light_no (by rfl) | (apply light_plain rfl; intro w9 _; go_simp; try rfl) | (apply light_yes (by rfl); intro w9 _; go_simp; try rfl)
        case hQ => exact fun _ _ _ h => h
        (try simp only [Act.put, List.setIfInBounds_toArray, List.set_cons_zero, List.set_cons_succ])
        apply trail_light
        case hi => (simp only [List.getElem?_toArray, List.getElem?_cons_zero, List.getElem?_cons_succ]; exact rfl)
        case hl => first | exact light_no (by rfl) | (apply light_plain rfl; intro w9 hb9; have hB9 : Below wc.heap.size wc w9 := (by (repeat' (first | (with_reducible exact Below.refl _ _) | (with_reducible assumption) | (with_reducible refine Below.alloc ?_ ?_ _) | (with_reducible refine below_drewN ?_ _) | (with_reducible refine Below.drew ?_) | (with_reducible refine Below.setCell ?_ ?_ _) | (with_reducible refine Below.trans ?_ (Below.mono (by with_reducible assumption) ?_)) | go_size))); exact exec_load rfl rfl (by first | exact ldf w9 hB9 | exact ldt w9 hB9 | exact ldg w9 hB9 | exact ldi w9 hB9 | exact ldh w9 hB9)) | (apply light_yes (by rfl); intro w9 hb9; have hB9 : Below wc.heap.size wc w9 := (by (repeat' (first | (with_reducible exact Below.refl _ _) | (with_reducible assumption) | (with_reducible refine Below.alloc ?_ ?_ _) | (with_reducible refine below_drewN ?_ _) | (with_reducible refine Below.drew ?_) | (with_reducible refine Below.setCell ?_ ?_ _) | (with_reducible refine Below.trans ?_ (Below.mono (by with_reducible assumption) ?_)) | go_size))); exact exec_load rfl rfl (by first | exact ldf w9 hB9 | exact ldt w9 hB9 | exact ldg w9 hB9 | exact ldi w9 hB9 | exact ldh w9 hB9)) | (apply light_plain rfl; intro w9 hb9; have hB9 : Below wc.heap.size wc w9 := (by (repeat' (first | (with_reducible exact Below.refl _ _) | (with_reducible assumption) | (with_reducible refine Below.alloc ?_ ?_ _) | (with_reducible refine below_drewN ?_ _) | (with_reducible refine Below.drew ?_) | (with_reducible refine Below.setCell ?_ ?_ _) | (with_reducible refine Below.trans ?_ (Below.mono (by with_reducible assumption) ?_)) | go_size))); obtain ⟨kc9, kf9, s9⟩ := bfacts hb9; obtain ⟨kd9, kg9, _⟩ := bfacts hB9; go_simp; try rfl) | (apply light_yes (by rfl); intro w9 hb9; have hB9 : Below wc.heap.size wc w9 := (by (repeat' (first | (with_reducible exact Below.refl _ _) | (with_reducible assumption) | (with_reducible refine Below.alloc ?_ ?_ _) | (with_reducible refine below_drewN ?_ _) | (with_reducible refine Below.drew ?_) | (with_reducible refine Below.setCell ?_ ?_ _) | (with_reducible refine Below.trans ?_ (Below.mono (by with_reducible assumption) ?_)) | go_size))); obtain ⟨kc9, kf9, s9⟩ := bfacts hb9; obtain ⟨kd9, kg9, _⟩ := bfacts hB9; go_simp; try rfl)
        case hQ => exact fun _ _ _ h => h
        (try simp only [Act.put, List.setIfInBounds_toArray, List.set_cons_zero, List.set_cons_succ])
        apply trail_light
        case hi => (simp only [List.getElem?_toArray, List.getElem?_cons_zero, List.getElem?_cons_succ]; exact rfl)
        case hl => first | exact light_no (by rfl) | (apply light_plain rfl; intro w9 hb9; have hB9 : Below wc.heap.size wc w9 := (by (repeat' (first | (with_reducible exact Below.refl _ _) | (with_reducible assumption) | (with_reducible refine Below.alloc ?_ ?_ _) | (with_reducible refine below_drewN ?_ _) | (with_reducible refine Below.drew ?_) | (with_reducible refine Below.setCell ?_ ?_ _) | (with_reducible refine Below.trans ?_ (Below.mono (by with_reducible assumption) ?_)) | go_size))); exact exec_load rfl rfl (by first | exact ldf w9 hB9 | exact ldt w9 hB9 | exact ldg w9 hB9 | exact ldi w9 hB9 | exact ldh w9 hB9)) | (apply light_yes (by rfl); intro w9 hb9; have hB9 : Below wc.heap.size wc w9 := (by (repeat' (first | (with_reducible exact Below.refl _ _) | (with_reducible assumption) | (with_reducible refine Below.alloc ?_ ?_ _) | (with_reducible refine below_drewN ?_ _) | (with_reducible refine Below.drew ?_) | (with_reducible refine Below.setCell ?_ ?_ _) | (with_reducible refine Below.trans ?_ (Below.mono (by with_reducible assumption) ?_)) | go_size))); exact exec_load rfl rfl (by first | exact ldf w9 hB9 | exact ldt w9 hB9 | exact ldg w9 hB9 | exact ldi w9 hB9 | exact ldh w9 hB9)) | (apply light_plain rfl; intro w9 hb9; have hB9 : Below wc.heap.size wc w9 := (by (repeat' (first | (with_reducible exact Below.refl _ _) | (with_reducible assumption) | (with_reducible refine Below.alloc ?_ ?_ _) | (with_reducible refine below_drewN ?_ _) | (with_reducible refine Below.drew ?_) | (with_reducible refine Below.setCell ?_ ?_ _) | (with_reducible refine Below.trans ?_ (Below.mono (by with_reducible assumption) ?_)) | go_size))); obtain ⟨kc9, kf9, s9⟩ := bfacts hb9; obtain ⟨kd9, kg9, _⟩ := bfacts hB9; go_simp; try rfl) | (apply light_yes (by rfl); intro w9 hb9; have hB9 : Below wc.heap.size wc w9 := (by (repeat' (first | (with_reducible exact Below.refl _ _) | (with_reducible assumption) | (with_reducible refine Below.alloc ?_ ?_ _) | (with_reducible refine below_drewN ?_ _) | (with_reducible refine Below.drew ?_) | (with_reducible refine Below.setCell ?_ ?_ _) | (with_reducible refine Below.trans ?_ (Below.mono (by with_reducible assumption) ?_)) | go_size))); obtain ⟨kc9, kf9, s9⟩ := bfacts hb9; obtain ⟨kd9, kg9, _⟩ := bfacts hB9; go_simp; try rfl)
        case hQ => exact fun _ _ _ h => h
        (try simp only [Act.put, List.setIfInBounds_toArray, List.set_cons_zero, List.set_cons_succ])
        apply trail_heavy
        case hi => (simp only [List.getElem?_toArray, List.getElem?_cons_zero, List.getElem?_cons_succ]; exact rfl)
        go_wp2_with (first | (go_at_call 22; refine (CF.out _ _ (by (repeat' (first | (with_reducible exact Below.refl _ _) | (with_reducible assumption) | (with_reducible refine Below.alloc ?_ ?_ _) | (with_reducible refine below_drewN ?_ _) | (with_reducible refine Below.drew ?_) | (with_reducible refine Below.setCell ?_ ?_ _) | (with_reducible refine Below.trans ?_ (Below.mono (by with_reducible assumption) ?_)) | go_size))) (params_drew l4 _)).mono ?_; rintro e w6 ⟨rfl, hb6⟩; obtain ⟨kc6, kf6, s6⟩ := bfacts hb6; (try simp only [World.size_alloc, World.size_setCell, World.size_drew, World.heap_drewN, Nat.add_one_le_iff] at s6); skip) | fail)
        refine ⟨by (repeat' (first | (with_reducible exact Below.refl _ _) | (with_reducible assumption) | (with_reducible refine Below.alloc ?_ ?_ _) | (with_reducible refine below_drewN ?_ _) | (with_reducible refine Below.drew ?_) | (with_reducible refine Below.setCell ?_ ?_ _) | (with_reducible refine Below.trans ?_ (Below.mono (by with_reducible assumption) ?_)) | go_size)), ?_⟩
        apply trail_light
        case hi => (simp only [List.getElem?_toArray, List.getElem?_cons_zero, List.getElem?_cons_succ]; exact rfl)
        case hl => first | exact light_no (by rfl) | (apply light_plain rfl; intro w9 _; go_simp; try rfl) | (apply light_yes (by rfl); intro w9 _; go_simp; try rfl)
        case hQ => exact fun _ _ _ h => h
        (try simp only [Act.put, List.setIfInBounds_toArray, List.set_cons_zero, List.set_cons_succ])
        apply trail_heavy
        case hi => (simp only [List.getElem?_toArray, List.getElem?_cons_zero, List.getElem?_cons_succ]; exact rfl)
        go_wp2_with (first | (go_at_call 22; refine (CF.out _ _ (by (repeat' (first | (with_reducible exact Below.refl _ _) | (with_reducible assumption) | (with_reducible refine Below.alloc ?_ ?_ _) | (with_reducible refine below_drewN ?_ _) | (with_reducible refine Below.drew ?_) | (with_reducible refine Below.setCell ?_ ?_ _) | (with_reducible refine Below.trans ?_ (Below.mono (by with_reducible assumption) ?_)) | go_size))) (params_drew l4 _)).mono ?_; rintro e w6 ⟨rfl, hb6⟩; obtain ⟨kc6, kf6, s6⟩ := bfacts hb6; (try simp only [World.size_alloc, World.size_setCell, World.size_drew, World.heap_drewN, Nat.add_one_le_iff] at s6); skip) | fail)
        refine ⟨by (repeat' (first | (with_reducible exact Below.refl _ _) | (with_reducible assumption) | (with_reducible refine Below.alloc ?_ ?_ _) | (with_reducible refine below_drewN ?_ _) | (with_reducible refine Below.drew ?_) | (with_reducible refine Below.setCell ?_ ?_ _) | (with_reducible refine Below.trans ?_ (Below.mono (by with_reducible assumption) ?_)) | go_size)), ?_⟩
        apply trail_light
        case hi => (simp only [List.getElem?_toArray, List.getElem?_cons_zero, List.getElem?_cons_succ]; exact rfl)
        case hl => first | exact light_no (by rfl) | (apply light_plain rfl; intro w9 _; go_simp; try rfl) | (apply light_yes (by rfl); intro w9 _; go_simp; try rfl)
        case hQ => exact fun _ _ _ h => h
        (try simp only [Act.put, List.setIfInBounds_toArray, List.set_cons_zero, List.set_cons_succ])
        apply trail_light
        case hi => (simp only [List.getElem?_toArray, List.getElem?_cons_zero, List.getElem?_cons_succ]; exact rfl)
        case hl => first | exact light_no (by rfl) | (apply light_plain rfl; intro w9 _; go_simp; try rfl) | (apply light_yes (by rfl); intro w9 _; go_simp; try rfl)
        case hQ => exact fun _ _ _ h => h
        (try simp only [Act.put, List.setIfInBounds_toArray, List.set_cons_zero, List.set_cons_succ])
        refine trail_nil ?_
        (try dsimp only)
        go_wp2_with fail
        go_ret
        exact ⟨rfl, by (repeat' (first | (with_reducible exact Below.refl _ _) | (with_reducible assumption) | (with_reducible refine Below.alloc ?_ ?_ _) | (with_reducible refine below_drewN ?_ _) | (with_reducible refine Below.drew ?_) | (with_reducible refine Below.setCell ?_ ?_ _) | (with_reducible refine Below.trans ?_ (Below.mono (by with_reducible assumption) ?_)) | go_size))⟩
      case pos => as_aux_lemma =>
      have g3 : (ft != 0) = false := by rw [hft]; rfl
      have hgv : Given f g := by
        obtain ⟨h1, h2, h3⟩ := HFT.out hft
        have hb := HBG.out
        have hb' := HBF.out
        exact ⟨HP.out, h1, h2, h3, fun a ha => by have := Ev.len_flatten ha; omega, by omega, by omega⟩
      have HGV := Lib.hid hgv
      clear hgv hft HFT
      refine wp_region_trail (fun w' => Below ((wc).heap.size) (wc) w') [(0, true), (1, true), (2, true), (3, true), (4, true), (5, true), (6, true), (7, true), (8, true), (9, true), (10, true), (11, true), (12, true), (14, true), (15, true), (17, true), (13, false), (16, true), (18, false), (19, true), (20, true)] (by kernel_rfl) (by kernel_rfl) (by kernel_rfl) (by decide) (by (repeat' (first | (with_reducible exact Below.refl _ _) | (with_reducible assumption) | (with_reducible refine Below.alloc ?_ ?_ _) | (with_reducible refine below_drewN ?_ _) | (with_reducible refine Below.drew ?_) | (with_reducible refine Below.setCell ?_ ?_ _) | (with_reducible refine Below.trans ?_ (Below.mono (by with_reducible assumption) ?_)) | go_size))) ?_
      apply trail_light
      case hi => (simp only [List.getElem?_toArray, List.getElem?_cons_zero, List.getElem?_cons_succ]; exact rfl)
      case hl => first | exact light_no (by rfl) | (apply light_plain rfl; intro w9 _; go_simp; try rfl) | (apply light_yes (by rfl); intro w9 _; go_simp; try rfl)
      case hQ => exact fun _ _ _ h => h
      (try simp only [Act.put, List.setIfInBounds_toArray, List.set_cons_zero, List.set_cons_succ])
      apply trail_light
      case hi => (simp only [List.getElem?_toArray, List.getElem?_cons_zero, List.getElem?_cons_succ]; exact rfl)
      case hl => first | exact light_no (by rfl) | (apply light_plain rfl; intro w9 _; go_simp; try rfl) | (apply light_yes (by rfl); intro w9 _; go_simp; try rfl)
      case hQ => exact fun _ _ _ h => h
      (try simp only [Act.put, List.setIfInBounds_toArray, List.set_cons_zero, List.set_cons_succ])
      apply trail_light
      case hi => (simp only [List.getElem?_toArray, List.getElem?_cons_zero, List.getElem?_cons_succ]; exact rfl)
      case hl => first | exact light_no (by rfl) | (apply light_plain rfl; intro w9 _; go_simp; try rfl) | (apply light_yes (by rfl); intro w9 _; go_simp; try rfl)
      case hQ => exact fun _ _ _ h => h
      (try simp only [Act.put, List.setIfInBounds_toArray, List.set_cons_zero, List.set_cons_succ])
      apply trail_light
      case hi => (simp only [List.getElem?_toArray, List.getElem?_cons_zero, List.getElem?_cons_succ]; exact rfl)
      case hl => first | exact light_no (by rfl) | (apply light_plain rfl; intro w9 _; go_simp; try rfl) | (apply light_yes (by rfl); intro w9 _; go_simp; try rfl)
      case hQ => exact fun _ _ _ h => h
      (try simp only [Act.put, List.setIfInBounds_toArray, List.set_cons_zero, List.set_cons_succ])
      apply trail_light
      case hi => (simp only [List.getElem?_toArray, List.getElem?_cons_zero, List.getElem?_cons_succ]; exact rfl)
      case hl => first | exact light_no (by rfl) | (apply light_plain rfl; intro w9 hb9; have hB9 : Below wc.heap.size wc w9 := (by (repeat' (first | (with_reducible exact Below.refl _ _) | (with_reducible assumption) | (with_reducible refine Below.alloc ?_ ?_ _) | (with_reducible refine below_drewN ?_ _) | (with_reducible refine Below.drew ?_) | (with_reducible refine Below.setCell ?_ ?_ _) | (with_reducible refine Below.trans ?_ (Below.mono (by with_reducible assumption) ?_)) | go_size))); exact exec_load rfl rfl (by first | exact ldf w9 hB9 | exact ldt w9 hB9 | exact ldg w9 hB9 | exact ldi w9 hB9 | exact ldh w9 hB9)) | (apply light_yes (by rfl); intro w9 hb9; have hB9 : Below wc.heap.size wc w9 := (by (repeat' (first | (with_reducible exact Below.refl _ _) | (with_reducible assumption) | (with_reducible refine Below.alloc ?_ ?_ _) | (with_reducible refine below_drewN ?_ _) | (with_reducible refine Below.drew ?_) | (with_reducible refine Below.setCell ?_ ?_ _) | (with_reducible refine Below.trans ?_ (Below.mono (by with_reducible assumption) ?_)) | go_size))); exact exec_load rfl rfl (by first | exact ldf w9 hB9 | exact ldt w9 hB9 | exact ldg w9 hB9 | exact ldi w9 hB9 | exact ldh w9 hB9)) | (apply light_plain rfl; intro w9 hb9; have hB9 : Below wc.heap.size wc w9 := (by (repeat' (first | (with_reducible exact Below.refl _ _) | (with_reducible assumption) | (with_reducible refine Below.alloc ?_ ?_ _) | (with_reducible refine below_drewN ?_ _) | (with_reducible refine Below.drew ?_) | (with_reducible refine Below.setCell ?_ ?_ _) | (with_reducible refine Below.trans ?_ (Below.mono (by with_reducible assumption) ?_)) | go_size))); obtain ⟨kc9, kf9, s9⟩ := bfacts hb9; obtain ⟨kd9, kg9, _⟩ := bfacts hB9; go_simp; try rfl) | (apply light_yes (by rfl); intro w9 hb9; have hB9 : Below wc.heap.size wc w9 := (by (repeat' (first | (with_reducible exact Below.refl _ _) | (with_reducible assumption) | (with_reducible refine Below.alloc ?_ ?_ _) | (with_reducible refine below_drewN ?_ _) | (with_reducible refine Below.drew ?_) | (with_reducible refine Below.setCell ?_ ?_ _) | (with_reducible refine Below.trans ?_ (Below.mono (by with_reducible assumption) ?_)) | go_size))); obtain ⟨kc9, kf9, s9⟩ := bfacts hb9; obtain ⟨kd9, kg9, _⟩ := bfacts hB9; go_simp; try rfl)
      case hQ => exact fun _ _ _ h => h
      (try simp only [Act.put, List.setIfInBounds_toArray, List.set_cons_zero, List.set_cons_succ])
      apply trail_light
      case hi => (simp only [List.getElem?_toArray, List.getElem?_cons_zero, List.getElem?_cons_succ]; exact rfl)
      case hl => first | exact light_no (by rfl) | (apply light_plain rfl; intro w9 hb9; have hB9 : Below wc.heap.size wc w9 := (by (repeat' (first | (with_reducible exact Below.refl _ _) | (with_reducible assumption) | (with_reducible refine Below.alloc ?_ ?_ _) | (with_reducible refine below_drewN ?_ _) | (with_reducible refine Below.drew ?_) | (with_reducible refine Below.setCell ?_ ?_ _) | (with_reducible refine Below.trans ?_ (Below.mono (by with_reducible assumption) ?_)) | go_size))); obtain ⟨kc9, kf9, s9⟩ := bfacts hb9; obtain ⟨kd9, kg9, _⟩ := bfacts hB9; go_simp; try rfl) | (apply light_yes (by rfl); intro w9 hb9; have hB9 : Below wc.heap.size wc w9 := (by (repeat' (first | (with_reducible exact Below.refl _ _) | (with_reducible assumption) | (with_reducible refine Below.alloc ?_ ?_ _) | (with_reducible refine below_drewN ?_ _) | (with_reducible refine Below.drew ?_) | (with_reducible refine Below.setCell ?_ ?_ _) | (with_reducible refine Below.trans ?_ (Below.mono (by with_reducible assumption) ?_)) | go_size))); obtain ⟨kc9, kf9, s9⟩ := bfacts hb9; obtain ⟨kd9, kg9, _⟩ := bfacts hB9; go_simp; try rfl)
      case hQ => exact fun _ _ _ h => h
      (try simp only [Act.put, List.setIfInBounds_toArray, List.set_cons_zero, List.set_cons_succ])
      apply trail_light
      case hi => (simp only [List.getElem?_toArray, List.getElem?_cons_zero, List.getElem?_cons_succ]; exact rfl)
      case hl => first | exact light_no (by rfl) | (apply light_plain rfl; intro w9 _; go_simp; try rfl) | (apply light_yes (by rfl); intro w9 _; go_simp; try rfl)
      case hQ => exact fun _ _ _ h => h
      (try simp only [Act.put, List.setIfInBounds_toArray, List.set_cons_zero, List.set_cons_succ])
      apply trail_light
      case hi => (simp only [List.getElem?_toArray, List.getElem?_cons_zero, List.getElem?_cons_succ]; exact rfl)
      case hl => first | exact light_no (by rfl) | (apply light_plain rfl; intro w9 hb9; have hB9 : Below wc.heap.size wc w9 := (by (repeat' (first | (with_reducible exact Below.refl _ _) | (with_reducible assumption) | (with_reducible refine Below.alloc ?_ ?_ _) | (with_reducible refine below_drewN ?_ _) | (with_reducible refine Below.drew ?_) | (with_reducible refine Below.setCell ?_ ?_ _) | (with_reducible refine Below.trans ?_ (Below.mono (by with_reducible assumption) ?_)) | go_size))); exact exec_load rfl rfl (by first | exact ldf w9 hB9 | exact ldt w9 hB9 | exact ldg w9 hB9 | exact ldi w9 hB9 | exact ldh w9 hB9)) | (apply light_yes (by rfl); intro w9 hb9; have hB9 : Below wc.heap.size wc w9 := (by (repeat' (first | (with_reducible exact Below.refl _ _) | (with_reducible assumption) | (with_reducible refine Below.alloc ?_ ?_ _) | (with_reducible refine below_drewN ?_ _) | (with_reducible refine Below.drew ?_) | (with_reducible refine Below.setCell ?_ ?_ _) | (with_reducible refine Below.trans ?_ (Below.mono (by with_reducible assumption) ?_)) | go_size))); exact exec_load rfl rfl (by first | exact ldf w9 hB9 | exact ldt w9 hB9 | exact ldg w9 hB9 | exact ldi w9 hB9 | exact ldh w9 hB9)) | (apply light_plain rfl; intro w9 hb9; have hB9 : Below wc.heap.size wc w9 := (by (repeat' (first | (with_reducible exact Below.refl _ _) | (with_reducible assumption) | (with_reducible refine Below.alloc ?_ ?_ _) | (with_reducible refine below_drewN ?_ _) | (with_reducible refine Below.drew ?_) | (with_reducible refine Below.setCell ?_ ?_ _) | (with_reducible refine Below.trans ?_ (Below.mono (by with_reducible assumption) ?_)) | go_size))); obtain ⟨kc9, kf9, s9⟩ := bfacts hb9; obtain ⟨kd9, kg9, _⟩ := bfacts hB9; go_simp; try rfl) | (apply light_yes (by rfl); intro w9 hb9; have hB9 : Below wc.heap.size wc w9 := (by (repeat' (first | (with_reducible exact Below.refl _ _) | (with_reducible assumption) | (with_reducible refine Below.alloc ?_ ?_ _) | (with_reducible refine below_drewN ?_ _) | (with_reducible refine Below.drew ?_) | (with_reducible refine Below.setCell ?_ ?_ _) | (with_reducible refine Below.trans ?_ (Below.mono (by with_reducible assumption) ?_)) | go_size))); obtain ⟨kc9, kf9, s9⟩ := bfacts hb9; obtain ⟨kd9, kg9, _⟩ := bfacts hB9; go_simp; try rfl)
      case hQ => exact fun _ _ _ h => h
      (try simp only [Act.put, List.setIfInBounds_toArray, List.set_cons_zero, List.set_cons_succ])
      apply trail_light
      case hi => (simp only [List.getElem?_toArray, List.getElem?_cons_zero, List.getElem?_cons_succ]; exact rfl)
      case hl => first | exact light_no (by rfl) | (apply light_plain rfl; intro w9 _; go_simp; try rfl) | (apply light_yes (by rfl); intro w9 _; go_simp; try rfl)
      case hQ => exact fun _ _ _ h => h
      (try simp only [Act.put, List.setIfInBounds_toArray, List.set_cons_zero, List.set_cons_succ])
      apply trail_light
      case hi => (simp only [List.getElem?_toArray, List.getElem?_cons_zero, List.getElem?_cons_succ]; exact rfl)
      case hl => first | exact light_no (by rfl) | (apply light_plain rfl; intro w9 _; go_simp; try rfl) | (apply light_yes (by rfl); intro w9 _; go_simp; try rfl)
      case hQ => exact fun _ _ _ h => h
      (try simp only [Act.put, List.setIfInBounds_toArray, List.set_cons_zero, List.set_cons_succ])
      apply trail_light
      case hi => (simp only [List.getElem?_toArray, List.getElem?_cons_zero, List.getElem?_cons_succ]; exact rfl)
      case hl => first | exact light_no (by rfl) | (apply light_plain rfl; intro w9 _; go_simp; try rfl) | (apply light_yes (by rfl); intro w9 _; go_simp; try rfl)
      case hQ => exact fun _ _ _ h => h
      (try simp only [Act.put, List.setIfInBounds_toArray, List.set_cons_zero, List.set_cons_succ])
      apply trail_light
      case hi => (simp only [List.getElem?_toArray, List.getElem?_cons_zero, List.getElem?_cons_succ]; exact rfl)
      case hl => first | exact light_no (by rfl) | (apply light_plain rfl; intro w9 _; go_simp; try rfl) | (apply light_yes (by rfl); intro w9 _; go_simp; try rfl)
      case hQ => exact fun _ _ _ h => h
      (try simp only [Act.put, List.setIfInBounds_toArray, List.set_cons_zero, List.set_cons_succ])
      apply trail_light
      case hi => (simp only [List.getElem?_toArray, List.getElem?_cons_zero, List.getElem?_cons_succ]; exact rfl)
      case hl => first | exact light_no (by rfl) | (apply light_plain rfl; intro w9 hb9; have hB9 : Below wc.heap.size wc w9 := (by (repeat' (first | (with_reducible exact Below.refl _ _) | (with_reducible assumption) | (with_reducible refine Below.alloc ?_ ?_ _) | (with_reducible refine below_drewN ?_ _) | (with_reducible refine Below.drew ?_) | (with_reducible refine Below.setCell ?_ ?_ _) | (with_reducible refine Below.trans ?_ (Below.mono (by with_reducible assumption) ?_)) | go_size))); exact exec_load rfl rfl (by first | exact ldf w9 hB9 | exact ldt w9 hB9 | exact ldg w9 hB9 | exact ldi w9 hB9 | exact ldh w9 hB9)) | (apply light_yes (by rfl); intro w9 hb9; have hB9 : Below wc.heap.size wc w9 := (by (repeat' (first | (with_reducible exact Below.refl _ _) | (with_reducible assumption) | (with_reducible refine Below.alloc ?_ ?_ _) | (with_reducible refine below_drewN ?_ _) | (with_reducible refine Below.drew ?_) | (with_reducible refine Below.setCell ?_ ?_ _) | (with_reducible refine Below.trans ?_ (Below.mono (by with_reducible assumption) ?_)) | go_size))); exact exec_load rfl rfl (by first | exact ldf w9 hB9 | exact ldt w9 hB9 | exact ldg w9 hB9 | exact ldi w9 hB9 | exact ldh w9 hB9)) | (apply light_plain rfl; intro w9 hb9; have hB9 : Below wc.heap.size wc w9 := (by (repeat' (first | (with_reducible exact Below.refl _ _) | (with_reducible assumption) | (with_reducible refine Below.alloc ?_ ?_ _) | (with_reducible refine below_drewN ?_ _) | (with_reducible refine Below.drew ?_) | (with_reducible refine Below.setCell ?_ ?_ _) | (with_reducible refine Below.trans ?_ (Below.mono (by with_reducible assumption) ?_)) | go_size))); obtain ⟨kc9, kf9, s9⟩ := bfacts hb9; obtain ⟨kd9, kg9, _⟩ := bfacts hB9; go_simp; try rfl) | (apply light_yes (by rfl); intro w9 hb9; have hB9 : Below wc.heap.size wc w9 := (by (repeat' (first | (with_reducible exact Below.refl _ _) | (with_reducible assumption) | (with_reducible refine Below.alloc ?_ ?_ _) | (with_reducible refine below_drewN ?_ _) | (with_reducible refine Below.drew ?_) | (with_reducible refine Below.setCell ?_ ?_ _) | (with_reducible refine Below.trans ?_ (Below.mono (by with_reducible assumption) ?_)) | go_size))); obtain ⟨kc9, kf9, s9⟩ := bfacts hb9; obtain ⟨kd9, kg9, _⟩ := bfacts hB9; go_simp; try rfl)
      case hQ => exact fun _ _ _ h => h
      (try simp only [Act.put, List.setIfInBounds_toArray, List.set_cons_zero, List.set_cons_succ])
      apply trail_light
      case hi => (simp only [List.getElem?_toArray, List.getElem?_cons_zero, List.getElem?_cons_succ]; exact rfl)
      case hl => first | exact light_no (by rfl) | (apply light_plain rfl; intro w9 _; go_simp; try rfl) | (apply light_yes (by rfl); intro w9 _; go_simp; try rfl)
      case hQ => exact fun _ _ _ h => h
      (try simp only [Act.put, List.setIfInBounds_toArray, List.set_cons_zero, List.set_cons_succ])
      apply trail_light
      case hi => (simp only [List.getElem?_toArray, List.getElem?_cons_zero, List.getElem?_cons_succ]; exact rfl)
      case hl => first | exact light_no (by rfl) | (apply light_plain rfl; intro w9 hb9; have hB9 : Below wc.heap.size wc w9 := (by (repeat' (first | (with_reducible exact Below.refl _ _) | (with_reducible assumption) | (with_reducible refine Below.alloc ?_ ?_ _) | (with_reducible refine below_drewN ?_ _) | (with_reducible refine Below.drew ?_) | (with_reducible refine Below.setCell ?_ ?_ _) | (with_reducible refine Below.trans ?_ (Below.mono (by with_reducible assumption) ?_)) | go_size))); exact exec_load rfl rfl (by first | exact ldf w9 hB9 | exact ldt w9 hB9 | exact ldg w9 hB9 | exact ldi w9 hB9 | exact ldh w9 hB9)) | (apply light_yes (by rfl); intro w9 hb9; have hB9 : Below wc.heap.size wc w9 := (by (repeat' (first | (with_reducible exact Below.refl _ _) | (with_reducible assumption) | (with_reducible refine Below.alloc ?_ ?_ _) | (with_reducible refine below_drewN ?_ _) | (with_reducible refine Below.drew ?_) | (with_reducible refine Below.setCell ?_ ?_ _) | (with_reducible refine Below.trans ?_ (Below.mono (by with_reducible assumption) ?_)) | go_size))); exact exec_load rfl rfl (by first | exact ldf w9 hB9 | exact ldt w9 hB9 | exact ldg w9 hB9 | exact ldi w9 hB9 | exact ldh w9 hB9)) | (apply light_plain rfl; intro w9 hb9; have hB9 : Below wc.heap.size wc w9 := (by (repeat' (first | (with_reducible exact Below.refl _ _) | (with_reducible assumption) | (with_reducible refine Below.alloc ?_ ?_ _) | (with_reducible refine below_drewN ?_ _) | (with_reducible refine Below.drew ?_) | (with_reducible refine Below.setCell ?_ ?_ _) | (with_reducible refine Below.trans ?_ (Below.mono (by with_reducible assumption) ?_)) | go_size))); obtain ⟨kc9, kf9, s9⟩ := bfacts hb9; obtain ⟨kd9, kg9, _⟩ := bfacts hB9; go_simp; try rfl) | (apply light_yes (by rfl); intro w9 hb9; have hB9 : Below wc.heap.size wc w9 := (by (repeat' (first | (with_reducible exact Below.refl _ _) | (with_reducible assumption) | (with_reducible refine Below.alloc ?_ ?_ _) | (with_reducible refine below_drewN ?_ _) | (with_reducible refine Below.drew ?_) | (with_reducible refine Below.setCell ?_ ?_ _) | (with_reducible refine Below.trans ?_ (Below.mono (by with_reducible assumption) ?_)) | go_size))); obtain ⟨kc9, kf9, s9⟩ := bfacts hb9; obtain ⟨kd9, kg9, _⟩ := bfacts hB9; go_simp; try rfl)
      case hQ => exact fun _ _ _ h => h
      (try simp only [Act.put, List.setIfInBounds_toArray, List.set_cons_zero, List.set_cons_succ])
      apply trail_light
      case hi => (simp only [List.getElem?_toArray, List.getElem?_cons_zero, List.getElem?_cons_succ]; exact rfl)
      case hl => first | exact light_no (by rfl) | (apply light_plain rfl; intro w9 hb9; have hB9 : Below wc.heap.size wc w9 := (by (repeat' (first | (with_reducible exact Below.refl _ _) | (with_reducible assumption) | (with_reducible refine Below.alloc ?_ ?_ _) | (with_reducible refine below_drewN ?_ _) | (with_reducible refine Below.drew ?_) | (with_reducible refine Below.setCell ?_ ?_ _) | (with_reducible refine Below.trans ?_ (Below.mono (by with_reducible assumption) ?_)) | go_size))); exact exec_load rfl rfl (by first | exact ldf w9 hB9 | exact ldt w9 hB9 | exact ldg w9 hB9 | exact ldi w9 hB9 | exact ldh w9 hB9)) | (apply light_yes (by rfl); intro w9 hb9; have hB9 : Below wc.heap.size wc w9 := (by (repeat' (first | (with_reducible exact Below.refl _ _) | (with_reducible assumption) | (with_reducible refine Below.alloc ?_ ?_ _) | (with_reducible refine below_drewN ?_ _) | (with_reducible refine Below.drew ?_) | (with_reducible refine Below.setCell ?_ ?_ _) | (with_reducible refine Below.trans ?_ (Below.mono (by with_reducible assumption) ?_)) | go_size))); exact exec_load rfl rfl (by first | exact ldf w9 hB9 | exact ldt w9 hB9 | exact ldg w9 hB9 | exact ldi w9 hB9 | exact ldh w9 hB9)) | (apply light_plain rfl; intro w9 hb9; have hB9 : Below wc.heap.size wc w9 := (by (repeat' (first | (with_reducible exact Below.refl _ _) | (with_reducible assumption) | (with_reducible refine Below.alloc ?_ ?_ _) | (with_reducible refine below_drewN ?_ _) | (with_reducible refine Below.drew ?_) | (with_reducible refine Below.setCell ?_ ?_ _) | (with_reducible refine Below.trans ?_ (Below.mono (by with_reducible assumption) ?_)) | go_size))); obtain ⟨kc9, kf9, s9⟩ := bfacts hb9; obtain ⟨kd9, kg9, _⟩ := bfacts hB9; go_simp; try rfl) | (apply light_yes (by rfl); intro w9 hb9; have hB9 : Below wc.heap.size wc w9 := (by (repeat' (first | (with_reducible exact Below.refl _ _) | (with_reducible assumption) | (with_reducible refine Below.alloc ?_ ?_ _) | (with_reducible refine below_drewN ?_ _) | (with_reducible refine Below.drew ?_) | (with_reducible refine Below.setCell ?_ ?_ _) | (with_reducible refine Below.trans ?_ (Below.mono (by with_reducible assumption) ?_)) | go_size))); obtain ⟨kc9, kf9, s9⟩ := bfacts hb9; obtain ⟨kd9, kg9, _⟩ := bfacts hB9; go_simp; try rfl)
      case hQ => exact fun _ _ _ h => h
      (try simp only [Act.put, List.setIfInBounds_toArray, List.set_cons_zero, List.set_cons_succ])
      apply trail_heavy
      case hi => (simp only [List.getElem?_toArray, List.getElem?_cons_zero, List.getElem?_cons_succ]; exact rfl)
      go_wp2_with (first | (go_at_call 22; refine (CF.out _ _ (by (repeat' (first | (with_reducible exact Below.refl _ _) | (with_reducible assumption) | (with_reducible refine Below.alloc ?_ ?_ _) | (with_reducible refine below_drewN ?_ _) | (with_reducible refine Below.drew ?_) | (with_reducible refine Below.setCell ?_ ?_ _) | (with_reducible refine Below.trans ?_ (Below.mono (by with_reducible assumption) ?_)) | go_size))) (params_drew l4 _)).mono ?_; rintro e w6 ⟨rfl, hb6⟩; obtain ⟨kc6, kf6, s6⟩ := bfacts hb6; (try simp only [World.size_alloc, World.size_setCell, World.size_drew, World.heap_drewN, Nat.add_one_le_iff] at s6); skip) | fail)
      refine ⟨by (repeat' (first | (with_reducible exact Below.refl _ _) | (with_reducible assumption) | (with_reducible refine Below.alloc ?_ ?_ _) | (with_reducible refine below_drewN ?_ _) | (with_reducible refine Below.drew ?_) | (with_reducible refine Below.setCell ?_ ?_ _) | (with_reducible refine Below.trans ?_ (Below.mono (by with_reducible assumption) ?_)) | go_size)), ?_⟩
      apply trail_light
      case hi => (simp only [List.getElem?_toArray, List.getElem?_cons_zero, List.getElem?_cons_succ]; exact rfl)
      case hl => first | exact light_no (by rfl) | (apply light_plain rfl; intro w9 _; go_simp; try rfl) | (apply light_yes (by rfl); intro w9 _; go_simp; try rfl)
      case hQ => exact fun _ _ _ h => h
      (try simp only [Act.put, List.setIfInBounds_toArray, List.set_cons_zero, List.set_cons_succ])
      apply trail_heavy
      case hi => (simp only [List.getElem?_toArray, List.getElem?_cons_zero, List.getElem?_cons_succ]; exact rfl)
      go_wp2_with (first | (go_at_call 22; refine (CF.out _ _ (by (repeat' (first | (with_reducible exact Below.refl _ _) | (with_reducible assumption) | (with_reducible refine Below.alloc ?_ ?_ _) | (with_reducible refine below_drewN ?_ _) | (with_reducible refine Below.drew ?_) | (with_reducible refine Below.setCell ?_ ?_ _) | (with_reducible refine Below.trans ?_ (Below.mono (by with_reducible assumption) ?_)) | go_size))) (params_drew l4 _)).mono ?_; rintro e w6 ⟨rfl, hb6⟩; obtain ⟨kc6, kf6, s6⟩ := bfacts hb6; (try simp only [World.size_alloc, World.size_setCell, World.size_drew, World.heap_drewN, Nat.add_one_le_iff] at s6); skip) | fail)
      refine ⟨by (repeat' (first | (with_reducible exact Below.refl _ _) | (with_reducible assumption) | (with_reducible refine Below.alloc ?_ ?_ _) | (with_reducible refine below_drewN ?_ _) | (with_reducible refine Below.drew ?_) | (with_reducible refine Below.setCell ?_ ?_ _) | (with_reducible refine Below.trans ?_ (Below.mono (by with_reducible assumption) ?_)) | go_size)), ?_⟩
      apply trail_light
      case hi => (simp only [List.getElem?_toArray, List.getElem?_cons_zero, List.getElem?_cons_succ]; exact rfl)
      case hl => first | exact light_no (by rfl) | (apply light_plain rfl; intro w9 _; go_simp; try rfl) | (apply light_yes (by rfl); intro w9 _; go_simp; try rfl)
      case hQ => exact fun _ _ _ h => h
      (try simp only [Act.put, List.setIfInBounds_toArray, List.set_cons_zero, List.set_cons_succ])
      apply trail_light
      case hi => (simp only [List.getElem?_toArray, List.getElem?_cons_zero, List.getElem?_cons_succ]; exact rfl)
      case hl => first | exact light_no (by rfl) | (apply light_plain rfl; intro w9 _; go_simp; try rfl) | (apply light_yes (by rfl); intro w9 _; go_simp; try rfl)
      case hQ => exact fun _ _ _ h => h
      (try simp only [Act.put, List.setIfInBounds_toArray, List.set_cons_zero, List.set_cons_succ])
      refine trail_nil ?_
      (try dsimp only)
      go_upto_region 19 with fail
      have bD : Below wc.heap.size wc w6 := by (repeat' (first | (with_reducible exact Below.refl _ _) | (with_reducible assumption) | (with_reducible refine Below.alloc ?_ ?_ _) | (with_reducible refine below_drewN ?_ _) | (with_reducible refine Below.drew ?_) | (with_reducible refine Below.setCell ?_ ?_ _) | (with_reducible refine Below.trans ?_ (Below.mono (by with_reducible assumption) ?_)) | go_size))
      have s6' := bD.size
      replace f0c : w6.cell? ⟨w.heap.size, 0, none⟩ = some (.slice Ac f.code.length cc) := (bD.cell (p := ⟨w.heap.size, 0, none⟩) (by omega)).trans f0c
      replace f1c : w6.cell? ⟨w.heap.size, 1, none⟩ = some (.slice As f.secret.length cs) := (bD.cell (p := ⟨w.heap.size, 1, none⟩) (by omega)).trans f1c
      replace f2c : w6.cell? ⟨w.heap.size, 2, none⟩ = some (.int .i64 f.params) := (bD.cell (p := ⟨w.heap.size, 2, none⟩) (by omega)).trans f2c
      replace f3c : w6.cell? ⟨w.heap.size, 3, none⟩ = some (.slice Av f.arrays.length cv) := (bD.cell (p := ⟨w.heap.size, 3, none⟩) (by omega)).trans f3c
      replace g0c : w6.cell? ⟨w.heap.size + 1 + 1, 0, none⟩ = some (.slice Aw g.words.length cw) := (bD.cell (p := ⟨w.heap.size + 1 + 1, 0, none⟩) (by omega)).trans g0c
      replace g1c : w6.cell? ⟨w.heap.size + 1 + 1, 1, none⟩ = some (.slice Ax g.arrays.length cx) := (bD.cell (p := ⟨w.heap.size + 1 + 1, 1, none⟩) (by omega)).trans g1c
      replace i0c : w6.cell? ⟨w.heap.size + 1 + 1 + 1, 0, none⟩ = some (.int .i64 i.op) := (bD.cell (p := ⟨w.heap.size + 1 + 1 + 1, 0, none⟩) (by omega)).trans i0c
      replace i1c : w6.cell? ⟨w.heap.size + 1 + 1 + 1, 1, none⟩ = some (.int .i64 i.d) := (bD.cell (p := ⟨w.heap.size + 1 + 1 + 1, 1, none⟩) (by omega)).trans i1c
      replace i2c : w6.cell? ⟨w.heap.size + 1 + 1 + 1, 2, none⟩ = some (.int .i64 i.a) := (bD.cell (p := ⟨w.heap.size + 1 + 1 + 1, 2, none⟩) (by omega)).trans i2c
      replace i3c : w6.cell? ⟨w.heap.size + 1 + 1 + 1, 3, none⟩ = some (.int .i64 i.b) := (bD.cell (p := ⟨w.heap.size + 1 + 1 + 1, 3, none⟩) (by omega)).trans i3c
      replace i4c : w6.cell? ⟨w.heap.size + 1 + 1 + 1, 4, none⟩ = some (.int .i64 i.c) := (bD.cell (p := ⟨w.heap.size + 1 + 1 + 1, 4, none⟩) (by omega)).trans i4c
      replace i5c : w6.cell? ⟨w.heap.size + 1 + 1 + 1, 5, none⟩ = some (.int .i64 i.imm) := (bD.cell (p := ⟨w.heap.size + 1 + 1 + 1, 5, none⟩) (by omega)).trans i5c
      replace ldf : ∀ u, Below w6.heap.size w6 u → (Go.Instr.loadAt 26 (.pointer (some ⟨w.heap.size, 0, none⟩))).run Try.prog u = .ok (.agg #[.slice Ac f.code.length cc, .slice As f.secret.length cs, .int .i64 f.params, .slice Av f.arrays.length cv]) u := fun u hu => ldf u (bD.trans (hu.mono bD.size))
      replace ldt : ∀ u, Below w6.heap.size w6 u → (Go.Instr.loadAt 29 (.pointer (some ⟨w.heap.size + 1, 0, none⟩))).run Try.prog u = .ok (.agg #[.int .i64 x0, .int .i64 x1, .int .i64 x2, .int .i64 x3, .int .i64 x4, .int .i64 x5, .int .i64 x6, .int .i64 x7, .int .i64 x8, .int .i64 x9, .int .i64 x10, .int .i64 x11, .int .i64 x12, .int .i64 x13, .int .i64 x14, .int .i64 x15, .int .i64 x16, .int .i64 x17]) u := fun u hu => ldt u (bD.trans (hu.mono bD.size))
      replace ldg : ∀ u, Below w6.heap.size w6 u → (Go.Instr.loadAt 45 (.pointer (some ⟨w.heap.size + 1 + 1, 0, none⟩))).run Try.prog u = .ok (.agg #[.slice Aw g.words.length cw, .slice Ax g.arrays.length cx]) u := fun u hu => ldg u (bD.trans (hu.mono bD.size))
      replace ldi : ∀ u, Below w6.heap.size w6 u → (Go.Instr.loadAt 39 (.pointer (some ⟨w.heap.size + 1 + 1 + 1, 0, none⟩))).run Try.prog u = .ok (.agg #[.int .i64 i.op, .int .i64 i.d, .int .i64 i.a, .int .i64 i.b, .int .i64 i.c, .int .i64 i.imm]) u := fun u hu => ldi u (bD.trans (hu.mono bD.size))
      replace z0 : w.heap.size < w6.heap.size := by omega
      replace z1 : w.heap.size + 1 < w6.heap.size := by omega
      replace z2 : w.heap.size + 1 + 1 < w6.heap.size := by omega
      replace z3 : w.heap.size + 1 + 1 + 1 < w6.heap.size := by omega
      replace rfw := Below.refl w6.heap.size w6
      have b6 : Below w.heap.size w w6 := b5.trans (bD.mono (by omega))
      clear b5 bD hb6 CF hmk g1 g2 g3 kc6 kf6
      obtain ⟨E, K, hEK⟩ : ∃ E K, Ev.run f t g = (E, K) := ⟨_, _, rfl⟩
      rw [hEK] at CR1 CR2
      clear hEK
      dsimp only at CR1 CR2
      go_upto_region 20 with (first | (refine wpList_load_box rfl 26 _ rfl rfl (ldf _ rfw) ?_) | (refine wpList_load_box rfl 29 _ rfl rfl (ldt _ rfw) ?_) | (refine wpList_load_box rfl 45 _ rfl rfl (ldg _ rfw) ?_) | (go_at_call 41; refine (CR1.out _ b6 HWT.out HRR.out HGV.out).mono ?_; rintro e w7 ⟨ve, vl1, rfl, hE1, hK1, hb7⟩; have HE1 := Lib.hid hE1; have HK1 := Lib.hid hK1; obtain ⟨va1, rfl, hq1⟩ := hE1; obtain ⟨_, _, hqs, _⟩ := hq1; obtain ⟨A1, c1', rfl, _, _⟩ := SL.form hqs; clear hK1 hqs))
      have s7 := hb7.size
      have bE : Below w6.heap.size w6 (w7.alloc (.cells #[.int .i64 E.word, .bool E.trap, .slice A1 E.arrays.length c1'] 51)) := by (repeat' (first | (with_reducible exact Below.refl _ _) | (with_reducible assumption) | (with_reducible refine Below.alloc ?_ ?_ _) | (with_reducible refine below_drewN ?_ _) | (with_reducible refine Below.drew ?_) | (with_reducible refine Below.setCell ?_ ?_ _) | (with_reducible refine Below.trans ?_ (Below.mono (by with_reducible assumption) ?_)) | go_size))
      have HE1' : Hid (REnded (w7.alloc (.cells #[.int .i64 E.word, .bool E.trap, .slice A1 E.arrays.length c1'] 51)) (.agg #[.int .i64 E.word, .bool E.trap, .slice A1 E.arrays.length c1']) E) := HE1.out.stays (by (repeat' (first | (with_reducible exact Below.refl _ _) | (with_reducible assumption) | (with_reducible refine Below.alloc ?_ ?_ _) | (with_reducible refine below_drewN ?_ _) | (with_reducible refine Below.drew ?_) | (with_reducible refine Below.setCell ?_ ?_ _) | (with_reducible refine Below.trans ?_ (Below.mono (by with_reducible assumption) ?_)) | go_size)))
      have HK1' : Hid (RLeaks (w7.alloc (.cells #[.int .i64 E.word, .bool E.trap, .slice A1 E.arrays.length c1'] 51)) vl1 K) := HK1.out.stays (by (repeat' (first | (with_reducible exact Below.refl _ _) | (with_reducible assumption) | (with_reducible refine Below.alloc ?_ ?_ _) | (with_reducible refine below_drewN ?_ _) | (with_reducible refine Below.drew ?_) | (with_reducible refine Below.setCell ?_ ?_ _) | (with_reducible refine Below.trans ?_ (Below.mono (by with_reducible assumption) ?_)) | go_size)))
      have be := World.size_alloc w7 (.cells #[.int .i64 E.word, .bool E.trap, .slice A1 E.arrays.length c1'] 51)
      have e0 : (w7.alloc (.cells #[.int .i64 E.word, .bool E.trap, .slice A1 E.arrays.length c1'] 51)).cell? ⟨w7.heap.size, 0, none⟩ = some (.int .i64 E.word) := by go_simp
      have e1 : (w7.alloc (.cells #[.int .i64 E.word, .bool E.trap, .slice A1 E.arrays.length c1'] 51)).cell? ⟨w7.heap.size, 1, none⟩ = some (.bool E.trap) := by go_simp
      have e2 : (w7.alloc (.cells #[.int .i64 E.word, .bool E.trap, .slice A1 E.arrays.length c1'] 51)).cell? ⟨w7.heap.size, 2, none⟩ = some (.slice A1 E.arrays.length c1') := by go_simp
      obtain ⟨w8, hw8⟩ : ∃ w8, (w7.alloc (.cells #[.int .i64 E.word, .bool E.trap, .slice A1 E.arrays.length c1'] 51)) = w8 := ⟨_, rfl⟩
      rw [hw8] at bE HE1' HK1' be e0 e1 e2 ⊢
      clear hw8 HE1 HK1
      have s8 := bE.size
      replace f0c : w8.cell? ⟨w.heap.size, 0, none⟩ = some (.slice Ac f.code.length cc) := (bE.cell (p := ⟨w.heap.size, 0, none⟩) (by omega)).trans f0c
      replace f1c : w8.cell? ⟨w.heap.size, 1, none⟩ = some (.slice As f.secret.length cs) := (bE.cell (p := ⟨w.heap.size, 1, none⟩) (by omega)).trans f1c
      replace f2c : w8.cell? ⟨w.heap.size, 2, none⟩ = some (.int .i64 f.params) := (bE.cell (p := ⟨w.heap.size, 2, none⟩) (by omega)).trans f2c
      replace f3c : w8.cell? ⟨w.heap.size, 3, none⟩ = some (.slice Av f.arrays.length cv) := (bE.cell (p := ⟨w.heap.size, 3, none⟩) (by omega)).trans f3c
      replace g0c : w8.cell? ⟨w.heap.size + 1 + 1, 0, none⟩ = some (.slice Aw g.words.length cw) := (bE.cell (p := ⟨w.heap.size + 1 + 1, 0, none⟩) (by omega)).trans g0c
      replace g1c : w8.cell? ⟨w.heap.size + 1 + 1, 1, none⟩ = some (.slice Ax g.arrays.length cx) := (bE.cell (p := ⟨w.heap.size + 1 + 1, 1, none⟩) (by omega)).trans g1c
      replace i0c : w8.cell? ⟨w.heap.size + 1 + 1 + 1, 0, none⟩ = some (.int .i64 i.op) := (bE.cell (p := ⟨w.heap.size + 1 + 1 + 1, 0, none⟩) (by omega)).trans i0c
      replace i1c : w8.cell? ⟨w.heap.size + 1 + 1 + 1, 1, none⟩ = some (.int .i64 i.d) := (bE.cell (p := ⟨w.heap.size + 1 + 1 + 1, 1, none⟩) (by omega)).trans i1c
      replace i2c : w8.cell? ⟨w.heap.size + 1 + 1 + 1, 2, none⟩ = some (.int .i64 i.a) := (bE.cell (p := ⟨w.heap.size + 1 + 1 + 1, 2, none⟩) (by omega)).trans i2c
      replace i3c : w8.cell? ⟨w.heap.size + 1 + 1 + 1, 3, none⟩ = some (.int .i64 i.b) := (bE.cell (p := ⟨w.heap.size + 1 + 1 + 1, 3, none⟩) (by omega)).trans i3c
      replace i4c : w8.cell? ⟨w.heap.size + 1 + 1 + 1, 4, none⟩ = some (.int .i64 i.c) := (bE.cell (p := ⟨w.heap.size + 1 + 1 + 1, 4, none⟩) (by omega)).trans i4c
      replace i5c : w8.cell? ⟨w.heap.size + 1 + 1 + 1, 5, none⟩ = some (.int .i64 i.imm) := (bE.cell (p := ⟨w.heap.size + 1 + 1 + 1, 5, none⟩) (by omega)).trans i5c
      replace ldf : ∀ u, Below w8.heap.size w8 u → (Go.Instr.loadAt 26 (.pointer (some ⟨w.heap.size, 0, none⟩))).run Try.prog u = .ok (.agg #[.slice Ac f.code.length cc, .slice As f.secret.length cs, .int .i64 f.params, .slice Av f.arrays.length cv]) u := fun u hu => ldf u (bE.trans (hu.mono bE.size))
      replace ldt : ∀ u, Below w8.heap.size w8 u → (Go.Instr.loadAt 29 (.pointer (some ⟨w.heap.size + 1, 0, none⟩))).run Try.prog u = .ok (.agg #[.int .i64 x0, .int .i64 x1, .int .i64 x2, .int .i64 x3, .int .i64 x4, .int .i64 x5, .int .i64 x6, .int .i64 x7, .int .i64 x8, .int .i64 x9, .int .i64 x10, .int .i64 x11, .int .i64 x12, .int .i64 x13, .int .i64 x14, .int .i64 x15, .int .i64 x16, .int .i64 x17]) u := fun u hu => ldt u (bE.trans (hu.mono bE.size))
      replace ldg : ∀ u, Below w8.heap.size w8 u → (Go.Instr.loadAt 45 (.pointer (some ⟨w.heap.size + 1 + 1, 0, none⟩))).run Try.prog u = .ok (.agg #[.slice Aw g.words.length cw, .slice Ax g.arrays.length cx]) u := fun u hu => ldg u (bE.trans (hu.mono bE.size))
      replace ldi : ∀ u, Below w8.heap.size w8 u → (Go.Instr.loadAt 39 (.pointer (some ⟨w.heap.size + 1 + 1 + 1, 0, none⟩))).run Try.prog u = .ok (.agg #[.int .i64 i.op, .int .i64 i.d, .int .i64 i.a, .int .i64 i.b, .int .i64 i.c, .int .i64 i.imm]) u := fun u hu => ldi u (bE.trans (hu.mono bE.size))
      replace z0 : w.heap.size < w8.heap.size := by omega
      replace z1 : w.heap.size + 1 < w8.heap.size := by omega
      replace z2 : w.heap.size + 1 + 1 < w8.heap.size := by omega
      replace z3 : w.heap.size + 1 + 1 + 1 < w8.heap.size := by omega
      replace rfw := Below.refl w8.heap.size w8
      have b8 : Below w.heap.size w w8 := b6.trans (bE.mono (by omega))
      clear b6 bE hb7
      go_upto_region 21 with (first | (refine wpList_load_box rfl 26 _ rfl rfl (ldf _ rfw) ?_) | (refine wpList_load_box rfl 29 _ rfl rfl (ldt _ rfw) ?_) | (refine wpList_load_box rfl 45 _ rfl rfl (ldg _ rfw) ?_) | (go_at_call 23; refine (CR2.out _ b8 HWT.out HRR.out HGV.out).mono ?_; rintro e w9 ⟨ve, vl2, rfl, hE2, hK2, hb9⟩; have HE2 := Lib.hid hE2; have HK2 := Lib.hid hK2; obtain ⟨va2, rfl, hq2⟩ := hE2; obtain ⟨_, _, hqs, _⟩ := hq2; obtain ⟨A2, c2', rfl, _, _⟩ := SL.form hqs; clear hK2 hqs))
      have z8 : w7.heap.size < w8.heap.size := by omega
      have s9 := hb9.size
      have bF : Below w8.heap.size w8 (w9.alloc (.cells #[.int .i64 E.word, .bool E.trap, .slice A2 E.arrays.length c2'] 51)) := by (repeat' (first | (with_reducible exact Below.refl _ _) | (with_reducible assumption) | (with_reducible refine Below.alloc ?_ ?_ _) | (with_reducible refine below_drewN ?_ _) | (with_reducible refine Below.drew ?_) | (with_reducible refine Below.setCell ?_ ?_ _) | (with_reducible refine Below.trans ?_ (Below.mono (by with_reducible assumption) ?_)) | go_size))
      have HE2' : Hid (REnded (w9.alloc (.cells #[.int .i64 E.word, .bool E.trap, .slice A2 E.arrays.length c2'] 51)) (.agg #[.int .i64 E.word, .bool E.trap, .slice A2 E.arrays.length c2']) E) := HE2.out.stays (by (repeat' (first | (with_reducible exact Below.refl _ _) | (with_reducible assumption) | (with_reducible refine Below.alloc ?_ ?_ _) | (with_reducible refine below_drewN ?_ _) | (with_reducible refine Below.drew ?_) | (with_reducible refine Below.setCell ?_ ?_ _) | (with_reducible refine Below.trans ?_ (Below.mono (by with_reducible assumption) ?_)) | go_size)))
      have HK2' : Hid (RLeaks (w9.alloc (.cells #[.int .i64 E.word, .bool E.trap, .slice A2 E.arrays.length c2'] 51)) vl2 K) := HK2.out.stays (by (repeat' (first | (with_reducible exact Below.refl _ _) | (with_reducible assumption) | (with_reducible refine Below.alloc ?_ ?_ _) | (with_reducible refine below_drewN ?_ _) | (with_reducible refine Below.drew ?_) | (with_reducible refine Below.setCell ?_ ?_ _) | (with_reducible refine Below.trans ?_ (Below.mono (by with_reducible assumption) ?_)) | go_size)))
      have bf := World.size_alloc w9 (.cells #[.int .i64 E.word, .bool E.trap, .slice A2 E.arrays.length c2'] 51)
      have d0 : (w9.alloc (.cells #[.int .i64 E.word, .bool E.trap, .slice A2 E.arrays.length c2'] 51)).cell? ⟨w9.heap.size, 0, none⟩ = some (.int .i64 E.word) := by go_simp
      have d1 : (w9.alloc (.cells #[.int .i64 E.word, .bool E.trap, .slice A2 E.arrays.length c2'] 51)).cell? ⟨w9.heap.size, 1, none⟩ = some (.bool E.trap) := by go_simp
      have d2 : (w9.alloc (.cells #[.int .i64 E.word, .bool E.trap, .slice A2 E.arrays.length c2'] 51)).cell? ⟨w9.heap.size, 2, none⟩ = some (.slice A2 E.arrays.length c2') := by go_simp
      obtain ⟨wX, hwX⟩ : ∃ wX, (w9.alloc (.cells #[.int .i64 E.word, .bool E.trap, .slice A2 E.arrays.length c2'] 51)) = wX := ⟨_, rfl⟩
      rw [hwX] at bF HE2' HK2' bf d0 d1 d2 ⊢
      clear hwX HE2 HK2
      have sX := bF.size
      have zX : w9.heap.size < wX.heap.size := by omega
      have zY : w7.heap.size < wX.heap.size := by omega
      replace e0 : wX.cell? ⟨w7.heap.size, 0, none⟩ = some (.int .i64 E.word) := (bF.cell (p := ⟨w7.heap.size, 0, none⟩) z8).trans e0
      replace e1 : wX.cell? ⟨w7.heap.size, 1, none⟩ = some (.bool E.trap) := (bF.cell (p := ⟨w7.heap.size, 1, none⟩) z8).trans e1
      replace e2 : wX.cell? ⟨w7.heap.size, 2, none⟩ = some (.slice A1 E.arrays.length c1') := (bF.cell (p := ⟨w7.heap.size, 2, none⟩) z8).trans e2
      have HE1x : Hid (REnded wX (.agg #[.int .i64 E.word, .bool E.trap, .slice A1 E.arrays.length c1']) E) := HE1'.out.stays bF
      have HK1x : Hid (RLeaks wX vl1 K) := HK1'.out.stays bF
      have bX : Below w.heap.size w wX := b8.trans (bF.mono (by omega))
      clear b8 bF hb9 HE1' HK1' be bf CR1 CR2 ldf ldt ldg ldi rfw
      (try clear f0c f1c f2c f3c g0c g1c i0c i1c i2c i3c i4c i5c)
      as_aux_lemma =>
      go_wp2_with (first | (go_at_call 24; refine (sameEnded_same E _ _ _ (HE1x.out) (HE2'.out)).mono ?_; rintro e w10 ⟨rfl, hb10⟩; obtain ⟨kc10, kf10, s10⟩ := bfacts hb10; (try simp only [World.size_alloc, World.size_setCell, World.size_drew, World.heap_drewN, Nat.add_one_le_iff] at s10); have HK1y : Hid (RLeaks w10 vl1 K) := (HK1x.out.stays hb10); have HK2y : Hid (RLeaks w10 vl2 K) := (HK2'.out.stays hb10)) | (go_at_call 42; refine (sameLeaks_same K _ _ _ HK1y.out HK2y.out).mono ?_; rintro e w11 ⟨rfl, hb11⟩; obtain ⟨kc11, kf11, s11⟩ := bfacts hb11; (try simp only [World.size_alloc, World.size_setCell, World.size_drew, World.heap_drewN, Nat.add_one_le_iff] at s11); skip))
      go_ret
      exact ⟨rfl, by (repeat' (first | (with_reducible exact Below.refl _ _) | (with_reducible assumption) | (with_reducible refine Below.alloc ?_ ?_ _) | (with_reducible refine below_drewN ?_ _) | (with_reducible refine Below.drew ?_) | (with_reducible refine Below.setCell ?_ ?_ _) | (with_reducible refine Below.trans ?_ (Below.mono (by with_reducible assumption) ?_)) | go_size))⟩
end Go.Proofs.Ytljcgcllhcdleaa
