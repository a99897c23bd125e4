import Derived.Test.YtljcgcllhcdleaaFlowBoth
import Derived.Test.YtljcgcllhcdleaaShows
import Derived.Test.YtljcgcllhcdleaaWrong
import Derived.Test.YtljcgcllhcdleaaOpenC
import Derived.Test.YtljcgcllhcdleaaRows
import Derived.JoinedCond
/- FlowEven: where no right instruction shows what is secret, by a table, all that is seen of two runs that are given the same, but for what is secret, is the same: the walk, and the law's row. For every input whose bulk is at most 1048576. -/
namespace Go.Proofs.Ytljcgcllhcdleaa
open Go.RowKit
set_option linter.unusedSimpArgs false
set_option linter.unusedVariables false
theorem boxes4 (w : World) (c0 c1 c2 c3 : Array Value) (t0 t1 t2 t3 : TypeId) :
    (∀ (j : Nat) u, c0[j]? = some u → ((((w.alloc (.cells c0 t0)).alloc (.cells c1 t1)).alloc (.cells c2 t2)).alloc (.cells c3 t3)).cell? ⟨w.heap.size, j, none⟩ = some u) ∧
    (∀ (j : Nat) u, c1[j]? = some u → ((((w.alloc (.cells c0 t0)).alloc (.cells c1 t1)).alloc (.cells c2 t2)).alloc (.cells c3 t3)).cell? ⟨w.heap.size + 1, j, none⟩ = some u) ∧
    (∀ (j : Nat) u, c2[j]? = some u → ((((w.alloc (.cells c0 t0)).alloc (.cells c1 t1)).alloc (.cells c2 t2)).alloc (.cells c3 t3)).cell? ⟨w.heap.size + 1 + 1, j, none⟩ = some u) ∧
    (∀ (j : Nat) u, c3[j]? = some u → ((((w.alloc (.cells c0 t0)).alloc (.cells c1 t1)).alloc (.cells c2 t2)).alloc (.cells c3 t3)).cell? ⟨w.heap.size + 1 + 1 + 1, j, none⟩ = some u) := by
  obtain ⟨h0, h1, h2⟩ := boxes3 w c0 c1 c2 t0 t1 t2
  have old : ∀ (v : World) (n j : Nat) u, n < v.heap.size → v.cell? ⟨n, j, none⟩ = some u → (v.alloc (.cells c3 t3)).cell? ⟨n, j, none⟩ = some u := fun v n j u hn hu =>
    (((Below.refl v.heap.size v).alloc (Nat.le_refl _) (.cells c3 t3)).cell (p := ⟨n, j, none⟩) hn).trans hu
  refine ⟨fun j u h => old _ _ _ _ (by simp <;> omega) (h0 j u h), fun j u h => old _ _ _ _ (by simp <;> omega) (h1 j u h), fun j u h => old _ _ _ _ (by simp) (h2 j u h), fun j u h => ?_⟩
  rw [World.cell?_alloc_at _ _ _ _ (by simp)]
  exact h
theorem list18x {t : List Int} (h : t.length = 18) : ∃ x0 x1 x2 x3 x4 x5 x6 x7 x8 x9 x10 x11 x12 x13 x14 x15 x16 x17, t = [x0, x1, x2, x3, x4, x5, x6, x7, x8, x9, x10, x11, x12, x13, x14, x15, x16, x17] := by
  match t, h with
  | [x0, x1, x2, x3, x4, x5, x6, x7, x8, x9, x10, x11, x12, x13, x14, x15, x16, x17], _ => exact ⟨_, _, _, _, _, _, _, _, _, _, _, _, _, _, _, _, _, _, rfl⟩
set_option maxRecDepth 16000 in
set_option maxHeartbeats 12800000 in
theorem flowEven_walk (f : Ev.Flat) (t : List Int) (g h : Ev.Given) (vf vg vh : Value) (w : World) (hf : RFlat w w.heap.size vf f) (hg : RGiven w w.heap.size vg g) (hh : RGiven w w.heap.size vh h)
    (hl : t.length = 18) (ht : ∀ x ∈ t, -9223372036854775808 ≤ x ∧ x ≤ 9223372036854775807)
    (hbf : f.code.length + f.secret.length + f.arrays.length ≤ 1048576) (hbg : g.words.length + g.arrays.length + g.arrays.flatten.length ≤ 1048576) (hbh : h.words.length + h.arrays.length + h.arrays.flatten.length ≤ 1048576) :
    Calls Try.prog 12 #[vf, tableV t, vg, vh] w fun e w' => e = .returned (.bool true) ∧ Below w.heap.size w w' := by
  have HTL := Lib.hid hl
  have HTI := Lib.hid ht
  clear ht
  have HF0 := Lib.hid hf
  have HG0 := Lib.hid hg
  have HH0 := Lib.hid hh
  obtain ⟨vc, vs, va, rfl, hc, hs, ha⟩ := hf
  obtain ⟨vw, vx, rfl, hw, hx⟩ := hg
  obtain ⟨vw', vx', rfl, hw', hx'⟩ := hh
  have HC := Lib.hid hc
  obtain ⟨Ac, cc, rfl, _, hcc⟩ := SL.form hc
  obtain ⟨As, cs, rfl, _, _⟩ := SL.form hs
  obtain ⟨Av, cv, rfl, _, _⟩ := SL.form ha
  obtain ⟨Aw, cw, rfl, _, _⟩ := SL.form hw
  obtain ⟨_, _, hxs, _⟩ := hx
  obtain ⟨Ax, cx, rfl, _, _⟩ := SL.form hxs
  obtain ⟨Bw, dw, rfl, _, _⟩ := SL.form hw'
  obtain ⟨_, _, hxs', _⟩ := hx'
  obtain ⟨Bx, dx, rfl, _, _⟩ := SL.form hxs'
  unfold maxLen at hcc
  have HBF := Lib.hid hbf
  have HBG := Lib.hid hbg
  have HBH := Lib.hid hbh
  clear hc hs ha hw hxs hw' hxs' hbf hbg hbh
  obtain ⟨er, ek, hck⟩ : ∃ er ek, Ev.check f = (er, ek) := ⟨_, _, rfl⟩
  have HRT := Lib.hid (show er = 0 → Ev.Right f from fun h0 => Ev.right_of_check (by rw [hck]; exact h0))
  have CC : Hid (∀ u : World, Below w.heap.size w u → Calls Try.prog 17 #[.agg #[.slice Ac f.code.length cc, .slice As f.secret.length cs, .int .i64 f.params, .slice Av f.arrays.length cv]] u fun e w' => e = .returned (.tuple #[.int .i64 er, .int .i64 ek]) ∧ Below u.heap.size u w') := by
    intro u hb
    have h := refCheck_any f _ u (HF0.out.at3 hb (Nat.le_refl _))
    rw [hck] at h
    exact h
  clear hck
  obtain ⟨al, hal⟩ : ∃ al, Ev.alike (Ev.parVars f f.params.toNat) f.arrays g h = al := ⟨_, rfl⟩
  have CAL : Hid (∀ u : World, Below w.heap.size w u → Ev.Right f → Calls Try.prog 44 #[.agg #[.slice Ac f.code.length cc, .slice As f.secret.length cs, .int .i64 f.params, .slice Av f.arrays.length cv], .agg #[.slice Aw g.words.length cw, .slice Ax g.arrays.length cx], .agg #[.slice Bw h.words.length dw, .slice Bx h.arrays.length dx]] u fun e w' => e = .returned (.bool al) ∧ Below u.heap.size u w') := by
    intro u hb hr
    have h1 := hr.p0
    have h2 := hr.p1
    have h := alikeLaw_any f g h f.params.toNat _ _ _ u (HF0.out.at3 hb (Nat.le_refl _)) (HG0.out.at2 hb (Nat.le_refl _)) (HH0.out.at2 hb (Nat.le_refl _)) (by omega) (by omega) (by have := HBF.out; omega) (by have := HBG.out; omega) (by have := HBH.out; omega)
    rw [hal] at h
    exact h
  have HGV : Hid (Ev.Right f → al = true → Ev.AlikeF f g h ∧ Given f g ∧ Given f h) := fun hr ht => by
    have h1 := hr.p0
    obtain ⟨a1, a2, a3⟩ := Ev.alike_f (f := f) (g := g) (h := h) (np := f.params.toNat) (by omega) (by rw [hal]; exact ht)
    exact ⟨a1, given_of (by omega) a2 (by have := HBF.out; omega) (by have := HBG.out; omega), given_of (by omega) a3 (by have := HBF.out; omega) (by have := HBH.out; omega)⟩
  clear hal
  obtain ⟨x0, x1, x2, x3, x4, x5, x6, x7, x8, x9, x10, x11, x12, x13, x14, x15, x16, x17, hT18⟩ := list18x hl
  have HTV := Lib.hid (show tableV t = .agg #[.int .i64 x0, .int .i64 x1, .int .i64 x2, .int .i64 x3, .int .i64 x4, .int .i64 x5, .int .i64 x6, .int .i64 x7, .int .i64 x8, .int .i64 x9, .int .i64 x10, .int .i64 x11, .int .i64 x12, .int .i64 x13, .int .i64 x14, .int .i64 x15, .int .i64 x16, .int .i64 x17] by rw [hT18]; rfl)
  clear hl hT18
  have CW : Hid (∀ u : World, Calls Try.prog 18 #[.agg #[.int .i64 x0, .int .i64 x1, .int .i64 x2, .int .i64 x3, .int .i64 x4, .int .i64 x5, .int .i64 x6, .int .i64 x7, .int .i64 x8, .int .i64 x9, .int .i64 x10, .int .i64 x11, .int .i64 x12, .int .i64 x13, .int .i64 x14, .int .i64 x15, .int .i64 x16, .int .i64 x17]] u fun e w' => e = .returned (.int .i64 (Ev.wrong t)) ∧ Below u.heap.size u w') := by
    intro u
    have h := refWrong_any t u HTL.out HTI.out
    rw [HTV.out] at h
    exact h
  rw [HTV.out]
  go_enter Try.func12, Try.ntmps12
  go_upto_region 1 with fail
  have hbx := boxes4 w #[.slice Ac f.code.length cc, .slice As f.secret.length cs, .int .i64 f.params, .slice Av f.arrays.length cv] #[.int .i64 x0, .int .i64 x1, .int .i64 x2, .int .i64 x3, .int .i64 x4, .int .i64 x5, .int .i64 x6, .int .i64 x7, .int .i64 x8, .int .i64 x9, .int .i64 x10, .int .i64 x11, .int .i64 x12, .int .i64 x13, .int .i64 x14, .int .i64 x15, .int .i64 x16, .int .i64 x17] #[.slice Aw g.words.length cw, .slice Ax g.arrays.length cx] #[.slice Bw h.words.length dw, .slice Bx h.arrays.length dx] 26 29 45 45
  have sA : w.heap.size + 1 + 1 + 1 + 1 ≤ ((((w.alloc (.cells #[.slice Ac f.code.length cc, .slice As f.secret.length cs, .int .i64 f.params, .slice Av f.arrays.length cv] 26)).alloc (.cells #[.int .i64 x0, .int .i64 x1, .int .i64 x2, .int .i64 x3, .int .i64 x4, .int .i64 x5, .int .i64 x6, .int .i64 x7, .int .i64 x8, .int .i64 x9, .int .i64 x10, .int .i64 x11, .int .i64 x12, .int .i64 x13, .int .i64 x14, .int .i64 x15, .int .i64 x16, .int .i64 x17] 29)).alloc (.cells #[.slice Aw g.words.length cw, .slice Ax g.arrays.length cx] 45)).alloc (.cells #[.slice Bw h.words.length dw, .slice Bx h.arrays.length dx] 45)).heap.size := by simp
  have bA : Below w.heap.size w ((((w.alloc (.cells #[.slice Ac f.code.length cc, .slice As f.secret.length cs, .int .i64 f.params, .slice Av f.arrays.length cv] 26)).alloc (.cells #[.int .i64 x0, .int .i64 x1, .int .i64 x2, .int .i64 x3, .int .i64 x4, .int .i64 x5, .int .i64 x6, .int .i64 x7, .int .i64 x8, .int .i64 x9, .int .i64 x10, .int .i64 x11, .int .i64 x12, .int .i64 x13, .int .i64 x14, .int .i64 x15, .int .i64 x16, .int .i64 x17] 29)).alloc (.cells #[.slice Aw g.words.length cw, .slice Ax g.arrays.length cx] 45)).alloc (.cells #[.slice Bw h.words.length dw, .slice Bx h.arrays.length dx] 45)) := by (repeat' (first | (with_reducible exact Below.refl _ _) | (with_reducible assumption) | (with_reducible refine Below.alloc ?_ ?_ _) | (with_reducible refine below_drewN ?_ _) | (with_reducible refine Below.drew ?_) | (with_reducible refine Below.setCell ?_ ?_ _) | (with_reducible refine Below.trans ?_ (Below.mono (by with_reducible assumption) ?_)) | go_size))
  obtain ⟨wA, hwA⟩ : ∃ wA, ((((w.alloc (.cells #[.slice Ac f.code.length cc, .slice As f.secret.length cs, .int .i64 f.params, .slice Av f.arrays.length cv] 26)).alloc (.cells #[.int .i64 x0, .int .i64 x1, .int .i64 x2, .int .i64 x3, .int .i64 x4, .int .i64 x5, .int .i64 x6, .int .i64 x7, .int .i64 x8, .int .i64 x9, .int .i64 x10, .int .i64 x11, .int .i64 x12, .int .i64 x13, .int .i64 x14, .int .i64 x15, .int .i64 x16, .int .i64 x17] 29)).alloc (.cells #[.slice Aw g.words.length cw, .slice Ax g.arrays.length cx] 45)).alloc (.cells #[.slice Bw h.words.length dw, .slice Bx h.arrays.length dx] 45)) = wA := ⟨_, rfl⟩
  rw [hwA] at sA bA hbx
  obtain ⟨hbx0, hbx1, hbx2, hbx3⟩ := hbx
  have f0c : wA.cell? ⟨w.heap.size, 0, none⟩ = some (.slice Ac f.code.length cc) := hbx0 0 _ rfl
  have z0 : w.heap.size < wA.heap.size := by omega
  have z1 : w.heap.size + 1 < wA.heap.size := by omega
  have z2 : w.heap.size + 1 + 1 < wA.heap.size := by omega
  have z3 : w.heap.size + 1 + 1 + 1 < wA.heap.size := by omega
  have ldf : ∀ u, Below wA.heap.size wA u → (Go.Instr.loadAt 26 (.pointer (some ⟨w.heap.size, 0, none⟩))).run Try.prog u = .ok (.agg #[.slice Ac f.code.length cc, .slice As f.secret.length cs, .int .i64 f.params, .slice Av f.arrays.length cv]) u := fun u hu => load_box Try.underlying26 (by kernel_rfl) rfl (by kernel_rfl) hbx0 z0 hu
  have ldt : ∀ u, Below wA.heap.size wA u → (Go.Instr.loadAt 29 (.pointer (some ⟨w.heap.size + 1, 0, none⟩))).run Try.prog u = .ok (.agg #[.int .i64 x0, .int .i64 x1, .int .i64 x2, .int .i64 x3, .int .i64 x4, .int .i64 x5, .int .i64 x6, .int .i64 x7, .int .i64 x8, .int .i64 x9, .int .i64 x10, .int .i64 x11, .int .i64 x12, .int .i64 x13, .int .i64 x14, .int .i64 x15, .int .i64 x16, .int .i64 x17]) u := fun u hu => load_box Try.underlying29 (by kernel_rfl) rfl (by kernel_rfl) hbx1 z1 hu
  have ldg : ∀ u, Below wA.heap.size wA u → (Go.Instr.loadAt 45 (.pointer (some ⟨w.heap.size + 1 + 1, 0, none⟩))).run Try.prog u = .ok (.agg #[.slice Aw g.words.length cw, .slice Ax g.arrays.length cx]) u := fun u hu => load_box Try.underlying45 (by kernel_rfl) rfl (by kernel_rfl) hbx2 z2 hu
  have ldh : ∀ u, Below wA.heap.size wA u → (Go.Instr.loadAt 45 (.pointer (some ⟨w.heap.size + 1 + 1 + 1, 0, none⟩))).run Try.prog u = .ok (.agg #[.slice Bw h.words.length dw, .slice Bx h.arrays.length dx]) u := fun u hu => load_box Try.underlying45 (by kernel_rfl) rfl (by kernel_rfl) hbx3 z3 hu
  have rfw := Below.refl wA.heap.size wA
  clear hbx0 hbx1 hbx2 hbx3
  (try rw [hwA])
  clear hwA
  go_upto_region 3 with (go_at_call 43; refine (alive_any _).mono ?_; rintro e w1 ⟨rfl, hb1⟩)
  replace f0c : w1.cell? ⟨w.heap.size, 0, none⟩ = some (.slice Ac f.code.length cc) := (hb1.cell (p := ⟨w.heap.size, 0, none⟩) (show w.heap.size < wA.heap.size by omega)).trans f0c
  replace ldf : ∀ u, Below w1.heap.size w1 u → (Go.Instr.loadAt 26 (.pointer (some ⟨w.heap.size, 0, none⟩))).run Try.prog u = .ok (.agg #[.slice Ac f.code.length cc, .slice As f.secret.length cs, .int .i64 f.params, .slice Av f.arrays.length cv]) u := fun u hu => ldf u (hb1.trans (hu.mono hb1.size))
  replace ldt : ∀ u, Below w1.heap.size w1 u → (Go.Instr.loadAt 29 (.pointer (some ⟨w.heap.size + 1, 0, none⟩))).run Try.prog u = .ok (.agg #[.int .i64 x0, .int .i64 x1, .int .i64 x2, .int .i64 x3, .int .i64 x4, .int .i64 x5, .int .i64 x6, .int .i64 x7, .int .i64 x8, .int .i64 x9, .int .i64 x10, .int .i64 x11, .int .i64 x12, .int .i64 x13, .int .i64 x14, .int .i64 x15, .int .i64 x16, .int .i64 x17]) u := fun u hu => ldt u (hb1.trans (hu.mono hb1.size))
  replace ldg : ∀ u, Below w1.heap.size w1 u → (Go.Instr.loadAt 45 (.pointer (some ⟨w.heap.size + 1 + 1, 0, none⟩))).run Try.prog u = .ok (.agg #[.slice Aw g.words.length cw, .slice Ax g.arrays.length cx]) u := fun u hu => ldg u (hb1.trans (hu.mono hb1.size))
  replace ldh : ∀ u, Below w1.heap.size w1 u → (Go.Instr.loadAt 45 (.pointer (some ⟨w.heap.size + 1 + 1 + 1, 0, none⟩))).run Try.prog u = .ok (.agg #[.slice Bw h.words.length dw, .slice Bx h.arrays.length dx]) u := fun u hu => ldh u (hb1.trans (hu.mono hb1.size))
  replace z0 : w.heap.size < w1.heap.size := by have := hb1.size; omega
  replace z1 : w.heap.size + 1 < w1.heap.size := by have := hb1.size; omega
  replace z2 : w.heap.size + 1 + 1 < w1.heap.size := by have := hb1.size; omega
  replace z3 : w.heap.size + 1 + 1 + 1 < w1.heap.size := by have := hb1.size; omega
  replace rfw := Below.refl w1.heap.size w1
  have b1 : Below w.heap.size w w1 := bA.trans (hb1.mono (by omega))
  clear bA hb1 sA
  go_upto_region 4 with (first | (refine wpList_load_box rfl 26 _ rfl rfl (ldf _ rfw) ?_) | (refine wpList_load_box rfl 29 _ rfl rfl (ldt _ rfw) ?_) | (refine wpList_load_box rfl 45 _ rfl rfl (ldg _ rfw) ?_) | (refine wpList_load_box rfl 45 _ rfl rfl (ldh _ rfw) ?_) | (go_at_call 17; refine (CC.out _ b1).mono ?_; rintro e w2 ⟨rfl, hb2⟩))
  replace f0c : w2.cell? ⟨w.heap.size, 0, none⟩ = some (.slice Ac f.code.length cc) := (hb2.cell (p := ⟨w.heap.size, 0, none⟩) (show w.heap.size < w1.heap.size by omega)).trans f0c
  replace ldf : ∀ u, Below w2.heap.size w2 u → (Go.Instr.loadAt 26 (.pointer (some ⟨w.heap.size, 0, none⟩))).run Try.prog u = .ok (.agg #[.slice Ac f.code.length cc, .slice As f.secret.length cs, .int .i64 f.params, .slice Av f.arrays.length cv]) u := fun u hu => ldf u (hb2.trans (hu.mono hb2.size))
  replace ldt : ∀ u, Below w2.heap.size w2 u → (Go.Instr.loadAt 29 (.pointer (some ⟨w.heap.size + 1, 0, none⟩))).run Try.prog u = .ok (.agg #[.int .i64 x0, .int .i64 x1, .int .i64 x2, .int .i64 x3, .int .i64 x4, .int .i64 x5, .int .i64 x6, .int .i64 x7, .int .i64 x8, .int .i64 x9, .int .i64 x10, .int .i64 x11, .int .i64 x12, .int .i64 x13, .int .i64 x14, .int .i64 x15, .int .i64 x16, .int .i64 x17]) u := fun u hu => ldt u (hb2.trans (hu.mono hb2.size))
  replace ldg : ∀ u, Below w2.heap.size w2 u → (Go.Instr.loadAt 45 (.pointer (some ⟨w.heap.size + 1 + 1, 0, none⟩))).run Try.prog u = .ok (.agg #[.slice Aw g.words.length cw, .slice Ax g.arrays.length cx]) u := fun u hu => ldg u (hb2.trans (hu.mono hb2.size))
  replace ldh : ∀ u, Below w2.heap.size w2 u → (Go.Instr.loadAt 45 (.pointer (some ⟨w.heap.size + 1 + 1 + 1, 0, none⟩))).run Try.prog u = .ok (.agg #[.slice Bw h.words.length dw, .slice Bx h.arrays.length dx]) u := fun u hu => ldh u (hb2.trans (hu.mono hb2.size))
  replace z0 : w.heap.size < w2.heap.size := by have := hb2.size; omega
  replace z1 : w.heap.size + 1 < w2.heap.size := by have := hb2.size; omega
  replace z2 : w.heap.size + 1 + 1 < w2.heap.size := by have := hb2.size; omega
  replace z3 : w.heap.size + 1 + 1 + 1 < w2.heap.size := by have := hb2.size; omega
  replace rfw := Below.refl w2.heap.size w2
  have s1 := b1.size
  have b2 : Below w.heap.size w w2 := b1.trans (hb2.mono (by omega))
  clear b1 hb2 s1 CC
  by_cases he : er = 0
  case neg => as_aux_lemma =>
    have g1 : (er != 0) = true := bne_iff_ne.2 he
    clear he
    go_wp2_with fail
    go_ret
    exact ⟨rfl, by (repeat' (first | (with_reducible exact Below.refl _ _) | (with_reducible assumption) | (with_reducible refine Below.alloc ?_ ?_ _) | (with_reducible refine below_drewN ?_ _) | (with_reducible refine Below.drew ?_) | (with_reducible refine Below.setCell ?_ ?_ _) | (with_reducible refine Below.trans ?_ (Below.mono (by with_reducible assumption) ?_)) | go_size))⟩
  case pos => as_aux_lemma =>
  have HR := Lib.hid (HRT.out he)
  have g1 : (er != 0) = false := by rw [he]; rfl
  clear he HRT
  cases al with
  | false => as_aux_lemma =>
    go_wp2_with (first | (refine wpList_load_boxg (by rfl) 26 _ rfl rfl (ldf _ rfw) ?_) | (refine wpList_load_boxg (by rfl) 29 _ rfl rfl (ldt _ rfw) ?_) | (refine wpList_load_boxg (by rfl) 45 _ rfl rfl (ldg _ rfw) ?_) | (refine wpList_load_boxg (by rfl) 45 _ rfl rfl (ldh _ rfw) ?_) | (go_at_call 44; refine (CAL.out _ b2 HR.out).mono ?_; rintro e w3 ⟨rfl, hb3⟩))
    go_ret
    exact ⟨rfl, by (repeat' (first | (with_reducible exact Below.refl _ _) | (with_reducible assumption) | (with_reducible refine Below.alloc ?_ ?_ _) | (with_reducible refine below_drewN ?_ _) | (with_reducible refine Below.drew ?_) | (with_reducible refine Below.setCell ?_ ?_ _) | (with_reducible refine Below.trans ?_ (Below.mono (by with_reducible assumption) ?_)) | go_size))⟩
  | true => as_aux_lemma =>
  obtain ⟨ha, hg, hh⟩ := HGV.out HR.out rfl
  by_cases hwt : Ev.wrong t = 0
  case neg => as_aux_lemma =>
    have g2 : (Ev.wrong t != 0) = true := bne_iff_ne.2 hwt
    clear hwt ha hg hh
    have s1 := b2.size
    go_wp2_with (first | (refine wpList_load_boxg (by rfl) 26 _ rfl rfl (ldf _ rfw) ?_) | (refine wpList_load_boxg (by rfl) 29 _ rfl rfl (ldt _ rfw) ?_) | (refine wpList_load_boxg (by rfl) 45 _ rfl rfl (ldg _ rfw) ?_) | (refine wpList_load_boxg (by rfl) 45 _ rfl rfl (ldh _ rfw) ?_) | (go_at_call 18; refine (CW.out _).mono ?_; rintro e w4 ⟨rfl, hb4⟩) | (go_at_call 44; refine (CAL.out _ b2 HR.out).mono ?_; rintro e w3 ⟨rfl, hb3⟩; replace f0c : w3.cell? ⟨w.heap.size, 0, none⟩ = some (.slice Ac f.code.length cc) := (hb3.cell (p := ⟨w.heap.size, 0, none⟩) (show w.heap.size < w2.heap.size by omega)).trans f0c; replace ldf : ∀ u, Below w3.heap.size w3 u → (Go.Instr.loadAt 26 (.pointer (some ⟨w.heap.size, 0, none⟩))).run Try.prog u = .ok (.agg #[.slice Ac f.code.length cc, .slice As f.secret.length cs, .int .i64 f.params, .slice Av f.arrays.length cv]) u := fun u hu => ldf u (hb3.trans (hu.mono hb3.size)); replace ldt : ∀ u, Below w3.heap.size w3 u → (Go.Instr.loadAt 29 (.pointer (some ⟨w.heap.size + 1, 0, none⟩))).run Try.prog u = .ok (.agg #[.int .i64 x0, .int .i64 x1, .int .i64 x2, .int .i64 x3, .int .i64 x4, .int .i64 x5, .int .i64 x6, .int .i64 x7, .int .i64 x8, .int .i64 x9, .int .i64 x10, .int .i64 x11, .int .i64 x12, .int .i64 x13, .int .i64 x14, .int .i64 x15, .int .i64 x16, .int .i64 x17]) u := fun u hu => ldt u (hb3.trans (hu.mono hb3.size)); replace ldg : ∀ u, Below w3.heap.size w3 u → (Go.Instr.loadAt 45 (.pointer (some ⟨w.heap.size + 1 + 1, 0, none⟩))).run Try.prog u = .ok (.agg #[.slice Aw g.words.length cw, .slice Ax g.arrays.length cx]) u := fun u hu => ldg u (hb3.trans (hu.mono hb3.size)); replace ldh : ∀ u, Below w3.heap.size w3 u → (Go.Instr.loadAt 45 (.pointer (some ⟨w.heap.size + 1 + 1 + 1, 0, none⟩))).run Try.prog u = .ok (.agg #[.slice Bw h.words.length dw, .slice Bx h.arrays.length dx]) u := fun u hu => ldh u (hb3.trans (hu.mono hb3.size)); replace z0 : w.heap.size < w3.heap.size := (by have := hb3.size; omega); replace z1 : w.heap.size + 1 < w3.heap.size := (by have := hb3.size; omega); replace z2 : w.heap.size + 1 + 1 < w3.heap.size := (by have := hb3.size; omega); replace z3 : w.heap.size + 1 + 1 + 1 < w3.heap.size := (by have := hb3.size; omega); replace rfw := Below.refl w3.heap.size w3))
    go_ret
    exact ⟨rfl, by clear rfw; (repeat' (first | (with_reducible exact Below.refl _ _) | (with_reducible assumption) | (with_reducible refine Below.alloc ?_ ?_ _) | (with_reducible refine below_drewN ?_ _) | (with_reducible refine Below.drew ?_) | (with_reducible refine Below.setCell ?_ ?_ _) | (with_reducible refine Below.trans ?_ (Below.mono (by with_reducible assumption) ?_)) | go_size))⟩
  case pos => as_aux_lemma =>
  have g2 : (Ev.wrong t != 0) = false := by rw [hwt]; rfl
  have HWY : Hid (Ev.Ways (Ev.run f t g) (Ev.run f t h)) := (Ev.ways HR.out t ha (fine_of HR.out hg) (fine_of HR.out hh)).1
  obtain ⟨tr, etr⟩ : ∃ tr, (Ev.run f t g).1.trap = tr := ⟨_, rfl⟩
  obtain ⟨L, eL⟩ : ∃ L, (Ev.run f t g).2 = L := ⟨_, rfl⟩
  obtain ⟨M, eM⟩ : ∃ M, (Ev.run f t h).2 = M := ⟨_, rfl⟩
  obtain ⟨N, eN⟩ : ∃ N, L.length = N := ⟨_, rfl⟩
  have etr' : (Ev.run f t h).1.trap = tr := HWY.out.trap.symm.trans etr
  have eN' : M.length = N := by rw [← eN, ← eL, ← eM]; exact HWY.out.len.symm
  have CR1 : Hid (∀ u : World, Below w.heap.size w u → Calls Try.prog 41 #[.agg #[.slice Ac f.code.length cc, .slice As f.secret.length cs, .int .i64 f.params, .slice Av f.arrays.length cv], .agg #[.int .i64 x0, .int .i64 x1, .int .i64 x2, .int .i64 x3, .int .i64 x4, .int .i64 x5, .int .i64 x6, .int .i64 x7, .int .i64 x8, .int .i64 x9, .int .i64 x10, .int .i64 x11, .int .i64 x12, .int .i64 x13, .int .i64 x14, .int .i64 x15, .int .i64 x16, .int .i64 x17], .agg #[.slice Aw g.words.length cw, .slice Ax g.arrays.length cx]] u fun e w' => ∃ wd A n c A2 c2, e = .returned (.tuple #[.agg #[.int .i64 wd, .bool tr, .slice A n c], .slice A2 N c2]) ∧ RLeaks w' (.slice A2 N c2) L ∧ Below u.heap.size u w') := by
    intro u hb
    have h := run_told f t g _ _ u (HF0.out.at3 hb (Nat.le_refl _)) (HG0.out.at2 hb (Nat.le_refl _)) HTL.out hwt HR.out hg tr L N etr eL eN
    rw [HTV.out] at h
    exact h
  have CR2 : Hid (∀ u : World, Below w.heap.size w u → Calls Try.prog 41 #[.agg #[.slice Ac f.code.length cc, .slice As f.secret.length cs, .int .i64 f.params, .slice Av f.arrays.length cv], .agg #[.int .i64 x0, .int .i64 x1, .int .i64 x2, .int .i64 x3, .int .i64 x4, .int .i64 x5, .int .i64 x6, .int .i64 x7, .int .i64 x8, .int .i64 x9, .int .i64 x10, .int .i64 x11, .int .i64 x12, .int .i64 x13, .int .i64 x14, .int .i64 x15, .int .i64 x16, .int .i64 x17], .agg #[.slice Bw h.words.length dw, .slice Bx h.arrays.length dx]] u fun e w' => ∃ wd A n c A2 c2, e = .returned (.tuple #[.agg #[.int .i64 wd, .bool tr, .slice A n c], .slice A2 N c2]) ∧ RLeaks w' (.slice A2 N c2) M ∧ Below u.heap.size u w') := by
    intro u hb
    have h := run_told f t h _ _ u (HF0.out.at3 hb (Nat.le_refl _)) (HH0.out.at2 hb (Nat.le_refl _)) HTL.out hwt HR.out hh tr M N etr' eM eN'
    rw [HTV.out] at h
    exact h
  have HEQ : Hid ((∀ i ∈ f.code, Ev.shows f t i = false) → L = M) := fun hs => by rw [← eL, ← eM]; exact (Ev.ways HR.out t ha (fine_of HR.out hg) (fine_of HR.out hh)).2 hs
  have HSH : Hid (∀ (i : Ev.Instr) (k : Nat) (u : World), Below w.heap.size w u → f.code[k]? = some i → Calls Try.prog 21 #[.agg #[.slice Ac f.code.length cc, .slice As f.secret.length cs, .int .i64 f.params, .slice Av f.arrays.length cv], .agg #[.int .i64 x0, .int .i64 x1, .int .i64 x2, .int .i64 x3, .int .i64 x4, .int .i64 x5, .int .i64 x6, .int .i64 x7, .int .i64 x8, .int .i64 x9, .int .i64 x10, .int .i64 x11, .int .i64 x12, .int .i64 x13, .int .i64 x14, .int .i64 x15, .int .i64 x16, .int .i64 x17], .agg #[.int .i64 i.op, .int .i64 i.d, .int .i64 i.a, .int .i64 i.b, .int .i64 i.c, .int .i64 i.imm]] u fun e w' => e = .returned (.bool (Ev.shows f t i)) ∧ Below u.heap.size u w') := by
    intro i k u hb hi
    have h := shows_any f t i k _ u (HF0.out.at3 hb (Nat.le_refl _)) HTL.out hwt (HR.out.sound hi)
    rw [HTV.out] at h
    exact h
  clear etr etr' eL eM eN eN' HWY ha hg hh HGV hwt
  have g3 : (false || false) = false := rfl
  go_upto_region 6 with (first | (refine wpList_load_boxg (by rfl) 26 _ rfl rfl (ldf _ rfw) ?_) | (refine wpList_load_boxg (by rfl) 29 _ rfl rfl (ldt _ rfw) ?_) | (refine wpList_load_boxg (by rfl) 45 _ rfl rfl (ldg _ rfw) ?_) | (refine wpList_load_boxg (by rfl) 45 _ rfl rfl (ldh _ rfw) ?_) | (go_at_call 18; refine (CW.out _).mono ?_; rintro e w4 ⟨rfl, hb4⟩) | (go_at_call 44; refine (CAL.out _ b2 HR.out).mono ?_; rintro e w3 ⟨rfl, hb3⟩; replace f0c : w3.cell? ⟨w.heap.size, 0, none⟩ = some (.slice Ac f.code.length cc) := (hb3.cell (p := ⟨w.heap.size, 0, none⟩) (show w.heap.size < w2.heap.size by omega)).trans f0c; replace ldf : ∀ u, Below w3.heap.size w3 u → (Go.Instr.loadAt 26 (.pointer (some ⟨w.heap.size, 0, none⟩))).run Try.prog u = .ok (.agg #[.slice Ac f.code.length cc, .slice As f.secret.length cs, .int .i64 f.params, .slice Av f.arrays.length cv]) u := fun u hu => ldf u (hb3.trans (hu.mono hb3.size)); replace ldt : ∀ u, Below w3.heap.size w3 u → (Go.Instr.loadAt 29 (.pointer (some ⟨w.heap.size + 1, 0, none⟩))).run Try.prog u = .ok (.agg #[.int .i64 x0, .int .i64 x1, .int .i64 x2, .int .i64 x3, .int .i64 x4, .int .i64 x5, .int .i64 x6, .int .i64 x7, .int .i64 x8, .int .i64 x9, .int .i64 x10, .int .i64 x11, .int .i64 x12, .int .i64 x13, .int .i64 x14, .int .i64 x15, .int .i64 x16, .int .i64 x17]) u := fun u hu => ldt u (hb3.trans (hu.mono hb3.size)); replace ldg : ∀ u, Below w3.heap.size w3 u → (Go.Instr.loadAt 45 (.pointer (some ⟨w.heap.size + 1 + 1, 0, none⟩))).run Try.prog u = .ok (.agg #[.slice Aw g.words.length cw, .slice Ax g.arrays.length cx]) u := fun u hu => ldg u (hb3.trans (hu.mono hb3.size)); replace ldh : ∀ u, Below w3.heap.size w3 u → (Go.Instr.loadAt 45 (.pointer (some ⟨w.heap.size + 1 + 1 + 1, 0, none⟩))).run Try.prog u = .ok (.agg #[.slice Bw h.words.length dw, .slice Bx h.arrays.length dx]) u := fun u hu => ldh u (hb3.trans (hu.mono hb3.size)); replace z0 : w.heap.size < w3.heap.size := (by have := hb3.size; omega); replace z1 : w.heap.size + 1 < w3.heap.size := (by have := hb3.size; omega); replace z2 : w.heap.size + 1 + 1 < w3.heap.size := (by have := hb3.size; omega); replace z3 : w.heap.size + 1 + 1 + 1 < w3.heap.size := (by have := hb3.size; omega); replace rfw := Below.refl w3.heap.size w3))
  have s2 := b2.size
  have b3 : Below w.heap.size w w3 := b2.trans (hb3.mono (by omega))
  have s3 := b3.size
  replace f0c : w4.cell? ⟨w.heap.size, 0, none⟩ = some (.slice Ac f.code.length cc) := (hb4.cell (p := ⟨w.heap.size, 0, none⟩) (show w.heap.size < w3.heap.size by omega)).trans f0c
  replace ldf : ∀ u, Below w4.heap.size w4 u → (Go.Instr.loadAt 26 (.pointer (some ⟨w.heap.size, 0, none⟩))).run Try.prog u = .ok (.agg #[.slice Ac f.code.length cc, .slice As f.secret.length cs, .int .i64 f.params, .slice Av f.arrays.length cv]) u := fun u hu => ldf u (hb4.trans (hu.mono hb4.size))
  replace ldt : ∀ u, Below w4.heap.size w4 u → (Go.Instr.loadAt 29 (.pointer (some ⟨w.heap.size + 1, 0, none⟩))).run Try.prog u = .ok (.agg #[.int .i64 x0, .int .i64 x1, .int .i64 x2, .int .i64 x3, .int .i64 x4, .int .i64 x5, .int .i64 x6, .int .i64 x7, .int .i64 x8, .int .i64 x9, .int .i64 x10, .int .i64 x11, .int .i64 x12, .int .i64 x13, .int .i64 x14, .int .i64 x15, .int .i64 x16, .int .i64 x17]) u := fun u hu => ldt u (hb4.trans (hu.mono hb4.size))
  replace ldg : ∀ u, Below w4.heap.size w4 u → (Go.Instr.loadAt 45 (.pointer (some ⟨w.heap.size + 1 + 1, 0, none⟩))).run Try.prog u = .ok (.agg #[.slice Aw g.words.length cw, .slice Ax g.arrays.length cx]) u := fun u hu => ldg u (hb4.trans (hu.mono hb4.size))
  replace ldh : ∀ u, Below w4.heap.size w4 u → (Go.Instr.loadAt 45 (.pointer (some ⟨w.heap.size + 1 + 1 + 1, 0, none⟩))).run Try.prog u = .ok (.agg #[.slice Bw h.words.length dw, .slice Bx h.arrays.length dx]) u := fun u hu => ldh u (hb4.trans (hu.mono hb4.size))
  replace z0 : w.heap.size < w4.heap.size := by have := hb4.size; omega
  replace z1 : w.heap.size + 1 < w4.heap.size := by have := hb4.size; omega
  replace z2 : w.heap.size + 1 + 1 < w4.heap.size := by have := hb4.size; omega
  replace z3 : w.heap.size + 1 + 1 + 1 < w4.heap.size := by have := hb4.size; omega
  replace rfw := Below.refl w4.heap.size w4
  have b4 : Below w.heap.size w w4 := b3.trans (hb4.mono (by omega))
  have s4 := b4.size
  clear b2 hb3 s2 s3 b3 hb4 CAL CW g1 g2 g3
  go_wp2_with fail
  have HB4 := Lib.hid b4
  clear b4
  go_loopw [41] (fun z wr => ∃ j : Nat, j ≤ f.code.length ∧ z = .int .i64 j ∧ Hid (∀ i ∈ f.code.take j, Ev.shows f t i = false) ∧ Below w4.heap.size w4 wr) (fun z _ => f.code.length - (intOf z).toNat)
  case atStart => exact ⟨0, by omega, rfl, (by intro i hi; simp at hi), Below.refl _ _⟩
  case round =>
    obtain ⟨j, hj, rfl, HS, hB⟩ := hrel
    have sB := hB.size
    by_cases hlt : j < f.code.length
    · as_aux_lemma =>
      obtain ⟨i, hi⟩ : ∃ i, f.code[j]? = some i := ⟨f.code[j], List.getElem?_eq_getElem hlt⟩
      obtain ⟨bi, oi, ci, hv, hbi, _, _, _, p0, p1, p2, p3, p4, p5⟩ := RCode.at_ HC.out hi
      injection hv with hA _ hcr
      subst hA hcr
      have HST : Hid (∀ b, Ev.shows f t i = b → b = false → ∀ x ∈ f.code.take (j + 1), Ev.shows f t x = false) := fun b hb hbf x hx => by
        rw [List.take_add_one, hi, List.mem_append] at hx
        rcases hx with hx | hx
        · exact HS.out x hx
        · simp at hx; subst hx; rw [hb]; exact hbf
      have HI := Lib.hid hi
      clear hi
      have hBw := HB4.out.trans (hB.mono (by omega))
      replace p0 := (hB.cell (p := ⟨bi, _, none⟩) (show bi < w4.heap.size by omega)).trans ((HB4.out.cell (p := ⟨bi, _, none⟩) hbi).trans p0)
      replace p1 := (hB.cell (p := ⟨bi, _, none⟩) (show bi < w4.heap.size by omega)).trans ((HB4.out.cell (p := ⟨bi, _, none⟩) hbi).trans p1)
      replace p2 := (hB.cell (p := ⟨bi, _, none⟩) (show bi < w4.heap.size by omega)).trans ((HB4.out.cell (p := ⟨bi, _, none⟩) hbi).trans p2)
      replace p3 := (hB.cell (p := ⟨bi, _, none⟩) (show bi < w4.heap.size by omega)).trans ((HB4.out.cell (p := ⟨bi, _, none⟩) hbi).trans p3)
      replace p4 := (hB.cell (p := ⟨bi, _, none⟩) (show bi < w4.heap.size by omega)).trans ((HB4.out.cell (p := ⟨bi, _, none⟩) hbi).trans p4)
      replace p5 := (hB.cell (p := ⟨bi, _, none⟩) (show bi < w4.heap.size by omega)).trans ((HB4.out.cell (p := ⟨bi, _, none⟩) hbi).trans p5)
      replace f0c : wr.cell? ⟨w.heap.size, 0, none⟩ = some (.slice (some ⟨bi, oi, none⟩) f.code.length cc) := (hB.cell (p := ⟨w.heap.size, 0, none⟩) (show w.heap.size < w4.heap.size by omega)).trans f0c
      replace ldf : ∀ u, Below wr.heap.size wr u → (Go.Instr.loadAt 26 (.pointer (some ⟨w.heap.size, 0, none⟩))).run Try.prog u = .ok (.agg #[.slice (some ⟨bi, oi, none⟩) f.code.length cc, .slice As f.secret.length cs, .int .i64 f.params, .slice Av f.arrays.length cv]) u := fun u hu => ldf u (hB.trans (hu.mono hB.size))
      replace ldt : ∀ u, Below wr.heap.size wr u → (Go.Instr.loadAt 29 (.pointer (some ⟨w.heap.size + 1, 0, none⟩))).run Try.prog u = .ok (.agg #[.int .i64 x0, .int .i64 x1, .int .i64 x2, .int .i64 x3, .int .i64 x4, .int .i64 x5, .int .i64 x6, .int .i64 x7, .int .i64 x8, .int .i64 x9, .int .i64 x10, .int .i64 x11, .int .i64 x12, .int .i64 x13, .int .i64 x14, .int .i64 x15, .int .i64 x16, .int .i64 x17]) u := fun u hu => ldt u (hB.trans (hu.mono hB.size))
      replace ldg : ∀ u, Below wr.heap.size wr u → (Go.Instr.loadAt 45 (.pointer (some ⟨w.heap.size + 1 + 1, 0, none⟩))).run Try.prog u = .ok (.agg #[.slice Aw g.words.length cw, .slice Ax g.arrays.length cx]) u := fun u hu => ldg u (hB.trans (hu.mono hB.size))
      replace ldh : ∀ u, Below wr.heap.size wr u → (Go.Instr.loadAt 45 (.pointer (some ⟨w.heap.size + 1 + 1 + 1, 0, none⟩))).run Try.prog u = .ok (.agg #[.slice Bw h.words.length dw, .slice Bx h.arrays.length dx]) u := fun u hu => ldh u (hB.trans (hu.mono hB.size))
      replace z0 : w.heap.size < wr.heap.size := by have := hB.size; omega
      replace z1 : w.heap.size + 1 < wr.heap.size := by have := hB.size; omega
      replace z2 : w.heap.size + 1 + 1 < wr.heap.size := by have := hB.size; omega
      replace z3 : w.heap.size + 1 + 1 + 1 < wr.heap.size := by have := hB.size; omega
      replace rfw := Below.refl wr.heap.size wr
      go_upto_region 9 with fail
      have bI : Below wr.heap.size wr (wr.alloc (.cells #[.int .i64 i.op, .int .i64 i.d, .int .i64 i.a, .int .i64 i.b, .int .i64 i.c, .int .i64 i.imm] 39)) := by (repeat' (first | (with_reducible exact Below.refl _ _) | (with_reducible assumption) | (with_reducible refine Below.alloc ?_ ?_ _) | (with_reducible refine below_drewN ?_ _) | (with_reducible refine Below.drew ?_) | (with_reducible refine Below.setCell ?_ ?_ _) | (with_reducible refine Below.trans ?_ (Below.mono (by with_reducible assumption) ?_)) | go_size))
      have ldi : ∀ u, Below (wr.alloc (.cells #[.int .i64 i.op, .int .i64 i.d, .int .i64 i.a, .int .i64 i.b, .int .i64 i.c, .int .i64 i.imm] 39)).heap.size (wr.alloc (.cells #[.int .i64 i.op, .int .i64 i.d, .int .i64 i.a, .int .i64 i.b, .int .i64 i.c, .int .i64 i.imm] 39)) u → (Go.Instr.loadAt 39 (.pointer (some ⟨wr.heap.size, 0, none⟩))).run Try.prog u = .ok (.agg #[.int .i64 i.op, .int .i64 i.d, .int .i64 i.a, .int .i64 i.b, .int .i64 i.c, .int .i64 i.imm]) u := fun u hu => load_box Try.underlying39 (by kernel_rfl) rfl (by kernel_rfl) (fun k v hk => by rw [World.cell?_alloc_at _ _ _ _ rfl]; exact hk) (by simp) hu
      have zI : wr.heap.size < (wr.alloc (.cells #[.int .i64 i.op, .int .i64 i.d, .int .i64 i.a, .int .i64 i.b, .int .i64 i.c, .int .i64 i.imm] 39)).heap.size := by simp
      obtain ⟨wI, hwI⟩ : ∃ wI, (wr.alloc (.cells #[.int .i64 i.op, .int .i64 i.d, .int .i64 i.a, .int .i64 i.b, .int .i64 i.c, .int .i64 i.imm] 39)) = wI := ⟨_, rfl⟩
      rw [hwI] at bI ldi zI ⊢
      clear hwI p0 p1 p2 p3 p4 p5
      replace f0c : wI.cell? ⟨w.heap.size, 0, none⟩ = some (.slice (some ⟨bi, oi, none⟩) f.code.length cc) := (bI.cell (p := ⟨w.heap.size, 0, none⟩) (show w.heap.size < wr.heap.size by omega)).trans f0c
      replace ldf : ∀ u, Below wI.heap.size wI u → (Go.Instr.loadAt 26 (.pointer (some ⟨w.heap.size, 0, none⟩))).run Try.prog u = .ok (.agg #[.slice (some ⟨bi, oi, none⟩) f.code.length cc, .slice As f.secret.length cs, .int .i64 f.params, .slice Av f.arrays.length cv]) u := fun u hu => ldf u (bI.trans (hu.mono bI.size))
      replace ldt : ∀ u, Below wI.heap.size wI u → (Go.Instr.loadAt 29 (.pointer (some ⟨w.heap.size + 1, 0, none⟩))).run Try.prog u = .ok (.agg #[.int .i64 x0, .int .i64 x1, .int .i64 x2, .int .i64 x3, .int .i64 x4, .int .i64 x5, .int .i64 x6, .int .i64 x7, .int .i64 x8, .int .i64 x9, .int .i64 x10, .int .i64 x11, .int .i64 x12, .int .i64 x13, .int .i64 x14, .int .i64 x15, .int .i64 x16, .int .i64 x17]) u := fun u hu => ldt u (bI.trans (hu.mono bI.size))
      replace ldg : ∀ u, Below wI.heap.size wI u → (Go.Instr.loadAt 45 (.pointer (some ⟨w.heap.size + 1 + 1, 0, none⟩))).run Try.prog u = .ok (.agg #[.slice Aw g.words.length cw, .slice Ax g.arrays.length cx]) u := fun u hu => ldg u (bI.trans (hu.mono bI.size))
      replace ldh : ∀ u, Below wI.heap.size wI u → (Go.Instr.loadAt 45 (.pointer (some ⟨w.heap.size + 1 + 1 + 1, 0, none⟩))).run Try.prog u = .ok (.agg #[.slice Bw h.words.length dw, .slice Bx h.arrays.length dx]) u := fun u hu => ldh u (bI.trans (hu.mono bI.size))
      replace z0 : w.heap.size < wI.heap.size := by have := bI.size; omega
      replace z1 : w.heap.size + 1 < wI.heap.size := by have := bI.size; omega
      replace z2 : w.heap.size + 1 + 1 < wI.heap.size := by have := bI.size; omega
      replace z3 : w.heap.size + 1 + 1 + 1 < wI.heap.size := by have := bI.size; omega
      replace rfw := Below.refl wI.heap.size wI
      have hBI := hBw.trans (bI.mono (by omega))
      have CS := Lib.hid (HSH.out i j wI hBI HI.out)
      obtain ⟨b, hb⟩ : ∃ b, Ev.shows f t i = b := ⟨_, rfl⟩
      rw [hb] at CS
      have HNX := Lib.hid (HST.out b hb)
      have HBW := Lib.hid hBI
      have HBL := Lib.hid (hB.trans (bI.mono (by omega)))
      clear hb HST hBw hB bI hBI
      cases b with
      | false =>
        go_wp2_with (first | (refine wpList_load_box rfl 26 _ rfl rfl (ldf _ rfw) ?_) | (refine wpList_load_box rfl 29 _ rfl rfl (ldt _ rfw) ?_) | (refine wpList_load_box rfl 45 _ rfl rfl (ldg _ rfw) ?_) | (refine wpList_load_box rfl 45 _ rfl rfl (ldh _ rfw) ?_) | (refine wpList_load_box rfl 39 _ rfl rfl (ldi _ (Below.refl _ _)) ?_) | (go_at_call 21; refine CS.out.mono ?_; rintro e w5 ⟨rfl, hb5⟩))
        go_roundw
        case rel => exact ⟨j + 1, by omega, by go_num, HNX.out (by first | rfl | trivial), by have h1 := HBL.out; (repeat' (first | (with_reducible exact Below.refl _ _) | (with_reducible assumption) | (with_reducible refine Below.alloc ?_ ?_ _) | (with_reducible refine below_drewN ?_ _) | (with_reducible refine Below.drew ?_) | (with_reducible refine Below.setCell ?_ ?_ _) | (with_reducible refine Below.trans ?_ (Below.mono (by with_reducible assumption) ?_)) | go_size))⟩
        case measure => simp [intOf]; omega
      | true =>
        go_wp2_with (first | (refine wpList_load_box rfl 26 _ rfl rfl (ldf _ rfw) ?_) | (refine wpList_load_box rfl 29 _ rfl rfl (ldt _ rfw) ?_) | (refine wpList_load_box rfl 45 _ rfl rfl (ldg _ rfw) ?_) | (refine wpList_load_box rfl 45 _ rfl rfl (ldh _ rfw) ?_) | (refine wpList_load_box rfl 39 _ rfl rfl (ldi _ (Below.refl _ _)) ?_) | (go_at_call 21; refine CS.out.mono ?_; rintro e w5 ⟨rfl, hb5⟩))
        go_ret
        exact ⟨rfl, by have h1 := HBW.out; (repeat' (first | (with_reducible exact Below.refl _ _) | (with_reducible assumption) | (with_reducible refine Below.alloc ?_ ?_ _) | (with_reducible refine below_drewN ?_ _) | (with_reducible refine Below.drew ?_) | (with_reducible refine Below.setCell ?_ ?_ _) | (with_reducible refine Below.trans ?_ (Below.mono (by with_reducible assumption) ?_)) | go_size))⟩
    · as_aux_lemma =>
      have hje : j = f.code.length := by omega
      subst hje
      have hLM : L = M := HEQ.out (fun x hx => HS.out x (by rw [List.take_length]; exact hx))
      have HLM := Lib.hid hLM
      clear hLM HEQ HSH
      have b4 := HB4.out
      replace f0c : wr.cell? ⟨w.heap.size, 0, none⟩ = some (.slice Ac f.code.length cc) := (hB.cell (p := ⟨w.heap.size, 0, none⟩) (show w.heap.size < w4.heap.size by omega)).trans f0c
      replace ldf : ∀ u, Below wr.heap.size wr u → (Go.Instr.loadAt 26 (.pointer (some ⟨w.heap.size, 0, none⟩))).run Try.prog u = .ok (.agg #[.slice Ac f.code.length cc, .slice As f.secret.length cs, .int .i64 f.params, .slice Av f.arrays.length cv]) u := fun u hu => ldf u (hB.trans (hu.mono hB.size))
      replace ldt : ∀ u, Below wr.heap.size wr u → (Go.Instr.loadAt 29 (.pointer (some ⟨w.heap.size + 1, 0, none⟩))).run Try.prog u = .ok (.agg #[.int .i64 x0, .int .i64 x1, .int .i64 x2, .int .i64 x3, .int .i64 x4, .int .i64 x5, .int .i64 x6, .int .i64 x7, .int .i64 x8, .int .i64 x9, .int .i64 x10, .int .i64 x11, .int .i64 x12, .int .i64 x13, .int .i64 x14, .int .i64 x15, .int .i64 x16, .int .i64 x17]) u := fun u hu => ldt u (hB.trans (hu.mono hB.size))
      replace ldg : ∀ u, Below wr.heap.size wr u → (Go.Instr.loadAt 45 (.pointer (some ⟨w.heap.size + 1 + 1, 0, none⟩))).run Try.prog u = .ok (.agg #[.slice Aw g.words.length cw, .slice Ax g.arrays.length cx]) u := fun u hu => ldg u (hB.trans (hu.mono hB.size))
      replace ldh : ∀ u, Below wr.heap.size wr u → (Go.Instr.loadAt 45 (.pointer (some ⟨w.heap.size + 1 + 1 + 1, 0, none⟩))).run Try.prog u = .ok (.agg #[.slice Bw h.words.length dw, .slice Bx h.arrays.length dx]) u := fun u hu => ldh u (hB.trans (hu.mono hB.size))
      replace z0 : w.heap.size < wr.heap.size := by have := hB.size; omega
      replace z1 : w.heap.size + 1 < wr.heap.size := by have := hB.size; omega
      replace z2 : w.heap.size + 1 + 1 < wr.heap.size := by have := hB.size; omega
      replace z3 : w.heap.size + 1 + 1 + 1 < wr.heap.size := by have := hB.size; omega
      replace rfw := Below.refl wr.heap.size wr
      have b5 : Below w.heap.size w wr := b4.trans (hB.mono (by omega))
      clear b4 hB HB4
      go_upto_region 13 with (first | (refine wpList_load_box rfl 26 _ rfl rfl (ldf _ rfw) ?_) | (refine wpList_load_box rfl 29 _ rfl rfl (ldt _ rfw) ?_) | (refine wpList_load_box rfl 45 _ rfl rfl (ldg _ rfw) ?_) | (refine wpList_load_box rfl 45 _ rfl rfl (ldh _ rfw) ?_) | (go_at_call 41; refine (CR1.out _ b5).mono ?_; rintro e w6 ⟨wd1, A1, n1, c1, A2, c2, rfl, hL, hb6⟩))
      have HL := Lib.hid hL
      clear hL CR1
      have y6 := hb6.size
      have bB : Below wr.heap.size wr (w6.alloc (.cells #[.int .i64 wd1, .bool tr, .slice A1 n1 c1] 51)) := by (repeat' (first | (with_reducible exact Below.refl _ _) | (with_reducible assumption) | (with_reducible refine Below.alloc ?_ ?_ _) | (with_reducible refine below_drewN ?_ _) | (with_reducible refine Below.drew ?_) | (with_reducible refine Below.setCell ?_ ?_ _) | (with_reducible refine Below.trans ?_ (Below.mono (by with_reducible assumption) ?_)) | go_size))
      have bL : Below w6.heap.size w6 (w6.alloc (.cells #[.int .i64 wd1, .bool tr, .slice A1 n1 c1] 51)) := by (repeat' (first | (with_reducible exact Below.refl _ _) | (with_reducible assumption) | (with_reducible refine Below.alloc ?_ ?_ _) | (with_reducible refine below_drewN ?_ _) | (with_reducible refine Below.drew ?_) | (with_reducible refine Below.setCell ?_ ?_ _) | (with_reducible refine Below.trans ?_ (Below.mono (by with_reducible assumption) ?_)) | go_size))
      obtain ⟨wB, hwB⟩ : ∃ wB, (w6.alloc (.cells #[.int .i64 wd1, .bool tr, .slice A1 n1 c1] 51)) = wB := ⟨_, rfl⟩
      rw [hwB] at bB bL ⊢
      replace HL : Hid (RLeaks wB (.slice A2 N c2) L) := RLeaks.stays HL.out bL
      clear hwB bL hb6
      replace f0c : wB.cell? ⟨w.heap.size, 0, none⟩ = some (.slice Ac f.code.length cc) := (bB.cell (p := ⟨w.heap.size, 0, none⟩) (show w.heap.size < wr.heap.size by omega)).trans f0c
      replace ldf : ∀ u, Below wB.heap.size wB u → (Go.Instr.loadAt 26 (.pointer (some ⟨w.heap.size, 0, none⟩))).run Try.prog u = .ok (.agg #[.slice Ac f.code.length cc, .slice As f.secret.length cs, .int .i64 f.params, .slice Av f.arrays.length cv]) u := fun u hu => ldf u (bB.trans (hu.mono bB.size))
      replace ldt : ∀ u, Below wB.heap.size wB u → (Go.Instr.loadAt 29 (.pointer (some ⟨w.heap.size + 1, 0, none⟩))).run Try.prog u = .ok (.agg #[.int .i64 x0, .int .i64 x1, .int .i64 x2, .int .i64 x3, .int .i64 x4, .int .i64 x5, .int .i64 x6, .int .i64 x7, .int .i64 x8, .int .i64 x9, .int .i64 x10, .int .i64 x11, .int .i64 x12, .int .i64 x13, .int .i64 x14, .int .i64 x15, .int .i64 x16, .int .i64 x17]) u := fun u hu => ldt u (bB.trans (hu.mono bB.size))
      replace ldg : ∀ u, Below wB.heap.size wB u → (Go.Instr.loadAt 45 (.pointer (some ⟨w.heap.size + 1 + 1, 0, none⟩))).run Try.prog u = .ok (.agg #[.slice Aw g.words.length cw, .slice Ax g.arrays.length cx]) u := fun u hu => ldg u (bB.trans (hu.mono bB.size))
      replace ldh : ∀ u, Below wB.heap.size wB u → (Go.Instr.loadAt 45 (.pointer (some ⟨w.heap.size + 1 + 1 + 1, 0, none⟩))).run Try.prog u = .ok (.agg #[.slice Bw h.words.length dw, .slice Bx h.arrays.length dx]) u := fun u hu => ldh u (bB.trans (hu.mono bB.size))
      replace z0 : w.heap.size < wB.heap.size := by have := bB.size; omega
      replace z1 : w.heap.size + 1 < wB.heap.size := by have := bB.size; omega
      replace z2 : w.heap.size + 1 + 1 < wB.heap.size := by have := bB.size; omega
      replace z3 : w.heap.size + 1 + 1 + 1 < wB.heap.size := by have := bB.size; omega
      replace rfw := Below.refl wB.heap.size wB
      have s5 := b5.size
      have b6 : Below w.heap.size w wB := b5.trans (bB.mono (by omega))
      clear b5 bB s5
      go_upto_region 14 with (first | (refine wpList_load_box rfl 26 _ rfl rfl (ldf _ rfw) ?_) | (refine wpList_load_box rfl 29 _ rfl rfl (ldt _ rfw) ?_) | (refine wpList_load_box rfl 45 _ rfl rfl (ldg _ rfw) ?_) | (refine wpList_load_box rfl 45 _ rfl rfl (ldh _ rfw) ?_) | (go_at_call 41; refine (CR2.out _ b6).mono ?_; rintro e w7 ⟨wd2, A3, n3, c3, A4, c4, rfl, hM, hb7⟩))
      have y7 := hb7.size
      have bC : Below wB.heap.size wB (w7.alloc (.cells #[.int .i64 wd2, .bool tr, .slice A3 n3 c3] 51)) := by (repeat' (first | (with_reducible exact Below.refl _ _) | (with_reducible assumption) | (with_reducible refine Below.alloc ?_ ?_ _) | (with_reducible refine below_drewN ?_ _) | (with_reducible refine Below.drew ?_) | (with_reducible refine Below.setCell ?_ ?_ _) | (with_reducible refine Below.trans ?_ (Below.mono (by with_reducible assumption) ?_)) | go_size))
      have bM : Below w7.heap.size w7 (w7.alloc (.cells #[.int .i64 wd2, .bool tr, .slice A3 n3 c3] 51)) := by (repeat' (first | (with_reducible exact Below.refl _ _) | (with_reducible assumption) | (with_reducible refine Below.alloc ?_ ?_ _) | (with_reducible refine below_drewN ?_ _) | (with_reducible refine Below.drew ?_) | (with_reducible refine Below.setCell ?_ ?_ _) | (with_reducible refine Below.trans ?_ (Below.mono (by with_reducible assumption) ?_)) | go_size))
      obtain ⟨wC, hwC⟩ : ∃ wC, (w7.alloc (.cells #[.int .i64 wd2, .bool tr, .slice A3 n3 c3] 51)) = wC := ⟨_, rfl⟩
      rw [hwC] at bC bM ⊢
      have CSL : Hid (Calls Try.prog 42 #[.slice A2 N c2, .slice A4 N c4] wC fun e w' => e = .returned (.bool true) ∧ Below wC.heap.size wC w') :=
        (quiet_below (sameLeaks_any L M _ _ wC (RLeaks.stays HL.out bC) (RLeaks.stays hM bM))).mono fun e w' ⟨h, hb⟩ => ⟨by rw [h, HLM.out]; simp, hb⟩
      have s6 := b6.size
      have HB : Hid (Below w.heap.size w wC) := b6.trans (bC.mono (by omega))
      clear hwC bM hb7 bC b6 s6 hM HL
      go_wp2_with (go_at_call 42; refine CSL.out.mono ?_; rintro e w8 ⟨rfl, hb8⟩)
      go_ret
      exact ⟨rfl, by have h1 := HB.out; have h2 := h1.size; (repeat' (first | (with_reducible exact Below.refl _ _) | (with_reducible assumption) | (with_reducible refine Below.alloc ?_ ?_ _) | (with_reducible refine below_drewN ?_ _) | (with_reducible refine Below.drew ?_) | (with_reducible refine Below.setCell ?_ ?_ _) | (with_reducible refine Below.trans ?_ (Below.mono (by with_reducible assumption) ?_)) | go_size))⟩
end Go.Proofs.Ytljcgcllhcdleaa
/- FlowEven: the law's row, out of its walk. For every input whose bulk is at most 1048576. -/
namespace Go.Proofs.Ytljcgcllhcdleaa.lawFlowEven
open Go.RowKit Go.ChangeShapes Go.WideShapes Go.ChangeAt Go.Deep
set_option linter.unusedVariables false
set_option linter.unusedSimpArgs false
set_option maxRecDepth 100000 in
theorem lifted (os : Os) (started : os.Started) (H : Type) (enc : TypeId × Value → H) (F : Stop.Interp) :
    ReturnsInHanded {} Try.checked os 12 .any ((Rows.OpenSpec.upto Rows.flowEvenSpec).pre6 enc Try.prog Try.f12 Rows.flowEvenUptoRow.domain false) (((Rows.OpenSpec.upto Rows.flowEvenSpec).at F).post enc Try.prog Try.f12 false true false false) := by
  refine returnsInHanded_of_cond (C := Try.checked) (s := Rows.OpenSpec.upto Rows.flowEvenSpec) (k := Rows.uptoSmall) rfl Try.own started (by kernel_rfl) Try.func12
    (OpenSpec.witness (enc := enc) (C := Try.checked) (s := Rows.OpenSpec.upto Rows.flowEvenSpec) (k := Rows.uptoSmall) rfl false ⟨#[], #[.agg #[.slice none 0 0, .slice none 0 0, .int .i64 0, .slice none 0 0], .agg #[.int .i64 0, .int .i64 0, .int .i64 0, .int .i64 0, .int .i64 0, .int .i64 0, .int .i64 0, .int .i64 0, .int .i64 0, .int .i64 0, .int .i64 0, .int .i64 0, .int .i64 0, .int .i64 0, .int .i64 0, .int .i64 0, .int .i64 0, .int .i64 0], .agg #[.slice none 0 0, .slice none 0 0], .agg #[.slice none 0 0, .slice none 0 0]], []⟩ 8 (by kernel_rfl) (by kernel_rfl) (by kernel_rfl)
      (x := ([.agg [.nil, .nil, .lit (.int .i64 0), .nil], .agg [.agg [.lit (.int .i64 0), .lit (.int .i64 0), .lit (.int .i64 0), .lit (.int .i64 0), .lit (.int .i64 0), .lit (.int .i64 0), .lit (.int .i64 0), .lit (.int .i64 0), .lit (.int .i64 0), .lit (.int .i64 0), .lit (.int .i64 0), .lit (.int .i64 0), .lit (.int .i64 0), .lit (.int .i64 0), .lit (.int .i64 0), .lit (.int .i64 0), .lit (.int .i64 0), .lit (.int .i64 0)]], .agg [.nil, .nil], .agg [.nil, .nil]], [], [])) (by kernel_rfl) rfl (by kernel_rfl)) ?_
  intro W base args ds gs before hval0 hW hcnd hk _
  have hval : ∀ (j : Nat) t v, Try.f12.params[j]? = some t → args[j]? = some v → Value.okWide Try.prog W .any base t v := hval0
  have hW' := hW
  obtain ⟨p, q, hA0, hV, rfl, hfz, hnd⟩ := hW
  have hA : DataW.TrodAll enc Try.prog W 0 (fun _ => true) true Try.f12.params.toList args.toList ds p := hA0
  rw [Try.params12] at hA hval
  obtain ⟨v0, vs0, d0, ds0, p0, q0, hargs, rfl, rfl, h0, r0⟩ := trodAll_cons hA
  obtain ⟨v1, vs1, d1, ds1, p1, q1, rfl, rfl, rfl, h1, r1⟩ := trodAll_cons r0
  obtain ⟨v2, vs2, d2, ds2, p2, q2, rfl, rfl, rfl, h2, r2⟩ := trodAll_cons r1
  obtain ⟨v3, vs3, d3, ds3, p3, q3, rfl, rfl, rfl, h3, r3⟩ := trodAll_cons r2
  obtain ⟨rfl, rfl, rfl⟩ := trodAll_nil r3
  obtain rfl : args = #[v0, v1, v2, v3] := by cases args; simp_all
  obtain ⟨rfl, rfl⟩ := trodVars_none hV
  have k0 := h0
  have lt0 : ∀ x ∈ p0, x.block < W.heap.size := by obtain ⟨m, hm⟩ := k0; exact DataW.trod_lt m _ _ _ hm
  obtain ⟨fu0, hf0⟩ := h0
  obtain ⟨uc0, us0, ua0, f, e0, rc0, rs0, ra0, wf, hB0⟩ := open_flat hf0
  obtain rfl := arg_struct Try.underlying26 (hval 0 26 v0 rfl rfl) e0
  have k1 := h1
  have lt1 : ∀ x ∈ p1, x.block < W.heap.size := by obtain ⟨m, hm⟩ := k1; exact DataW.trod_lt m _ _ _ hm
  obtain ⟨fu1, hf1⟩ := h1
  obtain ⟨t, e1, lt, wt⟩ := open_table hf1
  obtain rfl := arg_struct Try.underlying29 (hval 1 29 v1 rfl rfl) e1
  have k2 := h2
  have lt2 : ∀ x ∈ p2, x.block < W.heap.size := by obtain ⟨m, hm⟩ := k2; exact DataW.trod_lt m _ _ _ hm
  obtain ⟨fu2, hf2⟩ := h2
  obtain ⟨uw2, ua2, g, e2, rw2, ra2, wg, hB2⟩ := open_given hf2
  obtain rfl := arg_struct Try.underlying45 (hval 2 45 v2 rfl rfl) e2
  have k3 := h3
  have lt3 : ∀ x ∈ p3, x.block < W.heap.size := by obtain ⟨m, hm⟩ := k3; exact DataW.trod_lt m _ _ _ hm
  obtain ⟨fu3, hf3⟩ := h3
  obtain ⟨uw3, ua3, h, e3, rw3, ra3, wh, hB3⟩ := open_given hf3
  obtain rfl := arg_struct Try.underlying45 (hval 3 45 v3 rfl rfl) e3
  clear hA0 hval0
  have hB : Rows.uptoBulkAll (_ ++ []) ≤ 1048576 := of_decide_eq_true hk
  simp only [List.append_nil, Rows.uptoBulkAll, Rows.uptoBulk] at hB
  dsimp only at hB0 hB2 hB3
  refine (flowEven_walk f t g h _ _ _ W ⟨_, _, _, rfl, rc0, rs0, ra0⟩ ⟨_, _, rfl, rw2, ra2⟩ ⟨_, _, rfl, rw3, ra3⟩ lt wt (by omega) (by omega) (by omega)).mono fun e W' ⟨he, bel⟩ => ?_
  subst he
  exact ⟨_, rfl, _, _, _, [], _, [], hW', trodAll_mk1 (shut_bool Try.underlying4 _), (trodAll_cons_mk (Below.trod Try.laidOut (by kernel_rfl) (of_decide_eq_true (by kernel_rfl)) k0 bel lt0) (trodAll_cons_mk (Below.trod Try.laidOut (by kernel_rfl) (of_decide_eq_true (by kernel_rfl)) k1 bel lt1) (trodAll_cons_mk (Below.trod Try.laidOut (by kernel_rfl) (of_decide_eq_true (by kernel_rfl)) k2 bel lt2) (trodAll_cons_mk (Below.trod Try.laidOut (by kernel_rfl) (of_decide_eq_true (by kernel_rfl)) k3 bel lt3) trodAll_mk0)))), rfl, bel.frame _, fun h => by cases h⟩

theorem proved : Rows.FlowEvenUptoSaid :=
  OpenClaim.holds_of_cond 12 Try.f12 rfl rfl rfl rfl rfl rfl rfl ⟨rfl, rfl, rfl, rfl, rfl⟩ rfl rfl rfl rfl rfl (by kernel_rfl) Try.func12 (by kernel_rfl)
    (of_decide_eq_true (by kernel_rfl)) (by unfold Func.isWrapper; first | (rw [if_pos (by decide +kernel)]; kernel_rfl) | (rw [if_neg (by decide +kernel)]; exact ⟨rfl, rfl⟩))
    (fun os started H enc _ F => lifted os started H enc F)
#print axioms proved
end Go.Proofs.Ytljcgcllhcdleaa.lawFlowEven
