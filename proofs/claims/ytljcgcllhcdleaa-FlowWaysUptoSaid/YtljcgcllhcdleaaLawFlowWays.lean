import Derived.Test.YtljcgcllhcdleaaFlowBoth
import Derived.Test.YtljcgcllhcdleaaOpenC
import Derived.Test.YtljcgcllhcdleaaRows
import Derived.JoinedCond
/- FlowWays: two runs of right flat instructions that are given the same, but for what is secret, do the same instructions, and both trap, or neither does: the walk, and the law's row. For every input whose bulk is at most 1048576. -/
namespace Go.Proofs.Ytljcgcllhcdleaa
open Go.RowKit
set_option linter.unusedSimpArgs false
set_option linter.unusedVariables false
set_option maxRecDepth 16000 in
set_option maxHeartbeats 12800000 in
theorem flowWays_walk (f : Ev.Flat) (g h : Ev.Given) (vf vg vh : Value) (w : World) (hf : RFlat w w.heap.size vf f) (hg : RGiven w w.heap.size vg g) (hh : RGiven w w.heap.size vh h)
    (hbf : f.code.length + f.secret.length + f.arrays.length ≤ 1048576) (hbg : g.words.length + g.arrays.length + g.arrays.flatten.length ≤ 1048576) (hbh : h.words.length + h.arrays.length + h.arrays.flatten.length ≤ 1048576) :
    Calls Try.prog 11 #[vf, vg, vh] w fun e w' => e = .returned (.bool true) ∧ Below w.heap.size w w' := by
  have HF0 := Lib.hid hf
  have HG0 := Lib.hid hg
  have HH0 := Lib.hid hh
  obtain ⟨vc, vs, va, rfl, hc, hs, ha⟩ := hf
  obtain ⟨vw, vx, rfl, hw, hx⟩ := hg
  obtain ⟨vw', vx', rfl, hw', hx'⟩ := hh
  have HC := Lib.hid hc
  obtain ⟨Ac, cc, rfl, _, hcc⟩ := SL.form hc
  obtain ⟨As, cs, rfl, _, _⟩ := SL.form hs
  obtain ⟨Av, cv, rfl, _, _⟩ := SL.form ha
  obtain ⟨Aw, cw, rfl, _, _⟩ := SL.form hw
  obtain ⟨_, _, hxs, _⟩ := hx
  obtain ⟨Ax, cx, rfl, _, _⟩ := SL.form hxs
  obtain ⟨Bw, dw, rfl, _, _⟩ := SL.form hw'
  obtain ⟨_, _, hxs', _⟩ := hx'
  obtain ⟨Bx, dx, rfl, _, _⟩ := SL.form hxs'
  unfold maxLen at hcc
  have HBF := Lib.hid hbf
  have HBG := Lib.hid hbg
  have HBH := Lib.hid hbh
  clear hc hs ha hw hxs hw' hxs' hbf hbg hbh
  obtain ⟨er, ek, hck⟩ : ∃ er ek, Ev.check f = (er, ek) := ⟨_, _, rfl⟩
  have HRT := Lib.hid (show er = 0 → Ev.Right f from fun h0 => Ev.right_of_check (by rw [hck]; exact h0))
  have CC : Hid (∀ u : World, Below w.heap.size w u → Calls Try.prog 17 #[.agg #[.slice Ac f.code.length cc, .slice As f.secret.length cs, .int .i64 f.params, .slice Av f.arrays.length cv]] u fun e w' => e = .returned (.tuple #[.int .i64 er, .int .i64 ek]) ∧ Below u.heap.size u w') := by
    intro u hb
    have h := refCheck_any f _ u (HF0.out.at3 hb (Nat.le_refl _))
    rw [hck] at h
    exact h
  clear hck
  obtain ⟨al, hal⟩ : ∃ al, Ev.alike (Ev.parVars f f.params.toNat) f.arrays g h = al := ⟨_, rfl⟩
  have CAL : Hid (∀ u : World, Below w.heap.size w u → Ev.Right f → Calls Try.prog 44 #[.agg #[.slice Ac f.code.length cc, .slice As f.secret.length cs, .int .i64 f.params, .slice Av f.arrays.length cv], .agg #[.slice Aw g.words.length cw, .slice Ax g.arrays.length cx], .agg #[.slice Bw h.words.length dw, .slice Bx h.arrays.length dx]] u fun e w' => e = .returned (.bool al) ∧ Below u.heap.size u w') := by
    intro u hb hr
    have h1 := hr.p0
    have h2 := hr.p1
    have h := alikeLaw_any f g h f.params.toNat _ _ _ u (HF0.out.at3 hb (Nat.le_refl _)) (HG0.out.at2 hb (Nat.le_refl _)) (HH0.out.at2 hb (Nat.le_refl _)) (by omega) (by omega) (by have := HBF.out; omega) (by have := HBG.out; omega) (by have := HBH.out; omega)
    rw [hal] at h
    exact h
  have HGV : Hid (Ev.Right f → al = true → Ev.AlikeF f g h ∧ Given f g ∧ Given f h) := fun hr ht => by
    have h1 := hr.p0
    obtain ⟨a1, a2, a3⟩ := Ev.alike_f (f := f) (g := g) (h := h) (np := f.params.toNat) (by omega) (by rw [hal]; exact ht)
    exact ⟨a1, given_of (by omega) a2 (by have := HBF.out; omega) (by have := HBG.out; omega), given_of (by omega) a3 (by have := HBF.out; omega) (by have := HBH.out; omega)⟩
  clear hal
  go_enter Try.func11, Try.ntmps11
  go_upto_region 1 with fail
  have hbx := boxes3 w #[.slice Ac f.code.length cc, .slice As f.secret.length cs, .int .i64 f.params, .slice Av f.arrays.length cv] #[.slice Aw g.words.length cw, .slice Ax g.arrays.length cx] #[.slice Bw h.words.length dw, .slice Bx h.arrays.length dx] 26 45 45
  have sA : w.heap.size + 1 + 1 + 1 ≤ (((w.alloc (.cells #[.slice Ac f.code.length cc, .slice As f.secret.length cs, .int .i64 f.params, .slice Av f.arrays.length cv] 26)).alloc (.cells #[.slice Aw g.words.length cw, .slice Ax g.arrays.length cx] 45)).alloc (.cells #[.slice Bw h.words.length dw, .slice Bx h.arrays.length dx] 45)).heap.size := by simp
  have bA : Below w.heap.size w (((w.alloc (.cells #[.slice Ac f.code.length cc, .slice As f.secret.length cs, .int .i64 f.params, .slice Av f.arrays.length cv] 26)).alloc (.cells #[.slice Aw g.words.length cw, .slice Ax g.arrays.length cx] 45)).alloc (.cells #[.slice Bw h.words.length dw, .slice Bx h.arrays.length dx] 45)) := by (repeat' (first | (with_reducible exact Below.refl _ _) | (with_reducible assumption) | (with_reducible refine Below.alloc ?_ ?_ _) | (with_reducible refine below_drewN ?_ _) | (with_reducible refine Below.drew ?_) | (with_reducible refine Below.setCell ?_ ?_ _) | (with_reducible refine Below.trans ?_ (Below.mono (by with_reducible assumption) ?_)) | go_size))
  obtain ⟨wA, hwA⟩ : ∃ wA, (((w.alloc (.cells #[.slice Ac f.code.length cc, .slice As f.secret.length cs, .int .i64 f.params, .slice Av f.arrays.length cv] 26)).alloc (.cells #[.slice Aw g.words.length cw, .slice Ax g.arrays.length cx] 45)).alloc (.cells #[.slice Bw h.words.length dw, .slice Bx h.arrays.length dx] 45)) = wA := ⟨_, rfl⟩
  rw [hwA] at sA bA hbx
  obtain ⟨hbx0, hbx1, hbx2⟩ := hbx
  have f0c : wA.cell? ⟨w.heap.size, 0, none⟩ = some (.slice Ac f.code.length cc) := hbx0 0 _ rfl
  have z0 : w.heap.size < wA.heap.size := by omega
  have z1 : w.heap.size + 1 < wA.heap.size := by omega
  have z2 : w.heap.size + 1 + 1 < wA.heap.size := by omega
  have ldf : ∀ u, Below wA.heap.size wA u → (Go.Instr.loadAt 26 (.pointer (some ⟨w.heap.size, 0, none⟩))).run Try.prog u = .ok (.agg #[.slice Ac f.code.length cc, .slice As f.secret.length cs, .int .i64 f.params, .slice Av f.arrays.length cv]) u := fun u hu => load_box Try.underlying26 (by kernel_rfl) rfl (by kernel_rfl) hbx0 z0 hu
  have ldg : ∀ u, Below wA.heap.size wA u → (Go.Instr.loadAt 45 (.pointer (some ⟨w.heap.size + 1, 0, none⟩))).run Try.prog u = .ok (.agg #[.slice Aw g.words.length cw, .slice Ax g.arrays.length cx]) u := fun u hu => load_box Try.underlying45 (by kernel_rfl) rfl (by kernel_rfl) hbx1 z1 hu
  have ldh : ∀ u, Below wA.heap.size wA u → (Go.Instr.loadAt 45 (.pointer (some ⟨w.heap.size + 1 + 1, 0, none⟩))).run Try.prog u = .ok (.agg #[.slice Bw h.words.length dw, .slice Bx h.arrays.length dx]) u := fun u hu => load_box Try.underlying45 (by kernel_rfl) rfl (by kernel_rfl) hbx2 z2 hu
  have rfw := Below.refl wA.heap.size wA
  clear hbx0 hbx1 hbx2
  (try rw [hwA])
  clear hwA
  go_upto_region 3 with (go_at_call 43; refine (alive_any _).mono ?_; rintro e w1 ⟨rfl, hb1⟩)
  replace f0c : w1.cell? ⟨w.heap.size, 0, none⟩ = some (.slice Ac f.code.length cc) := (hb1.cell (p := ⟨w.heap.size, 0, none⟩) (show w.heap.size < wA.heap.size by omega)).trans f0c
  replace ldf : ∀ u, Below w1.heap.size w1 u → (Go.Instr.loadAt 26 (.pointer (some ⟨w.heap.size, 0, none⟩))).run Try.prog u = .ok (.agg #[.slice Ac f.code.length cc, .slice As f.secret.length cs, .int .i64 f.params, .slice Av f.arrays.length cv]) u := fun u hu => ldf u (hb1.trans (hu.mono hb1.size))
  replace ldg : ∀ u, Below w1.heap.size w1 u → (Go.Instr.loadAt 45 (.pointer (some ⟨w.heap.size + 1, 0, none⟩))).run Try.prog u = .ok (.agg #[.slice Aw g.words.length cw, .slice Ax g.arrays.length cx]) u := fun u hu => ldg u (hb1.trans (hu.mono hb1.size))
  replace ldh : ∀ u, Below w1.heap.size w1 u → (Go.Instr.loadAt 45 (.pointer (some ⟨w.heap.size + 1 + 1, 0, none⟩))).run Try.prog u = .ok (.agg #[.slice Bw h.words.length dw, .slice Bx h.arrays.length dx]) u := fun u hu => ldh u (hb1.trans (hu.mono hb1.size))
  replace z0 : w.heap.size < w1.heap.size := by have := hb1.size; omega
  replace z1 : w.heap.size + 1 < w1.heap.size := by have := hb1.size; omega
  replace z2 : w.heap.size + 1 + 1 < w1.heap.size := by have := hb1.size; omega
  replace rfw := Below.refl w1.heap.size w1
  have b1 : Below w.heap.size w w1 := bA.trans (hb1.mono (by omega))
  clear bA hb1 sA
  go_upto_region 4 with (first | (refine wpList_load_box rfl 26 _ rfl rfl (ldf _ rfw) ?_) | (refine wpList_load_box rfl 45 _ rfl rfl (ldg _ rfw) ?_) | (refine wpList_load_box rfl 45 _ rfl rfl (ldh _ rfw) ?_) | (go_at_call 17; refine (CC.out _ b1).mono ?_; rintro e w2 ⟨rfl, hb2⟩))
  replace f0c : w2.cell? ⟨w.heap.size, 0, none⟩ = some (.slice Ac f.code.length cc) := (hb2.cell (p := ⟨w.heap.size, 0, none⟩) (show w.heap.size < w1.heap.size by omega)).trans f0c
  replace ldf : ∀ u, Below w2.heap.size w2 u → (Go.Instr.loadAt 26 (.pointer (some ⟨w.heap.size, 0, none⟩))).run Try.prog u = .ok (.agg #[.slice Ac f.code.length cc, .slice As f.secret.length cs, .int .i64 f.params, .slice Av f.arrays.length cv]) u := fun u hu => ldf u (hb2.trans (hu.mono hb2.size))
  replace ldg : ∀ u, Below w2.heap.size w2 u → (Go.Instr.loadAt 45 (.pointer (some ⟨w.heap.size + 1, 0, none⟩))).run Try.prog u = .ok (.agg #[.slice Aw g.words.length cw, .slice Ax g.arrays.length cx]) u := fun u hu => ldg u (hb2.trans (hu.mono hb2.size))
  replace ldh : ∀ u, Below w2.heap.size w2 u → (Go.Instr.loadAt 45 (.pointer (some ⟨w.heap.size + 1 + 1, 0, none⟩))).run Try.prog u = .ok (.agg #[.slice Bw h.words.length dw, .slice Bx h.arrays.length dx]) u := fun u hu => ldh u (hb2.trans (hu.mono hb2.size))
  replace z0 : w.heap.size < w2.heap.size := by have := hb2.size; omega
  replace z1 : w.heap.size + 1 < w2.heap.size := by have := hb2.size; omega
  replace z2 : w.heap.size + 1 + 1 < w2.heap.size := by have := hb2.size; omega
  replace rfw := Below.refl w2.heap.size w2
  have s1 := b1.size
  have b2 : Below w.heap.size w w2 := b1.trans (hb2.mono (by omega))
  clear b1 hb2 s1 CC
  by_cases he : er = 0
  case neg => as_aux_lemma =>
    have g1 : (er != 0) = true := bne_iff_ne.2 he
    clear he
    go_wp2_with fail
    go_ret
    exact ⟨rfl, by (repeat' (first | (with_reducible exact Below.refl _ _) | (with_reducible assumption) | (with_reducible refine Below.alloc ?_ ?_ _) | (with_reducible refine below_drewN ?_ _) | (with_reducible refine Below.drew ?_) | (with_reducible refine Below.setCell ?_ ?_ _) | (with_reducible refine Below.trans ?_ (Below.mono (by with_reducible assumption) ?_)) | go_size))⟩
  case pos => as_aux_lemma =>
  have HR := Lib.hid (HRT.out he)
  have g1 : (er != 0) = false := by rw [he]; rfl
  clear he HRT
  cases al with
  | false => as_aux_lemma =>
    go_wp2_with (first | (refine wpList_load_boxg (by rfl) 26 _ rfl rfl (ldf _ rfw) ?_) | (refine wpList_load_boxg (by rfl) 45 _ rfl rfl (ldg _ rfw) ?_) | (refine wpList_load_boxg (by rfl) 45 _ rfl rfl (ldh _ rfw) ?_) | (go_at_call 44; refine (CAL.out _ b2 HR.out).mono ?_; rintro e w3 ⟨rfl, hb3⟩))
    go_ret
    exact ⟨rfl, by (repeat' (first | (with_reducible exact Below.refl _ _) | (with_reducible assumption) | (with_reducible refine Below.alloc ?_ ?_ _) | (with_reducible refine below_drewN ?_ _) | (with_reducible refine Below.drew ?_) | (with_reducible refine Below.setCell ?_ ?_ _) | (with_reducible refine Below.trans ?_ (Below.mono (by with_reducible assumption) ?_)) | go_size))⟩
  | true => as_aux_lemma =>
  obtain ⟨ha, hg, hh⟩ := HGV.out HR.out rfl
  have HWY : Hid (Ev.Ways (Ev.run f Ev.tz g) (Ev.run f Ev.tz h)) := (Ev.ways HR.out Ev.tz ha (fine_of HR.out hg) (fine_of HR.out hh)).1
  obtain ⟨tr, etr⟩ : ∃ tr, (Ev.run f Ev.tz g).1.trap = tr := ⟨_, rfl⟩
  obtain ⟨L, eL⟩ : ∃ L, (Ev.run f Ev.tz g).2 = L := ⟨_, rfl⟩
  obtain ⟨M, eM⟩ : ∃ M, (Ev.run f Ev.tz h).2 = M := ⟨_, rfl⟩
  obtain ⟨N, eN⟩ : ∃ N, L.length = N := ⟨_, rfl⟩
  have etr' : (Ev.run f Ev.tz h).1.trap = tr := HWY.out.trap.symm.trans etr
  have eN' : M.length = N := by rw [← eN, ← eL, ← eM]; exact HWY.out.len.symm
  have CR1 : Hid (∀ u : World, Below w.heap.size w u → Calls Try.prog 41 #[.agg #[.slice Ac f.code.length cc, .slice As f.secret.length cs, .int .i64 f.params, .slice Av f.arrays.length cv], .agg #[.int .i64 0, .int .i64 0, .int .i64 0, .int .i64 0, .int .i64 0, .int .i64 0, .int .i64 0, .int .i64 0, .int .i64 0, .int .i64 0, .int .i64 0, .int .i64 0, .int .i64 0, .int .i64 0, .int .i64 0, .int .i64 0, .int .i64 0, .int .i64 0], .agg #[.slice Aw g.words.length cw, .slice Ax g.arrays.length cx]] u fun e w' => ∃ wd A n c A2 c2, e = .returned (.tuple #[.agg #[.int .i64 wd, .bool tr, .slice A n c], .slice A2 N c2]) ∧ RLeaks w' (.slice A2 N c2) L ∧ Below u.heap.size u w') := by
    intro u hb
    have h := run_told f Ev.tz g _ _ u (HF0.out.at3 hb (Nat.le_refl _)) (HG0.out.at2 hb (Nat.le_refl _)) rfl Ev.tz_wrong HR.out hg tr L N etr eL eN
    skip
    exact h
  have CR2 : Hid (∀ u : World, Below w.heap.size w u → Calls Try.prog 41 #[.agg #[.slice Ac f.code.length cc, .slice As f.secret.length cs, .int .i64 f.params, .slice Av f.arrays.length cv], .agg #[.int .i64 0, .int .i64 0, .int .i64 0, .int .i64 0, .int .i64 0, .int .i64 0, .int .i64 0, .int .i64 0, .int .i64 0, .int .i64 0, .int .i64 0, .int .i64 0, .int .i64 0, .int .i64 0, .int .i64 0, .int .i64 0, .int .i64 0, .int .i64 0], .agg #[.slice Bw h.words.length dw, .slice Bx h.arrays.length dx]] u fun e w' => ∃ wd A n c A2 c2, e = .returned (.tuple #[.agg #[.int .i64 wd, .bool tr, .slice A n c], .slice A2 N c2]) ∧ RLeaks w' (.slice A2 N c2) M ∧ Below u.heap.size u w') := by
    intro u hb
    have h := run_told f Ev.tz h _ _ u (HF0.out.at3 hb (Nat.le_refl _)) (HH0.out.at2 hb (Nat.le_refl _)) rfl Ev.tz_wrong HR.out hh tr M N etr' eM eN'
    skip
    exact h
  have HAT : Hid (∀ (j : Nat) x y, L[j]? = some x → M[j]? = some y → x.pc = y.pc ∧ x.op = y.op) := fun j x y hx hy => HWY.out.at_ j x y (by rw [eL]; exact hx) (by rw [eM]; exact hy)
  have HN := Lib.hid eN
  have HN' := Lib.hid eN'
  clear etr etr' eL eM eN eN' HWY ha hg hh HGV
  go_upto_region 6 with (first | (refine wpList_load_boxg (by rfl) 26 _ rfl rfl (ldf _ rfw) ?_) | (refine wpList_load_boxg (by rfl) 45 _ rfl rfl (ldg _ rfw) ?_) | (refine wpList_load_boxg (by rfl) 45 _ rfl rfl (ldh _ rfw) ?_) | (go_at_call 44; refine (CAL.out _ b2 HR.out).mono ?_; rintro e w3 ⟨rfl, hb3⟩))
  replace f0c : w3.cell? ⟨w.heap.size, 0, none⟩ = some (.slice Ac f.code.length cc) := (hb3.cell (p := ⟨w.heap.size, 0, none⟩) (show w.heap.size < w2.heap.size by omega)).trans f0c
  replace ldf : ∀ u, Below w3.heap.size w3 u → (Go.Instr.loadAt 26 (.pointer (some ⟨w.heap.size, 0, none⟩))).run Try.prog u = .ok (.agg #[.slice Ac f.code.length cc, .slice As f.secret.length cs, .int .i64 f.params, .slice Av f.arrays.length cv]) u := fun u hu => ldf u (hb3.trans (hu.mono hb3.size))
  replace ldg : ∀ u, Below w3.heap.size w3 u → (Go.Instr.loadAt 45 (.pointer (some ⟨w.heap.size + 1, 0, none⟩))).run Try.prog u = .ok (.agg #[.slice Aw g.words.length cw, .slice Ax g.arrays.length cx]) u := fun u hu => ldg u (hb3.trans (hu.mono hb3.size))
  replace ldh : ∀ u, Below w3.heap.size w3 u → (Go.Instr.loadAt 45 (.pointer (some ⟨w.heap.size + 1 + 1, 0, none⟩))).run Try.prog u = .ok (.agg #[.slice Bw h.words.length dw, .slice Bx h.arrays.length dx]) u := fun u hu => ldh u (hb3.trans (hu.mono hb3.size))
  replace z0 : w.heap.size < w3.heap.size := by have := hb3.size; omega
  replace z1 : w.heap.size + 1 < w3.heap.size := by have := hb3.size; omega
  replace z2 : w.heap.size + 1 + 1 < w3.heap.size := by have := hb3.size; omega
  replace rfw := Below.refl w3.heap.size w3
  have s2 := b2.size
  have b3 : Below w.heap.size w w3 := b2.trans (hb3.mono (by omega))
  clear b2 hb3 s2 CAL g1
  go_upto_region 7 with (first | (refine wpList_load_box rfl 26 _ rfl rfl (ldf _ rfw) ?_) | (refine wpList_load_box rfl 45 _ rfl rfl (ldg _ rfw) ?_) | (refine wpList_load_box rfl 45 _ rfl rfl (ldh _ rfw) ?_) | (go_at_call 41; refine (CR1.out _ b3).mono ?_; rintro e w4 ⟨wd1, A1, n1, c1, A2, c2, rfl, hL, hb4⟩))
  have HL := Lib.hid hL
  clear hL CR1
  have y4 := hb4.size
  have q1 : (w4.alloc (.cells #[.int .i64 wd1, .bool tr, .slice A1 n1 c1] 51)).cell? ⟨w4.heap.size, 1, none⟩ = some (.bool tr) := by go_simp
  have bB : Below w3.heap.size w3 (w4.alloc (.cells #[.int .i64 wd1, .bool tr, .slice A1 n1 c1] 51)) := by (repeat' (first | (with_reducible exact Below.refl _ _) | (with_reducible assumption) | (with_reducible refine Below.alloc ?_ ?_ _) | (with_reducible refine below_drewN ?_ _) | (with_reducible refine Below.drew ?_) | (with_reducible refine Below.setCell ?_ ?_ _) | (with_reducible refine Below.trans ?_ (Below.mono (by with_reducible assumption) ?_)) | go_size))
  have bL : Below w4.heap.size w4 (w4.alloc (.cells #[.int .i64 wd1, .bool tr, .slice A1 n1 c1] 51)) := by (repeat' (first | (with_reducible exact Below.refl _ _) | (with_reducible assumption) | (with_reducible refine Below.alloc ?_ ?_ _) | (with_reducible refine below_drewN ?_ _) | (with_reducible refine Below.drew ?_) | (with_reducible refine Below.setCell ?_ ?_ _) | (with_reducible refine Below.trans ?_ (Below.mono (by with_reducible assumption) ?_)) | go_size))
  have zB : w4.heap.size < (w4.alloc (.cells #[.int .i64 wd1, .bool tr, .slice A1 n1 c1] 51)).heap.size := by simp
  obtain ⟨wB, hwB⟩ : ∃ wB, (w4.alloc (.cells #[.int .i64 wd1, .bool tr, .slice A1 n1 c1] 51)) = wB := ⟨_, rfl⟩
  rw [hwB] at q1 bB bL zB ⊢
  replace HL : Hid (RLeaks wB (.slice A2 N c2) L) := RLeaks.stays HL.out bL
  clear hwB bL hb4
  replace f0c : wB.cell? ⟨w.heap.size, 0, none⟩ = some (.slice Ac f.code.length cc) := (bB.cell (p := ⟨w.heap.size, 0, none⟩) (show w.heap.size < w3.heap.size by omega)).trans f0c
  replace ldf : ∀ u, Below wB.heap.size wB u → (Go.Instr.loadAt 26 (.pointer (some ⟨w.heap.size, 0, none⟩))).run Try.prog u = .ok (.agg #[.slice Ac f.code.length cc, .slice As f.secret.length cs, .int .i64 f.params, .slice Av f.arrays.length cv]) u := fun u hu => ldf u (bB.trans (hu.mono bB.size))
  replace ldg : ∀ u, Below wB.heap.size wB u → (Go.Instr.loadAt 45 (.pointer (some ⟨w.heap.size + 1, 0, none⟩))).run Try.prog u = .ok (.agg #[.slice Aw g.words.length cw, .slice Ax g.arrays.length cx]) u := fun u hu => ldg u (bB.trans (hu.mono bB.size))
  replace ldh : ∀ u, Below wB.heap.size wB u → (Go.Instr.loadAt 45 (.pointer (some ⟨w.heap.size + 1 + 1, 0, none⟩))).run Try.prog u = .ok (.agg #[.slice Bw h.words.length dw, .slice Bx h.arrays.length dx]) u := fun u hu => ldh u (bB.trans (hu.mono bB.size))
  replace z0 : w.heap.size < wB.heap.size := by have := bB.size; omega
  replace z1 : w.heap.size + 1 < wB.heap.size := by have := bB.size; omega
  replace z2 : w.heap.size + 1 + 1 < wB.heap.size := by have := bB.size; omega
  replace rfw := Below.refl wB.heap.size wB
  have s3 := b3.size
  have b4 : Below w.heap.size w wB := b3.trans (bB.mono (by omega))
  clear b3 bB s3
  go_upto_region 8 with (first | (refine wpList_load_box rfl 26 _ rfl rfl (ldf _ rfw) ?_) | (refine wpList_load_box rfl 45 _ rfl rfl (ldg _ rfw) ?_) | (refine wpList_load_box rfl 45 _ rfl rfl (ldh _ rfw) ?_) | (go_at_call 41; refine (CR2.out _ b4).mono ?_; rintro e w5 ⟨wd2, A3, n3, c3, A4, c4, rfl, hM, hb5⟩))
  have HM := Lib.hid hM
  clear hM CR2
  have y5 := hb5.size
  have q2 : (w5.alloc (.cells #[.int .i64 wd2, .bool tr, .slice A3 n3 c3] 51)).cell? ⟨w5.heap.size, 1, none⟩ = some (.bool tr) := by go_simp
  have bC : Below wB.heap.size wB (w5.alloc (.cells #[.int .i64 wd2, .bool tr, .slice A3 n3 c3] 51)) := by (repeat' (first | (with_reducible exact Below.refl _ _) | (with_reducible assumption) | (with_reducible refine Below.alloc ?_ ?_ _) | (with_reducible refine below_drewN ?_ _) | (with_reducible refine Below.drew ?_) | (with_reducible refine Below.setCell ?_ ?_ _) | (with_reducible refine Below.trans ?_ (Below.mono (by with_reducible assumption) ?_)) | go_size))
  have bM : Below w5.heap.size w5 (w5.alloc (.cells #[.int .i64 wd2, .bool tr, .slice A3 n3 c3] 51)) := by (repeat' (first | (with_reducible exact Below.refl _ _) | (with_reducible assumption) | (with_reducible refine Below.alloc ?_ ?_ _) | (with_reducible refine below_drewN ?_ _) | (with_reducible refine Below.drew ?_) | (with_reducible refine Below.setCell ?_ ?_ _) | (with_reducible refine Below.trans ?_ (Below.mono (by with_reducible assumption) ?_)) | go_size))
  obtain ⟨wC, hwC⟩ : ∃ wC, (w5.alloc (.cells #[.int .i64 wd2, .bool tr, .slice A3 n3 c3] 51)) = wC := ⟨_, rfl⟩
  rw [hwC] at q2 bC bM ⊢
  replace HL : Hid (RLeaks wC (.slice A2 N c2) L) := RLeaks.stays HL.out bC
  replace HM : Hid (RLeaks wC (.slice A4 N c4) M) := RLeaks.stays HM.out bM
  replace q1 := (bC.cell (p := ⟨w4.heap.size, 1, none⟩) zB).trans q1
  have s4 := b4.size
  have HB : Hid (Below w.heap.size w wC) := b4.trans (bC.mono (by omega))
  clear hwC bM hb5 bC b4 s4 ldf ldg ldh rfw f0c z0 z1 z2 zB
  have g2 : (tr != tr) = false := by simp
  have g3 : ((N : Int) != (N : Int)) = false := by simp
  have hN4 : N ≤ 9223372036854775807 := by
    obtain ⟨us, _, h3, _⟩ := HL.out
    obtain ⟨_, c', hv, h5, h6⟩ := SL.form h3
    unfold maxLen at h6
    injection hv with _ _ hv
    have := HN.out
    omega
  go_wp2_with fail
  go_loopw [58] (fun z wr => ∃ j : Nat, j ≤ N ∧ z = .int .i64 j ∧ ∃ n, wr = wC.drewN n) (fun z _ => N - (intOf z).toNat)
  case atStart => exact ⟨0, by omega, rfl, by (first | exact ⟨0, rfl⟩ | exact ⟨_, rfl⟩ | (simp only [World.drewN_drewN, World.drew_is_drewN]; exact ⟨_, rfl⟩))⟩
  case round =>
    obtain ⟨j, hj, rfl, nw, rfl⟩ := hrel
    by_cases hlt : j < N
    · obtain ⟨x, hx⟩ : ∃ x, L[j]? = some x := ⟨L[j]'(by have := HN.out; omega), List.getElem?_eq_getElem _⟩
      obtain ⟨y, hy⟩ : ∃ y, M[j]? = some y := ⟨M[j]'(by have := HN'.out; omega), List.getElem?_eq_getElem _⟩
      obtain ⟨a1, a2⟩ := HAT.out j x y hx hy
      obtain ⟨b1, o1, r1, B1, d1, hv, hb1, p1, p2, p3, RA⟩ := RLeaks.row HL.out hx
      injection hv with hA _ hcr
      subst hA hcr
      obtain ⟨b2, o2, r2, B2, d2, hv, hb2, p4, p5, p6, RB⟩ := RLeaks.row HM.out hy
      injection hv with hA _ hcr
      subst hA hcr
      have e1 : (x.pc != y.pc) = false := by simpa using a1
      have e2 : (x.op != y.op) = false := by simpa using a2
      clear hx hy a1 a2 RA RB
      go_wp2_with fail
      go_quiet (fail)
      go_wp2_with fail
      go_roundw
      case rel => exact ⟨j + 1, by omega, by go_num, by (first | exact ⟨0, rfl⟩ | exact ⟨_, rfl⟩ | (simp only [World.drewN_drewN, World.drew_is_drewN]; exact ⟨_, rfl⟩))⟩
      case measure => simp [intOf]; omega
    · go_wp2_with fail
      go_ret
      exact ⟨rfl, by have := HB.out; (repeat' (first | (with_reducible exact Below.refl _ _) | (with_reducible assumption) | (with_reducible refine Below.alloc ?_ ?_ _) | (with_reducible refine below_drewN ?_ _) | (with_reducible refine Below.drew ?_) | (with_reducible refine Below.setCell ?_ ?_ _) | (with_reducible refine Below.trans ?_ (Below.mono (by with_reducible assumption) ?_)) | go_size))⟩
end Go.Proofs.Ytljcgcllhcdleaa
/- FlowWays: the law's row, out of its walk. For every input whose bulk is at most 1048576. -/
namespace Go.Proofs.Ytljcgcllhcdleaa.lawFlowWays
open Go.RowKit Go.ChangeShapes Go.WideShapes Go.ChangeAt Go.Deep
set_option linter.unusedVariables false
set_option linter.unusedSimpArgs false
set_option maxRecDepth 100000 in
theorem lifted (os : Os) (started : os.Started) (H : Type) (enc : TypeId × Value → H) (F : Stop.Interp) :
    ReturnsInHanded {} Try.checked os 11 .any ((Rows.OpenSpec.upto Rows.flowWaysSpec).pre6 enc Try.prog Try.f11 Rows.flowWaysUptoRow.domain false) (((Rows.OpenSpec.upto Rows.flowWaysSpec).at F).post enc Try.prog Try.f11 false true false false) := by
  refine returnsInHanded_of_cond (C := Try.checked) (s := Rows.OpenSpec.upto Rows.flowWaysSpec) (k := Rows.uptoSmall) rfl Try.own started (by kernel_rfl) Try.func11
    (OpenSpec.witness (enc := enc) (C := Try.checked) (s := Rows.OpenSpec.upto Rows.flowWaysSpec) (k := Rows.uptoSmall) rfl false ⟨#[], #[.agg #[.slice none 0 0, .slice none 0 0, .int .i64 0, .slice none 0 0], .agg #[.slice none 0 0, .slice none 0 0], .agg #[.slice none 0 0, .slice none 0 0]], []⟩ 8 (by kernel_rfl) (by kernel_rfl) (by kernel_rfl)
      (x := ([.agg [.nil, .nil, .lit (.int .i64 0), .nil], .agg [.nil, .nil], .agg [.nil, .nil]], [], [])) (by kernel_rfl) rfl (by kernel_rfl)) ?_
  intro W base args ds gs before hval0 hW hcnd hk _
  have hval : ∀ (j : Nat) t v, Try.f11.params[j]? = some t → args[j]? = some v → Value.okWide Try.prog W .any base t v := hval0
  have hW' := hW
  obtain ⟨p, q, hA0, hV, rfl, hfz, hnd⟩ := hW
  have hA : DataW.TrodAll enc Try.prog W 0 (fun _ => true) true Try.f11.params.toList args.toList ds p := hA0
  rw [Try.params11] at hA hval
  obtain ⟨v0, vs0, d0, ds0, p0, q0, hargs, rfl, rfl, h0, r0⟩ := trodAll_cons hA
  obtain ⟨v1, vs1, d1, ds1, p1, q1, rfl, rfl, rfl, h1, r1⟩ := trodAll_cons r0
  obtain ⟨v2, vs2, d2, ds2, p2, q2, rfl, rfl, rfl, h2, r2⟩ := trodAll_cons r1
  obtain ⟨rfl, rfl, rfl⟩ := trodAll_nil r2
  obtain rfl : args = #[v0, v1, v2] := by cases args; simp_all
  obtain ⟨rfl, rfl⟩ := trodVars_none hV
  have k0 := h0
  have lt0 : ∀ x ∈ p0, x.block < W.heap.size := by obtain ⟨m, hm⟩ := k0; exact DataW.trod_lt m _ _ _ hm
  obtain ⟨fu0, hf0⟩ := h0
  obtain ⟨uc0, us0, ua0, f, e0, rc0, rs0, ra0, wf, hB0⟩ := open_flat hf0
  obtain rfl := arg_struct Try.underlying26 (hval 0 26 v0 rfl rfl) e0
  have k1 := h1
  have lt1 : ∀ x ∈ p1, x.block < W.heap.size := by obtain ⟨m, hm⟩ := k1; exact DataW.trod_lt m _ _ _ hm
  obtain ⟨fu1, hf1⟩ := h1
  obtain ⟨uw1, ua1, g, e1, rw1, ra1, wg, hB1⟩ := open_given hf1
  obtain rfl := arg_struct Try.underlying45 (hval 1 45 v1 rfl rfl) e1
  have k2 := h2
  have lt2 : ∀ x ∈ p2, x.block < W.heap.size := by obtain ⟨m, hm⟩ := k2; exact DataW.trod_lt m _ _ _ hm
  obtain ⟨fu2, hf2⟩ := h2
  obtain ⟨uw2, ua2, h, e2, rw2, ra2, wh, hB2⟩ := open_given hf2
  obtain rfl := arg_struct Try.underlying45 (hval 2 45 v2 rfl rfl) e2
  clear hA0 hval0
  have hB : Rows.uptoBulkAll (_ ++ []) ≤ 1048576 := of_decide_eq_true hk
  simp only [List.append_nil, Rows.uptoBulkAll, Rows.uptoBulk] at hB
  dsimp only at hB0 hB1 hB2
  refine (flowWays_walk f g h _ _ _ W ⟨_, _, _, rfl, rc0, rs0, ra0⟩ ⟨_, _, rfl, rw1, ra1⟩ ⟨_, _, rfl, rw2, ra2⟩ (by omega) (by omega) (by omega)).mono fun e W' ⟨he, bel⟩ => ?_
  subst he
  exact ⟨_, rfl, _, _, _, [], _, [], hW', trodAll_mk1 (shut_bool Try.underlying4 _), (trodAll_cons_mk (Below.trod Try.laidOut (by kernel_rfl) (of_decide_eq_true (by kernel_rfl)) k0 bel lt0) (trodAll_cons_mk (Below.trod Try.laidOut (by kernel_rfl) (of_decide_eq_true (by kernel_rfl)) k1 bel lt1) (trodAll_cons_mk (Below.trod Try.laidOut (by kernel_rfl) (of_decide_eq_true (by kernel_rfl)) k2 bel lt2) trodAll_mk0))), rfl, bel.frame _, fun h => by cases h⟩

theorem proved : Rows.FlowWaysUptoSaid :=
  OpenClaim.holds_of_cond 11 Try.f11 rfl rfl rfl rfl rfl rfl rfl ⟨rfl, rfl, rfl, rfl, rfl⟩ rfl rfl rfl rfl rfl (by kernel_rfl) Try.func11 (by kernel_rfl)
    (of_decide_eq_true (by kernel_rfl)) (by unfold Func.isWrapper; first | (rw [if_pos (by decide +kernel)]; kernel_rfl) | (rw [if_neg (by decide +kernel)]; exact ⟨rfl, rfl⟩))
    (fun os started H enc _ F => lifted os started H enc F)
#print axioms proved
end Go.Proofs.Ytljcgcllhcdleaa.lawFlowWays
