import Derived.Test.YtljcgcllhcdleaaPFoldShows
import Derived.Test.YtljcgcllhcdleaaFo14
import Derived.Test.YtljcgcllhcdleaaPFlockT
import Derived.Test.YtljcgcllhcdleaaPParams
import Derived.Deep.DeepCutAuto
/- evlaw9.FoldSame: the walk. -/
namespace Ev
/-- what is made of f is right, no more, and ends the same -/
structure FoldGood (f x : Flat) (g : Given) : Prop where
  right : Right x
  less : x.code.length ≤ f.code.length
  params : x.params = f.params
  arrays : x.arrays = f.arrays
  secret : x.secret = f.secret
  same : ∀ t, (run f t g).1 = (run x t g).1
theorem fold_goods {f : Flat} {g : Given} (hr : Right f) (hF : Fine f (start f.secret.length g)) : FoldGood f (numbersF f) g ∧ FoldGood f (usedF f) g ∧ FoldGood f (foldF f) g :=
  ⟨⟨numbers_right hr, Nat.le_of_eq (nums_len _), rfl, rfl, rfl, numbers_run hr hF⟩, ⟨used_right hr, used_short f, rfl, rfl, rfl, used_run hr hF⟩, ⟨fold_right hr, fold_short f, rfl, rfl, rfl, fold_run hr hF⟩⟩
end Ev
namespace Go.Proofs.Ytljcgcllhcdleaa
open Go.RowKit
set_option linter.unusedSimpArgs false
set_option linter.unusedVariables false
/-- a flat program that lies there -/
def Hv.flatR (f : Ev.Flat) (n : Nat) (xs : List Bool) (p : Int) (ys : List Ev.Vr) : Hv where
  R v w := (∃ (A : Option Addr × Nat) (c : (Option Addr × Nat) × (Option Addr × Nat)), v = .agg #[.slice A.1 n A.2, .slice c.1.1 xs.length c.1.2, .int .i64 p, .slice c.2.1 ys.length c.2.2]) ∧ Hid (RFlat w w.heap.size v f)
  ok v := ∃ (A : Option Addr × Nat) (c : (Option Addr × Nat) × (Option Addr × Nat)), v = .agg #[.slice A.1 n A.2, .slice c.1.1 xs.length c.1.2, .int .i64 p, .slice c.2.1 ys.length c.2.2]
  imp v w h := h.1
  dum := ⟨_, (none, 0), ((none, 0), (none, 0)), rfl⟩
  stay v w w' hb h := ⟨h.1, RFlat.on h.2 hb⟩
theorem vars_of {w : World} {n : Nat} {A B C : Option Addr} {a b c d e f : Nat} {p : Int} {x : Ev.Flat} (h : RFlat w n (.agg #[.slice A a b, .slice B c d, .int .i64 p, .slice C e f]) x) : RVars w n (.slice C e f) x.arrays := by
  obtain ⟨_, _, _, e, _, _, hc'⟩ := h
  injection e with e
  simp only [Array.mk.injEq, List.cons.injEq] at e
  obtain ⟨_, _, _, rfl, _⟩ := e
  exact hc'
theorem part_load {w u : World} {b o : Nat} {T : TypeId} {cs : Array Value} {all : Array Value} {d : TypeDesc} (hu : Try.prog.underlying T = some d) (hd : d.isRow = true) (hs : cs.toList.toArray = cs) (hi : (Try.prog.info? T).map (·.size) = some cs.toList.length)
    (h : Hid (w.heap[b]? = some (.cells all T (0, 0)))) (hc : ∀ (j : Nat) v, cs[j]? = some v → all[o + j]? = some v) (hbl : Below w.heap.size w u) : (Go.Instr.loadAt T (.pointer (some ⟨b, o, none⟩))).run Try.prog u = .ok (.agg cs) u := by
  have h := run_loadAt_mid (P := Try.prog) u b o T cs.toList d (fun j v hj => (cell_of_block (box_on h hbl).out (o + j)).trans (hc j v (by simpa using hj))) hu hd hi
  rw [hs] at h
  exact h
theorem part0 {y0 y1 y2 y3 y4 y5 y6 y7 y8 y9 y10 y11 : Value} : ∀ (j : Nat) v, (#[y0, y1, y2, y3] : Array Value)[j]? = some v → (#[y0, y1, y2, y3, y4, y5, y6, y7, y8, y9, y10, y11] : Array Value)[0 * 4 + j]? = some v := by
  intro j v h
  rcases j with _ | _ | _ | _ | j
  · exact h
  · exact h
  · exact h
  · exact h
  · simp at h
theorem part4 {y0 y1 y2 y3 y4 y5 y6 y7 y8 y9 y10 y11 : Value} : ∀ (j : Nat) v, (#[y4, y5, y6, y7] : Array Value)[j]? = some v → (#[y0, y1, y2, y3, y4, y5, y6, y7, y8, y9, y10, y11] : Array Value)[1 * 4 + j]? = some v := by
  intro j v h
  rcases j with _ | _ | _ | _ | j
  · exact h
  · exact h
  · exact h
  · exact h
  · simp at h
theorem part8 {y0 y1 y2 y3 y4 y5 y6 y7 y8 y9 y10 y11 : Value} : ∀ (j : Nat) v, (#[y8, y9, y10, y11] : Array Value)[j]? = some v → (#[y0, y1, y2, y3, y4, y5, y6, y7, y8, y9, y10, y11] : Array Value)[2 * 4 + j]? = some v := by
  intro j v h
  rcases j with _ | _ | _ | _ | j
  · exact h
  · exact h
  · exact h
  · exact h
  · simp at h
set_option maxRecDepth 16000 in
set_option maxHeartbeats 12800000 in
theorem foldSame_walk (f : Ev.Flat) (g : Ev.Given) (vf vg : Value) (w : World) (hf : RFlat w w.heap.size vf f) (hg : RGiven w w.heap.size vg g) (hbf : f.code.length + f.secret.length + f.arrays.length ≤ 1048576) (hbg : g.words.length + g.arrays.length + g.arrays.flatten.length ≤ 1048576) :
    Calls Try.prog 6 #[vf, vg] w fun e w' => e = .returned (.bool true) ∧ Below w.heap.size w w' := by
  have HF0 := Lib.hid hf
  have HG0 := Lib.hid hg
  have HBG := Lib.hid hbg
  have HBF := Lib.hid hbf
  obtain ⟨vw, vx, rfl, hw, hx⟩ := hg
  obtain ⟨Aw, cw, rfl, _, _⟩ := SL.form hw
  obtain ⟨_, _, hxs, _⟩ := hx
  obtain ⟨Ax, cx, rfl, _, _⟩ := SL.form hxs
  clear hw hxs hbg
  obtain ⟨Ac, cc, As, cs, Av, cv, rfl⟩ := hf.slices
  clear hf hbf
  obtain ⟨er, ek, hck⟩ : ∃ er ek, Ev.check f = (er, ek) := ⟨_, _, rfl⟩
  have HRT := Lib.hid (show er = 0 → Ev.Right f from fun h0 => Ev.right_of_check (by rw [hck]; exact h0))
  have CC : Hid (∀ u : World, Below w.heap.size w u → Calls Try.prog 17 #[.agg #[.slice Ac f.code.length cc, .slice As f.secret.length cs, .int .i64 f.params, .slice Av f.arrays.length cv]] u fun e w' => e = .returned (.tuple #[.int .i64 er, .int .i64 ek]) ∧ Below u.heap.size u w') := by
    intro u hb
    have h := refCheck_any f _ u (RFlat.on HF0 hb).out
    rw [hck] at h
    exact h
  clear hck
  go_enter Try.func6, Try.ntmps6
  go_upto_region 1 with fail
  have bA : Below w.heap.size w ((w.alloc (.cells #[.slice Ac f.code.length cc, .slice As f.secret.length cs, .int .i64 f.params, .slice Av f.arrays.length cv] 26)).alloc (.cells #[.slice Aw g.words.length cw, .slice Ax g.arrays.length cx] 45)) := by (repeat' first | with_reducible (first | exact Below.refl _ _ | assumption | refine Below.alloc ?_ ?_ _ | refine below_drewN ?_ _ | refine Below.drew ?_ | refine Below.setCell ?_ ?_ _ | refine Below.trans ?_ (Below.mono (by with_reducible assumption) ?_)) | go_size)
  have HBF1 : Hid ((((w.alloc (.cells #[.slice Ac f.code.length cc, .slice As f.secret.length cs, .int .i64 f.params, .slice Av f.arrays.length cv] 26)).alloc (.cells #[.slice Aw g.words.length cw, .slice Ax g.arrays.length cx] 45))).heap[w.heap.size]? = some (.cells #[.slice Ac f.code.length cc, .slice As f.secret.length cs, .int .i64 f.params, .slice Av f.arrays.length cv] 26 (0, 0))) := (box_on (box_new w _) ((Below.refl _ _).alloc (Nat.le_refl _) _))
  have HBG1 : Hid ((((w.alloc (.cells #[.slice Ac f.code.length cc, .slice As f.secret.length cs, .int .i64 f.params, .slice Av f.arrays.length cv] 26)).alloc (.cells #[.slice Aw g.words.length cw, .slice Ax g.arrays.length cx] 45))).heap[w.heap.size + 1]? = some (.cells #[.slice Aw g.words.length cw, .slice Ax g.arrays.length cx] 45 (0, 0))) := by
    have h := box_new (w.alloc (.cells #[.slice Ac f.code.length cc, .slice As f.secret.length cs, .int .i64 f.params, .slice Av f.arrays.length cv] 26)) (.cells #[.slice Aw g.words.length cw, .slice Ax g.arrays.length cx] 45)
    rw [World.size_alloc] at h
    exact h
  have HF := RFlat.on HF0 bA
  generalize ((w.alloc (.cells #[.slice Ac f.code.length cc, .slice As f.secret.length cs, .int .i64 f.params, .slice Av f.arrays.length cv] 26)).alloc (.cells #[.slice Aw g.words.length cw, .slice Ax g.arrays.length cx] 45)) = wA at *
  go_upto_region 3 with (go_at_call 26; refine (alive_fold _).mono ?_; rintro e w1 ⟨rfl, hb1⟩)
  have s1 := bA.size
  have b1 : Below w.heap.size w w1 := bA.trans (hb1.mono s1)
  replace HBF1 := box_on HBF1 hb1
  replace HBG1 := box_on HBG1 hb1
  replace HF := RFlat.on HF hb1
  clear bA hb1 s1
  go_upto_region 4 with (first | (refine wpList_load_box rfl 26 _ rfl rfl (box_load Try.underlying26 (by kernel_rfl) rfl (by kernel_rfl) (box_on HBF1 (by (repeat' first | with_reducible (first | exact Below.refl _ _ | assumption | refine Below.alloc ?_ ?_ _ | refine below_drewN ?_ _ | refine Below.drew ?_ | refine Below.setCell ?_ ?_ _ | refine Below.trans ?_ (Below.mono (by with_reducible assumption) ?_)) | go_size)))) ?_) | (go_at_call 17; refine (CC.out _ b1).mono ?_; rintro e w2 ⟨rfl, hb2⟩))
  have s1 := b1.size
  have b2 : Below w.heap.size w w2 := b1.trans (hb2.mono s1)
  replace HBF1 := box_on HBF1 hb2
  replace HBG1 := box_on HBG1 hb2
  replace HF := RFlat.on HF hb2
  clear b1 hb2 s1
  have s2 := b2.size
  have ldf : ∀ u, Below w2.heap.size w2 u → (Go.Instr.loadAt 26 (.pointer (some ⟨w.heap.size, 0, none⟩))).run Try.prog u = .ok (.agg #[.slice Ac f.code.length cc, .slice As f.secret.length cs, .int .i64 f.params, .slice Av f.arrays.length cv]) u := fun u hu => box_load Try.underlying26 (by kernel_rfl) rfl (by kernel_rfl) (box_on HBF1 hu)
  have ldg : ∀ u, Below w2.heap.size w2 u → (Go.Instr.loadAt 45 (.pointer (some ⟨w.heap.size + 1, 0, none⟩))).run Try.prog u = .ok (.agg #[.slice Aw g.words.length cw, .slice Ax g.arrays.length cx]) u := fun u hu => box_load Try.underlying45 (by kernel_rfl) rfl (by kernel_rfl) (box_on HBG1 hu)
  have zb := box_lt HBG1
  have za := box_lt HBF1
  by_cases h0 : er = 0
  case neg => as_aux_lemma =>
    have g0 : (er != 0) = true := bne_iff_ne.2 h0
    clear h0
    refine wp_region_trail (fun w' => Below ((w2).heap.size) (w2) w') [(0, true), (1, true), (2, true), (3, true), (4, true), (5, true), (6, true), (7, true), (8, true), (9, true), (10, true), (11, true), (12, true)] (by kernel_rfl) (by kernel_rfl) (by kernel_rfl) (by decide) (by (repeat' first | with_reducible (first | exact Below.refl _ _ | assumption | refine Below.alloc ?_ ?_ _ | refine below_drewN ?_ _ | refine Below.drew ?_ | refine Below.setCell ?_ ?_ _ | refine Below.trans ?_ (Below.mono (by with_reducible assumption) ?_)) | go_size)) ?_
    apply trail_light
    case hi => (simp only [List.getElem?_toArray, List.getElem?_cons_zero, List.getElem?_cons_succ]; exact rfl)
    case hl => first | exact light_no (by rfl) | ((first | apply light_plain rfl | apply light_yes (by rfl)); intro w9 _; go_simp; try rfl)
    case hQ => exact fun _ _ _ h => h
    (try simp only [Act.put, List.setIfInBounds_toArray, List.set_cons_zero, List.set_cons_succ])
    apply trail_light
    case hi => (simp only [List.getElem?_toArray, List.getElem?_cons_zero, List.getElem?_cons_succ]; exact rfl)
    case hl => first | exact light_no (by rfl) | ((first | apply light_plain rfl | apply light_yes (by rfl)); intro w9 _; go_simp; try rfl)
    case hQ => exact fun _ _ _ h => h
    (try simp only [Act.put, List.setIfInBounds_toArray, List.set_cons_zero, List.set_cons_succ])
    apply trail_light
    case hi => (simp only [List.getElem?_toArray, List.getElem?_cons_zero, List.getElem?_cons_succ]; exact rfl)
    case hl => first | exact light_no (by rfl) | ((first | apply light_plain rfl | apply light_yes (by rfl)); intro w9 _; go_simp; try rfl)
    case hQ => exact fun _ _ _ h => h
    (try simp only [Act.put, List.setIfInBounds_toArray, List.set_cons_zero, List.set_cons_succ])
    apply trail_light
    case hi => (simp only [List.getElem?_toArray, List.getElem?_cons_zero, List.getElem?_cons_succ]; exact rfl)
    case hl => first | exact light_no (by rfl) | ((first | apply light_plain rfl | apply light_yes (by rfl)); intro w9 _; go_simp; try rfl)
    case hQ => exact fun _ _ _ h => h
    (try simp only [Act.put, List.setIfInBounds_toArray, List.set_cons_zero, List.set_cons_succ])
    apply trail_light
    case hi => (simp only [List.getElem?_toArray, List.getElem?_cons_zero, List.getElem?_cons_succ]; exact rfl)
    case hl => first | exact light_no (by rfl) | ((first | apply light_plain rfl | apply light_yes (by rfl)); intro w9 hb9; have hB9 : Below w2.heap.size w2 w9 := (by (repeat' first | with_reducible (first | exact Below.refl _ _ | assumption | refine Below.alloc ?_ ?_ _ | refine below_drewN ?_ _ | refine Below.drew ?_ | refine Below.setCell ?_ ?_ _ | refine Below.trans ?_ (Below.mono (by with_reducible assumption) ?_)) | go_size)); exact exec_load rfl rfl (by first | exact ldf w9 hB9 | exact ldt w9 hB9 | exact ldg w9 hB9 | exact ldi w9 hB9 | exact ldh w9 hB9)) | ((first | apply light_plain rfl | apply light_yes (by rfl)); intro w9 hb9; have hB9 : Below w2.heap.size w2 w9 := (by (repeat' first | with_reducible (first | exact Below.refl _ _ | assumption | refine Below.alloc ?_ ?_ _ | refine below_drewN ?_ _ | refine Below.drew ?_ | refine Below.setCell ?_ ?_ _ | refine Below.trans ?_ (Below.mono (by with_reducible assumption) ?_)) | go_size)); obtain ⟨kc9, kf9, s9⟩ := bfacts hb9; obtain ⟨kd9, kg9, _⟩ := bfacts hB9; go_simp; try rfl)
    case hQ => exact fun _ _ _ h => h
    (try simp only [Act.put, List.setIfInBounds_toArray, List.set_cons_zero, List.set_cons_succ])
    apply trail_light
    case hi => (simp only [List.getElem?_toArray, List.getElem?_cons_zero, List.getElem?_cons_succ]; exact rfl)
    case hl => first | exact light_no (by rfl) | ((first | apply light_plain rfl | apply light_yes (by rfl)); intro w9 hb9; have hB9 : Below w2.heap.size w2 w9 := (by (repeat' first | with_reducible (first | exact Below.refl _ _ | assumption | refine Below.alloc ?_ ?_ _ | refine below_drewN ?_ _ | refine Below.drew ?_ | refine Below.setCell ?_ ?_ _ | refine Below.trans ?_ (Below.mono (by with_reducible assumption) ?_)) | go_size)); obtain ⟨kc9, kf9, s9⟩ := bfacts hb9; obtain ⟨kd9, kg9, _⟩ := bfacts hB9; go_simp; try rfl)
    case hQ => exact fun _ _ _ h => h
    (try simp only [Act.put, List.setIfInBounds_toArray, List.set_cons_zero, List.set_cons_succ])
    apply trail_light
    case hi => (simp only [List.getElem?_toArray, List.getElem?_cons_zero, List.getElem?_cons_succ]; exact rfl)
    case hl => first | exact light_no (by rfl) | ((first | apply light_plain rfl | apply light_yes (by rfl)); intro w9 _; go_simp; try rfl)
    case hQ => exact fun _ _ _ h => h
    (try simp only [Act.put, List.setIfInBounds_toArray, List.set_cons_zero, List.set_cons_succ])
    apply trail_light
    case hi => (simp only [List.getElem?_toArray, List.getElem?_cons_zero, List.getElem?_cons_succ]; exact rfl)
    case hl => first | exact light_no (by rfl) | ((first | apply light_plain rfl | apply light_yes (by rfl)); intro w9 hb9; have hB9 : Below w2.heap.size w2 w9 := (by (repeat' first | with_reducible (first | exact Below.refl _ _ | assumption | refine Below.alloc ?_ ?_ _ | refine below_drewN ?_ _ | refine Below.drew ?_ | refine Below.setCell ?_ ?_ _ | refine Below.trans ?_ (Below.mono (by with_reducible assumption) ?_)) | go_size)); exact exec_load rfl rfl (by first | exact ldf w9 hB9 | exact ldt w9 hB9 | exact ldg w9 hB9 | exact ldi w9 hB9 | exact ldh w9 hB9)) | ((first | apply light_plain rfl | apply light_yes (by rfl)); intro w9 hb9; have hB9 : Below w2.heap.size w2 w9 := (by (repeat' first | with_reducible (first | exact Below.refl _ _ | assumption | refine Below.alloc ?_ ?_ _ | refine below_drewN ?_ _ | refine Below.drew ?_ | refine Below.setCell ?_ ?_ _ | refine Below.trans ?_ (Below.mono (by with_reducible assumption) ?_)) | go_size)); obtain ⟨kc9, kf9, s9⟩ := bfacts hb9; obtain ⟨kd9, kg9, _⟩ := bfacts hB9; go_simp; try rfl)
    case hQ => exact fun _ _ _ h => h
    (try simp only [Act.put, List.setIfInBounds_toArray, List.set_cons_zero, List.set_cons_succ])
    apply trail_light
    case hi => (simp only [List.getElem?_toArray, List.getElem?_cons_zero, List.getElem?_cons_succ]; exact rfl)
    case hl => first | exact light_no (by rfl) | ((first | apply light_plain rfl | apply light_yes (by rfl)); intro w9 _; go_simp; try rfl)
    case hQ => exact fun _ _ _ h => h
    (try simp only [Act.put, List.setIfInBounds_toArray, List.set_cons_zero, List.set_cons_succ])
    apply trail_light
    case hi => (simp only [List.getElem?_toArray, List.getElem?_cons_zero, List.getElem?_cons_succ]; exact rfl)
    case hl => first | exact light_no (by rfl) | ((first | apply light_plain rfl | apply light_yes (by rfl)); intro w9 hb9; have hB9 : Below w2.heap.size w2 w9 := (by (repeat' first | with_reducible (first | exact Below.refl _ _ | assumption | refine Below.alloc ?_ ?_ _ | refine below_drewN ?_ _ | refine Below.drew ?_ | refine Below.setCell ?_ ?_ _ | refine Below.trans ?_ (Below.mono (by with_reducible assumption) ?_)) | go_size)); exact exec_load rfl rfl (by first | exact ldf w9 hB9 | exact ldt w9 hB9 | exact ldg w9 hB9 | exact ldi w9 hB9 | exact ldh w9 hB9)) | ((first | apply light_plain rfl | apply light_yes (by rfl)); intro w9 hb9; have hB9 : Below w2.heap.size w2 w9 := (by (repeat' first | with_reducible (first | exact Below.refl _ _ | assumption | refine Below.alloc ?_ ?_ _ | refine below_drewN ?_ _ | refine Below.drew ?_ | refine Below.setCell ?_ ?_ _ | refine Below.trans ?_ (Below.mono (by with_reducible assumption) ?_)) | go_size)); obtain ⟨kc9, kf9, s9⟩ := bfacts hb9; obtain ⟨kd9, kg9, _⟩ := bfacts hB9; go_simp; try rfl)
    case hQ => exact fun _ _ _ h => h
    (try simp only [Act.put, List.setIfInBounds_toArray, List.set_cons_zero, List.set_cons_succ])
    apply trail_light
    case hi => (simp only [List.getElem?_toArray, List.getElem?_cons_zero, List.getElem?_cons_succ]; exact rfl)
    case hl => first | exact light_no (by rfl) | ((first | apply light_plain rfl | apply light_yes (by rfl)); intro w9 hb9; have hB9 : Below w2.heap.size w2 w9 := (by (repeat' first | with_reducible (first | exact Below.refl _ _ | assumption | refine Below.alloc ?_ ?_ _ | refine below_drewN ?_ _ | refine Below.drew ?_ | refine Below.setCell ?_ ?_ _ | refine Below.trans ?_ (Below.mono (by with_reducible assumption) ?_)) | go_size)); obtain ⟨kc9, kf9, s9⟩ := bfacts hb9; obtain ⟨kd9, kg9, _⟩ := bfacts hB9; go_simp; try rfl)
    case hQ => exact fun _ _ _ h => h
    (try simp only [Act.put, List.setIfInBounds_toArray, List.set_cons_zero, List.set_cons_succ])
    apply trail_light
    case hi => (simp only [List.getElem?_toArray, List.getElem?_cons_zero, List.getElem?_cons_succ]; exact rfl)
    case hl => first | exact light_no (by rfl) | ((first | apply light_plain rfl | apply light_yes (by rfl)); intro w9 _; go_simp; try rfl)
    case hQ => exact fun _ _ _ h => h
    (try simp only [Act.put, List.setIfInBounds_toArray, List.set_cons_zero, List.set_cons_succ])
    apply trail_light
    case hi => (simp only [List.getElem?_toArray, List.getElem?_cons_zero, List.getElem?_cons_succ]; exact rfl)
    case hl => first | exact light_no (by rfl) | ((first | apply light_plain rfl | apply light_yes (by rfl)); intro w9 _; go_simp; try rfl)
    case hQ => exact fun _ _ _ h => h
    (try simp only [Act.put, List.setIfInBounds_toArray, List.set_cons_zero, List.set_cons_succ])
    refine trail_nil ?_
    (try dsimp only)
    go_wp2_with fail
    go_ret
    exact ⟨rfl, by (repeat' first | with_reducible (first | exact Below.refl _ _ | assumption | refine Below.alloc ?_ ?_ _ | refine below_drewN ?_ _ | refine Below.drew ?_ | refine Below.setCell ?_ ?_ _ | refine Below.trans ?_ (Below.mono (by with_reducible assumption) ?_)) | go_size)⟩
  case pos =>
  subst h0
  have HR := Lib.hid (HRT.out rfl)
  clear HRT
  have f2 : w2.cell? ⟨w.heap.size, 2, none⟩ = some (.int .i64 f.params) := box_cell HBF1 2 rfl
  have f3 : w2.cell? ⟨w.heap.size, 3, none⟩ = some (.slice Av f.arrays.length cv) := box_cell HBF1 3 rfl
  obtain ⟨np, hnp⟩ : ∃ np : Nat, f.params = (np : Int) := ⟨f.params.toNat, by have := HR.out.p0; omega⟩
  have HNP := Lib.hid hnp
  have hnp2 : np ≤ 1048576 := by have := HR.out.p1; have := HBF.out; omega
  have hmk := params_make hnp.symm hnp2
  obtain ⟨ft, hft⟩ : ∃ ft, Ev.fits np f.arrays g = ft := ⟨_, rfl⟩
  have HFT := Lib.hid hft
  have CF : Hid (∀ (u : World) (vp : Value), Below w.heap.size w u → RVars u u.heap.size vp (List.replicate np default) → Calls Try.prog 22 #[.agg #[vp, .slice Av f.arrays.length cv, .slice none 0 0], .agg #[.slice Aw g.words.length cw, .slice Ax g.arrays.length cx]] u fun e w' => e = .returned (.int .i64 ft) ∧ Below u.heap.size u w') := by
    refine Lib.hid fun u vp hb h1 => ?_
    obtain ⟨_, _, _, e, _, _, h4⟩ := (RFlat.on HF0 hb).out
    injection e with e
    simp only [Array.mk.injEq, List.cons.injEq] at e
    obtain ⟨_, _, _, rfl, _⟩ := e
    have h := fits_any (List.replicate np default) f.arrays g vp _ (.slice none 0 0) _ u h1 h4 ⟨_, _, _, rfl⟩ (RGiven.on HG0 hb).out (by have := HBG.out; omega)
    rw [List.length_replicate, HFT.out] at h
    exact h
  clear hft hnp
  by_cases h0 : ft = 0
  case neg => as_aux_lemma =>
    have g3 : (ft != 0) = true := bne_iff_ne.2 h0
    clear h0
    refine wp_region_trail (fun w' => Below ((w2).heap.size) (w2) w') [(0, true), (1, true), (2, true), (3, true), (4, true), (6, true), (7, true), (9, true), (5, false), (8, true), (10, false), (11, true), (12, true)] (by kernel_rfl) (by kernel_rfl) (by kernel_rfl) (by decide) (by (repeat' first | with_reducible (first | exact Below.refl _ _ | assumption | refine Below.alloc ?_ ?_ _ | refine below_drewN ?_ _ | refine Below.drew ?_ | refine Below.setCell ?_ ?_ _ | refine Below.trans ?_ (Below.mono (by with_reducible assumption) ?_)) | go_size)) ?_
    apply trail_light
    case hi => (simp only [List.getElem?_toArray, List.getElem?_cons_zero, List.getElem?_cons_succ]; exact rfl)
    case hl => first | exact light_no (by rfl) | ((first | apply light_plain rfl | apply light_yes (by rfl)); intro w9 _; go_simp; try rfl)
    case hQ => exact fun _ _ _ h => h
    (try simp only [Act.put, List.setIfInBounds_toArray, List.set_cons_zero, List.set_cons_succ])
    apply trail_light
    case hi => (simp only [List.getElem?_toArray, List.getElem?_cons_zero, List.getElem?_cons_succ]; exact rfl)
    case hl => first | exact light_no (by rfl) | ((first | apply light_plain rfl | apply light_yes (by rfl)); intro w9 _; go_simp; try rfl)
    case hQ => exact fun _ _ _ h => h
    (try simp only [Act.put, List.setIfInBounds_toArray, List.set_cons_zero, List.set_cons_succ])
    apply trail_light
    case hi => (simp only [List.getElem?_toArray, List.getElem?_cons_zero, List.getElem?_cons_succ]; exact rfl)
    case hl => first | exact light_no (by rfl) | ((first | apply light_plain rfl | apply light_yes (by rfl)); intro w9 _; go_simp; try rfl)
    case hQ => exact fun _ _ _ h => h
    (try simp only [Act.put, List.setIfInBounds_toArray, List.set_cons_zero, List.set_cons_succ])
    apply trail_light
    case hi => (simp only [List.getElem?_toArray, List.getElem?_cons_zero, List.getElem?_cons_succ]; exact rfl)
    case hl => first | exact light_no (by rfl) | ((first | apply light_plain rfl | apply light_yes (by rfl)); intro w9 _; go_simp; try rfl)
    case hQ => exact fun _ _ _ h => h
    (try simp only [Act.put, List.setIfInBounds_toArray, List.set_cons_zero, List.set_cons_succ])
    apply trail_light
    case hi => (simp only [List.getElem?_toArray, List.getElem?_cons_zero, List.getElem?_cons_succ]; exact rfl)
    case hl => first | exact light_no (by rfl) | ((first | apply light_plain rfl | apply light_yes (by rfl)); intro w9 hb9; have hB9 : Below w2.heap.size w2 w9 := (by (repeat' first | with_reducible (first | exact Below.refl _ _ | assumption | refine Below.alloc ?_ ?_ _ | refine below_drewN ?_ _ | refine Below.drew ?_ | refine Below.setCell ?_ ?_ _ | refine Below.trans ?_ (Below.mono (by with_reducible assumption) ?_)) | go_size)); exact exec_load rfl rfl (by first | exact ldf w9 hB9 | exact ldt w9 hB9 | exact ldg w9 hB9 | exact ldi w9 hB9 | exact ldh w9 hB9)) | ((first | apply light_plain rfl | apply light_yes (by rfl)); intro w9 hb9; have hB9 : Below w2.heap.size w2 w9 := (by (repeat' first | with_reducible (first | exact Below.refl _ _ | assumption | refine Below.alloc ?_ ?_ _ | refine below_drewN ?_ _ | refine Below.drew ?_ | refine Below.setCell ?_ ?_ _ | refine Below.trans ?_ (Below.mono (by with_reducible assumption) ?_)) | go_size)); obtain ⟨kc9, kf9, s9⟩ := bfacts hb9; obtain ⟨kd9, kg9, _⟩ := bfacts hB9; go_simp; try rfl)
    case hQ => exact fun _ _ _ h => h
    (try simp only [Act.put, List.setIfInBounds_toArray, List.set_cons_zero, List.set_cons_succ])
    apply trail_light
    case hi => (simp only [List.getElem?_toArray, List.getElem?_cons_zero, List.getElem?_cons_succ]; exact rfl)
    case hl => first | exact light_no (by rfl) | ((first | apply light_plain rfl | apply light_yes (by rfl)); intro w9 _; go_simp; try rfl)
    case hQ => exact fun _ _ _ h => h
    (try simp only [Act.put, List.setIfInBounds_toArray, List.set_cons_zero, List.set_cons_succ])
    apply trail_light
    case hi => (simp only [List.getElem?_toArray, List.getElem?_cons_zero, List.getElem?_cons_succ]; exact rfl)
    case hl => first | exact light_no (by rfl) | ((first | apply light_plain rfl | apply light_yes (by rfl)); intro w9 hb9; have hB9 : Below w2.heap.size w2 w9 := (by (repeat' first | with_reducible (first | exact Below.refl _ _ | assumption | refine Below.alloc ?_ ?_ _ | refine below_drewN ?_ _ | refine Below.drew ?_ | refine Below.setCell ?_ ?_ _ | refine Below.trans ?_ (Below.mono (by with_reducible assumption) ?_)) | go_size)); exact exec_load rfl rfl (by first | exact ldf w9 hB9 | exact ldt w9 hB9 | exact ldg w9 hB9 | exact ldi w9 hB9 | exact ldh w9 hB9)) | ((first | apply light_plain rfl | apply light_yes (by rfl)); intro w9 hb9; have hB9 : Below w2.heap.size w2 w9 := (by (repeat' first | with_reducible (first | exact Below.refl _ _ | assumption | refine Below.alloc ?_ ?_ _ | refine below_drewN ?_ _ | refine Below.drew ?_ | refine Below.setCell ?_ ?_ _ | refine Below.trans ?_ (Below.mono (by with_reducible assumption) ?_)) | go_size)); obtain ⟨kc9, kf9, s9⟩ := bfacts hb9; obtain ⟨kd9, kg9, _⟩ := bfacts hB9; go_simp; try rfl)
    case hQ => exact fun _ _ _ h => h
    (try simp only [Act.put, List.setIfInBounds_toArray, List.set_cons_zero, List.set_cons_succ])
    apply trail_light
    case hi => (simp only [List.getElem?_toArray, List.getElem?_cons_zero, List.getElem?_cons_succ]; exact rfl)
    case hl => first | exact light_no (by rfl) | ((first | apply light_plain rfl | apply light_yes (by rfl)); intro w9 hb9; have hB9 : Below w2.heap.size w2 w9 := (by (repeat' first | with_reducible (first | exact Below.refl _ _ | assumption | refine Below.alloc ?_ ?_ _ | refine below_drewN ?_ _ | refine Below.drew ?_ | refine Below.setCell ?_ ?_ _ | refine Below.trans ?_ (Below.mono (by with_reducible assumption) ?_)) | go_size)); exact exec_load rfl rfl (by first | exact ldf w9 hB9 | exact ldt w9 hB9 | exact ldg w9 hB9 | exact ldi w9 hB9 | exact ldh w9 hB9)) | ((first | apply light_plain rfl | apply light_yes (by rfl)); intro w9 hb9; have hB9 : Below w2.heap.size w2 w9 := (by (repeat' first | with_reducible (first | exact Below.refl _ _ | assumption | refine Below.alloc ?_ ?_ _ | refine below_drewN ?_ _ | refine Below.drew ?_ | refine Below.setCell ?_ ?_ _ | refine Below.trans ?_ (Below.mono (by with_reducible assumption) ?_)) | go_size)); obtain ⟨kc9, kf9, s9⟩ := bfacts hb9; obtain ⟨kd9, kg9, _⟩ := bfacts hB9; go_simp; try rfl)
    case hQ => exact fun _ _ _ h => h
    (try simp only [Act.put, List.setIfInBounds_toArray, List.set_cons_zero, List.set_cons_succ])
    apply trail_heavy
    case hi => (simp only [List.getElem?_toArray, List.getElem?_cons_zero, List.getElem?_cons_succ]; exact rfl)
    go_wp2_with (first | (go_at_call 22; refine (CF.out _ _ (by (repeat' first | with_reducible (first | exact Below.refl _ _ | assumption | refine Below.alloc ?_ ?_ _ | refine below_drewN ?_ _ | refine Below.drew ?_ | refine Below.setCell ?_ ?_ _ | refine Below.trans ?_ (Below.mono (by with_reducible assumption) ?_)) | go_size)) (params_drew hnp2 _)).mono ?_; rintro e w6 ⟨rfl, hb6⟩; obtain ⟨kc6, kf6, s6⟩ := bfacts hb6; (try simp only [World.size_alloc, World.size_setCell, World.size_drew, World.heap_drewN, Nat.add_one_le_iff] at s6); skip) | fail)
    refine ⟨by (repeat' first | with_reducible (first | exact Below.refl _ _ | assumption | refine Below.alloc ?_ ?_ _ | refine below_drewN ?_ _ | refine Below.drew ?_ | refine Below.setCell ?_ ?_ _ | refine Below.trans ?_ (Below.mono (by with_reducible assumption) ?_)) | go_size), ?_⟩
    apply trail_light
    case hi => (simp only [List.getElem?_toArray, List.getElem?_cons_zero, List.getElem?_cons_succ]; exact rfl)
    case hl => first | exact light_no (by rfl) | ((first | apply light_plain rfl | apply light_yes (by rfl)); intro w9 _; go_simp; try rfl)
    case hQ => exact fun _ _ _ h => h
    (try simp only [Act.put, List.setIfInBounds_toArray, List.set_cons_zero, List.set_cons_succ])
    apply trail_heavy
    case hi => (simp only [List.getElem?_toArray, List.getElem?_cons_zero, List.getElem?_cons_succ]; exact rfl)
    go_wp2_with (first | (go_at_call 22; refine (CF.out _ _ (by (repeat' first | with_reducible (first | exact Below.refl _ _ | assumption | refine Below.alloc ?_ ?_ _ | refine below_drewN ?_ _ | refine Below.drew ?_ | refine Below.setCell ?_ ?_ _ | refine Below.trans ?_ (Below.mono (by with_reducible assumption) ?_)) | go_size)) (params_drew hnp2 _)).mono ?_; rintro e w6 ⟨rfl, hb6⟩; obtain ⟨kc6, kf6, s6⟩ := bfacts hb6; (try simp only [World.size_alloc, World.size_setCell, World.size_drew, World.heap_drewN, Nat.add_one_le_iff] at s6); skip) | fail)
    refine ⟨by (repeat' first | with_reducible (first | exact Below.refl _ _ | assumption | refine Below.alloc ?_ ?_ _ | refine below_drewN ?_ _ | refine Below.drew ?_ | refine Below.setCell ?_ ?_ _ | refine Below.trans ?_ (Below.mono (by with_reducible assumption) ?_)) | go_size), ?_⟩
    apply trail_light
    case hi => (simp only [List.getElem?_toArray, List.getElem?_cons_zero, List.getElem?_cons_succ]; exact rfl)
    case hl => first | exact light_no (by rfl) | ((first | apply light_plain rfl | apply light_yes (by rfl)); intro w9 _; go_simp; try rfl)
    case hQ => exact fun _ _ _ h => h
    (try simp only [Act.put, List.setIfInBounds_toArray, List.set_cons_zero, List.set_cons_succ])
    apply trail_light
    case hi => (simp only [List.getElem?_toArray, List.getElem?_cons_zero, List.getElem?_cons_succ]; exact rfl)
    case hl => first | exact light_no (by rfl) | ((first | apply light_plain rfl | apply light_yes (by rfl)); intro w9 _; go_simp; try rfl)
    case hQ => exact fun _ _ _ h => h
    (try simp only [Act.put, List.setIfInBounds_toArray, List.set_cons_zero, List.set_cons_succ])
    refine trail_nil ?_
    (try dsimp only)
    go_wp2_with fail
    go_ret
    exact ⟨rfl, by (repeat' first | with_reducible (first | exact Below.refl _ _ | assumption | refine Below.alloc ?_ ?_ _ | refine below_drewN ?_ _ | refine Below.drew ?_ | refine Below.setCell ?_ ?_ _ | refine Below.trans ?_ (Below.mono (by with_reducible assumption) ?_)) | go_size)⟩
  case pos =>
  subst h0
  refine wp_region_trail (fun w' => Below ((w2).heap.size) (w2) w') [(0, true), (1, true), (2, true), (3, true), (4, true), (6, true), (7, true), (9, true), (5, false), (8, true), (10, false), (11, true), (12, true)] (by kernel_rfl) (by kernel_rfl) (by kernel_rfl) (by decide) (by (repeat' first | with_reducible (first | exact Below.refl _ _ | assumption | refine Below.alloc ?_ ?_ _ | refine below_drewN ?_ _ | refine Below.drew ?_ | refine Below.setCell ?_ ?_ _ | refine Below.trans ?_ (Below.mono (by with_reducible assumption) ?_)) | go_size)) ?_
  apply trail_light
  case hi => (simp only [List.getElem?_toArray, List.getElem?_cons_zero, List.getElem?_cons_succ]; exact rfl)
  case hl => first | exact light_no (by rfl) | ((first | apply light_plain rfl | apply light_yes (by rfl)); intro w9 _; go_simp; try rfl)
  case hQ => exact fun _ _ _ h => h
  (try simp only [Act.put, List.setIfInBounds_toArray, List.set_cons_zero, List.set_cons_succ])
  apply trail_light
  case hi => (simp only [List.getElem?_toArray, List.getElem?_cons_zero, List.getElem?_cons_succ]; exact rfl)
  case hl => first | exact light_no (by rfl) | ((first | apply light_plain rfl | apply light_yes (by rfl)); intro w9 _; go_simp; try rfl)
  case hQ => exact fun _ _ _ h => h
  (try simp only [Act.put, List.setIfInBounds_toArray, List.set_cons_zero, List.set_cons_succ])
  apply trail_light
  case hi => (simp only [List.getElem?_toArray, List.getElem?_cons_zero, List.getElem?_cons_succ]; exact rfl)
  case hl => first | exact light_no (by rfl) | ((first | apply light_plain rfl | apply light_yes (by rfl)); intro w9 _; go_simp; try rfl)
  case hQ => exact fun _ _ _ h => h
  (try simp only [Act.put, List.setIfInBounds_toArray, List.set_cons_zero, List.set_cons_succ])
  apply trail_light
  case hi => (simp only [List.getElem?_toArray, List.getElem?_cons_zero, List.getElem?_cons_succ]; exact rfl)
  case hl => first | exact light_no (by rfl) | ((first | apply light_plain rfl | apply light_yes (by rfl)); intro w9 _; go_simp; try rfl)
  case hQ => exact fun _ _ _ h => h
  (try simp only [Act.put, List.setIfInBounds_toArray, List.set_cons_zero, List.set_cons_succ])
  apply trail_light
  case hi => (simp only [List.getElem?_toArray, List.getElem?_cons_zero, List.getElem?_cons_succ]; exact rfl)
  case hl => first | exact light_no (by rfl) | ((first | apply light_plain rfl | apply light_yes (by rfl)); intro w9 hb9; have hB9 : Below w2.heap.size w2 w9 := (by (repeat' first | with_reducible (first | exact Below.refl _ _ | assumption | refine Below.alloc ?_ ?_ _ | refine below_drewN ?_ _ | refine Below.drew ?_ | refine Below.setCell ?_ ?_ _ | refine Below.trans ?_ (Below.mono (by with_reducible assumption) ?_)) | go_size)); exact exec_load rfl rfl (by first | exact ldf w9 hB9 | exact ldt w9 hB9 | exact ldg w9 hB9 | exact ldi w9 hB9 | exact ldh w9 hB9)) | ((first | apply light_plain rfl | apply light_yes (by rfl)); intro w9 hb9; have hB9 : Below w2.heap.size w2 w9 := (by (repeat' first | with_reducible (first | exact Below.refl _ _ | assumption | refine Below.alloc ?_ ?_ _ | refine below_drewN ?_ _ | refine Below.drew ?_ | refine Below.setCell ?_ ?_ _ | refine Below.trans ?_ (Below.mono (by with_reducible assumption) ?_)) | go_size)); obtain ⟨kc9, kf9, s9⟩ := bfacts hb9; obtain ⟨kd9, kg9, _⟩ := bfacts hB9; go_simp; try rfl)
  case hQ => exact fun _ _ _ h => h
  (try simp only [Act.put, List.setIfInBounds_toArray, List.set_cons_zero, List.set_cons_succ])
  apply trail_light
  case hi => (simp only [List.getElem?_toArray, List.getElem?_cons_zero, List.getElem?_cons_succ]; exact rfl)
  case hl => first | exact light_no (by rfl) | ((first | apply light_plain rfl | apply light_yes (by rfl)); intro w9 _; go_simp; try rfl)
  case hQ => exact fun _ _ _ h => h
  (try simp only [Act.put, List.setIfInBounds_toArray, List.set_cons_zero, List.set_cons_succ])
  apply trail_light
  case hi => (simp only [List.getElem?_toArray, List.getElem?_cons_zero, List.getElem?_cons_succ]; exact rfl)
  case hl => first | exact light_no (by rfl) | ((first | apply light_plain rfl | apply light_yes (by rfl)); intro w9 hb9; have hB9 : Below w2.heap.size w2 w9 := (by (repeat' first | with_reducible (first | exact Below.refl _ _ | assumption | refine Below.alloc ?_ ?_ _ | refine below_drewN ?_ _ | refine Below.drew ?_ | refine Below.setCell ?_ ?_ _ | refine Below.trans ?_ (Below.mono (by with_reducible assumption) ?_)) | go_size)); exact exec_load rfl rfl (by first | exact ldf w9 hB9 | exact ldt w9 hB9 | exact ldg w9 hB9 | exact ldi w9 hB9 | exact ldh w9 hB9)) | ((first | apply light_plain rfl | apply light_yes (by rfl)); intro w9 hb9; have hB9 : Below w2.heap.size w2 w9 := (by (repeat' first | with_reducible (first | exact Below.refl _ _ | assumption | refine Below.alloc ?_ ?_ _ | refine below_drewN ?_ _ | refine Below.drew ?_ | refine Below.setCell ?_ ?_ _ | refine Below.trans ?_ (Below.mono (by with_reducible assumption) ?_)) | go_size)); obtain ⟨kc9, kf9, s9⟩ := bfacts hb9; obtain ⟨kd9, kg9, _⟩ := bfacts hB9; go_simp; try rfl)
  case hQ => exact fun _ _ _ h => h
  (try simp only [Act.put, List.setIfInBounds_toArray, List.set_cons_zero, List.set_cons_succ])
  apply trail_light
  case hi => (simp only [List.getElem?_toArray, List.getElem?_cons_zero, List.getElem?_cons_succ]; exact rfl)
  case hl => first | exact light_no (by rfl) | ((first | apply light_plain rfl | apply light_yes (by rfl)); intro w9 hb9; have hB9 : Below w2.heap.size w2 w9 := (by (repeat' first | with_reducible (first | exact Below.refl _ _ | assumption | refine Below.alloc ?_ ?_ _ | refine below_drewN ?_ _ | refine Below.drew ?_ | refine Below.setCell ?_ ?_ _ | refine Below.trans ?_ (Below.mono (by with_reducible assumption) ?_)) | go_size)); exact exec_load rfl rfl (by first | exact ldf w9 hB9 | exact ldt w9 hB9 | exact ldg w9 hB9 | exact ldi w9 hB9 | exact ldh w9 hB9)) | ((first | apply light_plain rfl | apply light_yes (by rfl)); intro w9 hb9; have hB9 : Below w2.heap.size w2 w9 := (by (repeat' first | with_reducible (first | exact Below.refl _ _ | assumption | refine Below.alloc ?_ ?_ _ | refine below_drewN ?_ _ | refine Below.drew ?_ | refine Below.setCell ?_ ?_ _ | refine Below.trans ?_ (Below.mono (by with_reducible assumption) ?_)) | go_size)); obtain ⟨kc9, kf9, s9⟩ := bfacts hb9; obtain ⟨kd9, kg9, _⟩ := bfacts hB9; go_simp; try rfl)
  case hQ => exact fun _ _ _ h => h
  (try simp only [Act.put, List.setIfInBounds_toArray, List.set_cons_zero, List.set_cons_succ])
  apply trail_heavy
  case hi => (simp only [List.getElem?_toArray, List.getElem?_cons_zero, List.getElem?_cons_succ]; exact rfl)
  go_wp2_with (first | (go_at_call 22; refine (CF.out _ _ (by (repeat' first | with_reducible (first | exact Below.refl _ _ | assumption | refine Below.alloc ?_ ?_ _ | refine below_drewN ?_ _ | refine Below.drew ?_ | refine Below.setCell ?_ ?_ _ | refine Below.trans ?_ (Below.mono (by with_reducible assumption) ?_)) | go_size)) (params_drew hnp2 _)).mono ?_; rintro e w6 ⟨rfl, hb6⟩; obtain ⟨kc6, kf6, s6⟩ := bfacts hb6; (try simp only [World.size_alloc, World.size_setCell, World.size_drew, World.heap_drewN, Nat.add_one_le_iff] at s6); skip) | fail)
  refine ⟨by (repeat' first | with_reducible (first | exact Below.refl _ _ | assumption | refine Below.alloc ?_ ?_ _ | refine below_drewN ?_ _ | refine Below.drew ?_ | refine Below.setCell ?_ ?_ _ | refine Below.trans ?_ (Below.mono (by with_reducible assumption) ?_)) | go_size), ?_⟩
  apply trail_light
  case hi => (simp only [List.getElem?_toArray, List.getElem?_cons_zero, List.getElem?_cons_succ]; exact rfl)
  case hl => first | exact light_no (by rfl) | ((first | apply light_plain rfl | apply light_yes (by rfl)); intro w9 _; go_simp; try rfl)
  case hQ => exact fun _ _ _ h => h
  (try simp only [Act.put, List.setIfInBounds_toArray, List.set_cons_zero, List.set_cons_succ])
  apply trail_heavy
  case hi => (simp only [List.getElem?_toArray, List.getElem?_cons_zero, List.getElem?_cons_succ]; exact rfl)
  go_wp2_with (first | (go_at_call 22; refine (CF.out _ _ (by (repeat' first | with_reducible (first | exact Below.refl _ _ | assumption | refine Below.alloc ?_ ?_ _ | refine below_drewN ?_ _ | refine Below.drew ?_ | refine Below.setCell ?_ ?_ _ | refine Below.trans ?_ (Below.mono (by with_reducible assumption) ?_)) | go_size)) (params_drew hnp2 _)).mono ?_; rintro e w6 ⟨rfl, hb6⟩; obtain ⟨kc6, kf6, s6⟩ := bfacts hb6; (try simp only [World.size_alloc, World.size_setCell, World.size_drew, World.heap_drewN, Nat.add_one_le_iff] at s6); skip) | fail)
  refine ⟨by (repeat' first | with_reducible (first | exact Below.refl _ _ | assumption | refine Below.alloc ?_ ?_ _ | refine below_drewN ?_ _ | refine Below.drew ?_ | refine Below.setCell ?_ ?_ _ | refine Below.trans ?_ (Below.mono (by with_reducible assumption) ?_)) | go_size), ?_⟩
  apply trail_light
  case hi => (simp only [List.getElem?_toArray, List.getElem?_cons_zero, List.getElem?_cons_succ]; exact rfl)
  case hl => first | exact light_no (by rfl) | ((first | apply light_plain rfl | apply light_yes (by rfl)); intro w9 _; go_simp; try rfl)
  case hQ => exact fun _ _ _ h => h
  (try simp only [Act.put, List.setIfInBounds_toArray, List.set_cons_zero, List.set_cons_succ])
  apply trail_light
  case hi => (simp only [List.getElem?_toArray, List.getElem?_cons_zero, List.getElem?_cons_succ]; exact rfl)
  case hl => first | exact light_no (by rfl) | ((first | apply light_plain rfl | apply light_yes (by rfl)); intro w9 _; go_simp; try rfl)
  case hQ => exact fun _ _ _ h => h
  (try simp only [Act.put, List.setIfInBounds_toArray, List.set_cons_zero, List.set_cons_succ])
  refine trail_nil ?_
  (try dsimp only)
  go_upto_region 6 with fail
  have bD : Below w2.heap.size w2 w6 := by (repeat' first | with_reducible (first | exact Below.refl _ _ | assumption | refine Below.alloc ?_ ?_ _ | refine below_drewN ?_ _ | refine Below.drew ?_ | refine Below.setCell ?_ ?_ _ | refine Below.trans ?_ (Below.mono (by with_reducible assumption) ?_)) | go_size)
  have b3 : Below w.heap.size w w6 := by (repeat' first | with_reducible (first | exact Below.refl _ _ | assumption | refine Below.alloc ?_ ?_ _ | refine below_drewN ?_ _ | refine Below.drew ?_ | refine Below.setCell ?_ ?_ _ | refine Below.trans ?_ (Below.mono (by with_reducible assumption) ?_)) | go_size)
  replace HBF1 := box_on HBF1 bD
  replace HBG1 := box_on HBG1 bD
  replace HF := RFlat.on HF bD
  clear ldf ldg f2 f3 bD hmk za zb b2 CF
  have HGV : Hid (Given f g) := Lib.hid (given_fits HNP.out HFT.out (by have := HBF.out; omega) (by have := HBG.out; omega))
  have HGD : Hid (Ev.FoldGood f (Ev.numbersF f) g ∧ Ev.FoldGood f (Ev.usedF f) g ∧ Ev.FoldGood f (Ev.foldF f) g) := Lib.hid (Ev.fold_goods HR.out (Ev.start_fine (by have h1 := HGV.out.words; have h2 := HR.out.p1; omega) HGV.out.wword HGV.out.arrays HGV.out.aword))
  obtain ⟨E, hE⟩ : ∃ E, (Ev.run f (List.replicate 18 0) g).1 = E := ⟨_, rfl⟩
  have HE := Lib.hid hE
  clear hE
  have CR1 : Hid (∀ u : World, Below w6.heap.size w6 u → Calls Try.prog 23 #[.agg #[.slice Ac f.code.length cc, .slice As f.secret.length cs, .int .i64 f.params, .slice Av f.arrays.length cv], .agg #[.int .i64 0, .int .i64 0, .int .i64 0, .int .i64 0, .int .i64 0, .int .i64 0, .int .i64 0, .int .i64 0, .int .i64 0, .int .i64 0, .int .i64 0, .int .i64 0, .int .i64 0, .int .i64 0, .int .i64 0, .int .i64 0, .int .i64 0, .int .i64 0], .agg #[.slice Aw g.words.length cw, .slice Ax g.arrays.length cx]] u fun e w' => ∃ A n c A2 n2 c2, e = .returned (.tuple #[.agg #[.int .i64 E.word, .bool E.trap, .slice A n c], .slice A2 n2 c2]) ∧ Hid (REnded w' (.agg #[.int .i64 E.word, .bool E.trap, .slice A n c]) E) ∧ Below u.heap.size u w') := by
    refine Lib.hid fun u hb => ?_
    exact refRun_told f (List.replicate 18 0) g _ _ u (RFlat.on HF hb).out (RGiven.on HG0 (b3.trans (hb.mono b3.size))).out rfl (by decide) HR.out HGV.out E HE.out
  go_upto_region 7 with (first | (refine wpList_load_box rfl 26 _ rfl rfl (box_load Try.underlying26 (by kernel_rfl) rfl (by kernel_rfl) (box_on HBF1 (by (repeat' first | with_reducible (first | exact Below.refl _ _ | assumption | refine Below.alloc ?_ ?_ _ | refine below_drewN ?_ _ | refine Below.drew ?_ | refine Below.setCell ?_ ?_ _ | refine Below.trans ?_ (Below.mono (by with_reducible assumption) ?_)) | go_size)))) ?_) | (refine wpList_load_box rfl 45 _ rfl rfl (box_load Try.underlying45 (by kernel_rfl) rfl (by kernel_rfl) (box_on HBG1 (by (repeat' first | with_reducible (first | exact Below.refl _ _ | assumption | refine Below.alloc ?_ ?_ _ | refine below_drewN ?_ _ | refine Below.drew ?_ | refine Below.setCell ?_ ?_ _ | refine Below.trans ?_ (Below.mono (by with_reducible assumption) ?_)) | go_size)))) ?_) | (go_at_call 23; refine (CR1.out _ (by (repeat' first | with_reducible (first | exact Below.refl _ _ | assumption | refine Below.alloc ?_ ?_ _ | refine below_drewN ?_ _ | refine Below.drew ?_ | refine Below.setCell ?_ ?_ _ | refine Below.trans ?_ (Below.mono (by with_reducible assumption) ?_)) | go_size))).mono ?_; rintro e w7 ⟨D1, m1, k1, D2, m2, k2, rfl, HD, hb7⟩))
  have s7 := hb7.size
  have bE : Below w7.heap.size w7 (w7.alloc (.cells #[.int .i64 E.word, .bool E.trap, .slice D1 m1 k1] 51)) := (Below.refl _ _).alloc (Nat.le_refl _) _
  have bF : Below w6.heap.size w6 (w7.alloc (.cells #[.int .i64 E.word, .bool E.trap, .slice D1 m1 k1] 51)) := by (repeat' first | with_reducible (first | exact Below.refl _ _ | assumption | refine Below.alloc ?_ ?_ _ | refine below_drewN ?_ _ | refine Below.drew ?_ | refine Below.setCell ?_ ?_ _ | refine Below.trans ?_ (Below.mono (by with_reducible assumption) ?_)) | go_size)
  have HBA := box_new w7 (.cells #[.int .i64 E.word, .bool E.trap, .slice D1 m1 k1] 51)
  replace HD := REnded.on HD bE
  replace HBF1 := box_on HBF1 bF
  replace HBG1 := box_on HBG1 bF
  replace HF := RFlat.on HF bF
  have s3 := b3.size
  have b4 : Below w.heap.size w (w7.alloc (.cells #[.int .i64 E.word, .bool E.trap, .slice D1 m1 k1] 51)) := b3.trans (bF.mono s3)
  clear hb7 bE CR1 s7 bF b3 s3
  generalize w7.alloc (.cells #[.int .i64 E.word, .bool E.trap, .slice D1 m1 k1] 51) = wC at *
  generalize w7.heap.size = ba at *
  have hn1 : f.secret.length ≤ 268435456 := by have := HBF.out; omega
  have hn2 : f.arrays.length ≤ 268435456 := by have := HBF.out; omega
  have C1 := Lib.hid (fun (u : World) (hb : Below wC.heap.size wC u) => numbersF_any f _ u (RFlat.on HF hb).out HR.out hn1 hn2)
  have C2 := Lib.hid (fun (u : World) (hb : Below wC.heap.size wC u) => usedF_any f _ u (RFlat.on HF hb).out HR.out hn1 hn2)
  have C3 := Lib.hid (fun (u : World) (hb : Below wC.heap.size wC u) => fold_any f _ u (RFlat.on HF hb).out HR.out hn1 hn2)
  clear hn1 hn2
  refine wp_region_first 8 (.int .i64 0) (some 50) (by kernel_rfl) (by kernel_rfl) (by kernel_rfl) (by kernel_rfl) (by kernel_rfl) (fun _ _ _ h => h) ⟨_, rfl, rfl, Or.inl ⟨rfl, fun w9 => by go_simp⟩⟩ ?_
  simp only [List.dropLast_cons_cons, List.dropLast_singleton]
  dsimp only [Act.put]
  (try simp only [Act.put, List.setIfInBounds_toArray, List.set_cons_zero, List.set_cons_succ])
  refine wpAny_flock_tail 6 (fun k => match k with | 0 => some (Hv.is (.agg #[.slice Ac f.code.length cc, .slice As f.secret.length cs, .int .i64 f.params, .slice Av f.arrays.length cv])) | 1 => some (Hv.flatR (Ev.numbersF f) (Ev.numbersF f).code.length f.secret f.params f.arrays) | 2 => some (Hv.is (.agg #[.slice Ac f.code.length cc, .slice As f.secret.length cs, .int .i64 f.params, .slice Av f.arrays.length cv])) | 3 => some (Hv.flatR (Ev.usedF f) (Ev.usedF f).code.length f.secret f.params f.arrays) | 4 => some (Hv.is (.agg #[.slice Ac f.code.length cc, .slice As f.secret.length cs, .int .i64 f.params, .slice Av f.arrays.length cv])) | 5 => some (Hv.flatR (Ev.foldF f) (Ev.foldF f).code.length f.secret f.params f.arrays) | _ => none) (by kernel_rfl) (by kernel_rfl) (by kernel_rfl) ?_
  simp only [List.take_succ_cons, List.take_zero, List.drop_succ_cons, List.drop_zero]
  refine flock_heavy _ rfl ?_ ?_
  · intro w9 hb9 hh9
    have hB9 : Below wC.heap.size wC w9 := (by (repeat' first | with_reducible (first | exact Below.refl _ _ | assumption | refine Below.alloc ?_ ?_ _ | refine below_drewN ?_ _ | refine Below.drew ?_ | refine Below.setCell ?_ ?_ _ | refine Below.trans ?_ (Below.mono (by with_reducible assumption) ?_)) | go_size))
    obtain ⟨kc9, kf9, s9⟩ := bfacts hb9
    obtain ⟨kd9, kg9, _⟩ := bfacts hB9
    skip
    (refine wpList_load_box rfl 26 _ rfl rfl (box_load Try.underlying26 (by kernel_rfl) rfl (by kernel_rfl) (box_on HBF1 hB9)) ?_)
    refine grewTo_at (by rfl) (by (repeat' first | with_reducible (first | exact Below.refl _ _ | assumption | refine Below.alloc ?_ ?_ _ | refine below_drewN ?_ _ | refine Below.drew ?_ | refine Below.setCell ?_ ?_ _ | refine Below.trans ?_ (Below.mono (by with_reducible assumption) ?_)) | go_size)) ?_
    exact rfl
  intro x0 ok0
  (try simp only [Act.put, List.setIfInBounds_toArray, List.set_cons_zero, List.set_cons_succ])
  (try dsimp only [Hv.own, Hv.is, Hv.lit, Hv.box, Hv.sl, Hv.flatR] at ok0)
  first | subst ok0 | (obtain ⟨A0, c0, ok0⟩ := ok0; subst ok0) | (obtain ⟨A0, ok0⟩ := ok0; subst ok0) | skip
  refine flock_heavy _ rfl ?_ ?_
  · intro w9 hb9 hh9
    have hB9 : Below wC.heap.size wC w9 := (by (repeat' first | with_reducible (first | exact Below.refl _ _ | assumption | refine Below.alloc ?_ ?_ _ | refine below_drewN ?_ _ | refine Below.drew ?_ | refine Below.setCell ?_ ?_ _ | refine Below.trans ?_ (Below.mono (by with_reducible assumption) ?_)) | go_size))
    obtain ⟨kc9, kf9, s9⟩ := bfacts hb9
    obtain ⟨kd9, kg9, _⟩ := bfacts hB9
    have r0 := hh9 _ (.head _) (by kernel_rfl); dsimp only [Hv.own, Hv.is, Hv.lit, Hv.box, Hv.sl, Hv.flatR] at r0; (first | replace r0 := lit_heap r0 | replace r0 := box_heap r0 | skip); skip
    go_wp2_with (go_at_call 27; refine (C1.out _ hB9).mono ?_; rintro e w6 ⟨v, rfl, hRR, _, hb6⟩; have HRR := Lib.hid hRR; obtain ⟨B1, d1, B2, d2, B3, d3, rfl⟩ := hRR.slices; clear hRR)
    refine grewTo_at (by rfl) (by (repeat' first | with_reducible (first | exact Below.refl _ _ | assumption | refine Below.alloc ?_ ?_ _ | refine below_drewN ?_ _ | refine Below.drew ?_ | refine Below.setCell ?_ ?_ _ | refine Below.trans ?_ (Below.mono (by with_reducible assumption) ?_)) | go_size)) ?_
    exact ⟨⟨(B1, d1), ((B2, d2), (B3, d3)), rfl⟩, HRR⟩
  intro x1 ok1
  (try simp only [Act.put, List.setIfInBounds_toArray, List.set_cons_zero, List.set_cons_succ])
  (try dsimp only [Hv.own, Hv.is, Hv.lit, Hv.box, Hv.sl, Hv.flatR] at ok1)
  first | subst ok1 | (obtain ⟨A1, c1, ok1⟩ := ok1; subst ok1) | (obtain ⟨A1, ok1⟩ := ok1; subst ok1) | skip
  refine flock_heavy _ rfl ?_ ?_
  · intro w9 hb9 hh9
    have hB9 : Below wC.heap.size wC w9 := (by (repeat' first | with_reducible (first | exact Below.refl _ _ | assumption | refine Below.alloc ?_ ?_ _ | refine below_drewN ?_ _ | refine Below.drew ?_ | refine Below.setCell ?_ ?_ _ | refine Below.trans ?_ (Below.mono (by with_reducible assumption) ?_)) | go_size))
    obtain ⟨kc9, kf9, s9⟩ := bfacts hb9
    obtain ⟨kd9, kg9, _⟩ := bfacts hB9
    skip
    (refine wpList_load_box rfl 26 _ rfl rfl (box_load Try.underlying26 (by kernel_rfl) rfl (by kernel_rfl) (box_on HBF1 hB9)) ?_)
    refine grewTo_at (by rfl) (by (repeat' first | with_reducible (first | exact Below.refl _ _ | assumption | refine Below.alloc ?_ ?_ _ | refine below_drewN ?_ _ | refine Below.drew ?_ | refine Below.setCell ?_ ?_ _ | refine Below.trans ?_ (Below.mono (by with_reducible assumption) ?_)) | go_size)) ?_
    exact rfl
  intro x2 ok2
  (try simp only [Act.put, List.setIfInBounds_toArray, List.set_cons_zero, List.set_cons_succ])
  (try dsimp only [Hv.own, Hv.is, Hv.lit, Hv.box, Hv.sl, Hv.flatR] at ok2)
  first | subst ok2 | (obtain ⟨A2, c2, ok2⟩ := ok2; subst ok2) | (obtain ⟨A2, ok2⟩ := ok2; subst ok2) | skip
  refine flock_heavy _ rfl ?_ ?_
  · intro w9 hb9 hh9
    have hB9 : Below wC.heap.size wC w9 := (by (repeat' first | with_reducible (first | exact Below.refl _ _ | assumption | refine Below.alloc ?_ ?_ _ | refine below_drewN ?_ _ | refine Below.drew ?_ | refine Below.setCell ?_ ?_ _ | refine Below.trans ?_ (Below.mono (by with_reducible assumption) ?_)) | go_size))
    obtain ⟨kc9, kf9, s9⟩ := bfacts hb9
    obtain ⟨kd9, kg9, _⟩ := bfacts hB9
    have r2 := hh9 _ (.head _) (by kernel_rfl); dsimp only [Hv.own, Hv.is, Hv.lit, Hv.box, Hv.sl, Hv.flatR] at r2; (first | replace r2 := lit_heap r2 | replace r2 := box_heap r2 | skip); have r1 := hh9 _ (.tail _ (.head _)) (by kernel_rfl); dsimp only [Hv.own, Hv.is, Hv.lit, Hv.box, Hv.sl, Hv.flatR] at r1; (first | replace r1 := lit_heap r1 | replace r1 := box_heap r1 | skip); have r0 := hh9 _ (.tail _ (.tail _ (.head _))) (by kernel_rfl); dsimp only [Hv.own, Hv.is, Hv.lit, Hv.box, Hv.sl, Hv.flatR] at r0; (first | replace r0 := lit_heap r0 | replace r0 := box_heap r0 | skip); skip
    go_wp2_with (go_at_call 28; refine (C2.out _ hB9).mono ?_; rintro e w6 ⟨v, rfl, hRR, _, hb6⟩; have HRR := Lib.hid hRR; obtain ⟨B1, d1, B2, d2, B3, d3, rfl⟩ := hRR.slices; clear hRR)
    refine grewTo_at (by rfl) (by (repeat' first | with_reducible (first | exact Below.refl _ _ | assumption | refine Below.alloc ?_ ?_ _ | refine below_drewN ?_ _ | refine Below.drew ?_ | refine Below.setCell ?_ ?_ _ | refine Below.trans ?_ (Below.mono (by with_reducible assumption) ?_)) | go_size)) ?_
    exact ⟨⟨(B1, d1), ((B2, d2), (B3, d3)), rfl⟩, HRR⟩
  intro x3 ok3
  (try simp only [Act.put, List.setIfInBounds_toArray, List.set_cons_zero, List.set_cons_succ])
  (try dsimp only [Hv.own, Hv.is, Hv.lit, Hv.box, Hv.sl, Hv.flatR] at ok3)
  first | subst ok3 | (obtain ⟨A3, c3, ok3⟩ := ok3; subst ok3) | (obtain ⟨A3, ok3⟩ := ok3; subst ok3) | skip
  refine flock_heavy _ rfl ?_ ?_
  · intro w9 hb9 hh9
    have hB9 : Below wC.heap.size wC w9 := (by (repeat' first | with_reducible (first | exact Below.refl _ _ | assumption | refine Below.alloc ?_ ?_ _ | refine below_drewN ?_ _ | refine Below.drew ?_ | refine Below.setCell ?_ ?_ _ | refine Below.trans ?_ (Below.mono (by with_reducible assumption) ?_)) | go_size))
    obtain ⟨kc9, kf9, s9⟩ := bfacts hb9
    obtain ⟨kd9, kg9, _⟩ := bfacts hB9
    skip
    (refine wpList_load_box rfl 26 _ rfl rfl (box_load Try.underlying26 (by kernel_rfl) rfl (by kernel_rfl) (box_on HBF1 hB9)) ?_)
    refine grewTo_at (by rfl) (by (repeat' first | with_reducible (first | exact Below.refl _ _ | assumption | refine Below.alloc ?_ ?_ _ | refine below_drewN ?_ _ | refine Below.drew ?_ | refine Below.setCell ?_ ?_ _ | refine Below.trans ?_ (Below.mono (by with_reducible assumption) ?_)) | go_size)) ?_
    exact rfl
  intro x4 ok4
  (try simp only [Act.put, List.setIfInBounds_toArray, List.set_cons_zero, List.set_cons_succ])
  (try dsimp only [Hv.own, Hv.is, Hv.lit, Hv.box, Hv.sl, Hv.flatR] at ok4)
  first | subst ok4 | (obtain ⟨A4, c4, ok4⟩ := ok4; subst ok4) | (obtain ⟨A4, ok4⟩ := ok4; subst ok4) | skip
  refine flock_heavy _ rfl ?_ ?_
  · intro w9 hb9 hh9
    have hB9 : Below wC.heap.size wC w9 := (by (repeat' first | with_reducible (first | exact Below.refl _ _ | assumption | refine Below.alloc ?_ ?_ _ | refine below_drewN ?_ _ | refine Below.drew ?_ | refine Below.setCell ?_ ?_ _ | refine Below.trans ?_ (Below.mono (by with_reducible assumption) ?_)) | go_size))
    obtain ⟨kc9, kf9, s9⟩ := bfacts hb9
    obtain ⟨kd9, kg9, _⟩ := bfacts hB9
    have r4 := hh9 _ (.head _) (by kernel_rfl); dsimp only [Hv.own, Hv.is, Hv.lit, Hv.box, Hv.sl, Hv.flatR] at r4; (first | replace r4 := lit_heap r4 | replace r4 := box_heap r4 | skip); have r3 := hh9 _ (.tail _ (.head _)) (by kernel_rfl); dsimp only [Hv.own, Hv.is, Hv.lit, Hv.box, Hv.sl, Hv.flatR] at r3; (first | replace r3 := lit_heap r3 | replace r3 := box_heap r3 | skip); have r2 := hh9 _ (.tail _ (.tail _ (.head _))) (by kernel_rfl); dsimp only [Hv.own, Hv.is, Hv.lit, Hv.box, Hv.sl, Hv.flatR] at r2; (first | replace r2 := lit_heap r2 | replace r2 := box_heap r2 | skip); have r1 := hh9 _ (.tail _ (.tail _ (.tail _ (.head _)))) (by kernel_rfl); dsimp only [Hv.own, Hv.is, Hv.lit, Hv.box, Hv.sl, Hv.flatR] at r1; (first | replace r1 := lit_heap r1 | replace r1 := box_heap r1 | skip); have r0 := hh9 _ (.tail _ (.tail _ (.tail _ (.tail _ (.head _))))) (by kernel_rfl); dsimp only [Hv.own, Hv.is, Hv.lit, Hv.box, Hv.sl, Hv.flatR] at r0; (first | replace r0 := lit_heap r0 | replace r0 := box_heap r0 | skip); skip
    go_wp2_with (go_at_call 29; refine (C3.out _ hB9).mono ?_; rintro e w6 ⟨v, rfl, hRR, _, hb6⟩; have HRR := Lib.hid hRR; obtain ⟨B1, d1, B2, d2, B3, d3, rfl⟩ := hRR.slices; clear hRR)
    refine grewTo_at (by rfl) (by (repeat' first | with_reducible (first | exact Below.refl _ _ | assumption | refine Below.alloc ?_ ?_ _ | refine below_drewN ?_ _ | refine Below.drew ?_ | refine Below.setCell ?_ ?_ _ | refine Below.trans ?_ (Below.mono (by with_reducible assumption) ?_)) | go_size)) ?_
    exact ⟨⟨(B1, d1), ((B2, d2), (B3, d3)), rfl⟩, HRR⟩
  intro x5 ok5
  (try simp only [Act.put, List.setIfInBounds_toArray, List.set_cons_zero, List.set_cons_succ])
  (try dsimp only [Hv.own, Hv.is, Hv.lit, Hv.box, Hv.sl, Hv.flatR] at ok5)
  first | subst ok5 | (obtain ⟨A5, c5, ok5⟩ := ok5; subst ok5) | (obtain ⟨A5, ok5⟩ := ok5; subst ok5) | skip
  refine flock_nil ?_
  intro w9 hb9 hh9
  have hB9 : Below wC.heap.size wC w9 := (by (repeat' first | with_reducible (first | exact Below.refl _ _ | assumption | refine Below.alloc ?_ ?_ _ | refine below_drewN ?_ _ | refine Below.drew ?_ | refine Below.setCell ?_ ?_ _ | refine Below.trans ?_ (Below.mono (by with_reducible assumption) ?_)) | go_size))
  have r5 := hh9 _ (.head _); dsimp only [Hv.own, Hv.is, Hv.lit, Hv.box, Hv.sl, Hv.flatR] at r5; (first | replace r5 := lit_heap r5 | replace r5 := box_heap r5 | skip); have r4 := hh9 _ (.tail _ (.head _)); dsimp only [Hv.own, Hv.is, Hv.lit, Hv.box, Hv.sl, Hv.flatR] at r4; (first | replace r4 := lit_heap r4 | replace r4 := box_heap r4 | skip); have r3 := hh9 _ (.tail _ (.tail _ (.head _))); dsimp only [Hv.own, Hv.is, Hv.lit, Hv.box, Hv.sl, Hv.flatR] at r3; (first | replace r3 := lit_heap r3 | replace r3 := box_heap r3 | skip); have r2 := hh9 _ (.tail _ (.tail _ (.tail _ (.head _)))); dsimp only [Hv.own, Hv.is, Hv.lit, Hv.box, Hv.sl, Hv.flatR] at r2; (first | replace r2 := lit_heap r2 | replace r2 := box_heap r2 | skip); have r1 := hh9 _ (.tail _ (.tail _ (.tail _ (.tail _ (.head _))))); dsimp only [Hv.own, Hv.is, Hv.lit, Hv.box, Hv.sl, Hv.flatR] at r1; (first | replace r1 := lit_heap r1 | replace r1 := box_heap r1 | skip); have r0 := hh9 _ (.tail _ (.tail _ (.tail _ (.tail _ (.tail _ (.head _)))))); dsimp only [Hv.own, Hv.is, Hv.lit, Hv.box, Hv.sl, Hv.flatR] at r0; (first | replace r0 := lit_heap r0 | replace r0 := box_heap r0 | skip); clear hh9
  (try dsimp only)
  obtain ⟨a1, n1⟩ := A1
  obtain ⟨⟨b1, m1⟩, ⟨d1, k1⟩⟩ := c1
  obtain ⟨a2, n2⟩ := A3
  obtain ⟨⟨b2, m2⟩, ⟨d2, k2⟩⟩ := c3
  obtain ⟨a3, n3⟩ := A5
  obtain ⟨⟨b3, m3⟩, ⟨d3, k3⟩⟩ := c5
  dsimp only at r1 r3 r5
  have R1 := r1.2
  have R2 := r3.2
  have R3 := r5.2
  obtain ⟨G1, G2, G3⟩ := HGD.out
  replace G1 := Lib.hid G1
  replace G2 := Lib.hid G2
  replace G3 := Lib.hid G3
  have s4 := b4.size
  have b5 : Below w.heap.size w w9 := b4.trans (hB9.mono s4)
  replace HBF1 := box_on HBF1 hB9
  replace HBG1 := box_on HBG1 hB9
  replace HBA := box_on HBA hB9
  replace HF := RFlat.on HF hB9
  replace HD := REnded.on HD hB9
  clear r0 r2 r4 r1 r3 r5 HGD C1 C2 C3 hb9 hB9 b4 s4
  dsimp only
  generalize Ev.numbersF f = x1 at *
  generalize Ev.usedF f = x2 at *
  generalize Ev.foldF f = x3 at *
  go_wp2_with fail
  have bS : Below w9.heap.size w9 (w9.alloc (.cells #[.slice a1 x1.code.length n1, .slice b1 f.secret.length m1, .int .i64 f.params, .slice d1 f.arrays.length k1, .slice a2 x2.code.length n2, .slice b2 f.secret.length m2, .int .i64 f.params, .slice d2 f.arrays.length k2, .slice a3 x3.code.length n3, .slice b3 f.secret.length m3, .int .i64 f.params, .slice d3 f.arrays.length k3] 26)) := (Below.refl _ _).alloc (Nat.le_refl _) _
  have HBS := box_new w9 (.cells #[.slice a1 x1.code.length n1, .slice b1 f.secret.length m1, .int .i64 f.params, .slice d1 f.arrays.length k1, .slice a2 x2.code.length n2, .slice b2 f.secret.length m2, .int .i64 f.params, .slice d2 f.arrays.length k2, .slice a3 x3.code.length n3, .slice b3 f.secret.length m3, .int .i64 f.params, .slice d3 f.arrays.length k3] 26)
  replace HBF1 := box_on HBF1 bS
  replace HBG1 := box_on HBG1 bS
  replace HBA := box_on HBA bS
  replace HF := RFlat.on HF bS
  replace HD := REnded.on HD bS
  replace R1 := RFlat.on R1 bS
  replace R2 := RFlat.on R2 bS
  replace R3 := RFlat.on R3 bS
  have s5 := b5.size
  have b6 : Below w.heap.size w (w9.alloc (.cells #[.slice a1 x1.code.length n1, .slice b1 f.secret.length m1, .int .i64 f.params, .slice d1 f.arrays.length k1, .slice a2 x2.code.length n2, .slice b2 f.secret.length m2, .int .i64 f.params, .slice d2 f.arrays.length k2, .slice a3 x3.code.length n3, .slice b3 f.secret.length m3, .int .i64 f.params, .slice d3 f.arrays.length k3] 26)) := b5.trans (bS.mono s5)
  clear bS b5 s5
  generalize w9.alloc (.cells #[.slice a1 x1.code.length n1, .slice b1 f.secret.length m1, .int .i64 f.params, .slice d1 f.arrays.length k1, .slice a2 x2.code.length n2, .slice b2 f.secret.length m2, .int .i64 f.params, .slice d2 f.arrays.length k2, .slice a3 x3.code.length n3, .slice b3 f.secret.length m3, .int .i64 f.params, .slice d3 f.arrays.length k3] 26) = wD at *
  generalize w9.heap.size = bs at *
  have HEL : Hid (∀ j : Nat, j < 3 → ∃ x A1 c1 A2 c2 A3 c3, Hid (Ev.FoldGood f x g) ∧ Hid (RFlat wD wD.heap.size (.agg #[.slice A1 x.code.length c1, .slice A2 f.secret.length c2, .int .i64 f.params, .slice A3 f.arrays.length c3]) x) ∧ Hid (∀ u, Below wD.heap.size wD u → ∀ o : Nat, o = j * 4 → (Go.Instr.loadAt 26 (.pointer (some ⟨bs, o, none⟩))).run Try.prog u = .ok (.agg #[.slice A1 x.code.length c1, .slice A2 f.secret.length c2, .int .i64 f.params, .slice A3 f.arrays.length c3]) u)) := Lib.hid (by
    intro j hj
    rcases (show j = 0 ∨ j = 1 ∨ j = 2 by omega) with rfl | rfl | rfl
    · exact ⟨x1, a1, n1, b1, m1, d1, k1, G1, R1, Lib.hid fun u hu o ho => by subst ho; exact part_load Try.underlying26 (by kernel_rfl) rfl (by kernel_rfl) HBS part0 hu⟩
    · exact ⟨x2, a2, n2, b2, m2, d2, k2, G2, R2, Lib.hid fun u hu o ho => by subst ho; exact part_load Try.underlying26 (by kernel_rfl) rfl (by kernel_rfl) HBS part4 hu⟩
    · exact ⟨x3, a3, n3, b3, m3, d3, k3, G3, R3, Lib.hid fun u hu o ho => by subst ho; exact part_load Try.underlying26 (by kernel_rfl) rfl (by kernel_rfl) HBS part8 hu⟩)
  clear HBS G1 G2 G3 R1 R2 R3
  have s6 := b6.size
  go_loopw [50] (fun jj wr => ∃ j : Nat, j ≤ 3 ∧ jj = .int .i64 (j : Int) ∧ Below wD.heap.size wD wr) (fun jj _ => 3 - (intOf jj).toNat)
  case atStart => exact ⟨0, by omega, rfl, by (repeat' first | with_reducible (first | exact Below.refl _ _ | assumption | refine Below.alloc ?_ ?_ _ | refine below_drewN ?_ _ | refine Below.drew ?_ | refine Below.setCell ?_ ?_ _ | refine Below.trans ?_ (Below.mono (by with_reducible assumption) ?_)) | go_size)⟩
  case round =>
    obtain ⟨j, hj, rfl, hB⟩ := hrel
    have sB := hB.size
    by_cases hlt : j < 3
    case neg =>
      go_wp2_with fail
      go_ret
      exact ⟨rfl, by (repeat' first | with_reducible (first | exact Below.refl _ _ | assumption | refine Below.alloc ?_ ?_ _ | refine below_drewN ?_ _ | refine Below.drew ?_ | refine Below.setCell ?_ ?_ _ | refine Below.trans ?_ (Below.mono (by with_reducible assumption) ?_)) | go_size)⟩
    case pos =>
    obtain ⟨x, A1, c1, A2, c2, A3, c3, G, R, LX⟩ := HEL.out j hlt
    clear HEL
    go_upto_region 10 with (refine wpList_load_box rfl 26 _ rfl rfl (LX.out _ hB _ (by omega)) ?_)
    have bX : Below wr.heap.size wr (wr.alloc (.cells #[.slice A1 x.code.length c1, .slice A2 f.secret.length c2, .int .i64 f.params, .slice A3 f.arrays.length c3] 26)) := (Below.refl _ _).alloc (Nat.le_refl _) _
    have HBX := box_new wr (.cells #[.slice A1 x.code.length c1, .slice A2 f.secret.length c2, .int .i64 f.params, .slice A3 f.arrays.length c3] 26)
    have b7 : Below wD.heap.size wD (wr.alloc (.cells #[.slice A1 x.code.length c1, .slice A2 f.secret.length c2, .int .i64 f.params, .slice A3 f.arrays.length c3] 26)) := hB.trans (bX.mono sB)
    clear bX hB LX sB
    generalize wr.alloc (.cells #[.slice A1 x.code.length c1, .slice A2 f.secret.length c2, .int .i64 f.params, .slice A3 f.arrays.length c3] 26) = wE at *
    generalize wr.heap.size = bx at *
    have CX := Lib.hid (fun (u : World) (hb : Below wD.heap.size wD u) => check_right x _ u (RFlat.on R hb).out G.out.right)
    go_upto_region 11 with (first | (refine wpList_load_box rfl 26 _ rfl rfl (box_load Try.underlying26 (by kernel_rfl) rfl (by kernel_rfl) (box_on HBX (by (repeat' first | with_reducible (first | exact Below.refl _ _ | assumption | refine Below.alloc ?_ ?_ _ | refine below_drewN ?_ _ | refine Below.drew ?_ | refine Below.setCell ?_ ?_ _ | refine Below.trans ?_ (Below.mono (by with_reducible assumption) ?_)) | go_size)))) ?_) | (go_at_call 17; refine (CX.out _ b7).mono ?_; rintro e w5 ⟨rfl, hb5⟩))
    have s7 := b7.size
    replace HBX := box_on HBX hb5
    replace b7 : Below wD.heap.size wD w5 := b7.trans (hb5.mono s7)
    clear hb5 CX s7
    have f0 : w5.cell? ⟨w.heap.size, 0, none⟩ = some (.slice Ac f.code.length cc) := box_cell (box_on HBF1 b7) 0 rfl
    have f2 : w5.cell? ⟨w.heap.size, 2, none⟩ = some (.int .i64 f.params) := box_cell (box_on HBF1 b7) 2 rfl
    have f3 : w5.cell? ⟨w.heap.size, 3, none⟩ = some (.slice Av f.arrays.length cv) := box_cell (box_on HBF1 b7) 3 rfl
    have q0 : w5.cell? ⟨bx, 0, none⟩ = some (.slice A1 x.code.length c1) := box_cell HBX 0 rfl
    have q2 : w5.cell? ⟨bx, 2, none⟩ = some (.int .i64 f.params) := box_cell HBX 2 rfl
    have q3 : w5.cell? ⟨bx, 3, none⟩ = some (.slice A3 f.arrays.length c3) := box_cell HBX 3 rfl
    have gle : decide ((f.code.length : Int) < (x.code.length : Int)) = false := decide_eq_false (by have := G.out.less; omega)
    have gnp : (f.params != f.params) = false := by simp
    have gl2 : x.code.length ≤ f.code.length := G.out.less
    have CSV : Hid (Calls Try.prog 20 #[.slice A3 f.arrays.length c3, .slice Av f.arrays.length cv] w5 fun e w' => e = .returned (.bool true) ∧ ∃ n, w' = w5.drewN n) :=
      Lib.hid ((sameVars_any x.arrays f.arrays _ _ w5 (vars_of (RFlat.on R b7).out) (vars_of (RFlat.on HF b7).out)).mono fun _ _ ⟨h, hb⟩ => ⟨by rw [h, G.out.arrays]; simp, hb⟩)
    go_upto_region 13 with (go_at_call 20; refine CSV.out.mono ?_; rintro e w' ⟨rfl, n6, rfl⟩)
    have HGX : Hid (Given x g) := Lib.hid ⟨by rw [G.out.params]; exact HGV.out.words, by rw [G.out.arrays]; exact HGV.out.arrays, HGV.out.wword, HGV.out.aword, HGV.out.small, HGV.out.few, by rw [G.out.secret]; exact HGV.out.slots⟩
    have CR2 : Hid (∀ u : World, Below wD.heap.size wD u → Calls Try.prog 23 #[.agg #[.slice A1 x.code.length c1, .slice A2 f.secret.length c2, .int .i64 f.params, .slice A3 f.arrays.length c3], .agg #[.int .i64 0, .int .i64 0, .int .i64 0, .int .i64 0, .int .i64 0, .int .i64 0, .int .i64 0, .int .i64 0, .int .i64 0, .int .i64 0, .int .i64 0, .int .i64 0, .int .i64 0, .int .i64 0, .int .i64 0, .int .i64 0, .int .i64 0, .int .i64 0], .agg #[.slice Aw g.words.length cw, .slice Ax g.arrays.length cx]] u fun e w' => ∃ A n c A2 n2 c2, e = .returned (.tuple #[.agg #[.int .i64 E.word, .bool E.trap, .slice A n c], .slice A2 n2 c2]) ∧ Hid (REnded w' (.agg #[.int .i64 E.word, .bool E.trap, .slice A n c]) E) ∧ Below u.heap.size u w') := by
      refine Lib.hid fun u hb => ?_
      exact refRun_told x (List.replicate 18 0) g _ _ u (RFlat.on R hb).out (RGiven.on HG0 (b6.trans (hb.mono s6))).out rfl (by decide) G.out.right HGX.out E ((G.out.same _).symm.trans HE.out)
    clear f0 f2 f3 q0 q2 q3 gle gnp gl2 CSV
    have b8 : Below wD.heap.size wD (w5.drewN n6) := by (repeat' first | with_reducible (first | exact Below.refl _ _ | assumption | refine Below.alloc ?_ ?_ _ | refine below_drewN ?_ _ | refine Below.drew ?_ | refine Below.setCell ?_ ?_ _ | refine Below.trans ?_ (Below.mono (by with_reducible assumption) ?_)) | go_size)
    replace HBX := box_on HBX (below_drewN (Below.refl _ _) n6)
    clear b7
    generalize w5.drewN n6 = wF at *
    go_upto_region 14 with (first | (refine wpList_load_box rfl 26 _ rfl rfl (box_load Try.underlying26 (by kernel_rfl) rfl (by kernel_rfl) (box_on HBX (by (repeat' first | with_reducible (first | exact Below.refl _ _ | assumption | refine Below.alloc ?_ ?_ _ | refine below_drewN ?_ _ | refine Below.drew ?_ | refine Below.setCell ?_ ?_ _ | refine Below.trans ?_ (Below.mono (by with_reducible assumption) ?_)) | go_size)))) ?_) | (refine wpList_load_box rfl 45 _ rfl rfl (box_load Try.underlying45 (by kernel_rfl) rfl (by kernel_rfl) (box_on HBG1 (by (repeat' first | with_reducible (first | exact Below.refl _ _ | assumption | refine Below.alloc ?_ ?_ _ | refine below_drewN ?_ _ | refine Below.drew ?_ | refine Below.setCell ?_ ?_ _ | refine Below.trans ?_ (Below.mono (by with_reducible assumption) ?_)) | go_size)))) ?_) | (go_at_call 23; refine (CR2.out _ b8).mono ?_; rintro e w8 ⟨D3, m3, k3, D4, m4, k4, rfl, HD2, hb8⟩))
    have s8 := b8.size
    have s9 := hb8.size
    have bE : Below w8.heap.size w8 (w8.alloc (.cells #[.int .i64 E.word, .bool E.trap, .slice D3 m3 k3] 51)) := (Below.refl _ _).alloc (Nat.le_refl _) _
    have bG : Below wD.heap.size wD (w8.alloc (.cells #[.int .i64 E.word, .bool E.trap, .slice D3 m3 k3] 51)) := (b8.trans (hb8.mono s8)).alloc (by omega) _
    have HBB := box_new w8 (.cells #[.int .i64 E.word, .bool E.trap, .slice D3 m3 k3] 51)
    replace HD := REnded.on HD bG
    replace HD2 := REnded.on HD2 bE
    replace HBA := box_on HBA bG
    clear hb8 bE CR2 s8 s9 b8
    generalize w8.alloc (.cells #[.int .i64 E.word, .bool E.trap, .slice D3 m3 k3] 51) = wG at *
    have sG := bG.size
    go_wp2_with (first | (refine wpList_load_box rfl 51 _ rfl rfl (box_load Try.underlying51 (by kernel_rfl) rfl (by kernel_rfl) (box_on HBA (by (repeat' first | with_reducible (first | exact Below.refl _ _ | assumption | refine Below.alloc ?_ ?_ _ | refine below_drewN ?_ _ | refine Below.drew ?_ | refine Below.setCell ?_ ?_ _ | refine Below.trans ?_ (Below.mono (by with_reducible assumption) ?_)) | go_size)))) ?_) | (refine wpList_load_box rfl 51 _ rfl rfl (box_load Try.underlying51 (by kernel_rfl) rfl (by kernel_rfl) (box_on HBB (by (repeat' first | with_reducible (first | exact Below.refl _ _ | assumption | refine Below.alloc ?_ ?_ _ | refine below_drewN ?_ _ | refine Below.drew ?_ | refine Below.setCell ?_ ?_ _ | refine Below.trans ?_ (Below.mono (by with_reducible assumption) ?_)) | go_size)))) ?_) | (go_at_call 24; refine (sameEnded_same E _ _ _ HD.out HD2.out).mono ?_; rintro e w9 ⟨rfl, hb9⟩))
    go_roundw
    case rel => exact ⟨j + 1, by omega, by go_num, by (repeat' first | with_reducible (first | exact Below.refl _ _ | assumption | refine Below.alloc ?_ ?_ _ | refine below_drewN ?_ _ | refine Below.drew ?_ | refine Below.setCell ?_ ?_ _ | refine Below.trans ?_ (Below.mono (by with_reducible assumption) ?_)) | go_size)⟩
    case measure => simp [intOf]; omega
end Go.Proofs.Ytljcgcllhcdleaa
