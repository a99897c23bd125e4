import Derived.Test.YtljcgcllhcdleaaMo5
import Derived.Test.YtljcgcllhcdleaaMo11
import Derived.Test.YtljcgcllhcdleaaMo14
import Derived.Test.YtljcgcllhcdleaaMo15
/- Chapter 11: mach.Run. -/
namespace Go.Proofs.Ytljcgcllhcdleaa
open Go.RowKit
set_option linter.unusedSimpArgs false
set_option linter.unusedVariables false
def RRan (w : World) (v : Value) (r : Ev.Ran) : Prop := ∃ va vl, v = .agg #[.int .i64 r.ended.word, .bool r.ended.trap, va, .int .i64 r.err, .int .i64 r.steps, .int .i64 r.mode, vl] ∧ RLists w w.heap.size va r.ended.arrays ∧ RLeaks w vl r.leaks
def ranErrV (e : Int) : Value := .agg #[.int .i64 0, .bool false, .slice none 0 0, .int .i64 e, .int .i64 0, .int .i64 0, .slice none 0 0]
theorem RLists.nil_ (w : World) (B : Nat) : RLists w B (.slice none 0 0) [] := ⟨[], rfl, SL.nil_ _ _ _, fun k u a h => by simp at h⟩
theorem RRan.err (w : World) (e : Int) : RRan w (ranErrV e) (Ev.ranErr e) := ⟨_, _, rfl, RLists.nil_ _ _, ⟨[], rfl, SL.nil_ _ _ _, fun k u x h => by simp at h⟩⟩
/-- what a run hands back, in blocks from lo on -/
def RRanD (lo : Nat) (w : World) (v : Value) (r : Ev.Ran) : Prop := Dep lo w.heap.size w (fun u => RRan u v r)
theorem RRanD.err (lo : Nat) (w : World) (e : Int) : RRanD lo w (ranErrV e) (Ev.ranErr e) := Dep.const fun u => RRan.err u e
theorem RRanD.of {lo lo1 lo2 : Nat} {w : World} {v va vl : Value} {r : Ev.Ran} {vs us : List Value} (hv : v = .agg #[.int .i64 r.ended.word, .bool r.ended.trap, va, .int .i64 r.err, .int .i64 r.steps, .int .i64 r.mode, vl]) (ha : Arrs w lo1 va r.ended.arrays vs) (hl : Leaks w lo2 vl r.leaks us) (h : lo ≤ lo1) (h' : lo ≤ lo2) : RRanD lo w v r :=
  ⟨Nat.le_refl _, fun u h1 h2 => ⟨va, vl, hv, ha.dep.2 u h1 fun b h3 => h2 b (Nat.le_trans h h3), hl.dep.2 u h1 fun b h3 => h2 b (Nat.le_trans h' h3)⟩⟩
/-- what a machine is given -/
structure MGiven (g : Ev.Given) : Prop where
  wword : ∀ x ∈ g.words, Ev.Wd x
  aword : ∀ a ∈ g.arrays, ∀ x ∈ a, Ev.Wd x
  small : ∀ a ∈ g.arrays, a.length ≤ 1073741824
  few : g.arrays.length ≤ 1073741824
theorem runImage_load {b : List Int} {p : Int} {na : Nat} {t : List Int} {g : Ev.Given} {mode most : Int} (h : Ev.loadErr b na ≠ 0) : Ev.runImage b p na t g mode most = Ev.ranErr (Ev.loadErr b na) := by unfold Ev.runImage; rw [if_pos h]
theorem runImage_many {b : List Int} {p : Int} {na : Nat} {t : List Int} {g : Ev.Given} {mode most : Int} (h : Ev.loadErr b na = 0) (h2 : mode < 0 ∨ 1 < mode ∨ (g.words.length : Int) ≠ p ∨ 120 ≤ p ∨ g.arrays.length ≠ na) : Ev.runImage b p na t g mode most = Ev.ranErr 5 := by
  unfold Ev.runImage; rw [if_neg (by omega), if_pos h2]
theorem runImage_go {b : List Int} {p : Int} {na : Nat} {t : List Int} {g : Ev.Given} {mode most : Int} (h : Ev.loadErr b na = 0) (h2 : ¬ (mode < 0 ∨ 1 < mode ∨ (g.words.length : Int) ≠ p ∨ 120 ≤ p ∨ g.arrays.length ≠ na)) :
    Ev.runImage b p na t g mode most = Ev.mcRun (Ev.load b na) t most (most.toNat + 1) (Ev.mc0 g mode) [] := by
  unfold Ev.runImage; rw [if_neg (by omega), if_neg h2]
/-- what holds ahead of each round -/
def MRunI (code : List Ev.Instr) (t : List Int) (most : Int) (R : Ev.Ran) (na : Nat) (w1 : World) (mb : Nat) (va : Value) (us : List Value) (wr : World) : Prop :=
  ∃ (m : Ev.Mc) (lk : List Ev.Leak) (ls : List Value) (vl : Value) (n : Nat), Hid (MacAt wr w1.heap.size mb va us vl m ∧ Ev.FineM na m.s ∧ Leaks wr (mb + 1) vl lk ls ∧ Ev.mcRun code t most n m lk = R) ∧ m.pc ≤ 1099511627776 ∧ m.st ≤ 36000 ∧ lk.length = m.st ∧ 1 ≤ n ∧ most + 1 ≤ (m.st : Int) + (n : Int) ∧ Below w1.heap.size w1 wr
theorem zero131 : Try.zeroCells131 = (List.replicate 120 (Value.int .i64 0) ++ ([.slice none 0 0, .int .i64 0, .int .i64 0, .int .i64 0, .bool false, .slice none 0 0, .int .i64 0, .int .i64 0, .int .i64 0, .slice none 0 0] : List Value)).toArray := by kernel_rfl
theorem Arrs.alloc {w : World} {lo : Nat} {v : Value} {l : List (List Int)} {vs : List Value} (h : Arrs w lo v l vs) (o : Obj) : Arrs (w.alloc o) lo v l vs := h.stays ((Below.refl _ _).alloc (Nat.le_refl _) o)
theorem ranBox {w1 : World} {rb : Nat} {a0 a1 a2 a3 a4 a5 a6 : Value} (h0 : w1.cell? ⟨rb, 0, none⟩ = some a0) (h1 : w1.cell? ⟨rb, 1, none⟩ = some a1) (h2 : w1.cell? ⟨rb, 2, none⟩ = some a2) (h3 : w1.cell? ⟨rb, 3, none⟩ = some a3) (h4 : w1.cell? ⟨rb, 4, none⟩ = some a4) (h5 : w1.cell? ⟨rb, 5, none⟩ = some a5) (h6 : w1.cell? ⟨rb, 6, none⟩ = some a6) (v0 v1 v2 v3 v4 v5 v6 : Value) :
    (((((((w1.setCell ⟨rb, 0, none⟩ v0).setCell ⟨rb, 1, none⟩ v1).setCell ⟨rb, 2, none⟩ v2).setCell ⟨rb, 3, none⟩ v3).setCell ⟨rb, 4, none⟩ v4).setCell ⟨rb, 5, none⟩ v5).setCell ⟨rb, 6, none⟩ v6).cell? ⟨rb, 0, none⟩ = some v0 ∧ (((((((w1.setCell ⟨rb, 0, none⟩ v0).setCell ⟨rb, 1, none⟩ v1).setCell ⟨rb, 2, none⟩ v2).setCell ⟨rb, 3, none⟩ v3).setCell ⟨rb, 4, none⟩ v4).setCell ⟨rb, 5, none⟩ v5).setCell ⟨rb, 6, none⟩ v6).cell? ⟨rb, 1, none⟩ = some v1 ∧ (((((((w1.setCell ⟨rb, 0, none⟩ v0).setCell ⟨rb, 1, none⟩ v1).setCell ⟨rb, 2, none⟩ v2).setCell ⟨rb, 3, none⟩ v3).setCell ⟨rb, 4, none⟩ v4).setCell ⟨rb, 5, none⟩ v5).setCell ⟨rb, 6, none⟩ v6).cell? ⟨rb, 2, none⟩ = some v2 ∧ (((((((w1.setCell ⟨rb, 0, none⟩ v0).setCell ⟨rb, 1, none⟩ v1).setCell ⟨rb, 2, none⟩ v2).setCell ⟨rb, 3, none⟩ v3).setCell ⟨rb, 4, none⟩ v4).setCell ⟨rb, 5, none⟩ v5).setCell ⟨rb, 6, none⟩ v6).cell? ⟨rb, 3, none⟩ = some v3 ∧ (((((((w1.setCell ⟨rb, 0, none⟩ v0).setCell ⟨rb, 1, none⟩ v1).setCell ⟨rb, 2, none⟩ v2).setCell ⟨rb, 3, none⟩ v3).setCell ⟨rb, 4, none⟩ v4).setCell ⟨rb, 5, none⟩ v5).setCell ⟨rb, 6, none⟩ v6).cell? ⟨rb, 4, none⟩ = some v4 ∧ (((((((w1.setCell ⟨rb, 0, none⟩ v0).setCell ⟨rb, 1, none⟩ v1).setCell ⟨rb, 2, none⟩ v2).setCell ⟨rb, 3, none⟩ v3).setCell ⟨rb, 4, none⟩ v4).setCell ⟨rb, 5, none⟩ v5).setCell ⟨rb, 6, none⟩ v6).cell? ⟨rb, 5, none⟩ = some v5 ∧ (((((((w1.setCell ⟨rb, 0, none⟩ v0).setCell ⟨rb, 1, none⟩ v1).setCell ⟨rb, 2, none⟩ v2).setCell ⟨rb, 3, none⟩ v3).setCell ⟨rb, 4, none⟩ v4).setCell ⟨rb, 5, none⟩ v5).setCell ⟨rb, 6, none⟩ v6).cell? ⟨rb, 6, none⟩ = some v6 := by
  refine ⟨?_, ?_, ?_, ?_, ?_, ?_, ?_⟩ <;> go_simp
set_option maxRecDepth 20000 in
set_option maxHeartbeats 6400000 in
theorem machRunD_any (b : List Int) (p : Int) (ay : List Ev.Vr) (t : List Int) (g : Ev.Given) (mode most : Int) (vb va vg : Value) (w : World) (hb : RBytes w w.heap.size vb b) (ha : RVars w w.heap.size va ay) (hg : RGiven w w.heap.size vg g)
    (hl : t.length = 18) (ht : Ev.wrong t = 0) (hy : Ev.Byt b) (hbl : b.length ≤ 1099511627776) (hgv : MGiven g) (hmost : most ≤ 36000) (hp0 : 0 ≤ p) :
    Calls Try.prog 49 #[.agg #[vb, .int .i64 p, va], tableV t, vg, .int .i64 mode, .int .i64 most] w fun e w' => ∃ v, e = .returned v ∧ RRanD w.heap.size w' v (Ev.runImage b p ay.length t g mode most) ∧ Below w.heap.size w w' := by
  have HLD := Lib.hid (fun w1 (h : Below w.heap.size w w1) => load_any b p ay.length ay vb va w1 (SL.at_ hb h (Nat.le_refl _)) (SL.at_ ha h (Nat.le_refl _)) hy rfl hbl)
  obtain ⟨Aa, ca, rfl, ha1, ha2⟩ := SL.form ha
  obtain ⟨Ab, cb, rfl, hb1, hb2⟩ := SL.form hb
  obtain ⟨vw, vx, rfl, hw, hx⟩ := hg
  have HX := Lib.hid hx
  obtain ⟨Aw, cw, rfl, hw1, hw2⟩ := SL.form hw
  obtain ⟨_, _, hxs, _⟩ := hx
  obtain ⟨Ax, cx, rfl, hx1, hx2⟩ := SL.form hxs
  unfold maxLen at ha2 hb2 hw2 hx2
  obtain ⟨il, hi4, hi5, hi6, hi7⟩ := info_parts leak_info
  have IL := Lib.hid (⟨hi4, hi5, hi6, hi7⟩ : _ ∧ _ ∧ _ ∧ _)
  clear hi4 hi5 hi6 hi7
  have HW := Lib.hid hw
  have HG := Lib.hid hgv
  have HT := Lib.hid ht
  have HL := Lib.hid hl
  have HE := Lib.hid (@runImage_load b p ay.length t g mode most)
  have HM := Lib.hid (@runImage_many b p ay.length t g mode most)
  have HGO := Lib.hid (@runImage_go b p ay.length t g mode most)
  have HOK := Lib.hid (@Ev.load_ok b ay.length hy)
  have hcl : (Ev.load b ay.length).length ≤ 1099511627776 := Nat.le_trans (Ev.load_len b ay.length) hbl
  unfold tableV
  generalize hT : (t.map (Value.int .i64)).toArray = ta
  have HTA := Lib.hid hT
  clear hb ha hy hbl hw hxs hgv ht hl hT
  generalize Ev.runImage b p ay.length t g mode most = R at *
  go_enter Try.func49, Try.ntmps49
  generalize Ev.loadErr b ay.length = le at *
  generalize Ev.load b ay.length = code at *
  go_upto_region 2 with (go_at_call 45; refine (HLD.out _ (by (repeat' first | with_reducible (first | exact Below.refl _ _ | assumption | refine Below.alloc ?_ ?_ _ | refine below_drewN ?_ _ | refine Below.drew ?_ | refine Below.setCell ?_ ?_ _ | refine Below.trans ?_ (Below.mono (by with_reducible assumption) ?_)) | go_size))).mono ?_; rintro e w1 ⟨vc, rfl, hR1, hb1⟩)
  have hs1 := hb1.size
  simp only [World.size_alloc] at hs1
  have r0 : w1.cell? ⟨w.heap.size, 0, none⟩ = some (.slice Ab b.length cb) := (hb1.cell (p := ⟨w.heap.size, 0, none⟩) (by go_size)).trans (by go_simp)
  have r1 : w1.cell? ⟨w.heap.size, 1, none⟩ = some (.int .i64 p) := (hb1.cell (p := ⟨w.heap.size, 1, none⟩) (by go_size)).trans (by go_simp)
  have r2 : w1.cell? ⟨w.heap.size, 2, none⟩ = some (.slice Aa ay.length ca) := (hb1.cell (p := ⟨w.heap.size, 2, none⟩) (by go_size)).trans (by go_simp)
  have v0 : w1.cell? ⟨w.heap.size + 1 + 1, 0, none⟩ = some (.slice Aw g.words.length cw) := (hb1.cell (p := ⟨w.heap.size + 1 + 1, 0, none⟩) (by go_size)).trans (by go_simp)
  have v1 : w1.cell? ⟨w.heap.size + 1 + 1, 1, none⟩ = some (.slice Ax g.arrays.length cx) := (hb1.cell (p := ⟨w.heap.size + 1 + 1, 1, none⟩) (by go_size)).trans (by go_simp)
  have x0 : w1.cell? ⟨w.heap.size + 1 + 1 + 1, 0, none⟩ = some (.int .i64 0) := (hb1.cell (p := ⟨w.heap.size + 1 + 1 + 1, 0, none⟩) (by go_size)).trans (by go_simp)
  have x1 : w1.cell? ⟨w.heap.size + 1 + 1 + 1, 1, none⟩ = some (.bool false) := (hb1.cell (p := ⟨w.heap.size + 1 + 1 + 1, 1, none⟩) (by go_size)).trans (by go_simp)
  have x2 : w1.cell? ⟨w.heap.size + 1 + 1 + 1, 2, none⟩ = some (.slice none 0 0) := (hb1.cell (p := ⟨w.heap.size + 1 + 1 + 1, 2, none⟩) (by go_size)).trans (by go_simp)
  have x3 : w1.cell? ⟨w.heap.size + 1 + 1 + 1, 3, none⟩ = some (.int .i64 0) := (hb1.cell (p := ⟨w.heap.size + 1 + 1 + 1, 3, none⟩) (by go_size)).trans (by go_simp)
  have x4 : w1.cell? ⟨w.heap.size + 1 + 1 + 1, 4, none⟩ = some (.int .i64 0) := (hb1.cell (p := ⟨w.heap.size + 1 + 1 + 1, 4, none⟩) (by go_size)).trans (by go_simp)
  have x5 : w1.cell? ⟨w.heap.size + 1 + 1 + 1, 5, none⟩ = some (.int .i64 0) := (hb1.cell (p := ⟨w.heap.size + 1 + 1 + 1, 5, none⟩) (by go_size)).trans (by go_simp)
  have x6 : w1.cell? ⟨w.heap.size + 1 + 1 + 1, 6, none⟩ = some (.slice none 0 0) := (hb1.cell (p := ⟨w.heap.size + 1 + 1 + 1, 6, none⟩) (by go_size)).trans (by go_simp)
  have lx : ∀ j, w1.frozen? ⟨w.heap.size + 1 + 1 + 1, j, none⟩ = false := fun j => (hb1.frozen (p := ⟨w.heap.size + 1 + 1 + 1, j, none⟩) (by go_size)).trans (by go_simp)
  have HBase := Lib.hid (show Below (w.heap.size + 1 + 1 + 1) ((w.alloc (.cells #[.slice Ab b.length cb, .int .i64 p, .slice Aa ay.length ca] 76)).alloc (.cells ta 29) |>.alloc (.cells #[.slice Aw g.words.length cw, .slice Ax g.arrays.length cx] 45)) w1 by
    refine Below.trans (b := ((w.alloc (.cells #[.slice Ab b.length cb, .int .i64 p, .slice Aa ay.length ca] 76)).alloc (.cells ta 29) |>.alloc (.cells #[.slice Aw g.words.length cw, .slice Ax g.arrays.length cx] 45)).alloc (.cells #[.int .i64 0, .bool false, .slice none 0 0, .int .i64 0, .int .i64 0, .int .i64 0, .slice none 0 0] 82)) ?_ (hb1.mono (by simp))
    exact (Below.refl _ _).alloc (by simp) _)
  have hBw1 : Below w.heap.size w w1 := by (repeat' first | with_reducible (first | exact Below.refl _ _ | assumption | refine Below.alloc ?_ ?_ _ | refine below_drewN ?_ _ | refine Below.drew ?_ | refine Below.setCell ?_ ?_ _ | refine Below.trans ?_ (Below.mono (by with_reducible assumption) ?_)) | go_size)
  have HBw1 := Lib.hid hBw1
  have ltb : ∀ j, j < 18 → w1.cell? ⟨w.heap.size + 1, j, none⟩ = some (.int .i64 (t.getD j 0)) := fun j hj => (hb1.cell (p := ⟨w.heap.size + 1, j, none⟩) (by go_size)).trans (by
    have hx : ta[j]? = some (.int .i64 (t.getD j 0)) := by
      rw [← HTA.out, List.getElem?_toArray, List.getElem?_map, List.getD_eq_getElem?_getD, List.getElem?_eq_getElem (by have := HL.out; omega)]
      rfl
    clear r0 r1 r2 v0 v1 x0 x1 x2 x3 x4 x5 x6 lx
    go_simp)
  have HTB := Lib.hid ltb
  have HR1 := Lib.hid hR1
  clear hb1 hR1 ltb hBw1
  by_cases hle : le = 0
  · have HM2 := Lib.hid (HM.out hle)
    have HGO2 := Lib.hid (HGO.out hle)
    have HOK2 := Lib.hid (HOK.out hle)
    subst hle
    clear HM HGO HE
    by_cases hcnd : mode < 0 ∨ 1 < mode ∨ (g.words.length : Int) ≠ p ∨ 120 ≤ p ∨ g.arrays.length ≠ ay.length
    · have HR := Lib.hid (HM2.out hcnd)
      go_upto_region 4 with fail
      rcases (show mode < 0 ∨ (0 ≤ mode ∧ 1 < mode) ∨ ((0 ≤ mode ∧ mode ≤ 1) ∧ (((g.words.length : Int) != p) = true)) ∨ ((0 ≤ mode ∧ mode ≤ 1) ∧ (((g.words.length : Int) != p) = false) ∧ 120 ≤ p) ∨ ((0 ≤ mode ∧ mode ≤ 1) ∧ (((g.words.length : Int) != p) = false) ∧ p < 120 ∧ (((g.arrays.length : Int) != (ay.length : Int)) = true)) by
        simp only [bne_iff_ne, bne_eq_false_iff_eq]; omega) with h | h | h | h | h
      · clear hcnd
        go_wp2_with fail
        obtain ⟨y0, y1, y2, y3, y4, y5, y6⟩ := ranBox x0 x1 x2 x3 x4 x5 x6 (.int .i64 0) (.bool false) (.slice none 0 0) (.int .i64 5) (.int .i64 0) (.int .i64 0) (.slice none 0 0)
        refine bodyPost_ret (v := ranErrV 5) (by simp [ranErrV, results, Try.results49, go_sem, y0, y1, y2, y3, y4, y5, y6]) rfl ?_
        exact ⟨_, rfl, by rw [HR.out]; exact RRanD.err _ _ _, by have e1 := HBw1.out; (repeat' first | with_reducible (first | exact Below.refl _ _ | assumption | refine Below.alloc ?_ ?_ _ | refine below_drewN ?_ _ | refine Below.drew ?_ | refine Below.setCell ?_ ?_ _ | refine Below.trans ?_ (Below.mono (by with_reducible assumption) ?_)) | go_size)⟩
      · obtain ⟨h1, h2⟩ := h
        clear hcnd
        go_wp2_with fail
        obtain ⟨y0, y1, y2, y3, y4, y5, y6⟩ := ranBox x0 x1 x2 x3 x4 x5 x6 (.int .i64 0) (.bool false) (.slice none 0 0) (.int .i64 5) (.int .i64 0) (.int .i64 0) (.slice none 0 0)
        refine bodyPost_ret (v := ranErrV 5) (by simp [ranErrV, results, Try.results49, go_sem, y0, y1, y2, y3, y4, y5, y6]) rfl ?_
        exact ⟨_, rfl, by rw [HR.out]; exact RRanD.err _ _ _, by have e1 := HBw1.out; (repeat' first | with_reducible (first | exact Below.refl _ _ | assumption | refine Below.alloc ?_ ?_ _ | refine below_drewN ?_ _ | refine Below.drew ?_ | refine Below.setCell ?_ ?_ _ | refine Below.trans ?_ (Below.mono (by with_reducible assumption) ?_)) | go_size)⟩
      · obtain ⟨⟨h1, h2⟩, h3⟩ := h
        clear hcnd
        go_wp2_with fail
        obtain ⟨y0, y1, y2, y3, y4, y5, y6⟩ := ranBox x0 x1 x2 x3 x4 x5 x6 (.int .i64 0) (.bool false) (.slice none 0 0) (.int .i64 5) (.int .i64 0) (.int .i64 0) (.slice none 0 0)
        refine bodyPost_ret (v := ranErrV 5) (by simp [ranErrV, results, Try.results49, go_sem, y0, y1, y2, y3, y4, y5, y6]) rfl ?_
        exact ⟨_, rfl, by rw [HR.out]; exact RRanD.err _ _ _, by have e1 := HBw1.out; (repeat' first | with_reducible (first | exact Below.refl _ _ | assumption | refine Below.alloc ?_ ?_ _ | refine below_drewN ?_ _ | refine Below.drew ?_ | refine Below.setCell ?_ ?_ _ | refine Below.trans ?_ (Below.mono (by with_reducible assumption) ?_)) | go_size)⟩
      · obtain ⟨⟨h1, h2⟩, h3, h4⟩ := h
        clear hcnd
        go_wp2_with fail
        obtain ⟨y0, y1, y2, y3, y4, y5, y6⟩ := ranBox x0 x1 x2 x3 x4 x5 x6 (.int .i64 0) (.bool false) (.slice none 0 0) (.int .i64 5) (.int .i64 0) (.int .i64 0) (.slice none 0 0)
        refine bodyPost_ret (v := ranErrV 5) (by simp [ranErrV, results, Try.results49, go_sem, y0, y1, y2, y3, y4, y5, y6]) rfl ?_
        exact ⟨_, rfl, by rw [HR.out]; exact RRanD.err _ _ _, by have e1 := HBw1.out; (repeat' first | with_reducible (first | exact Below.refl _ _ | assumption | refine Below.alloc ?_ ?_ _ | refine below_drewN ?_ _ | refine Below.drew ?_ | refine Below.setCell ?_ ?_ _ | refine Below.trans ?_ (Below.mono (by with_reducible assumption) ?_)) | go_size)⟩
      · obtain ⟨⟨h1, h2⟩, h3, h4, h5⟩ := h
        clear hcnd
        go_wp2_with fail
        obtain ⟨y0, y1, y2, y3, y4, y5, y6⟩ := ranBox x0 x1 x2 x3 x4 x5 x6 (.int .i64 0) (.bool false) (.slice none 0 0) (.int .i64 5) (.int .i64 0) (.int .i64 0) (.slice none 0 0)
        refine bodyPost_ret (v := ranErrV 5) (by simp [ranErrV, results, Try.results49, go_sem, y0, y1, y2, y3, y4, y5, y6]) rfl ?_
        exact ⟨_, rfl, by rw [HR.out]; exact RRanD.err _ _ _, by have e1 := HBw1.out; (repeat' first | with_reducible (first | exact Below.refl _ _ | assumption | refine Below.alloc ?_ ?_ _ | refine below_drewN ?_ _ | refine Below.drew ?_ | refine Below.setCell ?_ ?_ _ | refine Below.trans ?_ (Below.mono (by with_reducible assumption) ?_)) | go_size)⟩
    · have HR := Lib.hid (HGO2.out hcnd)
      have hwl : g.words.length ≤ 119 := by omega
      have hmd : 0 ≤ mode ∧ mode ≤ 1 := by omega
      have hal : g.arrays.length = ay.length := by omega
      have g3 : ((g.words.length : Int) != p) = false := by rw [bne_eq_false_iff_eq]; omega
      have g4 : p < 120 := by omega
      have HAL := Lib.hid hal
      have HMD := Lib.hid (show mode = 0 ∨ mode = 1 by omega)
      obtain ⟨md0, md1⟩ := hmd
      have g5 : ((g.arrays.length : Int) != (ay.length : Int)) = false := by rw [bne_eq_false_iff_eq]; omega
      clear hcnd hal HM2 HGO2
      go_upto_region 7 with (go_at_call 71; refine (arrays_any g.arrays _ _ (HX.out.at_ HBw1.out (Nat.le_refl _)) HG.out.few HG.out.small).mono ?_; rintro e w2 ⟨vx', us, rfl, hA2, hb2⟩; have HA2 := Lib.hid hA2; have HB2 := Lib.hid hb2; obtain ⟨A2, c2, hv2, hc21, hc22⟩ := SL.form (SL.of_own hA2.outer); subst hv2; clear hA2)
      have hs2 := HB2.out.size
      have HM0 : Hid (MacAt (w2.alloc (.cells ((Try.zeroCells131.setIfInBounds 120 (.slice A2 us.length c2)).setIfInBounds 121 (.int .i64 mode)) 131)) w1.heap.size w2.heap.size (.slice A2 us.length c2) us (.slice none 0 0) { s := { v := Ev.wv g.words 0, arrs := g.arrays, mode := mode }, pc := 0, wd := 0, tr := false, st := 0 }) := by
        refine ⟨by rw [Ev.wv_zero]; rfl, ?_, HA2.out.alloc _, fun b hb => (HA2.out.outer.lt b hb).2, HA2.out.his, hs2⟩
        rw [heap_alloc_new]
        refine congrArg (fun x => some (Obj.cells x 131 (0, 0))) ?_
        rw [zero131, Ev.wv_zero]
        rfl
      have B3 : Hid (Below w1.heap.size w1 (w2.alloc (.cells ((Try.zeroCells131.setIfInBounds 120 (.slice A2 us.length c2)).setIfInBounds 121 (.int .i64 mode)) 131))) := HB2.out.alloc hs2 _
      have s3 : w2.heap.size < (w2.alloc (.cells ((Try.zeroCells131.setIfInBounds 120 (.slice A2 us.length c2)).setIfInBounds 121 (.int .i64 mode)) 131)).heap.size := by simp
      generalize w2.alloc (.cells ((Try.zeroCells131.setIfInBounds 120 (.slice A2 us.length c2)).setIfInBounds 121 (.int .i64 mode)) 131) = w3 at *
      have v0' := (B3.out.cell (p := ⟨w.heap.size + 1 + 1, 0, none⟩) (by go_size)).trans v0
      clear HA2 HB2 r0 r1 r2 v1 g3 g4 g5
      generalize w2.heap.size = mb at *
      clear hb2 w2
      have HX1 := Lib.hid (And.intro x0 (And.intro x1 (And.intro x2 (And.intro x3 (And.intro x4 (And.intro x5 (And.intro x6 lx)))))))
      clear x0 x1 x2 x3 x4 x5 x6 lx v0
      have lo1 := HM0.out.lm
      go_wp2_with fail
      go_loopw [64] (fun kk wr => ∃ k : Nat, k ≤ g.words.length ∧ kk = .int .i64 (k : Int) ∧ Hid (MacAt wr w1.heap.size mb (.slice A2 us.length c2) us (.slice none 0 0) { s := { v := Ev.wv g.words k, arrs := g.arrays, mode := mode }, pc := 0, wd := 0, tr := false, st := 0 }) ∧ Below w1.heap.size w1 wr) (fun kk _ => g.words.length - (intOf kk).toNat)
      case atStart => exact ⟨0, by omega, rfl, HM0.out, B3.out⟩
      case round =>
        obtain ⟨k, hk, rfl, HMk, hB⟩ := hrel
        have lmb := HMk.out.lt
        by_cases hlt : k < g.words.length
        · have hBw : Below w.heap.size w wr := HBw1.out.trans (hB.mono (by omega))
          obtain ⟨bw, ow, cw', hvw, hbw, _, _, hcw⟩ := SL.row (SL.at_ HW.out hBw (Nat.le_refl _)) (by omega : 0 < g.words.length)
          injection hvw with hA _ hcr
          subst hA hcr
          obtain ⟨x, hx⟩ : ∃ x, g.words[k]? = some x := ⟨g.words[k], List.getElem?_eq_getElem hlt⟩
          have cx := hcw k (.int .i64 x) (by simp [hx])
          have hxw := HG.out.wword x (List.mem_of_getElem? hx)
          have HS := Lib.hid (Ev.wv_set hlt hwl hx)
          have lml := HMk.out.loose
          have ck := HMk.out.cell (p := ((1 + k : Nat) : Int)) ⟨by omega, by omega⟩
          rw [show ((1 + k : Nat) : Int).toNat = 1 + k by omega] at ck
          clear hx hcw
          go_wp2_with fail
          go_roundw
          case rel =>
            refine ⟨k + 1, by omega, by go_num, ?_, hB.setCell lo1 _⟩
            have := HMk.out.setV (p := 1 + k) (by omega) x
            rw [← HS.out]
            exact this
          case measure => simp [intOf]; omega
        · have hke : k = g.words.length := by omega
          subst hke
          have HS := Lib.hid (Ev.wv_full hwl)
          have HM1 : Hid (MacAt wr w1.heap.size mb (.slice A2 us.length c2) us (.slice none 0 0) (Ev.mc0 g mode)) := by
            have := HMk.out
            rw [HS.out] at this
            exact this
          have hB0 := Lib.hid hB
          clear HMk hB HM0 HS v0' B3 s3 hk hlt HW HX
          go_wp2_with fail
          have hsr := hB0.out.size
          obtain ⟨Ac, cc, hvc, hcc1, hcc2⟩ := SL.form HR1.out
          subst hvc
          unfold maxLen at hcc2
          go_loopw [] (MRunI code t most R ay.length w1 mb (.slice A2 us.length c2) us) (fun wr => 36000 - (intOf ((wr.cell? ⟨mb, 127, none⟩).getD undef)).toNat)
          case atStart => exact ⟨Ev.mc0 g mode, [], [], _, most.toNat + 1, ⟨HM1.out, Ev.start_fineM hwl HG.out.wword HAL.out HG.out.aword HMD.out, Leaks.nil_ _ _, HR.out.symm⟩, by simp [Ev.mc0], by simp [Ev.mc0], rfl, by omega, by simp [Ev.mc0]; omega, hB0.out⟩
          case round =>
            clear HM1 hB0 hsr lmb
            obtain ⟨m, lk, ls, vl, n, HI, hpc, hst, hlk, hn1, hn2, hB⟩ := hrel
            have HLKL := Lib.hid hlk
            have hlk1 : lk.length ≤ 36000 := by omega
            clear hlk
            have lmb := HI.out.1.lt
            have hbs := hB.size
            have hBw : Hid (Below w.heap.size w wr) := HBw1.out.trans (hB.mono (by omega))
            have HB := Lib.hid hB
            have HBX := Lib.hid hB
            clear hB
            have c127 := HI.out.1.cst
            obtain ⟨n, rfl⟩ : ∃ k, n = k + 1 := ⟨n - 1, by omega⟩
            by_cases hmo : most ≤ m.st
            · have HRR : Hid (R = Ev.ranErr 12) := HI.out.2.2.2.symm.trans (Ev.mcRun_fuel hmo)
              obtain ⟨x0, x1, x2, x3, x4, x5, x6, lx⟩ := HX1.out
              replace x0 := (HB.out.cell (p := ⟨w.heap.size + 1 + 1 + 1, 0, none⟩) (by show w.heap.size + 1 + 1 + 1 < w1.heap.size; omega)).trans x0
              replace x1 := (HB.out.cell (p := ⟨w.heap.size + 1 + 1 + 1, 1, none⟩) (by show w.heap.size + 1 + 1 + 1 < w1.heap.size; omega)).trans x1
              replace x2 := (HB.out.cell (p := ⟨w.heap.size + 1 + 1 + 1, 2, none⟩) (by show w.heap.size + 1 + 1 + 1 < w1.heap.size; omega)).trans x2
              replace x3 := (HB.out.cell (p := ⟨w.heap.size + 1 + 1 + 1, 3, none⟩) (by show w.heap.size + 1 + 1 + 1 < w1.heap.size; omega)).trans x3
              replace x4 := (HB.out.cell (p := ⟨w.heap.size + 1 + 1 + 1, 4, none⟩) (by show w.heap.size + 1 + 1 + 1 < w1.heap.size; omega)).trans x4
              replace x5 := (HB.out.cell (p := ⟨w.heap.size + 1 + 1 + 1, 5, none⟩) (by show w.heap.size + 1 + 1 + 1 < w1.heap.size; omega)).trans x5
              replace x6 := (HB.out.cell (p := ⟨w.heap.size + 1 + 1 + 1, 6, none⟩) (by show w.heap.size + 1 + 1 + 1 < w1.heap.size; omega)).trans x6
              replace lx := fun j => (HB.out.frozen (p := ⟨w.heap.size + 1 + 1 + 1, j, none⟩) (by show w.heap.size + 1 + 1 + 1 < w1.heap.size; omega)).trans (lx j)
              go_wp2_with fail
              obtain ⟨y0, y1, y2, y3, y4, y5, y6⟩ := ranBox x0 x1 x2 x3 x4 x5 x6 (.int .i64 0) (.bool false) (.slice none 0 0) (.int .i64 12) (.int .i64 0) (.int .i64 0) (.slice none 0 0)
              refine bodyPost_ret (v := ranErrV 12) (by simp [ranErrV, results, Try.results49, go_sem, y0, y1, y2, y3, y4, y5, y6]) rfl ?_
              exact ⟨_, rfl, by rw [HRR.out]; exact RRanD.err _ _ _, by have e1 := hBw.out; (repeat' first | with_reducible (first | exact Below.refl _ _ | assumption | refine Below.alloc ?_ ?_ _ | refine below_drewN ?_ _ | refine Below.drew ?_ | refine Below.setCell ?_ ?_ _ | refine Below.trans ?_ (Below.mono (by with_reducible assumption) ?_)) | go_size)⟩
            · have c122 := HI.out.1.cpc
              have hmo' : (m.st : Int) < most := by omega
              by_cases hpl : code.length ≤ m.pc
              · have HRR : Hid (R = Ev.ranErr 8) := HI.out.2.2.2.symm.trans (Ev.mcRun_out hmo hpl)
                obtain ⟨x0, x1, x2, x3, x4, x5, x6, lx⟩ := HX1.out
                replace x0 := (HB.out.cell (p := ⟨w.heap.size + 1 + 1 + 1, 0, none⟩) (by show w.heap.size + 1 + 1 + 1 < w1.heap.size; omega)).trans x0
                replace x1 := (HB.out.cell (p := ⟨w.heap.size + 1 + 1 + 1, 1, none⟩) (by show w.heap.size + 1 + 1 + 1 < w1.heap.size; omega)).trans x1
                replace x2 := (HB.out.cell (p := ⟨w.heap.size + 1 + 1 + 1, 2, none⟩) (by show w.heap.size + 1 + 1 + 1 < w1.heap.size; omega)).trans x2
                replace x3 := (HB.out.cell (p := ⟨w.heap.size + 1 + 1 + 1, 3, none⟩) (by show w.heap.size + 1 + 1 + 1 < w1.heap.size; omega)).trans x3
                replace x4 := (HB.out.cell (p := ⟨w.heap.size + 1 + 1 + 1, 4, none⟩) (by show w.heap.size + 1 + 1 + 1 < w1.heap.size; omega)).trans x4
                replace x5 := (HB.out.cell (p := ⟨w.heap.size + 1 + 1 + 1, 5, none⟩) (by show w.heap.size + 1 + 1 + 1 < w1.heap.size; omega)).trans x5
                replace x6 := (HB.out.cell (p := ⟨w.heap.size + 1 + 1 + 1, 6, none⟩) (by show w.heap.size + 1 + 1 + 1 < w1.heap.size; omega)).trans x6
                replace lx := fun j => (HB.out.frozen (p := ⟨w.heap.size + 1 + 1 + 1, j, none⟩) (by show w.heap.size + 1 + 1 + 1 < w1.heap.size; omega)).trans (lx j)
                clear hmo
                go_wp2_with fail
                obtain ⟨y0, y1, y2, y3, y4, y5, y6⟩ := ranBox x0 x1 x2 x3 x4 x5 x6 (.int .i64 0) (.bool false) (.slice none 0 0) (.int .i64 8) (.int .i64 0) (.int .i64 0) (.slice none 0 0)
                refine bodyPost_ret (v := ranErrV 8) (by simp [ranErrV, results, Try.results49, go_sem, y0, y1, y2, y3, y4, y5, y6]) rfl ?_
                exact ⟨_, rfl, by rw [HRR.out]; exact RRanD.err _ _ _, by have e1 := hBw.out; (repeat' first | with_reducible (first | exact Below.refl _ _ | assumption | refine Below.alloc ?_ ?_ _ | refine below_drewN ?_ _ | refine Below.drew ?_ | refine Below.setCell ?_ ?_ _ | refine Below.trans ?_ (Below.mono (by with_reducible assumption) ?_)) | go_size)⟩
              · obtain ⟨i, hi⟩ : ∃ i, code[m.pc]? = some i := ⟨code[m.pc], List.getElem?_eq_getElem (by omega)⟩
                have HOKi := Lib.hid (HOK2.out m.pc i hi)
                have HCR : Hid (RCode wr wr.heap.size (.slice Ac code.length cc) code) := SL.at_ HR1.out (show Below w1.heap.size w1 wr from HB.out) (Nat.le_refl _)
                have HEN := Lib.hid (@Ev.mcRun_end code t most n m lk i hmo hi)
                have HON := Lib.hid (@Ev.mcRun_on code t most n m lk i hmo hi)
                obtain ⟨bc, oc, cc', hvc, hbc, _, _, _, i0, i1, i2, i3, i4, i5⟩ := RCode.at_ HCR.out hi
                injection hvc with hA _ hcr
                subst hA hcr
                have hpl' : m.pc < code.length := by omega
                clear hi hmo hpl
                have hfr := HI.out.1.loose 127
                go_upto_region 17 with fail
                have BA : Below (wr.setCell ⟨mb, 127, none⟩ (.int .i64 ((m.st : Int) + 1))).heap.size (wr.setCell ⟨mb, 127, none⟩ (.int .i64 ((m.st : Int) + 1))) ((wr.setCell ⟨mb, 127, none⟩ (.int .i64 ((m.st : Int) + 1))).alloc (.cells #[.int .i64 i.op, .int .i64 i.d, .int .i64 i.a, .int .i64 i.b, .int .i64 i.c, .int .i64 i.imm] 39)) := (Below.refl _ _).alloc (Nat.le_refl _) _
                have HM1 : Hid (MacAt ((wr.setCell ⟨mb, 127, none⟩ (.int .i64 ((m.st : Int) + 1))).alloc (.cells #[.int .i64 i.op, .int .i64 i.d, .int .i64 i.a, .int .i64 i.b, .int .i64 i.c, .int .i64 i.imm] 39)) w1.heap.size mb (.slice A2 us.length c2) us vl { m with st := m.st + 1 }) := (HI.out.1.setSt (m.st + 1) (x := (m.st : Int) + 1) (by push_cast; rfl)).stays BA
                have HLk1 : Hid (Leaks ((wr.setCell ⟨mb, 127, none⟩ (.int .i64 ((m.st : Int) + 1))).alloc (.cells #[.int .i64 i.op, .int .i64 i.d, .int .i64 i.a, .int .i64 i.b, .int .i64 i.c, .int .i64 i.imm] 39)) (mb + 1) vl lk ls) := (HI.out.2.2.1.aside mb 127 _ (Nat.lt_succ_self _)).stays BA
                have HB1 : Hid (Below w1.heap.size w1 ((wr.setCell ⟨mb, 127, none⟩ (.int .i64 ((m.st : Int) + 1))).alloc (.cells #[.int .i64 i.op, .int .i64 i.d, .int .i64 i.a, .int .i64 i.b, .int .i64 i.c, .int .i64 i.imm] 39))) := (HB.out.setCell lo1 _).alloc (by simp; omega) _
                have hIC : ∀ (j : Nat) v, (#[.int .i64 i.op, .int .i64 i.d, .int .i64 i.a, .int .i64 i.b, .int .i64 i.c, .int .i64 i.imm] : Array Value)[j]? = some v → ((wr.setCell ⟨mb, 127, none⟩ (.int .i64 ((m.st : Int) + 1))).alloc (.cells #[.int .i64 i.op, .int .i64 i.d, .int .i64 i.a, .int .i64 i.b, .int .i64 i.c, .int .i64 i.imm] 39)).cell? ⟨wr.heap.size, j, none⟩ = some v := fun j v hj => by
                  have h1 := heap_alloc_new (wr.setCell ⟨mb, 127, none⟩ (.int .i64 ((m.st : Int) + 1))) (.cells #[.int .i64 i.op, .int .i64 i.d, .int .i64 i.a, .int .i64 i.b, .int .i64 i.c, .int .i64 i.imm] 39)
                  rw [World.size_setCell] at h1
                  exact (cell_of_block h1 j).trans hj
                have HIC := Lib.hid hIC
                have HTC : Hid (∀ (j : Nat) v, ta[j]? = some v → ((wr.setCell ⟨mb, 127, none⟩ (.int .i64 ((m.st : Int) + 1))).alloc (.cells #[.int .i64 i.op, .int .i64 i.d, .int .i64 i.a, .int .i64 i.b, .int .i64 i.c, .int .i64 i.imm] 39)).cell? ⟨w.heap.size + 1, j, none⟩ = some v) := fun j v hj => (HB1.out.cell (p := ⟨w.heap.size + 1, j, none⟩) (by show w.heap.size + 1 < w1.heap.size; omega)).trans (by
                  rw [← HTA.out, List.getElem?_toArray, List.getElem?_map] at hj
                  have hj18 : j < 18 := by
                    have := HL.out
                    rcases Nat.lt_or_ge j t.length with h | h
                    · omega
                    · rw [List.getElem?_eq_none h] at hj; cases hj
                  rw [HTB.out j hj18, List.getD_eq_getElem?_getD]
                  cases hx : t[j]? with
                  | none => rw [hx] at hj; cases hj
                  | some x => rw [hx] at hj; exact hj)
                have sJ : wr.heap.size < ((wr.setCell ⟨mb, 127, none⟩ (.int .i64 ((m.st : Int) + 1))).alloc (.cells #[.int .i64 i.op, .int .i64 i.d, .int .i64 i.a, .int .i64 i.b, .int .i64 i.c, .int .i64 i.imm] 39)).heap.size := by simp
                have HRL := Lib.hid (fun q hq => HI.out.2.2.1.row.lt q hq)
                have HROW : Hid (∀ q, vl.ownBlock = some q → mb < q) := fun q hq => by have := (HRL.out q hq).1; omega
                have HRI : Hid (some wr.heap.size ≠ vl.ownBlock) := fun e => by have := (HRL.out _ e.symm).2; omega
                have HRT : Hid (some (w.heap.size + 1) ≠ vl.ownBlock) := fun e => by have := (HRL.out _ e.symm).1; omega
                have HFM := Lib.hid HI.out.2.1
                have HRES := Lib.hid HI.out.2.2.2
                have HLT : Hid (∀ w9 : World, (∀ (j : Nat) v, ta[j]? = some v → w9.cell? ⟨w.heap.size + 1, j, none⟩ = some v) → (Go.Instr.loadAt 29 (.pointer (some ⟨w.heap.size + 1, 0, none⟩))).run Try.prog w9 = .ok (.agg ta) w9) := fun w9 h => loadAt_cells Try.underlying29 (by kernel_rfl) (by rw [← HTA.out]) (by rw [← HTA.out, List.length_map, HL.out]; kernel_rfl) h
                have HSC : Hid (∀ (vv : Value) (w' : World), RInts w' w'.heap.size vv m.s.v → Calls Try.prog 39 #[.agg ta, .agg #[.int .i64 i.op, .int .i64 i.d, .int .i64 i.a, .int .i64 i.b, .int .i64 i.c, .int .i64 i.imm], vv, .bool (m.s.mode == 0)] w' fun e w'' => ∃ v', e = .returned v' ∧ RInts w'' w''.heap.size v' (Ev.seen t i m.s.v (m.s.mode == 0)) ∧ from_ w'.heap.size v' ∧ (∀ b, v'.ownBlock = some b → b < w''.heap.size) ∧ Below w'.heap.size w' w'') := fun vv w' hv => by
                  have h1 := seenPub_any t i m.s.v (m.s.mode == 0) vv w' HL.out hv HOKi.out.op.1 (by rw [HFM.out.len]; exact seenIn_mach HT.out HOKi.out _)
                  unfold tableV at h1
                  rw [HTA.out] at h1
                  exact h1
                obtain ⟨wJ, hwJ⟩ : ∃ wJ, ((wr.setCell ⟨mb, 127, none⟩ (.int .i64 ((m.st : Int) + 1))).alloc (.cells #[.int .i64 i.op, .int .i64 i.d, .int .i64 i.a, .int .i64 i.b, .int .i64 i.c, .int .i64 i.imm] 39)) = wJ := ⟨_, rfl⟩
                have HWJ := Lib.hid hwJ
                rw [hwJ] at HM1 HLk1 HB1 HIC HTC sJ
                clear hwJ hIC BA i0 i1 i2 i3 i4 i5 c122 HI HCR HB hBw
                have f127 : wr.frozen? ⟨mb, 127, none⟩ = false := hfr
                go_upto_region 18 with fail
                rw [HWJ.out]
                have HC127 := Lib.hid c127
                clear HWJ c127 f127
                generalize wr.heap.size = bI at *
                refine wp_region_lastT (S := fun w' => wJ.grownBy w' vl.ownBlock) [(0, true), (1, true), (2, true), (3, true), (4, true), (5, true), (6, true), (7, true), (8, true), (9, true), (10, true), (11, true), (12, true), (13, true), (14, true), (15, true), (16, true), (17, true), (18, true), (19, true), (20, true), (21, true), (22, true), (23, false), (24, true), (25, false), (26, false), (27, true), (28, true), (29, true)] 30 (by kernel_rfl) (by kernel_rfl) (by kernel_rfl) (by kernel_rfl) (by kernel_rfl) (by decide) (grown_of_below (Below.refl _ _).drew _) ?_
                simp only [List.pop_toArray, List.dropLast_cons_cons, List.dropLast_singleton]
                apply trail_light
                case hi => (simp only [List.getElem?_toArray, List.getElem?_cons_zero, List.getElem?_cons_succ]; exact rfl)
                case hl => first | exact light_no (by rfl) | ((first | apply light_plain rfl | apply light_yes (by rfl)); intro w9 hS9; skip; first | (exact exec_load rfl rfl (by first | exact ldi9 | exact ldt9)) | (go_simp; try rfl))
                case hQ => exact fun _ _ _ h => h
                (try simp only [Act.put, List.setIfInBounds_toArray, List.set_cons_zero, List.set_cons_succ])
                apply trail_light
                case hi => (simp only [List.getElem?_toArray, List.getElem?_cons_zero, List.getElem?_cons_succ]; exact rfl)
                case hl => first | exact light_no (by rfl) | ((first | apply light_plain rfl | apply light_yes (by rfl)); intro w9 hS9; skip; first | (exact exec_load rfl rfl (by first | exact ldi9 | exact ldt9)) | (go_simp; try rfl))
                case hQ => exact fun _ _ _ h => h
                (try simp only [Act.put, List.setIfInBounds_toArray, List.set_cons_zero, List.set_cons_succ])
                apply trail_light
                case hi => (simp only [List.getElem?_toArray, List.getElem?_cons_zero, List.getElem?_cons_succ]; exact rfl)
                case hl => first | exact light_no (by rfl) | ((first | apply light_plain rfl | apply light_yes (by rfl)); intro w9 hS9; have HM9 := HM1.out.grown hS9 HROW.out; have c122 := HM9.cpc; have c121 := HM9.cmode; have c129 := HM9.cvl; have hw9 := hS9.size; have hmb9 : mb < w9.heap.size := (by omega); have ic9 : ∀ (j : Nat) v, (#[.int .i64 i.op, .int .i64 i.d, .int .i64 i.a, .int .i64 i.b, .int .i64 i.c, .int .i64 i.imm])[j]? = some v → w9.cell? ⟨bI, j, none⟩ = some v := (fun j v hj => hS9.cell (HIC.out j v hj) (HRI.out)); have o9 := ic9 0 _ rfl; have tc9 : ∀ (j : Nat) v, ta[j]? = some v → w9.cell? ⟨w.heap.size + 1, j, none⟩ = some v := (fun j v hj => hS9.cell (HTC.out j v hj) (HRT.out)); have ldi9 := loadAt_cells Try.underlying39 (by kernel_rfl) rfl (by kernel_rfl) ic9; have ldt9 := HLT.out w9 tc9; clear tc9 ic9; first | (exact exec_load rfl rfl (by first | exact ldi9 | exact ldt9)) | (go_simp; try rfl))
                case hQ => exact fun _ _ _ h => h
                (try simp only [Act.put, List.setIfInBounds_toArray, List.set_cons_zero, List.set_cons_succ])
                apply trail_light
                case hi => (simp only [List.getElem?_toArray, List.getElem?_cons_zero, List.getElem?_cons_succ]; exact rfl)
                case hl => first | exact light_no (by rfl) | ((first | apply light_plain rfl | apply light_yes (by rfl)); intro w9 hS9; have HM9 := HM1.out.grown hS9 HROW.out; have c122 := HM9.cpc; have c121 := HM9.cmode; have c129 := HM9.cvl; have hw9 := hS9.size; have hmb9 : mb < w9.heap.size := (by omega); have ic9 : ∀ (j : Nat) v, (#[.int .i64 i.op, .int .i64 i.d, .int .i64 i.a, .int .i64 i.b, .int .i64 i.c, .int .i64 i.imm])[j]? = some v → w9.cell? ⟨bI, j, none⟩ = some v := (fun j v hj => hS9.cell (HIC.out j v hj) (HRI.out)); have o9 := ic9 0 _ rfl; have tc9 : ∀ (j : Nat) v, ta[j]? = some v → w9.cell? ⟨w.heap.size + 1, j, none⟩ = some v := (fun j v hj => hS9.cell (HTC.out j v hj) (HRT.out)); have ldi9 := loadAt_cells Try.underlying39 (by kernel_rfl) rfl (by kernel_rfl) ic9; have ldt9 := HLT.out w9 tc9; clear tc9 ic9; first | (exact exec_load rfl rfl (by first | exact ldi9 | exact ldt9)) | (go_simp; try rfl))
                case hQ => exact fun _ _ _ h => h
                (try simp only [Act.put, List.setIfInBounds_toArray, List.set_cons_zero, List.set_cons_succ])
                apply trail_light
                case hi => (simp only [List.getElem?_toArray, List.getElem?_cons_zero, List.getElem?_cons_succ]; exact rfl)
                case hl => first | exact light_no (by rfl) | ((first | apply light_plain rfl | apply light_yes (by rfl)); intro w9 hS9; have HM9 := HM1.out.grown hS9 HROW.out; have c122 := HM9.cpc; have c121 := HM9.cmode; have c129 := HM9.cvl; have hw9 := hS9.size; have hmb9 : mb < w9.heap.size := (by omega); have ic9 : ∀ (j : Nat) v, (#[.int .i64 i.op, .int .i64 i.d, .int .i64 i.a, .int .i64 i.b, .int .i64 i.c, .int .i64 i.imm])[j]? = some v → w9.cell? ⟨bI, j, none⟩ = some v := (fun j v hj => hS9.cell (HIC.out j v hj) (HRI.out)); have o9 := ic9 0 _ rfl; have tc9 : ∀ (j : Nat) v, ta[j]? = some v → w9.cell? ⟨w.heap.size + 1, j, none⟩ = some v := (fun j v hj => hS9.cell (HTC.out j v hj) (HRT.out)); have ldi9 := loadAt_cells Try.underlying39 (by kernel_rfl) rfl (by kernel_rfl) ic9; have ldt9 := HLT.out w9 tc9; clear tc9 ic9; first | (exact exec_load rfl rfl (by first | exact ldi9 | exact ldt9)) | (go_simp; try rfl))
                case hQ => exact fun _ _ _ h => h
                (try simp only [Act.put, List.setIfInBounds_toArray, List.set_cons_zero, List.set_cons_succ])
                apply trail_light
                case hi => (simp only [List.getElem?_toArray, List.getElem?_cons_zero, List.getElem?_cons_succ]; exact rfl)
                case hl => first | exact light_no (by rfl) | ((first | apply light_plain rfl | apply light_yes (by rfl)); intro w9 hS9; have HM9 := HM1.out.grown hS9 HROW.out; have c122 := HM9.cpc; have c121 := HM9.cmode; have c129 := HM9.cvl; have hw9 := hS9.size; have hmb9 : mb < w9.heap.size := (by omega); have ic9 : ∀ (j : Nat) v, (#[.int .i64 i.op, .int .i64 i.d, .int .i64 i.a, .int .i64 i.b, .int .i64 i.c, .int .i64 i.imm])[j]? = some v → w9.cell? ⟨bI, j, none⟩ = some v := (fun j v hj => hS9.cell (HIC.out j v hj) (HRI.out)); have o9 := ic9 0 _ rfl; have tc9 : ∀ (j : Nat) v, ta[j]? = some v → w9.cell? ⟨w.heap.size + 1, j, none⟩ = some v := (fun j v hj => hS9.cell (HTC.out j v hj) (HRT.out)); have ldi9 := loadAt_cells Try.underlying39 (by kernel_rfl) rfl (by kernel_rfl) ic9; have ldt9 := HLT.out w9 tc9; clear tc9 ic9; first | (exact exec_load rfl rfl (by first | exact ldi9 | exact ldt9)) | (go_simp; try rfl))
                case hQ => exact fun _ _ _ h => h
                (try simp only [Act.put, List.setIfInBounds_toArray, List.set_cons_zero, List.set_cons_succ])
                apply trail_light
                case hi => (simp only [List.getElem?_toArray, List.getElem?_cons_zero, List.getElem?_cons_succ]; exact rfl)
                case hl => first | exact light_no (by rfl) | ((first | apply light_plain rfl | apply light_yes (by rfl)); intro w9 hS9; skip; first | (exact exec_load rfl rfl (by first | exact ldi9 | exact ldt9)) | (go_simp; try rfl))
                case hQ => exact fun _ _ _ h => h
                (try simp only [Act.put, List.setIfInBounds_toArray, List.set_cons_zero, List.set_cons_succ])
                apply trail_light
                case hi => (simp only [List.getElem?_toArray, List.getElem?_cons_zero, List.getElem?_cons_succ]; exact rfl)
                case hl => first | exact light_no (by rfl) | ((first | apply light_plain rfl | apply light_yes (by rfl)); intro w9 hS9; have HM9 := HM1.out.grown hS9 HROW.out; have c122 := HM9.cpc; have c121 := HM9.cmode; have c129 := HM9.cvl; have hw9 := hS9.size; have hmb9 : mb < w9.heap.size := (by omega); have ic9 : ∀ (j : Nat) v, (#[.int .i64 i.op, .int .i64 i.d, .int .i64 i.a, .int .i64 i.b, .int .i64 i.c, .int .i64 i.imm])[j]? = some v → w9.cell? ⟨bI, j, none⟩ = some v := (fun j v hj => hS9.cell (HIC.out j v hj) (HRI.out)); have o9 := ic9 0 _ rfl; have tc9 : ∀ (j : Nat) v, ta[j]? = some v → w9.cell? ⟨w.heap.size + 1, j, none⟩ = some v := (fun j v hj => hS9.cell (HTC.out j v hj) (HRT.out)); have ldi9 := loadAt_cells Try.underlying39 (by kernel_rfl) rfl (by kernel_rfl) ic9; have ldt9 := HLT.out w9 tc9; clear tc9 ic9; first | (exact exec_load rfl rfl (by first | exact ldi9 | exact ldt9)) | (go_simp; try rfl))
                case hQ => exact fun _ _ _ h => h
                (try simp only [Act.put, List.setIfInBounds_toArray, List.set_cons_zero, List.set_cons_succ])
                apply trail_light
                case hi => (simp only [List.getElem?_toArray, List.getElem?_cons_zero, List.getElem?_cons_succ]; exact rfl)
                case hl => first | exact light_no (by rfl) | ((first | apply light_plain rfl | apply light_yes (by rfl)); intro w9 hS9; have HM9 := HM1.out.grown hS9 HROW.out; have c122 := HM9.cpc; have c121 := HM9.cmode; have c129 := HM9.cvl; have hw9 := hS9.size; have hmb9 : mb < w9.heap.size := (by omega); have ic9 : ∀ (j : Nat) v, (#[.int .i64 i.op, .int .i64 i.d, .int .i64 i.a, .int .i64 i.b, .int .i64 i.c, .int .i64 i.imm])[j]? = some v → w9.cell? ⟨bI, j, none⟩ = some v := (fun j v hj => hS9.cell (HIC.out j v hj) (HRI.out)); have o9 := ic9 0 _ rfl; have tc9 : ∀ (j : Nat) v, ta[j]? = some v → w9.cell? ⟨w.heap.size + 1, j, none⟩ = some v := (fun j v hj => hS9.cell (HTC.out j v hj) (HRT.out)); have ldi9 := loadAt_cells Try.underlying39 (by kernel_rfl) rfl (by kernel_rfl) ic9; have ldt9 := HLT.out w9 tc9; clear tc9 ic9; first | (exact exec_load rfl rfl (by first | exact ldi9 | exact ldt9)) | (go_simp; try rfl))
                case hQ => exact fun _ _ _ h => h
                (try simp only [Act.put, List.setIfInBounds_toArray, List.set_cons_zero, List.set_cons_succ])
                apply trail_light
                case hi => (simp only [List.getElem?_toArray, List.getElem?_cons_zero, List.getElem?_cons_succ]; exact rfl)
                case hl => first | exact light_no (by rfl) | ((first | apply light_plain rfl | apply light_yes (by rfl)); intro w9 hS9; have HM9 := HM1.out.grown hS9 HROW.out; have c122 := HM9.cpc; have c121 := HM9.cmode; have c129 := HM9.cvl; have hw9 := hS9.size; have hmb9 : mb < w9.heap.size := (by omega); have ic9 : ∀ (j : Nat) v, (#[.int .i64 i.op, .int .i64 i.d, .int .i64 i.a, .int .i64 i.b, .int .i64 i.c, .int .i64 i.imm])[j]? = some v → w9.cell? ⟨bI, j, none⟩ = some v := (fun j v hj => hS9.cell (HIC.out j v hj) (HRI.out)); have o9 := ic9 0 _ rfl; have tc9 : ∀ (j : Nat) v, ta[j]? = some v → w9.cell? ⟨w.heap.size + 1, j, none⟩ = some v := (fun j v hj => hS9.cell (HTC.out j v hj) (HRT.out)); have ldi9 := loadAt_cells Try.underlying39 (by kernel_rfl) rfl (by kernel_rfl) ic9; have ldt9 := HLT.out w9 tc9; clear tc9 ic9; first | (exact exec_load rfl rfl (by first | exact ldi9 | exact ldt9)) | (go_simp; try rfl))
                case hQ => exact fun _ _ _ h => h
                (try simp only [Act.put, List.setIfInBounds_toArray, List.set_cons_zero, List.set_cons_succ])
                apply trail_light
                case hi => (simp only [List.getElem?_toArray, List.getElem?_cons_zero, List.getElem?_cons_succ]; exact rfl)
                case hl => first | exact light_no (by rfl) | ((first | apply light_plain rfl | apply light_yes (by rfl)); intro w9 hS9; have HM9 := HM1.out.grown hS9 HROW.out; have c122 := HM9.cpc; have c121 := HM9.cmode; have c129 := HM9.cvl; have hw9 := hS9.size; have hmb9 : mb < w9.heap.size := (by omega); have ic9 : ∀ (j : Nat) v, (#[.int .i64 i.op, .int .i64 i.d, .int .i64 i.a, .int .i64 i.b, .int .i64 i.c, .int .i64 i.imm])[j]? = some v → w9.cell? ⟨bI, j, none⟩ = some v := (fun j v hj => hS9.cell (HIC.out j v hj) (HRI.out)); have o9 := ic9 0 _ rfl; have tc9 : ∀ (j : Nat) v, ta[j]? = some v → w9.cell? ⟨w.heap.size + 1, j, none⟩ = some v := (fun j v hj => hS9.cell (HTC.out j v hj) (HRT.out)); have ldi9 := loadAt_cells Try.underlying39 (by kernel_rfl) rfl (by kernel_rfl) ic9; have ldt9 := HLT.out w9 tc9; clear tc9 ic9; first | (exact exec_load rfl rfl (by first | exact ldi9 | exact ldt9)) | (go_simp; try rfl))
                case hQ => exact fun _ _ _ h => h
                (try simp only [Act.put, List.setIfInBounds_toArray, List.set_cons_zero, List.set_cons_succ])
                apply trail_light
                case hi => (simp only [List.getElem?_toArray, List.getElem?_cons_zero, List.getElem?_cons_succ]; exact rfl)
                case hl => first | exact light_no (by rfl) | ((first | apply light_plain rfl | apply light_yes (by rfl)); intro w9 hS9; have HM9 := HM1.out.grown hS9 HROW.out; have c122 := HM9.cpc; have c121 := HM9.cmode; have c129 := HM9.cvl; have hw9 := hS9.size; have hmb9 : mb < w9.heap.size := (by omega); have ic9 : ∀ (j : Nat) v, (#[.int .i64 i.op, .int .i64 i.d, .int .i64 i.a, .int .i64 i.b, .int .i64 i.c, .int .i64 i.imm])[j]? = some v → w9.cell? ⟨bI, j, none⟩ = some v := (fun j v hj => hS9.cell (HIC.out j v hj) (HRI.out)); have o9 := ic9 0 _ rfl; have tc9 : ∀ (j : Nat) v, ta[j]? = some v → w9.cell? ⟨w.heap.size + 1, j, none⟩ = some v := (fun j v hj => hS9.cell (HTC.out j v hj) (HRT.out)); have ldi9 := loadAt_cells Try.underlying39 (by kernel_rfl) rfl (by kernel_rfl) ic9; have ldt9 := HLT.out w9 tc9; clear tc9 ic9; first | (exact exec_load rfl rfl (by first | exact ldi9 | exact ldt9)) | (go_simp; try rfl))
                case hQ => exact fun _ _ _ h => h
                (try simp only [Act.put, List.setIfInBounds_toArray, List.set_cons_zero, List.set_cons_succ])
                apply trail_light
                case hi => (simp only [List.getElem?_toArray, List.getElem?_cons_zero, List.getElem?_cons_succ]; exact rfl)
                case hl => first | exact light_no (by rfl) | ((first | apply light_plain rfl | apply light_yes (by rfl)); intro w9 hS9; have HM9 := HM1.out.grown hS9 HROW.out; have c122 := HM9.cpc; have c121 := HM9.cmode; have c129 := HM9.cvl; have hw9 := hS9.size; have hmb9 : mb < w9.heap.size := (by omega); have ic9 : ∀ (j : Nat) v, (#[.int .i64 i.op, .int .i64 i.d, .int .i64 i.a, .int .i64 i.b, .int .i64 i.c, .int .i64 i.imm])[j]? = some v → w9.cell? ⟨bI, j, none⟩ = some v := (fun j v hj => hS9.cell (HIC.out j v hj) (HRI.out)); have o9 := ic9 0 _ rfl; have tc9 : ∀ (j : Nat) v, ta[j]? = some v → w9.cell? ⟨w.heap.size + 1, j, none⟩ = some v := (fun j v hj => hS9.cell (HTC.out j v hj) (HRT.out)); have ldi9 := loadAt_cells Try.underlying39 (by kernel_rfl) rfl (by kernel_rfl) ic9; have ldt9 := HLT.out w9 tc9; clear tc9 ic9; first | (exact exec_load rfl rfl (by first | exact ldi9 | exact ldt9)) | (go_simp; try rfl))
                case hQ => exact fun _ _ _ h => h
                (try simp only [Act.put, List.setIfInBounds_toArray, List.set_cons_zero, List.set_cons_succ])
                apply trail_light
                case hi => (simp only [List.getElem?_toArray, List.getElem?_cons_zero, List.getElem?_cons_succ]; exact rfl)
                case hl => first | exact light_no (by rfl) | ((first | apply light_plain rfl | apply light_yes (by rfl)); intro w9 hS9; have HM9 := HM1.out.grown hS9 HROW.out; have c122 := HM9.cpc; have c121 := HM9.cmode; have c129 := HM9.cvl; have hw9 := hS9.size; have hmb9 : mb < w9.heap.size := (by omega); have ic9 : ∀ (j : Nat) v, (#[.int .i64 i.op, .int .i64 i.d, .int .i64 i.a, .int .i64 i.b, .int .i64 i.c, .int .i64 i.imm])[j]? = some v → w9.cell? ⟨bI, j, none⟩ = some v := (fun j v hj => hS9.cell (HIC.out j v hj) (HRI.out)); have o9 := ic9 0 _ rfl; have tc9 : ∀ (j : Nat) v, ta[j]? = some v → w9.cell? ⟨w.heap.size + 1, j, none⟩ = some v := (fun j v hj => hS9.cell (HTC.out j v hj) (HRT.out)); have ldi9 := loadAt_cells Try.underlying39 (by kernel_rfl) rfl (by kernel_rfl) ic9; have ldt9 := HLT.out w9 tc9; clear tc9 ic9; first | (exact exec_load rfl rfl (by first | exact ldi9 | exact ldt9)) | (go_simp; try rfl))
                case hQ => exact fun _ _ _ h => h
                (try simp only [Act.put, List.setIfInBounds_toArray, List.set_cons_zero, List.set_cons_succ])
                apply trail_light
                case hi => (simp only [List.getElem?_toArray, List.getElem?_cons_zero, List.getElem?_cons_succ]; exact rfl)
                case hl => first | exact light_no (by rfl) | ((first | apply light_plain rfl | apply light_yes (by rfl)); intro w9 hS9; skip; first | (exact exec_load rfl rfl (by first | exact ldi9 | exact ldt9)) | (go_simp; try rfl))
                case hQ => exact fun _ _ _ h => h
                (try simp only [Act.put, List.setIfInBounds_toArray, List.set_cons_zero, List.set_cons_succ])
                apply trail_light
                case hi => (simp only [List.getElem?_toArray, List.getElem?_cons_zero, List.getElem?_cons_succ]; exact rfl)
                case hl => first | exact light_no (by rfl) | ((first | apply light_plain rfl | apply light_yes (by rfl)); intro w9 hS9; have HM9 := HM1.out.grown hS9 HROW.out; have c122 := HM9.cpc; have c121 := HM9.cmode; have c129 := HM9.cvl; have hw9 := hS9.size; have hmb9 : mb < w9.heap.size := (by omega); have ic9 : ∀ (j : Nat) v, (#[.int .i64 i.op, .int .i64 i.d, .int .i64 i.a, .int .i64 i.b, .int .i64 i.c, .int .i64 i.imm])[j]? = some v → w9.cell? ⟨bI, j, none⟩ = some v := (fun j v hj => hS9.cell (HIC.out j v hj) (HRI.out)); have o9 := ic9 0 _ rfl; have tc9 : ∀ (j : Nat) v, ta[j]? = some v → w9.cell? ⟨w.heap.size + 1, j, none⟩ = some v := (fun j v hj => hS9.cell (HTC.out j v hj) (HRT.out)); have ldi9 := loadAt_cells Try.underlying39 (by kernel_rfl) rfl (by kernel_rfl) ic9; have ldt9 := HLT.out w9 tc9; clear tc9 ic9; first | (exact exec_load rfl rfl (by first | exact ldi9 | exact ldt9)) | (go_simp; try rfl))
                case hQ => exact fun _ _ _ h => h
                (try simp only [Act.put, List.setIfInBounds_toArray, List.set_cons_zero, List.set_cons_succ])
                apply trail_light
                case hi => (simp only [List.getElem?_toArray, List.getElem?_cons_zero, List.getElem?_cons_succ]; exact rfl)
                case hl => first | exact light_no (by rfl) | ((first | apply light_plain rfl | apply light_yes (by rfl)); intro w9 hS9; have HM9 := HM1.out.grown hS9 HROW.out; have c122 := HM9.cpc; have c121 := HM9.cmode; have c129 := HM9.cvl; have hw9 := hS9.size; have hmb9 : mb < w9.heap.size := (by omega); have ic9 : ∀ (j : Nat) v, (#[.int .i64 i.op, .int .i64 i.d, .int .i64 i.a, .int .i64 i.b, .int .i64 i.c, .int .i64 i.imm])[j]? = some v → w9.cell? ⟨bI, j, none⟩ = some v := (fun j v hj => hS9.cell (HIC.out j v hj) (HRI.out)); have o9 := ic9 0 _ rfl; have tc9 : ∀ (j : Nat) v, ta[j]? = some v → w9.cell? ⟨w.heap.size + 1, j, none⟩ = some v := (fun j v hj => hS9.cell (HTC.out j v hj) (HRT.out)); have ldi9 := loadAt_cells Try.underlying39 (by kernel_rfl) rfl (by kernel_rfl) ic9; have ldt9 := HLT.out w9 tc9; clear tc9 ic9; first | (exact exec_load rfl rfl (by first | exact ldi9 | exact ldt9)) | (go_simp; try rfl))
                case hQ => exact fun _ _ _ h => h
                (try simp only [Act.put, List.setIfInBounds_toArray, List.set_cons_zero, List.set_cons_succ])
                apply trail_light
                case hi => (simp only [List.getElem?_toArray, List.getElem?_cons_zero, List.getElem?_cons_succ]; exact rfl)
                case hl => first | exact light_no (by rfl) | ((first | apply light_plain rfl | apply light_yes (by rfl)); intro w9 hS9; have HM9 := HM1.out.grown hS9 HROW.out; have c122 := HM9.cpc; have c121 := HM9.cmode; have c129 := HM9.cvl; have hw9 := hS9.size; have hmb9 : mb < w9.heap.size := (by omega); have ic9 : ∀ (j : Nat) v, (#[.int .i64 i.op, .int .i64 i.d, .int .i64 i.a, .int .i64 i.b, .int .i64 i.c, .int .i64 i.imm])[j]? = some v → w9.cell? ⟨bI, j, none⟩ = some v := (fun j v hj => hS9.cell (HIC.out j v hj) (HRI.out)); have o9 := ic9 0 _ rfl; have tc9 : ∀ (j : Nat) v, ta[j]? = some v → w9.cell? ⟨w.heap.size + 1, j, none⟩ = some v := (fun j v hj => hS9.cell (HTC.out j v hj) (HRT.out)); have ldi9 := loadAt_cells Try.underlying39 (by kernel_rfl) rfl (by kernel_rfl) ic9; have ldt9 := HLT.out w9 tc9; clear tc9 ic9; first | (exact exec_load rfl rfl (by first | exact ldi9 | exact ldt9)) | (go_simp; try rfl))
                case hQ => exact fun _ _ _ h => h
                (try simp only [Act.put, List.setIfInBounds_toArray, List.set_cons_zero, List.set_cons_succ])
                apply trail_light
                case hi => (simp only [List.getElem?_toArray, List.getElem?_cons_zero, List.getElem?_cons_succ]; exact rfl)
                case hl => first | exact light_no (by rfl) | ((first | apply light_plain rfl | apply light_yes (by rfl)); intro w9 hS9; skip; first | (exact exec_load rfl rfl (by first | exact ldi9 | exact ldt9)) | (go_simp; try rfl))
                case hQ => exact fun _ _ _ h => h
                (try simp only [Act.put, List.setIfInBounds_toArray, List.set_cons_zero, List.set_cons_succ])
                apply trail_light
                case hi => (simp only [List.getElem?_toArray, List.getElem?_cons_zero, List.getElem?_cons_succ]; exact rfl)
                case hl => first | exact light_no (by rfl) | ((first | apply light_plain rfl | apply light_yes (by rfl)); intro w9 hS9; have HM9 := HM1.out.grown hS9 HROW.out; have c122 := HM9.cpc; have c121 := HM9.cmode; have c129 := HM9.cvl; have hw9 := hS9.size; have hmb9 : mb < w9.heap.size := (by omega); have ic9 : ∀ (j : Nat) v, (#[.int .i64 i.op, .int .i64 i.d, .int .i64 i.a, .int .i64 i.b, .int .i64 i.c, .int .i64 i.imm])[j]? = some v → w9.cell? ⟨bI, j, none⟩ = some v := (fun j v hj => hS9.cell (HIC.out j v hj) (HRI.out)); have o9 := ic9 0 _ rfl; have tc9 : ∀ (j : Nat) v, ta[j]? = some v → w9.cell? ⟨w.heap.size + 1, j, none⟩ = some v := (fun j v hj => hS9.cell (HTC.out j v hj) (HRT.out)); have ldi9 := loadAt_cells Try.underlying39 (by kernel_rfl) rfl (by kernel_rfl) ic9; have ldt9 := HLT.out w9 tc9; clear tc9 ic9; first | (exact exec_load rfl rfl (by first | exact ldi9 | exact ldt9)) | (go_simp; try rfl))
                case hQ => exact fun _ _ _ h => h
                (try simp only [Act.put, List.setIfInBounds_toArray, List.set_cons_zero, List.set_cons_succ])
                apply trail_light
                case hi => (simp only [List.getElem?_toArray, List.getElem?_cons_zero, List.getElem?_cons_succ]; exact rfl)
                case hl => first | exact light_no (by rfl) | ((first | apply light_plain rfl | apply light_yes (by rfl)); intro w9 hS9; have HM9 := HM1.out.grown hS9 HROW.out; have c122 := HM9.cpc; have c121 := HM9.cmode; have c129 := HM9.cvl; have hw9 := hS9.size; have hmb9 : mb < w9.heap.size := (by omega); have ic9 : ∀ (j : Nat) v, (#[.int .i64 i.op, .int .i64 i.d, .int .i64 i.a, .int .i64 i.b, .int .i64 i.c, .int .i64 i.imm])[j]? = some v → w9.cell? ⟨bI, j, none⟩ = some v := (fun j v hj => hS9.cell (HIC.out j v hj) (HRI.out)); have o9 := ic9 0 _ rfl; have tc9 : ∀ (j : Nat) v, ta[j]? = some v → w9.cell? ⟨w.heap.size + 1, j, none⟩ = some v := (fun j v hj => hS9.cell (HTC.out j v hj) (HRT.out)); have ldi9 := loadAt_cells Try.underlying39 (by kernel_rfl) rfl (by kernel_rfl) ic9; have ldt9 := HLT.out w9 tc9; clear tc9 ic9; first | (exact exec_load rfl rfl (by first | exact ldi9 | exact ldt9)) | (go_simp; try rfl))
                case hQ => exact fun _ _ _ h => h
                (try simp only [Act.put, List.setIfInBounds_toArray, List.set_cons_zero, List.set_cons_succ])
                apply trail_light
                case hi => (simp only [List.getElem?_toArray, List.getElem?_cons_zero, List.getElem?_cons_succ]; exact rfl)
                case hl => first | exact light_no (by rfl) | ((first | apply light_plain rfl | apply light_yes (by rfl)); intro w9 hS9; have HM9 := HM1.out.grown hS9 HROW.out; have c122 := HM9.cpc; have c121 := HM9.cmode; have c129 := HM9.cvl; have hw9 := hS9.size; have hmb9 : mb < w9.heap.size := (by omega); have ic9 : ∀ (j : Nat) v, (#[.int .i64 i.op, .int .i64 i.d, .int .i64 i.a, .int .i64 i.b, .int .i64 i.c, .int .i64 i.imm])[j]? = some v → w9.cell? ⟨bI, j, none⟩ = some v := (fun j v hj => hS9.cell (HIC.out j v hj) (HRI.out)); have o9 := ic9 0 _ rfl; have tc9 : ∀ (j : Nat) v, ta[j]? = some v → w9.cell? ⟨w.heap.size + 1, j, none⟩ = some v := (fun j v hj => hS9.cell (HTC.out j v hj) (HRT.out)); have ldi9 := loadAt_cells Try.underlying39 (by kernel_rfl) rfl (by kernel_rfl) ic9; have ldt9 := HLT.out w9 tc9; clear tc9 ic9; first | (exact exec_load rfl rfl (by first | exact ldi9 | exact ldt9)) | (go_simp; try rfl))
                case hQ => exact fun _ _ _ h => h
                (try simp only [Act.put, List.setIfInBounds_toArray, List.set_cons_zero, List.set_cons_succ])
                apply trail_light
                case hi => (simp only [List.getElem?_toArray, List.getElem?_cons_zero, List.getElem?_cons_succ]; exact rfl)
                case hl => first | exact light_no (by rfl) | ((first | apply light_plain rfl | apply light_yes (by rfl)); intro w9 hS9; have HM9 := HM1.out.grown hS9 HROW.out; have c122 := HM9.cpc; have c121 := HM9.cmode; have c129 := HM9.cvl; have hw9 := hS9.size; have hmb9 : mb < w9.heap.size := (by omega); have ic9 : ∀ (j : Nat) v, (#[.int .i64 i.op, .int .i64 i.d, .int .i64 i.a, .int .i64 i.b, .int .i64 i.c, .int .i64 i.imm])[j]? = some v → w9.cell? ⟨bI, j, none⟩ = some v := (fun j v hj => hS9.cell (HIC.out j v hj) (HRI.out)); have o9 := ic9 0 _ rfl; have tc9 : ∀ (j : Nat) v, ta[j]? = some v → w9.cell? ⟨w.heap.size + 1, j, none⟩ = some v := (fun j v hj => hS9.cell (HTC.out j v hj) (HRT.out)); have ldi9 := loadAt_cells Try.underlying39 (by kernel_rfl) rfl (by kernel_rfl) ic9; have ldt9 := HLT.out w9 tc9; clear tc9 ic9; first | (exact exec_load rfl rfl (by first | exact ldi9 | exact ldt9)) | (go_simp; try rfl))
                case hQ => exact fun _ _ _ h => h
                (try simp only [Act.put, List.setIfInBounds_toArray, List.set_cons_zero, List.set_cons_succ])
                apply trail_heavy
                case hi => (simp only [List.getElem?_toArray, List.getElem?_cons_zero, List.getElem?_cons_succ]; exact rfl)
                go_wp2_with (first | (go_at_call 39; refine (HSC.out _ _ (HM1.out.grown (grown_of_below (Below.refl _ _).drew _) HROW.out).vints).mono ?_; rintro e w4 ⟨v4, rfl, hR4, hf4, hl4, hb4⟩; obtain ⟨A4, c4, hv4, _, _⟩ := SL.form hR4; subst hv4; have hw4 : Below wJ.heap.size wJ w4 := (by (repeat' first | with_reducible (first | exact Below.refl _ _ | assumption | refine Below.alloc ?_ ?_ _ | refine below_drewN ?_ _ | refine Below.drew ?_ | refine Below.setCell ?_ ?_ _ | refine Below.trans ?_ (Below.mono (by with_reducible assumption) ?_)) | go_size)); have HR4 := Lib.hid hR4; have HF4 := Lib.hid hf4; have HL4 := Lib.hid hl4; have HW4 := Lib.hid hw4; have q4 := hw4.size; clear hR4 hf4 hl4 hb4 hw4) | (at_builtin; refine wpList_append_own_at _ rfl (.tmp 116) (.tmp 136) _ rfl (mb + 1) 72 il (.agg #[.int .i64 0, .int .i64 0, .slice none 0 0]) 3 40 Try.underlying52 IL.out.1 IL.out.2.1 IL.out.2.2.1 IL.out.2.2.2 rfl (by decide) _ _ _ rfl ((owns_below HLk1.out.row HW4.out).alloc _) ⟨w4.heap.size, 0, none⟩ 1 1 [.int .i64 (m.pc : Int), .int .i64 i.op, .slice A4 (Ev.seen t i m.s.v (m.s.mode == 0)).length c4] rfl rfl (cell_three_new _ _ _ _ _) (one_three _ _ _ _) (by unfold maxLen; omega) (by omega) (by simp; omega) ?_; intro v5 w5 hown5 hg5 hn5 hat5))
                refine ⟨by (first | exact grown_trans (grown_trans (grown_of_below HW4.out _) (World.grownBy_alloc _ _ _)) hg5 | exact grown_trans (grown_of_below HW4.out _) (World.grownBy_alloc _ _ _) | exact grown_of_below HW4.out _), ?_⟩
                apply trail_light
                case hi => (simp only [List.getElem?_toArray, List.getElem?_cons_zero, List.getElem?_cons_succ]; exact rfl)
                case hl => first | exact light_no (by rfl) | ((first | apply light_plain rfl | apply light_yes (by rfl)); intro w9 hS9; skip; first | (exact exec_load rfl rfl (by first | exact ldi9 | exact ldt9)) | (go_simp; try rfl))
                case hQ => exact fun _ _ _ h => h
                (try simp only [Act.put, List.setIfInBounds_toArray, List.set_cons_zero, List.set_cons_succ])
                apply trail_heavy
                case hi => (simp only [List.getElem?_toArray, List.getElem?_cons_zero, List.getElem?_cons_succ]; exact rfl)
                go_wp2_with (first | (go_at_call 39; refine (HSC.out _ _ (HM1.out.grown (grown_of_below (Below.refl _ _).drew _) HROW.out).vints).mono ?_; rintro e w4 ⟨v4, rfl, hR4, hf4, hl4, hb4⟩; obtain ⟨A4, c4, hv4, _, _⟩ := SL.form hR4; subst hv4; have hw4 : Below wJ.heap.size wJ w4 := (by (repeat' first | with_reducible (first | exact Below.refl _ _ | assumption | refine Below.alloc ?_ ?_ _ | refine below_drewN ?_ _ | refine Below.drew ?_ | refine Below.setCell ?_ ?_ _ | refine Below.trans ?_ (Below.mono (by with_reducible assumption) ?_)) | go_size)); have HR4 := Lib.hid hR4; have HF4 := Lib.hid hf4; have HL4 := Lib.hid hl4; have HW4 := Lib.hid hw4; have q4 := hw4.size; clear hR4 hf4 hl4 hb4 hw4) | (at_builtin; refine wpList_append_own_at _ rfl (.tmp 116) (.tmp 136) _ rfl (mb + 1) 72 il (.agg #[.int .i64 0, .int .i64 0, .slice none 0 0]) 3 40 Try.underlying52 IL.out.1 IL.out.2.1 IL.out.2.2.1 IL.out.2.2.2 rfl (by decide) _ _ _ rfl ((owns_below HLk1.out.row HW4.out).alloc _) ⟨w4.heap.size, 0, none⟩ 1 1 [.int .i64 (m.pc : Int), .int .i64 i.op, .slice A4 (Ev.seen t i m.s.v (m.s.mode == 0)).length c4] rfl rfl (cell_three_new _ _ _ _ _) (one_three _ _ _ _) (by unfold maxLen; omega) (by omega) (by simp; omega) ?_; intro v5 w5 hown5 hg5 hn5 hat5))
                refine ⟨by (first | exact grown_trans (grown_trans (grown_of_below HW4.out _) (World.grownBy_alloc _ _ _)) hg5 | exact grown_trans (grown_of_below HW4.out _) (World.grownBy_alloc _ _ _) | exact grown_of_below HW4.out _), ?_⟩
                apply trail_heavy
                case hi => (simp only [List.getElem?_toArray, List.getElem?_cons_zero, List.getElem?_cons_succ]; exact rfl)
                go_wp2_with (first | (go_at_call 39; refine (HSC.out _ _ (HM1.out.grown (grown_of_below (Below.refl _ _).drew _) HROW.out).vints).mono ?_; rintro e w4 ⟨v4, rfl, hR4, hf4, hl4, hb4⟩; obtain ⟨A4, c4, hv4, _, _⟩ := SL.form hR4; subst hv4; have hw4 : Below wJ.heap.size wJ w4 := (by (repeat' first | with_reducible (first | exact Below.refl _ _ | assumption | refine Below.alloc ?_ ?_ _ | refine below_drewN ?_ _ | refine Below.drew ?_ | refine Below.setCell ?_ ?_ _ | refine Below.trans ?_ (Below.mono (by with_reducible assumption) ?_)) | go_size)); have HR4 := Lib.hid hR4; have HF4 := Lib.hid hf4; have HL4 := Lib.hid hl4; have HW4 := Lib.hid hw4; have q4 := hw4.size; clear hR4 hf4 hl4 hb4 hw4) | (at_builtin; refine wpList_append_own_at _ rfl (.tmp 116) (.tmp 136) _ rfl (mb + 1) 72 il (.agg #[.int .i64 0, .int .i64 0, .slice none 0 0]) 3 40 Try.underlying52 IL.out.1 IL.out.2.1 IL.out.2.2.1 IL.out.2.2.2 rfl (by decide) _ _ _ rfl ((owns_below HLk1.out.row HW4.out).alloc _) ⟨w4.heap.size, 0, none⟩ 1 1 [.int .i64 (m.pc : Int), .int .i64 i.op, .slice A4 (Ev.seen t i m.s.v (m.s.mode == 0)).length c4] rfl rfl (cell_three_new _ _ _ _ _) (one_three _ _ _ _) (by unfold maxLen; omega) (by omega) (by simp; omega) ?_; intro v5 w5 hown5 hg5 hn5 hat5))
                refine ⟨by (first | exact grown_trans (grown_trans (grown_of_below HW4.out _) (World.grownBy_alloc _ _ _)) hg5 | exact grown_trans (grown_of_below HW4.out _) (World.grownBy_alloc _ _ _) | exact grown_of_below HW4.out _), ?_⟩
                apply trail_light
                case hi => (simp only [List.getElem?_toArray, List.getElem?_cons_zero, List.getElem?_cons_succ]; exact rfl)
                case hl => first | exact light_no (by rfl) | ((first | apply light_plain rfl | apply light_yes (by rfl)); intro w9 hS9; have HM9 := HM1.out.grown hS9 HROW.out; have c122 := HM9.cpc; have c121 := HM9.cmode; have c129 := HM9.cvl; have hw9 := hS9.size; have hmb9 : mb < w9.heap.size := (by omega); have ic9 : ∀ (j : Nat) v, (#[.int .i64 i.op, .int .i64 i.d, .int .i64 i.a, .int .i64 i.b, .int .i64 i.c, .int .i64 i.imm])[j]? = some v → w9.cell? ⟨bI, j, none⟩ = some v := (fun j v hj => hS9.cell (HIC.out j v hj) (HRI.out)); have o9 := ic9 0 _ rfl; have tc9 : ∀ (j : Nat) v, ta[j]? = some v → w9.cell? ⟨w.heap.size + 1, j, none⟩ = some v := (fun j v hj => hS9.cell (HTC.out j v hj) (HRT.out)); have ldi9 := loadAt_cells Try.underlying39 (by kernel_rfl) rfl (by kernel_rfl) ic9; have ldt9 := HLT.out w9 tc9; clear tc9 ic9; first | (exact exec_load rfl rfl (by first | exact ldi9 | exact ldt9)) | (go_simp; try rfl))
                case hQ => exact fun _ _ _ h => h
                (try simp only [Act.put, List.setIfInBounds_toArray, List.set_cons_zero, List.set_cons_succ])
                apply trail_light
                case hi => (simp only [List.getElem?_toArray, List.getElem?_cons_zero, List.getElem?_cons_succ]; exact rfl)
                case hl => first | exact light_no (by rfl) | ((first | apply light_plain rfl | apply light_yes (by rfl)); intro w9 hS9; have HM9 := HM1.out.grown hS9 HROW.out; have c122 := HM9.cpc; have c121 := HM9.cmode; have c129 := HM9.cvl; have hw9 := hS9.size; have hmb9 : mb < w9.heap.size := (by omega); have ic9 : ∀ (j : Nat) v, (#[.int .i64 i.op, .int .i64 i.d, .int .i64 i.a, .int .i64 i.b, .int .i64 i.c, .int .i64 i.imm])[j]? = some v → w9.cell? ⟨bI, j, none⟩ = some v := (fun j v hj => hS9.cell (HIC.out j v hj) (HRI.out)); have o9 := ic9 0 _ rfl; have tc9 : ∀ (j : Nat) v, ta[j]? = some v → w9.cell? ⟨w.heap.size + 1, j, none⟩ = some v := (fun j v hj => hS9.cell (HTC.out j v hj) (HRT.out)); have ldi9 := loadAt_cells Try.underlying39 (by kernel_rfl) rfl (by kernel_rfl) ic9; have ldt9 := HLT.out w9 tc9; clear tc9 ic9; first | (exact exec_load rfl rfl (by first | exact ldi9 | exact ldt9)) | (go_simp; try rfl))
                case hQ => exact fun _ _ _ h => h
                (try simp only [Act.put, List.setIfInBounds_toArray, List.set_cons_zero, List.set_cons_succ])
                apply trail_light
                case hi => (simp only [List.getElem?_toArray, List.getElem?_cons_zero, List.getElem?_cons_succ]; exact rfl)
                case hl => first | exact light_no (by rfl) | ((first | apply light_plain rfl | apply light_yes (by rfl)); intro w9 hS9; have HM9 := HM1.out.grown hS9 HROW.out; have c122 := HM9.cpc; have c121 := HM9.cmode; have c129 := HM9.cvl; have hw9 := hS9.size; have hmb9 : mb < w9.heap.size := (by omega); have ic9 : ∀ (j : Nat) v, (#[.int .i64 i.op, .int .i64 i.d, .int .i64 i.a, .int .i64 i.b, .int .i64 i.c, .int .i64 i.imm])[j]? = some v → w9.cell? ⟨bI, j, none⟩ = some v := (fun j v hj => hS9.cell (HIC.out j v hj) (HRI.out)); have o9 := ic9 0 _ rfl; have tc9 : ∀ (j : Nat) v, ta[j]? = some v → w9.cell? ⟨w.heap.size + 1, j, none⟩ = some v := (fun j v hj => hS9.cell (HTC.out j v hj) (HRT.out)); have ldi9 := loadAt_cells Try.underlying39 (by kernel_rfl) rfl (by kernel_rfl) ic9; have ldt9 := HLT.out w9 tc9; clear tc9 ic9; first | (exact exec_load rfl rfl (by first | exact ldi9 | exact ldt9)) | (go_simp; try rfl))
                case hQ => exact fun _ _ _ h => h
                (try simp only [Act.put, List.setIfInBounds_toArray, List.set_cons_zero, List.set_cons_succ])
                refine trail_nil ?_
                refine last_at rfl ?_
                (try dsimp only)
                obtain ⟨A5, c5, hv5, _, _⟩ := SL.form (SL.of_own hown5)
                subst hv5
                have hg5' : (w4.alloc (.cells #[.int .i64 (m.pc : Int), .int .i64 i.op, .slice A4 (Ev.seen t i m.s.v (m.s.mode == 0)).length c4] 72)).grownBy w5 vl.ownBlock := hg5
                have hat5' : ((.slice A5 (lk.length + 1) c5) : Value).ownBlock = vl.ownBlock ∨ ((.slice A5 (lk.length + 1) c5) : Value).ownBlock = some (w4.alloc (.cells #[.int .i64 (m.pc : Int), .int .i64 i.op, .slice A4 (Ev.seen t i m.s.v (m.s.mode == 0)).length c4] 72)).heap.size := hat5
                have B4A : Below wJ.heap.size wJ (w4.alloc (.cells #[.int .i64 (m.pc : Int), .int .i64 i.op, .slice A4 (Ev.seen t i m.s.v (m.s.mode == 0)).length c4] 72)) := HW4.out.alloc q4 _
                have HM5 : Hid (MacAt w5 w1.heap.size mb (.slice A2 us.length c2) us vl { m with st := m.st + 1 }) := (HM1.out.stays B4A).grown hg5' HROW.out
                have HLk5 : Hid (Leaks w5 (mb + 1) (.slice A5 (lk.length + 1) c5) (lk ++ [(Ev.leak t i m.pc m.s (m.s.mode == 0))]) (ls ++ [.slice A4 (Ev.seen t i m.s.v (m.s.mode == 0)).length c4])) :=
                  HLk1.out.push (x := (Ev.leak t i m.pc m.s (m.s.mode == 0))) (by omega) B4A (SL.at_ HR4.out ((Below.refl _ _).alloc (Nat.le_refl _) _) (Nat.le_refl _)) (HF4.out.less (Nat.le_refl _)) (fun b hb => Nat.lt_of_lt_of_le (HL4.out b hb) (by simp)) hg5' hown5 (hat5'.imp id fun e => ⟨_, e, Nat.le_refl _⟩)
                have hz5 := hg5'.size
                simp only [World.size_alloc] at hz5
                have HB5 : Hid (Below w1.heap.size w1 w5) := (HB1.out.trans (B4A.mono (by omega))).grown hg5' (by simp; omega) (fun q hq => by have := HROW.out q hq; omega)
                have HIC5 : Hid (∀ (j : Nat) v, (#[.int .i64 i.op, .int .i64 i.d, .int .i64 i.a, .int .i64 i.b, .int .i64 i.c, .int .i64 i.imm] : Array Value)[j]? = some v → w5.cell? ⟨bI, j, none⟩ = some v) := fun j v hj => (grown_trans (grown_of_below B4A _) hg5').cell (HIC.out j v hj) HRI.out
                have c129 := HM5.out.cvl
                have lml5 := HM5.out.loose
                clear hown5 hg5 hn5 hat5 hg5' hat5' B4A HM1 HLk1 HB1 HIC HTC HR4 HF4 HL4 HW4 HSC HLT
                go_upto_region 19 with fail
                have HM6 : Hid (MacAt (w5.setCell ⟨mb, 129, none⟩ (.slice A5 (lk.length + 1) c5)) w1.heap.size mb (.slice A2 us.length c2) us (.slice A5 (lk.length + 1) c5) { m with st := m.st + 1 }) := HM5.out.setVl (.slice A5 (lk.length + 1) c5)
                have HLk6 : Hid (Leaks (w5.setCell ⟨mb, 129, none⟩ (.slice A5 (lk.length + 1) c5)) (mb + 1) (.slice A5 (lk.length + 1) c5) (lk ++ [(Ev.leak t i m.pc m.s (m.s.mode == 0))]) (ls ++ [.slice A4 (Ev.seen t i m.s.v (m.s.mode == 0)).length c4])) := HLk5.out.aside mb 129 _ (Nat.lt_succ_self _)
                have HB6 : Hid (Below w1.heap.size w1 (w5.setCell ⟨mb, 129, none⟩ (.slice A5 (lk.length + 1) c5))) := HB5.out.setCell lo1 _
                have hbm : bI ≠ mb := by omega
                have n0 : (w5.setCell ⟨mb, 129, none⟩ (.slice A5 (lk.length + 1) c5)).cell? ⟨bI, 0, none⟩ = some (.int .i64 i.op) := (World.cell?_setCell_other _ _ _ _ (by intro e; injection e with e; omega)).trans (HIC5.out 0 _ rfl)
                have n1 : (w5.setCell ⟨mb, 129, none⟩ (.slice A5 (lk.length + 1) c5)).cell? ⟨bI, 1, none⟩ = some (.int .i64 i.d) := (World.cell?_setCell_other _ _ _ _ (by intro e; injection e with e; omega)).trans (HIC5.out 1 _ rfl)
                have n2 : (w5.setCell ⟨mb, 129, none⟩ (.slice A5 (lk.length + 1) c5)).cell? ⟨bI, 2, none⟩ = some (.int .i64 i.a) := (World.cell?_setCell_other _ _ _ _ (by intro e; injection e with e; omega)).trans (HIC5.out 2 _ rfl)
                have n3 : (w5.setCell ⟨mb, 129, none⟩ (.slice A5 (lk.length + 1) c5)).cell? ⟨bI, 3, none⟩ = some (.int .i64 i.b) := (World.cell?_setCell_other _ _ _ _ (by intro e; injection e with e; omega)).trans (HIC5.out 3 _ rfl)
                have n4 : (w5.setCell ⟨mb, 129, none⟩ (.slice A5 (lk.length + 1) c5)).cell? ⟨bI, 4, none⟩ = some (.int .i64 i.c) := (World.cell?_setCell_other _ _ _ _ (by intro e; injection e with e; omega)).trans (HIC5.out 4 _ rfl)
                have n5 : (w5.setCell ⟨mb, 129, none⟩ (.slice A5 (lk.length + 1) c5)).cell? ⟨bI, 5, none⟩ = some (.int .i64 i.imm) := (World.cell?_setCell_other _ _ _ _ (by intro e; injection e with e; omega)).trans (HIC5.out 5 _ rfl)
                have z6 : bI < (w5.setCell ⟨mb, 129, none⟩ (.slice A5 (lk.length + 1) c5)).heap.size := by simp; omega
                generalize w5.setCell ⟨mb, 129, none⟩ (.slice A5 (lk.length + 1) c5) = w6 at *
                have HPC : m.pc ≤ 1099511627776 := by omega
                have HSTEP := Lib.hid (step_any ay.length i { m with st := m.st + 1 } _ _ _ _ _ _ HM6.out HPC HOKi.out HFM.out)
                have HFN := Lib.hid (Ev.mcStep_fine (m := { m with st := m.st + 1 }) HFM.out HOKi.out)
                have hpc2 := Ev.mcStep_pc (m := { m with st := m.st + 1 }) HOKi.out (N := 1099511627776) (by show m.pc + 1 ≤ _; omega) (by omega)
                have HST2 := Lib.hid (Ev.mcStep_st i { m with st := m.st + 1 })
                clear HM5 HLk5 HB5 HIC5 c129 lml5 hpc hbm
                cases hen : (Ev.mcStep i { m with st := m.st + 1 }).2 with
                | false =>
                  have HON2 := Lib.hid (HON.out hen)
                  rw [hen] at HSTEP
                  clear hen HEN HON
                  generalize (Ev.mcStep i { m with st := m.st + 1 }).1 = m' at *
                  go_wp2_with (go_at_call 77; refine HSTEP.out.mono ?_; rintro e w7 ⟨rfl, hM7, hS7⟩)
                  have HM7 := Lib.hid hM7
                  have st2 : m'.st = m.st + 1 := HST2.out
                  have HLk7 := Lib.hid (HLk6.out.sets hS7 (Nat.le_refl _))
                  have HB7 := Lib.hid (HB6.out.trans ((hS7.keeps HB6.out.size).mono (Nat.le_refl _)))
                  clear hM7 hS7
                  go_roundw
                  case rel => exact ⟨m', _, _, _, n, ⟨HM7.out, HFN.out, HLk7.out, HON2.out.symm.trans HRES.out⟩, hpc2, by omega, by have := HLKL.out; simp; omega, by omega, by omega, HB7.out⟩
                  case measure =>
                    rw [HM7.out.cst, HC127.out]
                    simp only [Option.getD_some, intOf]
                    omega
                | true =>
                  have HRR : Hid (R = Ev.ranOf (Ev.mcStep i { m with st := m.st + 1 }).1 (lk ++ [(Ev.leak t i m.pc m.s (m.s.mode == 0))])) := HRES.out.symm.trans (HEN.out hen)
                  rw [hen] at HSTEP
                  clear hen HEN HON
                  generalize (Ev.mcStep i { m with st := m.st + 1 }).1 = m' at *
                  go_upto_region 20 with (go_at_call 77; refine HSTEP.out.mono ?_; rintro e w7 ⟨rfl, hM7, hS7⟩)
                  have HM7 := Lib.hid hM7
                  have HLk7 := Lib.hid (HLk6.out.sets hS7 (Nat.le_refl _))
                  have HB7 := Lib.hid (HB6.out.trans ((hS7.keeps HB6.out.size).mono (Nat.le_refl _)))
                  have lmb7 := hM7.lt
                  have c120 := hM7.cva
                  have c121 := hM7.cmode
                  have c125 := hM7.cea
                  have c128 := hM7.crm
                  have lm7 := hM7.loose
                  clear hM7 hS7 HM6 HLk6 HB6 HSTEP n0 n1 n2 n3 n4 n5
                  go_region
                  all_goals
                    first
                    | (have HF := Lib.hid (HM7.out.fin.drew)
                       have HLkE : Hid (Leaks ((w7.setCell ⟨mb, 128, none⟩ (.int .i64 m'.s.mode)).setCell ⟨mb, 125, none⟩ (.slice A2 us.length c2)).drew (mb + 1) (.slice A5 (lk.length + 1) c5) (lk ++ [(Ev.leak t i m.pc m.s (m.s.mode == 0))]) (ls ++ [.slice A4 (Ev.seen t i m.s.v (m.s.mode == 0)).length c4])) := ((HLk7.out.aside mb 128 _ (Nat.lt_succ_self _)).aside mb 125 _ (Nat.lt_succ_self _)).stays (Below.refl _ _).drew
                       have HBE : Hid (Below w1.heap.size w1 ((w7.setCell ⟨mb, 128, none⟩ (.int .i64 m'.s.mode)).setCell ⟨mb, 125, none⟩ (.slice A2 us.length c2)).drew) := ((HB7.out.setCell lo1 _).setCell lo1 _).drew
                       generalize ((w7.setCell ⟨mb, 128, none⟩ (.int .i64 m'.s.mode)).setCell ⟨mb, 125, none⟩ (.slice A2 us.length c2)).drew = wE at *
                       have hbm : w.heap.size + 1 + 1 + 1 < mb := by omega
                       have hbw2 : Hid (Below w.heap.size w wE) := HBw1.out.trans (HBE.out.mono (by omega))
                       have cf3 := HF.out.c3
                       have cf4 := HF.out.c4
                       have cf5 := HF.out.c5
                       have cf6 := HF.out.c6
                       have cf7 := HF.out.c7
                       have cf8 := HF.out.c8
                       have cf9 := HF.out.c9
                       obtain ⟨x0, x1, x2, x3, x4, x5, x6, lx⟩ := HX1.out
                       replace x0 := (HBE.out.cell (p := ⟨w.heap.size + 1 + 1 + 1, 0, none⟩) (by show w.heap.size + 1 + 1 + 1 < w1.heap.size; omega)).trans x0
                       replace x1 := (HBE.out.cell (p := ⟨w.heap.size + 1 + 1 + 1, 1, none⟩) (by show w.heap.size + 1 + 1 + 1 < w1.heap.size; omega)).trans x1
                       replace x2 := (HBE.out.cell (p := ⟨w.heap.size + 1 + 1 + 1, 2, none⟩) (by show w.heap.size + 1 + 1 + 1 < w1.heap.size; omega)).trans x2
                       replace x3 := (HBE.out.cell (p := ⟨w.heap.size + 1 + 1 + 1, 3, none⟩) (by show w.heap.size + 1 + 1 + 1 < w1.heap.size; omega)).trans x3
                       replace x4 := (HBE.out.cell (p := ⟨w.heap.size + 1 + 1 + 1, 4, none⟩) (by show w.heap.size + 1 + 1 + 1 < w1.heap.size; omega)).trans x4
                       replace x5 := (HBE.out.cell (p := ⟨w.heap.size + 1 + 1 + 1, 5, none⟩) (by show w.heap.size + 1 + 1 + 1 < w1.heap.size; omega)).trans x5
                       replace x6 := (HBE.out.cell (p := ⟨w.heap.size + 1 + 1 + 1, 6, none⟩) (by show w.heap.size + 1 + 1 + 1 < w1.heap.size; omega)).trans x6
                       replace lx := fun j => (HBE.out.frozen (p := ⟨w.heap.size + 1 + 1 + 1, j, none⟩) (by show w.heap.size + 1 + 1 + 1 < w1.heap.size; omega)).trans (lx j)
                       clear c120 c121 c125 c128 lm7 HM7 HLk7 HB7
                       go_wp2_with fail
                       obtain ⟨y0, y1, y2, y3, y4, y5, y6⟩ := ranBox x0 x1 x2 x3 x4 x5 x6 (.int .i64 m'.wd) (.bool m'.tr) (.slice A2 us.length c2) (.int .i64 0) (.int .i64 (m'.st : Int)) (.int .i64 m'.s.mode) (.slice A5 (lk.length + 1) c5)
                       refine bodyPost_ret (v := .agg #[.int .i64 m'.wd, .bool m'.tr, (.slice A2 us.length c2), .int .i64 0, .int .i64 (m'.st : Int), .int .i64 m'.s.mode, (.slice A5 (lk.length + 1) c5)]) (by simp [results, Try.results49, go_sem, y0, y1, y2, y3, y4, y5, y6]) rfl ?_
                       refine ⟨_, rfl, ?_, by have e1 := hbw2.out; (repeat' first | with_reducible (first | exact Below.refl _ _ | assumption | refine Below.alloc ?_ ?_ _ | refine below_drewN ?_ _ | refine Below.drew ?_ | refine Below.setCell ?_ ?_ _ | refine Below.trans ?_ (Below.mono (by with_reducible assumption) ?_)) | go_size)⟩
                       rw [HRR.out]
                       refine RRanD.of (lo1 := w1.heap.size) (lo2 := mb + 1) (vs := us) (us := ls ++ [.slice A4 (Ev.seen t i m.s.v (m.s.mode == 0)).length c4]) rfl ?ca1 ?cl1 (by omega) (by omega)
                       case ca1 => exact (((((((HF.out.arrs.aside2 (q := w.heap.size + 1 + 1 + 1) (by omega)).aside2 (q := w.heap.size + 1 + 1 + 1) (by omega)).aside2 (q := w.heap.size + 1 + 1 + 1) (by omega)).aside2 (q := w.heap.size + 1 + 1 + 1) (by omega)).aside2 (q := w.heap.size + 1 + 1 + 1) (by omega)).aside2 (q := w.heap.size + 1 + 1 + 1) (by omega)).aside2 (q := w.heap.size + 1 + 1 + 1) (by omega))
                       case cl1 => exact (((((((HLkE.out.aside (w.heap.size + 1 + 1 + 1) _ _ (by omega)).aside (w.heap.size + 1 + 1 + 1) _ _ (by omega)).aside (w.heap.size + 1 + 1 + 1) _ _ (by omega)).aside (w.heap.size + 1 + 1 + 1) _ _ (by omega)).aside (w.heap.size + 1 + 1 + 1) _ _ (by omega)).aside (w.heap.size + 1 + 1 + 1) _ _ (by omega)).aside (w.heap.size + 1 + 1 + 1) _ _ (by omega)))
                    | (have HF := Lib.hid (HM7.out.fin'.drew)
                       have HLkE : Hid (Leaks ((w7.setCell ⟨mb, 125, none⟩ (.slice A2 us.length c2)).setCell ⟨mb, 128, none⟩ (.int .i64 m'.s.mode)).drew (mb + 1) (.slice A5 (lk.length + 1) c5) (lk ++ [(Ev.leak t i m.pc m.s (m.s.mode == 0))]) (ls ++ [.slice A4 (Ev.seen t i m.s.v (m.s.mode == 0)).length c4])) := ((HLk7.out.aside mb 125 _ (Nat.lt_succ_self _)).aside mb 128 _ (Nat.lt_succ_self _)).stays (Below.refl _ _).drew
                       have HBE : Hid (Below w1.heap.size w1 ((w7.setCell ⟨mb, 125, none⟩ (.slice A2 us.length c2)).setCell ⟨mb, 128, none⟩ (.int .i64 m'.s.mode)).drew) := ((HB7.out.setCell lo1 _).setCell lo1 _).drew
                       generalize ((w7.setCell ⟨mb, 125, none⟩ (.slice A2 us.length c2)).setCell ⟨mb, 128, none⟩ (.int .i64 m'.s.mode)).drew = wE at *
                       have hbm : w.heap.size + 1 + 1 + 1 < mb := by omega
                       have hbw2 : Hid (Below w.heap.size w wE) := HBw1.out.trans (HBE.out.mono (by omega))
                       have cf3 := HF.out.c3
                       have cf4 := HF.out.c4
                       have cf5 := HF.out.c5
                       have cf6 := HF.out.c6
                       have cf7 := HF.out.c7
                       have cf8 := HF.out.c8
                       have cf9 := HF.out.c9
                       obtain ⟨x0, x1, x2, x3, x4, x5, x6, lx⟩ := HX1.out
                       replace x0 := (HBE.out.cell (p := ⟨w.heap.size + 1 + 1 + 1, 0, none⟩) (by show w.heap.size + 1 + 1 + 1 < w1.heap.size; omega)).trans x0
                       replace x1 := (HBE.out.cell (p := ⟨w.heap.size + 1 + 1 + 1, 1, none⟩) (by show w.heap.size + 1 + 1 + 1 < w1.heap.size; omega)).trans x1
                       replace x2 := (HBE.out.cell (p := ⟨w.heap.size + 1 + 1 + 1, 2, none⟩) (by show w.heap.size + 1 + 1 + 1 < w1.heap.size; omega)).trans x2
                       replace x3 := (HBE.out.cell (p := ⟨w.heap.size + 1 + 1 + 1, 3, none⟩) (by show w.heap.size + 1 + 1 + 1 < w1.heap.size; omega)).trans x3
                       replace x4 := (HBE.out.cell (p := ⟨w.heap.size + 1 + 1 + 1, 4, none⟩) (by show w.heap.size + 1 + 1 + 1 < w1.heap.size; omega)).trans x4
                       replace x5 := (HBE.out.cell (p := ⟨w.heap.size + 1 + 1 + 1, 5, none⟩) (by show w.heap.size + 1 + 1 + 1 < w1.heap.size; omega)).trans x5
                       replace x6 := (HBE.out.cell (p := ⟨w.heap.size + 1 + 1 + 1, 6, none⟩) (by show w.heap.size + 1 + 1 + 1 < w1.heap.size; omega)).trans x6
                       replace lx := fun j => (HBE.out.frozen (p := ⟨w.heap.size + 1 + 1 + 1, j, none⟩) (by show w.heap.size + 1 + 1 + 1 < w1.heap.size; omega)).trans (lx j)
                       clear c120 c121 c125 c128 lm7 HM7 HLk7 HB7
                       go_wp2_with fail
                       obtain ⟨y0, y1, y2, y3, y4, y5, y6⟩ := ranBox x0 x1 x2 x3 x4 x5 x6 (.int .i64 m'.wd) (.bool m'.tr) (.slice A2 us.length c2) (.int .i64 0) (.int .i64 (m'.st : Int)) (.int .i64 m'.s.mode) (.slice A5 (lk.length + 1) c5)
                       refine bodyPost_ret (v := .agg #[.int .i64 m'.wd, .bool m'.tr, (.slice A2 us.length c2), .int .i64 0, .int .i64 (m'.st : Int), .int .i64 m'.s.mode, (.slice A5 (lk.length + 1) c5)]) (by simp [results, Try.results49, go_sem, y0, y1, y2, y3, y4, y5, y6]) rfl ?_
                       refine ⟨_, rfl, ?_, by have e1 := hbw2.out; (repeat' first | with_reducible (first | exact Below.refl _ _ | assumption | refine Below.alloc ?_ ?_ _ | refine below_drewN ?_ _ | refine Below.drew ?_ | refine Below.setCell ?_ ?_ _ | refine Below.trans ?_ (Below.mono (by with_reducible assumption) ?_)) | go_size)⟩
                       rw [HRR.out]
                       refine RRanD.of (lo1 := w1.heap.size) (lo2 := mb + 1) (vs := us) (us := ls ++ [.slice A4 (Ev.seen t i m.s.v (m.s.mode == 0)).length c4]) rfl ?ca2 ?cl2 (by omega) (by omega)
                       case ca2 => exact (((((((HF.out.arrs.aside2 (q := w.heap.size + 1 + 1 + 1) (by omega)).aside2 (q := w.heap.size + 1 + 1 + 1) (by omega)).aside2 (q := w.heap.size + 1 + 1 + 1) (by omega)).aside2 (q := w.heap.size + 1 + 1 + 1) (by omega)).aside2 (q := w.heap.size + 1 + 1 + 1) (by omega)).aside2 (q := w.heap.size + 1 + 1 + 1) (by omega)).aside2 (q := w.heap.size + 1 + 1 + 1) (by omega))
                       case cl2 => exact (((((((HLkE.out.aside (w.heap.size + 1 + 1 + 1) _ _ (by omega)).aside (w.heap.size + 1 + 1 + 1) _ _ (by omega)).aside (w.heap.size + 1 + 1 + 1) _ _ (by omega)).aside (w.heap.size + 1 + 1 + 1) _ _ (by omega)).aside (w.heap.size + 1 + 1 + 1) _ _ (by omega)).aside (w.heap.size + 1 + 1 + 1) _ _ (by omega)).aside (w.heap.size + 1 + 1 + 1) _ _ (by omega)))
  · have HR := Lib.hid (HE.out hle)
    have hle' : (le != 0) = true := by simpa using hle
    clear hle
    go_wp2_with fail
    obtain ⟨y0, y1, y2, y3, y4, y5, y6⟩ := ranBox x0 x1 x2 x3 x4 x5 x6 (.int .i64 0) (.bool false) (.slice none 0 0) (.int .i64 le) (.int .i64 0) (.int .i64 0) (.slice none 0 0)
    refine bodyPost_ret (v := ranErrV le) (by simp [ranErrV, results, Try.results49, go_sem, y0, y1, y2, y3, y4, y5, y6]) rfl ?_
    exact ⟨_, rfl, by rw [HR.out]; exact RRanD.err _ _ _, by have e1 := HBw1.out; (repeat' first | with_reducible (first | exact Below.refl _ _ | assumption | refine Below.alloc ?_ ?_ _ | refine below_drewN ?_ _ | refine Below.drew ?_ | refine Below.setCell ?_ ?_ _ | refine Below.trans ?_ (Below.mono (by with_reducible assumption) ?_)) | go_size)⟩
theorem machRun_any (b : List Int) (p : Int) (ay : List Ev.Vr) (t : List Int) (g : Ev.Given) (mode most : Int) (vb va vg : Value) (w : World) (hb : RBytes w w.heap.size vb b) (ha : RVars w w.heap.size va ay) (hg : RGiven w w.heap.size vg g)
    (hl : t.length = 18) (ht : Ev.wrong t = 0) (hy : Ev.Byt b) (hbl : b.length ≤ 1099511627776) (hgv : MGiven g) (hmost : most ≤ 36000) (hp0 : 0 ≤ p) :
    Calls Try.prog 49 #[.agg #[vb, .int .i64 p, va], tableV t, vg, .int .i64 mode, .int .i64 most] w fun e w' => ∃ v, e = .returned v ∧ RRan w' v (Ev.runImage b p ay.length t g mode most) ∧ Below w.heap.size w w' :=
  (machRunD_any b p ay t g mode most vb va vg w hb ha hg hl ht hy hbl hgv hmost hp0).mono fun e w' ⟨v, h1, h2, h3⟩ => ⟨v, h1, h2.here, h3⟩
end Go.Proofs.Ytljcgcllhcdleaa
