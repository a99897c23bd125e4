import Derived.Test.YtljcgcllhcdleaaMt27
import Derived.Test.YtljcgcllhcdleaaMt28
import Derived.Test.YtljcgcllhcdleaaMt32
import Derived.Test.YtljcgcllhcdleaaMt33
import Derived.Test.YtljcgcllhcdleaaMt35
import Derived.Test.YtljcgcllhcdleaaMt36
import Derived.Deep.RegionHeld3
/- Chapter 11, the reference: RunImage. -/
namespace Ev
theorem laid_mach {g : Given} (h : g.words.length ≤ 119) : laid 120 1 g.words = (0 :: g.words ++ List.replicate (119 - g.words.length) 0).take 120 := by
  unfold laid
  apply List.ext_getElem?
  intro k
  by_cases hk : k < 120
  · rw [List.getElem?_take, if_pos hk, List.getElem?_take, if_pos hk]
    have e : List.replicate 1 (0 : Int) ++ g.words = 0 :: g.words := rfl
    rw [e]
    by_cases h1 : k < (0 :: g.words).length
    · rw [List.getElem?_append_left h1, List.getElem?_append_left h1]
    · have h2 : g.words.length + 1 ≤ k := by simpa using h1
      rw [List.getElem?_append_right (by simpa using h2), List.getElem?_append_right (by simpa using h2), List.getElem?_replicate, List.getElem?_replicate, List.length_cons, if_pos (by omega), if_pos (by omega)]
  · rw [List.getElem?_eq_none (by simp; omega), List.getElem?_eq_none (by simp; omega)]
theorem step_noneM {i : Instr} {k : Nat} {s : St} (h : (step i k s).2 = none) : i.op = 20 ∨ i.op = 21 := by
  rcases (show i.op = 20 ∨ i.op = 21 ∨ ¬ (i.op = 20 ∨ i.op = 21) by omega) with h1 | h1 | h1
  · exact .inl h1
  · exact .inr h1
  · exfalso
    unfold step at h
    by_cases c0 : i.op ≤ 12
    · rw [if_pos c0] at h; cases h
    rw [if_neg c0] at h
    by_cases c1 : i.op = 13
    · rw [if_pos c1] at h; cases h
    rw [if_neg c1] at h
    by_cases c2 : i.op = 14
    · rw [if_pos c2] at h; cases h
    rw [if_neg c2] at h
    by_cases c3 : i.op = 15
    · rw [if_pos c3] at h; cases h
    rw [if_neg c3] at h
    by_cases c4 : i.op = 16
    · rw [if_pos c4] at h; cases h
    rw [if_neg c4] at h
    by_cases c5 : i.op = 17
    · rw [if_pos c5] at h; cases h
    rw [if_neg c5] at h
    by_cases c6 : i.op = 18
    · rw [if_pos c6] at h; cases h
    rw [if_neg c6] at h
    by_cases c7 : i.op = 19
    · rw [if_pos c7] at h; cases h
    rw [if_neg c7] at h
    rw [if_neg h1] at h
    by_cases c8 : i.op = 22
    · rw [if_pos c8] at h; cases h
    rw [if_neg c8] at h
    by_cases c9 : i.op = 23
    · rw [if_pos c9] at h; cases h
    rw [if_neg c9] at h
    simp at h
theorem mc_someM {i : Instr} {m : Mc} {k : Nat} (h : (step i m.pc m.s).2 = some k) : mcStep i { m with st := m.st + 1 } = ({ m with s := (step i m.pc m.s).1, pc := k, st := m.st + 1 }, false) := by
  have e : step i m.pc m.s = ((step i m.pc m.s).1, some k) := by rw [← h]
  exact mc_on e
theorem mc_endM {i : Instr} {m : Mc} {lk : List Leak} (h : (step i m.pc m.s).2 = none) (hw : m.wd = 0) (ht : m.tr = false) : (mcStep i { m with st := m.st + 1 }).2 = true ∧
    ranOf (mcStep i { m with st := m.st + 1 }).1 lk = { ended := endOf i m.s, err := 0, steps := (m.st : Int) + 1, mode := m.s.mode, leaks := lk } := by
  rcases step_noneM h with h1 | h1
  · rw [mc_ret h1]
    refine ⟨rfl, ?_⟩
    unfold ranOf endOf
    rw [if_neg (by omega), decide_eq_false (by omega)]
    simp only [ht]
    rfl
  · rw [mc_trap h1]
    refine ⟨rfl, ?_⟩
    unfold ranOf endOf
    rw [if_pos h1, decide_eq_true h1]
    simp only [hw]
    rfl
end Ev
namespace Go.Proofs.Ytljcgcllhcdleaa
open Go.RowKit
set_option linter.unusedSimpArgs false
set_option linter.unusedVariables false
/-- what holds ahead of each round -/
def MRunJ (code : List Ev.Instr) (t : List Int) (most : Int) (R : Ev.Ran) (na : Nat) (w1 : World) (mb rb hi : Nat) (va : Value) (us : List Value) (av : Value) (wr : World) : Prop :=
  ∃ (m : Ev.Mc) (lk : List Ev.Leak) (ls : List Value) (vl : Value) (n : Nat), av = .int .i64 (m.pc : Int) ∧ Hid (MAt wr (w1.heap.size + 1) mb va us hi m.s ∧ Ev.FineM na m.s ∧ Leaks wr (rb + 1) vl lk ls ∧ Ev.mcRun code t most n m lk = R ∧ m.wd = 0 ∧ m.tr = false ∧ lk.length = m.st ∧ RBox wr rb m.st vl) ∧
    m.pc ≤ 1099511627776 ∧ m.st ≤ 36000 ∧ lk.length ≤ 36000 ∧ 1 ≤ n ∧ most + 1 ≤ (m.st : Int) + (n : Int) ∧ Below w1.heap.size w1 wr
theorem fiveBox {w : World} {rb : Nat} {a0 a1 a2 a3 a4 a5 a6 : Value} (h0 : w.cell? ⟨rb, 0, none⟩ = some a0) (h1 : w.cell? ⟨rb, 1, none⟩ = some a1) (h2 : w.cell? ⟨rb, 2, none⟩ = some a2) (h3 : w.cell? ⟨rb, 3, none⟩ = some a3) (h4 : w.cell? ⟨rb, 4, none⟩ = some a4) (h5 : w.cell? ⟨rb, 5, none⟩ = some a5) (h6 : w.cell? ⟨rb, 6, none⟩ = some a6) (v0 v1 v2 v5 : Value) :
    ((((w.setCell ⟨rb, 0, none⟩ v0).setCell ⟨rb, 1, none⟩ v1).setCell ⟨rb, 2, none⟩ v2).setCell ⟨rb, 5, none⟩ v5).cell? ⟨rb, 0, none⟩ = some v0 ∧ ((((w.setCell ⟨rb, 0, none⟩ v0).setCell ⟨rb, 1, none⟩ v1).setCell ⟨rb, 2, none⟩ v2).setCell ⟨rb, 5, none⟩ v5).cell? ⟨rb, 1, none⟩ = some v1 ∧ ((((w.setCell ⟨rb, 0, none⟩ v0).setCell ⟨rb, 1, none⟩ v1).setCell ⟨rb, 2, none⟩ v2).setCell ⟨rb, 5, none⟩ v5).cell? ⟨rb, 2, none⟩ = some v2 ∧ ((((w.setCell ⟨rb, 0, none⟩ v0).setCell ⟨rb, 1, none⟩ v1).setCell ⟨rb, 2, none⟩ v2).setCell ⟨rb, 5, none⟩ v5).cell? ⟨rb, 3, none⟩ = some a3 ∧ ((((w.setCell ⟨rb, 0, none⟩ v0).setCell ⟨rb, 1, none⟩ v1).setCell ⟨rb, 2, none⟩ v2).setCell ⟨rb, 5, none⟩ v5).cell? ⟨rb, 4, none⟩ = some a4 ∧ ((((w.setCell ⟨rb, 0, none⟩ v0).setCell ⟨rb, 1, none⟩ v1).setCell ⟨rb, 2, none⟩ v2).setCell ⟨rb, 5, none⟩ v5).cell? ⟨rb, 5, none⟩ = some v5 ∧ ((((w.setCell ⟨rb, 0, none⟩ v0).setCell ⟨rb, 1, none⟩ v1).setCell ⟨rb, 2, none⟩ v2).setCell ⟨rb, 5, none⟩ v5).cell? ⟨rb, 6, none⟩ = some a6 := by
  refine ⟨?_, ?_, ?_, ?_, ?_, ?_, ?_⟩ <;> go_simp
theorem RGiven.mk2 {w w1 : World} {g : Ev.Given} {vw vx : Value} (hw : RInts w w.heap.size vw g.words) (hx : RLists w w.heap.size vx g.arrays) (hb : Below w.heap.size w w1) : RGiven w1 w1.heap.size (.agg #[vw, vx]) g := ⟨_, _, rfl, SL.at_ hw hb (Nat.le_refl _), hx.at_ hb (Nat.le_refl _)⟩
set_option maxRecDepth 20000 in
set_option maxHeartbeats 6400000 in
theorem runImage_any (b : List Int) (p : Int) (ay : List Ev.Vr) (t : List Int) (g : Ev.Given) (mode most : Int) (vb va vg : Value) (w : World) (hb : RBytes w w.heap.size vb b) (ha : RVars w w.heap.size va ay) (hg : RGiven w w.heap.size vg g)
    (hl : t.length = 18) (ht : Ev.wrong t = 0) (hy : Ev.Byt b) (hbl : b.length ≤ 1099511627776) (hgv : MGiven g) (hmost : most ≤ 36000) (hp0 : 0 ≤ p) :
    Calls Try.prog 50 #[.agg #[vb, .int .i64 p, va], tableV t, vg, .int .i64 mode, .int .i64 most] w fun e w' => ∃ v, e = .returned v ∧ RRan w' v (Ev.runImage b p ay.length t g mode most) ∧ Below w.heap.size w w' := by
  have HLD := Lib.hid (fun w1 (h : Below w.heap.size w w1) => refLoad_any b p ay.length ay vb va w1 (SL.at_ hb h (Nat.le_refl _)) (SL.at_ ha h (Nat.le_refl _)) hy rfl hbl)
  obtain ⟨Aa, ca, rfl, ha1, ha2⟩ := SL.form ha
  obtain ⟨Ab, cb, rfl, hb1, hb2⟩ := SL.form hb
  obtain ⟨vw, vx, rfl, hw, hx⟩ := hg
  have HX := Lib.hid hx
  obtain ⟨Aw, cw, rfl, hw1, hw2⟩ := SL.form hw
  obtain ⟨_, _, hxs, _⟩ := hx
  obtain ⟨Ax, cx, rfl, hx1, hx2⟩ := SL.form hxs
  unfold maxLen at ha2 hb2 hw2 hx2
  obtain ⟨il, hi4, hi5, hi6, hi7⟩ := info_parts leak_info
  have IL := Lib.hid (⟨hi4, hi5, hi6, hi7⟩ : _ ∧ _ ∧ _ ∧ _)
  clear hi4 hi5 hi6 hi7
  have HW := Lib.hid hw
  have HG := Lib.hid hgv
  have HT := Lib.hid ht
  have HL := Lib.hid hl
  have HE := Lib.hid (@runImage_load b p ay.length t g mode most)
  have HM := Lib.hid (@runImage_many b p ay.length t g mode most)
  have HGO := Lib.hid (@runImage_go b p ay.length t g mode most)
  have HOK := Lib.hid (@Ev.load_ok b ay.length hy)
  have hcl : (Ev.load b ay.length).length ≤ 1099511627776 := Nat.le_trans (Ev.load_len b ay.length) hbl
  unfold tableV
  generalize hT : (t.map (Value.int .i64)).toArray = ta
  have HTA := Lib.hid hT
  clear hb ha hy hbl hw hxs hgv ht hl hT
  generalize Ev.runImage b p ay.length t g mode most = R at *
  go_enter Try.func50, Try.ntmps50
  generalize Ev.loadErr b ay.length = le at *
  generalize Ev.load b ay.length = code at *
  go_upto_region 2 with (go_at_call 46; refine (HLD.out _ (by (repeat' (first | (with_reducible exact Below.refl _ _) | (with_reducible assumption) | (with_reducible refine Below.alloc ?_ ?_ _) | (with_reducible refine below_drewN ?_ _) | (with_reducible refine Below.drew ?_) | (with_reducible refine Below.setCell ?_ ?_ _) | (with_reducible refine Below.trans ?_ (Below.mono (by with_reducible assumption) ?_)) | go_size)))).mono ?_; rintro e w1 ⟨vc, rfl, hR1, hb1⟩)
  have hs1 := hb1.size
  simp only [World.size_alloc] at hs1
  have r0 : w1.cell? ⟨w.heap.size, 0, none⟩ = some (.slice Ab b.length cb) := (hb1.cell (p := ⟨w.heap.size, 0, none⟩) (by go_size)).trans (by go_simp)
  have r1 : w1.cell? ⟨w.heap.size, 1, none⟩ = some (.int .i64 p) := (hb1.cell (p := ⟨w.heap.size, 1, none⟩) (by go_size)).trans (by go_simp)
  have r2 : w1.cell? ⟨w.heap.size, 2, none⟩ = some (.slice Aa ay.length ca) := (hb1.cell (p := ⟨w.heap.size, 2, none⟩) (by go_size)).trans (by go_simp)
  have v0 : w1.cell? ⟨w.heap.size + 1 + 1, 0, none⟩ = some (.slice Aw g.words.length cw) := (hb1.cell (p := ⟨w.heap.size + 1 + 1, 0, none⟩) (by go_size)).trans (by go_simp)
  have v1 : w1.cell? ⟨w.heap.size + 1 + 1, 1, none⟩ = some (.slice Ax g.arrays.length cx) := (hb1.cell (p := ⟨w.heap.size + 1 + 1, 1, none⟩) (by go_size)).trans (by go_simp)
  have x0 : w1.cell? ⟨w.heap.size + 1 + 1 + 1, 0, none⟩ = some (.int .i64 0) := (hb1.cell (p := ⟨w.heap.size + 1 + 1 + 1, 0, none⟩) (by go_size)).trans (by go_simp)
  have x1 : w1.cell? ⟨w.heap.size + 1 + 1 + 1, 1, none⟩ = some (.bool false) := (hb1.cell (p := ⟨w.heap.size + 1 + 1 + 1, 1, none⟩) (by go_size)).trans (by go_simp)
  have x2 : w1.cell? ⟨w.heap.size + 1 + 1 + 1, 2, none⟩ = some (.slice none 0 0) := (hb1.cell (p := ⟨w.heap.size + 1 + 1 + 1, 2, none⟩) (by go_size)).trans (by go_simp)
  have x3 : w1.cell? ⟨w.heap.size + 1 + 1 + 1, 3, none⟩ = some (.int .i64 0) := (hb1.cell (p := ⟨w.heap.size + 1 + 1 + 1, 3, none⟩) (by go_size)).trans (by go_simp)
  have x4 : w1.cell? ⟨w.heap.size + 1 + 1 + 1, 4, none⟩ = some (.int .i64 0) := (hb1.cell (p := ⟨w.heap.size + 1 + 1 + 1, 4, none⟩) (by go_size)).trans (by go_simp)
  have x5 : w1.cell? ⟨w.heap.size + 1 + 1 + 1, 5, none⟩ = some (.int .i64 0) := (hb1.cell (p := ⟨w.heap.size + 1 + 1 + 1, 5, none⟩) (by go_size)).trans (by go_simp)
  have x6 : w1.cell? ⟨w.heap.size + 1 + 1 + 1, 6, none⟩ = some (.slice none 0 0) := (hb1.cell (p := ⟨w.heap.size + 1 + 1 + 1, 6, none⟩) (by go_size)).trans (by go_simp)
  have lx : ∀ j, w1.frozen? ⟨w.heap.size + 1 + 1 + 1, j, none⟩ = false := fun j => (hb1.frozen (p := ⟨w.heap.size + 1 + 1 + 1, j, none⟩) (by go_size)).trans (by go_simp)
  have HBase := Lib.hid (show Below (w.heap.size + 1 + 1 + 1) ((w.alloc (.cells #[.slice Ab b.length cb, .int .i64 p, .slice Aa ay.length ca] 76)).alloc (.cells ta 29) |>.alloc (.cells #[.slice Aw g.words.length cw, .slice Ax g.arrays.length cx] 45)) w1 by
    refine Below.trans (b := ((w.alloc (.cells #[.slice Ab b.length cb, .int .i64 p, .slice Aa ay.length ca] 76)).alloc (.cells ta 29) |>.alloc (.cells #[.slice Aw g.words.length cw, .slice Ax g.arrays.length cx] 45)).alloc (.cells #[.int .i64 0, .bool false, .slice none 0 0, .int .i64 0, .int .i64 0, .int .i64 0, .slice none 0 0] 82)) ?_ (hb1.mono (by simp))
    exact (Below.refl _ _).alloc (by simp) _)
  have hBw1 : Below w.heap.size w w1 := by (repeat' (first | (with_reducible exact Below.refl _ _) | (with_reducible assumption) | (with_reducible refine Below.alloc ?_ ?_ _) | (with_reducible refine below_drewN ?_ _) | (with_reducible refine Below.drew ?_) | (with_reducible refine Below.setCell ?_ ?_ _) | (with_reducible refine Below.trans ?_ (Below.mono (by with_reducible assumption) ?_)) | go_size))
  have HBw1 := Lib.hid hBw1
  have ltb : ∀ j, j < 18 → w1.cell? ⟨w.heap.size + 1, j, none⟩ = some (.int .i64 (t.getD j 0)) := fun j hj => (hb1.cell (p := ⟨w.heap.size + 1, j, none⟩) (by go_size)).trans (by
    have hx : ta[j]? = some (.int .i64 (t.getD j 0)) := by
      rw [← HTA.out, List.getElem?_toArray, List.getElem?_map, List.getD_eq_getElem?_getD, List.getElem?_eq_getElem (by have := HL.out; omega)]
      rfl
    clear r0 r1 r2 v0 v1 x0 x1 x2 x3 x4 x5 x6 lx
    go_simp)
  have HTB := Lib.hid ltb
  have HR1 := Lib.hid hR1
  clear hb1 hR1 ltb hBw1
  by_cases hle : le = 0
  · have HM2 := Lib.hid (HM.out hle)
    have HGO2 := Lib.hid (HGO.out hle)
    have HOK2 := Lib.hid (HOK.out hle)
    subst hle
    clear HM HGO HE
    by_cases hcnd : mode < 0 ∨ 1 < mode ∨ (g.words.length : Int) ≠ p ∨ 120 ≤ p ∨ g.arrays.length ≠ ay.length
    · have HR := Lib.hid (HM2.out hcnd)
      go_upto_region 4 with fail
      rcases (show mode < 0 ∨ (0 ≤ mode ∧ 1 < mode) ∨ ((0 ≤ mode ∧ mode ≤ 1) ∧ (((g.words.length : Int) != p) = true)) ∨ ((0 ≤ mode ∧ mode ≤ 1) ∧ (((g.words.length : Int) != p) = false) ∧ 119 < p) ∨ ((0 ≤ mode ∧ mode ≤ 1) ∧ (((g.words.length : Int) != p) = false) ∧ p ≤ 119 ∧ (((g.arrays.length : Int) != (ay.length : Int)) = true)) by
        simp only [bne_iff_ne, bne_eq_false_iff_eq]; omega) with h | h | h | h | h
      · clear hcnd
        go_wp2_with fail
        obtain ⟨y0, y1, y2, y3, y4, y5, y6⟩ := ranBox x0 x1 x2 x3 x4 x5 x6 (.int .i64 0) (.bool false) (.slice none 0 0) (.int .i64 5) (.int .i64 0) (.int .i64 0) (.slice none 0 0)
        refine bodyPost_ret (v := ranErrV 5) (by simp [ranErrV, results, Try.results50, go_sem, y0, y1, y2, y3, y4, y5, y6]) rfl ?_
        exact ⟨_, rfl, by rw [HR.out]; exact RRan.err _ _, by have e1 := HBw1.out; (repeat' (first | (with_reducible exact Below.refl _ _) | (with_reducible assumption) | (with_reducible refine Below.alloc ?_ ?_ _) | (with_reducible refine below_drewN ?_ _) | (with_reducible refine Below.drew ?_) | (with_reducible refine Below.setCell ?_ ?_ _) | (with_reducible refine Below.trans ?_ (Below.mono (by with_reducible assumption) ?_)) | go_size))⟩
      · obtain ⟨h1, h2⟩ := h
        clear hcnd
        go_wp2_with fail
        obtain ⟨y0, y1, y2, y3, y4, y5, y6⟩ := ranBox x0 x1 x2 x3 x4 x5 x6 (.int .i64 0) (.bool false) (.slice none 0 0) (.int .i64 5) (.int .i64 0) (.int .i64 0) (.slice none 0 0)
        refine bodyPost_ret (v := ranErrV 5) (by simp [ranErrV, results, Try.results50, go_sem, y0, y1, y2, y3, y4, y5, y6]) rfl ?_
        exact ⟨_, rfl, by rw [HR.out]; exact RRan.err _ _, by have e1 := HBw1.out; (repeat' (first | (with_reducible exact Below.refl _ _) | (with_reducible assumption) | (with_reducible refine Below.alloc ?_ ?_ _) | (with_reducible refine below_drewN ?_ _) | (with_reducible refine Below.drew ?_) | (with_reducible refine Below.setCell ?_ ?_ _) | (with_reducible refine Below.trans ?_ (Below.mono (by with_reducible assumption) ?_)) | go_size))⟩
      · obtain ⟨⟨h1, h2⟩, h3⟩ := h
        clear hcnd
        go_wp2_with fail
        obtain ⟨y0, y1, y2, y3, y4, y5, y6⟩ := ranBox x0 x1 x2 x3 x4 x5 x6 (.int .i64 0) (.bool false) (.slice none 0 0) (.int .i64 5) (.int .i64 0) (.int .i64 0) (.slice none 0 0)
        refine bodyPost_ret (v := ranErrV 5) (by simp [ranErrV, results, Try.results50, go_sem, y0, y1, y2, y3, y4, y5, y6]) rfl ?_
        exact ⟨_, rfl, by rw [HR.out]; exact RRan.err _ _, by have e1 := HBw1.out; (repeat' (first | (with_reducible exact Below.refl _ _) | (with_reducible assumption) | (with_reducible refine Below.alloc ?_ ?_ _) | (with_reducible refine below_drewN ?_ _) | (with_reducible refine Below.drew ?_) | (with_reducible refine Below.setCell ?_ ?_ _) | (with_reducible refine Below.trans ?_ (Below.mono (by with_reducible assumption) ?_)) | go_size))⟩
      · obtain ⟨⟨h1, h2⟩, h3, h4⟩ := h
        clear hcnd
        go_wp2_with fail
        obtain ⟨y0, y1, y2, y3, y4, y5, y6⟩ := ranBox x0 x1 x2 x3 x4 x5 x6 (.int .i64 0) (.bool false) (.slice none 0 0) (.int .i64 5) (.int .i64 0) (.int .i64 0) (.slice none 0 0)
        refine bodyPost_ret (v := ranErrV 5) (by simp [ranErrV, results, Try.results50, go_sem, y0, y1, y2, y3, y4, y5, y6]) rfl ?_
        exact ⟨_, rfl, by rw [HR.out]; exact RRan.err _ _, by have e1 := HBw1.out; (repeat' (first | (with_reducible exact Below.refl _ _) | (with_reducible assumption) | (with_reducible refine Below.alloc ?_ ?_ _) | (with_reducible refine below_drewN ?_ _) | (with_reducible refine Below.drew ?_) | (with_reducible refine Below.setCell ?_ ?_ _) | (with_reducible refine Below.trans ?_ (Below.mono (by with_reducible assumption) ?_)) | go_size))⟩
      · obtain ⟨⟨h1, h2⟩, h3, h4, h5⟩ := h
        clear hcnd
        go_wp2_with fail
        obtain ⟨y0, y1, y2, y3, y4, y5, y6⟩ := ranBox x0 x1 x2 x3 x4 x5 x6 (.int .i64 0) (.bool false) (.slice none 0 0) (.int .i64 5) (.int .i64 0) (.int .i64 0) (.slice none 0 0)
        refine bodyPost_ret (v := ranErrV 5) (by simp [ranErrV, results, Try.results50, go_sem, y0, y1, y2, y3, y4, y5, y6]) rfl ?_
        exact ⟨_, rfl, by rw [HR.out]; exact RRan.err _ _, by have e1 := HBw1.out; (repeat' (first | (with_reducible exact Below.refl _ _) | (with_reducible assumption) | (with_reducible refine Below.alloc ?_ ?_ _) | (with_reducible refine below_drewN ?_ _) | (with_reducible refine Below.drew ?_) | (with_reducible refine Below.setCell ?_ ?_ _) | (with_reducible refine Below.trans ?_ (Below.mono (by with_reducible assumption) ?_)) | go_size))⟩
    · have HR := Lib.hid (HGO2.out hcnd)
      have hwl : g.words.length ≤ 119 := by omega
      have hmd : 0 ≤ mode ∧ mode ≤ 1 := by omega
      have hal : g.arrays.length = ay.length := by omega
      have g3 : ((g.words.length : Int) != p) = false := by rw [bne_eq_false_iff_eq]; omega
      have g4 : p ≤ 119 := by omega
      have HAL := Lib.hid hal
      have HMD := Lib.hid (show mode = 0 ∨ mode = 1 by omega)
      obtain ⟨md0, md1⟩ := hmd
      have g5 : ((g.arrays.length : Int) != (ay.length : Int)) = false := by rw [bne_eq_false_iff_eq]; omega
      clear hcnd hal HM2 HGO2
      have HNW : Hid (Calls Try.prog 57 #[.int .i64 120, .int .i64 1, .agg #[.slice Aw g.words.length cw, .slice Ax g.arrays.length cx]] w1 fun e w' => ∃ mb va vs, e = .returned (.pointer (some ⟨mb, 0, none⟩)) ∧ MAt w' (w1.heap.size + 1) mb va vs w'.heap.size { v := Ev.laid 120 1 g.words, arrs := g.arrays, mode := 0 } ∧ Below w1.heap.size w1 w') := new_any 120 1 g _ _ (RGiven.mk2 HW.out HX.out HBw1.out) (by decide) (by omega) HG.out.few HG.out.small
      go_upto_region 7 with (go_at_call 57; refine HNW.out.mono ?_; rintro e w2 ⟨mb, va2, us, rfl, hM2, hb2⟩; have HM2' := Lib.hid hM2; have HB2 := Lib.hid hb2; have hs2 := hb2.size; clear hM2 hb2)
      obtain ⟨A2, c2, hv2, hc21, hc22⟩ := SL.form (SL.of_own HM2'.out.arrs.outer)
      subst hv2
      have c2c := HM2'.out.m2
      have lm2 := HM2'.out.loose
      have hbm := HM2'.out.bm
      have hmh := HM2'.out.mh
      have hle2 := HM2'.out.le
      go_upto_region 8 with fail
      have HM3 : Hid (MAt (w2.setCell ⟨mb, 2, none⟩ (.int .i64 mode)) (w1.heap.size + 1) mb (.slice A2 us.length c2) us w2.heap.size { v := Ev.laid 120 1 g.words, arrs := g.arrays, mode := mode }) := HM2'.out.setMode mode
      have B3 : Hid (Below w1.heap.size w1 (w2.setCell ⟨mb, 2, none⟩ (.int .i64 mode))) := HB2.out.setCell (by show w1.heap.size ≤ mb; omega) _
      have z3 : (w2.setCell ⟨mb, 2, none⟩ (.int .i64 mode)).heap.size = w2.heap.size := by simp
      generalize (w2.setCell ⟨mb, 2, none⟩ (.int .i64 mode)) = w3 at *
      have z3' : w2.heap.size ≤ w3.heap.size := by omega
      clear z3 c2c lm2 HM2' HB2
      have HRB0 : Hid (RBox (w3.alloc (.cells #[.int .i64 0, .bool false, .slice none 0 0, .int .i64 0, .int .i64 0, .int .i64 0, .slice none 0 0] 82)) w3.heap.size 0 (.slice none 0 0)) := ⟨by go_simp, by go_simp, by go_simp, by go_simp, by go_simp, by go_simp, by go_simp, fun j => by go_simp⟩
      have HM4 : Hid (MAt (w3.alloc (.cells #[.int .i64 0, .bool false, .slice none 0 0, .int .i64 0, .int .i64 0, .int .i64 0, .slice none 0 0] 82)) (w1.heap.size + 1) mb (.slice A2 us.length c2) us w2.heap.size { v := Ev.laid 120 1 g.words, arrs := g.arrays, mode := mode }) := HM3.out.stays ((Below.refl _ _).alloc (Nat.le_refl _) _)
      have B4 : Hid (Below w1.heap.size w1 (w3.alloc (.cells #[.int .i64 0, .bool false, .slice none 0 0, .int .i64 0, .int .i64 0, .int .i64 0, .slice none 0 0] 82))) := B3.out.alloc B3.out.size _
      obtain ⟨w4, hw4⟩ : ∃ w4, (w3.alloc (.cells #[.int .i64 0, .bool false, .slice none 0 0, .int .i64 0, .int .i64 0, .int .i64 0, .slice none 0 0] 82)) = w4 := ⟨_, rfl⟩
      have HW4 := Lib.hid hw4
      rw [hw4] at HRB0 HM4 B4
      clear hw4 HM3 B3
      go_upto_region 9 with fail
      rw [HW4.out]
      clear HW4
      generalize w3.heap.size = rb at *
      clear w3
      generalize w2.heap.size = hi at *
      clear w2
      have HX1 := Lib.hid (And.intro x0 (And.intro x1 (And.intro x2 (And.intro x3 (And.intro x4 (And.intro x5 (And.intro x6 lx)))))))
      clear x0 x1 x2 x3 x4 x5 x6 lx v0 v1 r0 r1 r2 g3 g4 g5
      obtain ⟨Ac, cc, hvc, hcc1, hcc2⟩ := SL.form HR1.out
      subst hvc
      unfold maxLen at hcc2
      go_wp2_with fail
      go_loopw [15] (MRunJ code t most R ay.length w1 mb rb hi (.slice A2 us.length c2) us) (fun _ wr => 36000 - (intOf ((wr.cell? ⟨rb, 4, none⟩).getD undef)).toNat)
      case atStart => exact ⟨Ev.mc0 g mode, [], [], _, most.toNat + 1, rfl, ⟨by have h := HM4.out; rw [Ev.laid_mach hwl] at h; exact h, Ev.start_fineM hwl HG.out.wword HAL.out HG.out.aword HMD.out, Leaks.nil_ _ _, HR.out.symm, rfl, rfl, rfl, HRB0.out⟩, by simp [Ev.mc0], by simp [Ev.mc0], by simp, by omega, by simp [Ev.mc0]; omega, B4.out⟩
      case round =>
        clear HM4 HRB0 B4 HW HX
        obtain ⟨m, lk, ls, vl, n, rfl, HI, hpc, hst, hlk1, hn1, hn2, hB⟩ := hrel
        have lrb := HI.out.2.2.2.2.2.2.2.lt
        have hbs := hB.size
        have hBw : Hid (Below w.heap.size w wr) := HBw1.out.trans (hB.mono (by omega))
        have HB := Lib.hid hB
        clear hB
        have c4 := HI.out.2.2.2.2.2.2.2.c4
        obtain ⟨n, rfl⟩ : ∃ k, n = k + 1 := ⟨n - 1, by omega⟩
        by_cases hmo : most ≤ m.st
        · have HRR : Hid (R = Ev.ranErr 12) := HI.out.2.2.2.1.symm.trans (Ev.mcRun_fuel hmo)
          obtain ⟨x0, x1, x2, x3, x4, x5, x6, lx⟩ := HX1.out
          replace x0 := (HB.out.cell (p := ⟨w.heap.size + 1 + 1 + 1, 0, none⟩) (by show w.heap.size + 1 + 1 + 1 < w1.heap.size; omega)).trans x0
          replace x1 := (HB.out.cell (p := ⟨w.heap.size + 1 + 1 + 1, 1, none⟩) (by show w.heap.size + 1 + 1 + 1 < w1.heap.size; omega)).trans x1
          replace x2 := (HB.out.cell (p := ⟨w.heap.size + 1 + 1 + 1, 2, none⟩) (by show w.heap.size + 1 + 1 + 1 < w1.heap.size; omega)).trans x2
          replace x3 := (HB.out.cell (p := ⟨w.heap.size + 1 + 1 + 1, 3, none⟩) (by show w.heap.size + 1 + 1 + 1 < w1.heap.size; omega)).trans x3
          replace x4 := (HB.out.cell (p := ⟨w.heap.size + 1 + 1 + 1, 4, none⟩) (by show w.heap.size + 1 + 1 + 1 < w1.heap.size; omega)).trans x4
          replace x5 := (HB.out.cell (p := ⟨w.heap.size + 1 + 1 + 1, 5, none⟩) (by show w.heap.size + 1 + 1 + 1 < w1.heap.size; omega)).trans x5
          replace x6 := (HB.out.cell (p := ⟨w.heap.size + 1 + 1 + 1, 6, none⟩) (by show w.heap.size + 1 + 1 + 1 < w1.heap.size; omega)).trans x6
          replace lx := fun j => (HB.out.frozen (p := ⟨w.heap.size + 1 + 1 + 1, j, none⟩) (by show w.heap.size + 1 + 1 + 1 < w1.heap.size; omega)).trans (lx j)
          go_wp2_with fail
          obtain ⟨y0, y1, y2, y3, y4, y5, y6⟩ := ranBox x0 x1 x2 x3 x4 x5 x6 (.int .i64 0) (.bool false) (.slice none 0 0) (.int .i64 12) (.int .i64 0) (.int .i64 0) (.slice none 0 0)
          refine bodyPost_ret (v := ranErrV 12) (by simp [ranErrV, results, Try.results50, go_sem, y0, y1, y2, y3, y4, y5, y6]) rfl ?_
          exact ⟨_, rfl, by rw [HRR.out]; exact RRan.err _ _, by have e1 := hBw.out; (repeat' (first | (with_reducible exact Below.refl _ _) | (with_reducible assumption) | (with_reducible refine Below.alloc ?_ ?_ _) | (with_reducible refine below_drewN ?_ _) | (with_reducible refine Below.drew ?_) | (with_reducible refine Below.setCell ?_ ?_ _) | (with_reducible refine Below.trans ?_ (Below.mono (by with_reducible assumption) ?_)) | go_size))⟩
        · have hmo' : (m.st : Int) < most := by omega
          by_cases hpl : code.length ≤ m.pc
          · have HRR : Hid (R = Ev.ranErr 8) := HI.out.2.2.2.1.symm.trans (Ev.mcRun_out hmo hpl)
            obtain ⟨x0, x1, x2, x3, x4, x5, x6, lx⟩ := HX1.out
            replace x0 := (HB.out.cell (p := ⟨w.heap.size + 1 + 1 + 1, 0, none⟩) (by show w.heap.size + 1 + 1 + 1 < w1.heap.size; omega)).trans x0
            replace x1 := (HB.out.cell (p := ⟨w.heap.size + 1 + 1 + 1, 1, none⟩) (by show w.heap.size + 1 + 1 + 1 < w1.heap.size; omega)).trans x1
            replace x2 := (HB.out.cell (p := ⟨w.heap.size + 1 + 1 + 1, 2, none⟩) (by show w.heap.size + 1 + 1 + 1 < w1.heap.size; omega)).trans x2
            replace x3 := (HB.out.cell (p := ⟨w.heap.size + 1 + 1 + 1, 3, none⟩) (by show w.heap.size + 1 + 1 + 1 < w1.heap.size; omega)).trans x3
            replace x4 := (HB.out.cell (p := ⟨w.heap.size + 1 + 1 + 1, 4, none⟩) (by show w.heap.size + 1 + 1 + 1 < w1.heap.size; omega)).trans x4
            replace x5 := (HB.out.cell (p := ⟨w.heap.size + 1 + 1 + 1, 5, none⟩) (by show w.heap.size + 1 + 1 + 1 < w1.heap.size; omega)).trans x5
            replace x6 := (HB.out.cell (p := ⟨w.heap.size + 1 + 1 + 1, 6, none⟩) (by show w.heap.size + 1 + 1 + 1 < w1.heap.size; omega)).trans x6
            replace lx := fun j => (HB.out.frozen (p := ⟨w.heap.size + 1 + 1 + 1, j, none⟩) (by show w.heap.size + 1 + 1 + 1 < w1.heap.size; omega)).trans (lx j)
            clear hmo
            go_wp2_with fail
            obtain ⟨y0, y1, y2, y3, y4, y5, y6⟩ := ranBox x0 x1 x2 x3 x4 x5 x6 (.int .i64 0) (.bool false) (.slice none 0 0) (.int .i64 8) (.int .i64 0) (.int .i64 0) (.slice none 0 0)
            refine bodyPost_ret (v := ranErrV 8) (by simp [ranErrV, results, Try.results50, go_sem, y0, y1, y2, y3, y4, y5, y6]) rfl ?_
            exact ⟨_, rfl, by rw [HRR.out]; exact RRan.err _ _, by have e1 := hBw.out; (repeat' (first | (with_reducible exact Below.refl _ _) | (with_reducible assumption) | (with_reducible refine Below.alloc ?_ ?_ _) | (with_reducible refine below_drewN ?_ _) | (with_reducible refine Below.drew ?_) | (with_reducible refine Below.setCell ?_ ?_ _) | (with_reducible refine Below.trans ?_ (Below.mono (by with_reducible assumption) ?_)) | go_size))⟩
          · obtain ⟨i, hi0⟩ : ∃ i, code[m.pc]? = some i := ⟨code[m.pc], List.getElem?_eq_getElem (by omega)⟩
            have HOKi := Lib.hid (HOK2.out m.pc i hi0)
            have HCR : Hid (RCode wr wr.heap.size (.slice Ac code.length cc) code) := SL.at_ HR1.out (show Below w1.heap.size w1 wr from HB.out) (Nat.le_refl _)
            have HEN := Lib.hid (@Ev.mcRun_end code t most n m lk i hmo hi0)
            have HON := Lib.hid (@Ev.mcRun_on code t most n m lk i hmo hi0)
            obtain ⟨bc, oc, cc', hvc, hbc, _, _, _, i0, i1, i2, i3, i4, i5⟩ := RCode.at_ HCR.out hi0
            injection hvc with hA _ hcr
            subst hA hcr
            have hpl' : m.pc < code.length := by omega
            clear hi0 hmo hpl
            go_upto_region 16 with fail
            have BA : Below wr.heap.size wr (wr.alloc (.cells #[.int .i64 i.op, .int .i64 i.d, .int .i64 i.a, .int .i64 i.b, .int .i64 i.c, .int .i64 i.imm] 39)) := (Below.refl _ _).alloc (Nat.le_refl _) _
            have HMJ : Hid (MAt (wr.alloc (.cells #[.int .i64 i.op, .int .i64 i.d, .int .i64 i.a, .int .i64 i.b, .int .i64 i.c, .int .i64 i.imm] 39)) (w1.heap.size + 1) mb (.slice A2 us.length c2) us hi m.s) := HI.out.1.stays BA
            have HLkJ : Hid (Leaks (wr.alloc (.cells #[.int .i64 i.op, .int .i64 i.d, .int .i64 i.a, .int .i64 i.b, .int .i64 i.c, .int .i64 i.imm] 39)) (rb + 1) vl lk ls) := HI.out.2.2.1.stays BA
            have HRBJ : Hid (RBox (wr.alloc (.cells #[.int .i64 i.op, .int .i64 i.d, .int .i64 i.a, .int .i64 i.b, .int .i64 i.c, .int .i64 i.imm] 39)) rb m.st vl) := HI.out.2.2.2.2.2.2.2.stays BA
            have HBJ : Hid (Below w1.heap.size w1 (wr.alloc (.cells #[.int .i64 i.op, .int .i64 i.d, .int .i64 i.a, .int .i64 i.b, .int .i64 i.c, .int .i64 i.imm] 39))) := HB.out.alloc hbs _
            have HIC : Hid (∀ (j : Nat) v, (#[.int .i64 i.op, .int .i64 i.d, .int .i64 i.a, .int .i64 i.b, .int .i64 i.c, .int .i64 i.imm] : Array Value)[j]? = some v → (wr.alloc (.cells #[.int .i64 i.op, .int .i64 i.d, .int .i64 i.a, .int .i64 i.b, .int .i64 i.c, .int .i64 i.imm] 39)).cell? ⟨wr.heap.size, j, none⟩ = some v) := fun j v hj => (cell_of_block (heap_alloc_new wr _) j).trans hj
            have HTC : Hid (∀ (j : Nat) v, ta[j]? = some v → (wr.alloc (.cells #[.int .i64 i.op, .int .i64 i.d, .int .i64 i.a, .int .i64 i.b, .int .i64 i.c, .int .i64 i.imm] 39)).cell? ⟨w.heap.size + 1, j, none⟩ = some v) := fun j v hj => (HBJ.out.cell (p := ⟨w.heap.size + 1, j, none⟩) (by show w.heap.size + 1 < w1.heap.size; omega)).trans (by
              rw [← HTA.out, List.getElem?_toArray, List.getElem?_map] at hj
              have hj18 : j < 18 := by
                have := HL.out
                rcases Nat.lt_or_ge j t.length with h | h
                · omega
                · rw [List.getElem?_eq_none h] at hj; cases hj
              rw [HTB.out j hj18, List.getD_eq_getElem?_getD]
              cases hx : t[j]? with
              | none => rw [hx] at hj; cases hj
              | some x => rw [hx] at hj; exact hj)
            have sJ : wr.heap.size < (wr.alloc (.cells #[.int .i64 i.op, .int .i64 i.d, .int .i64 i.a, .int .i64 i.b, .int .i64 i.c, .int .i64 i.imm] 39)).heap.size := by simp
            have HRL := Lib.hid (fun q hq => HI.out.2.2.1.row.lt q hq)
            have HROW : Hid (∀ q, vl.ownBlock = some q → hi ≤ q) := fun q hq => by have := (HRL.out q hq).1; omega
            have HRR2 : Hid (some rb ≠ vl.ownBlock) := fun e => by have := (HRL.out _ e.symm).1; omega
            have HRI : Hid (some wr.heap.size ≠ vl.ownBlock) := fun e => by have := (HRL.out _ e.symm).2; omega
            have HRT : Hid (some (w.heap.size + 1) ≠ vl.ownBlock) := fun e => by have := (HRL.out _ e.symm).1; omega
            have HRB1 : Hid (∀ q, vl.ownBlock = some q → rb + 1 ≤ q) := fun q hq => (HRL.out q hq).1
            have HFM := Lib.hid HI.out.2.1
            have HRES := Lib.hid HI.out.2.2.2.1
            have HWT := Lib.hid (And.intro HI.out.2.2.2.2.1 (And.intro HI.out.2.2.2.2.2.1 HI.out.2.2.2.2.2.2.1))
            have HC4 := Lib.hid c4
            have HLT : Hid (∀ w9 : World, (∀ (j : Nat) v, ta[j]? = some v → w9.cell? ⟨w.heap.size + 1, j, none⟩ = some v) → (Go.Instr.loadAt 29 (.pointer (some ⟨w.heap.size + 1, 0, none⟩))).run Try.prog w9 = .ok (.agg ta) w9) := fun w9 h => loadAt_cells Try.underlying29 (by kernel_rfl) (by rw [← HTA.out]) (by rw [← HTA.out, List.length_map, HL.out]; kernel_rfl) h
            have HSC : Hid (∀ (vv : Value) (w' : World), RInts w' w'.heap.size vv m.s.v → Calls Try.prog 40 #[.agg ta, .agg #[.int .i64 i.op, .int .i64 i.d, .int .i64 i.a, .int .i64 i.b, .int .i64 i.c, .int .i64 i.imm], vv, .bool (m.s.mode == 0)] w' fun e w'' => ∃ v', e = .returned v' ∧ w''.ownsRow w'.heap.size 3 1 v' (Ev.seen t i m.s.v (m.s.mode == 0)).length ((Ev.seen t i m.s.v (m.s.mode == 0)).map (Value.int .i64)) ∧ Below w'.heap.size w' w'') := fun vv w' hv => by
              have h1 := refSeen_any t i m.s.v (m.s.mode == 0) vv w' HL.out hv (by rw [HFM.out.len]; exact seenIn_mach HT.out HOKi.out _)
              unfold tableV at h1
              rw [HTA.out] at h1
              exact h1
            obtain ⟨wJ, hwJ⟩ : ∃ wJ, (wr.alloc (.cells #[.int .i64 i.op, .int .i64 i.d, .int .i64 i.a, .int .i64 i.b, .int .i64 i.c, .int .i64 i.imm] 39)) = wJ := ⟨_, rfl⟩
            have HWJ := Lib.hid hwJ
            rw [hwJ] at HMJ HLkJ HRBJ HBJ HIC HTC sJ ⊢
            clear hwJ BA i0 i1 i2 i3 i4 i5 c4 HI HCR HB hBw HWJ
            generalize wr.heap.size = bI at *
            refine wp_region_lastT (S := fun w' => wJ.grownBy w' vl.ownBlock) [(0, true), (1, true), (2, true), (3, true), (4, true), (5, true), (6, true), (7, true), (8, true), (9, true), (10, true), (11, true), (12, true), (13, true), (14, true), (15, true), (16, false), (17, true), (18, false), (19, false), (20, true)] 21 (by kernel_rfl) (by kernel_rfl) (by kernel_rfl) (by kernel_rfl) (by kernel_rfl) (by decide) (grown_of_below (Below.refl _ _).drew _) ?_
            simp only [List.pop_toArray, List.dropLast_cons_cons, List.dropLast_singleton]
            apply trail_light
            case hi => (simp only [List.getElem?_toArray, List.getElem?_cons_zero, List.getElem?_cons_succ]; exact rfl)
            case hl => first | exact light_no (by rfl) | (apply light_plain rfl; intro w9 hS9; have HM9 := HMJ.out.grownM hS9 HROW.out; have mm0 := HM9.m0; have mm2 := HM9.m2; have HR9 := HRBJ.out.grown hS9 HRR2.out; have c6 := HR9.c6; have hw9 := hS9.size; have hmb9 : mb < w9.heap.size := (by omega); have hrb9 : rb < w9.heap.size := (by omega); have ic9 : ∀ (j : Nat) v, (#[.int .i64 i.op, .int .i64 i.d, .int .i64 i.a, .int .i64 i.b, .int .i64 i.c, .int .i64 i.imm] : Array Value)[j]? = some v → w9.cell? ⟨bI, j, none⟩ = some v := (fun j v hj => hS9.cell (HIC.out j v hj) (HRI.out)); have o9 := ic9 0 _ rfl; have tc9 : ∀ (j : Nat) v, ta[j]? = some v → w9.cell? ⟨w.heap.size + 1, j, none⟩ = some v := (fun j v hj => hS9.cell (HTC.out j v hj) (HRT.out)); have ldi9 := loadAt_cells Try.underlying39 (by kernel_rfl) rfl (by kernel_rfl) ic9; have ldt9 := HLT.out w9 tc9; clear tc9 ic9; first | (exact exec_load rfl rfl (by first | exact ldi9 | exact ldt9)) | (go_simp; try rfl)) | (apply light_yes (by rfl); intro w9 hS9; have HM9 := HMJ.out.grownM hS9 HROW.out; have mm0 := HM9.m0; have mm2 := HM9.m2; have HR9 := HRBJ.out.grown hS9 HRR2.out; have c6 := HR9.c6; have hw9 := hS9.size; have hmb9 : mb < w9.heap.size := (by omega); have hrb9 : rb < w9.heap.size := (by omega); have ic9 : ∀ (j : Nat) v, (#[.int .i64 i.op, .int .i64 i.d, .int .i64 i.a, .int .i64 i.b, .int .i64 i.c, .int .i64 i.imm] : Array Value)[j]? = some v → w9.cell? ⟨bI, j, none⟩ = some v := (fun j v hj => hS9.cell (HIC.out j v hj) (HRI.out)); have o9 := ic9 0 _ rfl; have tc9 : ∀ (j : Nat) v, ta[j]? = some v → w9.cell? ⟨w.heap.size + 1, j, none⟩ = some v := (fun j v hj => hS9.cell (HTC.out j v hj) (HRT.out)); have ldi9 := loadAt_cells Try.underlying39 (by kernel_rfl) rfl (by kernel_rfl) ic9; have ldt9 := HLT.out w9 tc9; clear tc9 ic9; go_simp; try rfl)
            case hQ => exact fun _ _ _ h => h
            (try simp only [Act.put, List.setIfInBounds_toArray, List.set_cons_zero, List.set_cons_succ])
            apply trail_light
            case hi => (simp only [List.getElem?_toArray, List.getElem?_cons_zero, List.getElem?_cons_succ]; exact rfl)
            case hl => first | exact light_no (by rfl) | (apply light_plain rfl; intro w9 hS9; have HM9 := HMJ.out.grownM hS9 HROW.out; have mm0 := HM9.m0; have mm2 := HM9.m2; have HR9 := HRBJ.out.grown hS9 HRR2.out; have c6 := HR9.c6; have hw9 := hS9.size; have hmb9 : mb < w9.heap.size := (by omega); have hrb9 : rb < w9.heap.size := (by omega); have ic9 : ∀ (j : Nat) v, (#[.int .i64 i.op, .int .i64 i.d, .int .i64 i.a, .int .i64 i.b, .int .i64 i.c, .int .i64 i.imm] : Array Value)[j]? = some v → w9.cell? ⟨bI, j, none⟩ = some v := (fun j v hj => hS9.cell (HIC.out j v hj) (HRI.out)); have o9 := ic9 0 _ rfl; have tc9 : ∀ (j : Nat) v, ta[j]? = some v → w9.cell? ⟨w.heap.size + 1, j, none⟩ = some v := (fun j v hj => hS9.cell (HTC.out j v hj) (HRT.out)); have ldi9 := loadAt_cells Try.underlying39 (by kernel_rfl) rfl (by kernel_rfl) ic9; have ldt9 := HLT.out w9 tc9; clear tc9 ic9; first | (exact exec_load rfl rfl (by first | exact ldi9 | exact ldt9)) | (go_simp; try rfl)) | (apply light_yes (by rfl); intro w9 hS9; have HM9 := HMJ.out.grownM hS9 HROW.out; have mm0 := HM9.m0; have mm2 := HM9.m2; have HR9 := HRBJ.out.grown hS9 HRR2.out; have c6 := HR9.c6; have hw9 := hS9.size; have hmb9 : mb < w9.heap.size := (by omega); have hrb9 : rb < w9.heap.size := (by omega); have ic9 : ∀ (j : Nat) v, (#[.int .i64 i.op, .int .i64 i.d, .int .i64 i.a, .int .i64 i.b, .int .i64 i.c, .int .i64 i.imm] : Array Value)[j]? = some v → w9.cell? ⟨bI, j, none⟩ = some v := (fun j v hj => hS9.cell (HIC.out j v hj) (HRI.out)); have o9 := ic9 0 _ rfl; have tc9 : ∀ (j : Nat) v, ta[j]? = some v → w9.cell? ⟨w.heap.size + 1, j, none⟩ = some v := (fun j v hj => hS9.cell (HTC.out j v hj) (HRT.out)); have ldi9 := loadAt_cells Try.underlying39 (by kernel_rfl) rfl (by kernel_rfl) ic9; have ldt9 := HLT.out w9 tc9; clear tc9 ic9; go_simp; try rfl)
            case hQ => exact fun _ _ _ h => h
            (try simp only [Act.put, List.setIfInBounds_toArray, List.set_cons_zero, List.set_cons_succ])
            apply trail_light
            case hi => (simp only [List.getElem?_toArray, List.getElem?_cons_zero, List.getElem?_cons_succ]; exact rfl)
            case hl => first | exact light_no (by rfl) | (apply light_plain rfl; intro w9 hS9; skip; first | (exact exec_load rfl rfl (by first | exact ldi9 | exact ldt9)) | (go_simp; try rfl)) | (apply light_yes (by rfl); intro w9 hS9; skip; go_simp; try rfl)
            case hQ => exact fun _ _ _ h => h
            (try simp only [Act.put, List.setIfInBounds_toArray, List.set_cons_zero, List.set_cons_succ])
            apply trail_light
            case hi => (simp only [List.getElem?_toArray, List.getElem?_cons_zero, List.getElem?_cons_succ]; exact rfl)
            case hl => first | exact light_no (by rfl) | (apply light_plain rfl; intro w9 hS9; have HM9 := HMJ.out.grownM hS9 HROW.out; have mm0 := HM9.m0; have mm2 := HM9.m2; have HR9 := HRBJ.out.grown hS9 HRR2.out; have c6 := HR9.c6; have hw9 := hS9.size; have hmb9 : mb < w9.heap.size := (by omega); have hrb9 : rb < w9.heap.size := (by omega); have ic9 : ∀ (j : Nat) v, (#[.int .i64 i.op, .int .i64 i.d, .int .i64 i.a, .int .i64 i.b, .int .i64 i.c, .int .i64 i.imm] : Array Value)[j]? = some v → w9.cell? ⟨bI, j, none⟩ = some v := (fun j v hj => hS9.cell (HIC.out j v hj) (HRI.out)); have o9 := ic9 0 _ rfl; have tc9 : ∀ (j : Nat) v, ta[j]? = some v → w9.cell? ⟨w.heap.size + 1, j, none⟩ = some v := (fun j v hj => hS9.cell (HTC.out j v hj) (HRT.out)); have ldi9 := loadAt_cells Try.underlying39 (by kernel_rfl) rfl (by kernel_rfl) ic9; have ldt9 := HLT.out w9 tc9; clear tc9 ic9; first | (exact exec_load rfl rfl (by first | exact ldi9 | exact ldt9)) | (go_simp; try rfl)) | (apply light_yes (by rfl); intro w9 hS9; have HM9 := HMJ.out.grownM hS9 HROW.out; have mm0 := HM9.m0; have mm2 := HM9.m2; have HR9 := HRBJ.out.grown hS9 HRR2.out; have c6 := HR9.c6; have hw9 := hS9.size; have hmb9 : mb < w9.heap.size := (by omega); have hrb9 : rb < w9.heap.size := (by omega); have ic9 : ∀ (j : Nat) v, (#[.int .i64 i.op, .int .i64 i.d, .int .i64 i.a, .int .i64 i.b, .int .i64 i.c, .int .i64 i.imm] : Array Value)[j]? = some v → w9.cell? ⟨bI, j, none⟩ = some v := (fun j v hj => hS9.cell (HIC.out j v hj) (HRI.out)); have o9 := ic9 0 _ rfl; have tc9 : ∀ (j : Nat) v, ta[j]? = some v → w9.cell? ⟨w.heap.size + 1, j, none⟩ = some v := (fun j v hj => hS9.cell (HTC.out j v hj) (HRT.out)); have ldi9 := loadAt_cells Try.underlying39 (by kernel_rfl) rfl (by kernel_rfl) ic9; have ldt9 := HLT.out w9 tc9; clear tc9 ic9; go_simp; try rfl)
            case hQ => exact fun _ _ _ h => h
            (try simp only [Act.put, List.setIfInBounds_toArray, List.set_cons_zero, List.set_cons_succ])
            apply trail_light
            case hi => (simp only [List.getElem?_toArray, List.getElem?_cons_zero, List.getElem?_cons_succ]; exact rfl)
            case hl => first | exact light_no (by rfl) | (apply light_plain rfl; intro w9 hS9; have HM9 := HMJ.out.grownM hS9 HROW.out; have mm0 := HM9.m0; have mm2 := HM9.m2; have HR9 := HRBJ.out.grown hS9 HRR2.out; have c6 := HR9.c6; have hw9 := hS9.size; have hmb9 : mb < w9.heap.size := (by omega); have hrb9 : rb < w9.heap.size := (by omega); have ic9 : ∀ (j : Nat) v, (#[.int .i64 i.op, .int .i64 i.d, .int .i64 i.a, .int .i64 i.b, .int .i64 i.c, .int .i64 i.imm] : Array Value)[j]? = some v → w9.cell? ⟨bI, j, none⟩ = some v := (fun j v hj => hS9.cell (HIC.out j v hj) (HRI.out)); have o9 := ic9 0 _ rfl; have tc9 : ∀ (j : Nat) v, ta[j]? = some v → w9.cell? ⟨w.heap.size + 1, j, none⟩ = some v := (fun j v hj => hS9.cell (HTC.out j v hj) (HRT.out)); have ldi9 := loadAt_cells Try.underlying39 (by kernel_rfl) rfl (by kernel_rfl) ic9; have ldt9 := HLT.out w9 tc9; clear tc9 ic9; first | (exact exec_load rfl rfl (by first | exact ldi9 | exact ldt9)) | (go_simp; try rfl)) | (apply light_yes (by rfl); intro w9 hS9; have HM9 := HMJ.out.grownM hS9 HROW.out; have mm0 := HM9.m0; have mm2 := HM9.m2; have HR9 := HRBJ.out.grown hS9 HRR2.out; have c6 := HR9.c6; have hw9 := hS9.size; have hmb9 : mb < w9.heap.size := (by omega); have hrb9 : rb < w9.heap.size := (by omega); have ic9 : ∀ (j : Nat) v, (#[.int .i64 i.op, .int .i64 i.d, .int .i64 i.a, .int .i64 i.b, .int .i64 i.c, .int .i64 i.imm] : Array Value)[j]? = some v → w9.cell? ⟨bI, j, none⟩ = some v := (fun j v hj => hS9.cell (HIC.out j v hj) (HRI.out)); have o9 := ic9 0 _ rfl; have tc9 : ∀ (j : Nat) v, ta[j]? = some v → w9.cell? ⟨w.heap.size + 1, j, none⟩ = some v := (fun j v hj => hS9.cell (HTC.out j v hj) (HRT.out)); have ldi9 := loadAt_cells Try.underlying39 (by kernel_rfl) rfl (by kernel_rfl) ic9; have ldt9 := HLT.out w9 tc9; clear tc9 ic9; go_simp; try rfl)
            case hQ => exact fun _ _ _ h => h
            (try simp only [Act.put, List.setIfInBounds_toArray, List.set_cons_zero, List.set_cons_succ])
            apply trail_light
            case hi => (simp only [List.getElem?_toArray, List.getElem?_cons_zero, List.getElem?_cons_succ]; exact rfl)
            case hl => first | exact light_no (by rfl) | (apply light_plain rfl; intro w9 hS9; have HM9 := HMJ.out.grownM hS9 HROW.out; have mm0 := HM9.m0; have mm2 := HM9.m2; have HR9 := HRBJ.out.grown hS9 HRR2.out; have c6 := HR9.c6; have hw9 := hS9.size; have hmb9 : mb < w9.heap.size := (by omega); have hrb9 : rb < w9.heap.size := (by omega); have ic9 : ∀ (j : Nat) v, (#[.int .i64 i.op, .int .i64 i.d, .int .i64 i.a, .int .i64 i.b, .int .i64 i.c, .int .i64 i.imm] : Array Value)[j]? = some v → w9.cell? ⟨bI, j, none⟩ = some v := (fun j v hj => hS9.cell (HIC.out j v hj) (HRI.out)); have o9 := ic9 0 _ rfl; have tc9 : ∀ (j : Nat) v, ta[j]? = some v → w9.cell? ⟨w.heap.size + 1, j, none⟩ = some v := (fun j v hj => hS9.cell (HTC.out j v hj) (HRT.out)); have ldi9 := loadAt_cells Try.underlying39 (by kernel_rfl) rfl (by kernel_rfl) ic9; have ldt9 := HLT.out w9 tc9; clear tc9 ic9; first | (exact exec_load rfl rfl (by first | exact ldi9 | exact ldt9)) | (go_simp; try rfl)) | (apply light_yes (by rfl); intro w9 hS9; have HM9 := HMJ.out.grownM hS9 HROW.out; have mm0 := HM9.m0; have mm2 := HM9.m2; have HR9 := HRBJ.out.grown hS9 HRR2.out; have c6 := HR9.c6; have hw9 := hS9.size; have hmb9 : mb < w9.heap.size := (by omega); have hrb9 : rb < w9.heap.size := (by omega); have ic9 : ∀ (j : Nat) v, (#[.int .i64 i.op, .int .i64 i.d, .int .i64 i.a, .int .i64 i.b, .int .i64 i.c, .int .i64 i.imm] : Array Value)[j]? = some v → w9.cell? ⟨bI, j, none⟩ = some v := (fun j v hj => hS9.cell (HIC.out j v hj) (HRI.out)); have o9 := ic9 0 _ rfl; have tc9 : ∀ (j : Nat) v, ta[j]? = some v → w9.cell? ⟨w.heap.size + 1, j, none⟩ = some v := (fun j v hj => hS9.cell (HTC.out j v hj) (HRT.out)); have ldi9 := loadAt_cells Try.underlying39 (by kernel_rfl) rfl (by kernel_rfl) ic9; have ldt9 := HLT.out w9 tc9; clear tc9 ic9; go_simp; try rfl)
            case hQ => exact fun _ _ _ h => h
            (try simp only [Act.put, List.setIfInBounds_toArray, List.set_cons_zero, List.set_cons_succ])
            apply trail_light
            case hi => (simp only [List.getElem?_toArray, List.getElem?_cons_zero, List.getElem?_cons_succ]; exact rfl)
            case hl => first | exact light_no (by rfl) | (apply light_plain rfl; intro w9 hS9; have HM9 := HMJ.out.grownM hS9 HROW.out; have mm0 := HM9.m0; have mm2 := HM9.m2; have HR9 := HRBJ.out.grown hS9 HRR2.out; have c6 := HR9.c6; have hw9 := hS9.size; have hmb9 : mb < w9.heap.size := (by omega); have hrb9 : rb < w9.heap.size := (by omega); have ic9 : ∀ (j : Nat) v, (#[.int .i64 i.op, .int .i64 i.d, .int .i64 i.a, .int .i64 i.b, .int .i64 i.c, .int .i64 i.imm] : Array Value)[j]? = some v → w9.cell? ⟨bI, j, none⟩ = some v := (fun j v hj => hS9.cell (HIC.out j v hj) (HRI.out)); have o9 := ic9 0 _ rfl; have tc9 : ∀ (j : Nat) v, ta[j]? = some v → w9.cell? ⟨w.heap.size + 1, j, none⟩ = some v := (fun j v hj => hS9.cell (HTC.out j v hj) (HRT.out)); have ldi9 := loadAt_cells Try.underlying39 (by kernel_rfl) rfl (by kernel_rfl) ic9; have ldt9 := HLT.out w9 tc9; clear tc9 ic9; first | (exact exec_load rfl rfl (by first | exact ldi9 | exact ldt9)) | (go_simp; try rfl)) | (apply light_yes (by rfl); intro w9 hS9; have HM9 := HMJ.out.grownM hS9 HROW.out; have mm0 := HM9.m0; have mm2 := HM9.m2; have HR9 := HRBJ.out.grown hS9 HRR2.out; have c6 := HR9.c6; have hw9 := hS9.size; have hmb9 : mb < w9.heap.size := (by omega); have hrb9 : rb < w9.heap.size := (by omega); have ic9 : ∀ (j : Nat) v, (#[.int .i64 i.op, .int .i64 i.d, .int .i64 i.a, .int .i64 i.b, .int .i64 i.c, .int .i64 i.imm] : Array Value)[j]? = some v → w9.cell? ⟨bI, j, none⟩ = some v := (fun j v hj => hS9.cell (HIC.out j v hj) (HRI.out)); have o9 := ic9 0 _ rfl; have tc9 : ∀ (j : Nat) v, ta[j]? = some v → w9.cell? ⟨w.heap.size + 1, j, none⟩ = some v := (fun j v hj => hS9.cell (HTC.out j v hj) (HRT.out)); have ldi9 := loadAt_cells Try.underlying39 (by kernel_rfl) rfl (by kernel_rfl) ic9; have ldt9 := HLT.out w9 tc9; clear tc9 ic9; go_simp; try rfl)
            case hQ => exact fun _ _ _ h => h
            (try simp only [Act.put, List.setIfInBounds_toArray, List.set_cons_zero, List.set_cons_succ])
            apply trail_light
            case hi => (simp only [List.getElem?_toArray, List.getElem?_cons_zero, List.getElem?_cons_succ]; exact rfl)
            case hl => first | exact light_no (by rfl) | (apply light_plain rfl; intro w9 hS9; skip; first | (exact exec_load rfl rfl (by first | exact ldi9 | exact ldt9)) | (go_simp; try rfl)) | (apply light_yes (by rfl); intro w9 hS9; skip; go_simp; try rfl)
            case hQ => exact fun _ _ _ h => h
            (try simp only [Act.put, List.setIfInBounds_toArray, List.set_cons_zero, List.set_cons_succ])
            apply trail_light
            case hi => (simp only [List.getElem?_toArray, List.getElem?_cons_zero, List.getElem?_cons_succ]; exact rfl)
            case hl => first | exact light_no (by rfl) | (apply light_plain rfl; intro w9 hS9; have HM9 := HMJ.out.grownM hS9 HROW.out; have mm0 := HM9.m0; have mm2 := HM9.m2; have HR9 := HRBJ.out.grown hS9 HRR2.out; have c6 := HR9.c6; have hw9 := hS9.size; have hmb9 : mb < w9.heap.size := (by omega); have hrb9 : rb < w9.heap.size := (by omega); have ic9 : ∀ (j : Nat) v, (#[.int .i64 i.op, .int .i64 i.d, .int .i64 i.a, .int .i64 i.b, .int .i64 i.c, .int .i64 i.imm] : Array Value)[j]? = some v → w9.cell? ⟨bI, j, none⟩ = some v := (fun j v hj => hS9.cell (HIC.out j v hj) (HRI.out)); have o9 := ic9 0 _ rfl; have tc9 : ∀ (j : Nat) v, ta[j]? = some v → w9.cell? ⟨w.heap.size + 1, j, none⟩ = some v := (fun j v hj => hS9.cell (HTC.out j v hj) (HRT.out)); have ldi9 := loadAt_cells Try.underlying39 (by kernel_rfl) rfl (by kernel_rfl) ic9; have ldt9 := HLT.out w9 tc9; clear tc9 ic9; first | (exact exec_load rfl rfl (by first | exact ldi9 | exact ldt9)) | (go_simp; try rfl)) | (apply light_yes (by rfl); intro w9 hS9; have HM9 := HMJ.out.grownM hS9 HROW.out; have mm0 := HM9.m0; have mm2 := HM9.m2; have HR9 := HRBJ.out.grown hS9 HRR2.out; have c6 := HR9.c6; have hw9 := hS9.size; have hmb9 : mb < w9.heap.size := (by omega); have hrb9 : rb < w9.heap.size := (by omega); have ic9 : ∀ (j : Nat) v, (#[.int .i64 i.op, .int .i64 i.d, .int .i64 i.a, .int .i64 i.b, .int .i64 i.c, .int .i64 i.imm] : Array Value)[j]? = some v → w9.cell? ⟨bI, j, none⟩ = some v := (fun j v hj => hS9.cell (HIC.out j v hj) (HRI.out)); have o9 := ic9 0 _ rfl; have tc9 : ∀ (j : Nat) v, ta[j]? = some v → w9.cell? ⟨w.heap.size + 1, j, none⟩ = some v := (fun j v hj => hS9.cell (HTC.out j v hj) (HRT.out)); have ldi9 := loadAt_cells Try.underlying39 (by kernel_rfl) rfl (by kernel_rfl) ic9; have ldt9 := HLT.out w9 tc9; clear tc9 ic9; go_simp; try rfl)
            case hQ => exact fun _ _ _ h => h
            (try simp only [Act.put, List.setIfInBounds_toArray, List.set_cons_zero, List.set_cons_succ])
            apply trail_light
            case hi => (simp only [List.getElem?_toArray, List.getElem?_cons_zero, List.getElem?_cons_succ]; exact rfl)
            case hl => first | exact light_no (by rfl) | (apply light_plain rfl; intro w9 hS9; have HM9 := HMJ.out.grownM hS9 HROW.out; have mm0 := HM9.m0; have mm2 := HM9.m2; have HR9 := HRBJ.out.grown hS9 HRR2.out; have c6 := HR9.c6; have hw9 := hS9.size; have hmb9 : mb < w9.heap.size := (by omega); have hrb9 : rb < w9.heap.size := (by omega); have ic9 : ∀ (j : Nat) v, (#[.int .i64 i.op, .int .i64 i.d, .int .i64 i.a, .int .i64 i.b, .int .i64 i.c, .int .i64 i.imm] : Array Value)[j]? = some v → w9.cell? ⟨bI, j, none⟩ = some v := (fun j v hj => hS9.cell (HIC.out j v hj) (HRI.out)); have o9 := ic9 0 _ rfl; have tc9 : ∀ (j : Nat) v, ta[j]? = some v → w9.cell? ⟨w.heap.size + 1, j, none⟩ = some v := (fun j v hj => hS9.cell (HTC.out j v hj) (HRT.out)); have ldi9 := loadAt_cells Try.underlying39 (by kernel_rfl) rfl (by kernel_rfl) ic9; have ldt9 := HLT.out w9 tc9; clear tc9 ic9; first | (exact exec_load rfl rfl (by first | exact ldi9 | exact ldt9)) | (go_simp; try rfl)) | (apply light_yes (by rfl); intro w9 hS9; have HM9 := HMJ.out.grownM hS9 HROW.out; have mm0 := HM9.m0; have mm2 := HM9.m2; have HR9 := HRBJ.out.grown hS9 HRR2.out; have c6 := HR9.c6; have hw9 := hS9.size; have hmb9 : mb < w9.heap.size := (by omega); have hrb9 : rb < w9.heap.size := (by omega); have ic9 : ∀ (j : Nat) v, (#[.int .i64 i.op, .int .i64 i.d, .int .i64 i.a, .int .i64 i.b, .int .i64 i.c, .int .i64 i.imm] : Array Value)[j]? = some v → w9.cell? ⟨bI, j, none⟩ = some v := (fun j v hj => hS9.cell (HIC.out j v hj) (HRI.out)); have o9 := ic9 0 _ rfl; have tc9 : ∀ (j : Nat) v, ta[j]? = some v → w9.cell? ⟨w.heap.size + 1, j, none⟩ = some v := (fun j v hj => hS9.cell (HTC.out j v hj) (HRT.out)); have ldi9 := loadAt_cells Try.underlying39 (by kernel_rfl) rfl (by kernel_rfl) ic9; have ldt9 := HLT.out w9 tc9; clear tc9 ic9; go_simp; try rfl)
            case hQ => exact fun _ _ _ h => h
            (try simp only [Act.put, List.setIfInBounds_toArray, List.set_cons_zero, List.set_cons_succ])
            apply trail_light
            case hi => (simp only [List.getElem?_toArray, List.getElem?_cons_zero, List.getElem?_cons_succ]; exact rfl)
            case hl => first | exact light_no (by rfl) | (apply light_plain rfl; intro w9 hS9; have HM9 := HMJ.out.grownM hS9 HROW.out; have mm0 := HM9.m0; have mm2 := HM9.m2; have HR9 := HRBJ.out.grown hS9 HRR2.out; have c6 := HR9.c6; have hw9 := hS9.size; have hmb9 : mb < w9.heap.size := (by omega); have hrb9 : rb < w9.heap.size := (by omega); have ic9 : ∀ (j : Nat) v, (#[.int .i64 i.op, .int .i64 i.d, .int .i64 i.a, .int .i64 i.b, .int .i64 i.c, .int .i64 i.imm] : Array Value)[j]? = some v → w9.cell? ⟨bI, j, none⟩ = some v := (fun j v hj => hS9.cell (HIC.out j v hj) (HRI.out)); have o9 := ic9 0 _ rfl; have tc9 : ∀ (j : Nat) v, ta[j]? = some v → w9.cell? ⟨w.heap.size + 1, j, none⟩ = some v := (fun j v hj => hS9.cell (HTC.out j v hj) (HRT.out)); have ldi9 := loadAt_cells Try.underlying39 (by kernel_rfl) rfl (by kernel_rfl) ic9; have ldt9 := HLT.out w9 tc9; clear tc9 ic9; first | (exact exec_load rfl rfl (by first | exact ldi9 | exact ldt9)) | (go_simp; try rfl)) | (apply light_yes (by rfl); intro w9 hS9; have HM9 := HMJ.out.grownM hS9 HROW.out; have mm0 := HM9.m0; have mm2 := HM9.m2; have HR9 := HRBJ.out.grown hS9 HRR2.out; have c6 := HR9.c6; have hw9 := hS9.size; have hmb9 : mb < w9.heap.size := (by omega); have hrb9 : rb < w9.heap.size := (by omega); have ic9 : ∀ (j : Nat) v, (#[.int .i64 i.op, .int .i64 i.d, .int .i64 i.a, .int .i64 i.b, .int .i64 i.c, .int .i64 i.imm] : Array Value)[j]? = some v → w9.cell? ⟨bI, j, none⟩ = some v := (fun j v hj => hS9.cell (HIC.out j v hj) (HRI.out)); have o9 := ic9 0 _ rfl; have tc9 : ∀ (j : Nat) v, ta[j]? = some v → w9.cell? ⟨w.heap.size + 1, j, none⟩ = some v := (fun j v hj => hS9.cell (HTC.out j v hj) (HRT.out)); have ldi9 := loadAt_cells Try.underlying39 (by kernel_rfl) rfl (by kernel_rfl) ic9; have ldt9 := HLT.out w9 tc9; clear tc9 ic9; go_simp; try rfl)
            case hQ => exact fun _ _ _ h => h
            (try simp only [Act.put, List.setIfInBounds_toArray, List.set_cons_zero, List.set_cons_succ])
            apply trail_light
            case hi => (simp only [List.getElem?_toArray, List.getElem?_cons_zero, List.getElem?_cons_succ]; exact rfl)
            case hl => first | exact light_no (by rfl) | (apply light_plain rfl; intro w9 hS9; skip; first | (exact exec_load rfl rfl (by first | exact ldi9 | exact ldt9)) | (go_simp; try rfl)) | (apply light_yes (by rfl); intro w9 hS9; skip; go_simp; try rfl)
            case hQ => exact fun _ _ _ h => h
            (try simp only [Act.put, List.setIfInBounds_toArray, List.set_cons_zero, List.set_cons_succ])
            apply trail_light
            case hi => (simp only [List.getElem?_toArray, List.getElem?_cons_zero, List.getElem?_cons_succ]; exact rfl)
            case hl => first | exact light_no (by rfl) | (apply light_plain rfl; intro w9 hS9; have HM9 := HMJ.out.grownM hS9 HROW.out; have mm0 := HM9.m0; have mm2 := HM9.m2; have HR9 := HRBJ.out.grown hS9 HRR2.out; have c6 := HR9.c6; have hw9 := hS9.size; have hmb9 : mb < w9.heap.size := (by omega); have hrb9 : rb < w9.heap.size := (by omega); have ic9 : ∀ (j : Nat) v, (#[.int .i64 i.op, .int .i64 i.d, .int .i64 i.a, .int .i64 i.b, .int .i64 i.c, .int .i64 i.imm] : Array Value)[j]? = some v → w9.cell? ⟨bI, j, none⟩ = some v := (fun j v hj => hS9.cell (HIC.out j v hj) (HRI.out)); have o9 := ic9 0 _ rfl; have tc9 : ∀ (j : Nat) v, ta[j]? = some v → w9.cell? ⟨w.heap.size + 1, j, none⟩ = some v := (fun j v hj => hS9.cell (HTC.out j v hj) (HRT.out)); have ldi9 := loadAt_cells Try.underlying39 (by kernel_rfl) rfl (by kernel_rfl) ic9; have ldt9 := HLT.out w9 tc9; clear tc9 ic9; first | (exact exec_load rfl rfl (by first | exact ldi9 | exact ldt9)) | (go_simp; try rfl)) | (apply light_yes (by rfl); intro w9 hS9; have HM9 := HMJ.out.grownM hS9 HROW.out; have mm0 := HM9.m0; have mm2 := HM9.m2; have HR9 := HRBJ.out.grown hS9 HRR2.out; have c6 := HR9.c6; have hw9 := hS9.size; have hmb9 : mb < w9.heap.size := (by omega); have hrb9 : rb < w9.heap.size := (by omega); have ic9 : ∀ (j : Nat) v, (#[.int .i64 i.op, .int .i64 i.d, .int .i64 i.a, .int .i64 i.b, .int .i64 i.c, .int .i64 i.imm] : Array Value)[j]? = some v → w9.cell? ⟨bI, j, none⟩ = some v := (fun j v hj => hS9.cell (HIC.out j v hj) (HRI.out)); have o9 := ic9 0 _ rfl; have tc9 : ∀ (j : Nat) v, ta[j]? = some v → w9.cell? ⟨w.heap.size + 1, j, none⟩ = some v := (fun j v hj => hS9.cell (HTC.out j v hj) (HRT.out)); have ldi9 := loadAt_cells Try.underlying39 (by kernel_rfl) rfl (by kernel_rfl) ic9; have ldt9 := HLT.out w9 tc9; clear tc9 ic9; go_simp; try rfl)
            case hQ => exact fun _ _ _ h => h
            (try simp only [Act.put, List.setIfInBounds_toArray, List.set_cons_zero, List.set_cons_succ])
            apply trail_light
            case hi => (simp only [List.getElem?_toArray, List.getElem?_cons_zero, List.getElem?_cons_succ]; exact rfl)
            case hl => first | exact light_no (by rfl) | (apply light_plain rfl; intro w9 hS9; have HM9 := HMJ.out.grownM hS9 HROW.out; have mm0 := HM9.m0; have mm2 := HM9.m2; have HR9 := HRBJ.out.grown hS9 HRR2.out; have c6 := HR9.c6; have hw9 := hS9.size; have hmb9 : mb < w9.heap.size := (by omega); have hrb9 : rb < w9.heap.size := (by omega); have ic9 : ∀ (j : Nat) v, (#[.int .i64 i.op, .int .i64 i.d, .int .i64 i.a, .int .i64 i.b, .int .i64 i.c, .int .i64 i.imm] : Array Value)[j]? = some v → w9.cell? ⟨bI, j, none⟩ = some v := (fun j v hj => hS9.cell (HIC.out j v hj) (HRI.out)); have o9 := ic9 0 _ rfl; have tc9 : ∀ (j : Nat) v, ta[j]? = some v → w9.cell? ⟨w.heap.size + 1, j, none⟩ = some v := (fun j v hj => hS9.cell (HTC.out j v hj) (HRT.out)); have ldi9 := loadAt_cells Try.underlying39 (by kernel_rfl) rfl (by kernel_rfl) ic9; have ldt9 := HLT.out w9 tc9; clear tc9 ic9; first | (exact exec_load rfl rfl (by first | exact ldi9 | exact ldt9)) | (go_simp; try rfl)) | (apply light_yes (by rfl); intro w9 hS9; have HM9 := HMJ.out.grownM hS9 HROW.out; have mm0 := HM9.m0; have mm2 := HM9.m2; have HR9 := HRBJ.out.grown hS9 HRR2.out; have c6 := HR9.c6; have hw9 := hS9.size; have hmb9 : mb < w9.heap.size := (by omega); have hrb9 : rb < w9.heap.size := (by omega); have ic9 : ∀ (j : Nat) v, (#[.int .i64 i.op, .int .i64 i.d, .int .i64 i.a, .int .i64 i.b, .int .i64 i.c, .int .i64 i.imm] : Array Value)[j]? = some v → w9.cell? ⟨bI, j, none⟩ = some v := (fun j v hj => hS9.cell (HIC.out j v hj) (HRI.out)); have o9 := ic9 0 _ rfl; have tc9 : ∀ (j : Nat) v, ta[j]? = some v → w9.cell? ⟨w.heap.size + 1, j, none⟩ = some v := (fun j v hj => hS9.cell (HTC.out j v hj) (HRT.out)); have ldi9 := loadAt_cells Try.underlying39 (by kernel_rfl) rfl (by kernel_rfl) ic9; have ldt9 := HLT.out w9 tc9; clear tc9 ic9; go_simp; try rfl)
            case hQ => exact fun _ _ _ h => h
            (try simp only [Act.put, List.setIfInBounds_toArray, List.set_cons_zero, List.set_cons_succ])
            apply trail_light
            case hi => (simp only [List.getElem?_toArray, List.getElem?_cons_zero, List.getElem?_cons_succ]; exact rfl)
            case hl => first | exact light_no (by rfl) | (apply light_plain rfl; intro w9 hS9; have HM9 := HMJ.out.grownM hS9 HROW.out; have mm0 := HM9.m0; have mm2 := HM9.m2; have HR9 := HRBJ.out.grown hS9 HRR2.out; have c6 := HR9.c6; have hw9 := hS9.size; have hmb9 : mb < w9.heap.size := (by omega); have hrb9 : rb < w9.heap.size := (by omega); have ic9 : ∀ (j : Nat) v, (#[.int .i64 i.op, .int .i64 i.d, .int .i64 i.a, .int .i64 i.b, .int .i64 i.c, .int .i64 i.imm] : Array Value)[j]? = some v → w9.cell? ⟨bI, j, none⟩ = some v := (fun j v hj => hS9.cell (HIC.out j v hj) (HRI.out)); have o9 := ic9 0 _ rfl; have tc9 : ∀ (j : Nat) v, ta[j]? = some v → w9.cell? ⟨w.heap.size + 1, j, none⟩ = some v := (fun j v hj => hS9.cell (HTC.out j v hj) (HRT.out)); have ldi9 := loadAt_cells Try.underlying39 (by kernel_rfl) rfl (by kernel_rfl) ic9; have ldt9 := HLT.out w9 tc9; clear tc9 ic9; first | (exact exec_load rfl rfl (by first | exact ldi9 | exact ldt9)) | (go_simp; try rfl)) | (apply light_yes (by rfl); intro w9 hS9; have HM9 := HMJ.out.grownM hS9 HROW.out; have mm0 := HM9.m0; have mm2 := HM9.m2; have HR9 := HRBJ.out.grown hS9 HRR2.out; have c6 := HR9.c6; have hw9 := hS9.size; have hmb9 : mb < w9.heap.size := (by omega); have hrb9 : rb < w9.heap.size := (by omega); have ic9 : ∀ (j : Nat) v, (#[.int .i64 i.op, .int .i64 i.d, .int .i64 i.a, .int .i64 i.b, .int .i64 i.c, .int .i64 i.imm] : Array Value)[j]? = some v → w9.cell? ⟨bI, j, none⟩ = some v := (fun j v hj => hS9.cell (HIC.out j v hj) (HRI.out)); have o9 := ic9 0 _ rfl; have tc9 : ∀ (j : Nat) v, ta[j]? = some v → w9.cell? ⟨w.heap.size + 1, j, none⟩ = some v := (fun j v hj => hS9.cell (HTC.out j v hj) (HRT.out)); have ldi9 := loadAt_cells Try.underlying39 (by kernel_rfl) rfl (by kernel_rfl) ic9; have ldt9 := HLT.out w9 tc9; clear tc9 ic9; go_simp; try rfl)
            case hQ => exact fun _ _ _ h => h
            (try simp only [Act.put, List.setIfInBounds_toArray, List.set_cons_zero, List.set_cons_succ])
            apply trail_light
            case hi => (simp only [List.getElem?_toArray, List.getElem?_cons_zero, List.getElem?_cons_succ]; exact rfl)
            case hl => first | exact light_no (by rfl) | (apply light_plain rfl; intro w9 hS9; have HM9 := HMJ.out.grownM hS9 HROW.out; have mm0 := HM9.m0; have mm2 := HM9.m2; have HR9 := HRBJ.out.grown hS9 HRR2.out; have c6 := HR9.c6; have hw9 := hS9.size; have hmb9 : mb < w9.heap.size := (by omega); have hrb9 : rb < w9.heap.size := (by omega); have ic9 : ∀ (j : Nat) v, (#[.int .i64 i.op, .int .i64 i.d, .int .i64 i.a, .int .i64 i.b, .int .i64 i.c, .int .i64 i.imm] : Array Value)[j]? = some v → w9.cell? ⟨bI, j, none⟩ = some v := (fun j v hj => hS9.cell (HIC.out j v hj) (HRI.out)); have o9 := ic9 0 _ rfl; have tc9 : ∀ (j : Nat) v, ta[j]? = some v → w9.cell? ⟨w.heap.size + 1, j, none⟩ = some v := (fun j v hj => hS9.cell (HTC.out j v hj) (HRT.out)); have ldi9 := loadAt_cells Try.underlying39 (by kernel_rfl) rfl (by kernel_rfl) ic9; have ldt9 := HLT.out w9 tc9; clear tc9 ic9; first | (exact exec_load rfl rfl (by first | exact ldi9 | exact ldt9)) | (go_simp; try rfl)) | (apply light_yes (by rfl); intro w9 hS9; have HM9 := HMJ.out.grownM hS9 HROW.out; have mm0 := HM9.m0; have mm2 := HM9.m2; have HR9 := HRBJ.out.grown hS9 HRR2.out; have c6 := HR9.c6; have hw9 := hS9.size; have hmb9 : mb < w9.heap.size := (by omega); have hrb9 : rb < w9.heap.size := (by omega); have ic9 : ∀ (j : Nat) v, (#[.int .i64 i.op, .int .i64 i.d, .int .i64 i.a, .int .i64 i.b, .int .i64 i.c, .int .i64 i.imm] : Array Value)[j]? = some v → w9.cell? ⟨bI, j, none⟩ = some v := (fun j v hj => hS9.cell (HIC.out j v hj) (HRI.out)); have o9 := ic9 0 _ rfl; have tc9 : ∀ (j : Nat) v, ta[j]? = some v → w9.cell? ⟨w.heap.size + 1, j, none⟩ = some v := (fun j v hj => hS9.cell (HTC.out j v hj) (HRT.out)); have ldi9 := loadAt_cells Try.underlying39 (by kernel_rfl) rfl (by kernel_rfl) ic9; have ldt9 := HLT.out w9 tc9; clear tc9 ic9; go_simp; try rfl)
            case hQ => exact fun _ _ _ h => h
            (try simp only [Act.put, List.setIfInBounds_toArray, List.set_cons_zero, List.set_cons_succ])
            apply trail_heavy
            case hi => (simp only [List.getElem?_toArray, List.getElem?_cons_zero, List.getElem?_cons_succ]; exact rfl)
            go_wp2_with (first | (go_at_call 40; refine (HSC.out _ _ (SL.of_own (HMJ.out.grownM (grown_of_below (Below.refl _ _).drew _) HROW.out).v)).mono ?_; rintro e w4 ⟨v4, rfl, hO4, hb4⟩; obtain ⟨A4, c4x, hv4, _, _⟩ := SL.form (SL.of_own hO4); subst hv4; have hw4 : Below wJ.heap.size wJ w4 := (by (repeat' (first | (with_reducible exact Below.refl _ _) | (with_reducible assumption) | (with_reducible refine Below.alloc ?_ ?_ _) | (with_reducible refine below_drewN ?_ _) | (with_reducible refine Below.drew ?_) | (with_reducible refine Below.setCell ?_ ?_ _) | (with_reducible refine Below.trans ?_ (Below.mono (by with_reducible assumption) ?_)) | go_size))); have HO4 := Lib.hid hO4; have HW4 := Lib.hid hw4; have q4 := hw4.size; clear hO4 hb4 hw4) | (at_builtin; refine wpList_append_own_at _ rfl (.tmp 81) (.tmp 98) _ rfl (rb + 1) 72 il (.agg #[.int .i64 0, .int .i64 0, .slice none 0 0]) 3 40 Try.underlying52 IL.out.1 IL.out.2.1 IL.out.2.2.1 IL.out.2.2.2 rfl (by decide) _ _ _ rfl ((owns_below HLkJ.out.row HW4.out).alloc _) ⟨w4.heap.size, 0, none⟩ 1 1 [.int .i64 (m.pc : Int), .int .i64 i.op, .slice A4 (Ev.seen t i m.s.v (m.s.mode == 0)).length c4x] rfl rfl (cell_three_new _ _ _ _ _) (one_three _ _ _ _) (by unfold maxLen; omega) (by omega) (by simp; omega) ?_; intro v5 w5 hown5 hg5 hn5 hat5))
            refine ⟨by (first | exact grown_trans (grown_trans (grown_of_below HW4.out _) (World.grownBy_alloc _ _ _)) hg5 | exact grown_trans (grown_of_below HW4.out _) (World.grownBy_alloc _ _ _) | exact grown_of_below HW4.out _), ?_⟩
            apply trail_light
            case hi => (simp only [List.getElem?_toArray, List.getElem?_cons_zero, List.getElem?_cons_succ]; exact rfl)
            case hl => first | exact light_no (by rfl) | (apply light_plain rfl; intro w9 hS9; skip; first | (exact exec_load rfl rfl (by first | exact ldi9 | exact ldt9)) | (go_simp; try rfl)) | (apply light_yes (by rfl); intro w9 hS9; skip; go_simp; try rfl)
            case hQ => exact fun _ _ _ h => h
            (try simp only [Act.put, List.setIfInBounds_toArray, List.set_cons_zero, List.set_cons_succ])
            apply trail_heavy
            case hi => (simp only [List.getElem?_toArray, List.getElem?_cons_zero, List.getElem?_cons_succ]; exact rfl)
            go_wp2_with (first | (go_at_call 40; refine (HSC.out _ _ (SL.of_own (HMJ.out.grownM (grown_of_below (Below.refl _ _).drew _) HROW.out).v)).mono ?_; rintro e w4 ⟨v4, rfl, hO4, hb4⟩; obtain ⟨A4, c4x, hv4, _, _⟩ := SL.form (SL.of_own hO4); subst hv4; have hw4 : Below wJ.heap.size wJ w4 := (by (repeat' (first | (with_reducible exact Below.refl _ _) | (with_reducible assumption) | (with_reducible refine Below.alloc ?_ ?_ _) | (with_reducible refine below_drewN ?_ _) | (with_reducible refine Below.drew ?_) | (with_reducible refine Below.setCell ?_ ?_ _) | (with_reducible refine Below.trans ?_ (Below.mono (by with_reducible assumption) ?_)) | go_size))); have HO4 := Lib.hid hO4; have HW4 := Lib.hid hw4; have q4 := hw4.size; clear hO4 hb4 hw4) | (at_builtin; refine wpList_append_own_at _ rfl (.tmp 81) (.tmp 98) _ rfl (rb + 1) 72 il (.agg #[.int .i64 0, .int .i64 0, .slice none 0 0]) 3 40 Try.underlying52 IL.out.1 IL.out.2.1 IL.out.2.2.1 IL.out.2.2.2 rfl (by decide) _ _ _ rfl ((owns_below HLkJ.out.row HW4.out).alloc _) ⟨w4.heap.size, 0, none⟩ 1 1 [.int .i64 (m.pc : Int), .int .i64 i.op, .slice A4 (Ev.seen t i m.s.v (m.s.mode == 0)).length c4x] rfl rfl (cell_three_new _ _ _ _ _) (one_three _ _ _ _) (by unfold maxLen; omega) (by omega) (by simp; omega) ?_; intro v5 w5 hown5 hg5 hn5 hat5))
            refine ⟨by (first | exact grown_trans (grown_trans (grown_of_below HW4.out _) (World.grownBy_alloc _ _ _)) hg5 | exact grown_trans (grown_of_below HW4.out _) (World.grownBy_alloc _ _ _) | exact grown_of_below HW4.out _), ?_⟩
            apply trail_heavy
            case hi => (simp only [List.getElem?_toArray, List.getElem?_cons_zero, List.getElem?_cons_succ]; exact rfl)
            go_wp2_with (first | (go_at_call 40; refine (HSC.out _ _ (SL.of_own (HMJ.out.grownM (grown_of_below (Below.refl _ _).drew _) HROW.out).v)).mono ?_; rintro e w4 ⟨v4, rfl, hO4, hb4⟩; obtain ⟨A4, c4x, hv4, _, _⟩ := SL.form (SL.of_own hO4); subst hv4; have hw4 : Below wJ.heap.size wJ w4 := (by (repeat' (first | (with_reducible exact Below.refl _ _) | (with_reducible assumption) | (with_reducible refine Below.alloc ?_ ?_ _) | (with_reducible refine below_drewN ?_ _) | (with_reducible refine Below.drew ?_) | (with_reducible refine Below.setCell ?_ ?_ _) | (with_reducible refine Below.trans ?_ (Below.mono (by with_reducible assumption) ?_)) | go_size))); have HO4 := Lib.hid hO4; have HW4 := Lib.hid hw4; have q4 := hw4.size; clear hO4 hb4 hw4) | (at_builtin; refine wpList_append_own_at _ rfl (.tmp 81) (.tmp 98) _ rfl (rb + 1) 72 il (.agg #[.int .i64 0, .int .i64 0, .slice none 0 0]) 3 40 Try.underlying52 IL.out.1 IL.out.2.1 IL.out.2.2.1 IL.out.2.2.2 rfl (by decide) _ _ _ rfl ((owns_below HLkJ.out.row HW4.out).alloc _) ⟨w4.heap.size, 0, none⟩ 1 1 [.int .i64 (m.pc : Int), .int .i64 i.op, .slice A4 (Ev.seen t i m.s.v (m.s.mode == 0)).length c4x] rfl rfl (cell_three_new _ _ _ _ _) (one_three _ _ _ _) (by unfold maxLen; omega) (by omega) (by simp; omega) ?_; intro v5 w5 hown5 hg5 hn5 hat5))
            refine ⟨by (first | exact grown_trans (grown_trans (grown_of_below HW4.out _) (World.grownBy_alloc _ _ _)) hg5 | exact grown_trans (grown_of_below HW4.out _) (World.grownBy_alloc _ _ _) | exact grown_of_below HW4.out _), ?_⟩
            apply trail_light
            case hi => (simp only [List.getElem?_toArray, List.getElem?_cons_zero, List.getElem?_cons_succ]; exact rfl)
            case hl => first | exact light_no (by rfl) | (apply light_plain rfl; intro w9 hS9; have HM9 := HMJ.out.grownM hS9 HROW.out; have mm0 := HM9.m0; have mm2 := HM9.m2; have HR9 := HRBJ.out.grown hS9 HRR2.out; have c6 := HR9.c6; have hw9 := hS9.size; have hmb9 : mb < w9.heap.size := (by omega); have hrb9 : rb < w9.heap.size := (by omega); have ic9 : ∀ (j : Nat) v, (#[.int .i64 i.op, .int .i64 i.d, .int .i64 i.a, .int .i64 i.b, .int .i64 i.c, .int .i64 i.imm] : Array Value)[j]? = some v → w9.cell? ⟨bI, j, none⟩ = some v := (fun j v hj => hS9.cell (HIC.out j v hj) (HRI.out)); have o9 := ic9 0 _ rfl; have tc9 : ∀ (j : Nat) v, ta[j]? = some v → w9.cell? ⟨w.heap.size + 1, j, none⟩ = some v := (fun j v hj => hS9.cell (HTC.out j v hj) (HRT.out)); have ldi9 := loadAt_cells Try.underlying39 (by kernel_rfl) rfl (by kernel_rfl) ic9; have ldt9 := HLT.out w9 tc9; clear tc9 ic9; first | (exact exec_load rfl rfl (by first | exact ldi9 | exact ldt9)) | (go_simp; try rfl)) | (apply light_yes (by rfl); intro w9 hS9; have HM9 := HMJ.out.grownM hS9 HROW.out; have mm0 := HM9.m0; have mm2 := HM9.m2; have HR9 := HRBJ.out.grown hS9 HRR2.out; have c6 := HR9.c6; have hw9 := hS9.size; have hmb9 : mb < w9.heap.size := (by omega); have hrb9 : rb < w9.heap.size := (by omega); have ic9 : ∀ (j : Nat) v, (#[.int .i64 i.op, .int .i64 i.d, .int .i64 i.a, .int .i64 i.b, .int .i64 i.c, .int .i64 i.imm] : Array Value)[j]? = some v → w9.cell? ⟨bI, j, none⟩ = some v := (fun j v hj => hS9.cell (HIC.out j v hj) (HRI.out)); have o9 := ic9 0 _ rfl; have tc9 : ∀ (j : Nat) v, ta[j]? = some v → w9.cell? ⟨w.heap.size + 1, j, none⟩ = some v := (fun j v hj => hS9.cell (HTC.out j v hj) (HRT.out)); have ldi9 := loadAt_cells Try.underlying39 (by kernel_rfl) rfl (by kernel_rfl) ic9; have ldt9 := HLT.out w9 tc9; clear tc9 ic9; go_simp; try rfl)
            case hQ => exact fun _ _ _ h => h
            (try simp only [Act.put, List.setIfInBounds_toArray, List.set_cons_zero, List.set_cons_succ])
            refine trail_nil ?_
            refine last_at rfl ?_
            (try dsimp only)
            obtain ⟨A5, c5, hv5, _, _⟩ := SL.form (SL.of_own hown5)
            subst hv5
            have hg5' : (w4.alloc (.cells #[.int .i64 (m.pc : Int), .int .i64 i.op, .slice A4 (Ev.seen t i m.s.v (m.s.mode == 0)).length c4x] 72)).grownBy w5 vl.ownBlock := hg5
            have hat5' : ((.slice A5 (lk.length + 1) c5) : Value).ownBlock = vl.ownBlock ∨ ((.slice A5 (lk.length + 1) c5) : Value).ownBlock = some (w4.alloc (.cells #[.int .i64 (m.pc : Int), .int .i64 i.op, .slice A4 (Ev.seen t i m.s.v (m.s.mode == 0)).length c4x] 72)).heap.size := hat5
            have B4A : Below wJ.heap.size wJ (w4.alloc (.cells #[.int .i64 (m.pc : Int), .int .i64 i.op, .slice A4 (Ev.seen t i m.s.v (m.s.mode == 0)).length c4x] 72)) := HW4.out.alloc q4 _
            have HM5 : Hid (MAt w5 (w1.heap.size + 1) mb (.slice A2 us.length c2) us hi m.s) := (HMJ.out.stays B4A).grownM hg5' HROW.out
            have HR5 : Hid (RBox w5 rb m.st vl) := (HRBJ.out.stays B4A).grown hg5' HRR2.out
            have HLk5 : Hid (Leaks w5 (rb + 1) (.slice A5 (lk.length + 1) c5) (lk ++ [(Ev.leak t i m.pc m.s (m.s.mode == 0))]) (ls ++ [.slice A4 (Ev.seen t i m.s.v (m.s.mode == 0)).length c4x])) :=
              HLkJ.out.push (x := (Ev.leak t i m.pc m.s (m.s.mode == 0))) (by omega) B4A (SL.at_ (SL.of_own HO4.out) ((Below.refl _ _).alloc (Nat.le_refl _) _) (Nat.le_refl _)) ((from_own HO4.out).less (Nat.le_refl _)) (fun b hb => Nat.lt_of_lt_of_le (HO4.out.lt b hb).2 (by simp)) hg5' hown5 (hat5'.imp id fun e => ⟨_, e, Nat.le_refl _⟩)
            have hz5 := hg5'.size
            simp only [World.size_alloc] at hz5
            have HB5 : Hid (Below w1.heap.size w1 w5) := (HBJ.out.trans (B4A.mono (by omega))).grown hg5' (by simp; omega) (fun q hq => by have := HRB1.out q hq; omega)
            have HIC5 : Hid (∀ (j : Nat) v, (#[.int .i64 i.op, .int .i64 i.d, .int .i64 i.a, .int .i64 i.b, .int .i64 i.c, .int .i64 i.imm] : Array Value)[j]? = some v → w5.cell? ⟨bI, j, none⟩ = some v) := fun j v hj => (grown_trans (grown_of_below B4A _) hg5').cell (HIC.out j v hj) HRI.out
            have c6 := HR5.out.c6
            have lr5 := HR5.out.loose
            clear hown5 hg5 hn5 hat5 hg5' hat5' B4A HMJ HLkJ HBJ HRBJ HIC HTC HO4 HW4 HSC HLT
            go_upto_region 17 with fail
            have HM6 : Hid (MAt (w5.setCell ⟨rb, 6, none⟩ (.slice A5 (lk.length + 1) c5)) (w1.heap.size + 1) mb (.slice A2 us.length c2) us hi m.s) := HM5.out.aside (by omega) 6 _
            have HR6 : Hid (RBox (w5.setCell ⟨rb, 6, none⟩ (.slice A5 (lk.length + 1) c5)) rb m.st (.slice A5 (lk.length + 1) c5)) := HR5.out.setVl (.slice A5 (lk.length + 1) c5)
            have HLk6 : Hid (Leaks (w5.setCell ⟨rb, 6, none⟩ (.slice A5 (lk.length + 1) c5)) (rb + 1) (.slice A5 (lk.length + 1) c5) (lk ++ [(Ev.leak t i m.pc m.s (m.s.mode == 0))]) (ls ++ [.slice A4 (Ev.seen t i m.s.v (m.s.mode == 0)).length c4x])) := HLk5.out.aside rb 6 _ (Nat.lt_succ_self _)
            have lo1 : w1.heap.size ≤ rb := by omega
            have HB6 : Hid (Below w1.heap.size w1 (w5.setCell ⟨rb, 6, none⟩ (.slice A5 (lk.length + 1) c5))) := HB5.out.setCell lo1 _
            have hbr : bI ≠ rb := by omega
            have n0 : (w5.setCell ⟨rb, 6, none⟩ (.slice A5 (lk.length + 1) c5)).cell? ⟨bI, 0, none⟩ = some (.int .i64 i.op) := (World.cell?_setCell_other _ _ _ _ (by intro e; injection e with e; omega)).trans (HIC5.out 0 _ rfl)
            have n1 : (w5.setCell ⟨rb, 6, none⟩ (.slice A5 (lk.length + 1) c5)).cell? ⟨bI, 1, none⟩ = some (.int .i64 i.d) := (World.cell?_setCell_other _ _ _ _ (by intro e; injection e with e; omega)).trans (HIC5.out 1 _ rfl)
            have n2 : (w5.setCell ⟨rb, 6, none⟩ (.slice A5 (lk.length + 1) c5)).cell? ⟨bI, 2, none⟩ = some (.int .i64 i.a) := (World.cell?_setCell_other _ _ _ _ (by intro e; injection e with e; omega)).trans (HIC5.out 2 _ rfl)
            have n3 : (w5.setCell ⟨rb, 6, none⟩ (.slice A5 (lk.length + 1) c5)).cell? ⟨bI, 3, none⟩ = some (.int .i64 i.b) := (World.cell?_setCell_other _ _ _ _ (by intro e; injection e with e; omega)).trans (HIC5.out 3 _ rfl)
            have n4 : (w5.setCell ⟨rb, 6, none⟩ (.slice A5 (lk.length + 1) c5)).cell? ⟨bI, 4, none⟩ = some (.int .i64 i.c) := (World.cell?_setCell_other _ _ _ _ (by intro e; injection e with e; omega)).trans (HIC5.out 4 _ rfl)
            have n5 : (w5.setCell ⟨rb, 6, none⟩ (.slice A5 (lk.length + 1) c5)).cell? ⟨bI, 5, none⟩ = some (.int .i64 i.imm) := (World.cell?_setCell_other _ _ _ _ (by intro e; injection e with e; omega)).trans (HIC5.out 5 _ rfl)
            have z6 : bI < (w5.setCell ⟨rb, 6, none⟩ (.slice A5 (lk.length + 1) c5)).heap.size := by simp; omega
            generalize w5.setCell ⟨rb, 6, none⟩ (.slice A5 (lk.length + 1) c5) = w6 at *
            have HPC : m.pc ≤ 1099511627776 := by omega
            have HDO := Lib.hid (do_anyM ay.length i m.pc m.s _ mb _ _ _ _ HM6.out HPC HOKi.out HFM.out)
            have HFN := Lib.hid (HFM.out.step HOKi.out (k := m.pc))
            have hstp := Lib.hid (fun (k' : Nat) (s' : Ev.St) (h : Ev.step i m.pc m.s = (s', some k')) => Ev.step_pc h)
            have him := HOKi.out.imm
            clear HM5 HLk5 HB5 HIC5 HR5 c6 lr5 HPC
            cases hst2 : (Ev.step i m.pc m.s).2 with
            | some k' =>
              have HE := Lib.hid (Ev.mc_someM hst2)
              have hk' := hstp.out _ _ (show Ev.step i m.pc m.s = ((Ev.step i m.pc m.s).1, some k') by rw [← hst2])
              have hkn : k' ≤ 1099511627776 := by omega
              have HON2 := Lib.hid (HON.out (by rw [HE.out]))
              rw [hst2] at HDO
              clear hst2 HEN HON hk' him hstp
              have hnn : decide (nextOf (some k') < 0) = false := decide_eq_false (by simp only [nextOf]; omega)
              simp only [nextOf] at hnn HDO
              generalize (Ev.step i m.pc m.s).1 = s' at *
              go_upto_region 18 with (go_at_call 58; refine HDO.out.mono ?_; rintro e w7 ⟨rfl, hM7, hS7⟩)
              have HM7 := Lib.hid hM7
              have HR7 := Lib.hid (HR6.out.same (hS7.highM (by omega) HR6.out.lt))
              have HLk7 := Lib.hid (HLk6.out.sets hS7 (by omega))
              have HB7 := Lib.hid (HB6.out.trans ((hS7.keeps (by omega)).mono (by omega)))
              have c4 := HR7.out.c4
              have lr7 := HR7.out.loose
              clear hM7 hS7 n0 n1 n2 n3 n4 n5
              go_wp2_with fail
              go_roundw
              case rel => exact ⟨{ m with s := s', pc := k', st := m.st + 1 }, _, _, _, n, rfl, ⟨HM7.out.aside (by omega) 4 _, HFN.out, HLk7.out.aside rb 4 _ (Nat.lt_succ_self _), by rw [← HRES.out, HON2.out, HE.out], HWT.out.1, HWT.out.2.1, by simp [HWT.out.2.2], HR7.out.setSt (m.st + 1) (by push_cast; rfl)⟩, hkn, by show m.st + 1 ≤ _; omega, by simp; have := HWT.out.2.2; omega, by omega, by show most + 1 ≤ ((m.st + 1 : Nat) : Int) + (n : Int); omega, HB7.out.setCell lo1 _⟩
              case measure =>
                rw [(HR7.out.setSt (m.st + 1) (x := (m.st : Int) + 1) (by push_cast; rfl)).c4, HC4.out]
                simp only [Option.getD_some, intOf]
                omega
            | none =>
              have HE := Lib.hid (Ev.mc_endM (lk := lk ++ [(Ev.leak t i m.pc m.s (m.s.mode == 0))]) hst2 HWT.out.1 HWT.out.2.1)
              have HRR : Hid (R = { ended := Ev.endOf i m.s, err := 0, steps := (m.st : Int) + 1, mode := m.s.mode, leaks := lk ++ [(Ev.leak t i m.pc m.s (m.s.mode == 0))] }) := by
                rw [← HE.out.2]
                exact HRES.out.symm.trans (HEN.out HE.out.1)
              have hend := Ev.step_noneM hst2
              have hs1 : (Ev.step i m.pc m.s).1 = m.s := by rw [Ev.step_end hend]
              have HEND := Lib.hid (show (i.op = 20 ∧ inR m.s.v.length i.a) ∨ i.op = 21 by
                rcases hend with h | h
                · refine .inl ⟨h, ?_⟩
                  rw [HFM.out.len]
                  exact HOKi.out.reads _ (by unfold Ev.reads; rw [if_neg (by omega), if_neg (by omega), if_neg (by omega), if_pos (by omega)]; simp)
                · exact .inr h)
              rw [hst2, hs1] at HDO
              have hnn : decide (nextOf none < 0) = true := by simp [nextOf]
              simp only [nextOf] at hnn HDO
              clear hst2 hs1 HEN HON HFN hstp hend
              go_upto_region 18 with (go_at_call 58; refine HDO.out.mono ?_; rintro e w7 ⟨rfl, hM7, hS7⟩)
              have HM7 := Lib.hid hM7
              have HR7 := Lib.hid (HR6.out.same (hS7.highM (by omega) HR6.out.lt))
              have HLk7 := Lib.hid (HLk6.out.sets hS7 (by omega))
              have HB7 := Lib.hid (HB6.out.trans ((hS7.keeps (by omega)).mono (by omega)))
              have hq7 := hS7.highM (q := bI) (by omega) z6
              replace n0 := (World.cell?_of_block (a := ⟨bI, 0, none⟩) hq7).trans n0
              replace n1 := (World.cell?_of_block (a := ⟨bI, 1, none⟩) hq7).trans n1
              replace n2 := (World.cell?_of_block (a := ⟨bI, 2, none⟩) hq7).trans n2
              replace n3 := (World.cell?_of_block (a := ⟨bI, 3, none⟩) hq7).trans n3
              replace n4 := (World.cell?_of_block (a := ⟨bI, 4, none⟩) hq7).trans n4
              replace n5 := (World.cell?_of_block (a := ⟨bI, 5, none⟩) hq7).trans n5
              have z7 : bI < w7.heap.size := by have := hS7.size; omega
              have c4 := HR7.out.c4
              have lr7 := HR7.out.loose
              clear hM7 hS7 hq7 HM6 HR6 HLk6 HB6 HDO
              go_upto_region 20 with fail
              have HM8 : Hid (MAt (w7.setCell ⟨rb, 4, none⟩ (.int .i64 ((m.st : Int) + 1))) (w1.heap.size + 1) mb (.slice A2 us.length c2) us hi m.s) := HM7.out.aside (by omega) 4 _
              have HR8 : Hid (RBox (w7.setCell ⟨rb, 4, none⟩ (.int .i64 ((m.st : Int) + 1))) rb (m.st + 1) (.slice A5 (lk.length + 1) c5)) := HR7.out.setSt (m.st + 1) (by push_cast; rfl)
              have HLk8 : Hid (Leaks (w7.setCell ⟨rb, 4, none⟩ (.int .i64 ((m.st : Int) + 1))) (rb + 1) (.slice A5 (lk.length + 1) c5) (lk ++ [(Ev.leak t i m.pc m.s (m.s.mode == 0))]) (ls ++ [.slice A4 (Ev.seen t i m.s.v (m.s.mode == 0)).length c4x])) := HLk7.out.aside rb 4 _ (Nat.lt_succ_self _)
              have HB8 : Hid (Below w1.heap.size w1 (w7.setCell ⟨rb, 4, none⟩ (.int .i64 ((m.st : Int) + 1)))) := HB7.out.setCell lo1 _
              replace n0 := (World.cell?_setCell_other w7 ⟨rb, 4, none⟩ ⟨bI, 0, none⟩ (.int .i64 ((m.st : Int) + 1)) (by intro e; injection e with e; omega)).trans n0
              replace n1 := (World.cell?_setCell_other w7 ⟨rb, 4, none⟩ ⟨bI, 1, none⟩ (.int .i64 ((m.st : Int) + 1)) (by intro e; injection e with e; omega)).trans n1
              replace n2 := (World.cell?_setCell_other w7 ⟨rb, 4, none⟩ ⟨bI, 2, none⟩ (.int .i64 ((m.st : Int) + 1)) (by intro e; injection e with e; omega)).trans n2
              replace n3 := (World.cell?_setCell_other w7 ⟨rb, 4, none⟩ ⟨bI, 3, none⟩ (.int .i64 ((m.st : Int) + 1)) (by intro e; injection e with e; omega)).trans n3
              replace n4 := (World.cell?_setCell_other w7 ⟨rb, 4, none⟩ ⟨bI, 4, none⟩ (.int .i64 ((m.st : Int) + 1)) (by intro e; injection e with e; omega)).trans n4
              replace n5 := (World.cell?_setCell_other w7 ⟨rb, 4, none⟩ ⟨bI, 5, none⟩ (.int .i64 ((m.st : Int) + 1)) (by intro e; injection e with e; omega)).trans n5
              have z8 : bI < (w7.setCell ⟨rb, 4, none⟩ (.int .i64 ((m.st : Int) + 1))).heap.size := by simp; omega
              generalize w7.setCell ⟨rb, 4, none⟩ (.int .i64 ((m.st : Int) + 1)) = w8 at *
              clear c4 lr7 HM7 HR7 HLk7 HB7
              have q0 := HR8.out.c0
              have q1 := HR8.out.c1
              have q2 := HR8.out.c2
              have q5 := HR8.out.c5
              have lr8 := HR8.out.loose
              have mm2 := HM8.out.m2
              have hlr := HR8.out.lt
              have hE1 : ∃ ew, ew = (Ev.endOf i m.s).word := ⟨_, rfl⟩
              have hE2 : ∃ et, et = (Ev.endOf i m.s).trap := ⟨_, rfl⟩
              obtain ⟨ew, hew⟩ := hE1
              obtain ⟨et, het⟩ := hE2
              have HED := Lib.hid (fun w9 h9 => ended_any i m.s _ mb _ _ _ w9 (HM8.out.stays h9) HEND.out)
              rw [← hew, ← het] at HED
              have HE1 := Lib.hid hew
              have HE2 := Lib.hid het
              clear hew het
              go_region_held3 (fun w' => w'.cell? ⟨bI, 0, none⟩ = some (.int .i64 i.op) ∧ w'.cell? ⟨bI, 1, none⟩ = some (.int .i64 i.d) ∧ w'.cell? ⟨bI, 2, none⟩ = some (.int .i64 i.a) ∧ w'.cell? ⟨bI, 3, none⟩ = some (.int .i64 i.b) ∧ w'.cell? ⟨bI, 4, none⟩ = some (.int .i64 i.c) ∧ w'.cell? ⟨bI, 5, none⟩ = some (.int .i64 i.imm) ∧ w'.cell? ⟨mb, 2, none⟩ = some (.int .i64 m.s.mode)) (first | go_keep | (go_split_ands; done) | (go_simp; done) | (refine ⟨?_, ?_, ?_, ?_, ?_, ?_, ?_⟩ <;> go_simp; done) | (go_split_ands; refine ⟨?_, ?_, ?_, ?_, ?_, ?_, ?_⟩ <;> (rw [kc9 _ _ (by go_size)]; go_simp)))
                (first | (go_at_call 59; refine (HED.out _ (Below.refl _ _).drew).mono ?_; rintro e w9 ⟨rfl, hb9⟩; obtain ⟨kc9, kf9, s9⟩ := bfacts hb9; have q09 := (hb9.cell (p := ⟨rb, 0, none⟩) (by go_size)).trans q0; have q19 := (hb9.cell (p := ⟨rb, 1, none⟩) (by go_size)).trans q1; have q29 := (hb9.cell (p := ⟨rb, 2, none⟩) (by go_size)).trans q2; have q59 := (hb9.cell (p := ⟨rb, 5, none⟩) (by go_size)).trans q5; have lr9 : ∀ j, w9.frozen? ⟨rb, j, none⟩ = false := (fun j => (hb9.frozen (p := ⟨rb, j, none⟩) (by go_size)).trans (lr8 j))))
              have hb89 : Below w8.heap.size w8 w9 := by (repeat' (first | (with_reducible exact Below.refl _ _) | (with_reducible assumption) | (with_reducible refine Below.alloc ?_ ?_ _) | (with_reducible refine below_drewN ?_ _) | (with_reducible refine Below.drew ?_) | (with_reducible refine Below.setCell ?_ ?_ _) | (with_reducible refine Below.trans ?_ (Below.mono (by with_reducible assumption) ?_)) | go_size))
              have HM9 : Hid (MAt ((((w9.setCell ⟨rb, 0, none⟩ (.int .i64 ew)).setCell ⟨rb, 1, none⟩ (.bool et)).setCell ⟨rb, 2, none⟩ (.slice A2 us.length c2)).setCell ⟨rb, 5, none⟩ (.int .i64 m.s.mode)) (w1.heap.size + 1) mb (.slice A2 us.length c2) us hi m.s) := ((((HM8.out.stays hb89).aside (by omega) 0 _).aside (by omega) 1 _).aside (by omega) 2 _).aside (by omega) 5 _
              have HLk9 : Hid (Leaks ((((w9.setCell ⟨rb, 0, none⟩ (.int .i64 ew)).setCell ⟨rb, 1, none⟩ (.bool et)).setCell ⟨rb, 2, none⟩ (.slice A2 us.length c2)).setCell ⟨rb, 5, none⟩ (.int .i64 m.s.mode)) (rb + 1) (.slice A5 (lk.length + 1) c5) (lk ++ [(Ev.leak t i m.pc m.s (m.s.mode == 0))]) (ls ++ [.slice A4 (Ev.seen t i m.s.v (m.s.mode == 0)).length c4x])) := ((((HLk8.out.stays hb89).aside rb 0 _ (Nat.lt_succ_self _)).aside rb 1 _ (Nat.lt_succ_self _)).aside rb 2 _ (Nat.lt_succ_self _)).aside rb 5 _ (Nat.lt_succ_self _)
              have HB9 : Hid (Below w1.heap.size w1 ((((w9.setCell ⟨rb, 0, none⟩ (.int .i64 ew)).setCell ⟨rb, 1, none⟩ (.bool et)).setCell ⟨rb, 2, none⟩ (.slice A2 us.length c2)).setCell ⟨rb, 5, none⟩ (.int .i64 m.s.mode))) := ((((HB8.out.trans (hb89.mono (by omega))).setCell lo1 _).setCell lo1 _).setCell lo1 _).setCell lo1 _
              have hR9 := HR8.out.stays hb89
              have e0 := hR9.c0
              have e1 := hR9.c1
              have e2 := hR9.c2
              have e3 := hR9.c3
              have e4 := hR9.c4
              have e5 := hR9.c5
              have e6 := hR9.c6
              obtain ⟨f0, f1, f2, f3, f4, f5, f6⟩ := fiveBox e0 e1 e2 e3 e4 e5 e6 (.int .i64 ew) (.bool et) (.slice A2 us.length c2) (.int .i64 m.s.mode)
              clear e0 e1 e2 e3 e4 e5 e6 q09 q19 q29 q59 kc9 kf9 lr9
              generalize (((w9.setCell ⟨rb, 0, none⟩ (.int .i64 ew)).setCell ⟨rb, 1, none⟩ (.bool et)).setCell ⟨rb, 2, none⟩ (.slice A2 us.length c2)).setCell ⟨rb, 5, none⟩ (.int .i64 m.s.mode) = wE at *
              have hbm9 : w.heap.size + 1 + 1 + 1 < rb := by omega
              have hbw2 : Hid (Below w.heap.size w wE) := HBw1.out.trans (HB9.out.mono (by omega))
              obtain ⟨x0, x1, x2, x3, x4, x5, x6, lx⟩ := HX1.out
              replace x0 := (HB9.out.cell (p := ⟨w.heap.size + 1 + 1 + 1, 0, none⟩) (by show w.heap.size + 1 + 1 + 1 < w1.heap.size; omega)).trans x0
              replace x1 := (HB9.out.cell (p := ⟨w.heap.size + 1 + 1 + 1, 1, none⟩) (by show w.heap.size + 1 + 1 + 1 < w1.heap.size; omega)).trans x1
              replace x2 := (HB9.out.cell (p := ⟨w.heap.size + 1 + 1 + 1, 2, none⟩) (by show w.heap.size + 1 + 1 + 1 < w1.heap.size; omega)).trans x2
              replace x3 := (HB9.out.cell (p := ⟨w.heap.size + 1 + 1 + 1, 3, none⟩) (by show w.heap.size + 1 + 1 + 1 < w1.heap.size; omega)).trans x3
              replace x4 := (HB9.out.cell (p := ⟨w.heap.size + 1 + 1 + 1, 4, none⟩) (by show w.heap.size + 1 + 1 + 1 < w1.heap.size; omega)).trans x4
              replace x5 := (HB9.out.cell (p := ⟨w.heap.size + 1 + 1 + 1, 5, none⟩) (by show w.heap.size + 1 + 1 + 1 < w1.heap.size; omega)).trans x5
              replace x6 := (HB9.out.cell (p := ⟨w.heap.size + 1 + 1 + 1, 6, none⟩) (by show w.heap.size + 1 + 1 + 1 < w1.heap.size; omega)).trans x6
              replace lx := fun j => (HB9.out.frozen (p := ⟨w.heap.size + 1 + 1 + 1, j, none⟩) (by show w.heap.size + 1 + 1 + 1 < w1.heap.size; omega)).trans (lx j)
              clear q0 q1 q2 q5 lr8 mm2 n0 n1 n2 n3 n4 n5
              go_wp2_with fail
              obtain ⟨y0, y1, y2, y3, y4, y5, y6⟩ := ranBox x0 x1 x2 x3 x4 x5 x6 (.int .i64 ew) (.bool et) (.slice A2 us.length c2) (.int .i64 0) (.int .i64 ((m.st : Int) + 1)) (.int .i64 m.s.mode) (.slice A5 (lk.length + 1) c5)
              refine bodyPost_ret (v := .agg #[.int .i64 ew, .bool et, (.slice A2 us.length c2), .int .i64 0,   .int .i64 ((m.st : Int) + 1), .int .i64 m.s.mode, (.slice A5 (lk.length + 1) c5)]) (by simp [results, Try.results50, go_sem, y0, y1, y2, y3, y4, y5, y6]) rfl ?_
              refine ⟨_, rfl, ?_, by have e1 := hbw2.out; (repeat' (first | (with_reducible exact Below.refl _ _) | (with_reducible assumption) | (with_reducible refine Below.alloc ?_ ?_ _) | (with_reducible refine below_drewN ?_ _) | (with_reducible refine Below.drew ?_) | (with_reducible refine Below.setCell ?_ ?_ _) | (with_reducible refine Below.trans ?_ (Below.mono (by with_reducible assumption) ?_)) | go_size))⟩
              rw [HRR.out]
              refine ⟨_, _, ?_, (((((((HM9.out.arrs.aside2 (by omega)).aside2 (by omega)).aside2 (by omega)).aside2 (by omega)).aside2 (by omega)).aside2 (by omega)).aside2 (by omega)).reads, (((((((HLk9.out.aside _ _ _ (by omega)).aside _ _ _ (by omega)).aside _ _ _ (by omega)).aside _ _ _ (by omega)).aside _ _ _ (by omega)).aside _ _ _ (by omega)).aside _ _ _ (by omega)).reads⟩
              rw [HE1.out, HE2.out]
  · have HR := Lib.hid (HE.out hle)
    have hle' : (le != 0) = true := by simpa using hle
    clear hle
    go_wp2_with fail
    obtain ⟨y0, y1, y2, y3, y4, y5, y6⟩ := ranBox x0 x1 x2 x3 x4 x5 x6 (.int .i64 0) (.bool false) (.slice none 0 0) (.int .i64 le) (.int .i64 0) (.int .i64 0) (.slice none 0 0)
    refine bodyPost_ret (v := ranErrV le) (by simp [ranErrV, results, Try.results50, go_sem, y0, y1, y2, y3, y4, y5, y6]) rfl ?_
    exact ⟨_, rfl, by rw [HR.out]; exact RRan.err _ _, by have e1 := HBw1.out; (repeat' (first | (with_reducible exact Below.refl _ _) | (with_reducible assumption) | (with_reducible refine Below.alloc ?_ ?_ _) | (with_reducible refine below_drewN ?_ _) | (with_reducible refine Below.drew ?_) | (with_reducible refine Below.setCell ?_ ?_ _) | (with_reducible refine Below.trans ?_ (Below.mono (by with_reducible assumption) ?_)) | go_size))⟩
end Go.Proofs.Ytljcgcllhcdleaa
