import Derived.Test.YtljcgcllhcdleaaRunState
import Derived.Test.YtljcgcllhcdleaaTwoSame
import Derived.Test.YtljcgcllhcdleaaRunStep
import Derived.Test.YtljcgcllhcdleaaOwn
import Derived.Test.YtljcgcllhcdleaaOrder
import Derived.Test.YtljcgcllhcdleaaStore
import Derived.Laws.CopyOwn
import Derived.StillTailTactics
import Derived.Outline
/- flow.Run. -/
namespace Go.Proofs.Ytljcgcllhcdleaa
open Go.RowKit
set_option linter.unusedSimpArgs false
set_option linter.unusedVariables false
def RGiven (w : World) (B : Nat) (v : Value) (g : Ev.Given) : Prop := ∃ vw va, v = .agg #[vw, va] ∧ RInts w B vw g.words ∧ RLists w B va g.arrays
/-- may right instructions be given that? -/
structure Given (f : Ev.Flat) (g : Ev.Given) : Prop where
  words : (g.words.length : Int) = f.params
  arrays : g.arrays.length = f.arrays.length
  wword : ∀ x ∈ g.words, Ev.Wd x
  aword : ∀ a ∈ g.arrays, ∀ x ∈ a, Ev.Wd x
  small : ∀ a ∈ g.arrays, a.length ≤ 1073741824
  few : g.arrays.length ≤ 1073741824
  slots : f.secret.length ≤ 1073741824
theorem cell_three_new (w : World) (x y z : Value) (t : TypeId) : ∀ j u, [x, y, z][j]? = some u → (w.alloc (.cells #[x, y, z] t)).cell? ((⟨w.heap.size, 0, none⟩ : Addr).add j) = some u := by
  intro j u hj
  match j, hj with
  | 0, hj => simp at hj; subst hj; simp [Addr.add]
  | 1, hj => simp at hj; subst hj; simp [Addr.add]
  | 2, hj => simp at hj; subst hj; simp [Addr.add]
  | j + 3, hj => simp at hj
theorem one_three (a b : Int) {A : Option Addr} (n c : Nat) : ∀ u ∈ [Value.int .i64 a, .int .i64 b, .slice A n c], u.oneCell' = true := fun x hx => by
  simp at hx
  rcases hx with rfl | rfl | rfl <;> rfl
/-- below hi, and at block q, all is as it was -/
def RunS (hi q : Nat) (W w : World) : Prop := Below hi W w ∧ w.heap[q]? = W.heap[q]?
theorem RunS.alloc {hi q : Nat} {W w : World} (h : RunS hi q W w) (h1 : hi ≤ w.heap.size) (h2 : q < w.heap.size) (o : Obj) : RunS hi q W (w.alloc o) := ⟨h.1.alloc h1 o, (heap_alloc_old w o h2).trans h.2⟩
theorem int_size1 : (Try.prog.info? 3).map (·.size) = some 1 := by kernel_rfl
theorem Arrs.aside {w : World} {lo : Nat} {v : Value} {l : List (List Int)} {vs : List Value} (h : Arrs w lo v l vs) {q o : Nat} {c : Value} (hq : q < lo) : Arrs (w.setCell ⟨q, o, none⟩ c) lo v l vs :=
  ⟨ownsRow_setCell_below h.outer hq _, h.len, fun k u a hu ha => ownsRow_setCell_below (h.row k u a hu ha) hq _, h.apart, h.out⟩
/-- what holds ahead of each round -/
def RunI (f : Ev.Flat) (t : List Int) (g : Ev.Given) (base : World) (bv hi : Nat) (vx : Value) (us : List Value) (lv av : Value) (wr : World) : Prop :=
  ∃ (k : Nat) (s : Ev.St) (lk : List Ev.Leak) (ls : List Value) (n : Nat), k < f.code.length ∧ av = .int .i64 k ∧ f.code.length ≤ k + n ∧
      Hid (StateAt wr bv vx us hi s ∧ Ev.Fine f s ∧ Leaks wr hi lv lk ls ∧ (Ev.runFrom f.code t n k s).1 = (Ev.run f t g).1 ∧ lk ++ (Ev.runFrom f.code t n k s).2 = (Ev.run f t g).2) ∧ lk.length ≤ k ∧
      Below bv base wr ∧ hi ≤ wr.heap.size
set_option maxRecDepth 8000 in
set_option maxHeartbeats 3200000 in
theorem run_any (f : Ev.Flat) (t : List Int) (g : Ev.Given) (vf vg : Value) (w : World) (hf : RFlat w w.heap.size vf f) (hg : RGiven w w.heap.size vg g) (hl : t.length = 18) (ht : Ev.wrong t = 0) (hr : Ev.Right f) (hgv : Given f g) :
    Calls Try.prog 41 #[vf, tableV t, vg] w fun e w' => ∃ ve vl, e = .returned (.tuple #[ve, vl]) ∧ REnded w' ve (Ev.run f t g).1 ∧ RLeaks w' vl (Ev.run f t g).2 ∧ Below w.heap.size w w' := by
  obtain ⟨vc, vs, va, rfl, hc, hs, ha⟩ := hf
  obtain ⟨vw, vx, rfl, hw, hx⟩ := hg
  obtain ⟨As, cs, rfl, hs1, hs2⟩ := SL.form hs
  obtain ⟨Aw, cw, rfl, hw1, hw2⟩ := SL.form hw
  unfold maxLen at hs2 hw2
  have hsl := hgv.slots
  obtain ⟨Ac, cc, rfl, hc1, hc2⟩ := SL.form hc
  unfold maxLen at hc2
  have HC := Lib.hid hc
  have HW := Lib.hid hw
  have HX := Lib.hid hx
  have HG := Lib.hid hgv
  have HR := Lib.hid hr
  have HT := Lib.hid ht
  have HL := Lib.hid hl
  obtain ⟨i0, hi0, hz0, hz1, hz2⟩ := info_parts int_info
  obtain ⟨il, hi4, hi5, hi6, hi7⟩ := info_parts leak_info
  have IL := Lib.hid (⟨hi4, hi5, hi6, hi7⟩ : _ ∧ _ ∧ _ ∧ _)
  have HK2 := Lib.hid hr.len2
  have II := Lib.hid (⟨hi0, hz0, hz1, hz2⟩ : _ ∧ _ ∧ _ ∧ _)
  clear hc hs ha hw hx hgv hr ht hl hi0 hz0 hz1 hz2 hi4 hi5 hi6 hi7
  unfold tableV
  generalize hT : (t.map (Value.int .i64)).toArray = ta
  have HTA := Lib.hid hT
  clear hT
  go_enter Try.func41, Try.ntmps41
  go_wp2_with (first | (at_make; refine wpList_make_full _ rfl (.tmp 16) (.tmp 16) _ rfl (w.heap.size + 1 + 1 + 1 + 1) 3 i0 (.int .i64 0) 1 Try.underlying42 II.out.1 II.out.2.1 II.out.2.2.1 .i64 .i64 _ _ f.secret.length rfl rfl rfl rfl (by rw [II.out.2.2.2]; omega) (by unfold maxLen; omega) (by simp) ?_; intro w1 hown1 hg1; have B1 : Below (w.heap.size + 1 + 1 + 1 + 1) ((((w.alloc (.cells #[.slice Ac f.code.length cc, .slice As f.secret.length cs, .int .i64 f.params, va] 26)).alloc (.cells ta 29)).alloc (.cells #[.slice Aw g.words.length cw, vx] 45)).alloc (.cells #[.int .i64 0, .bool false, .slice none 0 0] 51)) w1 := (Below.refl _ _).grown hg1 (by simp) (by intro k hk; cases hk); obtain ⟨kc1, kf1, s1⟩ := bfacts B1; have F1 : Hid (w1.heap[w.heap.size + 1 + 1 + 1 + 1]? = some (.cells (List.replicate f.secret.length (Value.int .i64 0)).toArray 3 (0, 0))) := (by have h := (own_full hown1).1; simp only [World.size_alloc] at h; rw [Nat.mul_one, show (Value.int .i64 0).cells = #[.int .i64 0] from rfl, toList_madeCells_one] at h; exact h); have hwle : g.words.length ≤ f.secret.length := (by have h1 := HG.out.words; have h2 := HR.out.p1; omega); clear hown1 hg1) | ((with_reducible refine wpList_copy_splice (o := ⟨some 21, _, _, _, _, _⟩) rfl (.tmp 18) (.tmp 20) _ _ rfl 3 Try.underlying42 int_size1 _ _ _ _ _ _ rfl rfl (w.heap.size + 1 + 1 + 1 + 1) 0 _ _ F1.out (g.words.map (Value.int .i64)) ?c1 ?c2 ?c3 ?c4 (w.heap.size + 1 + 1 + 1 + 1) ((((w.alloc (.cells #[.slice Ac f.code.length cc, .slice As f.secret.length cs, .int .i64 f.params, va] 26)).alloc (.cells ta 29)).alloc (.cells #[.slice Aw g.words.length cw, vx] 45)).alloc (.cells #[.int .i64 0, .bool false, .slice none 0 0] 51)) B1 (Nat.le_refl _) ?_); rotate_left 4; intro w2 hg2 hb2; clear kc1 kf1; obtain ⟨kc2, kf2, s2⟩ := bfacts hb2))
  case c1 => simp only [List.length_map]; show _ = min _ _; rw [Nat.min_eq_left hwle]
  case c2 =>
    intro hpos
    obtain ⟨b, o, c, hv, hbw, _, _, hcell⟩ := SL.row HW.out hpos
    injection hv with hA _ hcr
    subst hA hcr
    refine ⟨_, rfl, fun j u hu => ?_⟩
    have h1 := hcell j (.int .i64 u) (by simp [hu])
    have hBw1 : Below w.heap.size w w1 := by (repeat' (first | (with_reducible exact Below.refl _ _) | (with_reducible assumption) | (with_reducible refine Below.alloc ?_ ?_ _) | (with_reducible refine below_drewN ?_ _) | (with_reducible refine Below.drew ?_) | (with_reducible refine Below.setCell ?_ ?_ _) | (with_reducible refine Below.trans ?_ (Below.mono (by with_reducible assumption) ?_)) | go_size))
    rw [show (⟨b, o, none⟩ : Addr).add j = ⟨b, o + j, none⟩ from by unfold Addr.add; split <;> simp_all]
    exact (hBw1.cell (p := ⟨b, o + j, none⟩) hbw).trans h1
  case c3 => simp; omega
  case c4 => exact ints_oneCell _ _
  have hB2 : Below w.heap.size w w2 := by (repeat' (first | (with_reducible exact Below.refl _ _) | (with_reducible assumption) | (with_reducible refine Below.alloc ?_ ?_ _) | (with_reducible refine below_drewN ?_ _) | (with_reducible refine Below.drew ?_) | (with_reducible refine Below.setCell ?_ ?_ _) | (with_reducible refine Below.trans ?_ (Below.mono (by with_reducible assumption) ?_)) | go_size))
  have hgl : w.heap.size + 1 + 1 + 1 + 1 < w2.heap.size := (Array.getElem?_eq_some_iff.1 hg2.out).1
  have BB2 := Lib.hid hb2
  clear hb2
  refine (arrays_any g.arrays vx _ (HX.out.at_ hB2 (Nat.le_refl _)) HG.out.few HG.out.small).mono ?_
  rintro e w3 ⟨vx', us, rfl, hA3, hb3⟩
  have HA3 := Lib.hid hA3
  clear hA3
  have HS : Hid (StateAt w3 (w.heap.size + 1 + 1 + 1 + 1) vx' us w3.heap.size (Ev.start f.secret.length g)) := by
    have hm : f.secret.length ≤ maxLen := by unfold maxLen; omega
    have hlen : (Ev.start f.secret.length g).v.length = f.secret.length := by unfold Ev.start; simp; omega
    have hsp : splice (List.replicate f.secret.length (Value.int .i64 0)) 0 (g.words.map (Value.int .i64)) = (Ev.start f.secret.length g).v.map (Value.int .i64) := by
      unfold splice Ev.start
      simp only [List.take_zero, List.nil_append, Nat.zero_add, List.length_map]
      rw [List.take_of_length_le (by simp; omega), List.map_append, List.map_replicate, List.drop_replicate]
    have h2 := hg2.out
    rw [hsp] at h2
    have ho : w2.ownsRow (w.heap.size + 1 + 1 + 1 + 1) 3 1 (.slice (some ⟨w.heap.size + 1 + 1 + 1 + 1, 0, none⟩) f.secret.length f.secret.length) f.secret.length ((Ev.start f.secret.length g).v.map (Value.int .i64)) :=
      own_of_full h2 (by rw [List.length_map, hlen]) (Nat.le_refl _) hm
    have := hb3.size
    refine ⟨?_, HA3.out.less hgl, by omega, fun b hb => (HA3.out.outer.lt b hb).2, HA3.out.his, Nat.le_refl _⟩
    rw [hlen]
    exact owns_below ho hb3
  clear HA3 hg2
  have hz3 := hb3.size
  have BB3 := Lib.hid (BB2.out.trans (hb3.mono (by omega)))
  clear BB2 hb3 hB2 kc2 kf2 s2
  go_wp2_with fail
  go_loopw [10, 11] (RunI f t g ((((w.alloc (.cells #[.slice Ac f.code.length cc, .slice As f.secret.length cs, .int .i64 f.params, va] 26)).alloc (.cells ta 29)).alloc (.cells #[.slice Aw g.words.length cw, vx] 45)).alloc (.cells #[.int .i64 0, .bool false, .slice none 0 0] 51)) (w.heap.size + 1 + 1 + 1 + 1) w3.heap.size vx' us) (fun _ av _ => f.code.length - (intOf av).toNat)
  case atStart =>
    have h1 := HR.out.len1
    exact ⟨0, Ev.start f.secret.length g, [], [], f.code.length, by omega, rfl, by omega, ⟨HS.out, Ev.start_fine hwle HG.out.wword HG.out.arrays HG.out.aword, Leaks.nil_ _ _, rfl, rfl⟩, by simp, BB3.out, Nat.le_refl _⟩
  case round =>
    obtain ⟨k, s, lk, ls, n, hk, rfl, hn, HI, hlk, hB, h3⟩ := hrel
    have hk2 : f.code.length ≤ 12000 := HK2.out
    have HB := Lib.hid hB
    have hsz := hB.size
    (try simp only [World.size_alloc, World.size_setCell, World.size_drew, World.heap_drewN] at hsz)
    have hBw : Below w.heap.size w wr := by (repeat' (first | (with_reducible exact Below.refl _ _) | (with_reducible assumption) | (with_reducible refine Below.alloc ?_ ?_ _) | (with_reducible refine below_drewN ?_ _) | (with_reducible refine Below.drew ?_) | (with_reducible refine Below.setCell ?_ ?_ _) | (with_reducible refine Below.trans ?_ (Below.mono (by with_reducible assumption) ?_)) | go_size))
    obtain ⟨kd, kg, sd⟩ := bfacts hBw
    obtain ⟨i, hi⟩ : ∃ i, f.code[k]? = some i := ⟨f.code[k], List.getElem?_eq_getElem hk⟩
    have HSd := Lib.hid (HR.out.sound hi)
    have HII := Lib.hid hi
    obtain ⟨bc, oc, cc', hv, hbc, _, _, _, c0, c1, c2, c3, c4, c5⟩ := RCode.at_ HC.out hi
    injection hv with hA _ hcr
    subst hA hcr
    have f0 : wr.cell? ⟨w.heap.size, 0, none⟩ = some (.slice (some ⟨bc, oc, none⟩) f.code.length cc) := (hB.cell (p := ⟨w.heap.size, 0, none⟩) (by go_size)).trans (by go_simp)
    clear hi hB
    have e0 := HB.out
    have HTb : Hid (TableAt wr (w.heap.size + 1) t) := ⟨HL.out, by omega, fun j hj => (HB.out.cell (p := ⟨w.heap.size + 1, j, none⟩) (by go_size)).trans (by
      have hx : ta[j]? = some (.int .i64 (t.getD j 0)) := by
        rw [← HTA.out, List.getElem?_toArray, List.getElem?_map, List.getD_eq_getElem?_getD, List.getElem?_eq_getElem (by have := HL.out; omega)]
        rfl
      clear kd kg c0 c1 c2 c3 c4 c5 f0
      go_simp)⟩
    have HSi : Hid (SeenIn i s.v.length (whichOf t i.op false)) := by
      rw [HI.out.2.1.len]
      exact seenIn_right HT.out HSd.out.op.1 (fun p hp => HSd.out.reads p hp)
    clear e0
    go_wp2_with fail
    have lvf := Lib.hid HI.out.2.2.1.row
    have HVr : Hid (RInts wr wr.heap.size (.slice (some ⟨w.heap.size + 1 + 1 + 1 + 1, 0, none⟩) f.secret.length f.secret.length) s.v) := by
      have h1 := SL.of_own HI.out.1.v
      have h2 := HI.out.2.1.len
      rw [h2] at h1
      show SL _ _ _ _ _ _
      rw [h2]
      exact h1
    have hq := HI.out.1.le
    refine wp_region_trail (fun w' => RunS w3.heap.size wr.heap.size (wr.alloc (.cells #[.int .i64 i.op, .int .i64 i.d, .int .i64 i.a, .int .i64 i.b, .int .i64 i.c, .int .i64 i.imm] 39)) w') [(0, true), (1, true), (2, true), (3, true), (4, true), (5, true), (6, false), (7, true), (8, false), (9, false), (10, true)] (by kernel_rfl) (by kernel_rfl) (by kernel_rfl) (by decide) (by refine ⟨by (repeat' (first | (with_reducible exact Below.refl _ _) | (with_reducible assumption) | (with_reducible refine Below.alloc ?_ ?_ _) | (with_reducible refine below_drewN ?_ _) | (with_reducible refine Below.drew ?_) | (with_reducible refine Below.setCell ?_ ?_ _) | (with_reducible refine Below.trans ?_ (Below.mono (by with_reducible assumption) ?_)) | go_size)), rfl⟩) ?_
    apply trail_light
    case hi => (simp only [List.getElem?_toArray, List.getElem?_cons_zero, List.getElem?_cons_succ]; exact rfl)
    case hl => first | exact light_no (by rfl) | (apply light_plain rfl; intro w9 hS9; skip; go_simp; try rfl) | (apply light_yes (by rfl); intro w9 hS9; skip; go_simp; try rfl)
    case hQ => exact fun _ _ _ h => h
    (try simp only [Act.put, List.setIfInBounds_toArray, List.set_cons_zero, List.set_cons_succ])
    apply trail_light
    case hi => (simp only [List.getElem?_toArray, List.getElem?_cons_zero, List.getElem?_cons_succ]; exact rfl)
    case hl => first | exact light_no (by rfl) | (apply light_plain rfl; intro w9 hS9; skip; go_simp; try rfl) | (apply light_yes (by rfl); intro w9 hS9; skip; go_simp; try rfl)
    case hQ => exact fun _ _ _ h => h
    (try simp only [Act.put, List.setIfInBounds_toArray, List.set_cons_zero, List.set_cons_succ])
    apply trail_light
    case hi => (simp only [List.getElem?_toArray, List.getElem?_cons_zero, List.getElem?_cons_succ]; exact rfl)
    case hl => first | exact light_no (by rfl) | (apply light_plain rfl; intro w9 hS9; have m0 : w9.cell? ⟨wr.heap.size, 0, none⟩ = some (.int .i64 i.op) := (by rw [World.cell?_of_block (w := wr.alloc (.cells #[.int .i64 i.op, .int .i64 i.d, .int .i64 i.a, .int .i64 i.b, .int .i64 i.c, .int .i64 i.imm] 39)) hS9.2]; go_simp); have m1 : w9.cell? ⟨wr.heap.size, 1, none⟩ = some (.int .i64 i.d) := (by rw [World.cell?_of_block (w := wr.alloc (.cells #[.int .i64 i.op, .int .i64 i.d, .int .i64 i.a, .int .i64 i.b, .int .i64 i.c, .int .i64 i.imm] 39)) hS9.2]; go_simp); have m2 : w9.cell? ⟨wr.heap.size, 2, none⟩ = some (.int .i64 i.a) := (by rw [World.cell?_of_block (w := wr.alloc (.cells #[.int .i64 i.op, .int .i64 i.d, .int .i64 i.a, .int .i64 i.b, .int .i64 i.c, .int .i64 i.imm] 39)) hS9.2]; go_simp); have m3 : w9.cell? ⟨wr.heap.size, 3, none⟩ = some (.int .i64 i.b) := (by rw [World.cell?_of_block (w := wr.alloc (.cells #[.int .i64 i.op, .int .i64 i.d, .int .i64 i.a, .int .i64 i.b, .int .i64 i.c, .int .i64 i.imm] 39)) hS9.2]; go_simp); have m4 : w9.cell? ⟨wr.heap.size, 4, none⟩ = some (.int .i64 i.c) := (by rw [World.cell?_of_block (w := wr.alloc (.cells #[.int .i64 i.op, .int .i64 i.d, .int .i64 i.a, .int .i64 i.b, .int .i64 i.c, .int .i64 i.imm] 39)) hS9.2]; go_simp); have m5 : w9.cell? ⟨wr.heap.size, 5, none⟩ = some (.int .i64 i.imm) := (by rw [World.cell?_of_block (w := wr.alloc (.cells #[.int .i64 i.op, .int .i64 i.d, .int .i64 i.a, .int .i64 i.b, .int .i64 i.c, .int .i64 i.imm] 39)) hS9.2]; go_simp); go_simp; try rfl) | (apply light_yes (by rfl); intro w9 hS9; have m0 : w9.cell? ⟨wr.heap.size, 0, none⟩ = some (.int .i64 i.op) := (by rw [World.cell?_of_block (w := wr.alloc (.cells #[.int .i64 i.op, .int .i64 i.d, .int .i64 i.a, .int .i64 i.b, .int .i64 i.c, .int .i64 i.imm] 39)) hS9.2]; go_simp); have m1 : w9.cell? ⟨wr.heap.size, 1, none⟩ = some (.int .i64 i.d) := (by rw [World.cell?_of_block (w := wr.alloc (.cells #[.int .i64 i.op, .int .i64 i.d, .int .i64 i.a, .int .i64 i.b, .int .i64 i.c, .int .i64 i.imm] 39)) hS9.2]; go_simp); have m2 : w9.cell? ⟨wr.heap.size, 2, none⟩ = some (.int .i64 i.a) := (by rw [World.cell?_of_block (w := wr.alloc (.cells #[.int .i64 i.op, .int .i64 i.d, .int .i64 i.a, .int .i64 i.b, .int .i64 i.c, .int .i64 i.imm] 39)) hS9.2]; go_simp); have m3 : w9.cell? ⟨wr.heap.size, 3, none⟩ = some (.int .i64 i.b) := (by rw [World.cell?_of_block (w := wr.alloc (.cells #[.int .i64 i.op, .int .i64 i.d, .int .i64 i.a, .int .i64 i.b, .int .i64 i.c, .int .i64 i.imm] 39)) hS9.2]; go_simp); have m4 : w9.cell? ⟨wr.heap.size, 4, none⟩ = some (.int .i64 i.c) := (by rw [World.cell?_of_block (w := wr.alloc (.cells #[.int .i64 i.op, .int .i64 i.d, .int .i64 i.a, .int .i64 i.b, .int .i64 i.c, .int .i64 i.imm] 39)) hS9.2]; go_simp); have m5 : w9.cell? ⟨wr.heap.size, 5, none⟩ = some (.int .i64 i.imm) := (by rw [World.cell?_of_block (w := wr.alloc (.cells #[.int .i64 i.op, .int .i64 i.d, .int .i64 i.a, .int .i64 i.b, .int .i64 i.c, .int .i64 i.imm] 39)) hS9.2]; go_simp); go_simp; try rfl)
    case hQ => exact fun _ _ _ h => h
    (try simp only [Act.put, List.setIfInBounds_toArray, List.set_cons_zero, List.set_cons_succ])
    apply trail_light
    case hi => (simp only [List.getElem?_toArray, List.getElem?_cons_zero, List.getElem?_cons_succ]; exact rfl)
    case hl => first | exact light_no (by rfl) | (apply light_plain rfl; intro w9 hS9; have m0 : w9.cell? ⟨wr.heap.size, 0, none⟩ = some (.int .i64 i.op) := (by rw [World.cell?_of_block (w := wr.alloc (.cells #[.int .i64 i.op, .int .i64 i.d, .int .i64 i.a, .int .i64 i.b, .int .i64 i.c, .int .i64 i.imm] 39)) hS9.2]; go_simp); have m1 : w9.cell? ⟨wr.heap.size, 1, none⟩ = some (.int .i64 i.d) := (by rw [World.cell?_of_block (w := wr.alloc (.cells #[.int .i64 i.op, .int .i64 i.d, .int .i64 i.a, .int .i64 i.b, .int .i64 i.c, .int .i64 i.imm] 39)) hS9.2]; go_simp); have m2 : w9.cell? ⟨wr.heap.size, 2, none⟩ = some (.int .i64 i.a) := (by rw [World.cell?_of_block (w := wr.alloc (.cells #[.int .i64 i.op, .int .i64 i.d, .int .i64 i.a, .int .i64 i.b, .int .i64 i.c, .int .i64 i.imm] 39)) hS9.2]; go_simp); have m3 : w9.cell? ⟨wr.heap.size, 3, none⟩ = some (.int .i64 i.b) := (by rw [World.cell?_of_block (w := wr.alloc (.cells #[.int .i64 i.op, .int .i64 i.d, .int .i64 i.a, .int .i64 i.b, .int .i64 i.c, .int .i64 i.imm] 39)) hS9.2]; go_simp); have m4 : w9.cell? ⟨wr.heap.size, 4, none⟩ = some (.int .i64 i.c) := (by rw [World.cell?_of_block (w := wr.alloc (.cells #[.int .i64 i.op, .int .i64 i.d, .int .i64 i.a, .int .i64 i.b, .int .i64 i.c, .int .i64 i.imm] 39)) hS9.2]; go_simp); have m5 : w9.cell? ⟨wr.heap.size, 5, none⟩ = some (.int .i64 i.imm) := (by rw [World.cell?_of_block (w := wr.alloc (.cells #[.int .i64 i.op, .int .i64 i.d, .int .i64 i.a, .int .i64 i.b, .int .i64 i.c, .int .i64 i.imm] 39)) hS9.2]; go_simp); go_simp; try rfl) | (apply light_yes (by rfl); intro w9 hS9; have m0 : w9.cell? ⟨wr.heap.size, 0, none⟩ = some (.int .i64 i.op) := (by rw [World.cell?_of_block (w := wr.alloc (.cells #[.int .i64 i.op, .int .i64 i.d, .int .i64 i.a, .int .i64 i.b, .int .i64 i.c, .int .i64 i.imm] 39)) hS9.2]; go_simp); have m1 : w9.cell? ⟨wr.heap.size, 1, none⟩ = some (.int .i64 i.d) := (by rw [World.cell?_of_block (w := wr.alloc (.cells #[.int .i64 i.op, .int .i64 i.d, .int .i64 i.a, .int .i64 i.b, .int .i64 i.c, .int .i64 i.imm] 39)) hS9.2]; go_simp); have m2 : w9.cell? ⟨wr.heap.size, 2, none⟩ = some (.int .i64 i.a) := (by rw [World.cell?_of_block (w := wr.alloc (.cells #[.int .i64 i.op, .int .i64 i.d, .int .i64 i.a, .int .i64 i.b, .int .i64 i.c, .int .i64 i.imm] 39)) hS9.2]; go_simp); have m3 : w9.cell? ⟨wr.heap.size, 3, none⟩ = some (.int .i64 i.b) := (by rw [World.cell?_of_block (w := wr.alloc (.cells #[.int .i64 i.op, .int .i64 i.d, .int .i64 i.a, .int .i64 i.b, .int .i64 i.c, .int .i64 i.imm] 39)) hS9.2]; go_simp); have m4 : w9.cell? ⟨wr.heap.size, 4, none⟩ = some (.int .i64 i.c) := (by rw [World.cell?_of_block (w := wr.alloc (.cells #[.int .i64 i.op, .int .i64 i.d, .int .i64 i.a, .int .i64 i.b, .int .i64 i.c, .int .i64 i.imm] 39)) hS9.2]; go_simp); have m5 : w9.cell? ⟨wr.heap.size, 5, none⟩ = some (.int .i64 i.imm) := (by rw [World.cell?_of_block (w := wr.alloc (.cells #[.int .i64 i.op, .int .i64 i.d, .int .i64 i.a, .int .i64 i.b, .int .i64 i.c, .int .i64 i.imm] 39)) hS9.2]; go_simp); go_simp; try rfl)
    case hQ => exact fun _ _ _ h => h
    (try simp only [Act.put, List.setIfInBounds_toArray, List.set_cons_zero, List.set_cons_succ])
    apply trail_light
    case hi => (simp only [List.getElem?_toArray, List.getElem?_cons_zero, List.getElem?_cons_succ]; exact rfl)
    case hl => first | exact light_no (by rfl) | (apply light_plain rfl; intro w9 hS9; have m0 : w9.cell? ⟨wr.heap.size, 0, none⟩ = some (.int .i64 i.op) := (by rw [World.cell?_of_block (w := wr.alloc (.cells #[.int .i64 i.op, .int .i64 i.d, .int .i64 i.a, .int .i64 i.b, .int .i64 i.c, .int .i64 i.imm] 39)) hS9.2]; go_simp); have m1 : w9.cell? ⟨wr.heap.size, 1, none⟩ = some (.int .i64 i.d) := (by rw [World.cell?_of_block (w := wr.alloc (.cells #[.int .i64 i.op, .int .i64 i.d, .int .i64 i.a, .int .i64 i.b, .int .i64 i.c, .int .i64 i.imm] 39)) hS9.2]; go_simp); have m2 : w9.cell? ⟨wr.heap.size, 2, none⟩ = some (.int .i64 i.a) := (by rw [World.cell?_of_block (w := wr.alloc (.cells #[.int .i64 i.op, .int .i64 i.d, .int .i64 i.a, .int .i64 i.b, .int .i64 i.c, .int .i64 i.imm] 39)) hS9.2]; go_simp); have m3 : w9.cell? ⟨wr.heap.size, 3, none⟩ = some (.int .i64 i.b) := (by rw [World.cell?_of_block (w := wr.alloc (.cells #[.int .i64 i.op, .int .i64 i.d, .int .i64 i.a, .int .i64 i.b, .int .i64 i.c, .int .i64 i.imm] 39)) hS9.2]; go_simp); have m4 : w9.cell? ⟨wr.heap.size, 4, none⟩ = some (.int .i64 i.c) := (by rw [World.cell?_of_block (w := wr.alloc (.cells #[.int .i64 i.op, .int .i64 i.d, .int .i64 i.a, .int .i64 i.b, .int .i64 i.c, .int .i64 i.imm] 39)) hS9.2]; go_simp); have m5 : w9.cell? ⟨wr.heap.size, 5, none⟩ = some (.int .i64 i.imm) := (by rw [World.cell?_of_block (w := wr.alloc (.cells #[.int .i64 i.op, .int .i64 i.d, .int .i64 i.a, .int .i64 i.b, .int .i64 i.c, .int .i64 i.imm] 39)) hS9.2]; go_simp); go_simp; try rfl) | (apply light_yes (by rfl); intro w9 hS9; have m0 : w9.cell? ⟨wr.heap.size, 0, none⟩ = some (.int .i64 i.op) := (by rw [World.cell?_of_block (w := wr.alloc (.cells #[.int .i64 i.op, .int .i64 i.d, .int .i64 i.a, .int .i64 i.b, .int .i64 i.c, .int .i64 i.imm] 39)) hS9.2]; go_simp); have m1 : w9.cell? ⟨wr.heap.size, 1, none⟩ = some (.int .i64 i.d) := (by rw [World.cell?_of_block (w := wr.alloc (.cells #[.int .i64 i.op, .int .i64 i.d, .int .i64 i.a, .int .i64 i.b, .int .i64 i.c, .int .i64 i.imm] 39)) hS9.2]; go_simp); have m2 : w9.cell? ⟨wr.heap.size, 2, none⟩ = some (.int .i64 i.a) := (by rw [World.cell?_of_block (w := wr.alloc (.cells #[.int .i64 i.op, .int .i64 i.d, .int .i64 i.a, .int .i64 i.b, .int .i64 i.c, .int .i64 i.imm] 39)) hS9.2]; go_simp); have m3 : w9.cell? ⟨wr.heap.size, 3, none⟩ = some (.int .i64 i.b) := (by rw [World.cell?_of_block (w := wr.alloc (.cells #[.int .i64 i.op, .int .i64 i.d, .int .i64 i.a, .int .i64 i.b, .int .i64 i.c, .int .i64 i.imm] 39)) hS9.2]; go_simp); have m4 : w9.cell? ⟨wr.heap.size, 4, none⟩ = some (.int .i64 i.c) := (by rw [World.cell?_of_block (w := wr.alloc (.cells #[.int .i64 i.op, .int .i64 i.d, .int .i64 i.a, .int .i64 i.b, .int .i64 i.c, .int .i64 i.imm] 39)) hS9.2]; go_simp); have m5 : w9.cell? ⟨wr.heap.size, 5, none⟩ = some (.int .i64 i.imm) := (by rw [World.cell?_of_block (w := wr.alloc (.cells #[.int .i64 i.op, .int .i64 i.d, .int .i64 i.a, .int .i64 i.b, .int .i64 i.c, .int .i64 i.imm] 39)) hS9.2]; go_simp); go_simp; try rfl)
    case hQ => exact fun _ _ _ h => h
    (try simp only [Act.put, List.setIfInBounds_toArray, List.set_cons_zero, List.set_cons_succ])
    apply trail_light
    case hi => (simp only [List.getElem?_toArray, List.getElem?_cons_zero, List.getElem?_cons_succ]; exact rfl)
    case hl => first | exact light_no (by rfl) | (apply light_plain rfl; intro w9 hS9; skip; go_simp; try rfl) | (apply light_yes (by rfl); intro w9 hS9; skip; go_simp; try rfl)
    case hQ => exact fun _ _ _ h => h
    (try simp only [Act.put, List.setIfInBounds_toArray, List.set_cons_zero, List.set_cons_succ])
    apply trail_heavy
    case hi => (simp only [List.getElem?_toArray, List.getElem?_cons_zero, List.getElem?_cons_succ]; exact rfl)
    go_wp2_with (first | (go_at_call 70; refine (seen_any t i s.v false (w.heap.size + 1) _ _ (HTb.out.stays (by (repeat' (first | (with_reducible exact Below.refl _ _) | (with_reducible assumption) | (with_reducible refine Below.alloc ?_ ?_ _) | (with_reducible refine below_drewN ?_ _) | (with_reducible refine Below.drew ?_) | (with_reducible refine Below.setCell ?_ ?_ _) | (with_reducible refine Below.trans ?_ (Below.mono (by with_reducible assumption) ?_)) | go_size)))) (SL.at_ HVr.out (by (repeat' (first | (with_reducible exact Below.refl _ _) | (with_reducible assumption) | (with_reducible refine Below.alloc ?_ ?_ _) | (with_reducible refine below_drewN ?_ _) | (with_reducible refine Below.drew ?_) | (with_reducible refine Below.setCell ?_ ?_ _) | (with_reducible refine Below.trans ?_ (Below.mono (by with_reducible assumption) ?_)) | go_size))) (Nat.le_refl _)) HSd.out.op.1 HSi.out).mono ?_; rintro e w4 ⟨v4, rfl, hR4, hF4, hH4, hb4⟩; obtain ⟨A4, c4', hv4, _, _⟩ := SL.form hR4; subst hv4; have hw4 : Below wr.heap.size wr w4 := (by (repeat' (first | (with_reducible exact Below.refl _ _) | (with_reducible assumption) | (with_reducible refine Below.alloc ?_ ?_ _) | (with_reducible refine below_drewN ?_ _) | (with_reducible refine Below.drew ?_) | (with_reducible refine Below.setCell ?_ ?_ _) | (with_reducible refine Below.trans ?_ (Below.mono (by with_reducible assumption) ?_)) | go_size))); have hq4 : wr.heap.size < w4.heap.size := (by have := hb4.size; simp at this; omega); have hS4 : RunS w3.heap.size wr.heap.size (wr.alloc (.cells #[.int .i64 i.op, .int .i64 i.d, .int .i64 i.a, .int .i64 i.b, .int .i64 i.c, .int .i64 i.imm] 39)) w4 := ⟨((Below.refl w3.heap.size (wr.alloc (.cells #[.int .i64 i.op, .int .i64 i.d, .int .i64 i.a, .int .i64 i.b, .int .i64 i.c, .int .i64 i.imm] 39))).drew).trans (hb4.mono (by simp; omega)), (hb4.block wr.heap.size (by simp)).trans rfl⟩; have HR4 := Lib.hid hR4; clear hR4) | (at_builtin; go_loud (refine wpList_append_own_at _ rfl (.tmp 30) (.tmp 38) _ rfl w3.heap.size 72 il (.agg #[.int .i64 0, .int .i64 0, .slice none 0 0]) 3 40 Try.underlying52 IL.out.1 IL.out.2.1 IL.out.2.2.1 IL.out.2.2.2 rfl (by decide) _ _ _ rfl ((owns_below lvf.out hw4).alloc _) ⟨w4.heap.size, 0, none⟩ 1 1 [.int .i64 k, .int .i64 i.op, .slice A4 (Ev.seen t i s.v false).length c4'] rfl rfl (cell_three_new _ _ _ _ _) (one_three _ _ _ _) (by unfold maxLen; omega) (by omega) (by simp; omega) ?_); intro v5 w5 hown5 hg5 hn5 hat5; have hS5 : RunS w3.heap.size wr.heap.size (wr.alloc (.cells #[.int .i64 i.op, .int .i64 i.d, .int .i64 i.a, .int .i64 i.b, .int .i64 i.c, .int .i64 i.imm] 39)) w5 := ⟨(hS4.1.alloc (by omega) _).grown hg5 (by simp; omega) (fun q hq => (lvf.out.lt q hq).1), (hg5.block wr.heap.size (by simp; omega) (fun e => by have := (lvf.out.lt _ e.symm).2; omega)).trans ((heap_alloc_old w4 _ hq4).trans hS4.2)⟩) | fail)
    refine ⟨by first | exact hS5 | exact hS4 | exact hS4.alloc (by omega) hq4 _, ?_⟩
    apply trail_light
    case hi => (simp only [List.getElem?_toArray, List.getElem?_cons_zero, List.getElem?_cons_succ]; exact rfl)
    case hl => first | exact light_no (by rfl) | (apply light_plain rfl; intro w9 hS9; skip; go_simp; try rfl) | (apply light_yes (by rfl); intro w9 hS9; skip; go_simp; try rfl)
    case hQ => exact fun _ _ _ h => h
    (try simp only [Act.put, List.setIfInBounds_toArray, List.set_cons_zero, List.set_cons_succ])
    apply trail_heavy
    case hi => (simp only [List.getElem?_toArray, List.getElem?_cons_zero, List.getElem?_cons_succ]; exact rfl)
    go_wp2_with (first | (go_at_call 70; refine (seen_any t i s.v false (w.heap.size + 1) _ _ (HTb.out.stays (by (repeat' (first | (with_reducible exact Below.refl _ _) | (with_reducible assumption) | (with_reducible refine Below.alloc ?_ ?_ _) | (with_reducible refine below_drewN ?_ _) | (with_reducible refine Below.drew ?_) | (with_reducible refine Below.setCell ?_ ?_ _) | (with_reducible refine Below.trans ?_ (Below.mono (by with_reducible assumption) ?_)) | go_size)))) (SL.at_ HVr.out (by (repeat' (first | (with_reducible exact Below.refl _ _) | (with_reducible assumption) | (with_reducible refine Below.alloc ?_ ?_ _) | (with_reducible refine below_drewN ?_ _) | (with_reducible refine Below.drew ?_) | (with_reducible refine Below.setCell ?_ ?_ _) | (with_reducible refine Below.trans ?_ (Below.mono (by with_reducible assumption) ?_)) | go_size))) (Nat.le_refl _)) HSd.out.op.1 HSi.out).mono ?_; rintro e w4 ⟨v4, rfl, hR4, hF4, hH4, hb4⟩; obtain ⟨A4, c4', hv4, _, _⟩ := SL.form hR4; subst hv4; have hw4 : Below wr.heap.size wr w4 := (by (repeat' (first | (with_reducible exact Below.refl _ _) | (with_reducible assumption) | (with_reducible refine Below.alloc ?_ ?_ _) | (with_reducible refine below_drewN ?_ _) | (with_reducible refine Below.drew ?_) | (with_reducible refine Below.setCell ?_ ?_ _) | (with_reducible refine Below.trans ?_ (Below.mono (by with_reducible assumption) ?_)) | go_size))); have hq4 : wr.heap.size < w4.heap.size := (by have := hb4.size; simp at this; omega); have hS4 : RunS w3.heap.size wr.heap.size (wr.alloc (.cells #[.int .i64 i.op, .int .i64 i.d, .int .i64 i.a, .int .i64 i.b, .int .i64 i.c, .int .i64 i.imm] 39)) w4 := ⟨((Below.refl w3.heap.size (wr.alloc (.cells #[.int .i64 i.op, .int .i64 i.d, .int .i64 i.a, .int .i64 i.b, .int .i64 i.c, .int .i64 i.imm] 39))).drew).trans (hb4.mono (by simp; omega)), (hb4.block wr.heap.size (by simp)).trans rfl⟩; have HR4 := Lib.hid hR4; clear hR4) | (at_builtin; go_loud (refine wpList_append_own_at _ rfl (.tmp 30) (.tmp 38) _ rfl w3.heap.size 72 il (.agg #[.int .i64 0, .int .i64 0, .slice none 0 0]) 3 40 Try.underlying52 IL.out.1 IL.out.2.1 IL.out.2.2.1 IL.out.2.2.2 rfl (by decide) _ _ _ rfl ((owns_below lvf.out hw4).alloc _) ⟨w4.heap.size, 0, none⟩ 1 1 [.int .i64 k, .int .i64 i.op, .slice A4 (Ev.seen t i s.v false).length c4'] rfl rfl (cell_three_new _ _ _ _ _) (one_three _ _ _ _) (by unfold maxLen; omega) (by omega) (by simp; omega) ?_); intro v5 w5 hown5 hg5 hn5 hat5; have hS5 : RunS w3.heap.size wr.heap.size (wr.alloc (.cells #[.int .i64 i.op, .int .i64 i.d, .int .i64 i.a, .int .i64 i.b, .int .i64 i.c, .int .i64 i.imm] 39)) w5 := ⟨(hS4.1.alloc (by omega) _).grown hg5 (by simp; omega) (fun q hq => (lvf.out.lt q hq).1), (hg5.block wr.heap.size (by simp; omega) (fun e => by have := (lvf.out.lt _ e.symm).2; omega)).trans ((heap_alloc_old w4 _ hq4).trans hS4.2)⟩) | fail)
    refine ⟨by first | exact hS5 | exact hS4 | exact hS4.alloc (by omega) hq4 _, ?_⟩
    apply trail_heavy
    case hi => (simp only [List.getElem?_toArray, List.getElem?_cons_zero, List.getElem?_cons_succ]; exact rfl)
    go_wp2_with (first | (go_at_call 70; refine (seen_any t i s.v false (w.heap.size + 1) _ _ (HTb.out.stays (by (repeat' (first | (with_reducible exact Below.refl _ _) | (with_reducible assumption) | (with_reducible refine Below.alloc ?_ ?_ _) | (with_reducible refine below_drewN ?_ _) | (with_reducible refine Below.drew ?_) | (with_reducible refine Below.setCell ?_ ?_ _) | (with_reducible refine Below.trans ?_ (Below.mono (by with_reducible assumption) ?_)) | go_size)))) (SL.at_ HVr.out (by (repeat' (first | (with_reducible exact Below.refl _ _) | (with_reducible assumption) | (with_reducible refine Below.alloc ?_ ?_ _) | (with_reducible refine below_drewN ?_ _) | (with_reducible refine Below.drew ?_) | (with_reducible refine Below.setCell ?_ ?_ _) | (with_reducible refine Below.trans ?_ (Below.mono (by with_reducible assumption) ?_)) | go_size))) (Nat.le_refl _)) HSd.out.op.1 HSi.out).mono ?_; rintro e w4 ⟨v4, rfl, hR4, hF4, hH4, hb4⟩; obtain ⟨A4, c4', hv4, _, _⟩ := SL.form hR4; subst hv4; have hw4 : Below wr.heap.size wr w4 := (by (repeat' (first | (with_reducible exact Below.refl _ _) | (with_reducible assumption) | (with_reducible refine Below.alloc ?_ ?_ _) | (with_reducible refine below_drewN ?_ _) | (with_reducible refine Below.drew ?_) | (with_reducible refine Below.setCell ?_ ?_ _) | (with_reducible refine Below.trans ?_ (Below.mono (by with_reducible assumption) ?_)) | go_size))); have hq4 : wr.heap.size < w4.heap.size := (by have := hb4.size; simp at this; omega); have hS4 : RunS w3.heap.size wr.heap.size (wr.alloc (.cells #[.int .i64 i.op, .int .i64 i.d, .int .i64 i.a, .int .i64 i.b, .int .i64 i.c, .int .i64 i.imm] 39)) w4 := ⟨((Below.refl w3.heap.size (wr.alloc (.cells #[.int .i64 i.op, .int .i64 i.d, .int .i64 i.a, .int .i64 i.b, .int .i64 i.c, .int .i64 i.imm] 39))).drew).trans (hb4.mono (by simp; omega)), (hb4.block wr.heap.size (by simp)).trans rfl⟩; have HR4 := Lib.hid hR4; clear hR4) | (at_builtin; go_loud (refine wpList_append_own_at _ rfl (.tmp 30) (.tmp 38) _ rfl w3.heap.size 72 il (.agg #[.int .i64 0, .int .i64 0, .slice none 0 0]) 3 40 Try.underlying52 IL.out.1 IL.out.2.1 IL.out.2.2.1 IL.out.2.2.2 rfl (by decide) _ _ _ rfl ((owns_below lvf.out hw4).alloc _) ⟨w4.heap.size, 0, none⟩ 1 1 [.int .i64 k, .int .i64 i.op, .slice A4 (Ev.seen t i s.v false).length c4'] rfl rfl (cell_three_new _ _ _ _ _) (one_three _ _ _ _) (by unfold maxLen; omega) (by omega) (by simp; omega) ?_); intro v5 w5 hown5 hg5 hn5 hat5; have hS5 : RunS w3.heap.size wr.heap.size (wr.alloc (.cells #[.int .i64 i.op, .int .i64 i.d, .int .i64 i.a, .int .i64 i.b, .int .i64 i.c, .int .i64 i.imm] 39)) w5 := ⟨(hS4.1.alloc (by omega) _).grown hg5 (by simp; omega) (fun q hq => (lvf.out.lt q hq).1), (hg5.block wr.heap.size (by simp; omega) (fun e => by have := (lvf.out.lt _ e.symm).2; omega)).trans ((heap_alloc_old w4 _ hq4).trans hS4.2)⟩) | fail)
    refine ⟨by first | exact hS5 | exact hS4 | exact hS4.alloc (by omega) hq4 _, ?_⟩
    apply trail_light
    case hi => (simp only [List.getElem?_toArray, List.getElem?_cons_zero, List.getElem?_cons_succ]; exact rfl)
    case hl => first | exact light_no (by rfl) | (apply light_plain rfl; intro w9 hS9; skip; go_simp; try rfl) | (apply light_yes (by rfl); intro w9 hS9; skip; go_simp; try rfl)
    case hQ => exact fun _ _ _ h => h
    (try simp only [Act.put, List.setIfInBounds_toArray, List.set_cons_zero, List.set_cons_succ])
    refine trail_nil ?_
    (try dsimp only)
    -- what the world is behind the first part of the round
    obtain ⟨m, rfl⟩ : ∃ m, n = m + 1 := ⟨n - 1, by omega⟩
    have hw4' : Below wr.heap.size wr (w4.alloc (.cells #[.int .i64 k, .int .i64 i.op, .slice A4 (Ev.seen t i s.v false).length c4'] 72)) := hw4.alloc (by omega) _
    have HLk : Hid (Leaks w5 w3.heap.size v5 (lk ++ [Ev.leak t i k s false]) (ls ++ [.slice A4 (Ev.seen t i s.v false).length c4'])) :=
      HI.out.2.2.1.push hq hw4' (x := Ev.leak t i k s false) (SL.at_ HR4.out (by (repeat' (first | (with_reducible exact Below.refl _ _) | (with_reducible assumption) | (with_reducible refine Below.alloc ?_ ?_ _) | (with_reducible refine below_drewN ?_ _) | (with_reducible refine Below.drew ?_) | (with_reducible refine Below.setCell ?_ ?_ _) | (with_reducible refine Below.trans ?_ (Below.mono (by with_reducible assumption) ?_)) | go_size))) (Nat.le_refl _)) (hF4.less (by simp)) (fun b hb => Nat.lt_of_lt_of_le (hH4 b hb) (by simp)) hg5 hown5 (hat5.imp id fun e => ⟨_, e, Nat.le_refl _⟩)
    have HSt : Hid (StateAt w5 (w.heap.size + 1 + 1 + 1 + 1) vx' us w3.heap.size s) := (HI.out.1.stays hw4').grown hg5 (fun q hq' => (lvf.out.lt q hq').1)
    have HFn := Lib.hid HI.out.2.1
    have HON := Lib.hid (fun s' k' h => Ev.round_on (t := t) (n := m) (k' := k') (s' := s') (R := Ev.run f t g) (lk := lk) HR.out HII.out HI.out.2.1 HI.out.2.2.2.1 HI.out.2.2.2.2 h)
    have HEN := Lib.hid (fun h => Ev.round_end (t := t) (n := m) (R := Ev.run f t g) (lk := lk) HII.out HI.out.2.2.2.1 HI.out.2.2.2.2 h)
    have q5 : wr.heap.size < w5.heap.size := by have := hg5.size; simp at this; omega
    have hWr : Below wr.heap.size wr (wr.alloc (.cells #[.int .i64 i.op, .int .i64 i.d, .int .i64 i.a, .int .i64 i.b, .int .i64 i.c, .int .i64 i.imm] 39)) := (Below.refl _ _).alloc (Nat.le_refl _) _
    have hBV := HSt.out.hiv
    have HB5 : Hid (Below (w.heap.size + 1 + 1 + 1 + 1) ((((w.alloc (.cells #[.slice (some ⟨bc, oc, none⟩) f.code.length cc, .slice As f.secret.length cs, .int .i64 f.params, va] 26)).alloc (.cells ta 29)).alloc (.cells #[.slice Aw g.words.length cw, vx] 45)).alloc (.cells #[.int .i64 0, .bool false, .slice none 0 0] 51)) w5) := (HB.out.trans (hWr.mono (by omega))).trans (hS5.1.mono (by omega))
    have ib0 : w5.cell? ⟨wr.heap.size, 0, none⟩ = some (.int .i64 i.op) := by rw [World.cell?_of_block (w := wr.alloc (.cells #[.int .i64 i.op, .int .i64 i.d, .int .i64 i.a, .int .i64 i.b, .int .i64 i.c, .int .i64 i.imm] 39)) hS5.2]; go_simp
    have ib1 : w5.cell? ⟨wr.heap.size, 1, none⟩ = some (.int .i64 i.d) := by rw [World.cell?_of_block (w := wr.alloc (.cells #[.int .i64 i.op, .int .i64 i.d, .int .i64 i.a, .int .i64 i.b, .int .i64 i.c, .int .i64 i.imm] 39)) hS5.2]; go_simp
    have ib2 : w5.cell? ⟨wr.heap.size, 2, none⟩ = some (.int .i64 i.a) := by rw [World.cell?_of_block (w := wr.alloc (.cells #[.int .i64 i.op, .int .i64 i.d, .int .i64 i.a, .int .i64 i.b, .int .i64 i.c, .int .i64 i.imm] 39)) hS5.2]; go_simp
    have ib3 : w5.cell? ⟨wr.heap.size, 3, none⟩ = some (.int .i64 i.b) := by rw [World.cell?_of_block (w := wr.alloc (.cells #[.int .i64 i.op, .int .i64 i.d, .int .i64 i.a, .int .i64 i.b, .int .i64 i.c, .int .i64 i.imm] 39)) hS5.2]; go_simp
    have ib4 : w5.cell? ⟨wr.heap.size, 4, none⟩ = some (.int .i64 i.c) := by rw [World.cell?_of_block (w := wr.alloc (.cells #[.int .i64 i.op, .int .i64 i.d, .int .i64 i.a, .int .i64 i.b, .int .i64 i.c, .int .i64 i.imm] 39)) hS5.2]; go_simp
    have ib5 : w5.cell? ⟨wr.heap.size, 5, none⟩ = some (.int .i64 i.imm) := by rw [World.cell?_of_block (w := wr.alloc (.cells #[.int .i64 i.op, .int .i64 i.d, .int .i64 i.a, .int .i64 i.b, .int .i64 i.c, .int .i64 i.imm] 39)) hS5.2]; go_simp
    have hne : wr.heap.size ≠ w.heap.size + 1 + 1 + 1 + 1 := by omega
    have hsl2 : s.v.length = f.secret.length := HFn.out.len
    have HSL := Lib.hid hsl2
    clear hsl2 hS4 hS5 hw4 hw4' hb4 hF4 hH4 HR4 hown5 hg5 hn5 hat5 hWr kd kg sd c0 c1 c2 c3 c4 c5 f0 HTb HSi HVr lvf hBw HI HB
    have HFIN : Hid (∀ (wz : World) (s' : Ev.St) (k' : Nat) (av : Value), av = .int .i64 (k' : Int) → StateAt wz (w.heap.size + 1 + 1 + 1 + 1) vx' us w3.heap.size s' → Leaks wz w3.heap.size v5 (lk ++ [Ev.leak t i k s false]) (ls ++ [.slice A4 (Ev.seen t i s.v false).length c4']) → Below (w.heap.size + 1 + 1 + 1 + 1) ((((w.alloc (.cells #[.slice (some ⟨bc, oc, none⟩) f.code.length cc, .slice As f.secret.length cs, .int .i64 f.params, va] 26)).alloc (.cells ta 29)).alloc (.cells #[.slice Aw g.words.length cw, vx] 45)).alloc (.cells #[.int .i64 0, .bool false, .slice none 0 0] 51)) wz → w3.heap.size ≤ wz.heap.size → Ev.step i k s = (s', some k') →
        RunI f t g ((((w.alloc (.cells #[.slice (some ⟨bc, oc, none⟩) f.code.length cc, .slice As f.secret.length cs, .int .i64 f.params, va] 26)).alloc (.cells ta 29)).alloc (.cells #[.slice Aw g.words.length cw, vx] 45)).alloc (.cells #[.int .i64 0, .bool false, .slice none 0 0] 51)) (w.heap.size + 1 + 1 + 1 + 1) w3.heap.size vx' us v5 av wz ∧ f.code.length - (intOf av).toNat < f.code.length - (intOf (.int .i64 (k : Int))).toNat) := by
      intro wz s' k' av hav hst hlk' hbe hle hstep
      obtain ⟨r1, r2, r3, r4, r5⟩ := HON.out s' k' hstep
      subst hav
      refine ⟨⟨k', s', _, _, m, r5, rfl, by omega, ⟨hst, r3, hlk', r1, r2⟩, by simp; omega, hbe, hle⟩, ?_⟩
      simp only [intOf]
      omega
    have hop := HSd.out.op
    rcases (show i.op ≤ 12 ∨ i.op = 13 ∨ i.op = 14 ∨ i.op = 15 ∨ i.op = 16 ∨ i.op = 17 ∨ i.op = 18 ∨ i.op = 19 ∨ i.op = 20 ∨ i.op = 21 by omega) with h | h | h | h | h | h | h | h | h | h
    · -- two
      as_aux_lemma =>
        have hd := HSd.out.makes (by omega)
        have cd := HSt.out.cell (p := i.d) (by rw [HSL.out]; exact hd)
        have fd := HSt.out.loose i.d.toNat
        have er : Ev.reads i = [i.a, i.b] := by unfold Ev.reads; rw [if_pos (by omega)]
        have pa := HSd.out.reads i.a (by rw [er]; simp)
        have ca := HSt.out.cell (p := i.a) (by rw [HSL.out]; exact pa)
        have pb := HSd.out.reads i.b (by rw [er]; simp)
        have cb := HSt.out.cell (p := i.b) (by rw [HSL.out]; exact pb)
        clear er
        have C2 := Lib.hid (fun w => two_same i.op (Ev.val s.v i.a) (Ev.val s.v i.b) w)
        have HSP := Lib.hid (@Ev.step_two i k s h)
        generalize Ev.two i.op (Ev.val s.v i.a) (Ev.val s.v i.b) = x at *
        generalize Ev.twoErr i.op = xe at *
        go_wp2_with fail
        refine wp_region_store (fun w' => w' = (w5).drew) (fun w' => w' = w5.drew.setCell ⟨w.heap.size + 1 + 1 + 1 + 1, i.d.toNat, none⟩ (.int .i64 x)) 20 [18] (by kernel_rfl) (by kernel_rfl) (by kernel_rfl) (by kernel_rfl) rfl ?_
        apply chainS_mid (by rfl)
        case h => (rintro w9 rfl; go_wp2_with fail; (try ((go_at_call 72; refine (C2.out _).mono ?_; rintro _ _ ⟨rfl, rfl⟩); go_wp2_with fail)); refine settled_intro (S := fun w' => w' = (w5).drew) ?_; rfl)
        case h1 => (intro hk; exact absurd hk (by decide))
        case hp => first | rfl | (simp only [*]; done) | (simp only [*]; rfl)
        apply chainS_mid (by rfl)
        case h => (rintro w9 rfl; go_wp2_with fail; (try ((go_at_call 72; refine (C2.out _).mono ?_; rintro _ _ ⟨rfl, rfl⟩); go_wp2_with fail)); refine settled_intro (S := fun w' => w' = (w5).drew) ?_; rfl)
        case h1 => (intro hk; exact absurd hk (by decide))
        case hp => first | rfl | (simp only [*]; done) | (simp only [*]; rfl)
        apply chainS_mid (by rfl)
        case h => (rintro w9 rfl; go_wp2_with fail; (try ((go_at_call 72; refine (C2.out _).mono ?_; rintro _ _ ⟨rfl, rfl⟩); go_wp2_with fail)); refine settled_intro (S := fun w' => w' = (w5).drew) ?_; rfl)
        case h1 => (intro hk; exact absurd hk (by decide))
        case hp => first | rfl | (simp only [*]; done) | (simp only [*]; rfl)
        apply chainS_mid (by rfl)
        case h => (rintro w9 rfl; go_wp2_with fail; (try ((go_at_call 72; refine (C2.out _).mono ?_; rintro _ _ ⟨rfl, rfl⟩); go_wp2_with fail)); refine settled_intro (S := fun w' => w' = (w5).drew) ?_; rfl)
        case h1 => (intro hk; exact absurd hk (by decide))
        case hp => first | rfl | (simp only [*]; done) | (simp only [*]; rfl)
        apply chainS_mid (by rfl)
        case h => (rintro w9 rfl; go_wp2_with fail; (try ((go_at_call 72; refine (C2.out _).mono ?_; rintro _ _ ⟨rfl, rfl⟩); go_wp2_with fail)); refine settled_intro (S := fun w' => w' = (w5).drew) ?_; rfl)
        case h1 => (intro hk; exact absurd hk (by decide))
        case hp => first | rfl | (simp only [*]; done) | (simp only [*]; rfl)
        apply chainS_mid (by rfl)
        case h => (rintro w9 rfl; go_wp2_with fail; (try ((go_at_call 72; refine (C2.out _).mono ?_; rintro _ _ ⟨rfl, rfl⟩); go_wp2_with fail)); refine settled_intro (S := fun w' => w' = (w5).drew) ?_; rfl)
        case h1 => (intro hk; exact absurd hk (by decide))
        case hp => first | rfl | (simp only [*]; done) | (simp only [*]; rfl)
        apply chainS_mid (by rfl)
        case h => (rintro w9 rfl; go_wp2_with fail; (try ((go_at_call 72; refine (C2.out _).mono ?_; rintro _ _ ⟨rfl, rfl⟩); go_wp2_with fail)); refine settled_intro (S := fun w' => w' = (w5).drew) ?_; rfl)
        case h1 => (intro hk; exact absurd hk (by decide))
        case hp => first | rfl | (simp only [*]; done) | (simp only [*]; rfl)
        apply chainS_mid (by rfl)
        case h => (rintro w9 rfl; go_wp2_with fail; (try ((go_at_call 72; refine (C2.out _).mono ?_; rintro _ _ ⟨rfl, rfl⟩); go_wp2_with fail)); refine settled_intro (S := fun w' => w' = (w5).drew) ?_; rfl)
        case h1 => (intro hk; exact absurd hk (by decide))
        case hp => first | rfl | (simp only [*]; done) | (simp only [*]; rfl)
        apply chainS_mid (by rfl)
        case h => (rintro w9 rfl; go_wp2_with fail; (try ((go_at_call 72; refine (C2.out _).mono ?_; rintro _ _ ⟨rfl, rfl⟩); go_wp2_with fail)); refine settled_intro (S := fun w' => w' = (w5).drew) ?_; rfl)
        case h1 => (intro hk; exact absurd hk (by decide))
        case hp => first | rfl | (simp only [*]; done) | (simp only [*]; rfl)
        apply chainS_mid (by rfl)
        case h => (rintro w9 rfl; go_wp2_with fail; (try ((go_at_call 72; refine (C2.out _).mono ?_; rintro _ _ ⟨rfl, rfl⟩); go_wp2_with fail)); refine settled_intro (S := fun w' => w' = (w5).drew) ?_; rfl)
        case h1 => (intro hk; exact absurd hk (by decide))
        case hp => first | rfl | (simp only [*]; done) | (simp only [*]; rfl)
        apply chainS_mid (by rfl)
        case h => (rintro w9 rfl; go_wp2_with fail; (try ((go_at_call 72; refine (C2.out _).mono ?_; rintro _ _ ⟨rfl, rfl⟩); go_wp2_with fail)); refine settled_intro (S := fun w' => w' = (w5).drew) ?_; rfl)
        case h1 => (intro hk; exact absurd hk (by decide))
        case hp => first | rfl | (simp only [*]; done) | (simp only [*]; rfl)
        apply chainS_mid (by rfl)
        case h => (rintro w9 rfl; go_wp2_with fail; (try ((go_at_call 72; refine (C2.out _).mono ?_; rintro _ _ ⟨rfl, rfl⟩); go_wp2_with fail)); refine settled_intro (S := fun w' => w' = (w5).drew) ?_; rfl)
        case h1 => (intro hk; exact absurd hk (by decide))
        case hp => first | rfl | (simp only [*]; done) | (simp only [*]; rfl)
        apply chainS_mid (by rfl)
        case h => (rintro w9 rfl; go_wp2_with fail; (try ((go_at_call 72; refine (C2.out _).mono ?_; rintro _ _ ⟨rfl, rfl⟩); go_wp2_with fail)); refine settled_intro (S := fun w' => w' = (w5).drew) ?_; rfl)
        case h1 => (intro hk; exact absurd hk (by decide))
        case hp => first | rfl | (simp only [*]; done) | (simp only [*]; rfl)
        apply chainS_mid (by rfl)
        case h => (rintro w9 rfl; go_wp2_with fail; (try ((go_at_call 72; refine (C2.out _).mono ?_; rintro _ _ ⟨rfl, rfl⟩); go_wp2_with fail)); refine settled_intro (S := fun w' => w' = (w5).drew) ?_; rfl)
        case h1 => (intro hk; exact absurd hk (by decide))
        case hp => first | rfl | (simp only [*]; done) | (simp only [*]; rfl)
        apply chainS_mid (by rfl)
        case h => (rintro w9 rfl; go_wp2_with fail; (try ((go_at_call 72; refine (C2.out _).mono ?_; rintro _ _ ⟨rfl, rfl⟩); go_wp2_with fail)); refine settled_intro (S := fun w' => w' = (w5).drew) ?_; rfl)
        case h1 => (intro hk; exact absurd hk (by decide))
        case hp => first | rfl | (simp only [*]; done) | (simp only [*]; rfl)
        apply chainS_mid (by rfl)
        case h => (rintro w9 rfl; go_wp2_with fail; (try ((go_at_call 72; refine (C2.out _).mono ?_; rintro _ _ ⟨rfl, rfl⟩); go_wp2_with fail)); refine settled_intro (S := fun w' => w' = (w5).drew) ?_; rfl)
        case h1 => (intro hk; exact absurd hk (by decide))
        case hp => first | rfl | (simp only [*]; done) | (simp only [*]; rfl)
        apply chainS_mid (by rfl)
        case h => (rintro w9 rfl; go_wp2_with fail; (try ((go_at_call 72; refine (C2.out _).mono ?_; rintro _ _ ⟨rfl, rfl⟩); go_wp2_with fail)); refine settled_intro (S := fun w' => w' = (w5).drew) ?_; rfl)
        case h1 => (intro hk; exact absurd hk (by decide))
        case hp => first | rfl | (simp only [*]; done) | (simp only [*]; rfl)
        apply chainS_mid (by rfl)
        case h => (rintro w9 rfl; go_wp2_with fail; (try ((go_at_call 72; refine (C2.out _).mono ?_; rintro _ _ ⟨rfl, rfl⟩); go_wp2_with fail)); refine settled_intro (S := fun w' => w' = (w5).drew) ?_; rfl)
        case h1 => (intro hk; exact absurd hk (by decide))
        case hp => first | rfl | (simp only [*]; done) | (simp only [*]; rfl)
        apply chainS_mid (by rfl)
        case h => (rintro w9 rfl; go_wp2_with fail; (try ((go_at_call 72; refine (C2.out _).mono ?_; rintro _ _ ⟨rfl, rfl⟩); go_wp2_with fail)); refine settled_intro (S := fun w' => w' = (w5).drew) ?_; rfl)
        case h1 => (intro _; rintro w9 rfl; go_wp2_with fail; refine settled_intro (S := fun w' => w' = w5.drew.setCell ⟨w.heap.size + 1 + 1 + 1 + 1, i.d.toNat, none⟩ (.int .i64 x)) ?_; rfl)
        case hp => first | rfl | (simp only [*]; done) | (simp only [*]; rfl)
        apply chainS_mid (by rfl)
        case h => (rintro w9 rfl; go_wp2_with fail; (try ((go_at_call 72; refine (C2.out _).mono ?_; rintro _ _ ⟨rfl, rfl⟩); go_wp2_with fail)); refine settled_intro (S := fun w' => w' = (w5).drew) ?_; rfl)
        case h1 => (intro hk; exact absurd hk (by decide))
        case hp => first | rfl | (simp only [*]; done) | (simp only [*]; rfl)
        apply chainS_store (by rfl)
        case h => (rintro w9 rfl; go_wp2_with fail; refine settled_intro (S := fun w' => w' = w5.drew.setCell ⟨w.heap.size + 1 + 1 + 1 + 1, i.d.toNat, none⟩ (.int .i64 x)) ?_; rfl)
        case hp => first | rfl | (simp only [*]; done) | (simp only [*]; rfl)
        refine chainS.nil ?_
        rintro _ rfl
        (try dsimp only)
        go_wp2_with fail
        exact HFIN.out _ _ (k + 1) _ (by push_cast; rfl) ((HSt.out.stays (Below.refl _ _).drew).setV _ _) ((HLk.out.stays (Below.refl _ _).drew).aside _ _ _ (by omega)) (HB5.out.drew.setCell (Nat.le_refl _) _) (by simp; omega) HSP.out
    · -- sel
      as_aux_lemma =>
        have hd := HSd.out.makes (by omega)
        have cd := HSt.out.cell (p := i.d) (by rw [HSL.out]; exact hd)
        have fd := HSt.out.loose i.d.toNat
        have er : Ev.reads i = [i.a, i.b, i.c] := by unfold Ev.reads; rw [if_neg (by omega), if_pos h]
        have pa := HSd.out.reads i.a (by rw [er]; simp)
        have ca := HSt.out.cell (p := i.a) (by rw [HSL.out]; exact pa)
        have pb := HSd.out.reads i.b (by rw [er]; simp)
        have cb := HSt.out.cell (p := i.b) (by rw [HSL.out]; exact pb)
        have pc := HSd.out.reads i.c (by rw [er]; simp)
        have cc := HSt.out.cell (p := i.c) (by rw [HSL.out]; exact pc)
        clear er
        have C2 := Lib.hid (fun w => sel_same (Ev.val s.v i.a) (Ev.val s.v i.b) (Ev.val s.v i.c) w)
        have HSP := Lib.hid (@Ev.step_sel i k s h)
        generalize Ev.sel (Ev.val s.v i.a) (Ev.val s.v i.b) (Ev.val s.v i.c) = x at *
        go_wp2_with fail
        refine wp_region_store (fun w' => w' = (w5).drew) (fun w' => w' = w5.drew.setCell ⟨w.heap.size + 1 + 1 + 1 + 1, i.d.toNat, none⟩ (.int .i64 x)) 20 [] (by kernel_rfl) (by kernel_rfl) (by kernel_rfl) (by kernel_rfl) rfl ?_
        apply chainS_mid (by rfl)
        case h => (rintro w9 rfl; go_wp2_with fail; (try ((go_at_call 73; refine (C2.out _).mono ?_; rintro _ _ ⟨rfl, rfl⟩); go_wp2_with fail)); refine settled_intro (S := fun w' => w' = (w5).drew) ?_; rfl)
        case h1 => (intro hk; exact absurd hk (by decide))
        case hp => first | rfl | (simp only [*]; done) | (simp only [*]; rfl)
        apply chainS_mid (by rfl)
        case h => (rintro w9 rfl; go_wp2_with fail; (try ((go_at_call 73; refine (C2.out _).mono ?_; rintro _ _ ⟨rfl, rfl⟩); go_wp2_with fail)); refine settled_intro (S := fun w' => w' = (w5).drew) ?_; rfl)
        case h1 => (intro hk; exact absurd hk (by decide))
        case hp => first | rfl | (simp only [*]; done) | (simp only [*]; rfl)
        apply chainS_mid (by rfl)
        case h => (rintro w9 rfl; go_wp2_with fail; (try ((go_at_call 73; refine (C2.out _).mono ?_; rintro _ _ ⟨rfl, rfl⟩); go_wp2_with fail)); refine settled_intro (S := fun w' => w' = (w5).drew) ?_; rfl)
        case h1 => (intro hk; exact absurd hk (by decide))
        case hp => first | rfl | (simp only [*]; done) | (simp only [*]; rfl)
        apply chainS_mid (by rfl)
        case h => (rintro w9 rfl; go_wp2_with fail; (try ((go_at_call 73; refine (C2.out _).mono ?_; rintro _ _ ⟨rfl, rfl⟩); go_wp2_with fail)); refine settled_intro (S := fun w' => w' = (w5).drew) ?_; rfl)
        case h1 => (intro hk; exact absurd hk (by decide))
        case hp => first | rfl | (simp only [*]; done) | (simp only [*]; rfl)
        apply chainS_mid (by rfl)
        case h => (rintro w9 rfl; go_wp2_with fail; (try ((go_at_call 73; refine (C2.out _).mono ?_; rintro _ _ ⟨rfl, rfl⟩); go_wp2_with fail)); refine settled_intro (S := fun w' => w' = (w5).drew) ?_; rfl)
        case h1 => (intro hk; exact absurd hk (by decide))
        case hp => first | rfl | (simp only [*]; done) | (simp only [*]; rfl)
        apply chainS_mid (by rfl)
        case h => (rintro w9 rfl; go_wp2_with fail; (try ((go_at_call 73; refine (C2.out _).mono ?_; rintro _ _ ⟨rfl, rfl⟩); go_wp2_with fail)); refine settled_intro (S := fun w' => w' = (w5).drew) ?_; rfl)
        case h1 => (intro hk; exact absurd hk (by decide))
        case hp => first | rfl | (simp only [*]; done) | (simp only [*]; rfl)
        apply chainS_mid (by rfl)
        case h => (rintro w9 rfl; go_wp2_with fail; (try ((go_at_call 73; refine (C2.out _).mono ?_; rintro _ _ ⟨rfl, rfl⟩); go_wp2_with fail)); refine settled_intro (S := fun w' => w' = (w5).drew) ?_; rfl)
        case h1 => (intro hk; exact absurd hk (by decide))
        case hp => first | rfl | (simp only [*]; done) | (simp only [*]; rfl)
        apply chainS_mid (by rfl)
        case h => (rintro w9 rfl; go_wp2_with fail; (try ((go_at_call 73; refine (C2.out _).mono ?_; rintro _ _ ⟨rfl, rfl⟩); go_wp2_with fail)); refine settled_intro (S := fun w' => w' = (w5).drew) ?_; rfl)
        case h1 => (intro hk; exact absurd hk (by decide))
        case hp => first | rfl | (simp only [*]; done) | (simp only [*]; rfl)
        apply chainS_mid (by rfl)
        case h => (rintro w9 rfl; go_wp2_with fail; (try ((go_at_call 73; refine (C2.out _).mono ?_; rintro _ _ ⟨rfl, rfl⟩); go_wp2_with fail)); refine settled_intro (S := fun w' => w' = (w5).drew) ?_; rfl)
        case h1 => (intro hk; exact absurd hk (by decide))
        case hp => first | rfl | (simp only [*]; done) | (simp only [*]; rfl)
        apply chainS_mid (by rfl)
        case h => (rintro w9 rfl; go_wp2_with fail; (try ((go_at_call 73; refine (C2.out _).mono ?_; rintro _ _ ⟨rfl, rfl⟩); go_wp2_with fail)); refine settled_intro (S := fun w' => w' = (w5).drew) ?_; rfl)
        case h1 => (intro hk; exact absurd hk (by decide))
        case hp => first | rfl | (simp only [*]; done) | (simp only [*]; rfl)
        apply chainS_mid (by rfl)
        case h => (rintro w9 rfl; go_wp2_with fail; (try ((go_at_call 73; refine (C2.out _).mono ?_; rintro _ _ ⟨rfl, rfl⟩); go_wp2_with fail)); refine settled_intro (S := fun w' => w' = (w5).drew) ?_; rfl)
        case h1 => (intro hk; exact absurd hk (by decide))
        case hp => first | rfl | (simp only [*]; done) | (simp only [*]; rfl)
        apply chainS_mid (by rfl)
        case h => (rintro w9 rfl; go_wp2_with fail; (try ((go_at_call 73; refine (C2.out _).mono ?_; rintro _ _ ⟨rfl, rfl⟩); go_wp2_with fail)); refine settled_intro (S := fun w' => w' = (w5).drew) ?_; rfl)
        case h1 => (intro hk; exact absurd hk (by decide))
        case hp => first | rfl | (simp only [*]; done) | (simp only [*]; rfl)
        apply chainS_mid (by rfl)
        case h => (rintro w9 rfl; go_wp2_with fail; (try ((go_at_call 73; refine (C2.out _).mono ?_; rintro _ _ ⟨rfl, rfl⟩); go_wp2_with fail)); refine settled_intro (S := fun w' => w' = (w5).drew) ?_; rfl)
        case h1 => (intro hk; exact absurd hk (by decide))
        case hp => first | rfl | (simp only [*]; done) | (simp only [*]; rfl)
        apply chainS_mid (by rfl)
        case h => (rintro w9 rfl; go_wp2_with fail; (try ((go_at_call 73; refine (C2.out _).mono ?_; rintro _ _ ⟨rfl, rfl⟩); go_wp2_with fail)); refine settled_intro (S := fun w' => w' = (w5).drew) ?_; rfl)
        case h1 => (intro hk; exact absurd hk (by decide))
        case hp => first | rfl | (simp only [*]; done) | (simp only [*]; rfl)
        apply chainS_mid (by rfl)
        case h => (rintro w9 rfl; go_wp2_with fail; (try ((go_at_call 73; refine (C2.out _).mono ?_; rintro _ _ ⟨rfl, rfl⟩); go_wp2_with fail)); refine settled_intro (S := fun w' => w' = (w5).drew) ?_; rfl)
        case h1 => (intro hk; exact absurd hk (by decide))
        case hp => first | rfl | (simp only [*]; done) | (simp only [*]; rfl)
        apply chainS_mid (by rfl)
        case h => (rintro w9 rfl; go_wp2_with fail; (try ((go_at_call 73; refine (C2.out _).mono ?_; rintro _ _ ⟨rfl, rfl⟩); go_wp2_with fail)); refine settled_intro (S := fun w' => w' = (w5).drew) ?_; rfl)
        case h1 => (intro hk; exact absurd hk (by decide))
        case hp => first | rfl | (simp only [*]; done) | (simp only [*]; rfl)
        apply chainS_mid (by rfl)
        case h => (rintro w9 rfl; go_wp2_with fail; (try ((go_at_call 73; refine (C2.out _).mono ?_; rintro _ _ ⟨rfl, rfl⟩); go_wp2_with fail)); refine settled_intro (S := fun w' => w' = (w5).drew) ?_; rfl)
        case h1 => (intro hk; exact absurd hk (by decide))
        case hp => first | rfl | (simp only [*]; done) | (simp only [*]; rfl)
        apply chainS_mid (by rfl)
        case h => (rintro w9 rfl; go_wp2_with fail; (try ((go_at_call 73; refine (C2.out _).mono ?_; rintro _ _ ⟨rfl, rfl⟩); go_wp2_with fail)); refine settled_intro (S := fun w' => w' = (w5).drew) ?_; rfl)
        case h1 => (intro hk; exact absurd hk (by decide))
        case hp => first | rfl | (simp only [*]; done) | (simp only [*]; rfl)
        apply chainS_mid (by rfl)
        case h => (rintro w9 rfl; go_wp2_with fail; (try ((go_at_call 73; refine (C2.out _).mono ?_; rintro _ _ ⟨rfl, rfl⟩); go_wp2_with fail)); refine settled_intro (S := fun w' => w' = (w5).drew) ?_; rfl)
        case h1 => (intro hk; exact absurd hk (by decide))
        case hp => first | rfl | (simp only [*]; done) | (simp only [*]; rfl)
        apply chainS_mid (by rfl)
        case h => (rintro w9 rfl; go_wp2_with fail; (try ((go_at_call 73; refine (C2.out _).mono ?_; rintro _ _ ⟨rfl, rfl⟩); go_wp2_with fail)); refine settled_intro (S := fun w' => w' = (w5).drew) ?_; rfl)
        case h1 => (intro hk; exact absurd hk (by decide))
        case hp => first | rfl | (simp only [*]; done) | (simp only [*]; rfl)
        apply chainS_store (by rfl)
        case h => (rintro w9 rfl; go_wp2_with fail; refine settled_intro (S := fun w' => w' = w5.drew.setCell ⟨w.heap.size + 1 + 1 + 1 + 1, i.d.toNat, none⟩ (.int .i64 x)) ?_; rfl)
        case hp => first | rfl | (simp only [*]; done) | (simp only [*]; rfl)
        refine chainS.nil ?_
        rintro _ rfl
        (try dsimp only)
        go_wp2_with fail
        exact HFIN.out _ _ (k + 1) _ (by push_cast; rfl) ((HSt.out.stays (Below.refl _ _).drew).setV _ _) ((HLk.out.stays (Below.refl _ _).drew).aside _ _ _ (by omega)) (HB5.out.drew.setCell (Nat.le_refl _) _) (by simp; omega) HSP.out
    · -- const
      as_aux_lemma =>
        have hd := HSd.out.makes (by omega)
        have cd := HSt.out.cell (p := i.d) (by rw [HSL.out]; exact hd)
        have fd := HSt.out.loose i.d.toNat
        have HSP := Lib.hid (@Ev.step_const i k s h)
        go_wp2_with fail
        exact HFIN.out _ _ (k + 1) _ (by push_cast; rfl) (HSt.out.setV _ _) (HLk.out.aside _ _ _ (by omega)) (HB5.out.setCell (Nat.le_refl _) _) (by simp; omega) HSP.out
    · -- move
      as_aux_lemma =>
        have hd := HSd.out.makes (by omega)
        have cd := HSt.out.cell (p := i.d) (by rw [HSL.out]; exact hd)
        have fd := HSt.out.loose i.d.toNat
        have er : Ev.reads i = [i.a] := by unfold Ev.reads; rw [if_neg (by omega), if_neg (by omega), if_neg (by omega), if_pos (by omega)]
        have pa := HSd.out.reads i.a (by rw [er]; simp)
        have ca := HSt.out.cell (p := i.a) (by rw [HSL.out]; exact pa)
        clear er
        have HSP := Lib.hid (@Ev.step_move i k s h)
        generalize Ev.val s.v i.a = x at *
        go_wp2_with fail
        refine wp_region_store (fun w' => w' = (w5).drew) (fun w' => w' = w5.drew.setCell ⟨w.heap.size + 1 + 1 + 1 + 1, i.d.toNat, none⟩ (.int .i64 x)) 9 [] (by kernel_rfl) (by kernel_rfl) (by kernel_rfl) (by kernel_rfl) rfl ?_
        apply chainS_mid (by rfl)
        case h => (rintro w9 rfl; go_wp2_with fail; (try (fail; go_wp2_with fail)); refine settled_intro (S := fun w' => w' = (w5).drew) ?_; rfl)
        case h1 => (intro hk; exact absurd hk (by decide))
        case hp => first | rfl | (simp only [*]; done) | (simp only [*]; rfl)
        apply chainS_mid (by rfl)
        case h => (rintro w9 rfl; go_wp2_with fail; (try (fail; go_wp2_with fail)); refine settled_intro (S := fun w' => w' = (w5).drew) ?_; rfl)
        case h1 => (intro hk; exact absurd hk (by decide))
        case hp => first | rfl | (simp only [*]; done) | (simp only [*]; rfl)
        apply chainS_mid (by rfl)
        case h => (rintro w9 rfl; go_wp2_with fail; (try (fail; go_wp2_with fail)); refine settled_intro (S := fun w' => w' = (w5).drew) ?_; rfl)
        case h1 => (intro hk; exact absurd hk (by decide))
        case hp => first | rfl | (simp only [*]; done) | (simp only [*]; rfl)
        apply chainS_mid (by rfl)
        case h => (rintro w9 rfl; go_wp2_with fail; (try (fail; go_wp2_with fail)); refine settled_intro (S := fun w' => w' = (w5).drew) ?_; rfl)
        case h1 => (intro hk; exact absurd hk (by decide))
        case hp => first | rfl | (simp only [*]; done) | (simp only [*]; rfl)
        apply chainS_mid (by rfl)
        case h => (rintro w9 rfl; go_wp2_with fail; (try (fail; go_wp2_with fail)); refine settled_intro (S := fun w' => w' = (w5).drew) ?_; rfl)
        case h1 => (intro hk; exact absurd hk (by decide))
        case hp => first | rfl | (simp only [*]; done) | (simp only [*]; rfl)
        apply chainS_mid (by rfl)
        case h => (rintro w9 rfl; go_wp2_with fail; (try (fail; go_wp2_with fail)); refine settled_intro (S := fun w' => w' = (w5).drew) ?_; rfl)
        case h1 => (intro hk; exact absurd hk (by decide))
        case hp => first | rfl | (simp only [*]; done) | (simp only [*]; rfl)
        apply chainS_mid (by rfl)
        case h => (rintro w9 rfl; go_wp2_with fail; (try (fail; go_wp2_with fail)); refine settled_intro (S := fun w' => w' = (w5).drew) ?_; rfl)
        case h1 => (intro hk; exact absurd hk (by decide))
        case hp => first | rfl | (simp only [*]; done) | (simp only [*]; rfl)
        apply chainS_mid (by rfl)
        case h => (rintro w9 rfl; go_wp2_with fail; (try (fail; go_wp2_with fail)); refine settled_intro (S := fun w' => w' = (w5).drew) ?_; rfl)
        case h1 => (intro hk; exact absurd hk (by decide))
        case hp => first | rfl | (simp only [*]; done) | (simp only [*]; rfl)
        apply chainS_mid (by rfl)
        case h => (rintro w9 rfl; go_wp2_with fail; (try (fail; go_wp2_with fail)); refine settled_intro (S := fun w' => w' = (w5).drew) ?_; rfl)
        case h1 => (intro hk; exact absurd hk (by decide))
        case hp => first | rfl | (simp only [*]; done) | (simp only [*]; rfl)
        apply chainS_store (by rfl)
        case h => (rintro w9 rfl; go_wp2_with fail; refine settled_intro (S := fun w' => w' = w5.drew.setCell ⟨w.heap.size + 1 + 1 + 1 + 1, i.d.toNat, none⟩ (.int .i64 x)) ?_; rfl)
        case hp => first | rfl | (simp only [*]; done) | (simp only [*]; rfl)
        refine chainS.nil ?_
        rintro _ rfl
        (try dsimp only)
        go_wp2_with fail
        exact HFIN.out _ _ (k + 1) _ (by push_cast; rfl) ((HSt.out.stays (Below.refl _ _).drew).setV _ _) ((HLk.out.stays (Below.refl _ _).drew).aside _ _ _ (by omega)) (HB5.out.drew.setCell (Nat.le_refl _) _) (by simp; omega) HSP.out
    · -- load
      as_aux_lemma =>
        have hd := HSd.out.makes (by omega)
        have cd := HSt.out.cell (p := i.d) (by rw [HSL.out]; exact hd)
        have fd := HSt.out.loose i.d.toNat
        have er : Ev.reads i = [i.a] := by unfold Ev.reads; rw [if_neg (by omega), if_neg (by omega), if_neg (by omega), if_pos (by omega)]
        have pa := HSd.out.reads i.a (by rw [er]; simp)
        have ca := HSt.out.cell (p := i.a) (by rw [HSL.out]; exact pa)
        clear er
        have pb := HSd.out.arr (by omega)
        obtain ⟨a, ha⟩ : ∃ a, s.arrs[i.b.toNat]? = some a := ⟨_, List.getElem?_eq_getElem (by have := HFn.out.alen; omega)⟩
        obtain ⟨bo, co, A, ca', e1, e2, e3, e4, e5, e6, e7, e8, e9, e10, e11⟩ := Arrs.at_ HSt.out.arrs ha
        subst e1
        have hwd := HFn.out.val i.a
        have hwd0 := hwd.1
        have hne2 : bo ≠ w.heap.size + 1 + 1 + 1 + 1 := by omega
        have hb4 : s.arrs.length = f.arrays.length := HFn.out.alen
        have pb2 : i.b < (s.arrs.length : Int) := by rw [hb4]; exact pb.2
        have E11 := Lib.hid e11
        have E8 := Lib.hid e8
        clear e8 e11 hb4
        have HSP := Lib.hid (@Ev.step_load i k s h)
        have hA : Ev.arrAt s.arrs i.b (Ev.val s.v i.a) = if Ev.val s.v i.a < a.length then Ev.val a (Ev.val s.v i.a) else 0 := by
          unfold Ev.arrAt
          rw [List.getD_eq_getElem?_getD, ha]
          rfl
        by_cases hn : Ev.val s.v i.a < a.length
        · obtain ⟨g', rfl, f1, f2, f3, f4⟩ := E11.out (by omega)
          have f5 : w5.cell? ⟨g', (Ev.val s.v i.a).toNat, none⟩ = some (.int .i64 (Ev.val a (Ev.val s.v i.a))) := f4 _ _ (by
            have hnn : (Ev.val s.v i.a).toNat < a.length := by omega
            generalize Ev.val s.v i.a = n at hnn
            unfold Ev.val
            rw [List.getD_eq_getElem?_getD, List.getElem?_eq_getElem hnn]
            rfl)
          rw [if_pos hn] at hA
          have HA := Lib.hid hA
          clear hA f3 f4
          generalize Ev.val a (Ev.val s.v i.a) = x at *
          generalize Ev.val s.v i.a = n at *
          have hne3 : g' ≠ w.heap.size + 1 + 1 + 1 + 1 := by omega
          go_wp2_with fail
          refine wp_region_store (fun w' => w' = (w5.setCell ⟨w.heap.size + 1 + 1 + 1 + 1, i.d.toNat, none⟩ (.int .i64 0)).drew) (fun w' => w' = (w5.setCell ⟨w.heap.size + 1 + 1 + 1 + 1, i.d.toNat, none⟩ (.int .i64 0)).drew.setCell ⟨w.heap.size + 1 + 1 + 1 + 1, i.d.toNat, none⟩ (.int .i64 x)) 12 [] (by kernel_rfl) (by kernel_rfl) (by kernel_rfl) (by kernel_rfl) rfl ?_
          apply chainS_mid (by rfl)
          case h => (rintro w9 rfl; go_wp2_with fail; (try (fail; go_wp2_with fail)); refine settled_intro (S := fun w' => w' = (w5.setCell ⟨w.heap.size + 1 + 1 + 1 + 1, i.d.toNat, none⟩ (.int .i64 0)).drew) ?_; rfl)
          case h1 => (intro hk; exact absurd hk (by decide))
          case hp => first | rfl | (simp only [*]; done) | (simp only [*]; rfl)
          apply chainS_mid (by rfl)
          case h => (rintro w9 rfl; go_wp2_with fail; (try (fail; go_wp2_with fail)); refine settled_intro (S := fun w' => w' = (w5.setCell ⟨w.heap.size + 1 + 1 + 1 + 1, i.d.toNat, none⟩ (.int .i64 0)).drew) ?_; rfl)
          case h1 => (intro hk; exact absurd hk (by decide))
          case hp => first | rfl | (simp only [*]; done) | (simp only [*]; rfl)
          apply chainS_mid (by rfl)
          case h => (rintro w9 rfl; go_wp2_with fail; (try (fail; go_wp2_with fail)); refine settled_intro (S := fun w' => w' = (w5.setCell ⟨w.heap.size + 1 + 1 + 1 + 1, i.d.toNat, none⟩ (.int .i64 0)).drew) ?_; rfl)
          case h1 => (intro hk; exact absurd hk (by decide))
          case hp => first | rfl | (simp only [*]; done) | (simp only [*]; rfl)
          apply chainS_mid (by rfl)
          case h => (rintro w9 rfl; go_wp2_with fail; (try (fail; go_wp2_with fail)); refine settled_intro (S := fun w' => w' = (w5.setCell ⟨w.heap.size + 1 + 1 + 1 + 1, i.d.toNat, none⟩ (.int .i64 0)).drew) ?_; rfl)
          case h1 => (intro hk; exact absurd hk (by decide))
          case hp => first | rfl | (simp only [*]; done) | (simp only [*]; rfl)
          apply chainS_mid (by rfl)
          case h => (rintro w9 rfl; go_wp2_with fail; (try (fail; go_wp2_with fail)); refine settled_intro (S := fun w' => w' = (w5.setCell ⟨w.heap.size + 1 + 1 + 1 + 1, i.d.toNat, none⟩ (.int .i64 0)).drew) ?_; rfl)
          case h1 => (intro hk; exact absurd hk (by decide))
          case hp => first | rfl | (simp only [*]; done) | (simp only [*]; rfl)
          apply chainS_mid (by rfl)
          case h => (rintro w9 rfl; go_wp2_with fail; (try (fail; go_wp2_with fail)); refine settled_intro (S := fun w' => w' = (w5.setCell ⟨w.heap.size + 1 + 1 + 1 + 1, i.d.toNat, none⟩ (.int .i64 0)).drew) ?_; rfl)
          case h1 => (intro hk; exact absurd hk (by decide))
          case hp => first | rfl | (simp only [*]; done) | (simp only [*]; rfl)
          apply chainS_mid (by rfl)
          case h => (rintro w9 rfl; go_wp2_with fail; (try (fail; go_wp2_with fail)); refine settled_intro (S := fun w' => w' = (w5.setCell ⟨w.heap.size + 1 + 1 + 1 + 1, i.d.toNat, none⟩ (.int .i64 0)).drew) ?_; rfl)
          case h1 => (intro hk; exact absurd hk (by decide))
          case hp => first | rfl | (simp only [*]; done) | (simp only [*]; rfl)
          apply chainS_mid (by rfl)
          case h => (rintro w9 rfl; go_wp2_with fail; (try (fail; go_wp2_with fail)); refine settled_intro (S := fun w' => w' = (w5.setCell ⟨w.heap.size + 1 + 1 + 1 + 1, i.d.toNat, none⟩ (.int .i64 0)).drew) ?_; rfl)
          case h1 => (intro hk; exact absurd hk (by decide))
          case hp => first | rfl | (simp only [*]; done) | (simp only [*]; rfl)
          apply chainS_mid (by rfl)
          case h => (rintro w9 rfl; go_wp2_with fail; (try (fail; go_wp2_with fail)); refine settled_intro (S := fun w' => w' = (w5.setCell ⟨w.heap.size + 1 + 1 + 1 + 1, i.d.toNat, none⟩ (.int .i64 0)).drew) ?_; rfl)
          case h1 => (intro hk; exact absurd hk (by decide))
          case hp => first | rfl | (simp only [*]; done) | (simp only [*]; rfl)
          apply chainS_mid (by rfl)
          case h => (rintro w9 rfl; go_wp2_with fail; (try (fail; go_wp2_with fail)); refine settled_intro (S := fun w' => w' = (w5.setCell ⟨w.heap.size + 1 + 1 + 1 + 1, i.d.toNat, none⟩ (.int .i64 0)).drew) ?_; rfl)
          case h1 => (intro hk; exact absurd hk (by decide))
          case hp => first | rfl | (simp only [*]; done) | (simp only [*]; rfl)
          apply chainS_mid (by rfl)
          case h => (rintro w9 rfl; go_wp2_with fail; (try (fail; go_wp2_with fail)); refine settled_intro (S := fun w' => w' = (w5.setCell ⟨w.heap.size + 1 + 1 + 1 + 1, i.d.toNat, none⟩ (.int .i64 0)).drew) ?_; rfl)
          case h1 => (intro hk; exact absurd hk (by decide))
          case hp => first | rfl | (simp only [*]; done) | (simp only [*]; rfl)
          apply chainS_mid (by rfl)
          case h => (rintro w9 rfl; go_wp2_with fail; (try (fail; go_wp2_with fail)); refine settled_intro (S := fun w' => w' = (w5.setCell ⟨w.heap.size + 1 + 1 + 1 + 1, i.d.toNat, none⟩ (.int .i64 0)).drew) ?_; rfl)
          case h1 => (intro hk; exact absurd hk (by decide))
          case hp => first | rfl | (simp only [*]; done) | (simp only [*]; rfl)
          apply chainS_store (by rfl)
          case h => (rintro w9 rfl; go_wp2_with fail; refine settled_intro (S := fun w' => w' = (w5.setCell ⟨w.heap.size + 1 + 1 + 1 + 1, i.d.toNat, none⟩ (.int .i64 0)).drew.setCell ⟨w.heap.size + 1 + 1 + 1 + 1, i.d.toNat, none⟩ (.int .i64 x)) ?_; rfl)
          case hp => first | rfl | (simp only [*]; done) | (simp only [*]; rfl)
          refine chainS.nil ?_
          rintro _ rfl
          (try dsimp only)
          go_wp2_with fail
          have HSe := HSP.out
          rw [HA.out] at HSe
          have hs2 := ((HSt.out.setV i.d.toNat 0).stays (Below.refl _ _).drew).setV i.d.toNat x
          simp only [List.set_set] at hs2
          exact HFIN.out _ _ (k + 1) _ (by push_cast; rfl) hs2 (((HLk.out.aside _ _ _ (by omega)).stays (Below.refl _ _).drew).aside _ _ _ (by omega)) ((HB5.out.setCell (Nat.le_refl _) _).drew.setCell (Nat.le_refl _) _) (by simp; omega) HSe
        · rw [if_neg hn] at hA
          have HA := Lib.hid hA
          clear hA
          generalize Ev.val s.v i.a = n at *
          go_wp2_with fail
          have HSe := HSP.out
          rw [HA.out] at HSe
          exact HFIN.out _ _ (k + 1) _ (by push_cast; rfl) (HSt.out.setV _ _) (HLk.out.aside _ _ _ (by omega)) (HB5.out.setCell (Nat.le_refl _) _) (by simp; omega) HSe
    · -- store
      as_aux_lemma =>
        have er : Ev.reads i = [i.a, i.d] := by unfold Ev.reads; rw [if_neg (by omega), if_neg (by omega), if_pos h]
        have pa := HSd.out.reads i.a (by rw [er]; simp)
        have ca := HSt.out.cell (p := i.a) (by rw [HSL.out]; exact pa)
        have pd := HSd.out.reads i.d (by rw [er]; simp)
        have cd := HSt.out.cell (p := i.d) (by rw [HSL.out]; exact pd)
        clear er
        have pb := HSd.out.arr (by omega)
        obtain ⟨a, ha⟩ : ∃ a, s.arrs[i.b.toNat]? = some a := ⟨_, List.getElem?_eq_getElem (by have := HFn.out.alen; omega)⟩
        obtain ⟨bo, co, A, ca', e1, e2, e3, e4, e5, e6, e7, e8, e9, e10, e11⟩ := Arrs.at_ HSt.out.arrs ha
        subst e1
        have hwd := HFn.out.val i.a
        have hwd0 := hwd.1
        have hne2 : bo ≠ w.heap.size + 1 + 1 + 1 + 1 := by omega
        have hb4 : s.arrs.length = f.arrays.length := HFn.out.alen
        have pb2 : i.b < (s.arrs.length : Int) := by rw [hb4]; exact pb.2
        have E11 := Lib.hid e11
        have E8 := Lib.hid e8
        clear e8 e11 hb4
        by_cases hn : Ev.val s.v i.a < a.length
        · obtain ⟨g', rfl, f1, f2, f3, f4⟩ := E11.out (by omega)
          have f5 : w5.cell? ⟨g', (Ev.val s.v i.a).toNat, none⟩ = some (.int .i64 (Ev.val a (Ev.val s.v i.a))) := f4 _ _ (by
            have hnn : (Ev.val s.v i.a).toNat < a.length := by omega
            generalize Ev.val s.v i.a = n at hnn
            unfold Ev.val
            rw [List.getD_eq_getElem?_getD, List.getElem?_eq_getElem hnn]
            rfl)
          have f6 := f3 (Ev.val s.v i.a).toNat
          clear f3 f4
          have HSP := Lib.hid (@Ev.step_store_in i k s h a ha hn)
          generalize Ev.val a (Ev.val s.v i.a) = y at *
          generalize Ev.val s.v i.a = n at *
          generalize Ev.val s.v i.d = x at *
          have hg3 := HSt.out.his _ _ g' E8.out rfl
          have hne3 : g' ≠ w.heap.size + 1 + 1 + 1 + 1 := by omega
          go_wp2_with fail
          refine wp_region_store (fun w' => w' = (w5).drew) (fun w' => w' = w5.drew) 11 [0, 1, 2, 3, 5, 6, 7, 8, 9] (by kernel_rfl) (by kernel_rfl) (by kernel_rfl) (by kernel_rfl) rfl ?_
          apply chainS_mid (by rfl)
          case h => (rintro w9 rfl; go_wp2_with fail; (try (fail; go_wp2_with fail)); refine settled_intro (S := fun w' => w' = (w5).drew) ?_; rfl)
          case h1 => (intro _; rintro w9 rfl; go_wp2_with fail; refine settled_intro (S := fun w' => w' = w5.drew) ?_; rfl)
          case hp => first | rfl | (simp only [*]; done) | (simp only [*]; rfl)
          apply chainS_mid (by rfl)
          case h => (rintro w9 rfl; go_wp2_with fail; (try (fail; go_wp2_with fail)); refine settled_intro (S := fun w' => w' = (w5).drew) ?_; rfl)
          case h1 => (intro _; rintro w9 rfl; go_wp2_with fail; refine settled_intro (S := fun w' => w' = w5.drew) ?_; rfl)
          case hp => first | rfl | (simp only [*]; done) | (simp only [*]; rfl)
          apply chainS_mid (by rfl)
          case h => (rintro w9 rfl; go_wp2_with fail; (try (fail; go_wp2_with fail)); refine settled_intro (S := fun w' => w' = (w5).drew) ?_; rfl)
          case h1 => (intro _; rintro w9 rfl; go_wp2_with fail; refine settled_intro (S := fun w' => w' = w5.drew) ?_; rfl)
          case hp => first | rfl | (simp only [*]; done) | (simp only [*]; rfl)
          apply chainS_mid (by rfl)
          case h => (rintro w9 rfl; go_wp2_with fail; (try (fail; go_wp2_with fail)); refine settled_intro (S := fun w' => w' = (w5).drew) ?_; rfl)
          case h1 => (intro _; rintro w9 rfl; go_wp2_with fail; refine settled_intro (S := fun w' => w' = w5.drew) ?_; rfl)
          case hp => first | rfl | (simp only [*]; done) | (simp only [*]; rfl)
          apply chainS_mid (by rfl)
          case h => (rintro w9 rfl; go_wp2_with fail; (try (fail; go_wp2_with fail)); refine settled_intro (S := fun w' => w' = (w5).drew) ?_; rfl)
          case h1 => (intro hk; exact absurd hk (by decide))
          case hp => first | rfl | (simp only [*]; done) | (simp only [*]; rfl)
          apply chainS_mid (by rfl)
          case h => (rintro w9 rfl; go_wp2_with fail; (try (fail; go_wp2_with fail)); refine settled_intro (S := fun w' => w' = (w5).drew) ?_; rfl)
          case h1 => (intro _; rintro w9 rfl; go_wp2_with fail; refine settled_intro (S := fun w' => w' = w5.drew) ?_; rfl)
          case hp => first | rfl | (simp only [*]; done) | (simp only [*]; rfl)
          apply chainS_mid (by rfl)
          case h => (rintro w9 rfl; go_wp2_with fail; (try (fail; go_wp2_with fail)); refine settled_intro (S := fun w' => w' = (w5).drew) ?_; rfl)
          case h1 => (intro _; rintro w9 rfl; go_wp2_with fail; refine settled_intro (S := fun w' => w' = w5.drew) ?_; rfl)
          case hp => first | rfl | (simp only [*]; done) | (simp only [*]; rfl)
          apply chainS_mid (by rfl)
          case h => (rintro w9 rfl; go_wp2_with fail; (try (fail; go_wp2_with fail)); refine settled_intro (S := fun w' => w' = (w5).drew) ?_; rfl)
          case h1 => (intro _; rintro w9 rfl; go_wp2_with fail; refine settled_intro (S := fun w' => w' = w5.drew) ?_; rfl)
          case hp => first | rfl | (simp only [*]; done) | (simp only [*]; rfl)
          apply chainS_mid (by rfl)
          case h => (rintro w9 rfl; go_wp2_with fail; (try (fail; go_wp2_with fail)); refine settled_intro (S := fun w' => w' = (w5).drew) ?_; rfl)
          case h1 => (intro _; rintro w9 rfl; go_wp2_with fail; refine settled_intro (S := fun w' => w' = w5.drew) ?_; rfl)
          case hp => first | rfl | (simp only [*]; done) | (simp only [*]; rfl)
          apply chainS_mid (by rfl)
          case h => (rintro w9 rfl; go_wp2_with fail; (try (fail; go_wp2_with fail)); refine settled_intro (S := fun w' => w' = (w5).drew) ?_; rfl)
          case h1 => (intro _; rintro w9 rfl; go_wp2_with fail; refine settled_intro (S := fun w' => w' = w5.drew) ?_; rfl)
          case hp => first | rfl | (simp only [*]; done) | (simp only [*]; rfl)
          apply chainS_mid (by rfl)
          case h => (rintro w9 rfl; go_wp2_with fail; (try (fail; go_wp2_with fail)); refine settled_intro (S := fun w' => w' = (w5).drew) ?_; rfl)
          case h1 => (intro hk; exact absurd hk (by decide))
          case hp => first | rfl | (simp only [*]; done) | (simp only [*]; rfl)
          apply chainS_store (by rfl)
          case h => (rintro w9 rfl; go_wp2_with fail; refine settled_intro (S := fun w' => w' = w5.drew) ?_; rfl)
          case hp => first | rfl | (simp only [*]; done) | (simp only [*]; rfl)
          refine chainS.nil ?_
          rintro _ rfl
          (try dsimp only)
          go_wp2_with fail
          refine wp_region_store (fun w' => w' = (w5.drew).drew) (fun w' => w' = w5.drew.drew.setCell ⟨g', n.toNat, none⟩ (.int .i64 x)) 16 [] (by kernel_rfl) (by kernel_rfl) (by kernel_rfl) (by kernel_rfl) rfl ?_
          apply chainS_mid (by rfl)
          case h => (rintro w9 rfl; go_wp2_with fail; (try (fail; go_wp2_with fail)); refine settled_intro (S := fun w' => w' = (w5.drew).drew) ?_; rfl)
          case h1 => (intro hk; exact absurd hk (by decide))
          case hp => first | rfl | (simp only [*]; done) | (simp only [*]; rfl)
          apply chainS_mid (by rfl)
          case h => (rintro w9 rfl; go_wp2_with fail; (try (fail; go_wp2_with fail)); refine settled_intro (S := fun w' => w' = (w5.drew).drew) ?_; rfl)
          case h1 => (intro hk; exact absurd hk (by decide))
          case hp => first | rfl | (simp only [*]; done) | (simp only [*]; rfl)
          apply chainS_mid (by rfl)
          case h => (rintro w9 rfl; go_wp2_with fail; (try (fail; go_wp2_with fail)); refine settled_intro (S := fun w' => w' = (w5.drew).drew) ?_; rfl)
          case h1 => (intro hk; exact absurd hk (by decide))
          case hp => first | rfl | (simp only [*]; done) | (simp only [*]; rfl)
          apply chainS_mid (by rfl)
          case h => (rintro w9 rfl; go_wp2_with fail; (try (fail; go_wp2_with fail)); refine settled_intro (S := fun w' => w' = (w5.drew).drew) ?_; rfl)
          case h1 => (intro hk; exact absurd hk (by decide))
          case hp => first | rfl | (simp only [*]; done) | (simp only [*]; rfl)
          apply chainS_mid (by rfl)
          case h => (rintro w9 rfl; go_wp2_with fail; (try (fail; go_wp2_with fail)); refine settled_intro (S := fun w' => w' = (w5.drew).drew) ?_; rfl)
          case h1 => (intro hk; exact absurd hk (by decide))
          case hp => first | rfl | (simp only [*]; done) | (simp only [*]; rfl)
          apply chainS_mid (by rfl)
          case h => (rintro w9 rfl; go_wp2_with fail; (try (fail; go_wp2_with fail)); refine settled_intro (S := fun w' => w' = (w5.drew).drew) ?_; rfl)
          case h1 => (intro hk; exact absurd hk (by decide))
          case hp => first | rfl | (simp only [*]; done) | (simp only [*]; rfl)
          apply chainS_mid (by rfl)
          case h => (rintro w9 rfl; go_wp2_with fail; (try (fail; go_wp2_with fail)); refine settled_intro (S := fun w' => w' = (w5.drew).drew) ?_; rfl)
          case h1 => (intro hk; exact absurd hk (by decide))
          case hp => first | rfl | (simp only [*]; done) | (simp only [*]; rfl)
          apply chainS_mid (by rfl)
          case h => (rintro w9 rfl; go_wp2_with fail; (try (fail; go_wp2_with fail)); refine settled_intro (S := fun w' => w' = (w5.drew).drew) ?_; rfl)
          case h1 => (intro hk; exact absurd hk (by decide))
          case hp => first | rfl | (simp only [*]; done) | (simp only [*]; rfl)
          apply chainS_mid (by rfl)
          case h => (rintro w9 rfl; go_wp2_with fail; (try (fail; go_wp2_with fail)); refine settled_intro (S := fun w' => w' = (w5.drew).drew) ?_; rfl)
          case h1 => (intro hk; exact absurd hk (by decide))
          case hp => first | rfl | (simp only [*]; done) | (simp only [*]; rfl)
          apply chainS_mid (by rfl)
          case h => (rintro w9 rfl; go_wp2_with fail; (try (fail; go_wp2_with fail)); refine settled_intro (S := fun w' => w' = (w5.drew).drew) ?_; rfl)
          case h1 => (intro hk; exact absurd hk (by decide))
          case hp => first | rfl | (simp only [*]; done) | (simp only [*]; rfl)
          apply chainS_mid (by rfl)
          case h => (rintro w9 rfl; go_wp2_with fail; (try (fail; go_wp2_with fail)); refine settled_intro (S := fun w' => w' = (w5.drew).drew) ?_; rfl)
          case h1 => (intro hk; exact absurd hk (by decide))
          case hp => first | rfl | (simp only [*]; done) | (simp only [*]; rfl)
          apply chainS_mid (by rfl)
          case h => (rintro w9 rfl; go_wp2_with fail; (try (fail; go_wp2_with fail)); refine settled_intro (S := fun w' => w' = (w5.drew).drew) ?_; rfl)
          case h1 => (intro hk; exact absurd hk (by decide))
          case hp => first | rfl | (simp only [*]; done) | (simp only [*]; rfl)
          apply chainS_mid (by rfl)
          case h => (rintro w9 rfl; go_wp2_with fail; (try (fail; go_wp2_with fail)); refine settled_intro (S := fun w' => w' = (w5.drew).drew) ?_; rfl)
          case h1 => (intro hk; exact absurd hk (by decide))
          case hp => first | rfl | (simp only [*]; done) | (simp only [*]; rfl)
          apply chainS_mid (by rfl)
          case h => (rintro w9 rfl; go_wp2_with fail; (try (fail; go_wp2_with fail)); refine settled_intro (S := fun w' => w' = (w5.drew).drew) ?_; rfl)
          case h1 => (intro hk; exact absurd hk (by decide))
          case hp => first | rfl | (simp only [*]; done) | (simp only [*]; rfl)
          apply chainS_mid (by rfl)
          case h => (rintro w9 rfl; go_wp2_with fail; (try (fail; go_wp2_with fail)); refine settled_intro (S := fun w' => w' = (w5.drew).drew) ?_; rfl)
          case h1 => (intro hk; exact absurd hk (by decide))
          case hp => first | rfl | (simp only [*]; done) | (simp only [*]; rfl)
          apply chainS_mid (by rfl)
          case h => (rintro w9 rfl; go_wp2_with fail; (try (fail; go_wp2_with fail)); refine settled_intro (S := fun w' => w' = (w5.drew).drew) ?_; rfl)
          case h1 => (intro hk; exact absurd hk (by decide))
          case hp => first | rfl | (simp only [*]; done) | (simp only [*]; rfl)
          apply chainS_store (by rfl)
          case h => (rintro w9 rfl; go_wp2_with fail; refine settled_intro (S := fun w' => w' = w5.drew.drew.setCell ⟨g', n.toNat, none⟩ (.int .i64 x)) ?_; rfl)
          case hp => first | rfl | (simp only [*]; done) | (simp only [*]; rfl)
          refine chainS.nil ?_
          rintro _ rfl
          (try dsimp only)
          go_wp2_with fail
          exact HFIN.out _ _ (k + 1) _ (by push_cast; rfl) (((HSt.out.stays (Below.refl _ _).drew).stays (Below.refl _ _).drew).setA ha E8.out n.toNat x) (((HLk.out.stays (Below.refl _ _).drew).stays (Below.refl _ _).drew).aside _ _ _ hg3) (HB5.out.drew.drew.setCell (by show _ ≤ g'; omega) _) (by simp; omega) HSP.out
        · have HSP := Lib.hid (@Ev.step_store_out i k s h a ha hn)
          generalize Ev.val s.v i.a = n at *
          go_wp2_with fail
          refine wp_region_store (fun w' => w' = (w5).drew) (fun w' => w' = w5.drew) 11 [0, 1, 2, 3, 5, 6, 7, 8, 9] (by kernel_rfl) (by kernel_rfl) (by kernel_rfl) (by kernel_rfl) rfl ?_
          apply chainS_mid (by rfl)
          case h => (rintro w9 rfl; go_wp2_with fail; (try (fail; go_wp2_with fail)); refine settled_intro (S := fun w' => w' = (w5).drew) ?_; rfl)
          case h1 => (intro _; rintro w9 rfl; go_wp2_with fail; refine settled_intro (S := fun w' => w' = w5.drew) ?_; rfl)
          case hp => first | rfl | (simp only [*]; done) | (simp only [*]; rfl)
          apply chainS_mid (by rfl)
          case h => (rintro w9 rfl; go_wp2_with fail; (try (fail; go_wp2_with fail)); refine settled_intro (S := fun w' => w' = (w5).drew) ?_; rfl)
          case h1 => (intro _; rintro w9 rfl; go_wp2_with fail; refine settled_intro (S := fun w' => w' = w5.drew) ?_; rfl)
          case hp => first | rfl | (simp only [*]; done) | (simp only [*]; rfl)
          apply chainS_mid (by rfl)
          case h => (rintro w9 rfl; go_wp2_with fail; (try (fail; go_wp2_with fail)); refine settled_intro (S := fun w' => w' = (w5).drew) ?_; rfl)
          case h1 => (intro _; rintro w9 rfl; go_wp2_with fail; refine settled_intro (S := fun w' => w' = w5.drew) ?_; rfl)
          case hp => first | rfl | (simp only [*]; done) | (simp only [*]; rfl)
          apply chainS_mid (by rfl)
          case h => (rintro w9 rfl; go_wp2_with fail; (try (fail; go_wp2_with fail)); refine settled_intro (S := fun w' => w' = (w5).drew) ?_; rfl)
          case h1 => (intro _; rintro w9 rfl; go_wp2_with fail; refine settled_intro (S := fun w' => w' = w5.drew) ?_; rfl)
          case hp => first | rfl | (simp only [*]; done) | (simp only [*]; rfl)
          apply chainS_mid (by rfl)
          case h => (rintro w9 rfl; go_wp2_with fail; (try (fail; go_wp2_with fail)); refine settled_intro (S := fun w' => w' = (w5).drew) ?_; rfl)
          case h1 => (intro hk; exact absurd hk (by decide))
          case hp => first | rfl | (simp only [*]; done) | (simp only [*]; rfl)
          apply chainS_mid (by rfl)
          case h => (rintro w9 rfl; go_wp2_with fail; (try (fail; go_wp2_with fail)); refine settled_intro (S := fun w' => w' = (w5).drew) ?_; rfl)
          case h1 => (intro _; rintro w9 rfl; go_wp2_with fail; refine settled_intro (S := fun w' => w' = w5.drew) ?_; rfl)
          case hp => first | rfl | (simp only [*]; done) | (simp only [*]; rfl)
          apply chainS_mid (by rfl)
          case h => (rintro w9 rfl; go_wp2_with fail; (try (fail; go_wp2_with fail)); refine settled_intro (S := fun w' => w' = (w5).drew) ?_; rfl)
          case h1 => (intro _; rintro w9 rfl; go_wp2_with fail; refine settled_intro (S := fun w' => w' = w5.drew) ?_; rfl)
          case hp => first | rfl | (simp only [*]; done) | (simp only [*]; rfl)
          apply chainS_mid (by rfl)
          case h => (rintro w9 rfl; go_wp2_with fail; (try (fail; go_wp2_with fail)); refine settled_intro (S := fun w' => w' = (w5).drew) ?_; rfl)
          case h1 => (intro _; rintro w9 rfl; go_wp2_with fail; refine settled_intro (S := fun w' => w' = w5.drew) ?_; rfl)
          case hp => first | rfl | (simp only [*]; done) | (simp only [*]; rfl)
          apply chainS_mid (by rfl)
          case h => (rintro w9 rfl; go_wp2_with fail; (try (fail; go_wp2_with fail)); refine settled_intro (S := fun w' => w' = (w5).drew) ?_; rfl)
          case h1 => (intro _; rintro w9 rfl; go_wp2_with fail; refine settled_intro (S := fun w' => w' = w5.drew) ?_; rfl)
          case hp => first | rfl | (simp only [*]; done) | (simp only [*]; rfl)
          apply chainS_mid (by rfl)
          case h => (rintro w9 rfl; go_wp2_with fail; (try (fail; go_wp2_with fail)); refine settled_intro (S := fun w' => w' = (w5).drew) ?_; rfl)
          case h1 => (intro _; rintro w9 rfl; go_wp2_with fail; refine settled_intro (S := fun w' => w' = w5.drew) ?_; rfl)
          case hp => first | rfl | (simp only [*]; done) | (simp only [*]; rfl)
          apply chainS_mid (by rfl)
          case h => (rintro w9 rfl; go_wp2_with fail; (try (fail; go_wp2_with fail)); refine settled_intro (S := fun w' => w' = (w5).drew) ?_; rfl)
          case h1 => (intro hk; exact absurd hk (by decide))
          case hp => first | rfl | (simp only [*]; done) | (simp only [*]; rfl)
          apply chainS_store (by rfl)
          case h => (rintro w9 rfl; go_wp2_with fail; refine settled_intro (S := fun w' => w' = w5.drew) ?_; rfl)
          case hp => first | rfl | (simp only [*]; done) | (simp only [*]; rfl)
          refine chainS.nil ?_
          rintro _ rfl
          (try dsimp only)
          go_wp2_with fail
          exact HFIN.out _ _ (k + 1) _ (by push_cast; rfl) (HSt.out.stays (Below.refl _ _).drew) (HLk.out.stays (Below.refl _ _).drew) HB5.out.drew (by simp; omega) HSP.out
    · -- jump
      as_aux_lemma =>
        have hj := HSd.out.jump (.inl h)
        have HSP := Lib.hid (@Ev.step_jump i k s h)
        go_wp2_with fail
        exact HFIN.out _ _ i.imm.toNat _ (by congr 1; omega) HSt.out HLk.out HB5.out (by omega) HSP.out
    · -- zero
      as_aux_lemma =>
        have hj := HSd.out.jump (.inr h)
        have er : Ev.reads i = [i.a] := by unfold Ev.reads; rw [if_neg (by omega), if_neg (by omega), if_neg (by omega), if_pos (by omega)]
        have pa := HSd.out.reads i.a (by rw [er]; simp)
        have ca := HSt.out.cell (p := i.a) (by rw [HSL.out]; exact pa)
        clear er
        by_cases h0 : Ev.val s.v i.a = 0
        · have HSP := Lib.hid (@Ev.step_zero_yes i k s h h0)
          rw [h0] at ca
          go_wp2_with fail
          exact HFIN.out _ _ i.imm.toNat _ (by congr 1; omega) HSt.out HLk.out HB5.out (by omega) HSP.out
        · have HSP := Lib.hid (@Ev.step_zero_no i k s h h0)
          generalize Ev.val s.v i.a = n at *
          go_wp2_with fail
          exact HFIN.out _ _ (k + 1) _ (by push_cast; rfl) HSt.out HLk.out HB5.out (by omega) HSP.out
    · -- ret
      as_aux_lemma =>
        have er : Ev.reads i = [i.a] := by unfold Ev.reads; rw [if_neg (by omega), if_neg (by omega), if_neg (by omega), if_pos (by omega)]
        have pa := HSd.out.reads i.a (by rw [er]; simp)
        have ca := HSt.out.cell (p := i.a) (by rw [HSL.out]; exact pa)
        clear er
        have HR2 := Lib.hid (HEN.out (.inl h))
        obtain ⟨Ax, cx, rfl, _, _⟩ := SL.form (SL.of_own HSt.out.arrs.outer)
        have g0 : w5.cell? ⟨w.heap.size + 1 + 1 + 1, 0, none⟩ = some (.int .i64 0) := (HB5.out.cell (p := ⟨w.heap.size + 1 + 1 + 1, 0, none⟩) (by go_size)).trans (by go_simp)
        have g1 : w5.cell? ⟨w.heap.size + 1 + 1 + 1, 1, none⟩ = some (.bool false) := (HB5.out.cell (p := ⟨w.heap.size + 1 + 1 + 1, 1, none⟩) (by go_size)).trans (by go_simp)
        have g2 : w5.cell? ⟨w.heap.size + 1 + 1 + 1, 2, none⟩ = some (.slice none 0 0) := (HB5.out.cell (p := ⟨w.heap.size + 1 + 1 + 1, 2, none⟩) (by go_size)).trans (by go_simp)
        obtain ⟨kc5, kf5, s5⟩ := bfacts HB5.out
        go_wp2_with fail
        refine bodyPost_ret (v := .tuple #[.agg #[.int .i64 (Ev.val s.v i.a), .bool false, .slice Ax us.length cx], v5]) (by simp [results, Try.results41, go_sem, g0, g1, g2]) rfl ?_
        have hhi := HSt.out.le
        refine ⟨_, _, rfl, ?_, ?_, ?_⟩
        · rw [HR2.out.1]
          refine ⟨_, ?_, ((((HSt.out.arrs).aside (by omega)).aside (by omega)).aside (by omega)).reads⟩
          unfold Ev.endOf
          simp [h]
        · rw [HR2.out.2]
          exact (((HLk.out.aside _ _ _ (by omega)).aside _ _ _ (by omega)).aside _ _ _ (by omega)).reads
        · have hB6 : Below w.heap.size w w5 := by have := HB5.out; (repeat' (first | (with_reducible exact Below.refl _ _) | (with_reducible assumption) | (with_reducible refine Below.alloc ?_ ?_ _) | (with_reducible refine below_drewN ?_ _) | (with_reducible refine Below.drew ?_) | (with_reducible refine Below.setCell ?_ ?_ _) | (with_reducible refine Below.trans ?_ (Below.mono (by with_reducible assumption) ?_)) | go_size))
          (repeat' (first | (with_reducible exact Below.refl _ _) | (with_reducible assumption) | (with_reducible refine Below.alloc ?_ ?_ _) | (with_reducible refine below_drewN ?_ _) | (with_reducible refine Below.drew ?_) | (with_reducible refine Below.setCell ?_ ?_ _) | (with_reducible refine Below.trans ?_ (Below.mono (by with_reducible assumption) ?_)) | go_size))
    · -- trap
      as_aux_lemma =>
        have HR2 := Lib.hid (HEN.out (.inr h))
        obtain ⟨Ax, cx, rfl, _, _⟩ := SL.form (SL.of_own HSt.out.arrs.outer)
        have g0 : w5.cell? ⟨w.heap.size + 1 + 1 + 1, 0, none⟩ = some (.int .i64 0) := (HB5.out.cell (p := ⟨w.heap.size + 1 + 1 + 1, 0, none⟩) (by go_size)).trans (by go_simp)
        have g1 : w5.cell? ⟨w.heap.size + 1 + 1 + 1, 1, none⟩ = some (.bool false) := (HB5.out.cell (p := ⟨w.heap.size + 1 + 1 + 1, 1, none⟩) (by go_size)).trans (by go_simp)
        have g2 : w5.cell? ⟨w.heap.size + 1 + 1 + 1, 2, none⟩ = some (.slice none 0 0) := (HB5.out.cell (p := ⟨w.heap.size + 1 + 1 + 1, 2, none⟩) (by go_size)).trans (by go_simp)
        obtain ⟨kc5, kf5, s5⟩ := bfacts HB5.out
        go_wp2_with fail
        refine bodyPost_ret (v := .tuple #[.agg #[.int .i64 0, .bool true, .slice Ax us.length cx], v5]) (by simp [results, Try.results41, go_sem, g0, g1, g2]) rfl ?_
        have hhi := HSt.out.le
        refine ⟨_, _, rfl, ?_, ?_, ?_⟩
        · rw [HR2.out.1]
          refine ⟨_, ?_, ((((HSt.out.arrs).aside (by omega)).aside (by omega)).aside (by omega)).reads⟩
          unfold Ev.endOf
          simp [h]
        · rw [HR2.out.2]
          exact (((HLk.out.aside _ _ _ (by omega)).aside _ _ _ (by omega)).aside _ _ _ (by omega)).reads
        · have hB6 : Below w.heap.size w w5 := by have := HB5.out; (repeat' (first | (with_reducible exact Below.refl _ _) | (with_reducible assumption) | (with_reducible refine Below.alloc ?_ ?_ _) | (with_reducible refine below_drewN ?_ _) | (with_reducible refine Below.drew ?_) | (with_reducible refine Below.setCell ?_ ?_ _) | (with_reducible refine Below.trans ?_ (Below.mono (by with_reducible assumption) ?_)) | go_size))
          (repeat' (first | (with_reducible exact Below.refl _ _) | (with_reducible assumption) | (with_reducible refine Below.alloc ?_ ?_ _) | (with_reducible refine below_drewN ?_ _) | (with_reducible refine Below.drew ?_) | (with_reducible refine Below.setCell ?_ ?_ _) | (with_reducible refine Below.trans ?_ (Below.mono (by with_reducible assumption) ?_)) | go_size))
end Go.Proofs.Ytljcgcllhcdleaa
