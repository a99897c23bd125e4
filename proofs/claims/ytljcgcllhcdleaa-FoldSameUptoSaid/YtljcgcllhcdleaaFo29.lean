import Derived.Test.YtljcgcllhcdleaaFo28
import Derived.Test.YtljcgcllhcdleaaFo23
import Derived.Deep.DeepCutAuto
/- Chapter 7, the reference: what is seen of an instruction. -/
namespace Go.Proofs.Ytljcgcllhcdleaa
open Go.RowKit
set_option linter.unusedSimpArgs false
set_option linter.unusedVariables false
def whichR (t : List Int) (op : Int) (al : Bool) : Int := if al then Ev.most op else Ev.seenOf t op
theorem whichR_in {t : List Int} {i : Ev.Instr} {n : Nat} {al : Bool} (h1 : 1 ≤ i.op) (h17 : i.op ≤ 17) (h : SeenIn i n (whichOf t i.op al)) : SeenIn i n (whichR t i.op al) := by
  unfold whichOf whichR at *
  cases al with
  | false => simpa [h17] using h
  | true =>
    simp only [if_true] at h ⊢
    unfold Ev.most
    by_cases h16 : i.op = 16
    · rw [if_pos h16]
      have ha : Ev.all i.op = 3 := by unfold Ev.all; rw [if_neg (by omega), if_neg (by omega), if_neg (by omega), if_pos h16]
      rw [ha] at h
      refine ⟨by decide, fun k hk hb => ?_, h.2.2⟩
      have : k = 0 := (by decide : ∀ k, k < 3 → Ev.hasBit 1 k = true → k = 0) k hk hb
      subst this
      exact h.2.1 0 (by decide) (by decide)
    · rw [if_neg h16]; exact h
theorem whichR_seen {t : List Int} {i : Ev.Instr} {v : List Int} {al : Bool} (h1 : 1 ≤ i.op) (h17 : i.op ≤ 17) : Ev.seen t i v al = seenTo i v (whichR t i.op al) 3 := by
  rw [seen_eq t i v al h1, if_neg (by omega), List.append_nil]
  unfold whichOf whichR
  cases al with
  | false => simp [h17]
  | true =>
    simp only [if_true]
    unfold Ev.most
    by_cases h16 : i.op = 16
    · rw [if_pos h16]
      have ha : Ev.all i.op = 3 := by unfold Ev.all; rw [if_neg (by omega), if_neg (by omega), if_neg (by omega), if_pos h16]
      rw [ha]
      simp only [seenTo, seenAt, h16]
      rfl
    · rw [if_neg h16]
theorem eightS {P : Int → Prop} {x : Int} (h : 0 ≤ x ∧ x ≤ 7) (h0 : P 0) (h1 : P 1) (h2 : P 2) (h3 : P 3) (h4 : P 4) (h5 : P 5) (h6 : P 6) (h7 : P 7) : P x := by
  rcases (show x = 0 ∨ x = 1 ∨ x = 2 ∨ x = 3 ∨ x = 4 ∨ x = 5 ∨ x = 6 ∨ x = 7 by omega) with rfl | rfl | rfl | rfl | rfl | rfl | rfl | rfl <;> assumption
/-- the reference's three tests -/
theorem bit0_is {x : Int} (h : 0 ≤ x ∧ x ≤ 7) : (x % 2 == 1) = Ev.hasBit x 0 := by
  revert x; intro x h; exact eightS (P := fun x => (x % 2 == 1) = Ev.hasBit x 0) h rfl rfl rfl rfl rfl rfl rfl rfl
theorem bit1_is {x : Int} (h : 0 ≤ x ∧ x ≤ 7) : (x / 2 % 2 == 1) = Ev.hasBit x 1 := by
  revert x; intro x h; exact eightS (P := fun x => (x / 2 % 2 == 1) = Ev.hasBit x 1) h rfl rfl rfl rfl rfl rfl rfl rfl
theorem bit2_is {x : Int} (h : 0 ≤ x ∧ x ≤ 7) : (x / 4 % 2 == 1) = Ev.hasBit x 2 := by
  revert x; intro x h; exact eightS (P := fun x => (x / 4 % 2 == 1) = Ev.hasBit x 2) h rfl rfl rfl rfl rfl rfl rfl rfl
set_option maxRecDepth 8000 in
set_option maxHeartbeats 3200000 in
theorem refSeen_any (t : List Int) (i : Ev.Instr) (v : List Int) (al : Bool) (vv : Value) (w : World) (ht : t.length = 18) (hv : RInts w w.heap.size vv v) (hin : SeenIn i v.length (whichOf t i.op al)) :
    Calls Try.prog 40 #[tableV t, .agg #[.int .i64 i.op, .int .i64 i.d, .int .i64 i.a, .int .i64 i.b, .int .i64 i.c, .int .i64 i.imm], vv, .bool al] w fun e w' => ∃ v', e = .returned v' ∧ w'.ownsRow w.heap.size 3 1 v' (Ev.seen t i v al).length ((Ev.seen t i v al).map (Value.int .i64)) ∧ Below w.heap.size w w' := by
  have HV := Lib.hid hv
  obtain ⟨i0, hi0, hz0, hz1, hz2⟩ := info_parts int_info
  have II := Lib.hid (⟨hi0, hz0, hz1, hz2⟩ : _ ∧ _ ∧ _ ∧ _)
  clear hv hi0 hz0 hz1 hz2
  have HT := Lib.hid (box_table (w := w) ht 29)
  have c0 := fun (h : 1 ≤ i.op ∧ i.op ≤ 17) => HT.out.cell i.op.toNat (by omega)
  have HC0 := Lib.hid c0
  have HIN := Lib.hid hin
  clear c0 hin
  unfold tableV
  generalize hta : (t.map (Value.int .i64)).toArray = ta at *
  clear hta
  by_cases h19 : i.op = 19
  case pos =>
    have hp : inR v.length i.a := HIN.out.2.2 h19
    have hres : Ev.seen t i v al = [Ev.val v i.a] := by unfold Ev.seen; rw [if_pos h19]
    have HRES := Lib.hid hres
    clear hres
    generalize Ev.seen t i v al = res at *
    obtain ⟨vb, vo, vc', hvv, hvb, hlc, hcm, hcell⟩ := HV.out.val hp
    subst hvv
    obtain ⟨hp0, hp1⟩ := hp
    unfold maxLen at hcm
    generalize Ev.val v i.a = x at *
    go_enter Try.func40, Try.ntmps40
    go_wp2
    go_ret
    refine ⟨_, rfl, ?_, by (repeat' first | with_reducible (first | exact Below.refl _ _ | assumption | refine Below.alloc ?_ ?_ _ | refine below_drewN ?_ _ | refine Below.drew ?_ | refine Below.setCell ?_ ?_ _ | refine Below.trans ?_ (Below.mono (by with_reducible assumption) ?_)) | go_size)⟩
    rw [HRES.out]
    have hh := heap_alloc_new ((w.alloc (.cells ta 29)).alloc (.cells #[.int .i64 i.op, .int .i64 i.d, .int .i64 i.a, .int .i64 i.b, .int .i64 i.c, .int .i64 i.imm] 39)) (.cells #[.int .i64 x] 3)
    rw [h19] at hh
    exact own_of_full (by simpa using hh) rfl (by go_size) (by decide)
  by_cases h17 : 1 ≤ i.op ∧ i.op ≤ 17
  case neg =>
    have hres : Ev.seen t i v al = [] := by unfold Ev.seen; rw [if_neg h19, if_pos h17]
    have HRES := Lib.hid hres
    clear hres
    generalize Ev.seen t i v al = res at *
    obtain ⟨Av, cv, rfl, _, _⟩ := SL.form HV.out
    rcases (show i.op < 1 ∨ (1 ≤ i.op ∧ 17 < i.op) by omega) with h | h
    all_goals
      go_enter Try.func40, Try.ntmps40
      go_wp2
      go_ret
      refine ⟨_, rfl, ?_, by (repeat' first | with_reducible (first | exact Below.refl _ _ | assumption | refine Below.alloc ?_ ?_ _ | refine below_drewN ?_ _ | refine Below.drew ?_ | refine Below.setCell ?_ ?_ _ | refine Below.trans ?_ (Below.mono (by with_reducible assumption) ?_)) | go_size)⟩
      rw [HRES.out]
      exact World.ownsRow_nil _ _ _ _
  obtain ⟨g1, g17⟩ := h17
  have hsi := whichR_in g1 g17 HIN.out
  have hse := whichR_seen (t := t) (v := v) (al := al) g1 g17
  rw [hse]
  clear hse
  have HW := Lib.hid (show whichR t i.op al = if al then Ev.most i.op else Ev.seenOf t i.op from rfl)
  generalize whichR t i.op al = wr at *
  have HSI := Lib.hid hsi
  clear hsi
  have ct := HC0.out ⟨g1, g17⟩
  rw [show t.getD i.op.toNat 0 = Ev.seenOf t i.op from rfl] at ct
  generalize Ev.seenOf t i.op = ts at *
  have cm : (Ev.opsMost.map (Value.int .i64)).toArray[i.op.toNat]? = some (.int .i64 (Ev.most i.op)) := by
    have h := Ev.opsMost_at i.op.toNat (by omega)
    rw [show ((i.op.toNat : Nat) : Int) = i.op by omega] at h
    rw [List.getElem?_toArray, List.getElem?_map, h]
    rfl
  obtain ⟨om, hom⟩ : ∃ om, (Ev.opsMost.map (Value.int .i64)).toArray = om := ⟨_, rfl⟩
  rw [hom] at cm
  generalize Ev.most i.op = mo at *
  obtain ⟨Av, cv, rfl, hav1, hav2⟩ := SL.form HV.out
  unfold maxLen at hav2
  have HOM := Lib.hid hom
  clear HIN HC0 hom
  go_enter Try.func40, Try.ntmps40
  go_wp2_with fail
  refine (ops_any _).mono ?_
  rintro e w1 ⟨rfl, S, rfl⟩
  rw [HOM.out]
  have cmm : ((((w.alloc (.cells ta 29)).alloc (.cells #[.int .i64 i.op, .int .i64 i.d, .int .i64 i.a, .int .i64 i.b, .int .i64 i.c, .int .i64 i.imm] 39)).alloc S).alloc (.cells om 3)).cell? ⟨w.heap.size + 1 + 1 + 1, i.op.toNat, none⟩ = some (.int .i64 mo) := by
    go_simp
  have ctt : ((((w.alloc (.cells ta 29)).alloc (.cells #[.int .i64 i.op, .int .i64 i.d, .int .i64 i.a, .int .i64 i.b, .int .i64 i.c, .int .i64 i.imm] 39)).alloc S).alloc (.cells om 3)).cell? ⟨w.heap.size, i.op.toNat, none⟩ = some (.int .i64 ts) := by
    have hBt : Below (w.heap.size + 1) (w.alloc (.cells ta 29)) ((((w.alloc (.cells ta 29)).alloc (.cells #[.int .i64 i.op, .int .i64 i.d, .int .i64 i.a, .int .i64 i.b, .int .i64 i.c, .int .i64 i.imm] 39)).alloc S).alloc (.cells om 3)) := by (repeat' first | with_reducible (first | exact Below.refl _ _ | assumption | refine Below.alloc ?_ ?_ _ | refine below_drewN ?_ _ | refine Below.drew ?_ | refine Below.setCell ?_ ?_ _ | refine Below.trans ?_ (Below.mono (by with_reducible assumption) ?_)) | go_size)
    exact (hBt.cell (p := ⟨w.heap.size, i.op.toNat, none⟩) (by go_size)).trans ct
  have bx0 : ((((w.alloc (.cells ta 29)).alloc (.cells #[.int .i64 i.op, .int .i64 i.d, .int .i64 i.a, .int .i64 i.b, .int .i64 i.c, .int .i64 i.imm] 39)).alloc S).alloc (.cells om 3)).cell? ⟨w.heap.size + 1, 0, none⟩ = some (.int .i64 i.op) := by go_simp
  have bx1 : ((((w.alloc (.cells ta 29)).alloc (.cells #[.int .i64 i.op, .int .i64 i.d, .int .i64 i.a, .int .i64 i.b, .int .i64 i.c, .int .i64 i.imm] 39)).alloc S).alloc (.cells om 3)).cell? ⟨w.heap.size + 1, 1, none⟩ = some (.int .i64 i.d) := by go_simp
  have bx2 : ((((w.alloc (.cells ta 29)).alloc (.cells #[.int .i64 i.op, .int .i64 i.d, .int .i64 i.a, .int .i64 i.b, .int .i64 i.c, .int .i64 i.imm] 39)).alloc S).alloc (.cells om 3)).cell? ⟨w.heap.size + 1, 2, none⟩ = some (.int .i64 i.a) := by go_simp
  have bx3 : ((((w.alloc (.cells ta 29)).alloc (.cells #[.int .i64 i.op, .int .i64 i.d, .int .i64 i.a, .int .i64 i.b, .int .i64 i.c, .int .i64 i.imm] 39)).alloc S).alloc (.cells om 3)).cell? ⟨w.heap.size + 1, 3, none⟩ = some (.int .i64 i.b) := by go_simp
  have bx4 : ((((w.alloc (.cells ta 29)).alloc (.cells #[.int .i64 i.op, .int .i64 i.d, .int .i64 i.a, .int .i64 i.b, .int .i64 i.c, .int .i64 i.imm] 39)).alloc S).alloc (.cells om 3)).cell? ⟨w.heap.size + 1, 4, none⟩ = some (.int .i64 i.c) := by go_simp
  have sA : ((((w.alloc (.cells ta 29)).alloc (.cells #[.int .i64 i.op, .int .i64 i.d, .int .i64 i.a, .int .i64 i.b, .int .i64 i.c, .int .i64 i.imm] 39)).alloc S).alloc (.cells om 3)).heap.size = w.heap.size + 1 + 1 + 1 + 1 := by simp
  have BWA := Lib.hid (show Below w.heap.size w ((((w.alloc (.cells ta 29)).alloc (.cells #[.int .i64 i.op, .int .i64 i.d, .int .i64 i.a, .int .i64 i.b, .int .i64 i.c, .int .i64 i.imm] 39)).alloc S).alloc (.cells om 3)) by (repeat' first | with_reducible (first | exact Below.refl _ _ | assumption | refine Below.alloc ?_ ?_ _ | refine below_drewN ?_ _ | refine Below.drew ?_ | refine Below.setCell ?_ ?_ _ | refine Below.trans ?_ (Below.mono (by with_reducible assumption) ?_)) | go_size))
  clear ct cm
  generalize hwA : (((w.alloc (.cells ta 29)).alloc (.cells #[.int .i64 i.op, .int .i64 i.d, .int .i64 i.a, .int .i64 i.b, .int .i64 i.c, .int .i64 i.imm] 39)).alloc S).alloc (.cells om 3) = wA at *
  clear hwA
  go_upto_if 39 with fail
  go_cut [11] (fun x wx => x = .int .i64 wr ∧ wA = wx)
  case first =>
    cases al
    · have h := HW.out
      rw [if_neg (by decide)] at h
      go_wp2_with fail
      go_meet
      exact ⟨by rw [h], rfl⟩
    · have h := HW.out
      rw [if_pos rfl] at h
      go_wp2_with fail
      go_meet
      exact ⟨by rw [h], rfl⟩
  case rest =>
  obtain ⟨rfl, rfl⟩ := hcut
  have t0 := bit0_is HSI.out.1
  have t1 := bit1_is HSI.out.1
  have t2 := bit2_is HSI.out.1
  have hw07 := HSI.out.1
  clear cmm ctt
  go_upto_region 9 with fail
  go_cut [12] (fun o wx => Hid (wx.ownsRow wA.heap.size 3 1 o (seenTo i v wr 0).length ((seenTo i v wr 0).map (Value.int .i64))) ∧ Below wA.heap.size wA wx)
  case first =>
    go_wp2_with fail
    go_meet
    exact ⟨World.ownsRow_nil _ _ _ _, Below.refl _ _⟩
  case rest =>
  obtain ⟨OW, hB⟩ := hcut
  have hs5 := hB.size
  have hBw : Below w.heap.size w wc := by have := BWA.out; (repeat' first | with_reducible (first | exact Below.refl _ _ | assumption | refine Below.alloc ?_ ?_ _ | refine below_drewN ?_ _ | refine Below.drew ?_ | refine Below.setCell ?_ ?_ _ | refine Below.trans ?_ (Below.mono (by with_reducible assumption) ?_)) | go_size)
  obtain ⟨kd, kg, sd⟩ := bfacts hBw
  have b0 : wc.cell? ⟨w.heap.size + 1, 0, none⟩ = some (.int .i64 i.op) := (hB.cell (p := ⟨w.heap.size + 1, 0, none⟩) (by go_size)).trans bx0
  have b1 : wc.cell? ⟨w.heap.size + 1, 1, none⟩ = some (.int .i64 i.d) := (hB.cell (p := ⟨w.heap.size + 1, 1, none⟩) (by go_size)).trans bx1
  have b2 : wc.cell? ⟨w.heap.size + 1, 2, none⟩ = some (.int .i64 i.a) := (hB.cell (p := ⟨w.heap.size + 1, 2, none⟩) (by go_size)).trans bx2
  have b3 : wc.cell? ⟨w.heap.size + 1, 3, none⟩ = some (.int .i64 i.b) := (hB.cell (p := ⟨w.heap.size + 1, 3, none⟩) (by go_size)).trans bx3
  have b4 : wc.cell? ⟨w.heap.size + 1, 4, none⟩ = some (.int .i64 i.c) := (hB.cell (p := ⟨w.heap.size + 1, 4, none⟩) (by go_size)).trans bx4
  have hl := seenTo_le i v wr 0
  have HE := Lib.hid (show seenTo i v wr (0 + 1) = seenTo i v wr 0 ++ seenAt i v wr 0 from rfl)
  go_upto_if 47 with fail
  go_cut [12] (fun o wx => Hid (wx.ownsRow wA.heap.size 3 1 o (seenTo i v wr 1).length ((seenTo i v wr 1).map (Value.int .i64))) ∧ Below wA.heap.size wA wx)
  case first =>
    cases hb : Ev.hasBit wr 0
    · rw [hb] at t0
      have HQ := Lib.hid (show seenAt i v wr 0 = [] by unfold seenAt; rw [hb]; rfl)
      have HN := Lib.hid (show seenTo i v wr (0 + 1) = seenTo i v wr 0 by rw [HE.out, HQ.out, List.append_nil])
      clear kd kg
      go_wp2_with fail
      go_meet
      exact ⟨by rw [HN.out]; exact OW, hB⟩

    · rw [hb] at t0
      have HQ := Lib.hid (show seenAt i v wr 0 = [Ev.val v i.a] by unfold seenAt; rw [hb, if_pos rfl, if_neg (by omega), if_neg (by omega)]; rfl)
      have hp : inR v.length i.a := (HSI.out.2.1 0 (by decide) hb).2 (by omega) (by omega)
      obtain ⟨vb, vo, vc', hvv, hvb, hlc, hcm, hcell⟩ := HV.out.val hp
      injection hvv with hA _ hcr
      subst hA hcr
      obtain ⟨hp0, hp1⟩ := hp
      have hcell2 : wc.cell? ⟨vb, vo + i.a.toNat, none⟩ = some (.int .i64 (Ev.val v i.a)) := (kd _ _ hvb).trans hcell
      clear kd kg
      generalize Ev.val v i.a = x at *
      go_wp2_with (at_builtin; refine wpList_append_own_at _ rfl (.tmp 48) (.tmp 54) _ rfl wA.heap.size 3 i0 (.int .i64 0) 1 8 Try.underlying42 II.out.1 II.out.2.1 II.out.2.2.1 II.out.2.2.2 rfl (by decide) _ _ _ rfl (OW.out.alloc _) ⟨wc.heap.size, 0, none⟩ 1 1 [.int .i64 x] rfl rfl (cell_one_new _ _ _) (fun x hx => by simp at hx; subst hx; rfl) (by unfold maxLen; omega) (by omega) (by simp; omega) ?_; intro v2 w2 hown2 hg2 hn2 hat2)
      replace hown2 : w2.ownsRow wA.heap.size 3 1 v2 (seenTo i v wr (0 + 1)).length ((seenTo i v wr (0 + 1)).map (Value.int .i64)) := by
        rw [HE.out, HQ.out, List.map_append, List.length_append]; exact hown2
      have hb2 := (hB.alloc (by omega) (.cells #[.int .i64 x] 3)).grown hg2 (by simp; omega) (fun q hq => (OW.out.lt q hq).1)
      go_wp2_with fail
      go_meet
      exact ⟨hown2, hb2⟩

  case rest =>
  clear HE hl b0 b1 b2 b3 b4 kd kg hBw hs5 OW hB sd
  obtain ⟨OW, hB⟩ := hcut
  have hs5 := hB.size
  have hBw : Below w.heap.size w wc := by have := BWA.out; (repeat' first | with_reducible (first | exact Below.refl _ _ | assumption | refine Below.alloc ?_ ?_ _ | refine below_drewN ?_ _ | refine Below.drew ?_ | refine Below.setCell ?_ ?_ _ | refine Below.trans ?_ (Below.mono (by with_reducible assumption) ?_)) | go_size)
  obtain ⟨kd, kg, sd⟩ := bfacts hBw
  have b0 : wc.cell? ⟨w.heap.size + 1, 0, none⟩ = some (.int .i64 i.op) := (hB.cell (p := ⟨w.heap.size + 1, 0, none⟩) (by go_size)).trans bx0
  have b1 : wc.cell? ⟨w.heap.size + 1, 1, none⟩ = some (.int .i64 i.d) := (hB.cell (p := ⟨w.heap.size + 1, 1, none⟩) (by go_size)).trans bx1
  have b2 : wc.cell? ⟨w.heap.size + 1, 2, none⟩ = some (.int .i64 i.a) := (hB.cell (p := ⟨w.heap.size + 1, 2, none⟩) (by go_size)).trans bx2
  have b3 : wc.cell? ⟨w.heap.size + 1, 3, none⟩ = some (.int .i64 i.b) := (hB.cell (p := ⟨w.heap.size + 1, 3, none⟩) (by go_size)).trans bx3
  have b4 : wc.cell? ⟨w.heap.size + 1, 4, none⟩ = some (.int .i64 i.c) := (hB.cell (p := ⟨w.heap.size + 1, 4, none⟩) (by go_size)).trans bx4
  have hl := seenTo_le i v wr 1
  have HE := Lib.hid (show seenTo i v wr (1 + 1) = seenTo i v wr 1 ++ seenAt i v wr 1 from rfl)
  obtain ⟨c64, hc64⟩ : ∃ c, c = (Ev.hasBit wr 1 && decide (i.op = 17)) := ⟨_, rfl⟩
  have HC64 := Lib.hid hc64
  clear hc64
  go_upto_region 12 with fail
  go_cut [64] (fun x wx => x = .bool c64 ∧ wc = wx)
  case first =>
    have h := HC64.out
    cases hb : Ev.hasBit wr 1
    · rw [hb] at t1 h
      go_wp2_with fail
      go_meet
      exact ⟨by rw [h]; rfl, rfl⟩
    · rw [hb] at t1 h
      by_cases h7 : i.op = 17
      · go_wp2_with fail
        go_meet
        exact ⟨by rw [h]; simp [h7], rfl⟩
      · go_wp2_with fail
        go_meet
        exact ⟨by rw [h]; simp [h7], rfl⟩
  case rest =>
  obtain ⟨rfl, rfl⟩ := hcut
  go_upto_if 64 with fail
  go_cut [12] (fun o wx => Hid (wx.ownsRow wA.heap.size 3 1 o (seenTo i v wr 2).length ((seenTo i v wr 2).map (Value.int .i64))) ∧ Below wA.heap.size wA wx)
  case first =>
    have h64 := HC64.out
    cases hb : Ev.hasBit wr 1
    · rw [hb] at t1 h64
      have h64' : c64 = false := by rw [h64]; rfl
      clear h64
      subst h64'
      have HQ := Lib.hid (show seenAt i v wr 1 = [] by unfold seenAt; rw [hb]; rfl)
      have HN := Lib.hid (show seenTo i v wr (1 + 1) = seenTo i v wr 1 by rw [HE.out, HQ.out, List.append_nil])
      clear kd kg
      go_wp2_with fail
      go_meet
      exact ⟨by rw [HN.out]; exact OW, hB⟩

    · rw [hb] at t1 h64
      by_cases h7 : i.op = 17
      · have h64' : c64 = true := by rw [h64]; simp [h7]
        subst h64'
        have HQ := Lib.hid (show seenAt i v wr 1 = [Ev.val v i.d] by unfold seenAt; rw [hb, if_pos rfl, if_pos ⟨h7, rfl⟩])
        have hp : inR v.length i.d := (HSI.out.2.1 1 (by decide) hb).1 ⟨h7, rfl⟩
        clear h7 h64
        obtain ⟨vb, vo, vc', hvv, hvb, hlc, hcm, hcell⟩ := HV.out.val hp
        injection hvv with hA _ hcr
        subst hA hcr
        obtain ⟨hp0, hp1⟩ := hp
        have hcell2 : wc.cell? ⟨vb, vo + i.d.toNat, none⟩ = some (.int .i64 (Ev.val v i.d)) := (kd _ _ hvb).trans hcell
        clear kd kg
        generalize Ev.val v i.d = x at *
        go_wp2_with (at_builtin; refine wpList_append_own_at _ rfl (.tmp 65) (.tmp 71) _ rfl wA.heap.size 3 i0 (.int .i64 0) 1 8 Try.underlying42 II.out.1 II.out.2.1 II.out.2.2.1 II.out.2.2.2 rfl (by decide) _ _ _ rfl (OW.out.alloc _) ⟨wc.heap.size, 0, none⟩ 1 1 [.int .i64 x] rfl rfl (cell_one_new _ _ _) (fun x hx => by simp at hx; subst hx; rfl) (by unfold maxLen; omega) (by omega) (by simp; omega) ?_; intro v2 w2 hown2 hg2 hn2 hat2)
        replace hown2 : w2.ownsRow wA.heap.size 3 1 v2 (seenTo i v wr (1 + 1)).length ((seenTo i v wr (1 + 1)).map (Value.int .i64)) := by
          rw [HE.out, HQ.out, List.map_append, List.length_append]; exact hown2
        have hb2 := (hB.alloc (by omega) (.cells #[.int .i64 x] 3)).grown hg2 (by simp; omega) (fun q hq => (OW.out.lt q hq).1)
        go_wp2_with fail
        go_meet
        exact ⟨hown2, hb2⟩

      · have h64' : c64 = false := by rw [h64]; simp [h7]
        subst h64'
        by_cases h6 : i.op = 16
        · have HQ := Lib.hid (show seenAt i v wr 1 = [] by unfold seenAt; rw [hb, if_pos rfl, if_neg (by omega), if_pos ⟨h6, rfl⟩])
          have g6 : (i.op != 16) = false := by simp [h6]
          clear h6 h7 h64
          have HN := Lib.hid (show seenTo i v wr (1 + 1) = seenTo i v wr 1 by rw [HE.out, HQ.out, List.append_nil])
          clear kd kg
          go_wp2_with fail
          go_meet
          exact ⟨by rw [HN.out]; exact OW, hB⟩

        · have HQ := Lib.hid (show seenAt i v wr 1 = [Ev.val v i.b] by unfold seenAt; rw [hb, if_pos rfl, if_neg (by omega), if_neg (by omega)]; rfl)
          have hp : inR v.length i.b := (HSI.out.2.1 1 (by decide) hb).2 (by omega) (by omega)
          have g6 : (i.op != 16) = true := by simp [h6]
          clear h6 h7 h64
          obtain ⟨vb, vo, vc', hvv, hvb, hlc, hcm, hcell⟩ := HV.out.val hp
          injection hvv with hA _ hcr
          subst hA hcr
          obtain ⟨hp0, hp1⟩ := hp
          have hcell2 : wc.cell? ⟨vb, vo + i.b.toNat, none⟩ = some (.int .i64 (Ev.val v i.b)) := (kd _ _ hvb).trans hcell
          clear kd kg
          generalize Ev.val v i.b = x at *
          go_wp2_with (at_builtin; refine wpList_append_own_at _ rfl (.tmp 82) (.tmp 88) _ rfl wA.heap.size 3 i0 (.int .i64 0) 1 8 Try.underlying42 II.out.1 II.out.2.1 II.out.2.2.1 II.out.2.2.2 rfl (by decide) _ _ _ rfl (OW.out.alloc _) ⟨wc.heap.size, 0, none⟩ 1 1 [.int .i64 x] rfl rfl (cell_one_new _ _ _) (fun x hx => by simp at hx; subst hx; rfl) (by unfold maxLen; omega) (by omega) (by simp; omega) ?_; intro v2 w2 hown2 hg2 hn2 hat2)
          replace hown2 : w2.ownsRow wA.heap.size 3 1 v2 (seenTo i v wr (1 + 1)).length ((seenTo i v wr (1 + 1)).map (Value.int .i64)) := by
            rw [HE.out, HQ.out, List.map_append, List.length_append]; exact hown2
          have hb2 := (hB.alloc (by omega) (.cells #[.int .i64 x] 3)).grown hg2 (by simp; omega) (fun q hq => (OW.out.lt q hq).1)
          go_wp2_with fail
          go_meet
          exact ⟨hown2, hb2⟩

  case rest =>
  clear HE hl b0 b1 b2 b3 b4 kd kg hBw hs5 OW hB sd
  obtain ⟨OW, hB⟩ := hcut
  have hs5 := hB.size
  have hBw : Below w.heap.size w wc := by have := BWA.out; (repeat' first | with_reducible (first | exact Below.refl _ _ | assumption | refine Below.alloc ?_ ?_ _ | refine below_drewN ?_ _ | refine Below.drew ?_ | refine Below.setCell ?_ ?_ _ | refine Below.trans ?_ (Below.mono (by with_reducible assumption) ?_)) | go_size)
  obtain ⟨kd, kg, sd⟩ := bfacts hBw
  have b0 : wc.cell? ⟨w.heap.size + 1, 0, none⟩ = some (.int .i64 i.op) := (hB.cell (p := ⟨w.heap.size + 1, 0, none⟩) (by go_size)).trans bx0
  have b1 : wc.cell? ⟨w.heap.size + 1, 1, none⟩ = some (.int .i64 i.d) := (hB.cell (p := ⟨w.heap.size + 1, 1, none⟩) (by go_size)).trans bx1
  have b2 : wc.cell? ⟨w.heap.size + 1, 2, none⟩ = some (.int .i64 i.a) := (hB.cell (p := ⟨w.heap.size + 1, 2, none⟩) (by go_size)).trans bx2
  have b3 : wc.cell? ⟨w.heap.size + 1, 3, none⟩ = some (.int .i64 i.b) := (hB.cell (p := ⟨w.heap.size + 1, 3, none⟩) (by go_size)).trans bx3
  have b4 : wc.cell? ⟨w.heap.size + 1, 4, none⟩ = some (.int .i64 i.c) := (hB.cell (p := ⟨w.heap.size + 1, 4, none⟩) (by go_size)).trans bx4
  have hl := seenTo_le i v wr 2
  have HE := Lib.hid (show seenTo i v wr (2 + 1) = seenTo i v wr 2 ++ seenAt i v wr 2 from rfl)
  cases hb : Ev.hasBit wr 2
  · rw [hb] at t2
    have HQ := Lib.hid (show seenAt i v wr 2 = [] by unfold seenAt; rw [hb]; rfl)
    have HN := Lib.hid (show seenTo i v wr (2 + 1) = seenTo i v wr 2 by rw [HE.out, HQ.out, List.append_nil])
    clear kd kg
    go_wp2
    go_ret
    exact ⟨_, rfl, own_less (by rw [HN.out]; exact OW.out) (by omega), by have := BWA.out; (repeat' first | with_reducible (first | exact Below.refl _ _ | assumption | refine Below.alloc ?_ ?_ _ | refine below_drewN ?_ _ | refine Below.drew ?_ | refine Below.setCell ?_ ?_ _ | refine Below.trans ?_ (Below.mono (by with_reducible assumption) ?_)) | go_size)⟩

  · rw [hb] at t2
    have HQ := Lib.hid (show seenAt i v wr 2 = [Ev.val v i.c] by unfold seenAt; rw [hb, if_pos rfl, if_neg (by omega), if_neg (by omega)]; rfl)
    have hp : inR v.length i.c := (HSI.out.2.1 2 (by decide) hb).2 (by omega) (by omega)
    obtain ⟨vb, vo, vc', hvv, hvb, hlc, hcm, hcell⟩ := HV.out.val hp
    injection hvv with hA _ hcr
    subst hA hcr
    obtain ⟨hp0, hp1⟩ := hp
    have hcell2 : wc.cell? ⟨vb, vo + i.c.toNat, none⟩ = some (.int .i64 (Ev.val v i.c)) := (kd _ _ hvb).trans hcell
    clear kd kg
    generalize Ev.val v i.c = x at *
    go_wp2_with (at_builtin; refine wpList_append_own_at _ rfl (.tmp 94) (.tmp 100) _ rfl wA.heap.size 3 i0 (.int .i64 0) 1 8 Try.underlying42 II.out.1 II.out.2.1 II.out.2.2.1 II.out.2.2.2 rfl (by decide) _ _ _ rfl (OW.out.alloc _) ⟨wc.heap.size, 0, none⟩ 1 1 [.int .i64 x] rfl rfl (cell_one_new _ _ _) (fun x hx => by simp at hx; subst hx; rfl) (by unfold maxLen; omega) (by omega) (by simp; omega) ?_; intro v2 w2 hown2 hg2 hn2 hat2)
    replace hown2 : w2.ownsRow wA.heap.size 3 1 v2 (seenTo i v wr (2 + 1)).length ((seenTo i v wr (2 + 1)).map (Value.int .i64)) := by
      rw [HE.out, HQ.out, List.map_append, List.length_append]; exact hown2
    have hb2 := (hB.alloc (by omega) (.cells #[.int .i64 x] 3)).grown hg2 (by simp; omega) (fun q hq => (OW.out.lt q hq).1)
    go_wp2
    go_ret
    exact ⟨_, rfl, own_less hown2 (by omega), by have := BWA.out; (repeat' first | with_reducible (first | exact Below.refl _ _ | assumption | refine Below.alloc ?_ ?_ _ | refine below_drewN ?_ _ | refine Below.drew ?_ | refine Below.setCell ?_ ?_ _ | refine Below.trans ?_ (Below.mono (by with_reducible assumption) ?_)) | go_size)⟩

end Go.Proofs.Ytljcgcllhcdleaa
