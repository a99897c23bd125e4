import Derived.Test.YtpbflgemhcaooaaDoorLb22
import Derived.Test.YtpbflgemhcaooaaDoorLb25
import Derived.Test.YtpbflgemhcaooaaDoorLb23
/- evlaw4's own functions: all. -/
namespace Go.Proofs.YtpbflgemhcaooaaDoor
open Go.RowKit
set_option linter.unusedSimpArgs false
set_option linter.unusedVariables false
/-- statements in memory, in blocks of K, or new ones -/
def Hv.sts (d lo : Nat) (K : Nat → Prop) (l : List Ev.St1) : Hv where
  R v w := RStL d w (fun k => K k ∨ (lo ≤ k ∧ k < w.heap.size)) v l
  ok v := ∃ A c, v = .slice A l.length c
  imp v w h := RStL.slice h
  dum := ⟨_, none, 0, rfl⟩
  stay v w w' hb h := RStL.wide (fun k hk => hk.imp id (fun hk => ⟨hk.1, Nat.lt_of_lt_of_le hk.2 hb.size⟩)) d v l (RStL.on h hb)
theorem st_push {w1 w3 : World} {lo d : Nat} {va v3 : Value} {l : List Ev.St1} {vs : List V3} {t : Ev.St1} {x : V3} {K : Nat → Prop} {o : Obj} (hv1 : vs.length = l.length) (hv3 : ∀ (j : Nat) t x, l[j]? = some t → vs[j]? = some x → RParts d w1 (fun k => K k ∧ k < w1.heap.size ∧ va.ownBlock ≠ some k) t x)
    (hx : RParts d w1 (fun k => K k ∧ k < w1.heap.size ∧ va.ownBlock ≠ some k) t x) (hg : (w1.alloc o).grownBy w3 va.ownBlock) (hown : w3.ownsRow lo 109 7 v3 (l.length + 1) (stCells l vs ++ st7 t x)) (hat : v3.ownBlock = va.ownBlock ∨ v3.ownBlock = some (w1.heap.size + 1)) : StRow w3 lo K d v3 (l ++ [t]) := by
  have hs : w1.heap.size + 1 ≤ w3.heap.size := by have := hg.size; simpa using this
  have bl : ∀ k, (K k ∧ k < w1.heap.size ∧ va.ownBlock ≠ some k) → k < w1.heap.size → w3.heap[k]? = w1.heap[k]? := fun k hk hkl => (hg.block k (by simp; omega) (fun e => hk.2.2 e.symm)).trans (Below.heap_alloc w1 o k hkl)
  have wd : ∀ k, (K k ∧ k < w1.heap.size ∧ va.ownBlock ≠ some k) → (K k ∧ k < w3.heap.size ∧ v3.ownBlock ≠ some k) := fun k hk => ⟨hk.1, by omega, fun e => by
    rcases hat with h | h
    · exact hk.2.2 (h ▸ e)
    · rw [h] at e
      injection e with e
      omega⟩
  refine ⟨vs ++ [x], by simp [hv1], ?_, fun j t' x' ht hx' => ?_⟩
  · rw [stCells_snoc l vs t x hv1]
    simpa using hown
  · by_cases hj : j < l.length
    · rw [List.getElem?_append_left hj] at ht
      rw [List.getElem?_append_left (by omega)] at hx'
      exact ((hv3 j t' x' ht hx').keep (by omega) bl).wide wd
    · have hj2 : j = l.length := by
        have := (List.getElem?_eq_some_iff.1 ht).1
        simp at this
        omega
      subst hj2
      rw [List.getElem?_append_right (Nat.le_refl _), Nat.sub_self] at ht
      rw [← hv1, List.getElem?_append_right (Nat.le_refl _), Nat.sub_self] at hx'
      simp at ht hx'
      subst ht hx'
      exact (hx.keep (by omega) bl).wide wd
theorem cell_seven_mk (w : World) (t : Ev.St1) (x : V3) (T : TypeId) : ∀ j u, (st7 t x)[j]? = some u → (w.alloc (.cells (st7 t x).toArray T)).cell? ((⟨w.heap.size, 0, none⟩ : Addr).add j) = some u := cells_of_block (heap_alloc_new w (.cells (st7 t x).toArray T))
def AllDo (d : Nat) : Prop := ∀ (l : List Ev.St1) (v : Value) (w : World) (K0 : Nat → Prop), (∀ k, K0 k → k < w.heap.size) → RStL d w K0 v l → l.length ≤ 1201 → (∀ s ∈ l, Ev.Sm s) →
  Calls Tryd.prog 19 #[v, .bool false] w fun e w' => ∃ v', e = .returned v' ∧ RStL d w' (fun k => K0 k ∨ (w.heap.size ≤ k ∧ k < w'.heap.size)) v' (Ev.pubL l) ∧ Below w.heap.size w w'
set_option maxRecDepth 8000 in
set_option maxHeartbeats 6400000 in
theorem all4_any (d : Nat) (ih : ∀ d', d = d' + 1 → AllDo d') : AllDo d := by
  intro l v w K0 hK0 h hl hsm
  obtain ⟨A, c, rfl⟩ := h.slice
  have H := Lib.hid h
  have HK := Lib.hid hK0
  have HSM := Lib.hid hsm
  obtain ⟨dd, hdd⟩ : ∃ dd, d - 1 = dd := ⟨_, rfl⟩
  have HDD := Lib.hid hdd
  clear h hK0 hsm hdd
  go_enter Tryd.func19, Tryd.ntmps19
  obtain ⟨i3, hi1, hz0, hz1, hz2⟩ := info_parts Tryd.stmtInfo
  have IV := Lib.hid (⟨hi1, hz0, hz1, hz2⟩ : _ ∧ _ ∧ _ ∧ _)
  clear hi1 hz0 hz1 hz2
  go_upto_region 3 with fail
  go_loopw [10, 5] (fun ii vv wr => ∃ (M : List Ev.St1), M.length ≤ l.length ∧ ii = .int .i64 (M.length : Int) ∧ Hid (M = Ev.pubL (l.take M.length)) ∧ Hid (StRow wr w.heap.size (fun k => K0 k ∨ w.heap.size ≤ k) dd vv M) ∧ Hid (M = [] → vv = .slice none 0 0) ∧ Below w.heap.size w wr) (fun ii _ _ => l.length - (intOf ii).toNat)
  case atStart => exact ⟨[], by simp, rfl, Lib.hid (by rw [List.length_nil, List.take_zero, Ev.pubL]), Lib.hid (StRow.nil_ _ _ _ _), Lib.hid (fun _ => rfl), by (repeat' first | with_reducible (first | exact Below.refl _ _ | assumption | refine Below.alloc ?_ ?_ _ | refine below_drewN ?_ _ | refine Below.drew ?_ | refine Below.setCell ?_ ?_ _ | refine Below.trans ?_ (Below.mono (by with_reducible assumption) ?_)) | go_size)⟩
  case round =>
  obtain ⟨M, hM, rfl, HM, HO, HNIL, hbr⟩ := hrel
  obtain ⟨vs, hv1, hv2, hv3⟩ := HO.out
  obtain ⟨sa, sc, rfl, _, _⟩ := SL.form (SL.of_own hv2)
  have HV1 := Lib.hid hv1
  have HV2 := Lib.hid hv2
  have HV3 := Lib.hid hv3
  clear hv1 hv2 hv3
  by_cases hlt : M.length < l.length
  case pos =>
    obtain ⟨t, ht⟩ : ∃ t, l[M.length]? = some t := ⟨_, List.getElem?_eq_getElem hlt⟩
    have HR := Lib.hid (H.out.on hbr)
    obtain ⟨d', b, o, cc, x, hd, hva, hKb, hst, hpt⟩ := HR.out.el ht
    obtain ⟨h1, h2⟩ := slice_two hva
    clear hva
    subst h1 h2
    have HP := Lib.hid (show M ++ [Ev.pubS t] = Ev.pubL (l.take (M.length + 1)) by
      rw [List.take_add_one, ht]
      show _ = Ev.pubL (l.take M.length ++ [t])
      rw [Ev.pubL_snoc, ← HM.out])
    have hSm := HSM.out t (List.mem_of_getElem? ht)
    have HSMP := Lib.hid hSm.parts
    have hdd' : dd = d' := by have := HDD.out; omega
    subst hdd'
    have HIH := Lib.hid (ih dd hd)
    obtain ⟨x4, x5, x6⟩ := x
    obtain ⟨e4, f4, rfl⟩ := hpt.1.form
    obtain ⟨e5, f5, rfl⟩ := hpt.2.1.slice
    obtain ⟨e6, f6, rfl⟩ := hpt.2.2.slice
    have HPT := Lib.hid hpt
    obtain ⟨hbl, c0, c1, c2, c3, c4, c5, c6⟩ := hst
    dsimp only at c4 c5 c6
    clear ht hd hpt hKb hSm HM
    go_upto_region 5 with fail
    have b5 : Below w.heap.size w (wr.alloc (.cells #[.int .i64 t.kind, .int .i64 t.n, .string ⟨t.name.toArray⟩, .bool t.secret, .slice e4 t.args.length f4, .slice e5 t.thn.length f5, .slice e6 t.els.length f6] 109)) := hbr.alloc hbr.size _
    have b5r : Below wr.heap.size wr (wr.alloc (.cells #[.int .i64 t.kind, .int .i64 t.n, .string ⟨t.name.toArray⟩, .bool t.secret, .slice e4 t.args.length f4, .slice e5 t.thn.length f5, .slice e6 t.els.length f6] 109)) := (Below.refl _ _).alloc (Nat.le_refl _) _
    have r5 := heap_alloc_new wr (.cells #[.int .i64 t.kind, .int .i64 t.n, .string ⟨t.name.toArray⟩, .bool t.secret, .slice e4 t.args.length f4, .slice e5 t.thn.length f5, .slice e6 t.els.length f6] 109)
    have hsr := hbr.size
    clear c0 c1 c2 c3 c4 c5 c6 hbl
    generalize wr.alloc (.cells #[.int .i64 t.kind, .int .i64 t.n, .string ⟨t.name.toArray⟩, .bool t.secret, .slice e4 t.args.length f4, .slice e5 t.thn.length f5, .slice e6 t.els.length f6] 109) = w5 at *
    have q0 : w5.cell? ⟨wr.heap.size, 0, none⟩ = some (.int .i64 t.kind) := cell_of_block r5 0
    have q3 : w5.cell? ⟨wr.heap.size, 3, none⟩ = some (.bool t.secret) := cell_of_block r5 3
    have z5 := (Array.getElem?_eq_some_iff.1 r5).1
    have f3 : w5.frozen? ⟨wr.heap.size, 3, none⟩ = false := by
      unfold World.frozen?
      rw [r5]
      simp
    have RS := Lib.hid r5
    clear r5
    go_cut [14, 15, 16, 17, 18, 19, 20, 21, 22, 23, 24, 25, 26, 27] (fun _ _ _ _ _ _ _ _ _ _ _ _ _ _ wx => Hid (wx = w5.setCell ⟨wr.heap.size, 3, none⟩ (.bool false)))
    case first =>
      by_cases hk1 : t.kind = 1
      case pos =>
        have g1 : (t.kind == 1) = true := beq_iff_eq.2 hk1
        clear hk1
        cases hs : t.secret with
        | true =>
          rw [hs] at q3
          clear hs
          go_wp2_with fail
          go_meet
          exact Lib.hid rfl
        | false =>
          rw [hs] at q3
          clear hs
          go_wp2_with fail
          go_meet
          exact Lib.hid rfl
      case neg =>
        have g1 : (t.kind == 1) = false := beq_eq_false_iff_ne.2 hk1
        clear hk1
        cases hs : t.secret with
        | true =>
          rw [hs] at q3
          clear hs
          go_wp2_with fail
          go_meet
          exact Lib.hid rfl
        | false =>
          rw [hs] at q3
          clear hs
          go_wp2_with fail
          go_meet
          exact Lib.hid rfl
    case rest =>
    have r6 : wc.heap[wr.heap.size]? = some (.cells #[.int .i64 t.kind, .int .i64 t.n, .string ⟨t.name.toArray⟩, .bool false, .slice e4 t.args.length f4, .slice e5 t.thn.length f5, .slice e6 t.els.length f6] 109 (0, 0)) := by rw [hcut.out]; exact heap_setCell_same w5 wr.heap.size 3 _ _ (.bool false) RS.out
    have b6 : Below w.heap.size w wc := by rw [hcut.out]; exact b5.setCell (p := ⟨wr.heap.size, 3, none⟩) hsr _
    have b6r : Below wr.heap.size wr wc := by rw [hcut.out]; exact b5r.setCell (p := ⟨wr.heap.size, 3, none⟩) (Nat.le_refl _) _
    have R6 := Lib.hid r6
    have B6 := Lib.hid b6
    have B6R := Lib.hid b6r
    have HPC := Lib.hid (show RExL 9 wc K0 (.slice e4 t.args.length f4) t.args ∧ RStL dd wc K0 (.slice e5 t.thn.length f5) t.thn ∧ RStL dd wc K0 (.slice e6 t.els.length f6) t.els from ⟨HPT.out.1.on b6r, HPT.out.2.1.on b6r, HPT.out.2.2.on b6r⟩)
    have q5 : wc.cell? ⟨wr.heap.size, 5, none⟩ = some (.slice e5 t.thn.length f5) := cell_of_block r6 5
    have q6 : wc.cell? ⟨wr.heap.size, 6, none⟩ = some (.slice e6 t.els.length f6) := cell_of_block r6 6
    have zc := (Array.getElem?_eq_some_iff.1 r6).1
    have C1 := Lib.hid (fun u (hu : Below wc.heap.size wc u) => HIH.out t.thn (.slice e5 t.thn.length f5) u K0 (fun k hk => by have := HK.out k hk; have := b6.size; have := hu.size; omega) (HPC.out.2.1.on hu) HSMP.out.1 HSMP.out.2.2.1)
    have C2 := Lib.hid (fun u (hu : Below wc.heap.size wc u) => HIH.out t.els (.slice e6 t.els.length f6) u K0 (fun k hk => by have := HK.out k hk; have := b6.size; have := hu.size; omega) (HPC.out.2.2.on hu) HSMP.out.2.1 HSMP.out.2.2.2)
    clear hcut b5 b5r RS q0 q3 f3 z5 r6 b6 b6r hbr
    go_upto_region 6 with fail
    refine wp_region_flock_tail 9 (fun k => match k with | 3 => some (Hv.sts dd wc.heap.size K0 (Ev.pubL t.thn)) | 7 => some (Hv.sts dd wc.heap.size K0 (Ev.pubL t.els)) | _ => none) (by kernel_rfl) (by kernel_rfl) (by kernel_rfl) (by kernel_rfl) ?_
    simp only [List.take_succ_cons, List.take_zero, List.drop_succ_cons, List.drop_zero]
    apply flock_light rfl
    case h => first | exact light_no (by rfl) | ((first | apply light_plain rfl | apply light_yes (by rfl)); intro w9 hw9; obtain ⟨hb9, hh9⟩ := hw9; skip; go_simp; try rfl)
    (try simp only [Act.put, List.setIfInBounds_toArray, List.set_cons_zero, List.set_cons_succ])
    apply flock_light rfl
    case h => first | exact light_no (by rfl) | ((first | apply light_plain rfl | apply light_yes (by rfl)); intro w9 hw9; obtain ⟨hb9, hh9⟩ := hw9; have hB9 : Below wc.heap.size wc w9 := (by (repeat' first | with_reducible (first | exact Below.refl _ _ | assumption | refine Below.alloc ?_ ?_ _ | refine below_drewN ?_ _ | refine Below.drew ?_ | refine Below.setCell ?_ ?_ _ | refine Below.trans ?_ (Below.mono (by with_reducible assumption) ?_)) | go_size)); obtain ⟨kc9, kf9, s9⟩ := bfacts hb9; obtain ⟨kd9, kg9, _⟩ := bfacts hB9; skip; go_simp; try rfl)
    (try simp only [Act.put, List.setIfInBounds_toArray, List.set_cons_zero, List.set_cons_succ])
    apply flock_light rfl
    case h => first | exact light_no (by rfl) | ((first | apply light_plain rfl | apply light_yes (by rfl)); intro w9 hw9; obtain ⟨hb9, hh9⟩ := hw9; skip; go_simp; try rfl)
    (try simp only [Act.put, List.setIfInBounds_toArray, List.set_cons_zero, List.set_cons_succ])
    refine flock_heavy _ rfl ?_ ?_
    · intro w9 hb9 hh9
      have hB9 : Below wc.heap.size wc w9 := (by (repeat' first | with_reducible (first | exact Below.refl _ _ | assumption | refine Below.alloc ?_ ?_ _ | refine below_drewN ?_ _ | refine Below.drew ?_ | refine Below.setCell ?_ ?_ _ | refine Below.trans ?_ (Below.mono (by with_reducible assumption) ?_)) | go_size))
      obtain ⟨kc9, kf9, s9⟩ := bfacts hb9
      obtain ⟨kd9, kg9, _⟩ := bfacts hB9
      skip
      go_wp2_with (go_at_call 19; refine (C1.out _ hB9).mono ?_; rintro e w6 ⟨v6, rfl, hR6, hb6⟩)
      refine grewTo_at (by rfl) (by (repeat' first | with_reducible (first | exact Below.refl _ _ | assumption | refine Below.alloc ?_ ?_ _ | refine below_drewN ?_ _ | refine Below.drew ?_ | refine Below.setCell ?_ ?_ _ | refine Below.trans ?_ (Below.mono (by with_reducible assumption) ?_)) | go_size)) ?_
      exact RStL.wide (fun k hk => hk.imp id (fun h => ⟨Nat.le_trans hB9.size h.1, h.2⟩)) dd _ _ hR6
    intro x3 ok3
    (try simp only [Act.put, List.setIfInBounds_toArray, List.set_cons_zero, List.set_cons_succ])
    (try dsimp only [Hv.own, Hv.is, Hv.lit, Hv.box, Hv.sl, Hv.sts] at ok3)
    first | subst ok3 | (obtain ⟨A3, c3, ok3⟩ := ok3; subst ok3) | (obtain ⟨A3, ok3⟩ := ok3; subst ok3) | skip
    apply flock_light rfl
    case h => first | exact light_no (by rfl) | ((first | apply light_plain rfl | apply light_yes (by rfl)); intro w9 hw9; obtain ⟨hb9, hh9⟩ := hw9; skip; go_simp; try rfl)
    (try simp only [Act.put, List.setIfInBounds_toArray, List.set_cons_zero, List.set_cons_succ])
    apply flock_light rfl
    case h => first | exact light_no (by rfl) | ((first | apply light_plain rfl | apply light_yes (by rfl)); intro w9 hw9; obtain ⟨hb9, hh9⟩ := hw9; have hB9 : Below wc.heap.size wc w9 := (by (repeat' first | with_reducible (first | exact Below.refl _ _ | assumption | refine Below.alloc ?_ ?_ _ | refine below_drewN ?_ _ | refine Below.drew ?_ | refine Below.setCell ?_ ?_ _ | refine Below.trans ?_ (Below.mono (by with_reducible assumption) ?_)) | go_size)); obtain ⟨kc9, kf9, s9⟩ := bfacts hb9; obtain ⟨kd9, kg9, _⟩ := bfacts hB9; skip; go_simp; try rfl)
    (try simp only [Act.put, List.setIfInBounds_toArray, List.set_cons_zero, List.set_cons_succ])
    apply flock_light rfl
    case h => first | exact light_no (by rfl) | ((first | apply light_plain rfl | apply light_yes (by rfl)); intro w9 hw9; obtain ⟨hb9, hh9⟩ := hw9; skip; go_simp; try rfl)
    (try simp only [Act.put, List.setIfInBounds_toArray, List.set_cons_zero, List.set_cons_succ])
    refine flock_heavy _ rfl ?_ ?_
    · intro w9 hb9 hh9
      have hB9 : Below wc.heap.size wc w9 := (by (repeat' first | with_reducible (first | exact Below.refl _ _ | assumption | refine Below.alloc ?_ ?_ _ | refine below_drewN ?_ _ | refine Below.drew ?_ | refine Below.setCell ?_ ?_ _ | refine Below.trans ?_ (Below.mono (by with_reducible assumption) ?_)) | go_size))
      obtain ⟨kc9, kf9, s9⟩ := bfacts hb9
      obtain ⟨kd9, kg9, _⟩ := bfacts hB9
      have r3 := hh9 _ (.head _) (by kernel_rfl); dsimp only [Hv.own, Hv.is, Hv.lit, Hv.box, Hv.sl, Hv.sts] at r3; (first | replace r3 := lit_heap r3 | replace r3 := box_heap r3 | skip); skip
      go_wp2_with (go_at_call 19; refine (C2.out _ hB9).mono ?_; rintro e w6 ⟨v6, rfl, hR6, hb6⟩)
      refine grewTo_at (by rfl) (by (repeat' first | with_reducible (first | exact Below.refl _ _ | assumption | refine Below.alloc ?_ ?_ _ | refine below_drewN ?_ _ | refine Below.drew ?_ | refine Below.setCell ?_ ?_ _ | refine Below.trans ?_ (Below.mono (by with_reducible assumption) ?_)) | go_size)) ?_
      exact RStL.wide (fun k hk => hk.imp id (fun h => ⟨Nat.le_trans hB9.size h.1, h.2⟩)) dd _ _ hR6
    intro x7 ok7
    (try simp only [Act.put, List.setIfInBounds_toArray, List.set_cons_zero, List.set_cons_succ])
    (try dsimp only [Hv.own, Hv.is, Hv.lit, Hv.box, Hv.sl, Hv.sts] at ok7)
    first | subst ok7 | (obtain ⟨A7, c7, ok7⟩ := ok7; subst ok7) | (obtain ⟨A7, ok7⟩ := ok7; subst ok7) | skip
    apply flock_light rfl
    case h => first | exact light_no (by rfl) | ((first | apply light_plain rfl | apply light_yes (by rfl)); intro w9 hw9; obtain ⟨hb9, hh9⟩ := hw9; have hB9 : Below wc.heap.size wc w9 := (by (repeat' first | with_reducible (first | exact Below.refl _ _ | assumption | refine Below.alloc ?_ ?_ _ | refine below_drewN ?_ _ | refine Below.drew ?_ | refine Below.setCell ?_ ?_ _ | refine Below.trans ?_ (Below.mono (by with_reducible assumption) ?_)) | go_size)); obtain ⟨kc9, kf9, s9⟩ := bfacts hb9; obtain ⟨kd9, kg9, _⟩ := bfacts hB9; have r3 := hh9 _ (.tail _ (.head _)) (by kernel_rfl); dsimp only [Hv.own, Hv.is, Hv.lit, Hv.box, Hv.sl, Hv.sts] at r3; (first | replace r3 := lit_heap r3 | replace r3 := box_heap r3 | skip); skip; go_simp; try rfl)
    (try simp only [Act.put, List.setIfInBounds_toArray, List.set_cons_zero, List.set_cons_succ])
    refine flock_nil ?_
    intro w9 hb9 hh9
    have hB9 : Below wc.heap.size wc w9 := (by (repeat' first | with_reducible (first | exact Below.refl _ _ | assumption | refine Below.alloc ?_ ?_ _ | refine below_drewN ?_ _ | refine Below.drew ?_ | refine Below.setCell ?_ ?_ _ | refine Below.trans ?_ (Below.mono (by with_reducible assumption) ?_)) | go_size))
    have r7 := hh9 _ (.head _); dsimp only [Hv.own, Hv.is, Hv.lit, Hv.box, Hv.sl, Hv.sts] at r7; (first | replace r7 := lit_heap r7 | replace r7 := box_heap r7 | skip); have r3 := hh9 _ (.tail _ (.head _)); dsimp only [Hv.own, Hv.is, Hv.lit, Hv.box, Hv.sl, Hv.sts] at r3; (first | replace r3 := lit_heap r3 | replace r3 := box_heap r3 | skip); clear hh9
    (try dsimp only)
    have R3 := Lib.hid r3
    have R7 := Lib.hid r7
    have HB9 := Lib.hid hB9
    have hs9 := hB9.size
    have r9 := (hB9.block wr.heap.size zc).trans R6.out
    have p5 : w9.cell? ⟨wr.heap.size, 5, none⟩ = some (.slice e5 t.thn.length f5) := cell_of_block r9 5
    have p6 : w9.cell? ⟨wr.heap.size, 6, none⟩ = some (.slice e6 t.els.length f6) := cell_of_block r9 6
    have f5' : w9.frozen? ⟨wr.heap.size, 5, none⟩ = false := by
      unfold World.frozen?
      rw [r9]
      simp
    have f6' : w9.frozen? ⟨wr.heap.size, 6, none⟩ = false := by
      unfold World.frozen?
      rw [r9]
      simp
    have zg9 : wr.heap.size < w9.heap.size := by omega
    have R9 := Lib.hid r9
    clear r3 r7 r9 hb9 hB9 q5 q6 C1 C2
    go_upto_region 7 with fail
    have hT : Ev.pubS t = (.mk t.kind t.n t.name false t.args (Ev.pubL t.thn) (Ev.pubL t.els)) := by cases t; rw [Ev.pubS]; rfl
    rw [hT] at HP
    have r10 : Hid (((w9.setCell ⟨wr.heap.size, 5, none⟩ (.slice A3 (Ev.pubL t.thn).length c3)).setCell ⟨wr.heap.size, 6, none⟩ (.slice A7 (Ev.pubL t.els).length c7)).heap[wr.heap.size]? = some (.cells #[.int .i64 t.kind, .int .i64 t.n, .string ⟨t.name.toArray⟩, .bool false, .slice e4 t.args.length f4, .slice A3 (Ev.pubL t.thn).length c3, .slice A7 (Ev.pubL t.els).length c7] 109 (0, 0))) := Lib.hid (heap_setCell_same _ wr.heap.size 6 _ _ _ (heap_setCell_same w9 wr.heap.size 5 _ _ _ R9.out))
    have b10 : Below wr.heap.size wr ((w9.setCell ⟨wr.heap.size, 5, none⟩ (.slice A3 (Ev.pubL t.thn).length c3)).setCell ⟨wr.heap.size, 6, none⟩ (.slice A7 (Ev.pubL t.els).length c7)) := ((B6R.out.trans (HB9.out.mono B6R.out.size)).setCell (p := ⟨wr.heap.size, 5, none⟩) (Nat.le_refl _) _).setCell (p := ⟨wr.heap.size, 6, none⟩) (Nat.le_refl _) _
    have b10w : Below w.heap.size w ((w9.setCell ⟨wr.heap.size, 5, none⟩ (.slice A3 (Ev.pubL t.thn).length c3)).setCell ⟨wr.heap.size, 6, none⟩ (.slice A7 (Ev.pubL t.els).length c7)) := ((B6.out.trans (HB9.out.mono B6.out.size)).setCell (p := ⟨wr.heap.size, 5, none⟩) hsr _).setCell (p := ⟨wr.heap.size, 6, none⟩) hsr _
    have s10 : w9.heap.size = ((w9.setCell ⟨wr.heap.size, 5, none⟩ (.slice A3 (Ev.pubL t.thn).length c3)).setCell ⟨wr.heap.size, 6, none⟩ (.slice A7 (Ev.pubL t.els).length c7)).heap.size := by simp
    have bl : ∀ k, k ≠ wr.heap.size → ((w9.setCell ⟨wr.heap.size, 5, none⟩ (.slice A3 (Ev.pubL t.thn).length c3)).setCell ⟨wr.heap.size, 6, none⟩ (.slice A7 (Ev.pubL t.els).length c7)).heap[k]? = w9.heap[k]? := fun k hk => (Below.heap_setCell _ ⟨wr.heap.size, 6, none⟩ _ k hk).trans (Below.heap_setCell _ ⟨wr.heap.size, 5, none⟩ _ k hk)
    have own0 := HV2.out.lt
    have hxx : RParts dd ((w9.setCell ⟨wr.heap.size, 5, none⟩ (.slice A3 (Ev.pubL t.thn).length c3)).setCell ⟨wr.heap.size, 6, none⟩ (.slice A7 (Ev.pubL t.els).length c7)) (fun k => (K0 k ∨ w.heap.size ≤ k) ∧ k < ((w9.setCell ⟨wr.heap.size, 5, none⟩ (.slice A3 (Ev.pubL t.thn).length c3)).setCell ⟨wr.heap.size, 6, none⟩ (.slice A7 (Ev.pubL t.els).length c7)).heap.size ∧ (Value.slice sa M.length sc).ownBlock ≠ some k) (.mk t.kind t.n t.name false t.args (Ev.pubL t.thn) (Ev.pubL t.els)) (.slice e4 t.args.length f4, .slice A3 (Ev.pubL t.thn).length c3, .slice A7 (Ev.pubL t.els).length c7) := by
      refine ⟨?_, ?_, ?_⟩
      · have h1 := HPT.out.1.on b10
        exact RExL.wide (fun k hk => ⟨.inl hk, by have := HK.out k hk; have := b10w.size; omega, fun e => by have := (own0 k e).1; have := HK.out k hk; omega⟩) 9 _ _ h1
      · have h1 := RStL.keep (w' := (w9.setCell ⟨wr.heap.size, 5, none⟩ (.slice A3 (Ev.pubL t.thn).length c3)).setCell ⟨wr.heap.size, 6, none⟩ (.slice A7 (Ev.pubL t.els).length c7)) (by omega) (fun k hk _ => bl k (by rcases hk with hk | hk; (have := HK.out k hk; omega); omega)) dd _ _ R3.out
        exact RStL.wide (fun k hk => ⟨hk.imp id (fun h => by omega), by rcases hk with hk | hk; (have := HK.out k hk; have := b10w.size; omega); omega, fun e => by have := own0 k e; rcases hk with hk | hk; (have := HK.out k hk; omega); omega⟩) dd _ _ h1
      · have h1 := RStL.keep (w' := (w9.setCell ⟨wr.heap.size, 5, none⟩ (.slice A3 (Ev.pubL t.thn).length c3)).setCell ⟨wr.heap.size, 6, none⟩ (.slice A7 (Ev.pubL t.els).length c7)) (by omega) (fun k hk _ => bl k (by rcases hk with hk | hk; (have := HK.out k hk; omega); omega)) dd _ _ R7.out
        exact RStL.wide (fun k hk => ⟨hk.imp id (fun h => by omega), by rcases hk with hk | hk; (have := HK.out k hk; have := b10w.size; omega); omega, fun e => by have := own0 k e; rcases hk with hk | hk; (have := HK.out k hk; omega); omega⟩) dd _ _ h1
    have HXX := Lib.hid hxx
    have hrow : StRow ((w9.setCell ⟨wr.heap.size, 5, none⟩ (.slice A3 (Ev.pubL t.thn).length c3)).setCell ⟨wr.heap.size, 6, none⟩ (.slice A7 (Ev.pubL t.els).length c7)) w.heap.size (fun k => K0 k ∨ w.heap.size ≤ k) dd (.slice sa M.length sc) M := StRow.keep (w := wr) ⟨vs, HV1.out, HV2.out, HV3.out⟩ ⟨b10.os.symm, b10.tape.symm, b10.output.symm⟩ b10.size (fun k _ hkl => b10.block k hkl)
    obtain ⟨vz, hz1, hz2, hz3⟩ := hrow
    have HZ1 := Lib.hid hz1
    have HZ2 := Lib.hid hz2
    have HZ3 := Lib.hid hz3
    have HB10 := Lib.hid b10w
    clear hT b10 b10w s10 bl own0 hxx hz1 hz2 hz3 p5 p6 f5' f6' R3 R7 R9 HB9 hs9 B6 B6R R6 HPC HPT HV1 HV2 HV3 zg9 zc HIH HSMP
    generalize (w9.setCell ⟨wr.heap.size, 5, none⟩ (.slice A3 (Ev.pubL t.thn).length c3)).setCell ⟨wr.heap.size, 6, none⟩ (.slice A7 (Ev.pubL t.els).length c7) = w10 at *
    have z10 := (Array.getElem?_eq_some_iff.1 r10.out).1
    have s10 := HB10.out.size
    go_upto_region 8 with (first | (refine wpList_load_box rfl 109 _ rfl rfl (load_box Tryd.underlying109 (by kernel_rfl) (by rfl) (by kernel_rfl) (fun j v hj => (cell_of_block r10.out j).trans hj) z10 (Below.refl _ _)) ?_) | (at_builtin; refine wpList_append_own_at _ rfl (.tmp 38) (.tmp 40) _ rfl w.heap.size 109 i3 (.agg #[.int .i64 0, .int .i64 0, .string ⟨#[]⟩, .bool false, .slice none 0 0, .slice none 0 0, .slice none 0 0]) 7 112 Tryd.underlying23 IV.out.1 IV.out.2.1 IV.out.2.2.1 IV.out.2.2.2 rfl (by decide) _ _ _ rfl (HZ2.out.alloc _) ⟨w10.heap.size, 0, none⟩ 1 1 (st7 (.mk t.kind t.n t.name false t.args (Ev.pubL t.thn) (Ev.pubL t.els)) (.slice e4 t.args.length f4, .slice A3 (Ev.pubL t.thn).length c3, .slice A7 (Ev.pubL t.els).length c7)) rfl rfl (cell_seven_mk w10 (.mk t.kind t.n t.name false t.args (Ev.pubL t.thn) (Ev.pubL t.els)) (.slice e4 t.args.length f4, .slice A3 (Ev.pubL t.thn).length c3, .slice A7 (Ev.pubL t.els).length c7) 109) (fun y hy => by simp only [st7, List.mem_cons, List.not_mem_nil, or_false] at hy; rcases hy with rfl | rfl | rfl | rfl | rfl | rfl | rfl <;> rfl) (by unfold maxLen; omega) (by omega) (by simp; omega) ?_; intro v11 w11 hown hg hn hat; obtain ⟨A11, c11, rfl, _, _⟩ := SL.form (SL.of_own hown)))
    have hat2 : (Value.slice A11 (M.length + 1) c11).ownBlock = (Value.slice sa M.length sc).ownBlock ∨ (Value.slice A11 (M.length + 1) c11).ownBlock = some (w10.heap.size + 1) := hat.imp id (fun h => by rw [h, World.size_alloc])
    have HROW := Lib.hid (st_push HZ1.out HZ3.out HXX.out hg hown hat2)
    have hb11 : Below w.heap.size w w11 := (HB10.out.alloc s10 _).grown hg (by simp; omega) (fun k hk => (HZ2.out.lt k hk).1)
    clear hown hg hat hn hat2
    go_wp2_with fail
    go_roundw
    case rel => exact ⟨M ++ [(.mk t.kind t.n t.name false t.args (Ev.pubL t.thn) (Ev.pubL t.els))], by (simp <;> omega), by (simp <;> go_num), Lib.hid (by have h := HP.out; simpa using h), HROW, Lib.hid (fun h => by simp at h), hb11⟩
    case measure => simp [intOf]; omega
  case neg =>
  have hMl : M.length = l.length := by omega
  have HX := Lib.hid (show M = Ev.pubL l by rw [HM.out, hMl, List.take_length])
  clear hMl
  go_wp2_with fail
  go_ret
  refine ⟨_, rfl, ?_, hbr⟩
  rw [← HX.out]
  cases d with
  | zero =>
    obtain ⟨hl0, _⟩ := H.out
    have hM0 : M = [] := by rw [HX.out, hl0, Ev.pubL]
    have := HNIL.out hM0
    exact ⟨hM0, this⟩
  | succ d =>
    have hdd : dd = d := by have := HDD.out; omega
    subst hdd
    refine StRow.whole HO.out (fun k hk hkl => hk.imp id (fun h => ⟨h, hkl⟩)) (fun k h1 h2 _ => .inr ⟨h1, h2⟩)
theorem all4_all : ∀ d, AllDo d
  | 0 => all4_any 0 (fun d' h => (by omega))
  | d + 1 => all4_any (d + 1) (fun d' h => (by obtain rfl : d = d' := by omega
                                               exact all4_all d))
end Go.Proofs.YtpbflgemhcaooaaDoor
