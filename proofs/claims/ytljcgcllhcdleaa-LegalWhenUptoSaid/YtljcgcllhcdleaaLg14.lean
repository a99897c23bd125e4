import Derived.Test.YtljcgcllhcdleaaLg12
import Derived.Test.YtljcgcllhcdleaaLg9
import Derived.Deep.QuietTactic
import Derived.BigQuiet
/- legal's maker: does an instruction show what is secret? -/
namespace Go.Proofs.Ytljcgcllhcdleaa
open Go.RowKit
set_option linter.unusedSimpArgs false
set_option linter.unusedVariables false
theorem fin_grown {w wA w' : World} (h : Below w.heap.size w wA) (k : Below wA.heap.size wA w') : Below w.heap.size w w' := h.trans (k.mono h.size)
theorem bne_yes {wh : Int} (h : 0 ≤ wh ∧ wh ≤ 7) (k : Nat) (hk : k < 3) : (bits .and .i64 wh (2 ^ k) != 0) = Ev.hasBit wh k := by
  cases hb : Ev.hasBit wh k with
  | true => have := bit_yes h k hk hb; unfold bne; rw [this]; rfl
  | false => have := bit_no h k hk hb; unfold bne; rw [this]; rfl
set_option maxRecDepth 8000 in
set_option maxHeartbeats 6400000 in
theorem mshows_any (c : MkC) (m : Ev.Mk) (l : List Int) (t : List Int) (i : Ev.Instr) (tb : Nat) (w : World) (h : MkIn w c m l) (hvt : c.vt = .pointer (some ⟨tb, 0, none⟩)) (htb : ∀ (j : Nat) v, (t.map (Value.int .i64)).toArray[j]? = some v → w.cell? ⟨tb, j, none⟩ = some v) (htl : tb < w.heap.size) (hl : t.length = 18) (ht : Ev.wrong t = 0) (op1 : 1 ≤ i.op) (h17 : i.op ≤ 17) (hrd : ∀ p ∈ Ev.reads i, Ev.InP m.secret p) :
    Calls Try.prog 53 #[.pointer (some ⟨c.mb, 0, none⟩), .agg #[.int .i64 i.op, .int .i64 i.d, .int .i64 i.a, .int .i64 i.b, .int .i64 i.c, .int .i64 i.imm]] w fun e w' => e = .returned (.bool (Ev.mkShows m t i)) ∧ Below w.heap.size w w' := by
  obtain ⟨vc, vs, vx, h⟩ := h
  obtain ⟨As, cs, rfl, hs1, hs2⟩ := SL.form (SL.of_own h.sec)
  have k1 : w.cell? ⟨c.mb, 1, none⟩ = some (.slice As m.secret.length cs) := (h.at_ 1).trans rfl
  have k4 : w.cell? ⟨c.mb, 4, none⟩ = some (.pointer (some ⟨tb, 0, none⟩)) := (h.at_ 4).trans (by unfold mkCells; rw [hvt]; rfl)
  have hlt := h.lt
  have HSC := Lib.hid (SL.of_own h.sec)
  unfold maxLen at hs2
  clear h hvt
  have hsi := seenIn_right (n := m.secret.length) ht op1 (fun p hp => hrd p hp)
  have hwh : whichOf t i.op false = Ev.seenOf t i.op := by unfold whichOf; rw [if_neg (by decide), if_pos h17]
  rw [hwh] at hsi
  have hsh : Ev.mkShows m t i = ((Ev.hasBit (Ev.seenOf t i.op) 0 && Ev.sec m.secret i.a) || (Ev.hasBit (Ev.seenOf t i.op) 1 && !decide (i.op = 16) && Ev.sec m.secret (if i.op = 17 then i.d else i.b)) || (Ev.hasBit (Ev.seenOf t i.op) 2 && Ev.sec m.secret i.c)) := by
    unfold Ev.mkShows Ev.shows Ev.Mk.flat; rw [decide_eq_true ⟨op1, h17⟩, Bool.true_and]
  rw [hsh]
  clear hsh hwh
  obtain ⟨res, hres⟩ : ∃ res, ((Ev.hasBit (Ev.seenOf t i.op) 0 && Ev.sec m.secret i.a) || (Ev.hasBit (Ev.seenOf t i.op) 1 && !decide (i.op = 16) && Ev.sec m.secret (if i.op = 17 then i.d else i.b)) || (Ev.hasBit (Ev.seenOf t i.op) 2 && Ev.sec m.secret i.c)) = res := ⟨_, rfl⟩
  rw [hres]
  have t0 := bne_yes hsi.1 0 (by decide)
  have t1 := bne_yes hsi.1 1 (by decide)
  have t2 := bne_yes hsi.1 2 (by decide)
  simp only [Nat.reducePow, show (2 : Int) ^ 0 = 1 from rfl, show (2 : Int) ^ 1 = 2 from rfl, show (2 : Int) ^ 2 = 4 from rfl] at t0 t1 t2
  have i0 : Ev.hasBit (Ev.seenOf t i.op) 0 = true → inR m.secret.length i.a := fun h => (hsi.2.1 0 (by decide) h).2 (by omega) (by omega)
  have i1 : Ev.hasBit (Ev.seenOf t i.op) 1 = true → ¬ i.op = 16 → inR m.secret.length (if i.op = 17 then i.d else i.b) := fun h h16 => by
    by_cases h1 : i.op = 17
    · rw [if_pos h1]; exact (hsi.2.1 1 (by decide) h).1 ⟨h1, rfl⟩
    · rw [if_neg h1]; exact (hsi.2.1 1 (by decide) h).2 (by omega) (by omega)
  have i2 : Ev.hasBit (Ev.seenOf t i.op) 2 = true → inR m.secret.length i.c := fun h => (hsi.2.1 2 (by decide) h).2 (by omega) (by omega)
  have ct : (t.map (Value.int .i64)).toArray[i.op.toNat]? = some (.int .i64 (Ev.seenOf t i.op)) := by
    have hx : t[i.op.toNat]? = some (t.getD i.op.toNat 0) := by rw [List.getD_eq_getElem?_getD, List.getElem?_eq_getElem (by omega)]; rfl
    rw [List.getElem?_toArray, List.getElem?_map, hx]
    rfl
  obtain ⟨bq, hbq⟩ : ∃ bq, (if i.op = 17 then i.d else i.b) = bq := ⟨_, rfl⟩
  rw [hbq] at i1 hres
  have HBQ := Lib.hid hbq
  clear hbq
  have HR0 := Lib.hid hres
  have HI := Lib.hid (And.intro i0 (And.intro i1 i2))
  have ct1 := htb _ _ ct
  have h07 := hsi.1
  clear hsi ht hl i0 i1 i2 hres hrd ct htb
  generalize Ev.seenOf t i.op = ts at *
  have sA : w.heap.size + 1 = (w.alloc (.cells #[.int .i64 i.op, .int .i64 i.d, .int .i64 i.a, .int .i64 i.b, .int .i64 i.c, .int .i64 i.imm] 39)).heap.size := by simp
  have bA : Below w.heap.size w (w.alloc (.cells #[.int .i64 i.op, .int .i64 i.d, .int .i64 i.a, .int .i64 i.b, .int .i64 i.c, .int .i64 i.imm] 39)) := by (repeat' first | with_reducible (first | exact Below.refl _ _ | assumption | refine Below.alloc ?_ ?_ _ | refine below_drewN ?_ _ | refine Below.drew ?_ | refine Below.setCell ?_ ?_ _ | refine Below.trans ?_ (Below.mono (by with_reducible assumption) ?_)) | go_size)
  have hb2 : ∀ (j : Nat) v, (#[.int .i64 i.op, .int .i64 i.d, .int .i64 i.a, .int .i64 i.b, .int .i64 i.c, .int .i64 i.imm] : Array Value)[j]? = some v → (w.alloc (.cells #[.int .i64 i.op, .int .i64 i.d, .int .i64 i.a, .int .i64 i.b, .int .i64 i.c, .int .i64 i.imm] 39)).cell? ⟨w.heap.size, j, none⟩ = some v := fun j v hj => (cell_of_block (heap_alloc_new _ _) j).trans hj
  go_enter Try.func53, Try.ntmps53
  go_upto_region 1 with fail
  obtain ⟨wA, hwA⟩ : ∃ wA, (w.alloc (.cells #[.int .i64 i.op, .int .i64 i.d, .int .i64 i.a, .int .i64 i.b, .int .i64 i.c, .int .i64 i.imm] 39)) = wA := ⟨_, rfl⟩
  rw [hwA] at hb2 sA bA
  (try rw [hwA])
  clear hwA
  have SA := Lib.hid sA
  have z0 : w.heap.size < wA.heap.size := by omega
  clear sA
  have f1 : wA.cell? ⟨c.mb, 1, none⟩ = some (.slice As m.secret.length cs) := (bA.cell (p := ⟨c.mb, 1, none⟩) hlt).trans k1
  have f4 : wA.cell? ⟨c.mb, 4, none⟩ = some (.pointer (some ⟨tb, 0, none⟩)) := (bA.cell (p := ⟨c.mb, 4, none⟩) hlt).trans k4
  have ct' : wA.cell? ⟨tb, i.op.toNat, none⟩ = some (.int .i64 ts) := (bA.cell (p := ⟨tb, i.op.toNat, none⟩) htl).trans ct1
  have n0 : wA.cell? ⟨w.heap.size, 0, none⟩ = some (.int .i64 i.op) := hb2 0 _ rfl
  have n1 : wA.cell? ⟨w.heap.size, 1, none⟩ = some (.int .i64 i.d) := hb2 1 _ rfl
  have n2 : wA.cell? ⟨w.heap.size, 2, none⟩ = some (.int .i64 i.a) := hb2 2 _ rfl
  have n3 : wA.cell? ⟨w.heap.size, 3, none⟩ = some (.int .i64 i.b) := hb2 3 _ rfl
  have n4 : wA.cell? ⟨w.heap.size, 4, none⟩ = some (.int .i64 i.c) := hb2 4 _ rfl
  have HS : Hid (RBools wA wA.heap.size (.slice As m.secret.length cs) m.secret) := SL.at_ HSC.out bA (Nat.le_refl _)
  have HBA := Lib.hid bA
  clear hb2 HSC bA k1 k4 ct1
  have hcell : ∀ x, inR m.secret.length x → ∃ b o cc, (Value.slice As m.secret.length cs) = .slice (some ⟨b, o, none⟩) m.secret.length cc ∧ wA.cell? ⟨b, o + x.toNat, none⟩ = some (.bool (Ev.sec m.secret x)) := fun x hx => by
    obtain ⟨b, o, cc, e, _, _, _, hc⟩ := RBools.row HS.out (by unfold inR at hx; omega)
    have := hc x.toNat (by unfold inR at hx; omega)
    refine ⟨b, o, cc, e, ?_⟩
    have hz : Ev.sec m.secret ((x.toNat : Nat) : Int) = Ev.sec m.secret x := by unfold Ev.sec; congr 1
    rw [hz] at this
    exact this
  have HC := Lib.hid hcell
  clear hcell HS
  have op0 : 0 ≤ i.op := by omega
  have op18 : i.op < 18 := by omega
  go_quiet ((fail))
  go_upto_if 21 with fail
  have HBB : Hid (Below w.heap.size w (wA.drewN nq)) := Lib.hid (below_drewN HBA.out nq)
  have HC' : Hid (∀ x, inR m.secret.length x → ∃ b o cc, (Value.slice As m.secret.length cs) = .slice (some ⟨b, o, none⟩) m.secret.length cc ∧ (wA.drewN nq).cell? ⟨b, o + x.toNat, none⟩ = some (.bool (Ev.sec m.secret x))) := HC
  replace f1 : (wA.drewN nq).cell? ⟨c.mb, 1, none⟩ = some (.slice As m.secret.length cs) := f1
  replace n0 : (wA.drewN nq).cell? ⟨w.heap.size, 0, none⟩ = some (.int .i64 i.op) := n0
  replace n1 : (wA.drewN nq).cell? ⟨w.heap.size, 1, none⟩ = some (.int .i64 i.d) := n1
  replace n2 : (wA.drewN nq).cell? ⟨w.heap.size, 2, none⟩ = some (.int .i64 i.a) := n2
  replace n4 : (wA.drewN nq).cell? ⟨w.heap.size, 4, none⟩ = some (.int .i64 i.c) := n4
  clear HBA HC ct' n3 f4 op0 op18
  generalize wA.drewN nq = wB at *
  clear SA z0
  go_cut [6] (fun x wx => x = .int .i64 bq ∧ wB = wx)
  case first => as_aux_lemma =>
    by_cases h : i.op = 17
    · have g : (i.op == 17) = true := beq_iff_eq.2 h
      have HQ := Lib.hid (show bq = i.d by rw [← HBQ.out, if_pos h])
      clear h
      go_wp2_with fail
      go_meet
      exact ⟨by rw [HQ.out], rfl⟩
    · have g : (i.op == 17) = false := beq_eq_false_iff_ne.2 h
      have HQ := Lib.hid (show bq = i.b by rw [← HBQ.out, if_neg h])
      clear h
      go_wp2_with fail
      go_meet
      exact ⟨by rw [HQ.out], rfl⟩
  case rest =>
  obtain ⟨rfl, rfl⟩ := hcut
  obtain ⟨A0, hA0⟩ : ∃ A0, Ev.hasBit ts 0 = A0 := ⟨_, rfl⟩
  obtain ⟨A1, hA1⟩ : ∃ A1, Ev.hasBit ts 1 = A1 := ⟨_, rfl⟩
  obtain ⟨A2, hA2⟩ : ∃ A2, Ev.hasBit ts 2 = A2 := ⟨_, rfl⟩
  obtain ⟨sa, hsa⟩ : ∃ sa, Ev.sec m.secret i.a = sa := ⟨_, rfl⟩
  obtain ⟨sb, hsb⟩ : ∃ sb, Ev.sec m.secret bq = sb := ⟨_, rfl⟩
  obtain ⟨sc, hsc⟩ : ∃ sc, Ev.sec m.secret i.c = sc := ⟨_, rfl⟩
  rw [hA0] at t0
  rw [hA1] at t1
  rw [hA2] at t2
  have F0 : Hid (A0 = true → 0 ≤ i.a ∧ i.a < (m.secret.length : Int) ∧ ∃ b o cc, (Value.slice As m.secret.length cs) = .slice (some ⟨b, o, none⟩) m.secret.length cc ∧ wB.cell? ⟨b, o + i.a.toNat, none⟩ = some (.bool sa)) := fun h => by
    have h1 := HI.out.1 (hA0.trans h)
    have h2 := HC'.out _ h1
    rw [hsa] at h2
    exact ⟨h1.1, h1.2, h2⟩
  have F1 : Hid (A1 = true → ¬ i.op = 16 → 0 ≤ bq ∧ bq < (m.secret.length : Int) ∧ ∃ b o cc, (Value.slice As m.secret.length cs) = .slice (some ⟨b, o, none⟩) m.secret.length cc ∧ wB.cell? ⟨b, o + bq.toNat, none⟩ = some (.bool sb)) := fun h h16 => by
    have h1 := HI.out.2.1 (hA1.trans h) h16
    have h2 := HC'.out _ h1
    rw [hsb] at h2
    exact ⟨h1.1, h1.2, h2⟩
  have F2 : Hid (A2 = true → 0 ≤ i.c ∧ i.c < (m.secret.length : Int) ∧ ∃ b o cc, (Value.slice As m.secret.length cs) = .slice (some ⟨b, o, none⟩) m.secret.length cc ∧ wB.cell? ⟨b, o + i.c.toNat, none⟩ = some (.bool sc)) := fun h => by
    have h1 := HI.out.2.2 (hA2.trans h)
    have h2 := HC'.out _ h1
    rw [hsc] at h2
    exact ⟨h1.1, h1.2, h2⟩
  have hres := HR0.out
  rw [hA0, hA1, hA2, hsa, hsb, hsc] at hres
  have HRES := Lib.hid hres
  clear hA0 hA1 hA2 hsa hsb hsc HI HC' HBQ HR0 hres n1
  go_upto_region 5 with fail
  rcases (show (A0 = false) ∨ (A0 = true ∧ sa = false) ∨ (A0 = true ∧ sa = true) from by cases A0 <;> cases sa <;> simp) with hx | ⟨hx, hx'⟩ | ⟨hx, hx'⟩
  case inr.inr => as_aux_lemma =>
    subst hx hx'
    obtain ⟨p0, p1, b9, o9, c9, hv, hc9⟩ := F0.out rfl
    injection hv with hA _ hcr
    subst hA hcr
    go_quiet ((fail))
    go_wp2_with fail
    go_ret
    exact ⟨by rw [← HRES.out]; simp, by have := HBB.out; exact below_drewN this _⟩
  case inl => as_aux_lemma =>
    subst hx
    rcases (show (A1 = false) ∨ (A1 = true ∧ i.op = 16) ∨ (A1 = true ∧ ¬ i.op = 16 ∧ sb = false) ∨ (A1 = true ∧ ¬ i.op = 16 ∧ sb = true) from by cases A1 <;> cases sb <;> simp <;> omega) with hy | ⟨hy, h16⟩ | ⟨hy, h16, hz⟩ | ⟨hy, h16, hz⟩
    case inl =>
      subst hy
      cases A2 with
      | false =>
        go_quiet ((fail))
        go_wp2_with fail
        go_ret
        exact ⟨by rw [← HRES.out]; simp, by have := HBB.out; exact below_drewN this _⟩
      | true =>
        obtain ⟨p4, p5, b7, o7, c7, hv, hc7⟩ := F2.out rfl
        injection hv with hA _ hcr
        subst hA hcr
        go_quiet ((fail))
        go_wp2_with fail
        go_ret
        exact ⟨by rw [← HRES.out]; simp, by have := HBB.out; exact below_drewN this _⟩
    case inr.inl =>
      subst hy
      have g16 : (i.op != 16) = false := by rw [h16]; rfl
      have H16 := Lib.hid (decide_eq_true h16)
      clear h16
      cases A2 with
      | false =>
        go_quiet ((fail))
        go_wp2_with fail
        go_ret
        exact ⟨by rw [← HRES.out]; simp [H16.out], by have := HBB.out; exact below_drewN this _⟩
      | true =>
        obtain ⟨p4, p5, b7, o7, c7, hv, hc7⟩ := F2.out rfl
        injection hv with hA _ hcr
        subst hA hcr
        go_quiet ((fail))
        go_wp2_with fail
        go_ret
        exact ⟨by rw [← HRES.out]; simp [H16.out], by have := HBB.out; exact below_drewN this _⟩
    case inr.inr.inl =>
      subst hy hz
      have g16 : (i.op != 16) = true := bne_iff_ne.2 h16
      have H16 := Lib.hid (decide_eq_false h16)
      obtain ⟨p2, p3, b9, o9, c9, hv, hc9⟩ := F1.out rfl h16
      injection hv with hA _ hcr
      subst hA hcr
      clear h16
      cases A2 with
      | false =>
        go_quiet ((fail))
        go_wp2_with fail
        go_ret
        exact ⟨by rw [← HRES.out]; simp [H16.out], by have := HBB.out; exact below_drewN this _⟩
      | true =>
        obtain ⟨p4, p5, b7, o7, c7, hv, hc7⟩ := F2.out rfl
        injection hv with hA _ hcr
        injection hA with hA
        injection hA with hA1 hA2
        subst hA1 hA2
        (try clear hcr)
        go_quiet ((fail))
        go_wp2_with fail
        go_ret
        exact ⟨by rw [← HRES.out]; simp [H16.out], by have := HBB.out; exact below_drewN this _⟩
    case inr.inr.inr =>
      subst hy hz
      have g16 : (i.op != 16) = true := bne_iff_ne.2 h16
      have H16 := Lib.hid (decide_eq_false h16)
      obtain ⟨p2, p3, b9, o9, c9, hv, hc9⟩ := F1.out rfl h16
      injection hv with hA _ hcr
      subst hA hcr
      clear h16
      go_quiet ((fail))
      go_wp2_with fail
      go_ret
      exact ⟨by rw [← HRES.out]; simp [H16.out], by have := HBB.out; exact below_drewN this _⟩
  case inr.inl => as_aux_lemma =>
    subst hx hx'
    obtain ⟨p0, p1, b8, o8, c8, hv, hc8⟩ := F0.out rfl
    injection hv with hA _ hcr
    subst hA hcr
    rcases (show (A1 = false) ∨ (A1 = true ∧ i.op = 16) ∨ (A1 = true ∧ ¬ i.op = 16 ∧ sb = false) ∨ (A1 = true ∧ ¬ i.op = 16 ∧ sb = true) from by cases A1 <;> cases sb <;> simp <;> omega) with hy | ⟨hy, h16⟩ | ⟨hy, h16, hz⟩ | ⟨hy, h16, hz⟩
    case inl =>
      subst hy
      cases A2 with
      | false =>
        go_quiet ((fail))
        go_wp2_with fail
        go_ret
        exact ⟨by rw [← HRES.out]; simp, by have := HBB.out; exact below_drewN this _⟩
      | true =>
        obtain ⟨p4, p5, b7, o7, c7, hv, hc7⟩ := F2.out rfl
        injection hv with hA _ hcr
        injection hA with hA
        injection hA with hA1 hA2
        subst hA1 hA2
        (try clear hcr)
        go_quiet ((fail))
        go_wp2_with fail
        go_ret
        exact ⟨by rw [← HRES.out]; simp, by have := HBB.out; exact below_drewN this _⟩
    case inr.inl =>
      subst hy
      have g16 : (i.op != 16) = false := by rw [h16]; rfl
      have H16 := Lib.hid (decide_eq_true h16)
      clear h16
      cases A2 with
      | false =>
        go_quiet ((fail))
        go_wp2_with fail
        go_ret
        exact ⟨by rw [← HRES.out]; simp [H16.out], by have := HBB.out; exact below_drewN this _⟩
      | true =>
        obtain ⟨p4, p5, b7, o7, c7, hv, hc7⟩ := F2.out rfl
        injection hv with hA _ hcr
        injection hA with hA
        injection hA with hA1 hA2
        subst hA1 hA2
        (try clear hcr)
        go_quiet ((fail))
        go_wp2_with fail
        go_ret
        exact ⟨by rw [← HRES.out]; simp [H16.out], by have := HBB.out; exact below_drewN this _⟩
    case inr.inr.inl =>
      subst hy hz
      have g16 : (i.op != 16) = true := bne_iff_ne.2 h16
      have H16 := Lib.hid (decide_eq_false h16)
      obtain ⟨p2, p3, b9, o9, c9, hv, hc9⟩ := F1.out rfl h16
      injection hv with hA _ hcr
      injection hA with hA
      injection hA with hA1 hA2
      subst hA1 hA2
      (try clear hcr)
      clear h16
      cases A2 with
      | false =>
        go_quiet ((fail))
        go_wp2_with fail
        go_ret
        exact ⟨by rw [← HRES.out]; simp [H16.out], by have := HBB.out; exact below_drewN this _⟩
      | true =>
        obtain ⟨p4, p5, b7, o7, c7, hv, hc7⟩ := F2.out rfl
        injection hv with hA _ hcr
        injection hA with hA
        injection hA with hA1 hA2
        subst hA1 hA2
        (try clear hcr)
        go_quiet ((fail))
        go_wp2_with fail
        go_ret
        exact ⟨by rw [← HRES.out]; simp [H16.out], by have := HBB.out; exact below_drewN this _⟩
    case inr.inr.inr =>
      subst hy hz
      have g16 : (i.op != 16) = true := bne_iff_ne.2 h16
      have H16 := Lib.hid (decide_eq_false h16)
      obtain ⟨p2, p3, b9, o9, c9, hv, hc9⟩ := F1.out rfl h16
      injection hv with hA _ hcr
      injection hA with hA
      injection hA with hA1 hA2
      subst hA1 hA2
      (try clear hcr)
      clear h16
      go_quiet ((fail))
      go_wp2_with fail
      go_ret
      exact ⟨by rw [← HRES.out]; simp [H16.out], by have := HBB.out; exact below_drewN this _⟩
end Go.Proofs.Ytljcgcllhcdleaa
