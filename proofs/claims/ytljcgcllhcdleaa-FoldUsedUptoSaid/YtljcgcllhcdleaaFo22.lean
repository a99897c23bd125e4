import Derived.Test.YtljcgcllhcdleaaFo21
import Derived.Test.YtljcgcllhcdleaaFo1
/- Chapter 7: what an instruction shows by what it does. -/
namespace Go.Proofs.Ytljcgcllhcdleaa
open Go.RowKit
set_option linter.unusedSimpArgs false
set_option linter.unusedVariables false
structure Right (f : Ev.Flat) (k : Nat) (i : Ev.Instr) : Prop where
  op1 : 1 ≤ i.op
  op2 : i.op ≤ 21
  reads : ∀ p ∈ Ev.reads i, 0 ≤ p ∧ p < (f.secret.length : Int)
  makes : i.op ≤ 16 → 0 ≤ i.d ∧ i.d < (f.secret.length : Int)
  arr : i.op = 16 ∨ i.op = 17 → 0 ≤ i.b ∧ i.b < (f.arrays.length : Int)
  imm : i.op = 14 → 0 ≤ i.imm ∧ i.imm ≤ 4294967295
  goes : i.op = 18 ∨ i.op = 19 → (k : Int) < i.imm ∧ i.imm < (f.code.length : Int)
theorem Right.of {f : Ev.Flat} {k : Nat} {i : Ev.Instr} (h1 : 1 ≤ i.op) (h2 : i.op ≤ 21) (h : Ev.numbers f k i = true) : Right f k i := by
  unfold Ev.numbers at h
  rw [Bool.and_eq_true, Bool.and_eq_true, List.all_eq_true] at h
  obtain ⟨⟨ha, hb⟩, hc⟩ := h
  refine ⟨h1, h2, fun p hp => ?_, fun hm => ?_, fun h3 => ?_, fun h3 => ?_, fun h3 => ?_⟩
  · have := ha p hp; unfold Ev.isPlace at this; simp at this; exact this
  · have : Ev.makes i = true := by unfold Ev.makes; simp; omega
    rw [this] at hb; unfold Ev.isPlace at hb; simp at hb; exact hb
  · rw [if_neg (by omega), if_pos h3] at hc; simp at hc; exact hc
  · rw [if_pos h3] at hc; unfold Ev.isWord at hc; simp at hc; exact hc
  · rw [if_neg (by omega), if_neg (by omega), if_pos h3] at hc; simp at hc; exact hc
theorem reads_a {i : Ev.Instr} (h1 : 1 ≤ i.op) (h2 : i.op ≤ 21) (h : i.op ≠ 14 ∧ i.op ≠ 18 ∧ i.op ≠ 21) : i.a ∈ Ev.reads i := by
  unfold Ev.reads; (repeat' split) <;> first | (exfalso; omega) | simp
theorem reads_b {i : Ev.Instr} (h1 : 1 ≤ i.op) (h2 : i.op ≤ 13) : i.b ∈ Ev.reads i := by
  unfold Ev.reads; (repeat' split) <;> first | (exfalso; omega) | simp
theorem reads_c {i : Ev.Instr} (h1 : i.op = 13) : i.c ∈ Ev.reads i := by
  unfold Ev.reads; (repeat' split) <;> first | (exfalso; omega) | simp
theorem reads_d {i : Ev.Instr} (h1 : i.op = 17) : i.d ∈ Ev.reads i := by
  unfold Ev.reads; (repeat' split) <;> first | (exfalso; omega) | simp
theorem Right.a {f : Ev.Flat} {k : Nat} {i : Ev.Instr} (h : Right f k i) (hn : i.op ≠ 14 ∧ i.op ≠ 18 ∧ i.op ≠ 21) : ∃ n : Nat, i.a = n ∧ n < f.secret.length := by
  have := h.reads _ (reads_a h.op1 h.op2 hn)
  exact ⟨i.a.toNat, by omega, by omega⟩
theorem Right.b {f : Ev.Flat} {k : Nat} {i : Ev.Instr} (h : Right f k i) (hn : i.op ≤ 13) : ∃ n : Nat, i.b = n ∧ n < f.secret.length := by
  have := h.reads _ (reads_b h.op1 hn)
  exact ⟨i.b.toNat, by omega, by omega⟩
theorem Right.c {f : Ev.Flat} {k : Nat} {i : Ev.Instr} (h : Right f k i) (hn : i.op = 13) : ∃ n : Nat, i.c = n ∧ n < f.secret.length := by
  have := h.reads _ (reads_c hn)
  exact ⟨i.c.toNat, by omega, by omega⟩
theorem Right.d {f : Ev.Flat} {k : Nat} {i : Ev.Instr} (h : Right f k i) (hn : i.op ≤ 17) : ∃ n : Nat, i.d = n ∧ n < f.secret.length := by
  by_cases h16 : i.op ≤ 16
  · have := h.makes h16
    exact ⟨i.d.toNat, by omega, by omega⟩
  · have := h.reads _ (reads_d (by omega))
    exact ⟨i.d.toNat, by omega, by omega⟩
theorem Right.arr' {f : Ev.Flat} {k : Nat} {i : Ev.Instr} (h : Right f k i) (hn : i.op = 16 ∨ i.op = 17) : ∃ n : Nat, i.b = n ∧ n < f.arrays.length := by
  have := h.arr hn
  exact ⟨i.b.toNat, by omega, by omega⟩

set_option maxRecDepth 8000 in
set_option maxHeartbeats 3200000 in
theorem secrets_any (f : Ev.Flat) (b k : Nat) (i : Ev.Instr) (vc vs va : Value) (w : World) (hF : FlatAt w b f vc vs va) (hR : Right f k i) :
    Calls Try.prog 69 #[.pointer (some ⟨b, 0, none⟩), .agg #[.int .i64 i.op, .int .i64 i.d, .int .i64 i.a, .int .i64 i.b, .int .i64 i.c, .int .i64 i.imm]] w fun e w' => e = .returned (.bool (Ev.secrets f i)) ∧ Below w.heap.size w w' := by
  obtain ⟨c0, c1, c2, c3, hcode, hsec, harr⟩ := hF
  have lt := World.block_lt_of_cell? w _ c0
  obtain ⟨As, cs, rfl, hs1, hs2⟩ := SL.form hsec
  obtain ⟨Av, cv, rfl, hv1, hv2⟩ := SL.form harr
  unfold maxLen at hs2 hv2
  have HR := Lib.hid hR
  have op1 := hR.op1
  have op2 := hR.op2
  clear hR hcode
  go_enter Try.func69, Try.ntmps69
  go_wp2_with fail
  refine (reads_any i _).mono ?_
  rintro e w1 ⟨v1, rfl, hR1, hb1⟩
  obtain ⟨kc1, kf1, s1⟩ := bfacts hb1
  (try simp only [World.size_alloc, World.size_setCell, World.size_drew, World.heap_drewN, Nat.add_one_le_iff] at s1)
  (try have z1 : w.heap.size < w1.heap.size := by omega)
  have B1 : Hid (Below w.heap.size w w1) := by (show Below _ _ _); (repeat' first | with_reducible (first | exact Below.refl _ _ | assumption | refine Below.alloc ?_ ?_ _ | refine below_drewN ?_ _ | refine Below.drew ?_ | refine Below.setCell ?_ ?_ _ | refine Below.trans ?_ (Below.mono (by with_reducible assumption) ?_)) | go_size)
  obtain ⟨kd1, kg1, _⟩ := bfacts B1.out
  have d0 := (B1.out.cell (p := ⟨b, 0, none⟩) lt).trans c0
  have d1 := (B1.out.cell (p := ⟨b, 1, none⟩) lt).trans c1
  have d3 := (B1.out.cell (p := ⟨b, 3, none⟩) lt).trans c3
  have hsum : ∃ L, L = Ev.reads i := ⟨_, rfl⟩
  obtain ⟨L, hL⟩ := hsum
  rw [← hL] at hR1
  have HL := Lib.hid hL
  clear hL
  obtain ⟨A1, c1', rfl, _, hm1⟩ := SL.form hR1
  unfold maxLen at hm1
  have HR1 := Lib.hid hR1
  clear hR1
  go_wp2_with fail
  go_loop [5, 11] (fun u v => ∃ j : Nat, j ≤ L.length ∧ v = .int .i64 j ∧ u = .bool ((L.take j).any (Ev.sec f.secret))) (fun u v => L.length - (intOf v).toNat)
  case atStart => exact ⟨0, by omega, rfl, by simp⟩
  case round =>
    obtain ⟨j, hj, rfl, rfl⟩ := hrel
    by_cases hlt : j < L.length
    · obtain ⟨x, hx⟩ : ∃ x, L[j]? = some x := ⟨L[j], List.getElem?_eq_getElem hlt⟩
      obtain ⟨br, or_, cr, hv, _, _, _, _, hc⟩ := RInts.at_ HR1.out hx
      injection hv with hA _ hcr
      subst hA hcr
      obtain ⟨hx0, hx1⟩ := HR.out.reads x (by rw [← HL.out]; exact List.mem_of_getElem? hx)
      obtain ⟨n, rfl⟩ : ∃ n : Nat, x = n := ⟨x.toNat, by omega⟩
      obtain ⟨bs, os, cs', hv, hbs, _, _, hcs⟩ := RBools.row hsec (by omega)
      injection hv with hA _ hcr
      subst hA hcr
      have hcn := hcs n (by omega)
      have hn : n < f.secret.length := by omega
      have hstep : (L.take (j + 1)).any (Ev.sec f.secret) = ((L.take j).any (Ev.sec f.secret) || Ev.sec f.secret n) := by
        rw [List.take_add_one, hx]
        simp
      have HS := Lib.hid hstep
      have HX := Lib.hid hx
      clear hx hstep hcs
      cases hb : (L.take j).any (Ev.sec f.secret)
      all_goals
        rw [hb] at HS
        clear hb
        go_wp2_with fail
        go_round
        case rel =>
          refine ⟨j + 1, by omega, by go_num, ?_⟩
          rw [HS.out]
          rfl
        case measure => simp [intOf]; omega
    · have hje : L.length ≤ j := by omega
      rw [List.take_of_length_le hje]
      generalize hsb : L.any (Ev.sec f.secret) = sb
      rw [HL.out] at hsb
      have HSB := Lib.hid hsb
      clear hsb
      have l1 : b < w1.heap.size := by omega
      have t0 : w1.cell? ⟨w.heap.size, 0, none⟩ = some (.int .i64 i.op) := by go_simp
      have t1 : w1.cell? ⟨w.heap.size, 1, none⟩ = some (.int .i64 i.d) := by go_simp
      have t2 : w1.cell? ⟨w.heap.size, 2, none⟩ = some (.int .i64 i.a) := by go_simp
      have t3 : w1.cell? ⟨w.heap.size, 3, none⟩ = some (.int .i64 i.b) := by go_simp
      clear kc1 kf1
      have hop : (i.op = 16 ∨ i.op = 17) ∨ i.op = 19 ∨ i.op = 20 ∨ (i.op ≠ 16 ∧ i.op ≠ 17 ∧ i.op ≠ 19 ∧ i.op ≠ 20) := by omega
      rcases hop with hop | hop | hop | hop
      · obtain ⟨na, ha, hna⟩ := HR.out.a (by omega)
        obtain ⟨nd, hd, hnd⟩ := HR.out.d (by omega)
        obtain ⟨nb, hb, hnb⟩ := HR.out.arr' hop
        obtain ⟨bs, os, cs', hv, hbs, _, _, hcs⟩ := RBools.row hsec (by omega)
        injection hv with hA _ hcr
        subst hA hcr
        obtain ⟨ba, oa, ca', hv, hba, _, _, hca⟩ := RVars.row harr (by omega)
        injection hv with hA _ hcr
        subst hA hcr
        have e1 := hcs na hna
        have e2 := hcs nd hnd
        obtain ⟨_, e3, _⟩ := hca nb hnb
        have hs16 : i.op = 16 → Ev.secrets f i = (Ev.sec f.secret na || (Ev.arrSec f.arrays nb && !Ev.sec f.secret nd)) := fun h => by unfold Ev.secrets; rw [if_pos h, ha, hb, hd]
        have hs17 : i.op = 17 → Ev.secrets f i = (Ev.sec f.secret na || (Ev.sec f.secret nd && !Ev.arrSec f.arrays nb)) := fun h => by unfold Ev.secrets; rw [if_neg (by omega), if_pos h, ha, hb, hd]
        generalize Ev.sec f.secret na = xa at *
        generalize Ev.sec f.secret nd = xd at *
        generalize Ev.arrSec f.arrays nb = xb at *
        clear hcs hca
        have S16 := Lib.hid hs16
        have S17 := Lib.hid hs17
        clear hs16 hs17
        rcases hop with hop | hop
        · have hres := S16.out hop
          rcases (show (xa = true) ∨ (xa = false ∧ xb = false) ∨ (xa = false ∧ xb = true) from by cases xa <;> cases xb <;> simp) with hx | ⟨hx, hx'⟩ | ⟨hx, hx'⟩
          all_goals (subst hx; try subst hx')
          all_goals
            simp only [Bool.or_true, Bool.true_or, Bool.or_false, Bool.false_or, Bool.and_true, Bool.true_and, Bool.and_false, Bool.false_and, Bool.not_true, Bool.not_false] at hres
            have Hres := Lib.hid hres
            clear hres
            go_wp2_with fail
            refine wp_region_chain (fun w' => Below (w1).heap.size (w1) w') (by kernel_rfl) (by kernel_rfl) (by (repeat' first | with_reducible (first | exact Below.refl _ _ | assumption | refine Below.alloc ?_ ?_ _ | refine below_drewN ?_ _ | refine Below.drew ?_ | refine Below.setCell ?_ ?_ _ | refine Below.trans ?_ (Below.mono (by with_reducible assumption) ?_)) | go_size)) ?_
            repeat (
              apply chain_cons
              case h =>
                refine fun w9 hb9 => ?_
                have hB9 : Below w.heap.size w w9 := by (repeat' first | with_reducible (first | exact Below.refl _ _ | assumption | refine Below.alloc ?_ ?_ _ | refine below_drewN ?_ _ | refine Below.drew ?_ | refine Below.setCell ?_ ?_ _ | refine Below.trans ?_ (Below.mono (by with_reducible assumption) ?_)) | go_size)
                obtain ⟨kc9, kf9, s9⟩ := bfacts hb9
                obtain ⟨kd9, kg9, _⟩ := bfacts hB9
                go_wp2_with fail
                (try (fail; go_wp2_with fail))
                refine settled_intro (S := fun w' => Below (w1).heap.size (w1) w') ?_
                (repeat' first | with_reducible (first | exact Below.refl _ _ | assumption | refine Below.alloc ?_ ?_ _ | refine below_drewN ?_ _ | refine Below.drew ?_ | refine Below.setCell ?_ ?_ _ | refine Below.trans ?_ (Below.mono (by with_reducible assumption) ?_)) | go_size)
              case hp => first | rfl | (simp only [*]; done) | (simp only [*]; rfl))
            refine chain.nil ?_
            refine fun w2 hb2 => ?_
            have B2 : Below w.heap.size w w2 := by (repeat' first | with_reducible (first | exact Below.refl _ _ | assumption | refine Below.alloc ?_ ?_ _ | refine below_drewN ?_ _ | refine Below.drew ?_ | refine Below.setCell ?_ ?_ _ | refine Below.trans ?_ (Below.mono (by with_reducible assumption) ?_)) | go_size)
            obtain ⟨kc2, kf2, s2⟩ := bfacts hb2
            obtain ⟨kd2, kg2, _⟩ := bfacts B2
            (try simp only [World.size_alloc, World.size_setCell, World.size_drew, World.heap_drewN, Nat.add_one_le_iff] at s2)
            clear hb2
            have hb2 := B2
            clear B2
            have B2 : Hid (Below w.heap.size w w2) := hb2
            (try have z2 : w.heap.size < w2.heap.size := by omega)
            (try dsimp only)
            go_wp2_with fail
            go_ret
            exact ⟨by rw [Hres.out]; rfl, by (repeat' first | with_reducible (first | exact Below.refl _ _ | assumption | refine Below.alloc ?_ ?_ _ | refine below_drewN ?_ _ | refine Below.drew ?_ | refine Below.setCell ?_ ?_ _ | refine Below.trans ?_ (Below.mono (by with_reducible assumption) ?_)) | go_size)⟩
        · have hres := S17.out hop
          rcases (show (xa = true) ∨ (xa = false ∧ xd = false) ∨ (xa = false ∧ xd = true) from by cases xa <;> cases xd <;> simp) with hx | ⟨hx, hx'⟩ | ⟨hx, hx'⟩
          all_goals (subst hx; try subst hx')
          all_goals
            simp only [Bool.or_true, Bool.true_or, Bool.or_false, Bool.false_or, Bool.and_true, Bool.true_and, Bool.and_false, Bool.false_and, Bool.not_true, Bool.not_false] at hres
            have Hres := Lib.hid hres
            clear hres
            go_wp2_with fail
            refine wp_region_chain (fun w' => Below (w1).heap.size (w1) w') (by kernel_rfl) (by kernel_rfl) (by (repeat' first | with_reducible (first | exact Below.refl _ _ | assumption | refine Below.alloc ?_ ?_ _ | refine below_drewN ?_ _ | refine Below.drew ?_ | refine Below.setCell ?_ ?_ _ | refine Below.trans ?_ (Below.mono (by with_reducible assumption) ?_)) | go_size)) ?_
            repeat (
              apply chain_cons
              case h =>
                refine fun w9 hb9 => ?_
                have hB9 : Below w.heap.size w w9 := by (repeat' first | with_reducible (first | exact Below.refl _ _ | assumption | refine Below.alloc ?_ ?_ _ | refine below_drewN ?_ _ | refine Below.drew ?_ | refine Below.setCell ?_ ?_ _ | refine Below.trans ?_ (Below.mono (by with_reducible assumption) ?_)) | go_size)
                obtain ⟨kc9, kf9, s9⟩ := bfacts hb9
                obtain ⟨kd9, kg9, _⟩ := bfacts hB9
                go_wp2_with fail
                (try (fail; go_wp2_with fail))
                refine settled_intro (S := fun w' => Below (w1).heap.size (w1) w') ?_
                (repeat' first | with_reducible (first | exact Below.refl _ _ | assumption | refine Below.alloc ?_ ?_ _ | refine below_drewN ?_ _ | refine Below.drew ?_ | refine Below.setCell ?_ ?_ _ | refine Below.trans ?_ (Below.mono (by with_reducible assumption) ?_)) | go_size)
              case hp => first | rfl | (simp only [*]; done) | (simp only [*]; rfl))
            refine chain.nil ?_
            refine fun w2 hb2 => ?_
            have B2 : Below w.heap.size w w2 := by (repeat' first | with_reducible (first | exact Below.refl _ _ | assumption | refine Below.alloc ?_ ?_ _ | refine below_drewN ?_ _ | refine Below.drew ?_ | refine Below.setCell ?_ ?_ _ | refine Below.trans ?_ (Below.mono (by with_reducible assumption) ?_)) | go_size)
            obtain ⟨kc2, kf2, s2⟩ := bfacts hb2
            obtain ⟨kd2, kg2, _⟩ := bfacts B2
            (try simp only [World.size_alloc, World.size_setCell, World.size_drew, World.heap_drewN, Nat.add_one_le_iff] at s2)
            clear hb2
            have hb2 := B2
            clear B2
            have B2 : Hid (Below w.heap.size w w2) := hb2
            (try have z2 : w.heap.size < w2.heap.size := by omega)
            (try dsimp only)
            go_wp2_with fail
            go_ret
            exact ⟨by rw [Hres.out]; rfl, by (repeat' first | with_reducible (first | exact Below.refl _ _ | assumption | refine Below.alloc ?_ ?_ _ | refine below_drewN ?_ _ | refine Below.drew ?_ | refine Below.setCell ?_ ?_ _ | refine Below.trans ?_ (Below.mono (by with_reducible assumption) ?_)) | go_size)⟩
      · obtain ⟨na, ha, hna⟩ := HR.out.a (by omega)
        obtain ⟨bs, os, cs', hv, hbs, _, _, hcs⟩ := RBools.row hsec (by omega)
        injection hv with hA _ hcr
        subst hA hcr
        have e1 := hcs na hna
        have hs : Ev.secrets f i = Ev.sec f.secret na := by unfold Ev.secrets; rw [if_neg (by omega), if_neg (by omega), if_pos hop, ha]
        have Hres := Lib.hid hs
        clear hs hcs
        go_wp2_with fail
        refine wp_region_chain (fun w' => Below (w1).heap.size (w1) w') (by kernel_rfl) (by kernel_rfl) (by (repeat' first | with_reducible (first | exact Below.refl _ _ | assumption | refine Below.alloc ?_ ?_ _ | refine below_drewN ?_ _ | refine Below.drew ?_ | refine Below.setCell ?_ ?_ _ | refine Below.trans ?_ (Below.mono (by with_reducible assumption) ?_)) | go_size)) ?_
        repeat (
          apply chain_cons
          case h =>
            refine fun w9 hb9 => ?_
            have hB9 : Below w.heap.size w w9 := by (repeat' first | with_reducible (first | exact Below.refl _ _ | assumption | refine Below.alloc ?_ ?_ _ | refine below_drewN ?_ _ | refine Below.drew ?_ | refine Below.setCell ?_ ?_ _ | refine Below.trans ?_ (Below.mono (by with_reducible assumption) ?_)) | go_size)
            obtain ⟨kc9, kf9, s9⟩ := bfacts hb9
            obtain ⟨kd9, kg9, _⟩ := bfacts hB9
            go_wp2_with fail
            (try (fail; go_wp2_with fail))
            refine settled_intro (S := fun w' => Below (w1).heap.size (w1) w') ?_
            (repeat' first | with_reducible (first | exact Below.refl _ _ | assumption | refine Below.alloc ?_ ?_ _ | refine below_drewN ?_ _ | refine Below.drew ?_ | refine Below.setCell ?_ ?_ _ | refine Below.trans ?_ (Below.mono (by with_reducible assumption) ?_)) | go_size)
          case hp => first | rfl | (simp only [*]; done) | (simp only [*]; rfl))
        refine chain.nil ?_
        refine fun w2 hb2 => ?_
        have B2 : Below w.heap.size w w2 := by (repeat' first | with_reducible (first | exact Below.refl _ _ | assumption | refine Below.alloc ?_ ?_ _ | refine below_drewN ?_ _ | refine Below.drew ?_ | refine Below.setCell ?_ ?_ _ | refine Below.trans ?_ (Below.mono (by with_reducible assumption) ?_)) | go_size)
        obtain ⟨kc2, kf2, s2⟩ := bfacts hb2
        obtain ⟨kd2, kg2, _⟩ := bfacts B2
        (try simp only [World.size_alloc, World.size_setCell, World.size_drew, World.heap_drewN, Nat.add_one_le_iff] at s2)
        clear hb2
        have hb2 := B2
        clear B2
        have B2 : Hid (Below w.heap.size w w2) := hb2
        (try have z2 : w.heap.size < w2.heap.size := by omega)
        (try dsimp only)
        go_wp2_with fail
        go_ret
        exact ⟨by rw [Hres.out]; rfl, by (repeat' first | with_reducible (first | exact Below.refl _ _ | assumption | refine Below.alloc ?_ ?_ _ | refine below_drewN ?_ _ | refine Below.drew ?_ | refine Below.setCell ?_ ?_ _ | refine Below.trans ?_ (Below.mono (by with_reducible assumption) ?_)) | go_size)⟩
      · have hs : Ev.secrets f i = false := by unfold Ev.secrets; rw [if_neg (by omega), if_neg (by omega), if_neg (by omega), if_pos hop]
        have Hres := Lib.hid hs
        clear hs
        go_wp2_with fail
        go_ret
        exact ⟨by rw [Hres.out]; rfl, by (repeat' first | with_reducible (first | exact Below.refl _ _ | assumption | refine Below.alloc ?_ ?_ _ | refine below_drewN ?_ _ | refine Below.drew ?_ | refine Below.setCell ?_ ?_ _ | refine Below.trans ?_ (Below.mono (by with_reducible assumption) ?_)) | go_size)⟩
      · have hs : Ev.secrets f i = (sb && !Ev.sec f.secret i.d) := by unfold Ev.secrets; rw [if_neg (by omega), if_neg (by omega), if_neg (by omega), if_neg (by omega), HSB.out]
        have hi : i.op = 18 ∨ i.op = 21 → sb = false := fun h => by
          rw [← HSB.out]
          have : Ev.reads i = [] := by unfold Ev.reads; (repeat' split) <;> first | (exfalso; omega) | rfl
          rw [this]; rfl
        cases sb
        · have Hres := Lib.hid hs
          clear hs hi
          go_wp2_with fail
          refine wp_region_chain (fun w' => Below (w1).heap.size (w1) w') (by kernel_rfl) (by kernel_rfl) (by (repeat' first | with_reducible (first | exact Below.refl _ _ | assumption | refine Below.alloc ?_ ?_ _ | refine below_drewN ?_ _ | refine Below.drew ?_ | refine Below.setCell ?_ ?_ _ | refine Below.trans ?_ (Below.mono (by with_reducible assumption) ?_)) | go_size)) ?_
          repeat (
            apply chain_cons
            case h =>
              refine fun w9 hb9 => ?_
              have hB9 : Below w.heap.size w w9 := by (repeat' first | with_reducible (first | exact Below.refl _ _ | assumption | refine Below.alloc ?_ ?_ _ | refine below_drewN ?_ _ | refine Below.drew ?_ | refine Below.setCell ?_ ?_ _ | refine Below.trans ?_ (Below.mono (by with_reducible assumption) ?_)) | go_size)
              obtain ⟨kc9, kf9, s9⟩ := bfacts hb9
              obtain ⟨kd9, kg9, _⟩ := bfacts hB9
              go_wp2_with fail
              (try (fail; go_wp2_with fail))
              refine settled_intro (S := fun w' => Below (w1).heap.size (w1) w') ?_
              (repeat' first | with_reducible (first | exact Below.refl _ _ | assumption | refine Below.alloc ?_ ?_ _ | refine below_drewN ?_ _ | refine Below.drew ?_ | refine Below.setCell ?_ ?_ _ | refine Below.trans ?_ (Below.mono (by with_reducible assumption) ?_)) | go_size)
            case hp => first | rfl | (simp only [*]; done) | (simp only [*]; rfl))
          refine chain.nil ?_
          refine fun w2 hb2 => ?_
          have B2 : Below w.heap.size w w2 := by (repeat' first | with_reducible (first | exact Below.refl _ _ | assumption | refine Below.alloc ?_ ?_ _ | refine below_drewN ?_ _ | refine Below.drew ?_ | refine Below.setCell ?_ ?_ _ | refine Below.trans ?_ (Below.mono (by with_reducible assumption) ?_)) | go_size)
          obtain ⟨kc2, kf2, s2⟩ := bfacts hb2
          obtain ⟨kd2, kg2, _⟩ := bfacts B2
          (try simp only [World.size_alloc, World.size_setCell, World.size_drew, World.heap_drewN, Nat.add_one_le_iff] at s2)
          clear hb2
          have hb2 := B2
          clear B2
          have B2 : Hid (Below w.heap.size w w2) := hb2
          (try have z2 : w.heap.size < w2.heap.size := by omega)
          (try dsimp only)
          go_wp2_with fail
          go_ret
          exact ⟨by rw [Hres.out]; rfl, by (repeat' first | with_reducible (first | exact Below.refl _ _ | assumption | refine Below.alloc ?_ ?_ _ | refine below_drewN ?_ _ | refine Below.drew ?_ | refine Below.setCell ?_ ?_ _ | refine Below.trans ?_ (Below.mono (by with_reducible assumption) ?_)) | go_size)⟩
        · have hle : i.op ≤ 17 := by
            rcases (show i.op ≤ 17 ∨ i.op = 18 ∨ i.op = 21 by omega) with h | h | h
            · exact h
            · exact absurd (hi (.inl h)) (by simp)
            · exact absurd (hi (.inr h)) (by simp)
          obtain ⟨nd, hd, hnd⟩ := HR.out.d hle
          obtain ⟨bs, os, cs', hv, hbs, _, _, hcs⟩ := RBools.row hsec (by omega)
          injection hv with hA _ hcr
          subst hA hcr
          have e1 := hcs nd hnd
          rw [hd] at hs
          have Hres := Lib.hid hs
          clear hs hi hcs
          go_wp2_with fail
          refine wp_region_chain (fun w' => Below (w1).heap.size (w1) w') (by kernel_rfl) (by kernel_rfl) (by (repeat' first | with_reducible (first | exact Below.refl _ _ | assumption | refine Below.alloc ?_ ?_ _ | refine below_drewN ?_ _ | refine Below.drew ?_ | refine Below.setCell ?_ ?_ _ | refine Below.trans ?_ (Below.mono (by with_reducible assumption) ?_)) | go_size)) ?_
          repeat (
            apply chain_cons
            case h =>
              refine fun w9 hb9 => ?_
              have hB9 : Below w.heap.size w w9 := by (repeat' first | with_reducible (first | exact Below.refl _ _ | assumption | refine Below.alloc ?_ ?_ _ | refine below_drewN ?_ _ | refine Below.drew ?_ | refine Below.setCell ?_ ?_ _ | refine Below.trans ?_ (Below.mono (by with_reducible assumption) ?_)) | go_size)
              obtain ⟨kc9, kf9, s9⟩ := bfacts hb9
              obtain ⟨kd9, kg9, _⟩ := bfacts hB9
              go_wp2_with fail
              (try (fail; go_wp2_with fail))
              refine settled_intro (S := fun w' => Below (w1).heap.size (w1) w') ?_
              (repeat' first | with_reducible (first | exact Below.refl _ _ | assumption | refine Below.alloc ?_ ?_ _ | refine below_drewN ?_ _ | refine Below.drew ?_ | refine Below.setCell ?_ ?_ _ | refine Below.trans ?_ (Below.mono (by with_reducible assumption) ?_)) | go_size)
            case hp => first | rfl | (simp only [*]; done) | (simp only [*]; rfl))
          refine chain.nil ?_
          refine fun w2 hb2 => ?_
          have B2 : Below w.heap.size w w2 := by (repeat' first | with_reducible (first | exact Below.refl _ _ | assumption | refine Below.alloc ?_ ?_ _ | refine below_drewN ?_ _ | refine Below.drew ?_ | refine Below.setCell ?_ ?_ _ | refine Below.trans ?_ (Below.mono (by with_reducible assumption) ?_)) | go_size)
          obtain ⟨kc2, kf2, s2⟩ := bfacts hb2
          obtain ⟨kd2, kg2, _⟩ := bfacts B2
          (try simp only [World.size_alloc, World.size_setCell, World.size_drew, World.heap_drewN, Nat.add_one_le_iff] at s2)
          clear hb2
          have hb2 := B2
          clear B2
          have B2 : Hid (Below w.heap.size w w2) := hb2
          (try have z2 : w.heap.size < w2.heap.size := by omega)
          (try dsimp only)
          go_wp2_with fail
          go_ret
          exact ⟨by rw [Hres.out]; rfl, by (repeat' first | with_reducible (first | exact Below.refl _ _ | assumption | refine Below.alloc ?_ ?_ _ | refine below_drewN ?_ _ | refine Below.drew ?_ | refine Below.setCell ?_ ?_ _ | refine Below.trans ?_ (Below.mono (by with_reducible assumption) ?_)) | go_size)⟩
end Go.Proofs.Ytljcgcllhcdleaa
