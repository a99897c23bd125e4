import Derived.Test.YtljcgcllhcdleaaFo20
import Derived.Test.YtljcgcllhcdleaaFo3
import Derived.Deep.RegionHeld3
import Derived.RegionCalls
import Derived.Test.YtljcgcllhcdleaaFo1
import Derived.Test.YtljcgcllhcdleaaFo10
/- fold.Fold. -/
namespace Go.Proofs.Ytljcgcllhcdleaa
open Go.RowKit
set_option linter.unusedSimpArgs false
set_option linter.unusedVariables false
theorem FromFlat.less {lo lo' : Nat} {v : Value} (h : FromFlat lo v) (hl : lo' ≤ lo) : FromFlat lo' v := by
  obtain ⟨a, b, c, p, e, h1, h2, h3⟩ := h
  exact ⟨a, b, c, p, e, h1.less hl, h2.less hl, h3.less hl⟩
set_option maxRecDepth 16000 in
set_option maxHeartbeats 6400000 in
theorem fold_any (f : Ev.Flat) (vf : Value) (w : World) (hf : RFlat w w.heap.size vf f) (hr : Ev.Right f) (hn : f.secret.length ≤ 268435456) (hna : f.arrays.length ≤ 268435456) :
    Calls Try.prog 29 #[vf] w fun e w' => ∃ v, e = .returned v ∧ RFlat w' w'.heap.size v (Ev.foldF f) ∧ FromFlat w.heap.size v ∧ Below w.heap.size w w' := by
  have HF0 := Lib.hid hf
  have HR := Lib.hid hr
  have HN := Lib.hid hn
  have HR1 := Lib.hid (Ev.numbers_right hr)
  obtain ⟨Ac, cc, As, cs, Av, cv, rfl⟩ := hf.slices
  clear hf hr hn
  go_enter Try.func29, Try.ntmps29
  go_upto_region 1 with fail
  have bA : Below w.heap.size w ((w.alloc (.cells #[.slice Ac f.code.length cc, .slice As f.secret.length cs, .int .i64 f.params, .slice Av f.arrays.length cv] 26)).alloc (.cells #[.slice none 0 0, .slice none 0 0, .int .i64 0, .slice none 0 0] 26)) := by (repeat' first | with_reducible (first | exact Below.refl _ _ | assumption | refine Below.alloc ?_ ?_ _ | refine below_drewN ?_ _ | refine Below.drew ?_ | refine Below.setCell ?_ ?_ _ | refine Below.trans ?_ (Below.mono (by with_reducible assumption) ?_)) | go_size)
  have HB1 : Hid ((((w.alloc (.cells #[.slice Ac f.code.length cc, .slice As f.secret.length cs, .int .i64 f.params, .slice Av f.arrays.length cv] 26)).alloc (.cells #[.slice none 0 0, .slice none 0 0, .int .i64 0, .slice none 0 0] 26))).heap[w.heap.size]? = some (.cells #[.slice Ac f.code.length cc, .slice As f.secret.length cs, .int .i64 f.params, .slice Av f.arrays.length cv] 26 (0, 0))) := box_on (box_new w _) ((Below.refl _ _).alloc (Nat.le_refl _) _)
  have HB2 : Hid ((((w.alloc (.cells #[.slice Ac f.code.length cc, .slice As f.secret.length cs, .int .i64 f.params, .slice Av f.arrays.length cv] 26)).alloc (.cells #[.slice none 0 0, .slice none 0 0, .int .i64 0, .slice none 0 0] 26))).heap[w.heap.size + 1]? = some (.cells #[.slice none 0 0, .slice none 0 0, .int .i64 0, .slice none 0 0] 26 (0, 0))) := by
    have h := box_new (w.alloc (.cells #[.slice Ac f.code.length cc, .slice As f.secret.length cs, .int .i64 f.params, .slice Av f.arrays.length cv] 26)) (.cells #[.slice none 0 0, .slice none 0 0, .int .i64 0, .slice none 0 0] 26)
    rw [World.size_alloc] at h
    exact h
  have HF := RFlat.on HF0 bA
  have sA : (((w.alloc (.cells #[.slice Ac f.code.length cc, .slice As f.secret.length cs, .int .i64 f.params, .slice Av f.arrays.length cv] 26)).alloc (.cells #[.slice none 0 0, .slice none 0 0, .int .i64 0, .slice none 0 0] 26))).heap.size = w.heap.size + 2 := by simp
  generalize ((w.alloc (.cells #[.slice Ac f.code.length cc, .slice As f.secret.length cs, .int .i64 f.params, .slice Av f.arrays.length cv] 26)).alloc (.cells #[.slice none 0 0, .slice none 0 0, .int .i64 0, .slice none 0 0] 26)) = wA at *
  have SA := Lib.hid sA
  clear sA
  go_wp2_with (first | (refine wpList_load_box rfl 26 _ rfl rfl (box_load Try.underlying26 (by kernel_rfl) rfl (by kernel_rfl) (box_on HB1 (by (repeat' first | with_reducible (first | exact Below.refl _ _ | assumption | refine Below.alloc ?_ ?_ _ | refine below_drewN ?_ _ | refine Below.drew ?_ | refine Below.setCell ?_ ?_ _ | refine Below.trans ?_ (Below.mono (by with_reducible assumption) ?_)) | go_size)))) ?_) | (go_at_call 27; refine (numbersF_any f _ _ HF.out HR.out HN.out hna).mono ?_; rintro e w1 ⟨v1, rfl, hf1, hF1, hb1⟩; have HF1 := Lib.hid hf1; have s1 := hb1.size; clear hf1 hF1) | (go_at_call 28; refine (usedF_any (Ev.numbersF f) _ _ HF1.out HR1.out HN.out hna).mono ?_; rintro e w2 ⟨v2, rfl, hf2, hF2, hb2⟩; obtain ⟨A1, c1, A2, c2, A3, c3, rfl⟩ := hf2.slices; have HBt := box_on (box_on HB2 hb1) hb2; have y0 : w2.cell? ⟨w.heap.size + 1, 0, none⟩ = some (.slice none 0 0) := box_cell HBt 0 rfl; have y1 : w2.cell? ⟨w.heap.size + 1, 1, none⟩ = some (.slice none 0 0) := box_cell HBt 1 rfl; have y2 : w2.cell? ⟨w.heap.size + 1, 2, none⟩ = some (.int .i64 0) := box_cell HBt 2 rfl; have y3 : w2.cell? ⟨w.heap.size + 1, 3, none⟩ = some (.slice none 0 0) := box_cell HBt 3 rfl; have yf := fun n => box_free HBt n; have HF2 := Lib.hid hf2; have HFF := Lib.hid hF2; have s2 := hb2.size; clear hf2 hF2))
  refine bodyPost_ret (v := .agg #[.slice A1 (Ev.usedF (Ev.numbersF f)).code.length c1, .slice A2 (Ev.usedF (Ev.numbersF f)).secret.length c2, .int .i64 (Ev.usedF (Ev.numbersF f)).params, .slice A3 (Ev.usedF (Ev.numbersF f)).arrays.length c3]) (by simp [results, Try.results29, go_sem, y0, y1, y2, y3]) rfl ?_
  have sA := SA.out
  refine ⟨_, rfl, ?_, HFF.out.less (by omega), ?_⟩
  · exact RFlat.aside (RFlat.aside (RFlat.aside (RFlat.aside HF2.out HFF.out _ _ _ (by omega)) HFF.out _ _ _ (by omega)) HFF.out _ _ _ (by omega)) HFF.out _ _ _ (by omega)
  · have e2 : Below w.heap.size w w2 := (bA.trans (hb1.mono (by omega))).trans (hb2.mono (by omega))
    have e1 := e2.size
    (repeat' first | with_reducible (first | exact Below.refl _ _ | assumption | refine Below.alloc ?_ ?_ _ | refine below_drewN ?_ _ | refine Below.drew ?_ | refine Below.setCell ?_ ?_ _ | refine Below.trans ?_ (Below.mono (by with_reducible assumption) ?_)) | go_size)
end Go.Proofs.Ytljcgcllhcdleaa
/- Chapter 7: what is wrong with an instruction's numbers, and with its labels. -/
namespace Go.Proofs.Ytljcgcllhcdleaa
open Go.RowKit
set_option linter.unusedSimpArgs false
set_option linter.unusedVariables false
/-- flat instructions that lie in a block -/
structure FlatAt (w : World) (b : Nat) (f : Ev.Flat) (vc vs va : Value) : Prop where
  c0 : w.cell? ⟨b, 0, none⟩ = some vc
  c1 : w.cell? ⟨b, 1, none⟩ = some vs
  c2 : w.cell? ⟨b, 2, none⟩ = some (.int .i64 f.params)
  c3 : w.cell? ⟨b, 3, none⟩ = some va
  code : RCode w w.heap.size vc f.code
  secret : RBools w w.heap.size vs f.secret
  arrays : RVars w w.heap.size va f.arrays

def numTail (f : Ev.Flat) (k : Nat) (i : Ev.Instr) : Bool :=
  if i.op = 14 then Ev.isWord i.imm
  else if i.op = 16 ∨ i.op = 17 then decide (0 ≤ i.b) && decide (i.b < f.arrays.length)
  else if i.op = 18 ∨ i.op = 19 then decide ((k : Int) < i.imm) && decide (i.imm < f.code.length)
  else true
theorem numbers_bad {f : Ev.Flat} {k : Nat} {i : Ev.Instr} (p : Int) (hp : p ∈ Ev.reads i) (h : p < 0 ∨ (f.secret.length : Int) ≤ p) : Ev.numbers f k i = false := by
  have hf : Ev.isPlace f p = false := by unfold Ev.isPlace; simp; omega
  have : (Ev.reads i).all (Ev.isPlace f) = false := by rw [List.all_eq_false]; exact ⟨p, hp, by simp [hf]⟩
  unfold Ev.numbers
  rw [this]
  rfl
theorem numbers_go {f : Ev.Flat} {k : Nat} {i : Ev.Instr} (h : ∀ p ∈ Ev.reads i, 0 ≤ p ∧ p < (f.secret.length : Int)) : Ev.numbers f k i = ((!Ev.makes i || Ev.isPlace f i.d) && numTail f k i) := by
  have : (Ev.reads i).all (Ev.isPlace f) = true := by
    rw [List.all_eq_true]
    intro p hp
    have := h p hp
    unfold Ev.isPlace
    simp; omega
  unfold Ev.numbers
  rw [this]
  rfl

set_option maxHeartbeats 1600000 in
theorem numbers_any (f : Ev.Flat) (b k : Nat) (i : Ev.Instr) (vc vs va : Value) (w : World) (hF : FlatAt w b f vc vs va) (hi : f.code[k]? = some i) :
    Calls Try.prog 68 #[.pointer (some ⟨b, 0, none⟩), .int .i64 k] w fun e w' => e = .returned (.bool (Ev.numbers f k i)) ∧ Below w.heap.size w w' := by
  obtain ⟨c0, c1, c2, c3, hcode, hsec, harr⟩ := hF
  have lt := World.block_lt_of_cell? w _ c0
  obtain ⟨bc, o, c, rfl, hbc, hk, hn, hm, i0, i1, i2, i3, i4, i5⟩ := RCode.at_ hcode hi
  unfold maxLen at hm
  obtain ⟨As, cs, rfl, hs1, hs2⟩ := SL.form hsec
  obtain ⟨Av, cv, rfl, hv1, hv2⟩ := SL.form harr
  unfold maxLen at hs2 hv2
  have bad := Lib.hid (@numbers_bad f k i)
  have good := Lib.hid (@numbers_go f k i)
  generalize Ev.numbers f k i = res at *
  go_enter Try.func68, Try.ntmps68
  go_wp2_with fail
  refine (reads_any i _).mono ?_
  rintro e w1 ⟨v1, rfl, hR1, hb1⟩
  obtain ⟨kc1, kf1, s1⟩ := bfacts hb1
  (try simp only [World.size_alloc, World.size_setCell, World.size_drew, World.heap_drewN, Nat.add_one_le_iff] at s1)
  (try have z1 : w.heap.size < w1.heap.size := by omega)
  have B1 : Hid (Below w.heap.size w w1) := by (show Below _ _ _); (repeat' first | with_reducible (first | exact Below.refl _ _ | assumption | refine Below.alloc ?_ ?_ _ | refine below_drewN ?_ _ | refine Below.drew ?_ | refine Below.setCell ?_ ?_ _ | refine Below.trans ?_ (Below.mono (by with_reducible assumption) ?_)) | go_size)
  obtain ⟨kd1, kg1, _⟩ := bfacts B1.out
  have d0 := (B1.out.cell (p := ⟨b, 0, none⟩) lt).trans c0
  have d1 := (B1.out.cell (p := ⟨b, 1, none⟩) lt).trans c1
  have d3 := (B1.out.cell (p := ⟨b, 3, none⟩) lt).trans c3
  generalize hL : Ev.reads i = L at *
  have HL := Lib.hid hL
  clear hL
  obtain ⟨A1, c1', rfl, _, hm1⟩ := SL.form hR1
  unfold maxLen at hm1
  have HR := Lib.hid hR1
  clear hR1
  go_wp2_with fail
  go_loop [18] (fun u => ∃ j : Nat, j ≤ L.length ∧ u = .int .i64 j ∧ Hid (∀ p ∈ L.take j, 0 ≤ p ∧ p < (f.secret.length : Int))) (fun u => L.length - (intOf u).toNat)
  case atStart => exact ⟨0, by omega, rfl, fun p hp => by simp at hp⟩
  case round =>
    obtain ⟨j, hj, rfl, hall⟩ := hrel
    by_cases hlt : j < L.length
    · obtain ⟨x, hx⟩ : ∃ x, L[j]? = some x := ⟨L[j], List.getElem?_eq_getElem hlt⟩
      obtain ⟨br, or_, cr, hv, _, _, _, _, hc⟩ := RInts.at_ HR.out hx
      injection hv with hA _ hcr
      subst hA hcr
      have HX := Lib.hid hx
      clear hx
      go_wp2_with fail
      all_goals
        first
        | (go_round
           case rel =>
             refine ⟨j + 1, by omega, by go_num, fun p hp => ?_⟩
             rw [List.take_add_one, HX.out] at hp
             simp only [Option.toList, List.mem_append, List.mem_singleton] at hp
             rcases hp with hp | rfl
             · exact hall.out p hp
             · omega
           case measure => simp [intOf]; omega)
        | (go_ret
           have hmem : x ∈ L := List.mem_of_getElem? HX.out
           have hres := bad.out x hmem (by omega)
           exact ⟨by rw [hres]; rfl, by (repeat' first | with_reducible (first | exact Below.refl _ _ | assumption | refine Below.alloc ?_ ?_ _ | refine below_drewN ?_ _ | refine Below.drew ?_ | refine Below.setCell ?_ ?_ _ | refine Below.trans ?_ (Below.mono (by with_reducible assumption) ?_)) | go_size)⟩)
    · have hje : L.length ≤ j := by omega
      have Hres := Lib.hid (good.out (fun p hp => hall.out p (by rw [List.take_of_length_le hje]; exact hp)))
      clear hall
      go_wp2_with fail
      have t0 : w1.cell? ⟨w.heap.size, 0, none⟩ = some (.int .i64 i.op) := by go_simp
      have t1 : w1.cell? ⟨w.heap.size, 1, none⟩ = some (.int .i64 i.d) := by go_simp
      have t2 : w1.cell? ⟨w.heap.size, 2, none⟩ = some (.int .i64 i.a) := by go_simp
      have t3 : w1.cell? ⟨w.heap.size, 3, none⟩ = some (.int .i64 i.b) := by go_simp
      have t4 : w1.cell? ⟨w.heap.size, 4, none⟩ = some (.int .i64 i.c) := by go_simp
      have t5 : w1.cell? ⟨w.heap.size, 5, none⟩ = some (.int .i64 i.imm) := by go_simp
      have l1 : b < w1.heap.size := by omega
      have l2 : w.heap.size < w1.heap.size := by omega
      clear kc1 kf1
      rcases (show (Ev.makes i = true ∧ (i.d < 0 ∨ (f.secret.length : Int) ≤ i.d)) ∨ (Ev.makes i = true ∧ 0 ≤ i.d ∧ i.d < (f.secret.length : Int)) ∨ Ev.makes i = false from by cases Ev.makes i <;> simp; omega) with ⟨hmk, hd⟩ | ⟨hmk, hd⟩ | hmk
      · have hres : res = false := by
          have := Hres.out
          rw [hmk] at this
          have hp : Ev.isPlace f i.d = false := by unfold Ev.isPlace; simp; omega
          rw [hp] at this
          exact this
        have HR2 := Lib.hid hres
        clear hres
        rcases hd with hd | hd
        · have g1 : decide (i.d < 0) = true := by simp; omega
          refine wp_region_chain (fun w' => Below (w1).heap.size (w1) w') (by kernel_rfl) (by kernel_rfl) (by (repeat' first | with_reducible (first | exact Below.refl _ _ | assumption | refine Below.alloc ?_ ?_ _ | refine below_drewN ?_ _ | refine Below.drew ?_ | refine Below.setCell ?_ ?_ _ | refine Below.trans ?_ (Below.mono (by with_reducible assumption) ?_)) | go_size)) ?_
          repeat (
            apply chain_cons
            case h =>
              refine fun w9 hb9 => ?_
              have hB9 : Below w.heap.size w w9 := by (repeat' first | with_reducible (first | exact Below.refl _ _ | assumption | refine Below.alloc ?_ ?_ _ | refine below_drewN ?_ _ | refine Below.drew ?_ | refine Below.setCell ?_ ?_ _ | refine Below.trans ?_ (Below.mono (by with_reducible assumption) ?_)) | go_size)
              obtain ⟨kc9, kf9, s9⟩ := bfacts hb9
              obtain ⟨kd9, kg9, _⟩ := bfacts hB9
              go_wp2_with fail
              (try (refine (makes_any i _).mono ?_; rintro e w8 ⟨rfl, hb8⟩; go_wp2_with fail))
              refine settled_intro (S := fun w' => Below (w1).heap.size (w1) w') ?_
              (repeat' first | with_reducible (first | exact Below.refl _ _ | assumption | refine Below.alloc ?_ ?_ _ | refine below_drewN ?_ _ | refine Below.drew ?_ | refine Below.setCell ?_ ?_ _ | refine Below.trans ?_ (Below.mono (by with_reducible assumption) ?_)) | go_size)
            case hp => first | rfl | (simp only [*]; done) | (simp only [*]; rfl))
          refine chain.nil ?_
          refine fun w2 hb2 => ?_
          have B2 : Below w.heap.size w w2 := by (repeat' first | with_reducible (first | exact Below.refl _ _ | assumption | refine Below.alloc ?_ ?_ _ | refine below_drewN ?_ _ | refine Below.drew ?_ | refine Below.setCell ?_ ?_ _ | refine Below.trans ?_ (Below.mono (by with_reducible assumption) ?_)) | go_size)
          obtain ⟨kc2, kf2, s2⟩ := bfacts hb2
          obtain ⟨kd2, kg2, _⟩ := bfacts B2
          (try simp only [World.size_alloc, World.size_setCell, World.size_drew, World.heap_drewN, Nat.add_one_le_iff] at s2)
          clear hb2
          have hb2 := B2
          clear B2
          have B2 : Hid (Below w.heap.size w w2) := hb2
          (try have z2 : w.heap.size < w2.heap.size := by omega)
          (try dsimp only)
          go_wp2
          go_ret
          exact ⟨by rw [HR2.out]; rfl, by (repeat' first | with_reducible (first | exact Below.refl _ _ | assumption | refine Below.alloc ?_ ?_ _ | refine below_drewN ?_ _ | refine Below.drew ?_ | refine Below.setCell ?_ ?_ _ | refine Below.trans ?_ (Below.mono (by with_reducible assumption) ?_)) | go_size)⟩
        · have g1 : decide (i.d < 0) = false := by simp; omega
          have g2 : decide ((f.secret.length : Int) ≤ i.d) = true := by simp; omega
          refine wp_region_chain (fun w' => Below (w1).heap.size (w1) w') (by kernel_rfl) (by kernel_rfl) (by (repeat' first | with_reducible (first | exact Below.refl _ _ | assumption | refine Below.alloc ?_ ?_ _ | refine below_drewN ?_ _ | refine Below.drew ?_ | refine Below.setCell ?_ ?_ _ | refine Below.trans ?_ (Below.mono (by with_reducible assumption) ?_)) | go_size)) ?_
          repeat (
            apply chain_cons
            case h =>
              refine fun w9 hb9 => ?_
              have hB9 : Below w.heap.size w w9 := by (repeat' first | with_reducible (first | exact Below.refl _ _ | assumption | refine Below.alloc ?_ ?_ _ | refine below_drewN ?_ _ | refine Below.drew ?_ | refine Below.setCell ?_ ?_ _ | refine Below.trans ?_ (Below.mono (by with_reducible assumption) ?_)) | go_size)
              obtain ⟨kc9, kf9, s9⟩ := bfacts hb9
              obtain ⟨kd9, kg9, _⟩ := bfacts hB9
              go_wp2_with fail
              (try (refine (makes_any i _).mono ?_; rintro e w8 ⟨rfl, hb8⟩; go_wp2_with fail))
              refine settled_intro (S := fun w' => Below (w1).heap.size (w1) w') ?_
              (repeat' first | with_reducible (first | exact Below.refl _ _ | assumption | refine Below.alloc ?_ ?_ _ | refine below_drewN ?_ _ | refine Below.drew ?_ | refine Below.setCell ?_ ?_ _ | refine Below.trans ?_ (Below.mono (by with_reducible assumption) ?_)) | go_size)
            case hp => first | rfl | (simp only [*]; done) | (simp only [*]; rfl))
          refine chain.nil ?_
          refine fun w2 hb2 => ?_
          have B2 : Below w.heap.size w w2 := by (repeat' first | with_reducible (first | exact Below.refl _ _ | assumption | refine Below.alloc ?_ ?_ _ | refine below_drewN ?_ _ | refine Below.drew ?_ | refine Below.setCell ?_ ?_ _ | refine Below.trans ?_ (Below.mono (by with_reducible assumption) ?_)) | go_size)
          obtain ⟨kc2, kf2, s2⟩ := bfacts hb2
          obtain ⟨kd2, kg2, _⟩ := bfacts B2
          (try simp only [World.size_alloc, World.size_setCell, World.size_drew, World.heap_drewN, Nat.add_one_le_iff] at s2)
          clear hb2
          have hb2 := B2
          clear B2
          have B2 : Hid (Below w.heap.size w w2) := hb2
          (try have z2 : w.heap.size < w2.heap.size := by omega)
          (try dsimp only)
          go_wp2
          go_ret
          exact ⟨by rw [HR2.out]; rfl, by (repeat' first | with_reducible (first | exact Below.refl _ _ | assumption | refine Below.alloc ?_ ?_ _ | refine below_drewN ?_ _ | refine Below.drew ?_ | refine Below.setCell ?_ ?_ _ | refine Below.trans ?_ (Below.mono (by with_reducible assumption) ?_)) | go_size)⟩
      all_goals
        have hres : res = numTail f k i := by
          have := Hres.out
          rw [hmk] at this
          first
          | (have hp : Ev.isPlace f i.d = true := by (unfold Ev.isPlace; simp; omega)
             rw [hp] at this
             exact this)
          | exact this
        clear Hres
        have HR2 := Lib.hid hres
        clear hres
        (try have g1 : decide (i.d < 0) = false := by simp; omega)
        (try have g2 : decide ((f.secret.length : Int) ≤ i.d) = false := by simp; omega)
        refine wp_region_chain (fun w' => Below (w1).heap.size (w1) w') (by kernel_rfl) (by kernel_rfl) (by (repeat' first | with_reducible (first | exact Below.refl _ _ | assumption | refine Below.alloc ?_ ?_ _ | refine below_drewN ?_ _ | refine Below.drew ?_ | refine Below.setCell ?_ ?_ _ | refine Below.trans ?_ (Below.mono (by with_reducible assumption) ?_)) | go_size)) ?_
        repeat (
          apply chain_cons
          case h =>
            refine fun w9 hb9 => ?_
            have hB9 : Below w.heap.size w w9 := by (repeat' first | with_reducible (first | exact Below.refl _ _ | assumption | refine Below.alloc ?_ ?_ _ | refine below_drewN ?_ _ | refine Below.drew ?_ | refine Below.setCell ?_ ?_ _ | refine Below.trans ?_ (Below.mono (by with_reducible assumption) ?_)) | go_size)
            obtain ⟨kc9, kf9, s9⟩ := bfacts hb9
            obtain ⟨kd9, kg9, _⟩ := bfacts hB9
            go_wp2_with fail
            (try (refine (makes_any i _).mono ?_; rintro e w8 ⟨rfl, hb8⟩; go_wp2_with fail))
            refine settled_intro (S := fun w' => Below (w1).heap.size (w1) w') ?_
            (repeat' first | with_reducible (first | exact Below.refl _ _ | assumption | refine Below.alloc ?_ ?_ _ | refine below_drewN ?_ _ | refine Below.drew ?_ | refine Below.setCell ?_ ?_ _ | refine Below.trans ?_ (Below.mono (by with_reducible assumption) ?_)) | go_size)
          case hp => first | rfl | (simp only [*]; done) | (simp only [*]; rfl))
        refine chain.nil ?_
        refine fun w2 hb2 => ?_
        have B2 : Below w.heap.size w w2 := by (repeat' first | with_reducible (first | exact Below.refl _ _ | assumption | refine Below.alloc ?_ ?_ _ | refine below_drewN ?_ _ | refine Below.drew ?_ | refine Below.setCell ?_ ?_ _ | refine Below.trans ?_ (Below.mono (by with_reducible assumption) ?_)) | go_size)
        obtain ⟨kc2, kf2, s2⟩ := bfacts hb2
        obtain ⟨kd2, kg2, _⟩ := bfacts B2
        (try simp only [World.size_alloc, World.size_setCell, World.size_drew, World.heap_drewN, Nat.add_one_le_iff] at s2)
        clear hb2
        have hb2 := B2
        clear B2
        have B2 : Hid (Below w.heap.size w w2) := hb2
        (try have z2 : w.heap.size < w2.heap.size := by omega)
        (try dsimp only)
        rcases (show i.op = 14 ∨ ((i.op = 16 ∨ i.op = 17) ∧ i.b < 0) ∨ ((i.op = 16 ∨ i.op = 17) ∧ 0 ≤ i.b) ∨ ((i.op = 18 ∨ i.op = 19) ∧ i.imm ≤ k) ∨ ((i.op = 18 ∨ i.op = 19) ∧ (k : Int) < i.imm) ∨ (i.op ≠ 14 ∧ i.op ≠ 16 ∧ i.op ≠ 17 ∧ i.op ≠ 18 ∧ i.op ≠ 19) from by omega) with hop | ⟨hop, hb⟩ | ⟨hop, hb⟩ | ⟨hop, hb⟩ | ⟨hop, hb⟩ | hop
        · have hres : res = Ev.isWord i.imm := by rw [HR2.out]; unfold numTail; rw [if_pos hop]
          go_wp2_with fail
          refine (isWord_any _ _).mono ?_
          rintro e w3 ⟨rfl, hb3⟩
          obtain ⟨kc3, kf3, s3⟩ := bfacts hb3
          (try simp only [World.size_alloc, World.size_setCell, World.size_drew, World.heap_drewN, Nat.add_one_le_iff] at s3)
          (try have z3 : w.heap.size < w3.heap.size := by omega)
          have B3 : Hid (Below w.heap.size w w3) := by (show Below _ _ _); (repeat' first | with_reducible (first | exact Below.refl _ _ | assumption | refine Below.alloc ?_ ?_ _ | refine below_drewN ?_ _ | refine Below.drew ?_ | refine Below.setCell ?_ ?_ _ | refine Below.trans ?_ (Below.mono (by with_reducible assumption) ?_)) | go_size)
          obtain ⟨kd3, kg3, _⟩ := bfacts B3.out
          go_wp2_with fail
          go_ret
          exact ⟨by rw [hres]; rfl, by (repeat' first | with_reducible (first | exact Below.refl _ _ | assumption | refine Below.alloc ?_ ?_ _ | refine below_drewN ?_ _ | refine Below.drew ?_ | refine Below.setCell ?_ ?_ _ | refine Below.trans ?_ (Below.mono (by with_reducible assumption) ?_)) | go_size)⟩
        · have hres : res = false := by rw [HR2.out]; unfold numTail; rw [if_neg (by omega), if_pos hop]; simp; omega
          have g3 : decide (0 ≤ i.b) = false := by simp; omega
          go_wp2_with fail
          all_goals
            refine wp_region_chain (fun w' => Below (w2).heap.size (w2) w') (by kernel_rfl) (by kernel_rfl) (by (repeat' first | with_reducible (first | exact Below.refl _ _ | assumption | refine Below.alloc ?_ ?_ _ | refine below_drewN ?_ _ | refine Below.drew ?_ | refine Below.setCell ?_ ?_ _ | refine Below.trans ?_ (Below.mono (by with_reducible assumption) ?_)) | go_size)) ?_
            repeat (
              apply chain_cons
              case h =>
                refine fun w9 hb9 => ?_
                have hB9 : Below w.heap.size w w9 := by (repeat' first | with_reducible (first | exact Below.refl _ _ | assumption | refine Below.alloc ?_ ?_ _ | refine below_drewN ?_ _ | refine Below.drew ?_ | refine Below.setCell ?_ ?_ _ | refine Below.trans ?_ (Below.mono (by with_reducible assumption) ?_)) | go_size)
                obtain ⟨kc9, kf9, s9⟩ := bfacts hb9
                obtain ⟨kd9, kg9, _⟩ := bfacts hB9
                go_wp2_with fail
                (try (fail; go_wp2_with fail))
                refine settled_intro (S := fun w' => Below (w2).heap.size (w2) w') ?_
                (repeat' first | with_reducible (first | exact Below.refl _ _ | assumption | refine Below.alloc ?_ ?_ _ | refine below_drewN ?_ _ | refine Below.drew ?_ | refine Below.setCell ?_ ?_ _ | refine Below.trans ?_ (Below.mono (by with_reducible assumption) ?_)) | go_size)
              case hp => first | rfl | (simp only [*]; done) | (simp only [*]; rfl))
            refine chain.nil ?_
            refine fun w3 hb3 => ?_
            have B3 : Below w.heap.size w w3 := by (repeat' first | with_reducible (first | exact Below.refl _ _ | assumption | refine Below.alloc ?_ ?_ _ | refine below_drewN ?_ _ | refine Below.drew ?_ | refine Below.setCell ?_ ?_ _ | refine Below.trans ?_ (Below.mono (by with_reducible assumption) ?_)) | go_size)
            obtain ⟨kc3, kf3, s3⟩ := bfacts hb3
            obtain ⟨kd3, kg3, _⟩ := bfacts B3
            (try simp only [World.size_alloc, World.size_setCell, World.size_drew, World.heap_drewN, Nat.add_one_le_iff] at s3)
            clear hb3
            have hb3 := B3
            clear B3
            have B3 : Hid (Below w.heap.size w w3) := hb3
            (try have z3 : w.heap.size < w3.heap.size := by omega)
            (try dsimp only)
            go_wp2_with fail
            go_ret
            exact ⟨by rw [hres]; rfl, by (repeat' first | with_reducible (first | exact Below.refl _ _ | assumption | refine Below.alloc ?_ ?_ _ | refine below_drewN ?_ _ | refine Below.drew ?_ | refine Below.setCell ?_ ?_ _ | refine Below.trans ?_ (Below.mono (by with_reducible assumption) ?_)) | go_size)⟩
        · have hres : res = decide (i.b < f.arrays.length) := by rw [HR2.out]; unfold numTail; rw [if_neg (by omega), if_pos hop]; simp; omega
          have g3 : decide (0 ≤ i.b) = true := by simp; omega
          go_wp2_with fail
          all_goals
            refine wp_region_chain (fun w' => Below (w2).heap.size (w2) w') (by kernel_rfl) (by kernel_rfl) (by (repeat' first | with_reducible (first | exact Below.refl _ _ | assumption | refine Below.alloc ?_ ?_ _ | refine below_drewN ?_ _ | refine Below.drew ?_ | refine Below.setCell ?_ ?_ _ | refine Below.trans ?_ (Below.mono (by with_reducible assumption) ?_)) | go_size)) ?_
            repeat (
              apply chain_cons
              case h =>
                refine fun w9 hb9 => ?_
                have hB9 : Below w.heap.size w w9 := by (repeat' first | with_reducible (first | exact Below.refl _ _ | assumption | refine Below.alloc ?_ ?_ _ | refine below_drewN ?_ _ | refine Below.drew ?_ | refine Below.setCell ?_ ?_ _ | refine Below.trans ?_ (Below.mono (by with_reducible assumption) ?_)) | go_size)
                obtain ⟨kc9, kf9, s9⟩ := bfacts hb9
                obtain ⟨kd9, kg9, _⟩ := bfacts hB9
                go_wp2_with fail
                (try (fail; go_wp2_with fail))
                refine settled_intro (S := fun w' => Below (w2).heap.size (w2) w') ?_
                (repeat' first | with_reducible (first | exact Below.refl _ _ | assumption | refine Below.alloc ?_ ?_ _ | refine below_drewN ?_ _ | refine Below.drew ?_ | refine Below.setCell ?_ ?_ _ | refine Below.trans ?_ (Below.mono (by with_reducible assumption) ?_)) | go_size)
              case hp => first | rfl | (simp only [*]; done) | (simp only [*]; rfl))
            refine chain.nil ?_
            refine fun w3 hb3 => ?_
            have B3 : Below w.heap.size w w3 := by (repeat' first | with_reducible (first | exact Below.refl _ _ | assumption | refine Below.alloc ?_ ?_ _ | refine below_drewN ?_ _ | refine Below.drew ?_ | refine Below.setCell ?_ ?_ _ | refine Below.trans ?_ (Below.mono (by with_reducible assumption) ?_)) | go_size)
            obtain ⟨kc3, kf3, s3⟩ := bfacts hb3
            obtain ⟨kd3, kg3, _⟩ := bfacts B3
            (try simp only [World.size_alloc, World.size_setCell, World.size_drew, World.heap_drewN, Nat.add_one_le_iff] at s3)
            clear hb3
            have hb3 := B3
            clear B3
            have B3 : Hid (Below w.heap.size w w3) := hb3
            (try have z3 : w.heap.size < w3.heap.size := by omega)
            (try dsimp only)
            go_wp2_with fail
            go_ret
            exact ⟨by rw [hres]; rfl, by (repeat' first | with_reducible (first | exact Below.refl _ _ | assumption | refine Below.alloc ?_ ?_ _ | refine below_drewN ?_ _ | refine Below.drew ?_ | refine Below.setCell ?_ ?_ _ | refine Below.trans ?_ (Below.mono (by with_reducible assumption) ?_)) | go_size)⟩
        · have hres : res = false := by rw [HR2.out]; unfold numTail; rw [if_neg (by omega), if_neg (by omega), if_pos hop]; simp; omega
          have g3 : decide ((k : Int) < i.imm) = false := by simp; omega
          go_wp2_with fail
          all_goals
            refine wp_region_chain (fun w' => Below (w2).heap.size (w2) w') (by kernel_rfl) (by kernel_rfl) (by (repeat' first | with_reducible (first | exact Below.refl _ _ | assumption | refine Below.alloc ?_ ?_ _ | refine below_drewN ?_ _ | refine Below.drew ?_ | refine Below.setCell ?_ ?_ _ | refine Below.trans ?_ (Below.mono (by with_reducible assumption) ?_)) | go_size)) ?_
            repeat (
              apply chain_cons
              case h =>
                refine fun w9 hb9 => ?_
                have hB9 : Below w.heap.size w w9 := by (repeat' first | with_reducible (first | exact Below.refl _ _ | assumption | refine Below.alloc ?_ ?_ _ | refine below_drewN ?_ _ | refine Below.drew ?_ | refine Below.setCell ?_ ?_ _ | refine Below.trans ?_ (Below.mono (by with_reducible assumption) ?_)) | go_size)
                obtain ⟨kc9, kf9, s9⟩ := bfacts hb9
                obtain ⟨kd9, kg9, _⟩ := bfacts hB9
                go_wp2_with fail
                (try (fail; go_wp2_with fail))
                refine settled_intro (S := fun w' => Below (w2).heap.size (w2) w') ?_
                (repeat' first | with_reducible (first | exact Below.refl _ _ | assumption | refine Below.alloc ?_ ?_ _ | refine below_drewN ?_ _ | refine Below.drew ?_ | refine Below.setCell ?_ ?_ _ | refine Below.trans ?_ (Below.mono (by with_reducible assumption) ?_)) | go_size)
              case hp => first | rfl | (simp only [*]; done) | (simp only [*]; rfl))
            refine chain.nil ?_
            refine fun w3 hb3 => ?_
            have B3 : Below w.heap.size w w3 := by (repeat' first | with_reducible (first | exact Below.refl _ _ | assumption | refine Below.alloc ?_ ?_ _ | refine below_drewN ?_ _ | refine Below.drew ?_ | refine Below.setCell ?_ ?_ _ | refine Below.trans ?_ (Below.mono (by with_reducible assumption) ?_)) | go_size)
            obtain ⟨kc3, kf3, s3⟩ := bfacts hb3
            obtain ⟨kd3, kg3, _⟩ := bfacts B3
            (try simp only [World.size_alloc, World.size_setCell, World.size_drew, World.heap_drewN, Nat.add_one_le_iff] at s3)
            clear hb3
            have hb3 := B3
            clear B3
            have B3 : Hid (Below w.heap.size w w3) := hb3
            (try have z3 : w.heap.size < w3.heap.size := by omega)
            (try dsimp only)
            go_wp2_with fail
            go_ret
            exact ⟨by rw [hres]; rfl, by (repeat' first | with_reducible (first | exact Below.refl _ _ | assumption | refine Below.alloc ?_ ?_ _ | refine below_drewN ?_ _ | refine Below.drew ?_ | refine Below.setCell ?_ ?_ _ | refine Below.trans ?_ (Below.mono (by with_reducible assumption) ?_)) | go_size)⟩
        · have hres : res = decide (i.imm < f.code.length) := by rw [HR2.out]; unfold numTail; rw [if_neg (by omega), if_neg (by omega), if_pos hop]; simp; omega
          have g3 : decide ((k : Int) < i.imm) = true := by simp; omega
          go_wp2_with fail
          all_goals
            refine wp_region_chain (fun w' => Below (w2).heap.size (w2) w') (by kernel_rfl) (by kernel_rfl) (by (repeat' first | with_reducible (first | exact Below.refl _ _ | assumption | refine Below.alloc ?_ ?_ _ | refine below_drewN ?_ _ | refine Below.drew ?_ | refine Below.setCell ?_ ?_ _ | refine Below.trans ?_ (Below.mono (by with_reducible assumption) ?_)) | go_size)) ?_
            repeat (
              apply chain_cons
              case h =>
                refine fun w9 hb9 => ?_
                have hB9 : Below w.heap.size w w9 := by (repeat' first | with_reducible (first | exact Below.refl _ _ | assumption | refine Below.alloc ?_ ?_ _ | refine below_drewN ?_ _ | refine Below.drew ?_ | refine Below.setCell ?_ ?_ _ | refine Below.trans ?_ (Below.mono (by with_reducible assumption) ?_)) | go_size)
                obtain ⟨kc9, kf9, s9⟩ := bfacts hb9
                obtain ⟨kd9, kg9, _⟩ := bfacts hB9
                go_wp2_with fail
                (try (fail; go_wp2_with fail))
                refine settled_intro (S := fun w' => Below (w2).heap.size (w2) w') ?_
                (repeat' first | with_reducible (first | exact Below.refl _ _ | assumption | refine Below.alloc ?_ ?_ _ | refine below_drewN ?_ _ | refine Below.drew ?_ | refine Below.setCell ?_ ?_ _ | refine Below.trans ?_ (Below.mono (by with_reducible assumption) ?_)) | go_size)
              case hp => first | rfl | (simp only [*]; done) | (simp only [*]; rfl))
            refine chain.nil ?_
            refine fun w3 hb3 => ?_
            have B3 : Below w.heap.size w w3 := by (repeat' first | with_reducible (first | exact Below.refl _ _ | assumption | refine Below.alloc ?_ ?_ _ | refine below_drewN ?_ _ | refine Below.drew ?_ | refine Below.setCell ?_ ?_ _ | refine Below.trans ?_ (Below.mono (by with_reducible assumption) ?_)) | go_size)
            obtain ⟨kc3, kf3, s3⟩ := bfacts hb3
            obtain ⟨kd3, kg3, _⟩ := bfacts B3
            (try simp only [World.size_alloc, World.size_setCell, World.size_drew, World.heap_drewN, Nat.add_one_le_iff] at s3)
            clear hb3
            have hb3 := B3
            clear B3
            have B3 : Hid (Below w.heap.size w w3) := hb3
            (try have z3 : w.heap.size < w3.heap.size := by omega)
            (try dsimp only)
            go_wp2_with fail
            go_ret
            exact ⟨by rw [hres]; rfl, by (repeat' first | with_reducible (first | exact Below.refl _ _ | assumption | refine Below.alloc ?_ ?_ _ | refine below_drewN ?_ _ | refine Below.drew ?_ | refine Below.setCell ?_ ?_ _ | refine Below.trans ?_ (Below.mono (by with_reducible assumption) ?_)) | go_size)⟩
        · have hres : res = true := by rw [HR2.out]; unfold numTail; rw [if_neg (by omega), if_neg (by omega), if_neg (by omega)]
          go_wp2_with fail
          go_ret
          exact ⟨by rw [hres]; rfl, by (repeat' first | with_reducible (first | exact Below.refl _ _ | assumption | refine Below.alloc ?_ ?_ _ | refine below_drewN ?_ _ | refine Below.drew ?_ | refine Below.setCell ?_ ?_ _ | refine Below.trans ?_ (Below.mono (by with_reducible assumption) ?_)) | go_size)⟩
end Go.Proofs.Ytljcgcllhcdleaa
