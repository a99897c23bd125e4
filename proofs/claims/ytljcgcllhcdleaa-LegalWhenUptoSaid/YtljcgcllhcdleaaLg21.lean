import Derived.Test.YtljcgcllhcdleaaLg15
import Derived.Test.YtljcgcllhcdleaaLg16
import Derived.Test.YtljcgcllhcdleaaLg18
import Derived.Test.YtljcgcllhcdleaaLg20
/- legal.Legal: any right flat instructions, by a right table. -/
namespace Go.Proofs.Ytljcgcllhcdleaa
open Go.RowKit
set_option linter.unusedSimpArgs false
set_option linter.unusedVariables false
def ints (l : List Nat) : List Int := l.map (fun (n : Nat) => (n : Int))
theorem own_mono {w : World} {base base' size n : Nat} {e : TypeId} {v : Value} {xs : List Value} (h : w.ownsRow base e size v n xs) (hb : base' ≤ base) : w.ownsRow base' e size v n xs := by
  refine ⟨h.1, h.2.imp id fun ⟨g, cap, cur, h1, h2, h3⟩ => ⟨g, cap, cur, h1, Nat.le_trans hb h2, h3⟩⟩
theorem frOfBelow {w w' : World} {c : MkC} {m : Ev.Mk} {l : List Int} (h : MkIn w c m l) (hb : Below w.heap.size w w') : MkFr c w w' := by
  obtain ⟨_, _, _, h⟩ := h
  exact ⟨hb.mono (by have := h.lt; have := h.h1; omega), fun b hk => hb.block b (h.klt b hk)⟩
/-- a flat program's rows lie in blocks from lo on -/
def FromFlat (lo : Nat) (v : Value) : Prop := ∃ vc vs va p, v = .agg #[vc, vs, p, va] ∧ from_ lo vc ∧ from_ lo vs ∧ from_ lo va
theorem FromFlat.no (lo : Nat) (p : Value) : FromFlat lo (.agg #[.slice none 0 0, .slice none 0 0, p, .slice none 0 0]) := ⟨_, _, _, _, rfl, from_nil _ _ _, from_nil _ _ _, from_nil _ _ _⟩
theorem RFlat.aside {w : World} {lo : Nat} {v : Value} {f : Ev.Flat} (h : RFlat w w.heap.size v f) (hf : FromFlat lo v) (k o : Nat) (u : Value) (hk : k < lo) : RFlat (w.setCell ⟨k, o, none⟩ u) (w.setCell ⟨k, o, none⟩ u).heap.size v f := by
  obtain ⟨vc, vs, va, e, h1, h2, h3⟩ := h
  obtain ⟨vc', vs', va', p, rfl, f1, f2, f3⟩ := hf
  injection e with e
  simp only [Array.mk.injEq, List.cons.injEq] at e
  obtain ⟨rfl, rfl, rfl, rfl, _⟩ := e
  have hs : (w.setCell ⟨k, o, none⟩ u).heap.size = w.heap.size := by simp
  rw [hs]
  exact ⟨_, _, _, rfl, SL.aside h1 f1 _ _ _ hk, SL.aside h2 f2 _ _ _ hk, SL.aside h3 f3 _ _ _ hk⟩
structure LgW (f : Ev.Flat) (t : List Int) (c : MkC) (w1 wr : World) (k : Nat) (m : Ev.Mk) (at_ : List Nat) : Prop where
  mem : MkIn wr c m (ints at_)
  inv : Ev.LgInv f k at_ m
  res : Ev.lgFrom t (f.code.drop k) m at_ = Ev.lgFrom t f.code ⟨[], f.secret⟩ []
  bd : m.code.length ≤ 12000 + k ∧ m.secret.length ≤ f.secret.length + m.code.length
  fr : MkFr c w1 wr
set_option maxRecDepth 20000 in
set_option maxHeartbeats 6400000 in
theorem legal_any (f : Ev.Flat) (t : List Int) (vf : Value) (w : World) (hf : RFlat w w.heap.size vf f) (hl : t.length = 18) (ht : Ev.wrong t = 0) (hr : Ev.Right f) (hn : f.secret.length ≤ 268435456) (hna : f.arrays.length ≤ 268435456) :
    Calls Try.prog 19 #[vf, tableV t] w fun e w' => ∃ v, e = .returned (.tuple #[v, .int .i64 (Ev.legal f t).1]) ∧ RFlat w' w'.heap.size v (Ev.legal f t).2 ∧ FromFlat w.heap.size v ∧ Below w.heap.size w w' := by
  have HOWN := Lib.hid (fun u (h : Below w.heap.size w u) => own_rows f vf u (by obtain ⟨vc, vs, va, e, h1, h2, h3⟩ := hf; exact ⟨vc, vs, va, e, SL.at_ h1 h (Nat.le_refl _), SL.at_ h2 h (Nat.le_refl _), SL.at_ h3 h (Nat.le_refl _)⟩) (by have := hr.len2; omega) (by omega) (by omega))
  obtain ⟨vc, vs, va, rfl, hc, hsec, ha⟩ := hf
  obtain ⟨Ac, cc, rfl, hc1, hc2⟩ := SL.form hc
  obtain ⟨As, cs, rfl, hs1, hs2⟩ := SL.form hsec
  obtain ⟨Av, cv, rfl, ha1, ha2⟩ := SL.form ha
  unfold maxLen at hc2
  have HRC := Lib.hid hc
  have HR := Lib.hid hr
  have HT := Lib.hid ht
  have HL := Lib.hid hl
  have hlen := hr.len2
  unfold tableV
  generalize hT : (t.map (Value.int .i64)).toArray = ta at *
  have HTA := Lib.hid hT
  clear hc hsec ha hr ht hl hT
  go_enter Try.func19, Try.ntmps19
  go_upto_region 1 with fail
  obtain ⟨hb0, hb1, hb2⟩ := boxes3 w #[.slice Ac f.code.length cc, .slice As f.secret.length cs, .int .i64 f.params, .slice Av f.arrays.length cv] ta #[.slice none 0 0, .slice none 0 0, .int .i64 0, .slice none 0 0] 26 29 26
  have sA : w.heap.size + 3 = (((w.alloc (.cells #[.slice Ac f.code.length cc, .slice As f.secret.length cs, .int .i64 f.params, .slice Av f.arrays.length cv] 26)).alloc (.cells ta 29)).alloc (.cells #[.slice none 0 0, .slice none 0 0, .int .i64 0, .slice none 0 0] 26)).heap.size := by simp
  have bA : Below w.heap.size w (((w.alloc (.cells #[.slice Ac f.code.length cc, .slice As f.secret.length cs, .int .i64 f.params, .slice Av f.arrays.length cv] 26)).alloc (.cells ta 29)).alloc (.cells #[.slice none 0 0, .slice none 0 0, .int .i64 0, .slice none 0 0] 26)) := by (repeat' first | with_reducible (first | exact Below.refl _ _ | assumption | refine Below.alloc ?_ ?_ _ | refine below_drewN ?_ _ | refine Below.drew ?_ | refine Below.setCell ?_ ?_ _ | refine Below.trans ?_ (Below.mono (by with_reducible assumption) ?_)) | go_size)
  have pA : (((w.alloc (.cells #[.slice Ac f.code.length cc, .slice As f.secret.length cs, .int .i64 f.params, .slice Av f.arrays.length cv] 26)).alloc (.cells ta 29)).alloc (.cells #[.slice none 0 0, .slice none 0 0, .int .i64 0, .slice none 0 0] 26)).heap[w.heap.size + 1 + 1]? = some (.cells #[.slice none 0 0, .slice none 0 0, .int .i64 0, .slice none 0 0] 26 (0, 0)) := by
    have := heap_alloc_new ((w.alloc (.cells #[.slice Ac f.code.length cc, .slice As f.secret.length cs, .int .i64 f.params, .slice Av f.arrays.length cv] 26)).alloc (.cells ta 29)) (.cells #[.slice none 0 0, .slice none 0 0, .int .i64 0, .slice none 0 0] 26)
    simpa using this
  generalize (((w.alloc (.cells #[.slice Ac f.code.length cc, .slice As f.secret.length cs, .int .i64 f.params, .slice Av f.arrays.length cv] 26)).alloc (.cells ta 29)).alloc (.cells #[.slice none 0 0, .slice none 0 0, .int .i64 0, .slice none 0 0] 26)) = wA at *
  have HB0 := Lib.hid hb0
  have HB1 := Lib.hid hb1
  have HPA := Lib.hid pA
  have HBA := Lib.hid bA
  have z0 : w.heap.size < wA.heap.size := by omega
  have z1 : w.heap.size + 1 < wA.heap.size := by omega
  have z2 : w.heap.size + 1 + 1 < wA.heap.size := by omega
  have zA : w.heap.size ≤ wA.heap.size := by omega
  have SA := Lib.hid sA
  have x0 := hb0 0 _ rfl
  have x1 := hb0 1 _ rfl
  have x2 := hb0 2 _ rfl
  have x3 := hb0 3 _ rfl
  clear hb0 hb1 hb2 pA bA sA
  go_upto_region 2 with (go_at_call 33; refine (HOWN.out _ HBA.out).mono ?_; rintro e w1 ⟨lo, mid, vc1, vs1, va1, rfl, hO1, hO2, hO3, hlo, hlo2, hb1, hmid1, hmid2, hf3, hO4⟩; obtain ⟨A1, c1, rfl, _, _⟩ := SL.form hO1; obtain ⟨A2, c2, rfl, _, _⟩ := SL.form (SL.of_own hO2); obtain ⟨A3, c3, rfl, _, _⟩ := SL.form hO3; have HO2 := Lib.hid hO2; have HO3 := Lib.hid hO3; have HF3 := Lib.hid hf3; have HO4 := Lib.hid hO4; have HB1w := Lib.hid hb1; have s1 := hb1.size; have x0 := (hb1.cell (p := ⟨w.heap.size, 0, none⟩) z0).trans (HB0.out 0 _ rfl); clear hO1 hO2 hO3 hf3 hO4 hb1)
  have zz0 : w.heap.size < w1.heap.size := by omega
  go_upto_region 4 with fail
  obtain ⟨c, hcd⟩ : ∃ c : MkC, c = { mb := w1.heap.size, lo := w.heap.size + 3, K := fun b => mid ≤ b ∧ b < w1.heap.size, p := f.params, va := .slice A3 f.arrays.length c3, vt := .pointer (some ⟨w.heap.size + 1, 0, none⟩), vo := .pointer (some ⟨w.heap.size, 0, none⟩) } := ⟨_, rfl⟩
  have hM0 : MkAt (w1.alloc (.cells #[.slice none 0 0, .slice A2 f.secret.length c2, .int .i64 f.params, .slice A3 f.arrays.length c3, .pointer (some ⟨w.heap.size + 1, 0, none⟩), .pointer (some ⟨w.heap.size, 0, none⟩), .slice none 0 0] 96)) c (.slice none 0 0) (.slice A2 f.secret.length c2) (.slice none 0 0) ⟨[], f.secret⟩ [] := by
    subst hcd
    have hsm : w.heap.size + 3 ≤ lo := by have := SA.out; omega
    have hsl := SA.out
    exact { blk := heap_alloc_new w1 _, code := World.ownsRow_nil _ _ _ _, sec := own_mono (owns_below HO2.out ((Below.refl _ _).alloc (Nat.le_refl _) _)) hsm, ats := World.ownsRow_nil _ _ _ _,
            kb := fun h => (by have := h.2; dsimp only at this; omega), kc := fun b hb => (by cases hb), ks := fun b hb h => (by have := HO4.out b hb; have := h.1; omega), kx := fun b hb => (by cases hb),
            klt := fun b hb => (by have := hb.2; simp; omega), cs := fun b hb => (by cases hb), cx := fun b hb => (by cases hb), sx := fun b hb e => (by cases e),
            bc := fun e => (by cases e), bs := fun e => (by have := own_lt HO2.out e; dsimp only at this; omega), bx := fun e => (by cases e), h1 := (by dsimp only; omega) }
  have hmb : w1.heap.size = c.mb := by rw [hcd]
  have hvt : c.vt = .pointer (some ⟨w.heap.size + 1, 0, none⟩) := by rw [hcd]
  have hclo : c.lo = w.heap.size + 3 := by rw [hcd]
  have BW2 : Below w.heap.size w (w1.alloc (.cells #[.slice none 0 0, .slice A2 f.secret.length c2, .int .i64 f.params, .slice A3 f.arrays.length c3, .pointer (some ⟨w.heap.size + 1, 0, none⟩), .pointer (some ⟨w.heap.size, 0, none⟩), .slice none 0 0] 96)) := (HBA.out.trans (HB1w.out.mono zA)).alloc (by omega) _
  have B2A : Below wA.heap.size wA (w1.alloc (.cells #[.slice none 0 0, .slice A2 f.secret.length c2, .int .i64 f.params, .slice A3 f.arrays.length c3, .pointer (some ⟨w.heap.size + 1, 0, none⟩), .pointer (some ⟨w.heap.size, 0, none⟩), .slice none 0 0] 96)) := HB1w.out.alloc s1 _
  have ARR : Hid (Dep mid w1.heap.size w1 (fun u => RVars u u.heap.size (.slice A3 f.arrays.length c3) f.arrays)) := Lib.hid (SL.dep HO3.out HF3.out)
  have ARR2 : Hid (Dep mid w1.heap.size (w1.alloc (.cells #[.slice none 0 0, .slice A2 f.secret.length c2, .int .i64 f.params, .slice A3 f.arrays.length c3, .pointer (some ⟨w.heap.size + 1, 0, none⟩), .pointer (some ⟨w.heap.size, 0, none⟩), .slice none 0 0] 96)) (fun u => RVars u u.heap.size (.slice A3 f.arrays.length c3) f.arrays)) := Lib.hid (ARR.out.stays ((Below.refl _ _).alloc (Nat.le_refl _) _))
  generalize hw2 : w1.alloc (.cells #[.slice none 0 0, .slice A2 f.secret.length c2, .int .i64 f.params, .slice A3 f.arrays.length c3, .pointer (some ⟨w.heap.size + 1, 0, none⟩), .pointer (some ⟨w.heap.size, 0, none⟩), .slice none 0 0] 96) = w2 at *
  clear hw2 ARR HO2 HO3 HO4 HB1w x0 x1 x2 x3
  rw [hmb]
  rw [hmb] at ARR2 zz0
  have HCD := Lib.hid hcd
  have HMB := Lib.hid hmb
  have HVT := Lib.hid hvt
  have HCL := Lib.hid hclo
  have HBW := Lib.hid BW2
  have HB2A := Lib.hid B2A
  have zz1 : w.heap.size + 3 ≤ c.mb := by have := SA.out; omega
  have HG0 : Hid (LgW f t c w2 w2 0 ⟨[], f.secret⟩ []) := Lib.hid ⟨⟨_, _, _, hM0⟩, Ev.lg_start f, by rw [List.drop_zero], ⟨by simp, by simp⟩, MkFr.refl _ _⟩
  have q2 := BW2.size
  clear hcd hmb hvt hclo BW2 B2A hM0 s1
  go_loopw [22] (fun kk wr => ∃ (k : Nat) (m : Ev.Mk) (at_ : List Nat), k ≤ f.code.length ∧ kk = .int .i64 (k : Int) ∧ Hid (LgW f t c w2 wr k m at_)) (fun kk _ => f.code.length - (intOf kk).toNat)
  case atStart => exact ⟨0, ⟨[], f.secret⟩, [], by omega, rfl, HG0⟩
  case round =>
    obtain ⟨k, m, at_, hk, rfl, HG⟩ := hrel
    have hbwr : Below w.heap.size w wr := HBW.out.trans (HG.out.fr.below.mono (by have := HCL.out; omega))
    have q3 := hbwr.size
    by_cases hlt : k < f.code.length
    · obtain ⟨i, hi⟩ : ∃ i, f.code[k]? = some i := ⟨f.code[k], List.getElem?_eq_getElem hlt⟩
      have hi0 := Lib.hid hi
      have hcr : RCode wr wr.heap.size (.slice Ac f.code.length cc) f.code := SL.at_ HRC.out hbwr (Nat.le_refl _)
      obtain ⟨bc, oc, cc', hvc, hbc, _, _, _, i0, i1, i2, i3, i4, i5⟩ := RCode.at_ hcr hi
      injection hvc with hA _ hcr'
      subst hA hcr'
      obtain ⟨vcc, vss, vxx, hmk⟩ := HG.out.mem
      have HMK := Lib.hid hmk
      obtain ⟨Acd, ccd, rfl, hcd1, hcd2⟩ := SL.form (SL.of_own hmk.code)
      obtain ⟨Axd, cxd, rfl, hxd1, hxd2⟩ := SL.form (SL.of_own hmk.ats)
      have hmlt := hmk.lt
      clear hi hmk hcr
      go_upto_region 6 with fail
      have BJ : Below wr.heap.size wr (wr.alloc (.cells #[.int .i64 i.op, .int .i64 i.d, .int .i64 i.a, .int .i64 i.b, .int .i64 i.c, .int .i64 i.imm] 39)) := (Below.refl _ _).alloc (Nat.le_refl _) _
      have HMJ := Lib.hid (HMK.out.stays BJ)
      have HBJ : Hid ((wr.alloc (.cells #[.int .i64 i.op, .int .i64 i.d, .int .i64 i.a, .int .i64 i.b, .int .i64 i.c, .int .i64 i.imm] 39)).heap[wr.heap.size]? = some (.cells #[.int .i64 i.op, .int .i64 i.d, .int .i64 i.a, .int .i64 i.b, .int .i64 i.c, .int .i64 i.imm] 39 (0, 0))) := Lib.hid (heap_alloc_new wr _)
      have lo2 : c.mb < (wr.alloc (.cells #[.int .i64 i.op, .int .i64 i.d, .int .i64 i.a, .int .i64 i.b, .int .i64 i.c, .int .i64 i.imm] 39)).heap.size := by simp; omega
      have lo3 : wr.heap.size < (wr.alloc (.cells #[.int .i64 i.op, .int .i64 i.d, .int .i64 i.a, .int .i64 i.b, .int .i64 i.c, .int .i64 i.imm] 39)).heap.size := by simp
      have HBWJ := Lib.hid BJ
      obtain ⟨ii, hi1, hz0, hz1, hz2⟩ := info_parts cloneInts_info
      have II := Lib.hid (⟨hi1, hz0, hz1, hz2⟩ : _ ∧ _ ∧ _ ∧ _)
      have hatl : (ints at_).length = k := by unfold ints; rw [List.length_map]; exact HG.out.inv.len
      have HATL := Lib.hid hatl
      have hatl2 : (ints at_).length ≤ 12000 := by omega
      have hlo4 : c.lo ≤ wr.heap.size := by have := HMK.out.h1; omega
      have hlo5 : c.lo ≤ (wr.alloc (.cells #[.int .i64 i.op, .int .i64 i.d, .int .i64 i.a, .int .i64 i.b, .int .i64 i.c, .int .i64 i.imm] 39)).heap.size := by simp; omega
      clear hi1 hz0 hz1 hz2 BJ hatl
      generalize hwJ : (wr.alloc (.cells #[.int .i64 i.op, .int .i64 i.d, .int .i64 i.a, .int .i64 i.b, .int .i64 i.c, .int .i64 i.imm] 39)) = wJ at *
      clear hwJ
      have HBI : Hid (∃ b, b = wr.heap.size) := Lib.hid ⟨_, rfl⟩
      obtain ⟨bI, hbI⟩ : ∃ b, b = wr.heap.size := ⟨_, rfl⟩
      have HBE := Lib.hid hbI
      rw [← hbI]
      rw [← hbI] at HBJ lo3
      clear hbI
      refine wp_region_lastT (S := fun w' => wJ.grownBy w' (Value.slice Axd (ints at_).length cxd).ownBlock) [(0, true), (1, true), (2, true), (3, true), (4, true), (5, true), (6, true), (7, true), (8, true), (9, true), (10, true), (11, false), (12, false), (13, true), (14, true)] 15 (by kernel_rfl) (by kernel_rfl) (by kernel_rfl) (by kernel_rfl) (by kernel_rfl) (by decide) (grown_of_below (Below.refl _ _).drew _) ?_
      simp only [List.pop_toArray, List.dropLast_cons_cons, List.dropLast_singleton]
      apply trail_light
      case hi => (simp only [List.getElem?_toArray, List.getElem?_cons_zero, List.getElem?_cons_succ]; exact rfl)
      case hl => first | exact light_no (by rfl) | ((first | apply light_plain rfl | apply light_yes (by rfl)); intro w9 hS9; skip; first | (exact exec_load rfl rfl (by first | exact ldi9 | exact ldt9)) | (go_simp; try rfl))
      case hQ => exact fun _ _ _ h => h
      (try simp only [Act.put, List.setIfInBounds_toArray, List.set_cons_zero, List.set_cons_succ])
      apply trail_light
      case hi => (simp only [List.getElem?_toArray, List.getElem?_cons_zero, List.getElem?_cons_succ]; exact rfl)
      case hl => first | exact light_no (by rfl) | ((first | apply light_plain rfl | apply light_yes (by rfl)); intro w9 hS9; skip; first | (exact exec_load rfl rfl (by first | exact ldi9 | exact ldt9)) | (go_simp; try rfl))
      case hQ => exact fun _ _ _ h => h
      (try simp only [Act.put, List.setIfInBounds_toArray, List.set_cons_zero, List.set_cons_succ])
      apply trail_light
      case hi => (simp only [List.getElem?_toArray, List.getElem?_cons_zero, List.getElem?_cons_succ]; exact rfl)
      case hl => first | exact light_no (by rfl) | ((first | apply light_plain rfl | apply light_yes (by rfl)); intro w9 hS9; have kb9 := (hS9.block c.mb lo2 (fun e => HMK.out.bx e.symm)).trans HMJ.out.blk; have k9 : w9.cell? ⟨c.mb, 6, none⟩ = some (.slice Axd (ints at_).length cxd) := (cell_of_block kb9 6).trans rfl; have k90 : w9.cell? ⟨c.mb, 0, none⟩ = some (.slice Acd m.code.length ccd) := (cell_of_block kb9 0).trans rfl; have hl9 := fun j => box_looseM kb9 j; have hw9 := hS9.size; clear kb9; first | (exact exec_load rfl rfl (by first | exact ldi9 | exact ldt9)) | (go_simp; try rfl))
      case hQ => exact fun _ _ _ h => h
      (try simp only [Act.put, List.setIfInBounds_toArray, List.set_cons_zero, List.set_cons_succ])
      apply trail_light
      case hi => (simp only [List.getElem?_toArray, List.getElem?_cons_zero, List.getElem?_cons_succ]; exact rfl)
      case hl => first | exact light_no (by rfl) | ((first | apply light_plain rfl | apply light_yes (by rfl)); intro w9 hS9; have kb9 := (hS9.block c.mb lo2 (fun e => HMK.out.bx e.symm)).trans HMJ.out.blk; have k9 : w9.cell? ⟨c.mb, 6, none⟩ = some (.slice Axd (ints at_).length cxd) := (cell_of_block kb9 6).trans rfl; have k90 : w9.cell? ⟨c.mb, 0, none⟩ = some (.slice Acd m.code.length ccd) := (cell_of_block kb9 0).trans rfl; have hl9 := fun j => box_looseM kb9 j; have hw9 := hS9.size; clear kb9; first | (exact exec_load rfl rfl (by first | exact ldi9 | exact ldt9)) | (go_simp; try rfl))
      case hQ => exact fun _ _ _ h => h
      (try simp only [Act.put, List.setIfInBounds_toArray, List.set_cons_zero, List.set_cons_succ])
      apply trail_light
      case hi => (simp only [List.getElem?_toArray, List.getElem?_cons_zero, List.getElem?_cons_succ]; exact rfl)
      case hl => first | exact light_no (by rfl) | ((first | apply light_plain rfl | apply light_yes (by rfl)); intro w9 hS9; have kb9 := (hS9.block c.mb lo2 (fun e => HMK.out.bx e.symm)).trans HMJ.out.blk; have k9 : w9.cell? ⟨c.mb, 6, none⟩ = some (.slice Axd (ints at_).length cxd) := (cell_of_block kb9 6).trans rfl; have k90 : w9.cell? ⟨c.mb, 0, none⟩ = some (.slice Acd m.code.length ccd) := (cell_of_block kb9 0).trans rfl; have hl9 := fun j => box_looseM kb9 j; have hw9 := hS9.size; clear kb9; first | (exact exec_load rfl rfl (by first | exact ldi9 | exact ldt9)) | (go_simp; try rfl))
      case hQ => exact fun _ _ _ h => h
      (try simp only [Act.put, List.setIfInBounds_toArray, List.set_cons_zero, List.set_cons_succ])
      apply trail_light
      case hi => (simp only [List.getElem?_toArray, List.getElem?_cons_zero, List.getElem?_cons_succ]; exact rfl)
      case hl => first | exact light_no (by rfl) | ((first | apply light_plain rfl | apply light_yes (by rfl)); intro w9 hS9; skip; first | (exact exec_load rfl rfl (by first | exact ldi9 | exact ldt9)) | (go_simp; try rfl))
      case hQ => exact fun _ _ _ h => h
      (try simp only [Act.put, List.setIfInBounds_toArray, List.set_cons_zero, List.set_cons_succ])
      apply trail_light
      case hi => (simp only [List.getElem?_toArray, List.getElem?_cons_zero, List.getElem?_cons_succ]; exact rfl)
      case hl => first | exact light_no (by rfl) | ((first | apply light_plain rfl | apply light_yes (by rfl)); intro w9 hS9; have kb9 := (hS9.block c.mb lo2 (fun e => HMK.out.bx e.symm)).trans HMJ.out.blk; have k9 : w9.cell? ⟨c.mb, 6, none⟩ = some (.slice Axd (ints at_).length cxd) := (cell_of_block kb9 6).trans rfl; have k90 : w9.cell? ⟨c.mb, 0, none⟩ = some (.slice Acd m.code.length ccd) := (cell_of_block kb9 0).trans rfl; have hl9 := fun j => box_looseM kb9 j; have hw9 := hS9.size; clear kb9; first | (exact exec_load rfl rfl (by first | exact ldi9 | exact ldt9)) | (go_simp; try rfl))
      case hQ => exact fun _ _ _ h => h
      (try simp only [Act.put, List.setIfInBounds_toArray, List.set_cons_zero, List.set_cons_succ])
      apply trail_light
      case hi => (simp only [List.getElem?_toArray, List.getElem?_cons_zero, List.getElem?_cons_succ]; exact rfl)
      case hl => first | exact light_no (by rfl) | ((first | apply light_plain rfl | apply light_yes (by rfl)); intro w9 hS9; have kb9 := (hS9.block c.mb lo2 (fun e => HMK.out.bx e.symm)).trans HMJ.out.blk; have k9 : w9.cell? ⟨c.mb, 6, none⟩ = some (.slice Axd (ints at_).length cxd) := (cell_of_block kb9 6).trans rfl; have k90 : w9.cell? ⟨c.mb, 0, none⟩ = some (.slice Acd m.code.length ccd) := (cell_of_block kb9 0).trans rfl; have hl9 := fun j => box_looseM kb9 j; have hw9 := hS9.size; clear kb9; first | (exact exec_load rfl rfl (by first | exact ldi9 | exact ldt9)) | (go_simp; try rfl))
      case hQ => exact fun _ _ _ h => h
      (try simp only [Act.put, List.setIfInBounds_toArray, List.set_cons_zero, List.set_cons_succ])
      apply trail_light
      case hi => (simp only [List.getElem?_toArray, List.getElem?_cons_zero, List.getElem?_cons_succ]; exact rfl)
      case hl => first | exact light_no (by rfl) | ((first | apply light_plain rfl | apply light_yes (by rfl)); intro w9 hS9; have kb9 := (hS9.block c.mb lo2 (fun e => HMK.out.bx e.symm)).trans HMJ.out.blk; have k9 : w9.cell? ⟨c.mb, 6, none⟩ = some (.slice Axd (ints at_).length cxd) := (cell_of_block kb9 6).trans rfl; have k90 : w9.cell? ⟨c.mb, 0, none⟩ = some (.slice Acd m.code.length ccd) := (cell_of_block kb9 0).trans rfl; have hl9 := fun j => box_looseM kb9 j; have hw9 := hS9.size; clear kb9; first | (exact exec_load rfl rfl (by first | exact ldi9 | exact ldt9)) | (go_simp; try rfl))
      case hQ => exact fun _ _ _ h => h
      (try simp only [Act.put, List.setIfInBounds_toArray, List.set_cons_zero, List.set_cons_succ])
      apply trail_light
      case hi => (simp only [List.getElem?_toArray, List.getElem?_cons_zero, List.getElem?_cons_succ]; exact rfl)
      case hl => first | exact light_no (by rfl) | ((first | apply light_plain rfl | apply light_yes (by rfl)); intro w9 hS9; have kb9 := (hS9.block c.mb lo2 (fun e => HMK.out.bx e.symm)).trans HMJ.out.blk; have k9 : w9.cell? ⟨c.mb, 6, none⟩ = some (.slice Axd (ints at_).length cxd) := (cell_of_block kb9 6).trans rfl; have k90 : w9.cell? ⟨c.mb, 0, none⟩ = some (.slice Acd m.code.length ccd) := (cell_of_block kb9 0).trans rfl; have hl9 := fun j => box_looseM kb9 j; have hw9 := hS9.size; clear kb9; first | (exact exec_load rfl rfl (by first | exact ldi9 | exact ldt9)) | (go_simp; try rfl))
      case hQ => exact fun _ _ _ h => h
      (try simp only [Act.put, List.setIfInBounds_toArray, List.set_cons_zero, List.set_cons_succ])
      apply trail_light
      case hi => (simp only [List.getElem?_toArray, List.getElem?_cons_zero, List.getElem?_cons_succ]; exact rfl)
      case hl => first | exact light_no (by rfl) | ((first | apply light_plain rfl | apply light_yes (by rfl)); intro w9 hS9; have kb9 := (hS9.block c.mb lo2 (fun e => HMK.out.bx e.symm)).trans HMJ.out.blk; have k9 : w9.cell? ⟨c.mb, 6, none⟩ = some (.slice Axd (ints at_).length cxd) := (cell_of_block kb9 6).trans rfl; have k90 : w9.cell? ⟨c.mb, 0, none⟩ = some (.slice Acd m.code.length ccd) := (cell_of_block kb9 0).trans rfl; have hl9 := fun j => box_looseM kb9 j; have hw9 := hS9.size; clear kb9; first | (exact exec_load rfl rfl (by first | exact ldi9 | exact ldt9)) | (go_simp; try rfl))
      case hQ => exact fun _ _ _ h => h
      (try simp only [Act.put, List.setIfInBounds_toArray, List.set_cons_zero, List.set_cons_succ])
      apply trail_heavy
      case hi => (simp only [List.getElem?_toArray, List.getElem?_cons_zero, List.getElem?_cons_succ]; exact rfl)
      go_wp2_with ((at_builtin; refine wpList_append_own_at _ rfl (.tmp 30) (.tmp 37) _ rfl c.lo 3 ii (.int .i64 0) 1 8 Try.underlying42 II.out.1 II.out.2.1 II.out.2.2.1 II.out.2.2.2 rfl (by decide) _ _ _ rfl ((owns_below HMJ.out.ats (Below.refl _ _).drew).alloc _) ⟨wJ.heap.size, 0, none⟩ 1 1 [.int .i64 (m.code.length : Int)] rfl rfl (cell_one_new _ _ _) (fun x hx => by simp at hx; subst hx; rfl) (by unfold maxLen; omega) (by omega) (by simp; omega) ?_; intro v5 w5 hown5 hg5 hn5 hat5))
      refine ⟨by (first | exact grown_trans (grown_of_below (by (repeat' first | with_reducible (first | exact Below.refl _ _ | assumption | refine Below.alloc ?_ ?_ _ | refine below_drewN ?_ _ | refine Below.drew ?_ | refine Below.setCell ?_ ?_ _ | refine Below.trans ?_ (Below.mono (by with_reducible assumption) ?_)) | go_size) : Below wJ.heap.size wJ _) _) hg5 | exact grown_of_below (by (repeat' first | with_reducible (first | exact Below.refl _ _ | assumption | refine Below.alloc ?_ ?_ _ | refine below_drewN ?_ _ | refine Below.drew ?_ | refine Below.setCell ?_ ?_ _ | refine Below.trans ?_ (Below.mono (by with_reducible assumption) ?_)) | go_size) : Below wJ.heap.size wJ _) _), ?_⟩
      apply trail_heavy
      case hi => (simp only [List.getElem?_toArray, List.getElem?_cons_zero, List.getElem?_cons_succ]; exact rfl)
      go_wp2_with ((at_builtin; refine wpList_append_own_at _ rfl (.tmp 30) (.tmp 37) _ rfl c.lo 3 ii (.int .i64 0) 1 8 Try.underlying42 II.out.1 II.out.2.1 II.out.2.2.1 II.out.2.2.2 rfl (by decide) _ _ _ rfl ((owns_below HMJ.out.ats (Below.refl _ _).drew).alloc _) ⟨wJ.heap.size, 0, none⟩ 1 1 [.int .i64 (m.code.length : Int)] rfl rfl (cell_one_new _ _ _) (fun x hx => by simp at hx; subst hx; rfl) (by unfold maxLen; omega) (by omega) (by simp; omega) ?_; intro v5 w5 hown5 hg5 hn5 hat5))
      refine ⟨by (first | exact grown_trans (grown_of_below (by (repeat' first | with_reducible (first | exact Below.refl _ _ | assumption | refine Below.alloc ?_ ?_ _ | refine below_drewN ?_ _ | refine Below.drew ?_ | refine Below.setCell ?_ ?_ _ | refine Below.trans ?_ (Below.mono (by with_reducible assumption) ?_)) | go_size) : Below wJ.heap.size wJ _) _) hg5 | exact grown_of_below (by (repeat' first | with_reducible (first | exact Below.refl _ _ | assumption | refine Below.alloc ?_ ?_ _ | refine below_drewN ?_ _ | refine Below.drew ?_ | refine Below.setCell ?_ ?_ _ | refine Below.trans ?_ (Below.mono (by with_reducible assumption) ?_)) | go_size) : Below wJ.heap.size wJ _) _), ?_⟩
      apply trail_light
      case hi => (simp only [List.getElem?_toArray, List.getElem?_cons_zero, List.getElem?_cons_succ]; exact rfl)
      case hl => first | exact light_no (by rfl) | ((first | apply light_plain rfl | apply light_yes (by rfl)); intro w9 hS9; have kb9 := (hS9.block c.mb lo2 (fun e => HMK.out.bx e.symm)).trans HMJ.out.blk; have k9 : w9.cell? ⟨c.mb, 6, none⟩ = some (.slice Axd (ints at_).length cxd) := (cell_of_block kb9 6).trans rfl; have k90 : w9.cell? ⟨c.mb, 0, none⟩ = some (.slice Acd m.code.length ccd) := (cell_of_block kb9 0).trans rfl; have hl9 := fun j => box_looseM kb9 j; have hw9 := hS9.size; clear kb9; first | (exact exec_load rfl rfl (by first | exact ldi9 | exact ldt9)) | (go_simp; try rfl))
      case hQ => exact fun _ _ _ h => h
      (try simp only [Act.put, List.setIfInBounds_toArray, List.set_cons_zero, List.set_cons_succ])
      apply trail_light
      case hi => (simp only [List.getElem?_toArray, List.getElem?_cons_zero, List.getElem?_cons_succ]; exact rfl)
      case hl => first | exact light_no (by rfl) | ((first | apply light_plain rfl | apply light_yes (by rfl)); intro w9 hS9; have kb9 := (hS9.block c.mb lo2 (fun e => HMK.out.bx e.symm)).trans HMJ.out.blk; have k9 : w9.cell? ⟨c.mb, 6, none⟩ = some (.slice Axd (ints at_).length cxd) := (cell_of_block kb9 6).trans rfl; have k90 : w9.cell? ⟨c.mb, 0, none⟩ = some (.slice Acd m.code.length ccd) := (cell_of_block kb9 0).trans rfl; have hl9 := fun j => box_looseM kb9 j; have hw9 := hS9.size; clear kb9; first | (exact exec_load rfl rfl (by first | exact ldi9 | exact ldt9)) | (go_simp; try rfl))
      case hQ => exact fun _ _ _ h => h
      (try simp only [Act.put, List.setIfInBounds_toArray, List.set_cons_zero, List.set_cons_succ])
      refine trail_nil ?_
      refine last_at rfl ?_
      (try dsimp only)
      obtain ⟨A5, c5, rfl, _, _⟩ := SL.form (SL.of_own hown5)
      have hg5' : ((wJ.alloc (.cells #[.int .i64 (m.code.length : Int)] 3)).drew).grownBy w5 (.slice Axd (ints at_).length cxd : Value).ownBlock := hg5
      have hat5' : (.slice A5 ((ints at_).length + 1) c5 : Value).ownBlock = (.slice Axd (ints at_).length cxd : Value).ownBlock ∨ (.slice A5 ((ints at_).length + 1) c5 : Value).ownBlock = some ((wJ.alloc (.cells #[.int .i64 (m.code.length : Int)] 3)).drew).heap.size := hat5
      have hb5 : Below wr.heap.size wr (wJ.alloc (.cells #[.int .i64 (m.code.length : Int)] 3)).drew := (HBWJ.out.alloc HBWJ.out.size _).drew
      have HP := Lib.hid (HMK.out.pushAt (x := (m.code.length : Int)) hb5 hg5' hown5 hat5')
      have b5A : Below wJ.heap.size wJ (wJ.alloc (.cells #[.int .i64 (m.code.length : Int)] 3)).drew := ((Below.refl wJ.heap.size wJ).alloc (Nat.le_refl _) _).drew
      have k5b : w5.heap[c.mb]? = some (.cells (mkCells c (.slice Acd m.code.length ccd) vss (.slice Axd (ints at_).length cxd)) 96 (0, 0)) := (hg5'.block c.mb (by simp; omega) (fun e => HMK.out.bx e.symm)).trans ((b5A.block c.mb lo2).trans HMJ.out.blk)
      have k5i : w5.heap[bI]? = some (.cells #[.int .i64 i.op, .int .i64 i.d, .int .i64 i.a, .int .i64 i.b, .int .i64 i.c, .int .i64 i.imm] 39 (0, 0)) := (hg5'.block bI (by simp; omega) (fun e => by have := own_lt HMK.out.ats e.symm; have := HBE.out; omega)).trans ((b5A.block bI lo3).trans HBJ.out)
      have hbim : bI ≠ c.mb := by have := HBE.out; omega
      have HBX : Hid ((w5.setCell ⟨c.mb, 6, none⟩ (.slice A5 ((ints at_).length + 1) c5)).heap[bI]? = some (.cells #[.int .i64 i.op, .int .i64 i.d, .int .i64 i.a, .int .i64 i.b, .int .i64 i.c, .int .i64 i.imm] 39 (0, 0))) := Lib.hid ((Below.heap_setCell w5 ⟨c.mb, 6, none⟩ _ bI hbim).trans k5i)
      have k5 : w5.cell? ⟨c.mb, 6, none⟩ = some (.slice Axd (ints at_).length cxd) := (cell_of_block k5b 6).trans rfl
      have l5 := fun j => box_looseM k5b j
      clear k5b k5i hg5 hat5 hn5 hown5 hg5' hat5' hb5 b5A
      go_upto_region 7 with fail
      generalize hwK : w5.setCell ⟨c.mb, 6, none⟩ (.slice A5 ((ints at_).length + 1) c5) = wK at *
      clear hwK k5 l5
      have hats : ints at_ ++ [(m.code.length : Int)] = ints (at_ ++ [m.code.length]) := by unfold ints; simp
      have HMN : Hid (MkIn wK c m (ints (at_ ++ [m.code.length]))) := Lib.hid ⟨_, _, _, hats ▸ HP.out.1⟩
      have FRK : Hid (MkFr c w2 wK) := Lib.hid (HG.out.fr.trans HP.out.2)
      have kmb := HP.out.1.lt
      have kbI : bI < wK.heap.size := (Array.getElem?_eq_some_iff.1 HBX.out).1
      have n0 : wK.cell? ⟨bI, 0, none⟩ = some (.int .i64 i.op) := (cell_of_block HBX.out 0).trans rfl
      have n1 : wK.cell? ⟨bI, 1, none⟩ = some (.int .i64 i.d) := (cell_of_block HBX.out 1).trans rfl
      have n2 : wK.cell? ⟨bI, 2, none⟩ = some (.int .i64 i.a) := (cell_of_block HBX.out 2).trans rfl
      have n3 : wK.cell? ⟨bI, 3, none⟩ = some (.int .i64 i.b) := (cell_of_block HBX.out 3).trans rfl
      have n4 : wK.cell? ⟨bI, 4, none⟩ = some (.int .i64 i.c) := (cell_of_block HBX.out 4).trans rfl
      have n5 : wK.cell? ⟨bI, 5, none⟩ = some (.int .i64 i.imm) := (cell_of_block HBX.out 5).trans rfl
      have HS := Lib.hid (HR.out.sound hi0.out)
      have HRD : Hid (∀ p ∈ Ev.reads i, Ev.InP m.secret p) := Lib.hid (fun p hp => by obtain ⟨s, hs⟩ := HG.out.inv.sec; rw [hs]; exact Ev.InP.app s (HS.out.reads p hp))
      have HSD : Hid (∀ (j : Nat) (x : Ev.Instr), f.code[j]? = some x → x.op ≤ 13 → Ev.InP f.secret x.d) := Lib.hid (fun j x hx hop => (HR.out.sound hx).makes (by omega))
      have HBD : Hid (m.code.length ≤ 12000 + k ∧ m.secret.length ≤ f.secret.length + m.code.length) := Lib.hid HG.out.bd
      have HPUT : Hid (Ev.LgInv f (k + 1) (at_ ++ [m.code.length]) (m.put i)) := Lib.hid (HG.out.inv.push (l := [i]) (s := []) HSD.out hi0.out (by simp) rfl (by simp [Ev.Mk.put]) (.inl rfl))
      have HDR := Lib.hid (Ev.drop_at hi0.out)
      have cput := HBD.out.1
      clear HMJ HBJ HBWJ II lo2 lo3 hatl2 hlo5 hats hbim HP hlo4 i0 i1 i2 i3 i4 i5
      by_cases h17 : 17 < i.op
      · have g : decide ((17 : Int) < i.op) = true := decide_eq_true h17
        have HRES : Hid (Ev.lgFrom t (f.code.drop (k + 1)) (m.put i) (at_ ++ [m.code.length]) = Ev.lgFrom t f.code ⟨[], f.secret⟩ []) := Lib.hid (by rw [← HG.out.res, HDR.out, Ev.lg_put (.inl h17)])
        clear h17
        go_wp2_with fail
        go_at_call 54
        refine (put_any c m _ i _ HMN.out (by omega)).mono ?_
        rintro e w8 ⟨rfl, h8, fr8⟩
        have H8 := Lib.hid h8
        have F8 := Lib.hid fr8
        clear h8 fr8 n0 n1 n2 n3 n4 n5
        go_wp2_with fail
        go_roundw
        case rel => exact ⟨k + 1, m.put i, at_ ++ [m.code.length], by omega, by go_num, Lib.hid ⟨H8.out, HPUT.out, HRES.out, ⟨by have := HBD.out.1; simp [Ev.Mk.put]; omega, by have := HBD.out.2; simp [Ev.Mk.put]; omega⟩, FRK.out.trans F8.out⟩⟩
        case measure => simp [intOf]; omega
      · have g : decide ((17 : Int) < i.op) = false := decide_eq_false h17
        have op17 : i.op ≤ 17 := by omega
        have BTK : Below wA.heap.size wA wK := HB2A.out.trans (FRK.out.below.mono (by have := HCL.out; have := SA.out; omega))
        have CSH := Lib.hid (mshows_any c m _ t i (w.heap.size + 1) wK HMN.out HVT.out (fun j v hj => (BTK.cell (p := ⟨w.heap.size + 1, j, none⟩) z1).trans (HB1.out j v (by rw [← HTA.out]; exact hj))) (by have := BTK.size; omega) HL.out HT.out HS.out.op.1 op17 HRD.out)
        have HBTK := Lib.hid BTK
        have H17 := Lib.hid h17
        clear BTK h17 op17
        cases hsv : Ev.mkShows m t i with
        | false =>
          have HRES : Hid (Ev.lgFrom t (f.code.drop (k + 1)) (m.put i) (at_ ++ [m.code.length]) = Ev.lgFrom t f.code ⟨[], f.secret⟩ []) := Lib.hid (by rw [← HG.out.res, HDR.out, Ev.lg_put (.inr hsv)])
          rw [hsv] at CSH
          clear hsv
          go_wp2_with fail
          go_at_call 53
          refine CSH.out.mono ?_
          rintro e w7 ⟨rfl, hb7⟩
          have H7 := Lib.hid (HMN.out.stays hb7)
          have F7 : Hid (MkFr c wK w7) := Lib.hid (frOfBelow HMN.out hb7)
          have n0 := (hb7.cell (p := ⟨bI, 0, none⟩) kbI).trans n0
          have n1 := (hb7.cell (p := ⟨bI, 1, none⟩) kbI).trans n1
          have n2 := (hb7.cell (p := ⟨bI, 2, none⟩) kbI).trans n2
          have n3 := (hb7.cell (p := ⟨bI, 3, none⟩) kbI).trans n3
          have n4 := (hb7.cell (p := ⟨bI, 4, none⟩) kbI).trans n4
          have n5 := (hb7.cell (p := ⟨bI, 5, none⟩) kbI).trans n5
          clear hb7
          go_wp2_with fail
          go_at_call 54
          refine (put_any c m _ i _ H7.out (by omega)).mono ?_
          rintro e w8 ⟨rfl, h8, fr8⟩
          have H8 := Lib.hid h8
          have F8 := Lib.hid fr8
          clear h8 fr8 n0 n1 n2 n3 n4 n5
          go_wp2_with fail
          go_roundw
          case rel => exact ⟨k + 1, m.put i, at_ ++ [m.code.length], by omega, by go_num, Lib.hid ⟨H8.out, HPUT.out, HRES.out, ⟨by have := HBD.out.1; simp [Ev.Mk.put]; omega, by have := HBD.out.2; simp [Ev.Mk.put]; omega⟩, (FRK.out.trans F7.out).trans F8.out⟩⟩
          case measure => simp [intOf]; omega
        | true =>
          have HSV := Lib.hid hsv
          rw [hsv] at CSH
          have HNO : Hid (¬ (17 < i.op ∨ Ev.mkShows m t i = false)) := Lib.hid (by rw [hsv]; simp; have := H17.out; omega)
          clear hsv
          go_wp2_with fail
          go_at_call 53
          refine CSH.out.mono ?_
          rintro e w7 ⟨rfl, hb7⟩
          have H7 := Lib.hid (HMN.out.stays hb7)
          have F7 : Hid (MkFr c wK w7) := Lib.hid (frOfBelow HMN.out hb7)
          have n0 := (hb7.cell (p := ⟨bI, 0, none⟩) kbI).trans n0
          have n1 := (hb7.cell (p := ⟨bI, 1, none⟩) kbI).trans n1
          have n2 := (hb7.cell (p := ⟨bI, 2, none⟩) kbI).trans n2
          have n3 := (hb7.cell (p := ⟨bI, 3, none⟩) kbI).trans n3
          have n4 := (hb7.cell (p := ⟨bI, 4, none⟩) kbI).trans n4
          have n5 := (hb7.cell (p := ⟨bI, 5, none⟩) kbI).trans n5
          clear hb7
          go_wp2_with fail
          go_at_call 55
          refine (mother_any c m _ i _ H7.out HRD.out (by have := HBD.out; unfold Room; omega)).mono ?_
          rintro e w9 ⟨m9, rfl, hm9, h9, fr9⟩
          have H9 := Lib.hid h9
          have F9 := Lib.hid ((FRK.out.trans F7.out).trans fr9)
          clear h9 fr9 n0 n1 n2 n3 n4 n5
          have BT9 : Below wA.heap.size wA w9 := HB2A.out.trans (F9.out.below.mono (by have := HCL.out; have := SA.out; omega))
          have HP9 : Hid (w9.heap[w.heap.size + 1 + 1]? = some (.cells #[.slice none 0 0, .slice none 0 0, .int .i64 0, .slice none 0 0] 26 (0, 0))) := Lib.hid ((BT9.block _ z2).trans HPA.out)
          have z9 := BT9.size
          obtain ⟨vc9, vs9, vx9, hmk9⟩ := H9.out
          obtain ⟨A9, c9, rfl, _, _⟩ := SL.form (SL.of_own hmk9.code)
          have k9c : w9.cell? ⟨c.mb, 0, none⟩ = some (.slice A9 m9.code.length c9) := (hmk9.at_ 0).trans rfl
          clear BT9 hmk9
          cases hot : Ev.mkOther m i with
          | none =>
            rw [hot] at hm9
            obtain rfl : m = m9 := hm9
            have HOT := Lib.hid hot
            have hsome : (none : Option Ev.Mk).isSome = false := rfl
            rw [hsome]
            clear hot hsome
            by_cases hbig : 12000 < m.code.length
            · have gb : decide ((12000 : Int) < (m.code.length : Int)) = true := decide_eq_true (by omega)
              have HBIG := Lib.hid hbig
              clear hbig
              have y0 := (cell_of_block HP9.out 0).trans (show (#[.slice none 0 0, .slice none 0 0, .int .i64 0, .slice none 0 0] : Array Value)[0]? = some (.slice none 0 0) from rfl)
              have y1 := (cell_of_block HP9.out 1).trans (show (#[.slice none 0 0, .slice none 0 0, .int .i64 0, .slice none 0 0] : Array Value)[1]? = some (.slice none 0 0) from rfl)
              have y2 := (cell_of_block HP9.out 2).trans (show (#[.slice none 0 0, .slice none 0 0, .int .i64 0, .slice none 0 0] : Array Value)[2]? = some (.int .i64 0) from rfl)
              have y3 := (cell_of_block HP9.out 3).trans (show (#[.slice none 0 0, .slice none 0 0, .int .i64 0, .slice none 0 0] : Array Value)[3]? = some (.slice none 0 0) from rfl)
              have yl := fun j => box_looseM HP9.out j
              have HRT := Lib.hid (Ev.legal_no (f := f) (t := t) (e := 4) (by rw [← HG.out.res, HDR.out, Ev.lg_no HNO.out HOT.out, if_pos HBIG.out]) (by decide))
              go_wp2_with fail
              refine bodyPost_ret (v := .tuple #[.agg #[.slice none 0 0, .slice none 0 0, .int .i64 0, .slice none 0 0], .int .i64 4]) (by simp [results, Try.results19, go_sem, y0, y1, y2, y3]) rfl ?_
              refine ⟨_, by rw [HRT.out], ?_, FromFlat.no _ _, ?_⟩
              · rw [HRT.out]; exact ⟨_, _, _, rfl, SL.nil_ _ _ _, SL.nil_ _ _ _, SL.nil_ _ _ _⟩
              · have e0 := HBW.out.trans (F9.out.below.mono (by have := HCL.out; omega))
                have e1 := e0.size
                (repeat' first | with_reducible (first | exact Below.refl _ _ | assumption | refine Below.alloc ?_ ?_ _ | refine below_drewN ?_ _ | refine Below.drew ?_ | refine Below.setCell ?_ ?_ _ | refine Below.trans ?_ (Below.mono (by with_reducible assumption) ?_)) | go_size)
            · have gb : decide ((12000 : Int) < (m.code.length : Int)) = false := decide_eq_false (by omega)
              have HBIG := Lib.hid hbig
              clear hbig
              have y0 := (cell_of_block HP9.out 0).trans (show (#[.slice none 0 0, .slice none 0 0, .int .i64 0, .slice none 0 0] : Array Value)[0]? = some (.slice none 0 0) from rfl)
              have y1 := (cell_of_block HP9.out 1).trans (show (#[.slice none 0 0, .slice none 0 0, .int .i64 0, .slice none 0 0] : Array Value)[1]? = some (.slice none 0 0) from rfl)
              have y2 := (cell_of_block HP9.out 2).trans (show (#[.slice none 0 0, .slice none 0 0, .int .i64 0, .slice none 0 0] : Array Value)[2]? = some (.int .i64 0) from rfl)
              have y3 := (cell_of_block HP9.out 3).trans (show (#[.slice none 0 0, .slice none 0 0, .int .i64 0, .slice none 0 0] : Array Value)[3]? = some (.slice none 0 0) from rfl)
              have yl := fun j => box_looseM HP9.out j
              have HRT := Lib.hid (Ev.legal_no (f := f) (t := t) (e := 11) (by rw [← HG.out.res, HDR.out, Ev.lg_no HNO.out HOT.out, if_neg HBIG.out]) (by decide))
              go_wp2_with fail
              refine bodyPost_ret (v := .tuple #[.agg #[.slice none 0 0, .slice none 0 0, .int .i64 0, .slice none 0 0], .int .i64 11]) (by simp [results, Try.results19, go_sem, y0, y1, y2, y3]) rfl ?_
              refine ⟨_, by rw [HRT.out], ?_, FromFlat.no _ _, ?_⟩
              · rw [HRT.out]; exact ⟨_, _, _, rfl, SL.nil_ _ _ _, SL.nil_ _ _ _, SL.nil_ _ _ _⟩
              · have e0 := HBW.out.trans (F9.out.below.mono (by have := HCL.out; omega))
                have e1 := e0.size
                (repeat' first | with_reducible (first | exact Below.refl _ _ | assumption | refine Below.alloc ?_ ?_ _ | refine below_drewN ?_ _ | refine Below.drew ?_ | refine Below.setCell ?_ ?_ _ | refine Below.trans ?_ (Below.mono (by with_reducible assumption) ?_)) | go_size)
          | some m2 =>
            rw [hot] at hm9
            obtain rfl : m2 = m9 := hm9
            have HOT := Lib.hid hot
            have hsome : (some m2 : Option Ev.Mk).isSome = true := rfl
            rw [hsome]
            clear hot hsome
            by_cases hbig : 12000 < m2.code.length
            · have gb : decide ((12000 : Int) < (m2.code.length : Int)) = true := decide_eq_true (by omega)
              have HBIG := Lib.hid hbig
              clear hbig
              have y0 := (cell_of_block HP9.out 0).trans (show (#[.slice none 0 0, .slice none 0 0, .int .i64 0, .slice none 0 0] : Array Value)[0]? = some (.slice none 0 0) from rfl)
              have y1 := (cell_of_block HP9.out 1).trans (show (#[.slice none 0 0, .slice none 0 0, .int .i64 0, .slice none 0 0] : Array Value)[1]? = some (.slice none 0 0) from rfl)
              have y2 := (cell_of_block HP9.out 2).trans (show (#[.slice none 0 0, .slice none 0 0, .int .i64 0, .slice none 0 0] : Array Value)[2]? = some (.int .i64 0) from rfl)
              have y3 := (cell_of_block HP9.out 3).trans (show (#[.slice none 0 0, .slice none 0 0, .int .i64 0, .slice none 0 0] : Array Value)[3]? = some (.slice none 0 0) from rfl)
              have yl := fun j => box_looseM HP9.out j
              have HRT := Lib.hid (Ev.legal_no (f := f) (t := t) (e := 4) (by rw [← HG.out.res, HDR.out, Ev.lg_big HNO.out HOT.out HBIG.out]) (by decide))
              go_wp2_with fail
              refine bodyPost_ret (v := .tuple #[.agg #[.slice none 0 0, .slice none 0 0, .int .i64 0, .slice none 0 0], .int .i64 4]) (by simp [results, Try.results19, go_sem, y0, y1, y2, y3]) rfl ?_
              refine ⟨_, by rw [HRT.out], ?_, FromFlat.no _ _, ?_⟩
              · rw [HRT.out]; exact ⟨_, _, _, rfl, SL.nil_ _ _ _, SL.nil_ _ _ _, SL.nil_ _ _ _⟩
              · have e0 := HBW.out.trans (F9.out.below.mono (by have := HCL.out; omega))
                have e1 := e0.size
                (repeat' first | with_reducible (first | exact Below.refl _ _ | assumption | refine Below.alloc ?_ ?_ _ | refine below_drewN ?_ _ | refine Below.drew ?_ | refine Below.setCell ?_ ?_ _ | refine Below.trans ?_ (Below.mono (by with_reducible assumption) ?_)) | go_size)
            · have gb : decide ((12000 : Int) < (m2.code.length : Int)) = false := decide_eq_false (by omega)
              have HRES : Hid (Ev.lgFrom t (f.code.drop (k + 1)) m2 (at_ ++ [m.code.length]) = Ev.lgFrom t f.code ⟨[], f.secret⟩ []) := Lib.hid (by rw [← HG.out.res, HDR.out, Ev.lg_on HNO.out HOT.out hbig])
              have HINV : Hid (Ev.LgInv f (k + 1) (at_ ++ [m.code.length]) m2) := Lib.hid (by
                obtain ⟨s, hs⟩ := HG.out.inv.sec
                obtain ⟨l, s', h1, h2, h3, h4⟩ := Ev.other_blk HS.out HT.out hs HSV.out HOT.out
                exact HG.out.inv.push HSD.out hi0.out h1 h2 h3 h4)
              have hob := Lib.hid (Ev.other_bound HOT.out)
              have HSML := Lib.hid hbig
              clear hbig
              go_wp2_with fail
              go_roundw
              case rel => exact ⟨k + 1, m2, at_ ++ [m.code.length], by omega, by go_num, Lib.hid ⟨H9.out, HINV.out, HRES.out, ⟨by have := HSML.out; omega, by have := hob.out; have := HBD.out.2; omega⟩, F9.out⟩⟩
              case measure => simp [intOf]; omega
    · obtain rfl : k = f.code.length := by omega
      have HX : Hid (Ev.lgFrom t f.code ⟨[], f.secret⟩ [] = (0, at_, m)) := Lib.hid (by rw [← HG.out.res, List.drop_length]; rfl)
      have HINV := Lib.hid HG.out.inv
      have FG := Lib.hid HG.out.fr
      have HBD := Lib.hid HG.out.bd
      have HMG := Lib.hid HG.out.mem
      clear HG hlt hbwr q3
      obtain ⟨vcg, vsg, vxg, hmg⟩ := HMG.out
      obtain ⟨Ag, cg, rfl, _, _⟩ := SL.form (SL.of_own hmg.code)
      have kgc : wr.cell? ⟨c.mb, 0, none⟩ = some (.slice Ag m.code.length cg) := (hmg.at_ 0).trans rfl
      clear hmg
      by_cases hbig : 12000 < m.code.length
      · have gb : decide ((12000 : Int) < (m.code.length : Int)) = true := decide_eq_true (by omega)
        have HBIG := Lib.hid hbig
        clear hbig
        have BT9 : Below wA.heap.size wA wr := HB2A.out.trans (FG.out.below.mono (by have := HCL.out; have := SA.out; omega))
        have HP9 : Hid (wr.heap[w.heap.size + 1 + 1]? = some (.cells #[.slice none 0 0, .slice none 0 0, .int .i64 0, .slice none 0 0] 26 (0, 0))) := Lib.hid ((BT9.block _ z2).trans HPA.out)
        have z9 := BT9.size
        clear BT9
        have y0 := (cell_of_block HP9.out 0).trans (show (#[.slice none 0 0, .slice none 0 0, .int .i64 0, .slice none 0 0] : Array Value)[0]? = some (.slice none 0 0) from rfl)
        have y1 := (cell_of_block HP9.out 1).trans (show (#[.slice none 0 0, .slice none 0 0, .int .i64 0, .slice none 0 0] : Array Value)[1]? = some (.slice none 0 0) from rfl)
        have y2 := (cell_of_block HP9.out 2).trans (show (#[.slice none 0 0, .slice none 0 0, .int .i64 0, .slice none 0 0] : Array Value)[2]? = some (.int .i64 0) from rfl)
        have y3 := (cell_of_block HP9.out 3).trans (show (#[.slice none 0 0, .slice none 0 0, .int .i64 0, .slice none 0 0] : Array Value)[3]? = some (.slice none 0 0) from rfl)
        have yl := fun j => box_looseM HP9.out j
        have HRT := Lib.hid (Ev.legal_big HX.out HBIG.out)
        go_wp2_with fail
        refine bodyPost_ret (v := .tuple #[.agg #[.slice none 0 0, .slice none 0 0, .int .i64 0, .slice none 0 0], .int .i64 4]) (by simp [results, Try.results19, go_sem, y0, y1, y2, y3]) rfl ?_
        refine ⟨_, by rw [HRT.out], ?_, FromFlat.no _ _, ?_⟩
        · rw [HRT.out]; exact ⟨_, _, _, rfl, SL.nil_ _ _ _, SL.nil_ _ _ _, SL.nil_ _ _ _⟩
        · have e0 := HBW.out.trans (FG.out.below.mono (by have := HCL.out; omega))
          have e1 := e0.size
          (repeat' first | with_reducible (first | exact Below.refl _ _ | assumption | refine Below.alloc ?_ ?_ _ | refine below_drewN ?_ _ | refine Below.drew ?_ | refine Below.setCell ?_ ?_ _ | refine Below.trans ?_ (Below.mono (by with_reducible assumption) ?_)) | go_size)
      · have gb : decide ((12000 : Int) < (m.code.length : Int)) = false := decide_eq_false (by omega)
        have HSML := Lib.hid hbig
        have hml : m.code.length ≤ 12000 := by omega
        obtain ⟨wo, hwo⟩ : ∃ wo : World, wo = wr := ⟨_, rfl⟩
        have HWO := Lib.hid hwo
        clear hbig hwo
        go_wp2_with fail
        go_loopw [90] (fun kk wx => ∃ j : Nat, j ≤ m.code.length ∧ kk = .int .i64 (j : Int) ∧ Hid (MkIn wx c ⟨Ev.relTo at_ m.code j, m.secret⟩ (ints at_)) ∧ Hid (MkFr c w2 wx) ∧ Hid (∀ (q : Nat) x, q < j → m.code[q]? = some x → x.op ≤ 17 → Ev.mkShows m t x = false)) (fun kk _ => m.code.length - (intOf kk).toNat)
        case atStart => exact ⟨0, by omega, rfl, Lib.hid (by rw [Ev.relTo_zero]; exact HMG.out), FG, Lib.hid (fun q x hq => by omega)⟩
        case round =>
          clear kgc
          obtain ⟨j, hj, rfl, HM, HF, HQ⟩ := hrel
          by_cases hlt : j < m.code.length
          · obtain ⟨x, hx⟩ : ∃ x, m.code[j]? = some x := ⟨m.code[j], List.getElem?_eq_getElem hlt⟩
            have HXJ := Lib.hid hx
            have HTH := Lib.hid (HINV.out.there HR.out hx)
            have hlenj : (Ev.relTo at_ m.code j).length = m.code.length := Ev.relTo_len _ _ _ hj
            have HLJ := Lib.hid hlenj
            obtain ⟨vcj, vsj, vxj, hmj⟩ := HM.out
            obtain ⟨g, cap, rfl, hg1, hg2, hg3, hg4, hgl, hgc, hgs⟩ := hmj.codeAt (k := j) (i := x) (Ev.relTo_at hx)
            have kj : wr.cell? ⟨c.mb, 0, none⟩ = some (.slice (some ⟨g, 0, none⟩) m.code.length cap) := by rw [← hlenj]; exact (hmj.at_ 0).trans rfl
            dsimp only at hg3
            rw [hlenj] at hg3
            have i0 : wr.cell? ⟨g, j * 6, none⟩ = some (.int .i64 x.op) := hgc 0 _ rfl
            have i1 := hgc 1 _ rfl
            have i2 := hgc 2 _ rfl
            have i3 := hgc 3 _ rfl
            have i4 := hgc 4 _ rfl
            have i5 := hgc 5 _ rfl
            have HGS := Lib.hid hgs
            have HMJ := Lib.hid hmj
            unfold maxLen at hg4
            clear hgc hgs hx hmj hlenj
            have hop1 := HTH.out.1
            by_cases hop : x.op = 18 ∨ x.op = 19
            · have hrel : Ev.reloc at_ x = { x with imm := (at_.getD x.imm.toNat 0 : Nat) } := by unfold Ev.reloc; rw [if_pos hop]
              have HREL := Lib.hid hrel
              have him := HTH.out.2.2 hop
              have HOP := Lib.hid hop
              have hat : (ints at_)[x.imm.toNat]? = some ((at_.getD x.imm.toNat 0 : Nat) : Int) := by
                unfold ints
                rw [List.getElem?_map, List.getD_eq_getElem?_getD, List.getElem?_eq_getElem (show x.imm.toNat < at_.length by omega)]
                rfl
              obtain ⟨bx, ox, cx, hvx, hx1, hx2, hx3, hx4, hxc⟩ := RInts.at_ (SL.of_own HMJ.out.ats) hat
              subst hvx
              have hil : (ints at_).length = at_.length := by unfold ints; rw [List.length_map]
              have k6 : wr.cell? ⟨c.mb, 6, none⟩ = some (.slice (some ⟨bx, ox, none⟩) (ints at_).length cx) := (HMJ.out.at_ 6).trans rfl
              rw [hil] at k6
              obtain ⟨v, hv⟩ : ∃ v : Int, v = ((at_.getD x.imm.toNat 0 : Nat) : Int) := ⟨_, rfl⟩
              have HV := Lib.hid hv
              rw [← hv] at hxc
              unfold maxLen at hx4
              clear hrel hop hat hv hil
              rcases HOP.out with h | h
              · have g1 : (x.op == 18) = true := beq_iff_eq.2 h
                have g3 : decide (x.op ≤ 17) = false := decide_eq_false (by omega)
                have hopx : 17 < x.op := by omega
                clear h
                have HMZ : Hid (MkIn ((wr.setCell ⟨g, j * 6 + 5, none⟩ (.int .i64 v)).drew) c ⟨Ev.relTo at_ m.code (j + 1), m.secret⟩ (ints at_)) := Lib.hid (by
                  have h1 := (HGS.out v).1
                  have h2 : ({ (⟨Ev.relTo at_ m.code j, m.secret⟩ : Ev.Mk) with code := (Ev.relTo at_ m.code j).set j { x with imm := v } } : Ev.Mk) = ⟨Ev.relTo at_ m.code (j + 1), m.secret⟩ := by
                    rw [← Ev.relTo_set HXJ.out, HREL.out, HV.out]
                  exact ⟨_, _, _, h2 ▸ (h1.stays (Below.refl _ _).drew)⟩)
                have HFZ : Hid (MkFr c w2 ((wr.setCell ⟨g, j * 6 + 5, none⟩ (.int .i64 v)).drew)) := Lib.hid ((HF.out.trans (HGS.out v).2).drew)
                have HQZ : Hid (∀ (q : Nat) y, q < j + 1 → m.code[q]? = some y → y.op ≤ 17 → Ev.mkShows m t y = false) := Lib.hid (fun q y hq hy hop => by
                  rcases Nat.lt_succ_iff_lt_or_eq.1 hq with h | rfl
                  · exact HQ.out q y h hy hop
                  · have := HXJ.out.symm.trans hy
                    injection this with this
                    subst this
                    omega)
                have him0 := him.1
                have him1 := him.2
                go_upto_region 21 with fail
                refine wp_region_store (fun w' => w' = (wr).drew) (fun w' => w' = ((wr.setCell ⟨g, j * 6 + 5, none⟩ (.int .i64 v)).drew)) 13 [11] (by kernel_rfl) (by kernel_rfl) (by kernel_rfl) (by kernel_rfl) rfl ?_
                apply chainS_mid (by rfl)
                case h => (rintro w9 rfl; go_wp2_with fail; (try (fail; go_wp2_with fail)); refine settled_intro (S := fun w' => w' = (wr).drew) ?_; rfl)
                case h1 => (intro hk; exact absurd hk (by decide))
                case hp => first | rfl | (simp only [*]; done) | (simp only [*]; rfl)
                apply chainS_mid (by rfl)
                case h => (rintro w9 rfl; go_wp2_with fail; (try (fail; go_wp2_with fail)); refine settled_intro (S := fun w' => w' = (wr).drew) ?_; rfl)
                case h1 => (intro hk; exact absurd hk (by decide))
                case hp => first | rfl | (simp only [*]; done) | (simp only [*]; rfl)
                apply chainS_mid (by rfl)
                case h => (rintro w9 rfl; go_wp2_with fail; (try (fail; go_wp2_with fail)); refine settled_intro (S := fun w' => w' = (wr).drew) ?_; rfl)
                case h1 => (intro hk; exact absurd hk (by decide))
                case hp => first | rfl | (simp only [*]; done) | (simp only [*]; rfl)
                apply chainS_mid (by rfl)
                case h => (rintro w9 rfl; go_wp2_with fail; (try (fail; go_wp2_with fail)); refine settled_intro (S := fun w' => w' = (wr).drew) ?_; rfl)
                case h1 => (intro hk; exact absurd hk (by decide))
                case hp => first | rfl | (simp only [*]; done) | (simp only [*]; rfl)
                apply chainS_mid (by rfl)
                case h => (rintro w9 rfl; go_wp2_with fail; (try (fail; go_wp2_with fail)); refine settled_intro (S := fun w' => w' = (wr).drew) ?_; rfl)
                case h1 => (intro hk; exact absurd hk (by decide))
                case hp => first | rfl | (simp only [*]; done) | (simp only [*]; rfl)
                apply chainS_mid (by rfl)
                case h => (rintro w9 rfl; go_wp2_with fail; (try (fail; go_wp2_with fail)); refine settled_intro (S := fun w' => w' = (wr).drew) ?_; rfl)
                case h1 => (intro hk; exact absurd hk (by decide))
                case hp => first | rfl | (simp only [*]; done) | (simp only [*]; rfl)
                apply chainS_mid (by rfl)
                case h => (rintro w9 rfl; go_wp2_with fail; (try (fail; go_wp2_with fail)); refine settled_intro (S := fun w' => w' = (wr).drew) ?_; rfl)
                case h1 => (intro hk; exact absurd hk (by decide))
                case hp => first | rfl | (simp only [*]; done) | (simp only [*]; rfl)
                apply chainS_mid (by rfl)
                case h => (rintro w9 rfl; go_wp2_with fail; (try (fail; go_wp2_with fail)); refine settled_intro (S := fun w' => w' = (wr).drew) ?_; rfl)
                case h1 => (intro hk; exact absurd hk (by decide))
                case hp => first | rfl | (simp only [*]; done) | (simp only [*]; rfl)
                apply chainS_mid (by rfl)
                case h => (rintro w9 rfl; go_wp2_with fail; (try (fail; go_wp2_with fail)); refine settled_intro (S := fun w' => w' = (wr).drew) ?_; rfl)
                case h1 => (intro hk; exact absurd hk (by decide))
                case hp => first | rfl | (simp only [*]; done) | (simp only [*]; rfl)
                apply chainS_mid (by rfl)
                case h => (rintro w9 rfl; go_wp2_with fail; (try (fail; go_wp2_with fail)); refine settled_intro (S := fun w' => w' = (wr).drew) ?_; rfl)
                case h1 => (intro hk; exact absurd hk (by decide))
                case hp => first | rfl | (simp only [*]; done) | (simp only [*]; rfl)
                apply chainS_mid (by rfl)
                case h => (rintro w9 rfl; go_wp2_with fail; (try (fail; go_wp2_with fail)); refine settled_intro (S := fun w' => w' = (wr).drew) ?_; rfl)
                case h1 => (intro hk; exact absurd hk (by decide))
                case hp => first | rfl | (simp only [*]; done) | (simp only [*]; rfl)
                apply chainS_mid (by rfl)
                case h => (rintro w9 rfl; go_wp2_with fail; (try (fail; go_wp2_with fail)); refine settled_intro (S := fun w' => w' = (wr).drew) ?_; rfl)
                case h1 => (intro _; rintro w9 rfl; go_wp2_with fail; refine settled_intro (S := fun w' => w' = ((wr.setCell ⟨g, j * 6 + 5, none⟩ (.int .i64 v)).drew)) ?_; rfl)
                case hp => first | rfl | (simp only [*]; done) | (simp only [*]; rfl)
                apply chainS_mid (by rfl)
                case h => (rintro w9 rfl; go_wp2_with fail; (try (fail; go_wp2_with fail)); refine settled_intro (S := fun w' => w' = (wr).drew) ?_; rfl)
                case h1 => (intro hk; exact absurd hk (by decide))
                case hp => first | rfl | (simp only [*]; done) | (simp only [*]; rfl)
                apply chainS_store (by rfl)
                case h => (rintro w9 rfl; go_wp2_with fail; refine settled_intro (S := fun w' => w' = ((wr.setCell ⟨g, j * 6 + 5, none⟩ (.int .i64 v)).drew)) ?_; rfl)
                case hp => first | rfl | (simp only [*]; done) | (simp only [*]; rfl)
                refine chainS.nil ?_
                rintro _ rfl
                (try dsimp only)
                have z0 : ((wr.setCell ⟨g, j * 6 + 5, none⟩ (.int .i64 v)).drew).cell? ⟨g, j * 6, none⟩ = some (.int .i64 x.op) := (World.cell?_setCell_other wr ⟨g, j * 6 + 5, none⟩ ⟨g, j * 6, none⟩ _ (by intro e; injection e with _ e _; omega)).trans i0
                generalize ((wr.setCell ⟨g, j * 6 + 5, none⟩ (.int .i64 v)).drew) = wz at *
                go_wp2_with fail
                go_roundw
                case rel => exact ⟨j + 1, by omega, by go_num, HMZ, HFZ, HQZ⟩
                case measure => simp [intOf]; omega
              · have g1 : (x.op == 18) = false := beq_eq_false_iff_ne.2 (by omega)
                have g2 : (x.op == 19) = true := beq_iff_eq.2 h
                have g3 : decide (x.op ≤ 17) = false := decide_eq_false (by omega)
                have hopx : 17 < x.op := by omega
                clear h
                have HMZ : Hid (MkIn ((wr.setCell ⟨g, j * 6 + 5, none⟩ (.int .i64 v)).drew) c ⟨Ev.relTo at_ m.code (j + 1), m.secret⟩ (ints at_)) := Lib.hid (by
                  have h1 := (HGS.out v).1
                  have h2 : ({ (⟨Ev.relTo at_ m.code j, m.secret⟩ : Ev.Mk) with code := (Ev.relTo at_ m.code j).set j { x with imm := v } } : Ev.Mk) = ⟨Ev.relTo at_ m.code (j + 1), m.secret⟩ := by
                    rw [← Ev.relTo_set HXJ.out, HREL.out, HV.out]
                  exact ⟨_, _, _, h2 ▸ (h1.stays (Below.refl _ _).drew)⟩)
                have HFZ : Hid (MkFr c w2 ((wr.setCell ⟨g, j * 6 + 5, none⟩ (.int .i64 v)).drew)) := Lib.hid ((HF.out.trans (HGS.out v).2).drew)
                have HQZ : Hid (∀ (q : Nat) y, q < j + 1 → m.code[q]? = some y → y.op ≤ 17 → Ev.mkShows m t y = false) := Lib.hid (fun q y hq hy hop => by
                  rcases Nat.lt_succ_iff_lt_or_eq.1 hq with h | rfl
                  · exact HQ.out q y h hy hop
                  · have := HXJ.out.symm.trans hy
                    injection this with this
                    subst this
                    omega)
                have him0 := him.1
                have him1 := him.2
                go_upto_region 21 with fail
                refine wp_region_store (fun w' => w' = (wr).drew) (fun w' => w' = ((wr.setCell ⟨g, j * 6 + 5, none⟩ (.int .i64 v)).drew)) 13 [11] (by kernel_rfl) (by kernel_rfl) (by kernel_rfl) (by kernel_rfl) rfl ?_
                apply chainS_mid (by rfl)
                case h => (rintro w9 rfl; go_wp2_with fail; (try (fail; go_wp2_with fail)); refine settled_intro (S := fun w' => w' = (wr).drew) ?_; rfl)
                case h1 => (intro hk; exact absurd hk (by decide))
                case hp => first | rfl | (simp only [*]; done) | (simp only [*]; rfl)
                apply chainS_mid (by rfl)
                case h => (rintro w9 rfl; go_wp2_with fail; (try (fail; go_wp2_with fail)); refine settled_intro (S := fun w' => w' = (wr).drew) ?_; rfl)
                case h1 => (intro hk; exact absurd hk (by decide))
                case hp => first | rfl | (simp only [*]; done) | (simp only [*]; rfl)
                apply chainS_mid (by rfl)
                case h => (rintro w9 rfl; go_wp2_with fail; (try (fail; go_wp2_with fail)); refine settled_intro (S := fun w' => w' = (wr).drew) ?_; rfl)
                case h1 => (intro hk; exact absurd hk (by decide))
                case hp => first | rfl | (simp only [*]; done) | (simp only [*]; rfl)
                apply chainS_mid (by rfl)
                case h => (rintro w9 rfl; go_wp2_with fail; (try (fail; go_wp2_with fail)); refine settled_intro (S := fun w' => w' = (wr).drew) ?_; rfl)
                case h1 => (intro hk; exact absurd hk (by decide))
                case hp => first | rfl | (simp only [*]; done) | (simp only [*]; rfl)
                apply chainS_mid (by rfl)
                case h => (rintro w9 rfl; go_wp2_with fail; (try (fail; go_wp2_with fail)); refine settled_intro (S := fun w' => w' = (wr).drew) ?_; rfl)
                case h1 => (intro hk; exact absurd hk (by decide))
                case hp => first | rfl | (simp only [*]; done) | (simp only [*]; rfl)
                apply chainS_mid (by rfl)
                case h => (rintro w9 rfl; go_wp2_with fail; (try (fail; go_wp2_with fail)); refine settled_intro (S := fun w' => w' = (wr).drew) ?_; rfl)
                case h1 => (intro hk; exact absurd hk (by decide))
                case hp => first | rfl | (simp only [*]; done) | (simp only [*]; rfl)
                apply chainS_mid (by rfl)
                case h => (rintro w9 rfl; go_wp2_with fail; (try (fail; go_wp2_with fail)); refine settled_intro (S := fun w' => w' = (wr).drew) ?_; rfl)
                case h1 => (intro hk; exact absurd hk (by decide))
                case hp => first | rfl | (simp only [*]; done) | (simp only [*]; rfl)
                apply chainS_mid (by rfl)
                case h => (rintro w9 rfl; go_wp2_with fail; (try (fail; go_wp2_with fail)); refine settled_intro (S := fun w' => w' = (wr).drew) ?_; rfl)
                case h1 => (intro hk; exact absurd hk (by decide))
                case hp => first | rfl | (simp only [*]; done) | (simp only [*]; rfl)
                apply chainS_mid (by rfl)
                case h => (rintro w9 rfl; go_wp2_with fail; (try (fail; go_wp2_with fail)); refine settled_intro (S := fun w' => w' = (wr).drew) ?_; rfl)
                case h1 => (intro hk; exact absurd hk (by decide))
                case hp => first | rfl | (simp only [*]; done) | (simp only [*]; rfl)
                apply chainS_mid (by rfl)
                case h => (rintro w9 rfl; go_wp2_with fail; (try (fail; go_wp2_with fail)); refine settled_intro (S := fun w' => w' = (wr).drew) ?_; rfl)
                case h1 => (intro hk; exact absurd hk (by decide))
                case hp => first | rfl | (simp only [*]; done) | (simp only [*]; rfl)
                apply chainS_mid (by rfl)
                case h => (rintro w9 rfl; go_wp2_with fail; (try (fail; go_wp2_with fail)); refine settled_intro (S := fun w' => w' = (wr).drew) ?_; rfl)
                case h1 => (intro hk; exact absurd hk (by decide))
                case hp => first | rfl | (simp only [*]; done) | (simp only [*]; rfl)
                apply chainS_mid (by rfl)
                case h => (rintro w9 rfl; go_wp2_with fail; (try (fail; go_wp2_with fail)); refine settled_intro (S := fun w' => w' = (wr).drew) ?_; rfl)
                case h1 => (intro _; rintro w9 rfl; go_wp2_with fail; refine settled_intro (S := fun w' => w' = ((wr.setCell ⟨g, j * 6 + 5, none⟩ (.int .i64 v)).drew)) ?_; rfl)
                case hp => first | rfl | (simp only [*]; done) | (simp only [*]; rfl)
                apply chainS_mid (by rfl)
                case h => (rintro w9 rfl; go_wp2_with fail; (try (fail; go_wp2_with fail)); refine settled_intro (S := fun w' => w' = (wr).drew) ?_; rfl)
                case h1 => (intro hk; exact absurd hk (by decide))
                case hp => first | rfl | (simp only [*]; done) | (simp only [*]; rfl)
                apply chainS_store (by rfl)
                case h => (rintro w9 rfl; go_wp2_with fail; refine settled_intro (S := fun w' => w' = ((wr.setCell ⟨g, j * 6 + 5, none⟩ (.int .i64 v)).drew)) ?_; rfl)
                case hp => first | rfl | (simp only [*]; done) | (simp only [*]; rfl)
                refine chainS.nil ?_
                rintro _ rfl
                (try dsimp only)
                have z0 : ((wr.setCell ⟨g, j * 6 + 5, none⟩ (.int .i64 v)).drew).cell? ⟨g, j * 6, none⟩ = some (.int .i64 x.op) := (World.cell?_setCell_other wr ⟨g, j * 6 + 5, none⟩ ⟨g, j * 6, none⟩ _ (by intro e; injection e with _ e _; omega)).trans i0
                generalize ((wr.setCell ⟨g, j * 6 + 5, none⟩ (.int .i64 v)).drew) = wz at *
                go_wp2_with fail
                go_roundw
                case rel => exact ⟨j + 1, by omega, by go_num, HMZ, HFZ, HQZ⟩
                case measure => simp [intOf]; omega
            · have g1 : (x.op == 18) = false := beq_eq_false_iff_ne.2 (by omega)
              have g2 : (x.op == 19) = false := beq_eq_false_iff_ne.2 (by omega)
              have hrel : Ev.reloc at_ x = x := by unfold Ev.reloc; rw [if_neg hop]
              have HSAME : Hid (Ev.relTo at_ m.code (j + 1) = Ev.relTo at_ m.code j) := Lib.hid (Ev.relTo_same HXJ.out hrel)
              clear hrel hop
              by_cases h17 : x.op ≤ 17
              · have g3 : decide (x.op ≤ 17) = true := decide_eq_true h17
                have BTJ : Below wA.heap.size wA wr := HB2A.out.trans (HF.out.below.mono (by have := HCL.out; have := SA.out; omega))
                have HBTJ := Lib.hid BTJ
                have CSH := Lib.hid (mshows_any c ⟨Ev.relTo at_ m.code j, m.secret⟩ _ t x (w.heap.size + 1) wr HM.out HVT.out (fun q v hq => (BTJ.cell (p := ⟨w.heap.size + 1, q, none⟩) z1).trans (HB1.out q v (by rw [← HTA.out]; exact hq))) (by have := BTJ.size; omega) HL.out HT.out hop1.1 h17 HTH.out.2.1)
                have H17 := Lib.hid h17
                clear BTJ h17
                cases hsv : Ev.mkShows m t x with
                | false =>
                  rw [show Ev.mkShows ⟨Ev.relTo at_ m.code j, m.secret⟩ t x = false from hsv] at CSH
                  have HQZ : Hid (∀ (q : Nat) y, q < j + 1 → m.code[q]? = some y → y.op ≤ 17 → Ev.mkShows m t y = false) := Lib.hid (fun q y hq hy hop => by
                    rcases Nat.lt_succ_iff_lt_or_eq.1 hq with h | rfl
                    · exact HQ.out q y h hy hop
                    · have := HXJ.out.symm.trans hy
                      injection this with this
                      subst this
                      exact hsv)
                  clear hsv
                  go_wp2_with fail
                  go_at_call 53
                  refine CSH.out.mono ?_
                  rintro e w7 ⟨rfl, hb7⟩
                  have H7 : Hid (MkIn w7 c ⟨Ev.relTo at_ m.code (j + 1), m.secret⟩ (ints at_)) := Lib.hid (by rw [HSAME.out]; exact HM.out.stays hb7)
                  have F7 : Hid (MkFr c w2 w7) := Lib.hid (HF.out.trans (frOfBelow HM.out hb7))
                  clear hb7 i0 i1 i2 i3 i4 i5
                  go_wp2_with fail
                  go_roundw
                  case rel => exact ⟨j + 1, by omega, by go_num, H7, F7, HQZ⟩
                  case measure => simp [intOf]; omega
                | true =>
                  rw [show Ev.mkShows ⟨Ev.relTo at_ m.code j, m.secret⟩ t x = true from hsv] at CSH
                  have HRT := Lib.hid (Ev.legal_shown HX.out HSML.out HXJ.out H17.out hsv)
                  clear hsv
                  go_wp2_with fail
                  go_at_call 53
                  refine CSH.out.mono ?_
                  rintro e w7 ⟨rfl, hb7⟩
                  have F7 : Hid (MkFr c w2 w7) := Lib.hid (HF.out.trans (frOfBelow HM.out hb7))
                  have BT7 : Below wA.heap.size wA w7 := HB2A.out.trans (F7.out.below.mono (by have := HCL.out; have := SA.out; omega))
                  have HP7 : Hid (w7.heap[w.heap.size + 1 + 1]? = some (.cells #[.slice none 0 0, .slice none 0 0, .int .i64 0, .slice none 0 0] 26 (0, 0))) := Lib.hid ((BT7.block _ z2).trans HPA.out)
                  have z7 := BT7.size
                  clear hb7 i0 i1 i2 i3 i4 i5 BT7
                  have y0 := (cell_of_block HP7.out 0).trans (show (#[.slice none 0 0, .slice none 0 0, .int .i64 0, .slice none 0 0] : Array Value)[0]? = some (.slice none 0 0) from rfl)
                  have y1 := (cell_of_block HP7.out 1).trans (show (#[.slice none 0 0, .slice none 0 0, .int .i64 0, .slice none 0 0] : Array Value)[1]? = some (.slice none 0 0) from rfl)
                  have y2 := (cell_of_block HP7.out 2).trans (show (#[.slice none 0 0, .slice none 0 0, .int .i64 0, .slice none 0 0] : Array Value)[2]? = some (.int .i64 0) from rfl)
                  have y3 := (cell_of_block HP7.out 3).trans (show (#[.slice none 0 0, .slice none 0 0, .int .i64 0, .slice none 0 0] : Array Value)[3]? = some (.slice none 0 0) from rfl)
                  have yl := fun j => box_looseM HP7.out j
                  go_wp2_with fail
                  refine bodyPost_ret (v := .tuple #[.agg #[.slice none 0 0, .slice none 0 0, .int .i64 0, .slice none 0 0], .int .i64 11]) (by simp [results, Try.results19, go_sem, y0, y1, y2, y3]) rfl ?_
                  refine ⟨_, by rw [HRT.out], ?_, FromFlat.no _ _, ?_⟩
                  · rw [HRT.out]; exact ⟨_, _, _, rfl, SL.nil_ _ _ _, SL.nil_ _ _ _, SL.nil_ _ _ _⟩
                  · have e0 := HBW.out.trans (F7.out.below.mono (by have := HCL.out; omega))
                    have e1 := e0.size
                    (repeat' first | with_reducible (first | exact Below.refl _ _ | assumption | refine Below.alloc ?_ ?_ _ | refine below_drewN ?_ _ | refine Below.drew ?_ | refine Below.setCell ?_ ?_ _ | refine Below.trans ?_ (Below.mono (by with_reducible assumption) ?_)) | go_size)
              · have g3 : decide (x.op ≤ 17) = false := decide_eq_false h17
                have HQZ : Hid (∀ (q : Nat) y, q < j + 1 → m.code[q]? = some y → y.op ≤ 17 → Ev.mkShows m t y = false) := Lib.hid (fun q y hq hy hop => by
                  rcases Nat.lt_succ_iff_lt_or_eq.1 hq with h | rfl
                  · exact HQ.out q y h hy hop
                  · have := HXJ.out.symm.trans hy
                    injection this with this
                    subst this
                    omega)
                have HM7 : Hid (MkIn wr c ⟨Ev.relTo at_ m.code (j + 1), m.secret⟩ (ints at_)) := Lib.hid (by rw [HSAME.out]; exact HM.out)
                go_wp2_with fail
                go_roundw
                case rel => exact ⟨j + 1, by omega, by go_num, HM7, HF, HQZ⟩
                case measure => simp [intOf]; omega
          · obtain rfl : j = m.code.length := by omega
            have HDN : Hid (Ev.legal f t = (0, Ev.made f at_ m)) := Lib.hid (Ev.legal_done HX.out HSML.out (fun q x hx h17 => HQ.out q x (List.getElem?_eq_some_iff.1 hx).1 hx h17))
            obtain ⟨vcf, vsf, vxf, hmf⟩ := HM.out
            have hcp : c.p = f.params := by rw [HCD.out]
            have hcva : c.va = .slice A3 f.arrays.length c3 := by rw [HCD.out]
            have hcK : ∀ b, mid ≤ b → b < c.mb → c.K b := fun b h1 h2 => by
              have h3 := HMB.out
              rw [HCD.out]
              exact ⟨h1, by rw [h3]; exact h2⟩
            obtain ⟨Af, cf, rfl, _, _⟩ := SL.form (SL.of_own hmf.code)
            obtain ⟨Bf, df, rfl, _, _⟩ := SL.form (SL.of_own hmf.sec)
            have kf0 : wr.cell? ⟨c.mb, 0, none⟩ = some (.slice Af (Ev.relTo at_ m.code m.code.length).length cf) := (hmf.at_ 0).trans rfl
            have kf1 : wr.cell? ⟨c.mb, 1, none⟩ = some (.slice Bf m.secret.length df) := (hmf.at_ 1).trans rfl
            have kf2 : wr.cell? ⟨c.mb, 2, none⟩ = some (.int .i64 f.params) := (hmf.at_ 2).trans (by show some (Value.int .i64 c.p) = _; rw [hcp])
            have kf3 : wr.cell? ⟨c.mb, 3, none⟩ = some (.slice A3 f.arrays.length c3) := (hmf.at_ 3).trans (by show some c.va = _; rw [hcva])
            have BTF : Below wA.heap.size wA wr := HB2A.out.trans (HF.out.below.mono (by have := HCL.out; have := SA.out; omega))
            have HPF : Hid (wr.heap[w.heap.size + 1 + 1]? = some (.cells #[.slice none 0 0, .slice none 0 0, .int .i64 0, .slice none 0 0] 26 (0, 0))) := Lib.hid ((BTF.block _ z2).trans HPA.out)
            have HMF := Lib.hid hmf
            have HCK := Lib.hid hcK
            clear hmf hcp hcva hcK BTF
            have y0 := (cell_of_block HPF.out 0).trans (show (#[.slice none 0 0, .slice none 0 0, .int .i64 0, .slice none 0 0] : Array Value)[0]? = some (.slice none 0 0) from rfl)
            have y1 := (cell_of_block HPF.out 1).trans (show (#[.slice none 0 0, .slice none 0 0, .int .i64 0, .slice none 0 0] : Array Value)[1]? = some (.slice none 0 0) from rfl)
            have y2 := (cell_of_block HPF.out 2).trans (show (#[.slice none 0 0, .slice none 0 0, .int .i64 0, .slice none 0 0] : Array Value)[2]? = some (.int .i64 0) from rfl)
            have y3 := (cell_of_block HPF.out 3).trans (show (#[.slice none 0 0, .slice none 0 0, .int .i64 0, .slice none 0 0] : Array Value)[3]? = some (.slice none 0 0) from rfl)
            
            have yl := fun j => box_looseM HPF.out j
            go_wp2_with fail
            refine bodyPost_ret (v := .tuple #[.agg #[.slice Af (Ev.relTo at_ m.code m.code.length).length cf, .slice Bf m.secret.length df, .int .i64 f.params, .slice A3 f.arrays.length c3], .int .i64 0]) (by simp [results, Try.results19, go_sem, y0, y1, y2, y3]) rfl ?_
            have hgB : w.heap.size + 1 + 1 < c.lo := by have := HCL.out; omega
            have hn1 : (.slice Af (Ev.relTo at_ m.code m.code.length).length cf : Value).ownBlock ≠ some (w.heap.size + 1 + 1) := fun e => by have := own_ge HMF.out.code e; omega
            have hn2 : (.slice Bf m.secret.length df : Value).ownBlock ≠ some (w.heap.size + 1 + 1) := fun e => by have := own_ge HMF.out.sec e; omega
            have hgm : w.heap.size + 1 + 1 < mid := by have := SA.out; omega
            have AR : Dep mid c.mb wr (fun u => RVars u u.heap.size (.slice A3 f.arrays.length c3) f.arrays) := ⟨by have := HMF.out.lt; omega, fun u h1 h2 => ARR2.out.2 u h1 (fun b h3 h4 => (h2 b h3 h4).trans (HF.out.keep b (HCK.out b h3 h4)))⟩
            have e0 := HBW.out.trans (HF.out.below.mono (by have := HCL.out; omega))
            have e1 := e0.size
            refine ⟨_, by rw [HDN.out], ?_, ⟨_, _, _, _, rfl, (from_own_D HMF.out.code).less (by have := HCL.out; omega), (from_own_D HMF.out.sec).less (by have := HCL.out; omega), HF3.out.less (by have := SA.out; omega)⟩, ?_⟩
            · rw [HDN.out]
              refine ⟨_, _, _, rfl, ?_, ?_, ?_⟩
              · rw [show (Ev.made f at_ m).code = Ev.relTo at_ m.code m.code.length from (Ev.relTo_end _ _).symm]
                exact SL.of_own (ownsRow_setCell_other (ownsRow_setCell_other (ownsRow_setCell_other (ownsRow_setCell_other HMF.out.code hn1 _) hn1 _) hn1 _) hn1 _)
              · exact SL.of_own (ownsRow_setCell_other (ownsRow_setCell_other (ownsRow_setCell_other (ownsRow_setCell_other HMF.out.sec hn2 _) hn2 _) hn2 _) hn2 _)
              · exact ((((AR.aside _ _ _ (.inl hgm)).aside _ _ _ (.inl hgm)).aside _ _ _ (.inl hgm)).aside _ _ _ (.inl hgm)).here
            · (repeat' first | with_reducible (first | exact Below.refl _ _ | assumption | refine Below.alloc ?_ ?_ _ | refine below_drewN ?_ _ | refine Below.drew ?_ | refine Below.setCell ?_ ?_ _ | refine Below.trans ?_ (Below.mono (by with_reducible assumption) ?_)) | go_size)
end Go.Proofs.Ytljcgcllhcdleaa
