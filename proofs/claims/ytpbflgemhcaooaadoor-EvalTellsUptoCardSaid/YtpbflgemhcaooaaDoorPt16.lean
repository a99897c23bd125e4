import Derived.Test.YtpbflgemhcaooaaDoorPt15
import Derived.Test.YtpbflgemhcaooaaDoorPt13
import Derived.Test.YtpbflgemhcaooaaDoorPt14
import Derived.Test.YtpbflgemhcaooaaDoorPt9
/- The document's reader: parameters, arrays, up to a bracket. -/
namespace Go.Proofs.YtpbflgemhcaooaaDoor
open Go.RowKit
set_option linter.unusedSimpArgs false
set_option linter.unusedVariables false
theorem FI.vars {B : FB} {u : World} {v1 v2 : Value} {l1 l2 : List Ev.Par} (h : FI B u v1 v2 l1 l2) (hv : Vars B.w0) : VarsP B.b u := fun w hF => hv.stays (h.fr.trans (hF.below (Nat.le_of_lt B.h1) h.fr.size))
set_option maxRecDepth 4000 in
set_option maxHeartbeats 3200000 in
theorem all_params (B : FB) (u0 : World) (p0 : Ev.PS) (v2 : Value) (l2 : List Ev.Par) (hS0 : FI B u0 (.slice none 0 0) v2 [] l2) (hA0 : PAt u0 B.b p0) (hl : p0.s.length ≤ 1200) (hv0 : Vars B.w0) :
    Calls Tryd.prog 47 #[.pointer (some ⟨B.b, 0, none⟩), .func (.func 48) #[] #[.pointer (some ⟨B.pb, 0, none⟩), .pointer (some ⟨B.fb, 0, none⟩)]] u0 fun e u' => e = .returned (.tuple #[]) ∧ (∃ va, FI B u' va v2 (Ev.allW Ev.parW (p0.s.length + 1) p0).1 l2) ∧ PAt u' B.b (Ev.allW Ev.parW (p0.s.length + 1) p0).2 := by
  have HS0 := Lib.hid hS0
  have HA0 := Lib.hid hA0
  have HV0 := Lib.hid hv0
  obtain ⟨R, hR⟩ : ∃ R, Ev.allW Ev.parW (p0.s.length + 1) p0 = R := ⟨_, rfl⟩
  have HR : Hid (R = Ev.allW Ev.parW (p0.s.length + 1) p0) := Lib.hid hR.symm
  rw [hR]
  have CS := Lib.hid (fun u va l q h1 h2 h3 (h4 : VarsP B.b u) h5 => par_any B u va v2 l l2 q h1 h2 h3 h5)
  have HST := Lib.hid Ev.par_steps
  generalize Ev.parW = f at *
  clear hS0 hA0 hv0 hR
  go_enter Tryd.func47, Tryd.ntmps47
  go_upto_region 0 with fail
  go_loopw [13] (fun _ wr => ∃ (q : Ev.PS) (acc : List Ev.Par) (va : Value), Hid (PAt wr B.b q) ∧ Hid (FI B wr va v2 acc l2) ∧ q.s.length ≤ 1200 ∧ acc.length + q.s.length ≤ p0.s.length + (if q.err = 0 then 0 else 1) ∧ Hid (R = (acc ++ (Ev.allW f (q.s.length + 1) q).1, (Ev.allW f (q.s.length + 1) q).2))) (fun _ wr => psM wr B.b)
  case atStart => exact ⟨p0, [], _, HA0, HS0, hl, by simp, Lib.hid (by rw [HR.out]; rfl)⟩
  case round =>
  obtain ⟨q, acc, va, HA, HS, hq, hacc, HT⟩ := hrel
  have HVr := Lib.hid (HS.out.vars HV0.out)
  have c1 : wr.cell? ⟨B.b, 1, none⟩ = some (.int .i64 q.err) := HA.out.c1
  have hbl := HA.out.lt
  by_cases h0 : q.err = 0
  case neg => as_aux_lemma =>
    have g0 : (q.err == 0) = false := beq_eq_false_iff_ne.2 h0
    have HZ := Lib.hid (Ev.all_stop (f := f) (k := q.s.length + 1) (p := q) (fun h => h0 h.1))
    clear h0
    go_wp2_with (go_at_call 46; refine (is_any q [41] B.b _ HA.out hq).mono ?_; rintro e w5 ⟨rfl, h5, hF5⟩)
    go_end0
    have e : R = (acc, Ev.isW [41] q) := by rw [HT.out, HZ.out]; simp
    exact ⟨rfl, ⟨va, by rw [e]; exact HS.out.move hF5⟩, by rw [e]; exact h5⟩
  case pos =>
  have g0 : (q.err == 0) = true := beq_iff_eq.2 h0
  rw [if_pos h0] at hacc
  have CP := Lib.hid (peek_any q B.b wr HA.out hq)
  have hsk := Ev.skip_le q.s
  by_cases hp : Ev.peekW q.s = [41]
  case pos => as_aux_lemma =>
    have HZ := Lib.hid (Ev.all_stop (f := f) (k := q.s.length + 1) (p := q) (fun h => h.2 hp))
    rw [hp] at CP
    clear h0 hp
    go_wp2_with (first | (go_at_call 54; refine CP.out.mono ?_; rintro e w4 ⟨rfl, h4, hF4⟩; have H4 := Lib.hid h4; have HF4 := Lib.hid hF4; clear h4 hF4) | (go_at_call 46; refine (is_any q.skip [41] B.b _ H4.out (by show (Ev.skipB q.s).length ≤ 1200; omega)).mono ?_; rintro e w5 ⟨rfl, h5, hF5⟩))
    go_end0
    have e : R = (acc, Ev.isW [41] q) := by rw [HT.out, HZ.out]; simp
    exact ⟨rfl, ⟨va, by rw [e]; exact (HS.out.move HF4.out).move hF5⟩, by rw [e, ← Ev.is_skip]; exact h5⟩
  case neg => as_aux_lemma =>
    have HRD := Lib.hid (Ev.all_round HST.out h0 hp)
    have HSQ := Lib.hid (HST.out q.skip)
    have H0 := Lib.hid h0
    obtain ⟨v, hv⟩ : ∃ v, Ev.peekW q.s = v := ⟨_, rfl⟩
    rw [hv] at CP hp
    have gp : (v != [41]) = true := bne_iff_ne.2 hp
    have gp2 : (v == [41]) = false := beq_eq_false_iff_ne.2 hp
    have HQS := Lib.hid (show q.skip.s.length ≤ q.s.length from hsk)
    clear h0 hp hv hsk
    go_wp2_with (first | (go_at_call 54; refine CP.out.mono ?_; rintro e w4 ⟨rfl, h4, hF4⟩; have H4 := Lib.hid h4; have M4 := Lib.hid (HS.out.move hF4); have V4 := Lib.hid (HVr.out.to hF4); clear h4 hF4) | (go_at_call 48; refine (CS.out w4 va acc q.skip M4.out H4.out (by have := HQS.out; omega) V4.out (by omega)).mono ?_; rintro e w5 ⟨rfl, ⟨va5, M5⟩, h5⟩; have M5 := Lib.hid M5; have H5 := Lib.hid h5; clear h5))
    go_roundw
    case rel =>
      refine ⟨(f q.skip).2, acc ++ [(f q.skip).1], va5, H5, M5, ?_, ?_, Lib.hid ?_⟩
      · have := HSQ.out.1.len; have := HQS.out; omega
      · have h1 := HSQ.out.1.len
        have h2 := HQS.out
        have h3 := HSQ.out.2 H0.out
        rw [List.length_append]
        show acc.length + 1 + _ ≤ _
        split
        · rename_i h4
          rcases h3 with h3 | h3
          · exact absurd h4 h3
          · omega
        · omega
      · rw [HT.out, HRD.out]
        simp
    case measure =>
      refine psM_less HA.out H5.out H0.out ?_
      rcases HSQ.out.2 H0.out with h | h
      · exact .inl h
      · have := HQS.out
        exact .inr (by omega)
set_option maxRecDepth 4000 in
set_option maxHeartbeats 3200000 in
theorem all_arrs (B : FB) (u0 : World) (p0 : Ev.PS) (v1 : Value) (l1 : List Ev.Par) (hS0 : FI B u0 v1 (.slice none 0 0) l1 []) (hA0 : PAt u0 B.b p0) (hl : p0.s.length ≤ 1200) (hv0 : Vars B.w0) :
    Calls Tryd.prog 47 #[.pointer (some ⟨B.b, 0, none⟩), .func (.func 51) #[] #[.pointer (some ⟨B.pb, 0, none⟩), .pointer (some ⟨B.fb, 0, none⟩)]] u0 fun e u' => e = .returned (.tuple #[]) ∧ (∃ va, FI B u' v1 va l1 (Ev.allW Ev.arrW (p0.s.length + 1) p0).1) ∧ PAt u' B.b (Ev.allW Ev.arrW (p0.s.length + 1) p0).2 := by
  have HS0 := Lib.hid hS0
  have HA0 := Lib.hid hA0
  have HV0 := Lib.hid hv0
  obtain ⟨R, hR⟩ : ∃ R, Ev.allW Ev.arrW (p0.s.length + 1) p0 = R := ⟨_, rfl⟩
  have HR : Hid (R = Ev.allW Ev.arrW (p0.s.length + 1) p0) := Lib.hid hR.symm
  rw [hR]
  have CS := Lib.hid (fun u va l q h1 h2 h3 h4 h5 => arr_any B u v1 va l1 l q h1 h2 h3 h4 h5)
  have HST := Lib.hid Ev.arr_steps
  generalize Ev.arrW = f at *
  clear hS0 hA0 hv0 hR
  go_enter Tryd.func47, Tryd.ntmps47
  go_upto_region 0 with fail
  go_loopw [13] (fun _ wr => ∃ (q : Ev.PS) (acc : List Ev.Par) (va : Value), Hid (PAt wr B.b q) ∧ Hid (FI B wr v1 va l1 acc) ∧ q.s.length ≤ 1200 ∧ acc.length + q.s.length ≤ p0.s.length + (if q.err = 0 then 0 else 1) ∧ Hid (R = (acc ++ (Ev.allW f (q.s.length + 1) q).1, (Ev.allW f (q.s.length + 1) q).2))) (fun _ wr => psM wr B.b)
  case atStart => exact ⟨p0, [], _, HA0, HS0, hl, by simp, Lib.hid (by rw [HR.out]; rfl)⟩
  case round =>
  obtain ⟨q, acc, va, HA, HS, hq, hacc, HT⟩ := hrel
  have HVr := Lib.hid (HS.out.vars HV0.out)
  have c1 : wr.cell? ⟨B.b, 1, none⟩ = some (.int .i64 q.err) := HA.out.c1
  have hbl := HA.out.lt
  by_cases h0 : q.err = 0
  case neg => as_aux_lemma =>
    have g0 : (q.err == 0) = false := beq_eq_false_iff_ne.2 h0
    have HZ := Lib.hid (Ev.all_stop (f := f) (k := q.s.length + 1) (p := q) (fun h => h0 h.1))
    clear h0
    go_wp2_with (go_at_call 46; refine (is_any q [41] B.b _ HA.out hq).mono ?_; rintro e w5 ⟨rfl, h5, hF5⟩)
    go_end0
    have e : R = (acc, Ev.isW [41] q) := by rw [HT.out, HZ.out]; simp
    exact ⟨rfl, ⟨va, by rw [e]; exact HS.out.move hF5⟩, by rw [e]; exact h5⟩
  case pos =>
  have g0 : (q.err == 0) = true := beq_iff_eq.2 h0
  rw [if_pos h0] at hacc
  have CP := Lib.hid (peek_any q B.b wr HA.out hq)
  have hsk := Ev.skip_le q.s
  by_cases hp : Ev.peekW q.s = [41]
  case pos => as_aux_lemma =>
    have HZ := Lib.hid (Ev.all_stop (f := f) (k := q.s.length + 1) (p := q) (fun h => h.2 hp))
    rw [hp] at CP
    clear h0 hp
    go_wp2_with (first | (go_at_call 54; refine CP.out.mono ?_; rintro e w4 ⟨rfl, h4, hF4⟩; have H4 := Lib.hid h4; have HF4 := Lib.hid hF4; clear h4 hF4) | (go_at_call 46; refine (is_any q.skip [41] B.b _ H4.out (by show (Ev.skipB q.s).length ≤ 1200; omega)).mono ?_; rintro e w5 ⟨rfl, h5, hF5⟩))
    go_end0
    have e : R = (acc, Ev.isW [41] q) := by rw [HT.out, HZ.out]; simp
    exact ⟨rfl, ⟨va, by rw [e]; exact (HS.out.move HF4.out).move hF5⟩, by rw [e, ← Ev.is_skip]; exact h5⟩
  case neg => as_aux_lemma =>
    have HRD := Lib.hid (Ev.all_round HST.out h0 hp)
    have HSQ := Lib.hid (HST.out q.skip)
    have H0 := Lib.hid h0
    obtain ⟨v, hv⟩ : ∃ v, Ev.peekW q.s = v := ⟨_, rfl⟩
    rw [hv] at CP hp
    have gp : (v != [41]) = true := bne_iff_ne.2 hp
    have gp2 : (v == [41]) = false := beq_eq_false_iff_ne.2 hp
    have HQS := Lib.hid (show q.skip.s.length ≤ q.s.length from hsk)
    clear h0 hp hv hsk
    go_wp2_with (first | (go_at_call 54; refine CP.out.mono ?_; rintro e w4 ⟨rfl, h4, hF4⟩; have H4 := Lib.hid h4; have M4 := Lib.hid (HS.out.move hF4); have V4 := Lib.hid (HVr.out.to hF4); clear h4 hF4) | (go_at_call 51; refine (CS.out w4 va acc q.skip M4.out H4.out (by have := HQS.out; omega) V4.out (by omega)).mono ?_; rintro e w5 ⟨rfl, ⟨va5, M5⟩, h5⟩; have M5 := Lib.hid M5; have H5 := Lib.hid h5; clear h5))
    go_roundw
    case rel =>
      refine ⟨(f q.skip).2, acc ++ [(f q.skip).1], va5, H5, M5, ?_, ?_, Lib.hid ?_⟩
      · have := HSQ.out.1.len; have := HQS.out; omega
      · have h1 := HSQ.out.1.len
        have h2 := HQS.out
        have h3 := HSQ.out.2 H0.out
        rw [List.length_append]
        show acc.length + 1 + _ ≤ _
        split
        · rename_i h4
          rcases h3 with h3 | h3
          · exact absurd h4 h3
          · omega
        · omega
      · rw [HT.out, HRD.out]
        simp
    case measure =>
      refine psM_less HA.out H5.out H0.out ?_
      rcases HSQ.out.2 H0.out with h | h
      · exact .inl h
      · have := HQS.out
        exact .inr (by omega)
end Go.Proofs.YtpbflgemhcaooaaDoor
/- Statements in memory: trees of slices, no deeper than so much; a list that grows. -/
namespace Go.Proofs.YtpbflgemhcaooaaDoor
open Go.RowKit
set_option linter.unusedSimpArgs false
set_option linter.unusedVariables false
theorem RExL.deeper {w : World} {K : Nat → Prop} : ∀ (d : Nat) (v : Value) (l : List Ev.Ex), RExL d w K v l → RExL (d + 1) w K v l
  | 0, v, l, h => by obtain ⟨rfl, rfl⟩ := h; exact RExL.nil_ _ _ _
  | d + 1, v, l, ⟨vs, h1, h2, h3, h4⟩ => ⟨vs, h1, h2, h3, fun j e va he hva => RExL.deeper d va e.args (h4 j e va he hva)⟩
theorem RExL.to9 {w : World} {K : Nat → Prop} {v : Value} {l : List Ev.Ex} : ∀ {d : Nat}, d ≤ 9 → RExL d w K v l → RExL 9 w K v l := by
  intro d hd h
  induction hk : 9 - d generalizing d with
  | zero => obtain rfl : d = 9 := by omega
            exact h
  | succ k ih => exact ih (d := d + 1) (by omega) (RExL.deeper d v l h) (by omega)
abbrev V3 := Value × Value × Value
def st7 (t : Ev.St1) (x : V3) : List Value := [.int .i64 t.kind, .int .i64 t.n, .string ⟨t.name.toArray⟩, .bool t.secret, x.1, x.2.1, x.2.2]
def stCells : List Ev.St1 → List V3 → List Value
  | t :: l, x :: vs => st7 t x ++ stCells l vs
  | _, _ => []
def stV (t : Ev.St1) (x : V3) : Value := .agg #[.int .i64 t.kind, .int .i64 t.n, .string ⟨t.name.toArray⟩, .bool t.secret, x.1, x.2.1, x.2.2]
/-- statements in memory, no deeper than d, all in blocks of K -/
def RStL : Nat → World → (Nat → Prop) → Value → List Ev.St1 → Prop
  | 0, _, _, v, l => l = [] ∧ v = .slice none 0 0
  | d + 1, w, K, v, l => ∃ vs : List V3, vs.length = l.length ∧ SL w w.heap.size 7 v l.length (stCells l vs) ∧ inK K v ∧ ∀ (j : Nat) t x, l[j]? = some t → vs[j]? = some x → RExL 9 w K x.1 t.args ∧ RStL d w K x.2.1 t.thn ∧ RStL d w K x.2.2 t.els
/-- what a statement leads to -/
def RParts (d : Nat) (w : World) (K : Nat → Prop) (t : Ev.St1) (x : V3) : Prop := RExL 9 w K x.1 t.args ∧ RStL d w K x.2.1 t.thn ∧ RStL d w K x.2.2 t.els
theorem stCells_snoc : ∀ (l : List Ev.St1) (vs : List V3) (t : Ev.St1) (x : V3), vs.length = l.length → stCells (l ++ [t]) (vs ++ [x]) = stCells l vs ++ st7 t x
  | [], [], t, x, _ => by simp [stCells]
  | [], _ :: _, t, x, h => by simp at h
  | _ :: _, [], t, x, h => by simp at h
  | y :: l, z :: vs, t, x, h => by
    have := stCells_snoc l vs t x (by simpa using h)
    simp only [List.cons_append, stCells, this, List.append_assoc]
theorem RStL.keep {w w' : World} {K : Nat → Prop} (hs : w.heap.size ≤ w'.heap.size) (hk : ∀ k, K k → k < w.heap.size → w'.heap[k]? = w.heap[k]?) : ∀ (d : Nat) (v : Value) (l : List Ev.St1), RStL d w K v l → RStL d w' K v l
  | 0, v, l, h => h
  | d + 1, v, l, ⟨vs, h1, h2, h3, h4⟩ => ⟨vs, h1, h2.keep h3 hs hk, h3, fun j t x ht hx => ⟨RExL.keep hs hk 9 _ _ (h4 j t x ht hx).1, RStL.keep hs hk d _ _ (h4 j t x ht hx).2.1, RStL.keep hs hk d _ _ (h4 j t x ht hx).2.2⟩⟩
theorem RStL.wide {w : World} {K K' : Nat → Prop} (hk : ∀ k, K k → K' k) : ∀ (d : Nat) (v : Value) (l : List Ev.St1), RStL d w K v l → RStL d w K' v l
  | 0, v, l, h => h
  | d + 1, v, l, ⟨vs, h1, h2, h3, h4⟩ => ⟨vs, h1, h2, fun a n c e => hk _ (h3 a n c e), fun j t x ht hx => ⟨RExL.wide hk 9 _ _ (h4 j t x ht hx).1, RStL.wide hk d _ _ (h4 j t x ht hx).2.1, RStL.wide hk d _ _ (h4 j t x ht hx).2.2⟩⟩
theorem RStL.nil_ (d : Nat) (w : World) (K : Nat → Prop) : RStL d w K (.slice none 0 0) [] := by
  cases d with
  | zero => exact ⟨rfl, rfl⟩
  | succ d => exact ⟨[], rfl, SL.nil_ _ _ _, fun a n c e => (by cases e), fun j t x ht => (by simp at ht)⟩
theorem RStL.slice {d : Nat} {w : World} {K : Nat → Prop} {v : Value} {l : List Ev.St1} (h : RStL d w K v l) : ∃ A c, v = .slice A l.length c := by
  cases d with
  | zero => obtain ⟨rfl, rfl⟩ := h; exact ⟨_, _, rfl⟩
  | succ d => obtain ⟨_, _, h2, _⟩ := h; obtain ⟨A, c, e, _⟩ := SL.form h2; exact ⟨A, c, e⟩
theorem RParts.keep {d : Nat} {w w' : World} {K : Nat → Prop} {t : Ev.St1} {x : V3} (h : RParts d w K t x) (hs : w.heap.size ≤ w'.heap.size) (hk : ∀ k, K k → k < w.heap.size → w'.heap[k]? = w.heap[k]?) : RParts d w' K t x :=
  ⟨RExL.keep hs hk 9 _ _ h.1, RStL.keep hs hk d _ _ h.2.1, RStL.keep hs hk d _ _ h.2.2⟩
theorem RParts.wide {d : Nat} {w : World} {K K' : Nat → Prop} {t : Ev.St1} {x : V3} (h : RParts d w K t x) (hk : ∀ k, K k → K' k) : RParts d w K' t x :=
  ⟨RExL.wide hk 9 _ _ h.1, RStL.wide hk d _ _ h.2.1, RStL.wide hk d _ _ h.2.2⟩
theorem RParts.none_ (d : Nat) (w : World) (K : Nat → Prop) : RParts d w K Ev.St1.none (.slice none 0 0, .slice none 0 0, .slice none 0 0) := ⟨RExL.nil_ _ _ _, RStL.nil_ _ _ _, RStL.nil_ _ _ _⟩
theorem one_seven {d : Nat} {w : World} {K : Nat → Prop} {t : Ev.St1} {x : V3} (h : RParts d w K t x) : (st7 t x).toArray.all (·.oneCell') = true := by
  obtain ⟨A, c, e1⟩ := h.1.slice
  obtain ⟨B, c', e2⟩ := h.2.1.slice
  obtain ⟨C, c'', e3⟩ := h.2.2.slice
  simp [st7, e1, e2, e3, Value.oneCell']
/-- a row of one's own with statements -/
def StRow (w : World) (lo : Nat) (K : Nat → Prop) (d : Nat) (v : Value) (l : List Ev.St1) : Prop :=
  ∃ vs : List V3, vs.length = l.length ∧ w.ownsRow lo 109 7 v l.length (stCells l vs) ∧ ∀ (j : Nat) t x, l[j]? = some t → vs[j]? = some x → RParts d w (fun k => K k ∧ k < w.heap.size ∧ v.ownBlock ≠ some k) t x
theorem StRow.nil_ (w : World) (lo : Nat) (K : Nat → Prop) (d : Nat) : StRow w lo K d (.slice none 0 0) [] := ⟨[], rfl, ⟨rfl, .inl ⟨rfl, rfl⟩⟩, fun j t x ht => (by simp at ht)⟩
theorem StRow.whole {w : World} {lo : Nat} {K K' : Nat → Prop} {d : Nat} {v : Value} {l : List Ev.St1} (h : StRow w lo K d v l) (hk : ∀ k, K k → k < w.heap.size → K' k) (hl : ∀ k, lo ≤ k → k < w.heap.size → v.ownBlock = some k → K' k) : RStL (d + 1) w K' v l := by
  obtain ⟨vs, h1, h2, h3⟩ := h
  refine ⟨vs, h1, SL.of_own h2, fun a n c e => ?_, fun j t x ht hx => (h3 j t x ht hx).wide (fun k hk' => hk k hk'.1 hk'.2.1)⟩
  subst e
  have := h2.lt a.block rfl
  exact hl a.block this.1 this.2 rfl
/-- it stays, where others change -/
theorem StRow.keep {w w' : World} {lo : Nat} {K : Nat → Prop} {d : Nat} {v : Value} {l : List Ev.St1} (h : StRow w lo K d v l) (ho : w.os = w'.os ∧ w.tape = w'.tape ∧ w.output = w'.output) (hs : w.heap.size ≤ w'.heap.size) (hk : ∀ k, (K k ∨ v.ownBlock = some k) → k < w.heap.size → w'.heap[k]? = w.heap[k]?) : StRow w' lo K d v l := by
  obtain ⟨vs, h1, h2, h3⟩ := h
  refine ⟨vs, h1, ?_, fun j t x ht hx => ((h3 j t x ht hx).keep hs (fun k hk' hkl => hk k (.inl hk'.1) hkl)).wide (fun k hk' => ⟨hk'.1, by omega, hk'.2.2⟩)⟩
  refine ⟨h2.1, ?_⟩
  rcases h2.2 with hn | ⟨g, cap, cur, rfl, hb, hg, rest⟩
  · exact .inl hn
  · exact .inr ⟨g, cap, cur, rfl, hb, (hk g (.inr rfl) (Array.getElem?_eq_some_iff.1 hg).1).trans hg, rest⟩
theorem Tryd.stmtInfo : (Tryd.prog.info? 109).map (fun i => (i.zero, i.size, i.bytes)) = some (some (.agg #[.int .i64 0, .int .i64 0, .string ⟨#[]⟩, .bool false, .slice none 0 0, .slice none 0 0, .slice none 0 0]), 7, 112) := by kernel_rfl
/-- a whole element of a row of one's own is set: the last one -/
theorem row_put {w : World} {lo s n cap g : Nat} {T : TypeId} {xs zs : List Value} {cells : Array Value} (h : w.ownsRow lo T s (.slice (some ⟨g, 0, none⟩) (n + 1) cap) (n + 1) (xs ++ zs)) (hz : zs.length = s) (hc : cells.size = s) :
    w.there g (n * s) cells.size ∧ (w.setCells g (n * s) cells.toList).ownsRow lo T s (.slice (some ⟨g, 0, none⟩) (n + 1) cap) (n + 1) (xs ++ cells.toList) := by
  have hxl : xs.length = n * s := by
    have := h.1
    rw [List.length_append, hz, Nat.succ_mul] at this
    omega
  rcases h.2 with ⟨e, _⟩ | ⟨g', cap', cur, e, hb, hg, h1, h2, h3, h4⟩
  · cases e
  · injection e with e1 e2 e3
    injection e1 with e1
    injection e1 with e1 _ _
    subst e1 e3
    have hcl : cur.toList.length = cap * s := by rw [Array.length_toList]; exact h3
    have hns : (n + 1) * s ≤ cap * s := Nat.mul_le_mul_right s h1
    have hsp : cur.toList = xs ++ zs ++ cur.toList.drop ((n + 1) * s) := by
      rw [← h4, List.take_append_drop]
    have hg' : w.heap[g]? = some (.cells (xs ++ zs ++ cur.toList.drop ((n + 1) * s)).toArray T (0, 0)) := by
      rw [← hsp]; simpa using hg
    constructor
    · intro j hj
      have hlt : n * s + j < cur.size := by rw [h3]; rw [Nat.succ_mul] at hns; omega
      refine ⟨?_, ?_⟩
      · unfold World.cell?
        rw [hg]
        simp [hlt]
      · unfold World.frozen?
        rw [hg]
        simp
    · have h5 := setCells_same (T := T) cells.toList xs zs (cur.toList.drop ((n + 1) * s)) w hg' (by simpa using hz.trans hc.symm)
      rw [hxl] at h5
      have hcc : cells.toList.length = s := by simp [hc]
      have hxc : (xs ++ cells.toList).length = (n + 1) * s := by rw [List.length_append, hxl, hcc, Nat.succ_mul]
      refine ⟨hxc, .inr ⟨g, cap, _, rfl, hb, h5, h1, h2, ?_, ?_⟩⟩
      · show (xs ++ cells.toList ++ cur.toList.drop ((n + 1) * s)).toArray.size = cap * s
        rw [List.size_toArray, List.length_append, hxc, List.length_drop, hcl]
        omega
      · show (xs ++ cells.toList ++ cur.toList.drop ((n + 1) * s)).toArray.toList.take ((n + 1) * s) = _
        rw [List.toList_toArray, List.take_append_of_le_length (by rw [hxc]; exact Nat.le_refl _), List.take_of_length_le (by rw [hxc]; exact Nat.le_refl _)]
end Go.Proofs.YtpbflgemhcaooaaDoor
/- A drawn region in a tree of orders: where several heavy operations may come up, each is walked. -/
namespace Go.Proofs.YtpbflgemhcaooaaDoor
open Go.RowKit
section
variable {P : Program} {ops : Array Oper} {Q : Exit → Act → World → Prop} {S : World → Prop}
/-- orders: the end; a light operation; one of these -/
inductive Tr where
  | nil : Tr
  | light (i : Nat) (r : Tr) : Tr
  | any (is : List Nat) (k : Nat → Tr) : Tr
def branched (ops : Array Oper) : Tr → Array Bool → Bool
  | .nil, listed => (Region.ready .any ops listed).isEmpty
  | .light i r, listed => Region.free .any ops listed i && (Region.ready .any ops listed).contains i && branched ops r (listed.setIfInBounds i true)
  | .any is k, listed => Region.ready .any ops listed == is && !is.isEmpty && is.all fun i => branched ops (k i) (listed.setIfInBounds i true)
/-- no order is longer -/
def deepest : Tr → Nat → Bool
  | .nil, _ => true
  | .light _ _, 0 => false
  | .light _ r, n + 1 => deepest r n
  | .any _ _, 0 => false
  | .any is k, n + 1 => is.all fun i => deepest (k i) n
def branch (P : Program) (ops : Array Oper) (Q : Exit → Act → World → Prop) (S : World → Prop) : Tr → Act → World → Prop
  | .nil, a, w => Q .normal a w
  | .light i r, a, w => ∃ o v, ops[i]? = some o ∧ (∀ c a' w', Q (.panic c) (a'.put o.dst v) w' → Q (.panic c) a' w') ∧ light1 P ops S o a v ∧ branch P ops Q S r (a.put o.dst v) w
  | .any is k, a, w => ∀ i, i ∈ is → wpOp P ops Q i (fun a' w' => S w' ∧ branch P ops Q S (k i) a' w') a w
theorem branch_wpAnyH (hs : Region.noSelect ops = true) : ∀ (t : Tr) (fuel : Nat) (listed : Array Bool) (a : Act) (w : World), deepest t fuel = true → branched ops t listed = true → S w → branch P ops Q S t a w → wpAnyH P .any ops Q S fuel listed a w
  | .nil, fuel, listed, a, w, _, ho, _, h => wpAnyH_done (by unfold branched at ho; simpa using ho) h fuel
  | .light i r, 0, listed, a, w, hf, _, _, _ => by unfold deepest at hf; cases hf
  | .any is k, 0, listed, a, w, hf, _, _, _ => by unfold deepest at hf; cases hf
  | .light i r, fuel + 1, listed, a, w, hf, ho, hS, h => by
    obtain ⟨o, v, hi, hQ, hl, hr⟩ := h
    unfold branched at ho
    unfold deepest at hf
    simp only [Bool.and_eq_true] at ho
    exact wpAnyH_take hi hs ho.1.1 ho.1.2 (fun c a' w' => hQ c a' w') hl hS (branch_wpAnyH hs r fuel _ _ _ hf ho.2 hS hr)
  | .any is k, fuel + 1, listed, a, w, hf, ho, hS, h => by
    unfold branched at ho
    unfold deepest at hf
    simp only [Bool.and_eq_true, beq_iff_eq, Bool.not_eq_true', List.all_eq_true] at ho hf
    refine wpAnyH_all ho.1.1 (by intro e; rw [e] at ho; simp at ho) fun j hj => ?_
    exact wpOp_mono (fun a' w' h' => ⟨h'.1, branch_wpAnyH hs (k j) fuel _ _ _ (hf j hj) (ho.2 j hj) h'.1 h'.2⟩) (h j hj)
theorem wp_region_branch {id : Nat} {a : Act} {w : World} (S : World → Prop) (t : Tr) (hm : P.follows .mixedOrders = true) (hs : Region.noSelect ops = true)
    (ho : branched ops t (Array.replicate ops.size false) = true) (hl : deepest t ops.size = true) (hS : S w.drew) (h : branch P ops Q S t a w.drew) : (Code.region id ops true).wp P Q a w :=
  wp_region_held hm (branch_wpAnyH hs t _ _ _ _ hl ho hS h)
theorem branch_light {i : Nat} {o : Oper} {r : Tr} {a : Act} {w : World} {v : Value} (hi : ops[i]? = some o) (hl : light1 P ops S o a v) (hQ : ∀ c a' w', Q (.panic c) (a'.put o.dst v) w' → Q (.panic c) a' w')
    (hr : branch P ops Q S r (a.put o.dst v) w) : branch P ops Q S (.light i r) a w := ⟨o, v, hi, hQ, hl, hr⟩
theorem branch_nil {a : Act} {w : World} (h : Q .normal a w) : branch P ops Q S .nil a w := h
theorem branch_op {i : Nat} {o : Oper} {K : Act → World → Prop} {a : Act} {w : World} (hi : ops[i]? = some o)
    (h : wpList P ops (onNormal K Q) [o] a w) : wpOp P ops Q i K a w := by
  unfold wpOp
  simp only [hi]
  unfold wpList at h
  split
  · rename_i hw
    rw [if_pos hw] at h
    refine h.imp (fun h => ?_) (fun h => ⟨h.1, ?_⟩)
    · unfold Oper.wp at *
      generalize (execOp a.eval o).run P w = r at *
      cases r with
      | ok n w' =>
        cases n <;> simp only [Oper.upon] at h ⊢ <;> exact h
      | halt x w' => cases x <;> simp only [Oper.upon] at h ⊢ <;> exact h
    · obtain ⟨a', w', h2⟩ := h.2
      exact ⟨a', w', h2⟩
  · rename_i hw
    rw [if_neg hw] at h
    exact h
theorem branch_one {i : Nat} {k : Nat → Tr} {o : Oper} {a : Act} {w : World} (hi : ops[i]? = some o)
    (h : wpList P ops (onNormal (fun a' w' => S w' ∧ branch P ops Q S (k i) a' w') Q) [o] a w) : branch P ops Q S (.any [i] k) a w := fun j hj => by
  obtain rfl : j = i := by simpa using hj
  exact branch_op hi h
theorem branch_more {i : Nat} {is : List Nat} {k : Nat → Tr} {o : Oper} {a : Act} {w : World} (hi : ops[i]? = some o)
    (h : wpList P ops (onNormal (fun a' w' => S w' ∧ branch P ops Q S (k i) a' w') Q) [o] a w) (hr : branch P ops Q S (.any is k) a w) : branch P ops Q S (.any (i :: is) k) a w := fun j hj => by
  rcases List.mem_cons.1 hj with rfl | hj
  · exact branch_op hi h
  · exact hr j hj
/-- its ends go on as tl -/
def graft (tl : Tr) : Tr → Tr
  | .nil => tl
  | .light i r => .light i (graft tl r)
  | .any is k => .any is (fun i => graft tl (k i))
theorem wpOp_other {T : Act → World → Prop} {i : Nat} {K : Act → World → Prop} {a : Act} {w : World} (h : wpOp P ops (onNormal T Q) i K a w) : wpOp P ops Q i K a w := by
  unfold wpOp at *
  split
  · rename_i ho
    rw [ho] at h
    exact h
  · rename_i o ho
    rw [ho] at h
    dsimp only at h ⊢
    split
    · rename_i hw
      rw [if_pos hw] at h
      refine h.imp (fun h => ?_) (fun h => h)
      unfold Oper.wp at *
      generalize (execOp a.eval o).run P w = r at *
      cases r with
      | ok n w' => cases n <;> simp only [Oper.upon] at h ⊢ <;> exact h
      | halt x w' => cases x <;> simp only [Oper.upon] at h ⊢ <;> exact h
    · rename_i hw
      rw [if_neg hw] at h
      exact h
theorem branch_graft {T : Act → World → Prop} {tl : Tr} (hT : ∀ a w, T a w → branch P ops Q S tl a w) : ∀ (t : Tr) (a : Act) (w : World), branch P ops (onNormal T Q) S t a w → branch P ops Q S (graft tl t) a w
  | .nil, a, w, h => hT a w h
  | .light i r, a, w, h => by
    obtain ⟨o, v, hi, hQ, hl, hr⟩ := h
    exact ⟨o, v, hi, hQ, hl, branch_graft hT r _ _ hr⟩
  | .any is k, a, w, h => fun i hi => wpOp_other (wpOp_mono (fun a' w' h' => ⟨h'.1, branch_graft hT (k i) _ _ h'.2⟩) (h i hi))
/-- first one tree, then, from what holds at its ends, another one -/
theorem wp_region_graft {id : Nat} {a : Act} {w : World} (S : World → Prop) (T : Act → World → Prop) (t tl : Tr) (hm : P.follows .mixedOrders = true) (hs : Region.noSelect ops = true)
    (ho : branched ops (graft tl t) (Array.replicate ops.size false) = true) (hl : deepest (graft tl t) ops.size = true) (hS : S w.drew) (h : branch P ops (onNormal T Q) S t a w.drew) (hT : ∀ a w, T a w → branch P ops Q S tl a w) : (Code.region id ops true).wp P Q a w :=
  wp_region_branch S (graft tl t) hm hs ho hl hS (branch_graft hT t a _ h)
end
end Go.Proofs.YtpbflgemhcaooaaDoor
