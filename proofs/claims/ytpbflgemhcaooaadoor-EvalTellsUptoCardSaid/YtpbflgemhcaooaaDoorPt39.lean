import Derived.Test.YtpbflgemhcaooaaDoorPt22
import Derived.Test.YtpbflgemhcaooaaDoorPt17
import Derived.Test.YtpbflgemhcaooaaDoorPt23
import Derived.Test.YtpbflgemhcaooaaDoorPt38
import Derived.Deep.DeepCutAuto
/- Names that are there twice; a program's names, cut. -/
namespace Ev
theorem twice_mono (l : List Par) : ∀ (n k : Nat), k ≤ n → twiceTo l k = true → twiceTo l n = true
  | 0, k, h, e => by obtain rfl : k = 0 := by omega
                     exact e
  | n + 1, k, h, e => by
    by_cases hk : k = n + 1
    · subst hk; exact e
    · unfold twiceTo
      rw [twice_mono l n k (by omega) e]
      rfl
theorem twice_next {l : List Par} {i : Nat} {p : Par} (h : twiceTo l i = false) (hp : l[i]? = some p) : twiceTo l (i + 1) = decide (0 ≤ nameTo l p.name i) := by
  unfold twiceTo
  rw [h, hp]
  rfl
theorem nameTo_take (l : List Par) (n : List UInt8) : ∀ k i, k ≤ i → nameTo (l.take i) n k = nameTo l n k
  | 0, _, _ => rfl
  | k + 1, i, h => by
    unfold nameTo
    rw [List.getElem?_take_of_lt (by omega), nameTo_take l n k i (by omega)]
theorem nameI_take (l : List Par) (n : List UInt8) (i : Nat) (h : i ≤ l.length) : nameI (l.take i) n = nameTo l n i := by
  unfold nameI
  rw [List.length_take, Nat.min_eq_left h]
  exact nameTo_take l n i i (Nat.le_refl _)
end Ev
namespace Go.Proofs.YtpbflgemhcaooaaDoor
open Go.RowKit
set_option linter.unusedSimpArgs false
set_option linter.unusedVariables false
theorem RPars.take {w : World} {A : Option Addr} {c : Nat} {l : List Ev.Par} (h : RPars w (.slice A l.length c) l) (i : Nat) (hi : i ≤ l.length) : RPars w (.slice A i c) (l.take i) := by
  obtain ⟨h1, A', c', e, h3, h4, h5, h6⟩ := h
  injection e with e1 _ e3
  subst e1 e3
  have hl : (l.take i).length = i := by rw [List.length_take]; omega
  have hfm : (l.take i).flatMap cellsP = (l.flatMap cellsP).take (i * 3) := by
    have key : ∀ (l : List Ev.Par) (i : Nat), (l.take i).flatMap cellsP = (l.flatMap cellsP).take (i * 3) := by
      intro l
      induction l with
      | nil => intro i; simp
      | cons p l ih =>
        intro i
        cases i with
        | zero => simp
        | succ i =>
          rw [List.take_succ_cons, List.flatMap_cons, List.flatMap_cons, ih i, show (i + 1) * 3 = i * 3 + 3 by omega]
          rfl
    exact key l i
  refine ⟨by rw [hl, hfm, List.length_take]; omega, A, c, by rw [hl], by omega, h4, fun ha => ?_, fun hn => ?_⟩
  · have := h5 ha; omega
  · obtain ⟨b, o, e, hb, hc⟩ := h6 (by omega)
    refine ⟨b, o, e, hb, fun j u hu => hc j u ?_⟩
    rw [hfm] at hu
    rw [List.getElem?_take] at hu
    split at hu
    · exact hu
    · cases hu
end Go.Proofs.YtpbflgemhcaooaaDoor
/- evref1.Check: what is wrong with a program, by the document. -/
namespace Ev
theorem findP_take (l : List Par) (n : List UInt8) : ∀ k, k ≤ l.length → ((findP (l.take k) n).isSome = true ↔ ∃ i, i < k ∧ (l[i]?).map Par.name = some n)
  | 0, _ => by
    rw [List.take_zero, findP_nil]
    exact ⟨fun h => (by cases h), fun ⟨i, h, _⟩ => absurd h (by omega)⟩
  | k + 1, h => by
    have hk : l[k]? = some l[k] := List.getElem?_eq_getElem (by omega)
    rw [List.take_add_one, hk]
    show (findP (l.take k ++ [l[k]]) n).isSome = true ↔ _
    rw [findP_snoc]
    have ih := findP_take l n k (by omega)
    by_cases e : l[k].name = n
    · rw [if_pos e]
      exact ⟨fun _ => ⟨k, by omega, by rw [hk, ← e]; rfl⟩, fun _ => rfl⟩
    · rw [if_neg e, ih]
      refine ⟨fun ⟨i, h1, h2⟩ => ⟨i, by omega, h2⟩, fun ⟨i, h1, h2⟩ => ⟨i, ?_, h2⟩⟩
      rcases Nat.lt_succ_iff_lt_or_eq.1 h1 with h3 | h3
      · exact h3
      · subst h3
        rw [hk] at h2
        injection h2 with h2
        exact absurd h2 e
theorem nameTo_some (l : List Par) (n : List UInt8) : ∀ k, k ≤ l.length → (0 ≤ nameTo l n k ↔ ∃ i, i < k ∧ (l[i]?).map Par.name = some n)
  | 0, _ => ⟨fun h => absurd h (by show ¬ (0 : Int) ≤ -1; omega), fun ⟨i, h, _⟩ => absurd h (by omega)⟩
  | k + 1, h => by
    have ih := nameTo_some l n k (by omega)
    unfold nameTo
    by_cases e : (l[k]?).map Par.name = some n
    · rw [if_pos e]
      exact ⟨fun _ => ⟨k, by omega, e⟩, fun _ => by omega⟩
    · rw [if_neg e, ih]
      refine ⟨fun ⟨i, h1, h2⟩ => ⟨i, by omega, h2⟩, fun ⟨i, h1, h2⟩ => ⟨i, ?_, h2⟩⟩
      rcases Nat.lt_succ_iff_lt_or_eq.1 h1 with h3 | h3
      · exact h3
      · subst h3; exact absurd h2 e
/-- a parameter's name is there ahead of it -/
theorem twice_par {l m : List Par} {i : Nat} {p : Par} (h : twiceTo (l ++ m) i = false) (hp : l[i]? = some p) : twiceTo (l ++ m) (i + 1) = (findP (l.take i) p.name).isSome := by
  have hi := (List.getElem?_eq_some_iff.1 hp).1
  rw [twice_next h (by rw [List.getElem?_append_left hi]; exact hp)]
  have h1 := nameTo_some (l ++ m) p.name i (by simp; omega)
  have h2 := findP_take l p.name i (by omega)
  have h3 : (∃ j, j < i ∧ ((l ++ m)[j]?).map Par.name = some p.name) ↔ ∃ j, j < i ∧ (l[j]?).map Par.name = some p.name := by
    constructor
    · rintro ⟨j, a, b⟩; rw [List.getElem?_append_left (by omega)] at b; exact ⟨j, a, b⟩
    · rintro ⟨j, a, b⟩; exact ⟨j, a, by rw [List.getElem?_append_left (by omega)]; exact b⟩
  rw [h3, ← h2] at h1
  cases h4 : (findP (l.take i) p.name).isSome with
  | true => exact decide_eq_true (h1.2 h4)
  | false => exact decide_eq_false (fun h => by rw [h1.1 h] at h4; cases h4)
/-- an array's name is there ahead of it -/
theorem twice_arr {l m : List Par} {j : Nat} {p : Par} (h : twiceTo (l ++ m) (l.length + j) = false) (hp : m[j]? = some p) : twiceTo (l ++ m) (l.length + j + 1) = ((findP l p.name).isSome || (findP (m.take j) p.name).isSome) := by
  have hj := (List.getElem?_eq_some_iff.1 hp).1
  rw [twice_next h (by rw [List.getElem?_append_right (by omega), show l.length + j - l.length = j by omega]; exact hp)]
  have h1 := nameTo_some (l ++ m) p.name (l.length + j) (by simp; omega)
  have h2 := findP_take m p.name j (by omega)
  have h5 := findP_take l p.name l.length (Nat.le_refl _)
  rw [List.take_length] at h5
  have h3 : (∃ i, i < l.length + j ∧ ((l ++ m)[i]?).map Par.name = some p.name) ↔ ((∃ i, i < l.length ∧ (l[i]?).map Par.name = some p.name) ∨ ∃ i, i < j ∧ (m[i]?).map Par.name = some p.name) := by
    constructor
    · rintro ⟨i, a, b⟩
      by_cases hi : i < l.length
      · rw [List.getElem?_append_left hi] at b; exact .inl ⟨i, hi, b⟩
      · rw [List.getElem?_append_right (by omega)] at b; exact .inr ⟨i - l.length, by omega, b⟩
    · rintro (⟨i, a, b⟩ | ⟨i, a, b⟩)
      · exact ⟨i, by omega, by rw [List.getElem?_append_left a]; exact b⟩
      · exact ⟨l.length + i, by omega, by rw [List.getElem?_append_right (by omega), show l.length + i - l.length = i by omega]; exact b⟩
  rw [h3, ← h2, ← h5] at h1
  cases h4 : (findP l p.name).isSome with
  | true => exact decide_eq_true (h1.2 (.inl h4))
  | false =>
    rw [Bool.false_or]
    cases h6 : (findP (m.take j) p.name).isSome with
    | true => exact decide_eq_true (h1.2 (.inr h6))
    | false => exact decide_eq_false (fun h => by rcases h1.1 h with h | h; (rw [h] at h4; cases h4); (rw [h] at h6; cases h6))
end Ev
/- evref1.Check: its walk. -/
namespace Go.Proofs.YtpbflgemhcaooaaDoor
open Go.RowKit
set_option linter.unusedSimpArgs false
set_option linter.unusedVariables false
theorem par_at {w : World} {A : Option Addr} {len c : Nat} {l : List Ev.Par} (h : RPars w (.slice A len c) l) {j : Nat} {p : Ev.Par} (hp : l[j]? = some p) : ∃ b o, A = some ⟨b, o, none⟩ ∧ b < w.heap.size ∧ w.cell? ⟨b, o + j * 3, none⟩ = some (.string ⟨p.name.toArray⟩) ∧ w.cell? ⟨b, o + j * 3 + 1, none⟩ = some (.bool p.secret) ∧ w.cell? ⟨b, o + j * 3 + 2, none⟩ = some (.int .i64 p.size) := by
  rcases (RPars.at_ h).2 with h1 | ⟨b, o, e, hb, hpa⟩
  · rw [h1] at hp; simp at hp
  · exact ⟨b, o, e, hb, hpa j p hp⟩
theorem nm_short {s : List UInt8} (h : Ev.nameOk s = true) : InS s := by
  unfold Ev.nameOk at h
  simp only [Bool.and_eq_true, decide_eq_true_eq] at h
  unfold InS
  omega
theorem look_names {w : World} {nb : Nat} {l : List Ev.Par} {n : List UInt8} (h : SMapIn w nb (nmF l)) (hn : InS n) : ∃ q : Ev.Par, ∀ u, Below w.heap.size w u → (Go.Instr.lookup 100 (.map (some nb)) (.string ⟨(n).toArray⟩) true).run Tryd.prog u = .ok (.tuple #[.agg #[.bool q.secret, .bool (decide (q.size < 0))], .bool (Ev.findP l n).isSome]) u := by
  refine ⟨(Ev.findP l n).getD Ev.noPar, fun u hu => ?_⟩
  rw [h.look (T := 100) Tryd.underlying100 (fun u => Tryd.zeroValue102 u) hn true rfl u hu]
  unfold nmF
  cases Ev.findP l n <;> rfl
theorem look_arrays {w : World} {ab : Nat} {l : List Ev.Par} {n : List UInt8} (h : SMapIn w ab (arF l)) (hn : InS n) : ∃ q : Ev.Par, ∀ u, Below w.heap.size w u → (Go.Instr.lookup 97 (.map (some ab)) (.string ⟨(n).toArray⟩) true).run Tryd.prog u = .ok (.tuple #[.agg #[.string ⟨q.name.toArray⟩, .bool q.secret, .int .i64 q.size], .bool (Ev.findP l n).isSome]) u := by
  refine ⟨(Ev.findP l n).getD Ev.noPar, fun u hu => ?_⟩
  rw [h.look (T := 97) Tryd.underlying97 (fun u => Tryd.zeroValue35 u) hn true rfl u hu]
  unfold arF
  cases Ev.findP l n <;> rfl
set_option maxRecDepth 8000 in
set_option maxHeartbeats 12800000 in
theorem refCheck4 (f : Ev.Fn1) (v1 v2 v3 : Value) (w : World) (h : RFn w (fun k => k < w.heap.size) v1 v2 v3 f) (hw : Ev.WfF f) (n1 : f.params.length ≤ 1000000) (n2 : f.arrays.length ≤ 1000000) :
    Calls Tryd.prog 16 #[.agg #[v1, v2, v3]] w fun r w' => r = .returned (.int .i64 (Ev.checkC f)) ∧ Below w.heap.size w w' := by
  obtain ⟨h1, h2, h3, h4, h5⟩ := h
  obtain ⟨a1, m1, rfl, _, _⟩ := SL.form h1
  obtain ⟨a2, m2, rfl, _, _⟩ := SL.form h2
  obtain ⟨a3, m3, rfl⟩ := h3.slice
  have H1 := Lib.hid h1
  have H2 := Lib.hid h2
  have H3 := Lib.hid h3
  have HW := Lib.hid hw
  obtain ⟨R, hR⟩ : ∃ R, Ev.checkC f = R := ⟨_, rfl⟩
  rw [hR]
  have HE := Lib.hid hR
  unfold Ev.checkC at HE
  clear h1 h2 h3 h4 h5 hw hR
  have hmm := @run_makeMap Tryd.prog
  go_enter Tryd.func16, Tryd.ntmps16
  by_cases hm : 4 < f.params.length
  case pos =>
    have g1 : decide (4 < (f.params.length : Int)) = true := decide_eq_true (by omega)
    rw [if_pos (.inl hm)] at HE
    clear hm
    go_wp2_with fail
    go_ret
    exact ⟨by rw [← HE.out]; rfl, by (repeat' first | with_reducible (first | exact Below.refl _ _ | assumption | refine Below.alloc ?_ ?_ _ | refine below_drewN ?_ _ | refine Below.drew ?_ | refine Below.setCell ?_ ?_ _ | refine Below.trans ?_ (Below.mono (by with_reducible assumption) ?_)) | go_size)⟩
  case neg =>
  have g1 : decide (4 < (f.params.length : Int)) = false := decide_eq_false (by omega)
  by_cases hm2 : 3 < f.arrays.length
  case pos =>
    have g2 : decide (3 < (f.arrays.length : Int)) = true := decide_eq_true (by omega)
    rw [if_pos (.inr hm2)] at HE
    clear hm hm2
    go_wp2_with fail
    go_ret
    exact ⟨by rw [← HE.out]; rfl, by (repeat' first | with_reducible (first | exact Below.refl _ _ | assumption | refine Below.alloc ?_ ?_ _ | refine below_drewN ?_ _ | refine Below.drew ?_ | refine Below.setCell ?_ ?_ _ | refine Below.trans ?_ (Below.mono (by with_reducible assumption) ?_)) | go_size)⟩
  case neg =>
  have g2 : decide (3 < (f.arrays.length : Int)) = false := decide_eq_false (by omega)
  rw [if_neg (fun h => h.elim hm hm2)] at HE
  go_upto_region 3 with fail
  have b0 : Below w.heap.size w (w.alloc (.cells #[.slice a1 f.params.length m1, .slice a2 f.arrays.length m2, .slice a3 f.body.length m3] 25)) := (Below.refl _ _).alloc (Nat.le_refl _) _
  have r0 := heap_alloc_new w (.cells #[.slice a1 f.params.length m1, .slice a2 f.arrays.length m2, .slice a3 f.body.length m3] 25)
  generalize w.alloc (.cells #[.slice a1 f.params.length m1, .slice a2 f.arrays.length m2, .slice a3 f.body.length m3] 25) = w1 at *
  go_upto_region 4 with fail
  have b1 : Below w1.heap.size w1 ((w1.alloc (.map #[] 0)).alloc (.cells #[.map (some w1.heap.size), .int .i64 0, .int .i64 0] 99)) := ((Below.refl _ _).alloc (Nat.le_refl _) _).alloc (by simp) _
  have KA : KAt ((w1.alloc (.map #[] 0)).alloc (.cells #[.map (some w1.heap.size), .int .i64 0, .int .i64 0] 99)) (w1.heap.size + 1) w1.heap.size [] ⟨0, 0⟩ := by
    refine ⟨?_, ?_⟩
    · have h := heap_alloc_new (w1.alloc (.map #[] 0)) (.cells #[.map (some w1.heap.size), .int .i64 0, .int .i64 0] 99)
      rw [World.size_alloc] at h
      exact h
    · exact (SMapIn.made w1).on ((Below.refl _ _).alloc (Nat.le_refl _) _)
  have z0 := (Array.getElem?_eq_some_iff.1 r0).1
  have r1 := (b1.block w.heap.size z0).trans r0
  have B1 := Lib.hid (b0.trans (b1.mono b0.size))
  have KA1 := Lib.hid KA
  have R1 := Lib.hid r1
  clear KA b0 b1 r0 r1
  generalize (w1.alloc (.map #[] 0)).alloc (.cells #[.map (some w1.heap.size), .int .i64 0, .int .i64 0] 99) = w2 at *
  have zk : w.heap.size < w1.heap.size + 1 := by omega
  have za : w.heap.size < w1.heap.size := z0
  generalize w1.heap.size + 1 = kb at *
  generalize w1.heap.size = ab at *
  go_upto_region 5 with fail
  clear hmm
  have b2 : Below w2.heap.size w2 (w2.alloc (.map #[] 0)) := (Below.refl _ _).alloc (Nat.le_refl _) _
  have NM := Lib.hid (show SMapIn (w2.alloc (.map #[] 0)) w2.heap.size (nmF []) from SMapIn.made w2)
  have KA2 := Lib.hid (KA1.out.on b2)
  have B2 := Lib.hid (B1.out.trans (b2.mono B1.out.size))
  have R2 := Lib.hid ((b2.block w.heap.size (Array.getElem?_eq_some_iff.1 R1.out).1).trans R1.out)
  have zn : w.heap.size < w2.heap.size := (Array.getElem?_eq_some_iff.1 R1.out).1
  have zan : ab ≠ w2.heap.size := by have := KA1.out.m.lt; omega
  clear b2 B1 KA1 R1 z0
  generalize w2.alloc (.map #[] 0) = w3 at *
  generalize w2.heap.size = nb at *
  have q0 : w3.cell? ⟨w.heap.size, 0, none⟩ = some (.slice a1 f.params.length m1) := cell_of_block R2.out 0
  go_upto_region 6 with fail
  clear q0
  go_loopw [32] (fun zz wr => ∃ i : Nat, i ≤ f.params.length ∧ zz = .int .i64 (i : Int) ∧ Hid (Ev.twiceTo (f.params ++ f.arrays) i = false) ∧ Hid (SMapIn wr nb (nmF (f.params.take i))) ∧ Hid (KAt wr kb ab [] ⟨0, 0⟩) ∧ Hid (Below w.heap.size w wr) ∧ Hid (wr.heap[w.heap.size]? = some (.cells #[.slice a1 f.params.length m1, .slice a2 f.arrays.length m2, .slice a3 f.body.length m3] 25 (0, 0)))) (fun zz _ => f.params.length - (intOf zz).toNat)
  case atStart => exact ⟨0, by omega, rfl, Lib.hid rfl, NM, KA2, B2, R2⟩
  case round =>
  clear NM KA2 B2 R2
  obtain ⟨i, hi, rfl, HT, HN, HK, HB, HRB⟩ := hrel
  by_cases hlt : i < f.params.length
  case pos =>
    obtain ⟨p, hp⟩ : ∃ p, f.params[i]? = some p := ⟨_, List.getElem?_eq_getElem hlt⟩
    obtain ⟨b, o, rfl, hb, p0, p1, p2⟩ := par_at (H1.out.on HB.out) hp
    have HWP := HW.out.params p (List.mem_of_getElem? hp)
    have HNS := Lib.hid (nm_short HWP.name)
    have HSZ := Lib.hid HWP.size
    have HTN := Lib.hid (Ev.twice_par HT.out hp)
    have HNX := Lib.hid (show smapPut (nmF (f.params.take i)) p.name (some (.agg #[.bool p.secret, .bool false])) = nmF (f.params.take (i + 1)) by
      rw [List.take_add_one, hp]
      show _ = nmF (f.params.take i ++ [p])
      rw [nmF_snoc]
      unfold vV
      rw [HWP.size]
      rfl)
    clear hp HWP
    go_upto_region 8 with fail
    have b4 : Below wr.heap.size wr (wr.alloc (.cells #[.string ⟨p.name.toArray⟩, .bool p.secret, .int .i64 p.size] 35)) := (Below.refl _ _).alloc (Nat.le_refl _) _
    have r4 := heap_alloc_new wr (.cells #[.string ⟨p.name.toArray⟩, .bool p.secret, .int .i64 p.size] 35)
    have N4 := Lib.hid (HN.out.on b4)
    have K4 := Lib.hid (HK.out.on b4)
    have B4 := Lib.hid (HB.out.trans (b4.mono HB.out.size))
    have RB4 := Lib.hid ((b4.block w.heap.size (Array.getElem?_eq_some_iff.1 HRB.out).1).trans HRB.out)
    have hgw : w.heap.size ≤ wr.heap.size := HB.out.size
    clear b4 p0 p1 p2 hb HN HK HB HRB
    generalize wr.alloc (.cells #[.string ⟨p.name.toArray⟩, .bool p.secret, .int .i64 p.size] 35) = w4 at *
    generalize wr.heap.size = g at *
    have R4 := Lib.hid r4
    have c0 : w4.cell? ⟨g, 0, none⟩ = some (.string ⟨(p.name).toArray⟩) := cell_of_block r4 0
    have zg := (Array.getElem?_eq_some_iff.1 r4).1
    clear r4
    obtain ⟨q, hq⟩ := look_names N4.out HNS.out
    have HLK := Lib.hid hq
    obtain ⟨had, hhad⟩ : ∃ had, (Ev.findP (f.params.take i) p.name).isSome = had := ⟨_, rfl⟩
    rw [hhad] at HLK HTN
    clear hq hhad
    go_upto_region 9 with (at_lookup; refine wpList_lookupS_at rfl _ _ 100 true rfl rfl rfl (HLK.out _ (by (repeat' first | with_reducible (first | exact Below.refl _ _ | assumption | refine Below.alloc ?_ ?_ _ | refine below_drewN ?_ _ | refine Below.drew ?_ | refine Below.setCell ?_ ?_ _ | refine Below.trans ?_ (Below.mono (by with_reducible assumption) ?_)) | go_size))) ?_)
    have b5 : Below w4.heap.size w4 (w4.alloc (.cells #[.bool q.secret, .bool (decide (q.size < 0))] 102)) := (Below.refl _ _).alloc (Nat.le_refl _) _
    have N5 := Lib.hid (N4.out.on b5)
    have K5 := Lib.hid (K4.out.on b5)
    have B5 := Lib.hid (B4.out.trans (b5.mono B4.out.size))
    have RB5 := Lib.hid ((b5.block w.heap.size (Array.getElem?_eq_some_iff.1 RB4.out).1).trans RB4.out)
    have R5 := Lib.hid ((b5.block g zg).trans R4.out)
    clear b5 c0 zg N4 K4 B4 RB4 R4 HLK
    generalize w4.alloc (.cells #[.bool q.secret, .bool (decide (q.size < 0))] 102) = w5 at *
    cases had with
    | true =>
      have HX := Lib.hid (show (7 : Int) = R by
        have h2 := Ev.twice_mono (f.params ++ f.arrays) (f.params ++ f.arrays).length (i + 1) (by simp; omega) HTN.out
        rw [← HE.out, if_pos h2])
      go_wp2_with fail
      go_ret
      exact ⟨by rw [← HX.out]; rfl, B5.out⟩
    | false =>
      have c0 : w5.cell? ⟨g, 0, none⟩ = some (.string ⟨(p.name).toArray⟩) := cell_of_block R5.out 0
      have c1 : w5.cell? ⟨g, 1, none⟩ = some (.bool p.secret) := cell_of_block R5.out 1
      have hng : nb ≠ w.heap.size := by omega
      go_wp2_with (at_mapUpdate; refine wpList_updateS_at rfl _ _ _ 100 _ rfl Tryd.underlying100 rfl rfl rfl N5.out HNS.out ?_; intro w7 hm7 ht7)
      have hkm : nb ≠ kb := fun e => (N5.out.nb K5.out.r) e
      have N7 := Lib.hid (show SMapIn w7 nb (nmF (f.params.take (i + 1))) by rw [← HNX.out]; exact hm7)
      have K7 := Lib.hid (show KAt w7 kb ab [] ⟨0, 0⟩ from ⟨(ht7.other (fun e => hkm e.symm)).trans K5.out.r, K5.out.m.same (ht7.other zan)⟩)
      have B7 := Lib.hid (B5.out.trans (ht7.below (B := w.heap.size) (by omega) B5.out.size))
      have RB7 := Lib.hid ((ht7.other (fun e => hng e.symm)).trans RB5.out)
      clear hm7 ht7
      (try go_frame)
      go_roundw
      case rel => exact ⟨i + 1, by omega, by go_num, HTN, N7, K7, B7, RB7⟩
      case measure => simp [intOf]; omega
  case neg =>
  have hin : i = f.params.length := by omega
  have HT2 := Lib.hid (show Ev.twiceTo (f.params ++ f.arrays) (f.params.length + 0) = false by rw [Nat.add_zero, ← hin]; exact HT.out)
  have HN2 := Lib.hid (show SMapIn wr nb (nmF f.params) by have h := HN.out; rw [hin, List.take_length] at h; exact h)
  have q1 : wr.cell? ⟨w.heap.size, 1, none⟩ = some (.slice a2 f.arrays.length m2) := cell_of_block HRB.out 1
  clear hin HT HN
  go_upto_region 14 with fail
  clear q1
  go_loopw [54] (fun zz wr => ∃ j : Nat, j ≤ f.arrays.length ∧ zz = .int .i64 (j : Int) ∧ Hid (Ev.twiceTo (f.params ++ f.arrays) (f.params.length + j) = false) ∧ Hid (SMapIn wr nb (nmF f.params)) ∧ Hid (KAt wr kb ab (f.arrays.take j) ⟨0, 0⟩) ∧ Hid (Below w.heap.size w wr) ∧ Hid (wr.heap[w.heap.size]? = some (.cells #[.slice a1 f.params.length m1, .slice a2 f.arrays.length m2, .slice a3 f.body.length m3] 25 (0, 0)))) (fun zz _ => f.arrays.length - (intOf zz).toNat)
  case atStart => exact ⟨0, by omega, rfl, HT2, HN2, HK, HB, HRB⟩
  case round =>
  clear HT2 HN2 HK HB HRB
  obtain ⟨j, hj, rfl, HT, HN, HK, HB, HRB⟩ := hrel
  by_cases hlt2 : j < f.arrays.length
  case pos =>
    obtain ⟨p, hp⟩ : ∃ p, f.arrays[j]? = some p := ⟨_, List.getElem?_eq_getElem hlt2⟩
    obtain ⟨b, o, rfl, hb, p0, p1, p2⟩ := par_at (H2.out.on HB.out) hp
    have HWA := HW.out.arrays p (List.mem_of_getElem? hp)
    have HNS := Lib.hid (nm_short HWA.name)
    have HTN := Lib.hid (Ev.twice_arr HT.out hp)
    have HAX := Lib.hid (show smapPut (arF (f.arrays.take j)) p.name (some (.agg #[.string ⟨p.name.toArray⟩, .bool p.secret, .int .i64 p.size])) = arF (f.arrays.take (j + 1)) by
      rw [List.take_add_one, hp]
      show _ = arF (f.arrays.take j ++ [p])
      rw [arF_snoc]
      rfl)
    clear hp HWA
    go_upto_region 16 with fail
    have b4 : Below wr.heap.size wr (wr.alloc (.cells #[.string ⟨p.name.toArray⟩, .bool p.secret, .int .i64 p.size] 35)) := (Below.refl _ _).alloc (Nat.le_refl _) _
    have r4 := heap_alloc_new wr (.cells #[.string ⟨p.name.toArray⟩, .bool p.secret, .int .i64 p.size] 35)
    have N4 := Lib.hid (HN.out.on b4)
    have K4 := Lib.hid (HK.out.on b4)
    have B4 := Lib.hid (HB.out.trans (b4.mono HB.out.size))
    have RB4 := Lib.hid ((b4.block w.heap.size (Array.getElem?_eq_some_iff.1 HRB.out).1).trans HRB.out)
    have hgw : w.heap.size ≤ wr.heap.size := HB.out.size
    clear b4 p0 p1 p2 hb HN HK HB HRB
    generalize wr.alloc (.cells #[.string ⟨p.name.toArray⟩, .bool p.secret, .int .i64 p.size] 35) = w4 at *
    generalize wr.heap.size = g at *
    have R4 := Lib.hid r4
    have c0 : w4.cell? ⟨g, 0, none⟩ = some (.string ⟨(p.name).toArray⟩) := cell_of_block r4 0
    have zg := (Array.getElem?_eq_some_iff.1 r4).1
    clear r4
    obtain ⟨q, hq⟩ := look_names N4.out HNS.out
    have HLK := Lib.hid hq
    obtain ⟨had, hhad⟩ : ∃ had, (Ev.findP f.params p.name).isSome = had := ⟨_, rfl⟩
    rw [hhad] at HLK HTN
    clear hq hhad
    go_upto_region 17 with (at_lookup; refine wpList_lookupS_at rfl _ _ 100 true rfl rfl rfl (HLK.out _ (by (repeat' first | with_reducible (first | exact Below.refl _ _ | assumption | refine Below.alloc ?_ ?_ _ | refine below_drewN ?_ _ | refine Below.drew ?_ | refine Below.setCell ?_ ?_ _ | refine Below.trans ?_ (Below.mono (by with_reducible assumption) ?_)) | go_size))) ?_)
    have b5 : Below w4.heap.size w4 (w4.alloc (.cells #[.bool q.secret, .bool (decide (q.size < 0))] 102)) := (Below.refl _ _).alloc (Nat.le_refl _) _
    have N5 := Lib.hid (N4.out.on b5)
    have K5 := Lib.hid (K4.out.on b5)
    have B5 := Lib.hid (B4.out.trans (b5.mono B4.out.size))
    have RB5 := Lib.hid ((b5.block w.heap.size (Array.getElem?_eq_some_iff.1 RB4.out).1).trans RB4.out)
    have R5 := Lib.hid ((b5.block g zg).trans R4.out)
    clear b5 c0 zg N4 K4 B4 RB4 R4 HLK
    generalize w4.alloc (.cells #[.bool q.secret, .bool (decide (q.size < 0))] 102) = w5 at *
    obtain ⟨q2, hq2⟩ := look_arrays K5.out.m HNS.out
    have HLK2 := Lib.hid hq2
    obtain ⟨arr, harr⟩ : ∃ arr, (Ev.findP (f.arrays.take j) p.name).isSome = arr := ⟨_, rfl⟩
    rw [harr] at HLK2 HTN
    clear hq2 harr
    have c0 : w5.cell? ⟨g, 0, none⟩ = some (.string ⟨(p.name).toArray⟩) := cell_of_block R5.out 0
    have k0 : w5.cell? ⟨kb, 0, none⟩ = some (.map (some ab)) := (K5.out.cell 0).trans rfl
    have zg := (Array.getElem?_eq_some_iff.1 R5.out).1
    have zk5 := K5.out.lt
    refine wp_region_trail (fun w' => Below w5.heap.size w5 w') [(0, true), (1, true), (2, true), (3, true), (4, true), (5, true), (6, true), (7, true), (8, true), (9, true), (10, false), (11, false), (12, true)] (by kernel_rfl) (by kernel_rfl) (by kernel_rfl) (by decide) (by (repeat' first | with_reducible (first | exact Below.refl _ _ | assumption | refine Below.alloc ?_ ?_ _ | refine below_drewN ?_ _ | refine Below.drew ?_ | refine Below.setCell ?_ ?_ _ | refine Below.trans ?_ (Below.mono (by with_reducible assumption) ?_)) | go_size)) ?_
    apply trail_light
    case hi => (simp only [List.getElem?_toArray, List.getElem?_cons_zero, List.getElem?_cons_succ]; exact rfl)
    case hl => first | exact light_no (by rfl) | ((first | apply light_plain rfl | apply light_yes (by rfl)); intro w9 hS9; skip; first | (exact exec_load rfl rfl (by first | exact ldi9 | exact ldt9)) | (go_simp; try rfl))
    case hQ => exact fun _ _ _ h => h
    (try simp only [Act.put, List.setIfInBounds_toArray, List.set_cons_zero, List.set_cons_succ])
    apply trail_light
    case hi => (simp only [List.getElem?_toArray, List.getElem?_cons_zero, List.getElem?_cons_succ]; exact rfl)
    case hl => first | exact light_no (by rfl) | ((first | apply light_plain rfl | apply light_yes (by rfl)); intro w9 hS9; obtain ⟨kc9, kf9, s9⟩ := bfacts hS9; have hk9 := HLK2.out w9 hS9; first | (exact exec_load rfl rfl (by first | exact ldi9 | exact ldt9)) | (go_simp; try rfl))
    case hQ => exact fun _ _ _ h => h
    (try simp only [Act.put, List.setIfInBounds_toArray, List.set_cons_zero, List.set_cons_succ])
    apply trail_light
    case hi => (simp only [List.getElem?_toArray, List.getElem?_cons_zero, List.getElem?_cons_succ]; exact rfl)
    case hl => first | exact light_no (by rfl) | ((first | apply light_plain rfl | apply light_yes (by rfl)); intro w9 hS9; obtain ⟨kc9, kf9, s9⟩ := bfacts hS9; have hk9 := HLK2.out w9 hS9; first | (exact exec_load rfl rfl (by first | exact ldi9 | exact ldt9)) | (go_simp; try rfl))
    case hQ => exact fun _ _ _ h => h
    (try simp only [Act.put, List.setIfInBounds_toArray, List.set_cons_zero, List.set_cons_succ])
    apply trail_light
    case hi => (simp only [List.getElem?_toArray, List.getElem?_cons_zero, List.getElem?_cons_succ]; exact rfl)
    case hl => first | exact light_no (by rfl) | ((first | apply light_plain rfl | apply light_yes (by rfl)); intro w9 hS9; obtain ⟨kc9, kf9, s9⟩ := bfacts hS9; have hk9 := HLK2.out w9 hS9; first | (exact exec_load rfl rfl (by first | exact ldi9 | exact ldt9)) | (go_simp; try rfl))
    case hQ => exact fun _ _ _ h => h
    (try simp only [Act.put, List.setIfInBounds_toArray, List.set_cons_zero, List.set_cons_succ])
    apply trail_light
    case hi => (simp only [List.getElem?_toArray, List.getElem?_cons_zero, List.getElem?_cons_succ]; exact rfl)
    case hl => first | exact light_no (by rfl) | ((first | apply light_plain rfl | apply light_yes (by rfl)); intro w9 hS9; obtain ⟨kc9, kf9, s9⟩ := bfacts hS9; have hk9 := HLK2.out w9 hS9; first | (exact exec_load rfl rfl (by first | exact ldi9 | exact ldt9)) | (go_simp; try rfl))
    case hQ => exact fun _ _ _ h => h
    (try simp only [Act.put, List.setIfInBounds_toArray, List.set_cons_zero, List.set_cons_succ])
    apply trail_light
    case hi => (simp only [List.getElem?_toArray, List.getElem?_cons_zero, List.getElem?_cons_succ]; exact rfl)
    case hl => first | exact light_no (by rfl) | ((first | apply light_plain rfl | apply light_yes (by rfl)); intro w9 hS9; obtain ⟨kc9, kf9, s9⟩ := bfacts hS9; have hk9 := HLK2.out w9 hS9; first | (exact exec_load rfl rfl (by first | exact ldi9 | exact ldt9)) | (go_simp; try rfl))
    case hQ => exact fun _ _ _ h => h
    (try simp only [Act.put, List.setIfInBounds_toArray, List.set_cons_zero, List.set_cons_succ])
    apply trail_light
    case hi => (simp only [List.getElem?_toArray, List.getElem?_cons_zero, List.getElem?_cons_succ]; exact rfl)
    case hl => first | exact light_no (by rfl) | ((first | apply light_plain rfl | apply light_yes (by rfl)); intro w9 hS9; obtain ⟨kc9, kf9, s9⟩ := bfacts hS9; have hk9 := HLK2.out w9 hS9; first | (exact exec_load rfl rfl (by first | exact ldi9 | exact ldt9)) | (go_simp; try rfl))
    case hQ => exact fun _ _ _ h => h
    (try simp only [Act.put, List.setIfInBounds_toArray, List.set_cons_zero, List.set_cons_succ])
    apply trail_light
    case hi => (simp only [List.getElem?_toArray, List.getElem?_cons_zero, List.getElem?_cons_succ]; exact rfl)
    case hl => first | exact light_no (by rfl) | ((first | apply light_plain rfl | apply light_yes (by rfl)); intro w9 hS9; skip; first | (exact exec_load rfl rfl (by first | exact ldi9 | exact ldt9)) | (go_simp; try rfl))
    case hQ => exact fun _ _ _ h => h
    (try simp only [Act.put, List.setIfInBounds_toArray, List.set_cons_zero, List.set_cons_succ])
    apply trail_light
    case hi => (simp only [List.getElem?_toArray, List.getElem?_cons_zero, List.getElem?_cons_succ]; exact rfl)
    case hl => first | exact light_no (by rfl) | ((first | apply light_plain rfl | apply light_yes (by rfl)); intro w9 hS9; skip; first | (exact exec_load rfl rfl (by first | exact ldi9 | exact ldt9)) | (go_simp; try rfl))
    case hQ => exact fun _ _ _ h => h
    (try simp only [Act.put, List.setIfInBounds_toArray, List.set_cons_zero, List.set_cons_succ])
    apply trail_light
    case hi => (simp only [List.getElem?_toArray, List.getElem?_cons_zero, List.getElem?_cons_succ]; exact rfl)
    case hl => first | exact light_no (by rfl) | ((first | apply light_plain rfl | apply light_yes (by rfl)); intro w9 hS9; skip; first | (exact exec_load rfl rfl (by first | exact ldi9 | exact ldt9)) | (go_simp; try rfl))
    case hQ => exact fun _ _ _ h => h
    (try simp only [Act.put, List.setIfInBounds_toArray, List.set_cons_zero, List.set_cons_succ])
    apply trail_heavy
    case hi => (simp only [List.getElem?_toArray, List.getElem?_cons_zero, List.getElem?_cons_succ]; exact rfl)
    go_wp2_with (fail)
    refine ⟨by (repeat' first | with_reducible (first | exact Below.refl _ _ | assumption | refine Below.alloc ?_ ?_ _ | refine below_drewN ?_ _ | refine Below.drew ?_ | refine Below.setCell ?_ ?_ _ | refine Below.trans ?_ (Below.mono (by with_reducible assumption) ?_)) | go_size), ?_⟩
    apply trail_heavy
    case hi => (simp only [List.getElem?_toArray, List.getElem?_cons_zero, List.getElem?_cons_succ]; exact rfl)
    go_wp2_with (fail)
    refine ⟨by (repeat' first | with_reducible (first | exact Below.refl _ _ | assumption | refine Below.alloc ?_ ?_ _ | refine below_drewN ?_ _ | refine Below.drew ?_ | refine Below.setCell ?_ ?_ _ | refine Below.trans ?_ (Below.mono (by with_reducible assumption) ?_)) | go_size), ?_⟩
    apply trail_light
    case hi => (simp only [List.getElem?_toArray, List.getElem?_cons_zero, List.getElem?_cons_succ]; exact rfl)
    case hl => first | exact light_no (by rfl) | ((first | apply light_plain rfl | apply light_yes (by rfl)); intro w9 hS9; skip; first | (exact exec_load rfl rfl (by first | exact ldi9 | exact ldt9)) | (go_simp; try rfl))
    case hQ => exact fun _ _ _ h => h
    (try simp only [Act.put, List.setIfInBounds_toArray, List.set_cons_zero, List.set_cons_succ])
    refine trail_nil ?_
    (try dsimp only)
    go_upto_region 18 with fail
    have b6 : Below w5.heap.size w5 (w5.alloc (.cells #[.string ⟨q2.name.toArray⟩, .bool q2.secret, .int .i64 q2.size] 35)).drew := ((Below.refl w5.heap.size w5).alloc (Nat.le_refl _) _).drew
    have N6 := Lib.hid (N5.out.on b6)
    have K6 := Lib.hid (K5.out.on b6)
    have B6 := Lib.hid (B5.out.trans (b6.mono B5.out.size))
    have RB6 := Lib.hid ((b6.block w.heap.size (Array.getElem?_eq_some_iff.1 RB5.out).1).trans RB5.out)
    have R6 := Lib.hid ((b6.block g zg).trans R5.out)
    clear b6 c0 k0 zg zk5 N5 K5 B5 RB5 R5 HLK2
    generalize (w5.alloc (.cells #[.string ⟨q2.name.toArray⟩, .bool q2.secret, .int .i64 q2.size] 35)).drew = w6 at *
    have HX7 : Hid ((had || arr) = true → (7 : Int) = R) := Lib.hid (fun e => by
      have h2 := Ev.twice_mono (f.params ++ f.arrays) (f.params ++ f.arrays).length (f.params.length + j + 1) (by simp; omega) (HTN.out.trans e)
      rw [← HE.out, if_pos h2])
    cases had with
    | true =>
      have HX := Lib.hid (HX7.out rfl)
      go_wp2_with fail
      go_ret
      exact ⟨by rw [← HX.out]; rfl, B6.out⟩
    | false =>
    cases arr with
    | true =>
      have HX := Lib.hid (HX7.out rfl)
      go_wp2_with fail
      go_ret
      exact ⟨by rw [← HX.out]; rfl, B6.out⟩
    | false =>
    have HTN2 := Lib.hid (show Ev.twiceTo (f.params ++ f.arrays) (f.params.length + (j + 1)) = false from HTN.out)
    have c0 : w6.cell? ⟨g, 0, none⟩ = some (.string ⟨(p.name).toArray⟩) := cell_of_block R6.out 0
    have c1 : w6.cell? ⟨g, 1, none⟩ = some (.bool p.secret) := cell_of_block R6.out 1
    have c2 : w6.cell? ⟨g, 2, none⟩ = some (.int .i64 p.size) := cell_of_block R6.out 2
    have k0 : w6.cell? ⟨kb, 0, none⟩ = some (.map (some ab)) := (K6.out.cell 0).trans rfl
    have hak : ab ≠ kb := K6.out.ne
    have hag : ab ≠ g := fun e => (K6.out.m.nb R6.out) e
    have haw : ab ≠ w.heap.size := by omega
    clear HTN HX7
    go_upto_region 20 with fail
    refine wp_region_trail (fun w' => w'.cell? ⟨kb, 0, none⟩ = some (.map (some ab)) ∧ w'.cell? ⟨g, 0, none⟩ = some (.string ⟨(p.name).toArray⟩) ∧ w'.cell? ⟨g, 1, none⟩ = some (.bool p.secret) ∧ w'.cell? ⟨g, 2, none⟩ = some (.int .i64 p.size)) [(0, true), (1, true), (2, true), (3, true), (4, true), (5, true), (6, true), (7, false)] (by kernel_rfl) (by kernel_rfl) (by kernel_rfl) (by decide) (⟨k0, c0, c1, c2⟩) ?_
    apply trail_light
    case hi => (simp only [List.getElem?_toArray, List.getElem?_cons_zero, List.getElem?_cons_succ]; exact rfl)
    case hl => first | exact light_no (by rfl) | ((first | apply light_plain rfl | apply light_yes (by rfl)); intro w9 hS9; skip; first | (exact exec_load rfl rfl (by first | exact ldi9 | exact ldt9)) | (go_simp; try rfl))
    case hQ => exact fun _ _ _ h => h
    (try simp only [Act.put, List.setIfInBounds_toArray, List.set_cons_zero, List.set_cons_succ])
    apply trail_light
    case hi => (simp only [List.getElem?_toArray, List.getElem?_cons_zero, List.getElem?_cons_succ]; exact rfl)
    case hl => first | exact light_no (by rfl) | ((first | apply light_plain rfl | apply light_yes (by rfl)); intro w9 hS9; obtain ⟨h91, h92, h93, h94⟩ := hS9; first | (exact exec_load rfl rfl (by first | exact ldi9 | exact ldt9)) | (go_simp; try rfl))
    case hQ => exact fun _ _ _ h => h
    (try simp only [Act.put, List.setIfInBounds_toArray, List.set_cons_zero, List.set_cons_succ])
    apply trail_light
    case hi => (simp only [List.getElem?_toArray, List.getElem?_cons_zero, List.getElem?_cons_succ]; exact rfl)
    case hl => first | exact light_no (by rfl) | ((first | apply light_plain rfl | apply light_yes (by rfl)); intro w9 hS9; obtain ⟨h91, h92, h93, h94⟩ := hS9; first | (exact exec_load rfl rfl (by first | exact ldi9 | exact ldt9)) | (go_simp; try rfl))
    case hQ => exact fun _ _ _ h => h
    (try simp only [Act.put, List.setIfInBounds_toArray, List.set_cons_zero, List.set_cons_succ])
    apply trail_light
    case hi => (simp only [List.getElem?_toArray, List.getElem?_cons_zero, List.getElem?_cons_succ]; exact rfl)
    case hl => first | exact light_no (by rfl) | ((first | apply light_plain rfl | apply light_yes (by rfl)); intro w9 hS9; obtain ⟨h91, h92, h93, h94⟩ := hS9; first | (exact exec_load rfl rfl (by first | exact ldi9 | exact ldt9)) | (go_simp; try rfl))
    case hQ => exact fun _ _ _ h => h
    (try simp only [Act.put, List.setIfInBounds_toArray, List.set_cons_zero, List.set_cons_succ])
    apply trail_light
    case hi => (simp only [List.getElem?_toArray, List.getElem?_cons_zero, List.getElem?_cons_succ]; exact rfl)
    case hl => first | exact light_no (by rfl) | ((first | apply light_plain rfl | apply light_yes (by rfl)); intro w9 hS9; obtain ⟨h91, h92, h93, h94⟩ := hS9; first | (exact exec_load rfl rfl (by first | exact ldi9 | exact ldt9)) | (go_simp; try rfl))
    case hQ => exact fun _ _ _ h => h
    (try simp only [Act.put, List.setIfInBounds_toArray, List.set_cons_zero, List.set_cons_succ])
    apply trail_light
    case hi => (simp only [List.getElem?_toArray, List.getElem?_cons_zero, List.getElem?_cons_succ]; exact rfl)
    case hl => first | exact light_no (by rfl) | ((first | apply light_plain rfl | apply light_yes (by rfl)); intro w9 hS9; obtain ⟨h91, h92, h93, h94⟩ := hS9; first | (exact exec_load rfl rfl (by first | exact ldi9 | exact ldt9)) | (go_simp; try rfl))
    case hQ => exact fun _ _ _ h => h
    (try simp only [Act.put, List.setIfInBounds_toArray, List.set_cons_zero, List.set_cons_succ])
    apply trail_light
    case hi => (simp only [List.getElem?_toArray, List.getElem?_cons_zero, List.getElem?_cons_succ]; exact rfl)
    case hl => first | exact light_no (by rfl) | ((first | apply light_plain rfl | apply light_yes (by rfl)); intro w9 hS9; obtain ⟨h91, h92, h93, h94⟩ := hS9; first | (exact exec_load rfl rfl (by first | exact ldi9 | exact ldt9)) | (go_simp; try rfl))
    case hQ => exact fun _ _ _ h => h
    (try simp only [Act.put, List.setIfInBounds_toArray, List.set_cons_zero, List.set_cons_succ])
    apply trail_heavy
    case hi => (simp only [List.getElem?_toArray, List.getElem?_cons_zero, List.getElem?_cons_succ]; exact rfl)
    go_wp2_with ((at_mapUpdate; refine wpList_updateS_at rfl _ _ _ 97 _ rfl Tryd.underlying97 rfl rfl rfl (K6.out.m.on ((Below.refl _ _).drew)) HNS.out ?_; intro w7 hm7 ht7))
    refine ⟨⟨(ht7.cell (fun e => hak e.symm)).trans k0, (ht7.cell (fun e => hag e.symm)).trans c0, (ht7.cell (fun e => hag e.symm)).trans c1, (ht7.cell (fun e => hag e.symm)).trans c2⟩, ?_⟩
    refine trail_nil ?_
    (try dsimp only)
    have bd : Below w6.heap.size w6 w6.drew := (Below.refl _ _).drew
    have N7 := Lib.hid (show SMapIn w7 nb (nmF f.params) from (N6.out.on bd).same (ht7.other (fun e => zan e.symm)))
    have K7 := Lib.hid (show KAt w7 kb ab (f.arrays.take (j + 1)) ⟨0, 0⟩ from ⟨(ht7.other (fun e => hak e.symm)).trans (K6.out.on bd).r, by rw [← HAX.out]; exact hm7⟩)
    have B7 := Lib.hid ((B6.out.trans (bd.mono B6.out.size)).trans (ht7.below (B := w.heap.size) (by omega) (Nat.le_trans B6.out.size bd.size)))
    have RB7 := Lib.hid ((ht7.other (fun e => haw e.symm)).trans RB6.out)
    clear hm7 ht7 bd c0 c1 c2 k0
    go_wp2_with fail
    go_roundw
    case rel => exact ⟨j + 1, by omega, by go_num, HTN2, N7, K7, B7, RB7⟩
    case measure => simp [intOf]; omega
  case neg =>
  have hjn : j = f.arrays.length := by omega
  have HX := Lib.hid (show (Ev.blC f.arrays f.params false ⟨0, 0⟩ f.body).1 = R by
    have h2 := HT.out
    rw [hjn] at h2
    rw [← HE.out, if_neg (by rw [List.length_append, h2]; decide)])
  have HK2 := Lib.hid (show KAt wr kb ab f.arrays ⟨0, 0⟩ by have h := HK.out; rw [hjn, List.take_length] at h; exact h)
  have q2 : wr.cell? ⟨w.heap.size, 2, none⟩ = some (.slice a3 f.body.length m3) := cell_of_block HRB.out 2
  have CB := Lib.hid (kbl_all 10 f.body f.arrays f.params (.slice a3 f.body.length m3) ⟨0, 0⟩ kb ab nb false wr (fun k => k < w.heap.size) (fun k hk => ⟨by omega, Nat.lt_of_lt_of_le hk HB.out.size⟩) HK2.out HN.out (RStL.on H3.out HB.out) HW.out.body ⟨by show (f.params.length : Int) ≤ 0 + 4; omega, Int.le_refl _, by show (0 : Int) ≤ 300; omega, Int.le_refl _, by show (0 : Int) ≤ 24; omega⟩)
  clear hjn HT
  go_wp2_with (go_at_call 59; refine CB.out.mono ?_; rintro r w5 ⟨rfl, hF5, _⟩)
  go_ret
  refine ⟨by rw [← HX.out]; rfl, ?_⟩
  exact ⟨hF5.os.trans HB.out.os, hF5.tape.trans HB.out.tape, hF5.output.trans HB.out.output, Nat.le_trans HB.out.size hF5.size, fun k hk => (hF5.block k (by have := HB.out.size; omega) (by omega)).trans (HB.out.block k hk)⟩
end Go.Proofs.YtpbflgemhcaooaaDoor
