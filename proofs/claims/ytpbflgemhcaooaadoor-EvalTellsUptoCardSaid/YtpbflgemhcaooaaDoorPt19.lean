import Derived.Test.YtpbflgemhcaooaaDoorPt11
import Derived.Test.YtpbflgemhcaooaaDoorPt18
import Derived.Test.YtpbflgemhcaooaaDoorPt8
import Derived.Test.YtpbflgemhcaooaaDoorPt12
import Derived.Maps.AppendAt
import Derived.Deep.DeepCutAuto
import Derived.Test.YtpbflgemhcaooaaDoorProg
import Derived.WalkSpells
import Derived.WalkLawsBesides
import Derived.Handy
import Derived.Lib.Hide
import Derived.BigQuiet
import Derived.Deep.QuietTactic
import Derived.Lib.SliceRun
import Derived.Outline
import Derived.Test.YtpbflgemhcaooaaDoorPt7
/- A drawn region whose last operation (a counter's beginning) is taken ahead of all others. -/
namespace Go.Proofs.YtpbflgemhcaooaaDoor
open Go.RowKit
set_option linter.unusedSimpArgs false
set_option linter.unusedVariables false
section
variable {P : Program} {ops : Array Oper} {Q : Exit → Act → World → Prop}
theorem wpAny_flock_tail {ls : List Oper} {a : Act} {w : World} (n : Nat) (pr : Nat → Option Hv)
    (hl : ((List.range (ls.length - n)).all fun i => lastIn (ls.take (n + (i + 1))).toArray (n + i) && orderly (ls.take (n + (i + 1))).toArray) = true) (hn : decide (n ≤ ls.length) = true) (ho : orderly (ls.take n).toArray = true)
    (hf : flock P (ls.take n).toArray w pr (fun a' w' => wpList P ls.toArray Q (ls.drop n) a' w') 0 [] (ls.take n) a) : wpAny P .any ls.toArray Q ls.toArray.size (Array.replicate ls.toArray.size false) a w := by
  have hn := of_decide_eq_true hn
  rw [List.all_eq_true] at hl
  have hln : (ls.take n).length = n := by rw [List.length_take]; omega
  have htk : ∀ i, ls.take n ++ (ls.drop n).take i = ls.take (n + i) := fun i => by rw [List.take_add]
  have htd : ls.take n ++ ls.drop n = ls := List.take_append_drop n ls
  obtain ⟨Qh, h1, h2⟩ := tail_up (P := P) (ls.take n) _ (ls.drop n) Q rfl (fun i hi => by
      have := hl i (List.mem_range.2 (by simpa using hi))
      rw [Bool.and_eq_true] at this
      rw [htk, hln]
      exact this.1) (fun i hi => by
      cases i with
      | zero => simpa using ho
      | succ i =>
        have := hl i (List.mem_range.2 (by simp at hi; omega))
        rw [Bool.and_eq_true] at this
        rw [htk]
        exact this.2)
  rw [htd] at h1 h2
  have H := flock_start (Q := Qh) (l := ls.take n) (a := a) (w := w) (pr := pr) (flock_mono h1 _ 0 [] a hf) ho
  have h3 := h2 (ls.take n).length a w (by
    simp only [List.size_toArray] at H
    exact H)
  have e : (ls.take n).length + (ls.drop n).length = ls.toArray.size := by simp; omega
  rw [e] at h3
  exact h3
/-- operation p is the last one; nobody waits for it, no guard looks at it -/
def looseIn (ops : Array Oper) (p : Nat) : Bool :=
  decide (p + 1 = ops.size) && (List.range p).all fun k => match ops[k]? with
    | some o => o.after.all (fun e => decide (e.on < p)) && match o.guard with
      | some (g, _) => decide (g < p)
      | none => true
    | none => true
theorem looseIn_spec {p : Nat} (h : looseIn ops p = true) : p + 1 = ops.size ∧ ∀ k o, k < p → ops[k]? = some o → (∀ e ∈ o.after, e.on < p) ∧ ∀ g b, o.guard = some (g, b) → g < p := by
  unfold looseIn at h
  rw [Bool.and_eq_true, decide_eq_true_eq, List.all_eq_true] at h
  refine ⟨h.1, fun k o hk ho => ?_⟩
  have h2 := h.2 k (List.mem_range.2 hk)
  rw [ho] at h2
  simp only [Bool.and_eq_true, Array.all_eq_true_iff_forall_mem, decide_eq_true_eq] at h2
  refine ⟨h2.1, fun g b hg => ?_⟩
  have h3 := h2.2
  rw [hg] at h3
  simpa using h3
theorem loose_ready {p : Nat} (h : looseIn ops p = true) {listed : Array Bool} (hsz : listed.size = ops.size) {i : Nat} (hi : i < p) : i ∈ Region.ready .any ops listed ↔ i ∈ Region.ready .any ops.pop listed.pop := by
  obtain ⟨hp, hs⟩ := looseIn_spec h
  have hg : ∀ k b, k < p → listed.pop.getD k b = listed.getD k b := fun k b hk => by
    have h1 : k < listed.size := by omega
    have h2 : k < listed.size - 1 := by omega
    simp [Array.getD_eq_getD_getElem?, Array.getElem?_pop, h1, h2]
  rw [mem_ready, mem_ready, pop_get hp hi, hg i true hi]
  constructor
  · rintro ⟨h1, o, h2, h3⟩
    exact ⟨h1, o, h2, fun e he hb => by rw [hg e.on false ((hs i o hi h2).1 e he)]; exact h3 e he hb⟩
  · rintro ⟨h1, o, h2, h3⟩
    exact ⟨h1, o, h2, fun e he hb => by have := h3 e he hb; rwa [hg e.on false ((hs i o hi h2).1 e he)] at this⟩
theorem loose_wpOp {p i : Nat} (h : looseIn ops p = true) (hi : i < p) {K : Act → World → Prop} {a : Act} {w : World} (hh : Go.wpOp P ops.pop Q i K a w) : Go.wpOp P ops Q i K a w := by
  obtain ⟨hp, hs⟩ := looseIn_spec h
  unfold Go.wpOp at *
  rw [pop_get hp hi] at hh
  cases ho : ops[i]? with
  | none => rw [ho] at hh; exact hh
  | some o =>
    rw [ho] at hh
    simp only at hh ⊢
    rw [wanted_pop hp (hs i o hi ho).2] at hh
    exact hh
theorem loose_wpAny {p : Nat} (h : looseIn ops p = true) : ∀ (fuel : Nat) (listed : Array Bool) (a : Act) (w : World), listed.size = ops.size → listed.getD p true = true → wpAny P .any ops.pop Q fuel listed.pop a w → wpAny P .any ops Q fuel listed a w := by
  obtain ⟨hp, hs⟩ := looseIn_spec h
  have none_ : ∀ (listed : Array Bool), listed.size = ops.size → listed.getD p true = true → (Region.ready .any ops listed = [] ↔ Region.ready .any ops.pop listed.pop = []) := fun listed hsz hl => by
    constructor
    · intro h0
      cases hr : Region.ready .any ops.pop listed.pop with
      | nil => rfl
      | cons x xs =>
        have hm : x ∈ Region.ready .any ops.pop listed.pop := by rw [hr]; exact List.mem_cons_self
        obtain ⟨_, g2, g3, _⟩ := mem_ready.1 hm
        have hx : x < p := by
          have := (Array.getElem?_eq_some_iff.1 g3).1
          simp at this
          omega
        have := (loose_ready h hsz hx).2 hm
        rw [h0] at this; cases this
    · intro h0
      cases hr : Region.ready .any ops listed with
      | nil => rfl
      | cons x xs =>
        have hm : x ∈ Region.ready .any ops listed := by rw [hr]; exact List.mem_cons_self
        obtain ⟨g1, g2, g3, _⟩ := mem_ready.1 hm
        have hx : x < p := by
          have := (Array.getElem?_eq_some_iff.1 g3).1
          rcases Nat.lt_or_ge x p with h1 | h1
          · exact h1
          · have : x = p := by omega
            subst this
            rw [hl] at g1; cases g1
        have := (loose_ready h hsz hx).1 hm
        rw [h0] at this; cases this
  intro fuel
  induction fuel with
  | zero => intro listed a w hsz hl H; exact ⟨(none_ listed hsz hl).2 H.1, H.2⟩
  | succ fuel ih =>
    intro listed a w hsz hl H
    refine ⟨fun hr => H.1 ((none_ listed hsz hl).1 hr), fun i hi => ?_⟩
    obtain ⟨h1, o, h2, _⟩ := mem_ready.1 hi
    have hx : i < p := by
      have := (Array.getElem?_eq_some_iff.1 h2).1
      rcases Nat.lt_or_ge i p with h3 | h3
      · exact h3
      · have : i = p := by omega
        subst this
        rw [hl] at h1; cases h1
    refine wpOp_mono (fun a' w' h5 => ?_) (loose_wpOp h hx (H.2 i ((loose_ready h hsz hx).1 hi)))
    refine ih (listed.setIfInBounds i true) a' w' (by simpa using hsz) ?_ ?_
    · rw [getD_set_ne true (show ¬ i = p by omega)]; exact hl
    · rw [pop_set (show p + 1 = listed.size by omega) hx]; exact h5
/-- **the last operation, of which nobody hears, and that hears of nobody (a counter's beginning), ahead of all others** -/
theorem wp_region_first {id : Nat} {ls : List Oper} {a : Act} {w : World} (p : Nat) (v : Value) (d : Option Tmp) (hm : P.follows .mixedOrders = true) (hs : Region.noSelect ls.toArray = true) (h : looseIn ls.toArray p = true)
    (hf : Region.free .any ls.toArray (Array.replicate ls.toArray.size false) p = true) (hr : (Region.ready .any ls.toArray (Array.replicate ls.toArray.size false)).contains p = true)
    (hQ : ∀ c a w, Q (.panic c) (a.put d v) w → Q (.panic c) a w) (ho : ∃ o, ls.toArray[p]? = some o ∧ o.dst = d ∧ Yields P ls.toArray o v a)
    (hK : wpAny P .any (ls.dropLast).toArray Q (ls.dropLast).toArray.size (Array.replicate (ls.dropLast).toArray.size false) (a.put d v) w.drew) : (Code.region id ls.toArray true).wp P Q a w := by
  obtain ⟨o, hls, rfl, hy⟩ := ho
  obtain ⟨hp, _⟩ := looseIn_spec h
  refine wp_region_any hm ?_
  have e : ls.toArray.size = (ls.dropLast).toArray.size + 1 := by simp at hp ⊢; omega
  have e3 : ls.toArray.pop = (ls.dropLast).toArray := by simp
  rw [e]
  refine wpAny_take hls hs (by rw [← e]; exact hf) (by rw [← e]; exact hr) hQ hy ?_
  refine loose_wpAny h _ _ _ _ (by simp at hp ⊢; omega) (by simp at hp ⊢; try omega) ?_
  rw [e3]
  have e2 : ((Array.replicate ((ls.dropLast).toArray.size + 1) false).setIfInBounds p true).pop = Array.replicate (ls.dropLast).toArray.size false := by
    apply Array.ext_getElem?
    intro k
    simp only [Array.getElem?_pop, Array.getElem?_setIfInBounds, Array.getElem?_replicate, Array.size_setIfInBounds, Array.size_replicate]
    simp at hp
    by_cases hk : k < ls.length - 1
    · have : p ≠ k := by omega
      simp [this, hk]
      try omega
    · simp [hk]
      try omega
  rw [e2]
  exact hK
end
end Go.Proofs.YtpbflgemhcaooaaDoor
/- label.looker: a statement; its head and its arguments. -/
namespace Ev
/-- names, and what is counted, within bounds -/
structure CkOk (l : List Par) (k : LK) : Prop where
  len : (l.length : Int) ≤ k.work + 4
  lo : 0 ≤ k.work
  hi : k.work ≤ 300
  l0 : 0 ≤ k.lets
  l1 : k.lets ≤ 24
theorem args_nil (A l : List Par) (dark : Bool) : argsC A l dark [] = ([], 0) := rfl
theorem args_cons (A l : List Par) (dark : Bool) (e : Ex) (es : List Ex) : argsC A l dark (e :: es) = if (exC A l dark e).2 ≠ 0 then ([], (exC A l dark e).2) else ((exC A l dark e).1 :: (argsC A l dark es).1, (argsC A l dark es).2) := rfl
/-- what is left of the arguments -/
structure ArgsOn (A l : List Par) (dark : Bool) (xs rest : List Ex) (S : List Bool) : Prop where
  err : (argsC A l dark xs).2 = (argsC A l dark rest).2
  bits : (argsC A l dark xs).2 = 0 → (argsC A l dark xs).1 = S ++ (argsC A l dark rest).1
theorem ArgsOn.start (A l : List Par) (dark : Bool) (xs : List Ex) : ArgsOn A l dark xs xs [] := ⟨rfl, fun _ => rfl⟩
theorem ArgsOn.bad {A l : List Par} {dark : Bool} {xs rest : List Ex} {S : List Bool} {e : Ex} (h : ArgsOn A l dark xs (e :: rest) S) (h0 : (exC A l dark e).2 ≠ 0) : (argsC A l dark xs).2 = (exC A l dark e).2 := by
  rw [h.err, args_cons, if_pos h0]
theorem ArgsOn.good {A l : List Par} {dark : Bool} {xs rest : List Ex} {S : List Bool} {e : Ex} (h : ArgsOn A l dark xs (e :: rest) S) (h0 : (exC A l dark e).2 = 0) : ArgsOn A l dark xs rest (S ++ [(exC A l dark e).1]) := by
  have e1 := h.err
  have e2 := h.bits
  rw [args_cons, if_neg (not_not_intro h0)] at e1 e2
  exact ⟨e1, fun k => by rw [e2 k]; simp⟩
theorem ArgsOn.done {A l : List Par} {dark : Bool} {xs : List Ex} {S : List Bool} (h : ArgsOn A l dark xs [] S) : argsC A l dark xs = (S, 0) := by
  have e1 : (argsC A l dark xs).2 = 0 := h.err
  have e2 := h.bits e1
  rw [args_nil, List.append_nil] at e2
  exact Prod.ext e2 e1
end Ev
namespace Go.Proofs.YtpbflgemhcaooaaDoor
open Go.RowKit
set_option linter.unusedSimpArgs false
set_option linter.unusedVariables false
theorem Tryd.boolInfo : (Tryd.prog.info? 4).map (fun i => (i.zero, i.size, i.bytes)) = some (some (.bool false), 1, 1) := by kernel_rfl
def LBlDo (d : Nat) : Prop := ∀ (ts : List Ev.St1) (A l : List Ev.Par) (va vl v : Value) (k : Ev.LK) (kb : Nat) (dark : Bool) (w : World) (K : Nat → Prop), (∀ j, K j → j ≠ kb) → LkOk w kb A va k → NmAt w kb vl l → RStL d w K v ts → (∀ t ∈ ts, Ev.WfS t) → fewP A → Ev.CkOk l k →
  Calls Tryd.prog 58 #[.pointer (some ⟨kb, 0, none⟩), v, vl, .bool dark] w fun r w' => r = .returned (.int .i64 (Ev.blC A l dark k ts).1) ∧ PFr kb w w' ∧ ((Ev.blC A l dark k ts).1 = 0 → LkOk w' kb A va (Ev.blC A l dark k ts).2)
/-- what a statement's walk leaves -/
def LSt (A : List Ev.Par) (va : Value) (kb : Nat) (w : World) (R : (List Ev.Par × Int) × Ev.LK) (r : Ending) (w' : World) : Prop :=
  ∃ v', r = .returned (.tuple #[v', .int .i64 R.1.2]) ∧ PFr kb w w' ∧ (R.1.2 = 0 → NmAt w' kb v' R.1.1 ∧ LkOk w' kb A va R.2)
def LStDo (d : Nat) : Prop := ∀ (t : Ev.St1) (x : V3) (A l : List Ev.Par) (va vl : Value) (k : Ev.LK) (kb b o : Nat) (dark : Bool) (w : World) (K : Nat → Prop), (∀ j, K j → j ≠ kb) → b ≠ kb → LkOk w kb A va k → NmAt w kb vl l → StAt w b o t x → RParts d w K t x → Ev.WfS t → fewP A → Ev.CkOk l k →
  Calls Tryd.prog 90 #[.pointer (some ⟨kb, 0, none⟩), .pointer (some ⟨b, o, none⟩), vl, .bool dark] w (LSt A va kb w (Ev.stC A l dark k t))
theorem one_of {α : Type} {S : List α} (h : S.length = 1) : ∃ s0, S = [s0] := by
  match S, h with
  | [s0], _ => exact ⟨s0, rfl⟩
theorem two_of {α : Type} {S : List α} (h : S.length = 2) : ∃ s0 s1, S = [s0, s1] := by
  match S, h with
  | [s0, s1], _ => exact ⟨s0, s1, rfl⟩
theorem row_bit0 {w : World} {lo n c : Nat} {a : Option Addr} {s0 : Bool} {S : List Bool} (h : w.ownsRow lo 4 1 (.slice a n c) (s0 :: S).length ((s0 :: S).map Value.bool)) : ∃ b o, a = some ⟨b, o, none⟩ ∧ b < w.heap.size ∧ w.cell? ⟨b, o, none⟩ = some (.bool s0) := by
  obtain ⟨b, o, c', e, hb, _, _, hc⟩ := SL.row (SL.of_own h) (by simp)
  injection e with e _ _
  subst e
  exact ⟨b, o, rfl, hb, hc 0 _ rfl⟩
theorem row_bit1 {w : World} {lo n c : Nat} {a : Option Addr} {s0 s1 : Bool} {S : List Bool} (h : w.ownsRow lo 4 1 (.slice a n c) (s0 :: s1 :: S).length ((s0 :: s1 :: S).map Value.bool)) : ∃ b o, a = some ⟨b, o, none⟩ ∧ b < w.heap.size ∧ w.cell? ⟨b, o, none⟩ = some (.bool s0) ∧ w.cell? ⟨b, o + 1, none⟩ = some (.bool s1) := by
  obtain ⟨b, o, c', e, hb, _, _, hc⟩ := SL.row (SL.of_own h) (by simp)
  injection e with e _ _
  subst e
  exact ⟨b, o, rfl, hb, hc 0 _ rfl, hc 1 _ rfl⟩
theorem bad_bit (p s d : Bool) : ((!p && (s || d)) = true → p = false ∧ (s = true ∨ d = true)) ∧ (p = false ∧ (s = true ∨ d = true) → (!p && (s || d)) = true) := by
  cases p <;> cases s <;> cases d <;> simp
theorem own_lessT {w : World} {base base' : Nat} {e : TypeId} {size n : Nat} {v : Value} {xs : List Value} (h : w.ownsRow base e size v n xs) (hl : base' ≤ base) : w.ownsRow base' e size v n xs :=
  ⟨h.1, h.2.imp id fun ⟨g, cap, cur, k1, k2, k3⟩ => ⟨g, cap, cur, k1, Nat.le_trans hl k2, k3⟩⟩
/-- names and one more, in a row of its own -/
theorem NmAt.more {w : World} {lo kb : Nat} {v : Value} {l : List Ev.Par} {p : Ev.Par} (h : w.ownsRow lo 35 3 v (l.length + 1) (l.flatMap cellsP ++ cellsP p)) (hk : kb < lo) : NmAt w kb v (l ++ [p]) := by
  have e : (l ++ [p]).flatMap cellsP = l.flatMap cellsP ++ cellsP p := by simp
  have e2 : (l ++ [p]).length = l.length + 1 := by simp
  refine ⟨?_, fun a n c e3 => ?_⟩
  · show SL w w.heap.size 3 v (l ++ [p]).length ((l ++ [p]).flatMap cellsP)
    rw [e, e2]
    exact SL.of_own h
  · subst e3
    have := (h.lt a.block rfl).1
    show a.block ≠ kb
    omega
/-- is the name there, or an array's -/
theorem name_bit (x y : Int) : (0 ≤ x ∨ 0 ≤ y) ∨ (x < 0 ∧ y < 0) := by omega
end Go.Proofs.YtpbflgemhcaooaaDoor
/- slices.Clone of ints. -/
namespace Go.Proofs.YtpbflgemhcaooaaDoor
open Go.RowKit
set_option linter.unusedSimpArgs false
set_option linter.unusedVariables false
theorem one_ints (l : List Int) : ∀ u ∈ l.map (Value.int .i64), u.oneCell' = true := by
  intro u hu
  rw [List.mem_map] at hu
  obtain ⟨i, _, rfl⟩ := hu
  rfl
theorem cloneInts_info : (Tryd.prog.info? 3).map (fun i => (i.zero, i.size, i.bytes)) = some (some (.int .i64 0), 1, 8) := by kernel_rfl
set_option maxHeartbeats 800000 in
theorem cloneInts_any (l : List Int) (v : Value) (w : World) (h : RInts w w.heap.size v l) (hl : l.length ≤ 1073741824) :
    Calls Tryd.prog 81 #[v] w fun e w' => ∃ v', e = .returned v' ∧ RInts w' w'.heap.size v' l ∧ from_ w.heap.size v' ∧ w'.ownsRow w.heap.size 3 1 v' l.length (l.map (Value.int .i64)) ∧ Below w.heap.size w w' := by
  obtain ⟨i0, hi0, hz0, hz1, hz2⟩ := info_parts cloneInts_info
  have HI := Lib.hid (⟨hi0, hz0, hz1, hz2⟩ : _ ∧ _ ∧ _ ∧ _)
  clear hi0 hz0 hz1 hz2
  have HR := Lib.hid h
  obtain ⟨A, c, rfl, hc1, hc2⟩ := SL.form h
  have hnil : A = none → l = [] := fun ha => by
    subst ha
    cases l with
    | nil => rfl
    | cons x r =>
      obtain ⟨_, A', c', he, _, _, _, h4⟩ := h
      obtain ⟨b, o, e, _⟩ := h4 (by simp)
      subst e
      cases he
  clear h
  have heq := fun W a n c n' c' => Lib.run_eql_slice_nil (P := Tryd.prog) W 46 3 a n c n' c' Tryd.underlying46
  cases A with
  | none =>
    have hl0 := hnil rfl
    subst hl0
    clear hnil
    go_enter Tryd.func81, Tryd.ntmps81
    go_wp2
    go_ret
    exact ⟨_, rfl, SL.nil_ _ _ _, from_nil _ _ _, World.ownsRow_nil _ _ _ _, by (repeat' first | with_reducible (first | exact Below.refl _ _ | assumption | refine Below.alloc ?_ ?_ _ | refine below_drewN ?_ _ | refine Below.drew ?_ | refine Below.setCell ?_ ?_ _ | refine Below.trans ?_ (Below.mono (by with_reducible assumption) ?_)) | go_size)⟩
  | some a =>
    clear hnil
    go_enter Tryd.func81, Tryd.ntmps81
    go_wp2_with (at_builtin; refine wpList_append_SL (B := w.heap.size) rfl (.tmp 5) (.tmp 6) _ rfl w.heap.size 3 i0 _ 8 Tryd.underlying46 HI.out.1 HI.out.2.1 HI.out.2.2.1 HI.out.2.2.2 rfl (by omega) rfl (World.ownsRow_made w #[] 0 (Nat.le_refl _) (by simp [maxLen]) (by simp)) rfl (SL.below HR.out (by (repeat' first | with_reducible (first | exact Below.refl _ _ | assumption | refine Below.alloc ?_ ?_ _ | refine below_drewN ?_ _ | refine Below.drew ?_ | refine Below.setCell ?_ ?_ _ | refine Below.trans ?_ (Below.mono (by with_reducible assumption) ?_)) | go_size))) (one_ints l) (by simp only [maxLen]; omega) (by omega) (by go_size) ?_; intro v1 w1 hown1 hg1 hat1)
    have hb1 : Below w.heap.size w w1 := (by (repeat' first | with_reducible (first | exact Below.refl _ _ | assumption | refine Below.alloc ?_ ?_ _ | refine below_drewN ?_ _ | refine Below.drew ?_ | refine Below.setCell ?_ ?_ _ | refine Below.trans ?_ (Below.mono (by with_reducible assumption) ?_)) | go_size) : Below w.heap.size w _).grown hg1 (by go_size) (by intro k hk; have hk' : w.heap.size = k := (Option.some.inj hk); omega)
    go_ret
    exact ⟨_, rfl, by (show SL _ _ _ _ _ _; simpa using SL.of_own hown1), from_own hown1, (by simpa using hown1), hb1⟩
end Go.Proofs.YtpbflgemhcaooaaDoor
/- eval.Arrays: a copy of all arrays, each in a row of its own. -/
namespace Go.Proofs.YtpbflgemhcaooaaDoor
open Go.RowKit
set_option linter.unusedSimpArgs false
set_option linter.unusedVariables false
/-- a slice of slices that reads as lists -/
def RLists (w : World) (B : Nat) (v : Value) (l : List (List Int)) : Prop :=
  ∃ vs : List Value, vs.length = l.length ∧ SL w B 1 v l.length vs ∧ ∀ (k : Nat) u a, vs[k]? = some u → l[k]? = some a → RInts w B u a
theorem RLists.at_ {w w' : World} {B : Nat} {v : Value} {l : List (List Int)} (h : RLists w B v l) (hb : Below w.heap.size w w') (hB : B ≤ w.heap.size) : RLists w' w'.heap.size v l := by
  obtain ⟨vs, h1, h2, h3⟩ := h
  exact ⟨vs, h1, SL.at_ h2 hb hB, fun k u a hu ha => SL.at_ (h3 k u a hu ha) hb hB⟩
/-- arrays of the call's own: the outer row holds vs; each of these has a row of its own, apart from all others -/
structure Arrs (w : World) (lo : Nat) (v : Value) (l : List (List Int)) (vs : List Value) : Prop where
  outer : w.ownsRow lo 46 1 v vs.length vs
  len : vs.length = l.length
  row : ∀ (k : Nat) u a, vs[k]? = some u → l[k]? = some a → w.ownsRow lo 3 1 u a.length (a.map (Value.int .i64))
  apart : ∀ (k k' : Nat) u u' b, vs[k]? = some u → vs[k']? = some u' → u.ownBlock = some b → u'.ownBlock = some b → k = k'
  out : ∀ (k : Nat) u b, vs[k]? = some u → u.ownBlock = some b → v.ownBlock ≠ some b
theorem Arrs.nil_ (w : World) (lo : Nat) : Arrs w lo (.slice none 0 0) [] [] :=
  ⟨World.ownsRow_nil _ _ _ _, rfl, fun k u a h => by simp at h, fun k k' u u' b h => by simp at h, fun k u b h => by simp at h⟩
theorem Arrs.stays {w w' : World} {lo : Nat} {v : Value} {l : List (List Int)} {vs : List Value} (h : Arrs w lo v l vs) (hb : Below w.heap.size w w') : Arrs w' lo v l vs :=
  ⟨owns_below h.outer hb, h.len, fun k u a hu ha => owns_below (h.row k u a hu ha) hb, h.apart, h.out⟩
/-- one array more -/
theorem Arrs.push {w w1 w2 : World} {lo : Nat} {v v' u : Value} {l : List (List Int)} {vs : List Value} {a : List Int} (h : Arrs w lo v l vs) (hlo : lo ≤ w.heap.size) (hb : Below w.heap.size w w1)
    (hu : w1.ownsRow w.heap.size 3 1 u a.length (a.map (Value.int .i64))) (hg : w1.grownBy w2 v.ownBlock) (hv : w2.ownsRow lo 46 1 v' (vs.length + 1) (vs ++ [u]))
    (hat : v'.ownBlock = v.ownBlock ∨ ∃ q, v'.ownBlock = some q ∧ w1.heap.size ≤ q) : Arrs w2 lo v' (l ++ [a]) (vs ++ [u]) := by
  have split : ∀ (k : Nat) x, (vs ++ [u])[k]? = some x → (k < vs.length ∧ vs[k]? = some x) ∨ (k = vs.length ∧ x = u) := fun k x hx => by
    rcases Nat.lt_or_ge k vs.length with hk | hk
    · rw [List.getElem?_append_left hk] at hx; exact .inl ⟨hk, hx⟩
    · rw [List.getElem?_append_right hk] at hx
      have : k - vs.length = 0 := by
        rcases Nat.eq_zero_or_pos (k - vs.length) with h0 | h0
        · exact h0
        · rw [List.getElem?_eq_none (by simp; omega)] at hx; cases hx
      rw [this] at hx
      exact .inr ⟨by omega, by simpa using hx.symm⟩
  have old : ∀ (k : Nat) x b, vs[k]? = some x → x.ownBlock = some b → b < w.heap.size := fun k x b hx hxb => by
    have hk : k < l.length := by
      have := (List.getElem?_eq_some_iff.1 hx).1
      rw [h.len] at this; exact this
    exact ((h.row k x _ hx (List.getElem?_eq_getElem hk)).lt b hxb).2
  refine ⟨by simpa using hv, by simp [h.len], fun k x y hx hy => ?_, fun k k' x x' b hx hx' hxb hxb' => ?_, fun k x b hx hxb => ?_⟩
  · rcases split k x hx with ⟨hk, hx⟩ | ⟨hk, rfl⟩
    · rw [List.getElem?_append_left (by rw [← h.len]; exact hk)] at hy
      refine (owns_below (h.row k x y hx hy) hb).kept hg ?_
      cases hxb : x.ownBlock with
      | none => exact .inl rfl
      | some b => exact .inr (fun e => h.out k x b hx hxb e.symm)
    · subst hk
      rw [h.len, List.getElem?_append_right (Nat.le_refl _)] at hy
      simp at hy
      subst hy
      have := hu.kept hg (by
        cases hxb : x.ownBlock with
        | none => exact .inl rfl
        | some b =>
          refine .inr fun e => ?_
          have h1 := (hu.lt b hxb).1
          have h2 := (h.outer.lt b e.symm).2
          omega)
      refine ⟨this.1, ?_⟩
      rcases this.2 with hn | ⟨g, cap, cur, e1, e2, e3⟩
      · exact .inl hn
      · exact .inr ⟨g, cap, cur, e1, by omega, e3⟩
  · rcases split k x hx with ⟨hk, hx1⟩ | ⟨hk, e1⟩ <;> rcases split k' x' hx' with ⟨hk', hx2⟩ | ⟨hk', e2⟩
    · exact h.apart k k' x x' b hx1 hx2 hxb hxb'
    · have h1 := old k x b hx1 hxb
      have h2 := (hu.lt b (e2 ▸ hxb')).1
      omega
    · have h1 := old k' x' b hx2 hxb'
      have h2 := (hu.lt b (e1 ▸ hxb)).1
      omega
    · omega
  · rcases split k x hx with ⟨hk, hx⟩ | ⟨hk, rfl⟩
    · rcases hat with e | ⟨q, e, hq⟩
      · rw [e]; exact h.out k x b hx hxb
      · rw [e]
        intro e2
        injection e2 with e2
        have h1 := old k x b hx hxb
        have := hb.size
        omega
    · have h1 := hu.lt b hxb
      rcases hat with e | ⟨q, e, hq⟩
      · rw [e]
        intro e2
        have := (h.outer.lt b e2).2
        omega
      · rw [e]
        intro e2
        injection e2 with e2
        omega
theorem slice_info : (Tryd.prog.info? 46).map (fun i => (i.zero, i.size, i.bytes)) = some (some (.slice none 0 0), 1, 24) := by kernel_rfl

set_option maxRecDepth 4000 in
set_option maxHeartbeats 1600000 in
theorem arrays_any (l : List (List Int)) (v : Value) (w : World) (h : RLists w w.heap.size v l) (hl : l.length ≤ 1073741824) (hls : ∀ a ∈ l, a.length ≤ 1073741824) :
    Calls Tryd.prog 41 #[v] w fun e w' => ∃ v' vs, e = .returned v' ∧ Arrs w' w.heap.size v' l vs ∧ Below w.heap.size w w' := by
  obtain ⟨vs, hlen, hsl, hel⟩ := h
  obtain ⟨i0, hi0, hz0, hz1, hz2⟩ := info_parts slice_info
  have II := Lib.hid (⟨hi0, hz0, hz1, hz2⟩ : _ ∧ _ ∧ _ ∧ _)
  have HL := Lib.hid hlen
  have HE := Lib.hid hel
  have HS := Lib.hid hsl
  have HM := Lib.hid hls
  obtain ⟨A, c, rfl, hc1, hc2⟩ := SL.form hsl
  unfold maxLen at hc2
  clear hi0 hz0 hz1 hz2 hlen hel hsl hls
  go_enter Tryd.func41, Tryd.ntmps41
  go_wp2_with fail
  go_loopw [3, 8] (fun o u wr => ∃ j : Nat, j ≤ l.length ∧ u = .int .i64 j ∧ Hid (∃ us, Arrs wr w.heap.size o (l.take j) us) ∧ Below w.heap.size w wr) (fun _ u _ => l.length - (intOf u).toNat)
  case atStart => exact ⟨0, by omega, rfl, ⟨[], Arrs.nil_ _ _⟩, by (repeat' first | with_reducible (first | exact Below.refl _ _ | assumption | refine Below.alloc ?_ ?_ _ | refine below_drewN ?_ _ | refine Below.drew ?_ | refine Below.setCell ?_ ?_ _ | refine Below.trans ?_ (Below.mono (by with_reducible assumption) ?_)) | go_size)⟩
  case round =>
    obtain ⟨j, hj, rfl, HA, hB⟩ := hrel
    obtain ⟨kd, kg, sd⟩ := bfacts hB
    by_cases hlt : j < l.length
    · have hu : ∃ u, vs[j]? = some u := ⟨vs[j]'(by rw [HL.out]; exact hlt), List.getElem?_eq_getElem _⟩
      obtain ⟨u, hu⟩ := hu
      obtain ⟨b, o, c', hv, hbw, _, _, hcell⟩ := SL.row HS.out (by omega : 0 < l.length)
      injection hv with hA _ hcr
      subst hA hcr
      have hc := hcell j u hu
      have hR := HE.out j u l[j] hu (List.getElem?_eq_getElem hlt)
      have HR := Lib.hid hR
      have ha := HM.out l[j] (List.getElem_mem hlt)
      have HT := Lib.hid (show l.take (j + 1) = l.take j ++ [l[j]] from by rw [List.take_succ_eq_append_getElem hlt])
      clear hu hcell hR
      generalize l[j] = a at *
      go_wp2_with fail
      refine (cloneInts_any a u _ (SL.at_ HR.out (by (repeat' first | with_reducible (first | exact Below.refl _ _ | assumption | refine Below.alloc ?_ ?_ _ | refine below_drewN ?_ _ | refine Below.drew ?_ | refine Below.setCell ?_ ?_ _ | refine Below.trans ?_ (Below.mono (by with_reducible assumption) ?_)) | go_size)) (Nat.le_refl _)) ha).mono ?_
      rintro e w1 ⟨v1, rfl, hR1, hF1, hO1, hb1⟩
      obtain ⟨kc1, kf1, s1⟩ := bfacts hb1
      (try simp only [World.size_alloc, World.size_setCell, World.size_drew, World.heap_drewN, Nat.add_one_le_iff] at s1)
      (try have z1 : w.heap.size < w1.heap.size := by omega)
      have B1 : Hid (Below w.heap.size w w1) := by (show Below _ _ _); (repeat' first | with_reducible (first | exact Below.refl _ _ | assumption | refine Below.alloc ?_ ?_ _ | refine below_drewN ?_ _ | refine Below.drew ?_ | refine Below.setCell ?_ ?_ _ | refine Below.trans ?_ (Below.mono (by with_reducible assumption) ?_)) | go_size)
      obtain ⟨kd1, kg1, _⟩ := bfacts B1.out
      obtain ⟨us, hus⟩ := HA.out
      obtain ⟨A1, c1, hv1, _, _⟩ := SL.form hR1
      subst hv1
      have HO := Lib.hid hO1
      have HU := Lib.hid hus
      have hul : us.length ≤ 1073741824 := by rw [hus.len, List.length_take]; omega
      have hB1 : Below wr.heap.size wr w1 := by (repeat' first | with_reducible (first | exact Below.refl _ _ | assumption | refine Below.alloc ?_ ?_ _ | refine below_drewN ?_ _ | refine Below.drew ?_ | refine Below.setCell ?_ ?_ _ | refine Below.trans ?_ (Below.mono (by with_reducible assumption) ?_)) | go_size)
      clear hR1 hF1 hO1 hus
      go_wp2_with (at_builtin; refine wpList_append_own_at _ rfl (.tmp 12) (.tmp 15) _ rfl w.heap.size 46 i0 (.slice none 0 0) 1 24 Tryd.underlying47 II.out.1 II.out.2.1 II.out.2.2.1 II.out.2.2.2 rfl (by decide) _ _ _ rfl ((owns_below HU.out.outer hB1).alloc _) ⟨w1.heap.size, 0, none⟩ 1 1 [.slice A1 a.length c1] rfl rfl (cell_one_new _ _ _) (fun x hx => by simp at hx; subst hx; rfl) (by unfold maxLen; omega) (by omega) (by simp; omega) ?_; intro v2 w2 hown2 hg2 hn2 hat2)
      have hP := HU.out.push hB.size (hB1.alloc hB1.size (.cells #[.slice A1 a.length c1] 46)) (HO.out.alloc _) hg2 hown2 (hat2.imp id fun e => ⟨_, e, by simp⟩)
      rw [← HT.out] at hP
      have hB2 := ((hB.trans (hB1.mono hB.size)).alloc (by omega) (.cells #[.slice A1 a.length c1] 46)).grown hg2 (by simp; omega) (fun q hq => (HU.out.outer.lt q hq).1)
      go_roundw
      case rel => exact ⟨j + 1, by omega, by go_num, ⟨_, hP⟩, hB2⟩
      case measure => simp [intOf]; omega
    · have hje : j = l.length := by omega
      subst hje
      go_wp2_with fail
      go_ret
      obtain ⟨us, hus⟩ := HA.out
      rw [List.take_length] at hus
      exact ⟨_, us, rfl, hus, hB⟩
end Go.Proofs.YtpbflgemhcaooaaDoor
/- Arrays in memory: one of them; how a run ended. -/
namespace Go.Proofs.YtpbflgemhcaooaaDoor
open Go.RowKit
set_option linter.unusedSimpArgs false
set_option linter.unusedVariables false
section
variable {w w' : World} {vs : List Value}
theorem map_set_int (l : List Int) (j : Nat) (x : Int) : (l.set j x).map (Value.int .i64) = (l.map (Value.int .i64)).set j (.int .i64 x) := by
  rw [List.map_set]
/-- an array of the state: its slice in the outer row, and its cells -/
theorem Arrs.at_ {lo : Nat} {v : Value} {l : List (List Int)} (h : Arrs w lo v l vs) {k : Nat} {a : List Int} (hk : l[k]? = some a) :
    ∃ bo co A ca, v = .slice (some ⟨bo, 0, none⟩) l.length co ∧ lo ≤ bo ∧ bo < w.heap.size ∧ k < l.length ∧ l.length ≤ co ∧ co ≤ maxLen ∧ w.cell? ⟨bo, k, none⟩ = some (.slice A a.length ca) ∧ vs[k]? = some (.slice A a.length ca) ∧
      a.length ≤ ca ∧ ca ≤ maxLen ∧ (0 < a.length → ∃ g, A = some ⟨g, 0, none⟩ ∧ lo ≤ g ∧ g < w.heap.size ∧ (∀ j, w.frozen? ⟨g, j, none⟩ = false) ∧ ∀ (j : Nat) x, a[j]? = some x → w.cell? ⟨g, j, none⟩ = some (.int .i64 x)) := by
  have hkl : k < l.length := (List.getElem?_eq_some_iff.1 hk).1
  have hkv : k < vs.length := by rw [h.len]; exact hkl
  obtain ⟨u, hu⟩ : ∃ u, vs[k]? = some u := ⟨vs[k], List.getElem?_eq_getElem hkv⟩
  have hr := h.row k u a hu hk
  rcases h.outer.2 with ⟨_, e⟩ | ⟨bo, co, cur, rfl, hb, hg, hnc, hcm, _, _⟩
  · rw [e] at hkv; simp at hkv
  · have hbl : bo < w.heap.size := (Array.getElem?_eq_some_iff.1 hg).1
    have hcell := h.outer.cellAt k (by omega)
    rw [hu] at hcell
    have hlen := h.len
    rw [hlen] at hnc ⊢
    rcases hr.2 with ⟨rfl, e⟩ | ⟨g, ca, cur', rfl, hgb, hgg, hnc', hcm', _, _⟩
    · have h0 : a.length = 0 := by first | exact e | (simpa using congrArg List.length e)
      rw [h0]
      exact ⟨bo, co, none, 0, rfl, hb, hbl, hkl, hnc, hcm, hcell, hu, Nat.le_refl _, by simp [maxLen], fun h => absurd h (by omega)⟩
    · exact ⟨bo, co, _, ca, rfl, hb, hbl, hkl, hnc, hcm, hcell, hu, hnc', hcm', fun _ => ⟨g, rfl, hgb, (Array.getElem?_eq_some_iff.1 hgg).1, fun j => hr.frozenAt j, fun j x hx => by
        have hj := (List.getElem?_eq_some_iff.1 hx).1
        rw [hr.cellAt j (by omega), List.getElem?_map, hx]
        rfl⟩⟩
end
theorem own_full {w : World} {base : Nat} {e : TypeId} {n g : Nat} {xs : List Value} (h : w.ownsRow base e 1 (.slice (some ⟨g, 0, none⟩) n n) n xs) : w.heap[g]? = some (.cells xs.toArray e (0, 0)) ∧ base ≤ g := by
  rcases h.2 with ⟨h', _⟩ | ⟨g', cap, cur, h', hb, hg, _, _, hcs, htake⟩
  · simp at h'
  · simp only [Value.slice.injEq, Option.some.injEq, Addr.mk.injEq, and_true, true_and] at h'
    obtain ⟨rfl, rfl⟩ := h'
    refine ⟨?_, hb⟩
    rw [List.take_of_length_le (by simp [hcs])] at htake
    rw [← htake]
    simpa using hg
theorem own_of_full {w : World} {base : Nat} {e : TypeId} {n g : Nat} {xs : List Value} (h : w.heap[g]? = some (.cells xs.toArray e (0, 0))) (hl : xs.length = n) (hb : base ≤ g) (hm : n ≤ maxLen) : w.ownsRow base e 1 (.slice (some ⟨g, 0, none⟩) n n) n xs :=
  ⟨by simpa using hl, .inr ⟨g, n, xs.toArray, rfl, hb, h, Nat.le_refl _, hm, by simpa using hl, by simp [← hl]⟩⟩
theorem own_less {w : World} {base base' : Nat} {e : TypeId} {size n : Nat} {v : Value} {xs : List Value} (h : w.ownsRow base e size v n xs) (hl : base' ≤ base) : w.ownsRow base' e size v n xs := by
  refine ⟨h.1, ?_⟩
  rcases h.2 with hn | ⟨g, cap, cur, e1, e2, e3⟩
  · exact .inl hn
  · exact .inr ⟨g, cap, cur, e1, by omega, e3⟩
theorem Arrs.less {w : World} {lo lo' : Nat} {v : Value} {l : List (List Int)} {vs : List Value} (h : Arrs w lo v l vs) (hl : lo' ≤ lo) : Arrs w lo' v l vs :=
  ⟨own_less h.outer hl, h.len, fun k u a hu ha => own_less (h.row k u a hu ha) hl, h.apart, h.out⟩
theorem Arrs.his {w : World} {lo : Nat} {v : Value} {l : List (List Int)} {vs : List Value} (h : Arrs w lo v l vs) : ∀ (k : Nat) u b, vs[k]? = some u → u.ownBlock = some b → b < w.heap.size := fun k u b hu hb => by
  have hk : k < l.length := by
    have := (List.getElem?_eq_some_iff.1 hu).1
    rw [h.len] at this; exact this
  exact ((h.row k u _ hu (List.getElem?_eq_getElem hk)).lt b hb).2
/-- how it ended, as it reads -/
def REnded (w : World) (v : Value) (e : Ev.Ended) : Prop := ∃ va, v = .agg #[.int .i64 e.word, .bool e.trap, va] ∧ RLists w w.heap.size va e.arrays
theorem Arrs.reads {w : World} {lo : Nat} {v : Value} {l : List (List Int)} {vs : List Value} (h : Arrs w lo v l vs) : RLists w w.heap.size v l := by
  refine ⟨vs, h.len, ?_, fun k u a hu ha => ?_⟩
  · have := SL.of_own h.outer
    rw [h.len] at this
    exact this
  · have := SL.of_own (h.row k u a hu ha)
    exact this
theorem REnded.stays {w w' : World} {v : Value} {e : Ev.Ended} (h : REnded w v e) (hb : Below w.heap.size w w') : REnded w' v e := by
  obtain ⟨va, h1, h2⟩ := h
  exact ⟨va, h1, h2.at_ hb (Nat.le_refl _)⟩
end Go.Proofs.YtpbflgemhcaooaaDoor
/- eval: the slots of names, the teller in memory. -/
namespace Ev
def hasN : Nms → List UInt8 → Prop
  | [], _ => False
  | (m, _) :: r, n => m = n ∨ hasN r n
/-- a name's slot -/
def slotB : List Nat → Nms → List UInt8 → Nat
  | b :: bs, (m, _) :: r, n => if m = n then b else slotB bs r n
  | _, _, _ => 0
theorem setN_len : ∀ (l : Nms) (n : List UInt8) (x : Int), (setN l n x).length = l.length
  | [], _, _ => rfl
  | (m, v) :: r, n, x => by
    unfold setN
    split
    · rfl
    · simp [setN_len r n x]
end Ev
namespace Go.Proofs.YtpbflgemhcaooaaDoor
open Go.RowKit
set_option linter.unusedSimpArgs false
set_option linter.unusedVariables false
/-- all that was there is as it was, but for the blocks of S -/
structure SFr (S : Nat → Prop) (w w' : World) : Prop where
  os : w'.os = w.os
  tape : w'.tape = w.tape
  output : w'.output = w.output
  size : w.heap.size ≤ w'.heap.size
  block : ∀ k, k < w.heap.size → ¬ S k → w'.heap[k]? = w.heap[k]?
theorem SFr.refl (S : Nat → Prop) (w : World) : SFr S w w := ⟨rfl, rfl, rfl, Nat.le_refl _, fun _ _ _ => rfl⟩
theorem SFr.of {S : Nat → Prop} {w u : World} (h : Below w.heap.size w u) : SFr S w u := ⟨h.os, h.tape, h.output, h.size, fun k hk _ => h.block k hk⟩
theorem SFr.trans {S S' : Nat → Prop} {w u v : World} (h : SFr S w u) (k : SFr S' u v) (hs : ∀ i, i < w.heap.size → S' i → S i) : SFr S w v :=
  ⟨k.os.trans h.os, k.tape.trans h.tape, k.output.trans h.output, Nat.le_trans h.size k.size, fun i hi hb => (k.block i (Nat.lt_of_lt_of_le hi h.size) (fun e => hb (hs i hi e))).trans (h.block i hi hb)⟩
theorem SFr.on {S : Nat → Prop} {w u v : World} (h : SFr S w u) (k : Below u.heap.size u v) : SFr S w v := h.trans (S' := S) (.of k) (fun _ _ e => e)
theorem SFr.put {S : Nat → Prop} (w : World) (b j : Nat) (v : Value) (hb : S b) : SFr S w (w.setCell ⟨b, j, none⟩ v) :=
  ⟨rfl, rfl, rfl, by simp, fun k _ hk => Below.heap_setCell w ⟨b, j, none⟩ v k (fun e => hk (e ▸ hb))⟩
theorem SFr.below {S : Nat → Prop} {B : Nat} {w u : World} (h : SFr S w u) (hB : ∀ k, k < B → ¬ S k) (hw : B ≤ w.heap.size) : Below B w u :=
  ⟨h.os, h.tape, h.output, h.size, fun k hk => h.block k (by omega) (hB k hk)⟩
theorem RExL.sfr {S : Nat → Prop} {d : Nat} {w w' : World} {K : Nat → Prop} {v : Value} {l : List Ev.Ex} (h : RExL d w K v l) (hF : SFr S w w') (hK : ∀ k, K k → ¬ S k) : RExL d w' K v l := RExL.keep hF.size (fun k hk hkl => hF.block k hkl (hK k hk)) d v l h
theorem RStL.sfr {S : Nat → Prop} {d : Nat} {w w' : World} {K : Nat → Prop} {v : Value} {l : List Ev.St1} (h : RStL d w K v l) (hF : SFr S w w') (hK : ∀ k, K k → ¬ S k) : RStL d w' K v l := RStL.keep hF.size (fun k hk hkl => hF.block k hkl (hK k hk)) d v l h
/-! ### slots -/
def headP : List Nat → Value
  | [] => .pointer none
  | b :: _ => .pointer (some ⟨b, 0, none⟩)
/-- names in slots, one behind the other -/
def Chain (w : World) : List Nat → Ev.Nms → Prop
  | [], l => l = []
  | b :: bs, l => ∃ n v r, l = (n, v) :: r ∧ w.heap[b]? = some (.cells #[.string ⟨n.toArray⟩, .int .i64 v, headP bs] 157 (0, 0)) ∧ b ∉ bs ∧ Chain w bs r
theorem Chain.same {w w' : World} : ∀ {bs : List Nat} {l : Ev.Nms}, Chain w bs l → (∀ b ∈ bs, w'.heap[b]? = w.heap[b]?) → Chain w' bs l
  | [], l, h, _ => h
  | b :: bs, l, ⟨n, v, r, h1, h2, h3, h4⟩, hs => ⟨n, v, r, h1, (hs b (by simp)).trans h2, h3, h4.same (fun c hc => hs c (by simp [hc]))⟩
theorem Chain.lt {w : World} : ∀ {bs : List Nat} {l : Ev.Nms}, Chain w bs l → ∀ b ∈ bs, b < w.heap.size
  | [], _, _, b, hb => by cases hb
  | c :: bs, l, ⟨n, v, r, h1, h2, h3, h4⟩, b, hb => by
    rcases List.mem_cons.1 hb with rfl | hb
    · exact (Array.getElem?_eq_some_iff.1 h2).1
    · exact h4.lt b hb
theorem Chain.on {w w' : World} {bs : List Nat} {l : Ev.Nms} (h : Chain w bs l) (hb : Below w.heap.size w w') : Chain w' bs l := h.same (fun b hm => hb.block b (h.lt b hm))
theorem Chain.len {w : World} : ∀ {bs : List Nat} {l : Ev.Nms}, Chain w bs l → l.length = bs.length
  | [], l, h => by rw [show l = [] from h]; rfl
  | b :: bs, l, ⟨n, v, r, h1, h2, h3, h4⟩ => by rw [h1]; simp [h4.len]
theorem Chain.drop {w : World} : ∀ {cs bs : List Nat} {l : Ev.Nms}, Chain w (cs ++ bs) l → Chain w bs (l.drop cs.length)
  | [], bs, l, h => h
  | c :: cs, bs, l, ⟨n, v, r, h1, h2, h3, h4⟩ => by rw [h1]; exact h4.drop
/-- the chain below: as many names as before -/
theorem Chain.back {w : World} {cs bs : List Nat} {l : Ev.Nms} {n : Nat} (h : Chain w (cs ++ bs) l) (hn : n = bs.length) : Chain w bs (l.drop (l.length - n)) := by
  have h1 := h.len
  rw [List.length_append] at h1
  rw [show l.length - n = cs.length by omega]
  exact h.drop
theorem slotB_mem {w : World} : ∀ {bs : List Nat} {l : Ev.Nms} {n : List UInt8}, Chain w bs l → Ev.hasN l n → Ev.slotB bs l n ∈ bs
  | [], l, n, h, hn => by rw [show l = [] from h] at hn; exact hn.elim
  | b :: bs, l, n, ⟨m, v, r, h1, h2, h3, h4⟩, hn => by
    subst h1
    unfold Ev.slotB
    split
    · simp
    · rename_i hx
      exact List.mem_cons_of_mem _ (slotB_mem h4 (hn.resolve_left hx))
/-- what stands in a name's slot -/
theorem Chain.at_ {w : World} : ∀ {bs : List Nat} {l : Ev.Nms} {n : List UInt8}, Chain w bs l → Ev.hasN l n → ∃ up, w.heap[Ev.slotB bs l n]? = some (.cells #[.string ⟨n.toArray⟩, .int .i64 (Ev.getN l n), up] 157 (0, 0))
  | [], l, n, h, hn => by rw [show l = [] from h] at hn; exact hn.elim
  | b :: bs, l, n, ⟨m, v, r, h1, h2, h3, h4⟩, hn => by
    subst h1
    unfold Ev.slotB Ev.getN
    by_cases hx : m = n
    · rw [if_pos hx, if_pos hx]
      subst hx
      exact ⟨_, h2⟩
    · rw [if_neg hx, if_neg hx]
      exact h4.at_ (hn.resolve_left hx)
/-- a name is set -/
theorem Chain.put {w : World} : ∀ {bs : List Nat} {l : Ev.Nms} {n : List UInt8} (x : Int), Chain w bs l → Ev.hasN l n → Chain (w.setCell ⟨Ev.slotB bs l n, 1, none⟩ (.int .i64 x)) bs (Ev.setN l n x)
  | [], l, n, x, h, hn => by rw [show l = [] from h] at hn; exact hn.elim
  | b :: bs, l, n, x, ⟨m, v, r, h1, h2, h3, h4⟩, hn => by
    subst h1
    unfold Ev.slotB Ev.setN
    by_cases hx : m = n
    · rw [if_pos hx, if_pos hx]
      exact ⟨m, x, r, rfl, heap_setCell_same w b 1 _ _ _ h2, h3, h4.same (fun c hc => Below.heap_setCell w ⟨b, 1, none⟩ _ c (fun e => h3 (by rw [← show c = b from e]; exact hc)))⟩
    · rw [if_neg hx, if_neg hx]
      have hm := slotB_mem h4 (hn.resolve_left hx)
      exact ⟨m, v, _, rfl, (Below.heap_setCell w ⟨_, 1, none⟩ _ b (fun e => h3 (by rw [show b = Ev.slotB bs r n from e]; exact hm))).trans h2, h3, h4.put x (hn.resolve_left hx)⟩
set_option maxHeartbeats 1600000 in
/-- (*slot).find -/
theorem evFind (l : Ev.Nms) (bs : List Nat) (nm : List UInt8) (w : World) (h : Chain w bs l) (hn : Ev.hasN l nm) :
    Calls Tryd.prog 121 #[headP bs, .string ⟨(nm).toArray⟩] w fun r w' => r = .returned (.pointer (some ⟨Ev.slotB bs l nm, 0, none⟩)) ∧ w' = w := by
  obtain ⟨R, hR⟩ : ∃ R, Ev.slotB bs l nm = R := ⟨_, rfl⟩
  rw [hR]
  have HS := Lib.hid h
  have HN := Lib.hid hn
  have HR := Lib.hid hR
  clear h hn hR
  go_enter Tryd.func121, Tryd.ntmps121
  go_upto_region 1 with fail
  go_loopg [0] l.length (fun gg s0 wr => wr = w ∧ ∃ (cs : List Nat) (r : Ev.Nms), r.length ≤ gg ∧ s0 = headP cs ∧ Hid (Chain w cs r) ∧ Hid (Ev.hasN r nm) ∧ Hid (Ev.slotB cs r nm = R))
  case atStart => exact ⟨rfl, bs, l, Nat.le_refl _, rfl, HS, HN, HR⟩
  case round =>
  obtain ⟨rfl, cs, r, hg, rfl, HC, HM, HQ⟩ := hrel
  match cs, HC, HQ with
  | [], HC, HQ => rw [show r = [] from HC.out] at HM; exact HM.out.elim
  | b :: cs, HC, HQ =>
  obtain ⟨m, v, r', h1, h2, h3, h4⟩ := HC.out
  subst h1
  have c0 : wr.cell? ⟨b, 0, none⟩ = some (.string ⟨m.toArray⟩) := cell_of_block h2 0
  have c2 : wr.cell? ⟨b, 2, none⟩ = some (headP cs) := cell_of_block h2 2
  have H4 := Lib.hid h4
  clear h2 h3 h4 HC
  unfold headP
  by_cases hm : m = nm
  case pos =>
    have HX := Lib.hid (show b = R by have h := HQ.out; unfold Ev.slotB at h; rw [if_pos hm] at h; exact h)
    subst hm
    go_wp2_with fail
    go_ret
    exact ⟨by rw [HX.out]; rfl, rfl⟩
  case neg =>
    have gm : (m == nm) = false := beq_eq_false_iff_ne.2 hm
    have HX := Lib.hid (show Ev.slotB cs r' nm = R by have h := HQ.out; unfold Ev.slotB at h; rw [if_neg hm] at h; exact h)
    have HY := Lib.hid (show Ev.hasN r' nm from HM.out.resolve_left hm)
    clear hm HQ HM
    simp only [List.length_cons] at hg
    go_wp2_with fail
    go_roundg (r'.length)
    case measure => omega
    case rel => exact ⟨rfl, cs, r', Nat.le_refl _, rfl, H4, HY, HX⟩
end Go.Proofs.YtpbflgemhcaooaaDoor
