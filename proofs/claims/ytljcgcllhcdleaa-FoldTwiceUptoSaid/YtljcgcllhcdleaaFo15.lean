import Derived.Test.YtljcgcllhcdleaaFo14
import Derived.Test.YtljcgcllhcdleaaFo3
import Derived.Deep.QuietTactic
import Derived.BigQuiet
import Derived.Test.YtljcgcllhcdleaaFo13
/- fold's known: what an instruction makes, if all that it reads is known. -/
namespace Ev
theorem readAll_snoc (w : Now) (p : Int) : ∀ l : List Int, readAll w (l ++ [p]) = match readAll w l, w p with | some vs, some x => some (vs ++ [x]) | _, _ => none
  | [] => by
    unfold readAll
    simp only [List.nil_append]
    unfold readAll
    cases w p <;> rfl
  | q :: r => by
    rw [List.cons_append]
    unfold readAll
    cases hq : w q with
    | none => rfl
    | some y =>
      dsimp only
      rw [readAll_snoc w p r]
      cases readAll w r with
      | none => rfl
      | some vs =>
        cases w p <;> rfl
theorem readAll_none {w : Now} {p : Int} : ∀ {l : List Int}, p ∈ l → w p = none → readAll w l = none
  | [], h, _ => by cases h
  | q :: r, h, hp => by
    unfold readAll
    rcases List.mem_cons.1 h with rfl | h
    · rw [hp]
    · cases hq : w q with
      | none => rfl
      | some y => dsimp only; rw [readAll_none h hp]; rfl
theorem readAll_len {w : Now} : ∀ {l vs : List Int}, readAll w l = some vs → vs.length = l.length
  | [], vs, h => by unfold readAll at h; injection h with h; rw [← h]
  | q :: r, vs, h => by
    obtain ⟨x, l', _, h2, rfl⟩ := readAll_cons h
    rw [List.length_cons, List.length_cons, readAll_len h2]
theorem known_none {i : Instr} {w : Now} {p : Int} (h : p ∈ reads i) (hp : w p = none) : known i w = none := by unfold known; rw [readAll_none h hp]
theorem known_all {i : Instr} {w : Now} {vs : List Int} (h : readAll w (reads i) = some vs) : known i w = knownOf i vs := by unfold known; rw [h]
end Ev
namespace Go.Proofs.Ytljcgcllhcdleaa
open Go.RowKit
set_option linter.unusedSimpArgs false
set_option linter.unusedVariables false
/-- known numbers, as a map[int]int -/
def intF (now : Ev.Now) : MapF := fun p => (now p).map (Value.int .i64)
theorem intF_put (now : Ev.Now) (p : Int) (x : Int) : mapPut (intF now) p (some (.int .i64 x)) = intF (Ev.nowPut now p (some x)) := by
  funext q
  unfold mapPut intF Ev.nowPut
  by_cases h : q = p <;> simp [h]
theorem intF_drop (now : Ev.Now) (p : Int) : mapPut (intF now) p none = intF (Ev.nowPut now p none) := by
  funext q
  unfold mapPut intF Ev.nowPut
  by_cases h : q = p <;> simp [h]
theorem intF_none : (fun _ => none : MapF) = intF Ev.noNow := rfl
theorem int_same {w : World} {b : Nat} {s s' : Ev.Now} (h : MapIn w b (intF s)) (he : s = s') : MapIn w b (intF s') := he ▸ h
theorem now_lookup {w : World} {b : Nat} {now : Ev.Now} (h : MapIn w b (intF now)) {p : Int} (hp : InW64 p) : (Go.Instr.lookup 109 (.map (some b)) (.int .i64 p) true).run Try.prog w = .ok (.tuple #[.int .i64 ((now p).getD 0), .bool (now p).isSome]) w := by
  rw [h.lookup Try.underlying109 (zero_int w) hp true]
  unfold intF
  cases now p <;> rfl
theorem ints_cells {w : World} {B n c : Nat} {A : Option Addr} {l : List Int} (h : SL w B 1 (.slice A n c) n (l.map (Value.int .i64))) (hl : 0 < l.length) : ∃ b o, A = some ⟨b, o, none⟩ ∧ n = l.length ∧ n ≤ c ∧ ∀ (j : Nat) x, l[j]? = some x → w.cell? ⟨b, o + j, none⟩ = some (.int .i64 x) := by
  obtain ⟨h1, A', c', he, h3, h4, h5, h6⟩ := h
  injection he with e1 _ e3
  subst e1 e3
  simp at h1
  obtain ⟨b, o, rfl, _, hc⟩ := h6 (by omega)
  exact ⟨b, o, rfl, h1.symm, h3, fun j x hx => hc j _ (by simp [hx])⟩
set_option maxRecDepth 30000 in
set_option maxHeartbeats 6400000 in
theorem known_any (i : Ev.Instr) (now : Ev.Now) (b : Nat) (w : World) (hm : MapIn w b (intF now)) (hop : 1 ≤ i.op ∧ i.op ≤ 16) (h64 : ∀ p ∈ Ev.reads i, InW64 p) :
    Calls Try.prog 62 #[.agg #[.int .i64 i.op, .int .i64 i.d, .int .i64 i.a, .int .i64 i.b, .int .i64 i.c, .int .i64 i.imm], .map (some b)] w fun e w' => e = .returned (.tuple #[.int .i64 ((Ev.known i now).getD 0), .bool (Ev.known i now).isSome]) ∧ Below w.heap.size w w' := by
  obtain ⟨i0, hi0, hz0, hz1, hz2⟩ := info_parts cloneInts_info
  have II := Lib.hid (⟨hi0, hz0, hz1, hz2⟩ : _ ∧ _ ∧ _ ∧ _)
  have HM := Lib.hid hm
  have H64 := Lib.hid h64
  have HOP := Lib.hid hop
  have zm := hm.lt
  have hL : (Ev.reads i).length ≤ 3 := by
    unfold Ev.reads
    repeat' split
    all_goals simp
  clear hi0 hz0 hz1 hz2 hm h64 hop
  go_enter Try.func62, Try.ntmps62
  go_upto_region 3 with (go_at_call 35; refine (reads_any i _).mono ?_; rintro e w1 ⟨v1, rfl, hR, hb1⟩; obtain ⟨A1, c1, rfl, hc1, hc2⟩ := SL.form hR; have s1 := hb1.size; simp only [World.size_alloc] at s1)
  unfold maxLen at hc2
  have HBX : Hid (w1.heap[w.heap.size]? = some (.cells #[.int .i64 i.op, .int .i64 i.d, .int .i64 i.a, .int .i64 i.b, .int .i64 i.c, .int .i64 i.imm] 39 (0, 0))) := box_on (box_new w _) hb1
  have HR := Lib.hid hR
  have b1 : Below w.heap.size w w1 := by (repeat' first | with_reducible (first | exact Below.refl _ _ | assumption | refine Below.alloc ?_ ?_ _ | refine below_drewN ?_ _ | refine Below.drew ?_ | refine Below.setCell ?_ ?_ _ | refine Below.trans ?_ (Below.mono (by with_reducible assumption) ?_)) | go_size)
  replace HM : Hid (MapIn w1 b (intF now)) := Lib.hid (HM.out.on b1)
  clear hR hb1
  go_loopw [16, 6] (fun kk vv wr => ∃ k : Nat, k ≤ (Ev.reads i).length ∧ kk = .int .i64 (k : Int) ∧ ∃ vs : List Int, Hid (Ev.readAll now ((Ev.reads i).take k) = some vs) ∧ Hid (wr.ownsRow w1.heap.size 3 1 vv k (vs.map (Value.int .i64))) ∧ Below w1.heap.size w1 wr) (fun kk _ _ => (Ev.reads i).length - (intOf kk).toNat)
  case atStart => exact ⟨0, by omega, rfl, [], Lib.hid rfl, Lib.hid (World.ownsRow_nil _ _ _ _), by (repeat' first | with_reducible (first | exact Below.refl _ _ | assumption | refine Below.alloc ?_ ?_ _ | refine below_drewN ?_ _ | refine Below.drew ?_ | refine Below.setCell ?_ ?_ _ | refine Below.trans ?_ (Below.mono (by with_reducible assumption) ?_)) | go_size)⟩
  case round =>
    obtain ⟨k, hk, rfl, vs, HV, HO, hB⟩ := hrel
    have sB := hB.size
    obtain ⟨A6, c6, rfl, hd1, hd2⟩ := SL.form (SL.of_own HO.out)
    unfold maxLen at hd2
    by_cases hlt : k < (Ev.reads i).length
    · as_aux_lemma =>
      obtain ⟨p, hp⟩ : ∃ p, (Ev.reads i)[k]? = some p := ⟨(Ev.reads i)[k], List.getElem?_eq_getElem hlt⟩
      obtain ⟨b2, o2, r2, hv, hb2, _, _, _, p0⟩ := RInts.at_ (SL.at_ HR.out hB (Nat.le_refl _)) hp
      injection hv with hA _ hcr
      subst hA hcr
      have HP := Lib.hid hp
      have p64 := Lib.hid (H64.out p (List.mem_of_getElem? hp))
      have hlk := now_lookup (HM.out.on hB) p64.out
      have htk : (Ev.reads i).take (k + 1) = (Ev.reads i).take k ++ [p] := by rw [List.take_add_one, hp]; rfl
      have HTK := Lib.hid htk
      clear hp htk
      cases hn : now p with
      | none =>
        rw [hn] at hlk
        have hlk2 : (Go.Instr.lookup 109 (.map (some b)) (.int .i64 p) true).run Try.prog wr = .ok (.tuple #[.int .i64 0, .bool false]) wr := hlk
        have HKN := Lib.hid (Ev.known_none (List.mem_of_getElem? HP.out) hn)
        clear hlk hn
        go_wp2_with (at_lookup; refine wpList_lookup_at rfl _ _ 109 true rfl rfl rfl hlk2 ?_)
        go_ret2
        exact ⟨by rw [HKN.out]; rfl, by (repeat' first | with_reducible (first | exact Below.refl _ _ | assumption | refine Below.alloc ?_ ?_ _ | refine below_drewN ?_ _ | refine Below.drew ?_ | refine Below.setCell ?_ ?_ _ | refine Below.trans ?_ (Below.mono (by with_reducible assumption) ?_)) | go_size)⟩
      | some x =>
        rw [hn] at hlk
        have hlk2 : (Go.Instr.lookup 109 (.map (some b)) (.int .i64 p) true).run Try.prog wr = .ok (.tuple #[.int .i64 x, .bool true]) wr := hlk
        have HV2 : Hid (Ev.readAll now ((Ev.reads i).take (k + 1)) = some (vs ++ [x])) := Lib.hid (by rw [HTK.out, Ev.readAll_snoc, HV.out, hn])
        clear hlk hn
        go_wp2_with (first | (at_lookup; refine wpList_lookup_at rfl _ _ 109 true rfl rfl rfl hlk2 ?_) | (at_builtin; refine wpList_append_own_at _ rfl (.tmp 28) (.tmp 30) _ rfl w1.heap.size 3 i0 (.int .i64 0) 1 8 Try.underlying42 II.out.1 II.out.2.1 II.out.2.2.1 II.out.2.2.2 rfl (by decide) _ _ _ rfl (HO.out.alloc _) ⟨wr.heap.size, 0, none⟩ 1 1 [.int .i64 x] rfl rfl (cell_one_new _ _ _) (fun x hx => by simp at hx; subst hx; rfl) (by unfold maxLen; omega) (by omega) (by simp; omega) ?_; intro v5 w5 hown5 hg5 hn5 hat5))
        have HO5 : Hid (w5.ownsRow w1.heap.size 3 1 v5 (k + 1) ((vs ++ [x]).map (Value.int .i64))) := Lib.hid (by simpa using hown5)
        have bA : Below w1.heap.size w1 (wr.alloc (.cells #[.int .i64 x] 3)) := by (repeat' first | with_reducible (first | exact Below.refl _ _ | assumption | refine Below.alloc ?_ ?_ _ | refine below_drewN ?_ _ | refine Below.drew ?_ | refine Below.setCell ?_ ?_ _ | refine Below.trans ?_ (Below.mono (by with_reducible assumption) ?_)) | go_size)
        have b5 : Below w1.heap.size w1 w5 := bA.grown hg5 bA.size (fun q hq => own_ge HO.out hq)
        go_wp2_with fail
        go_roundw
        case rel => exact ⟨k + 1, by omega, by go_num, vs ++ [x], HV2, HO5, b5⟩
        case measure => simp [intOf]; omega
    · obtain rfl : k = (Ev.reads i).length := by omega
      have hv0 : Ev.readAll now (Ev.reads i) = some vs := by have h := HV.out; rw [List.take_length] at h; exact h
      have HK := Lib.hid (Ev.known_all hv0)
      have hvl := Ev.readAll_len hv0
      have HVL := Lib.hid hvl
      have hsl := Lib.hid (SL.of_own HO.out)
      replace HBX := box_on HBX hB
      have n0 : wr.cell? ⟨w.heap.size, 0, none⟩ = some (.int .i64 i.op) := box_cell HBX 0 rfl
      have n5 : wr.cell? ⟨w.heap.size, 5, none⟩ = some (.int .i64 i.imm) := box_cell HBX 5 rfl
      have bR : Below w.heap.size w wr := b1.trans (hB.mono (by omega))
      clear hv0 hvl hB sB HV
      rcases (show i.op ≤ 12 ∨ i.op = 13 ∨ i.op = 14 ∨ i.op = 15 ∨ i.op = 16 by have := HOP.out; omega) with h | h | h | h | h
      · as_aux_lemma =>
        have hr := Ev.reads_two (i := i) (by have := HOP.out; omega)
        obtain ⟨x, y, rfl⟩ : ∃ x y, vs = [x, y] := by
          have hl := HVL.out
          rw [hr] at hl
          match vs, hl with
          | [x, y], _ => exact ⟨x, y, rfl⟩
        obtain ⟨b6, o6, rfl, hn6, hc6, p6⟩ := ints_cells hsl.out (by simp)
        have k0 : wr.cell? ⟨b6, o6, none⟩ = some (.int .i64 x) := p6 0 x rfl
        have k1 : wr.cell? ⟨b6, o6 + 1, none⟩ = some (.int .i64 y) := p6 1 y rfl
        have hn7 : 1 < (Ev.reads i).length := by rw [hr]; simp
        have hi7 : (1 : Int) < ((Ev.reads i).length : Int) := by omega
        have hn8 : 0 < (Ev.reads i).length := by omega
        have HR1 : Hid (Ev.known i now = some (Ev.two i.op x y)) := Lib.hid (by rw [HK.out]; unfold Ev.knownOf; rw [if_pos h]; rfl)
        have g1 : decide (i.op ≤ 12) = true := decide_eq_true h
        clear h hr p6 hn6
        go_wp2_with fail
        go_quiet ((go_at_call 72; exact Calls.quiet_of_same (two_same _ _ _ _)))
        go_wp2_with fail
        go_ret2
        exact ⟨by rw [HR1.out]; rfl, by (repeat' first | with_reducible (first | exact Below.refl _ _ | assumption | refine Below.alloc ?_ ?_ _ | refine below_drewN ?_ _ | refine Below.drew ?_ | refine Below.setCell ?_ ?_ _ | refine Below.trans ?_ (Below.mono (by with_reducible assumption) ?_)) | go_size)⟩
      · as_aux_lemma =>
        have hr := Ev.reads_sel (i := i) h
        obtain ⟨x, y, z, rfl⟩ : ∃ x y z, vs = [x, y, z] := by
          have hl := HVL.out
          rw [hr] at hl
          match vs, hl with
          | [x, y, z], _ => exact ⟨x, y, z, rfl⟩
        obtain ⟨b6, o6, rfl, hn6, hc6, p6⟩ := ints_cells hsl.out (by simp)
        have k0 : wr.cell? ⟨b6, o6, none⟩ = some (.int .i64 x) := p6 0 x rfl
        have k1 : wr.cell? ⟨b6, o6 + 1, none⟩ = some (.int .i64 y) := p6 1 y rfl
        have k2 : wr.cell? ⟨b6, o6 + 2, none⟩ = some (.int .i64 z) := p6 2 z rfl
        have hn6 : 2 < (Ev.reads i).length := by rw [hr]; simp
        have hn7 : 1 < (Ev.reads i).length := by omega
        have hi7 : (1 : Int) < ((Ev.reads i).length : Int) := by omega
        have hi6 : (2 : Int) < ((Ev.reads i).length : Int) := by omega
        have hn8 : 0 < (Ev.reads i).length := by omega
        have HR1 : Hid (Ev.known i now = some (Ev.sel x y z)) := Lib.hid (by rw [HK.out]; unfold Ev.knownOf; rw [if_neg (by omega), if_pos h]; rfl)
        have g1 : decide (i.op ≤ 12) = false := decide_eq_false (by omega)
        have g2 : (i.op == 13) = true := beq_iff_eq.2 h
        clear h hr p6
        go_wp2_with fail
        go_quiet ((go_at_call 73; exact Calls.quiet_of_same (sel_same _ _ _ _)))
        go_wp2_with fail
        go_ret2
        exact ⟨by rw [HR1.out]; rfl, by (repeat' first | with_reducible (first | exact Below.refl _ _ | assumption | refine Below.alloc ?_ ?_ _ | refine below_drewN ?_ _ | refine Below.drew ?_ | refine Below.setCell ?_ ?_ _ | refine Below.trans ?_ (Below.mono (by with_reducible assumption) ?_)) | go_size)⟩
      · as_aux_lemma =>
        have HR1 : Hid (Ev.known i now = some i.imm) := Lib.hid (by rw [HK.out]; unfold Ev.knownOf; rw [if_neg (by omega), if_neg (by omega), if_pos h])
        have g1 : decide (i.op ≤ 12) = false := decide_eq_false (by omega)
        have g2 : (i.op == 13) = false := beq_eq_false_iff_ne.2 (by omega)
        have g3 : (i.op == 14) = true := beq_iff_eq.2 h
        clear h
        go_wp2_with fail
        go_ret2
        exact ⟨by rw [HR1.out]; rfl, by (repeat' first | with_reducible (first | exact Below.refl _ _ | assumption | refine Below.alloc ?_ ?_ _ | refine below_drewN ?_ _ | refine Below.drew ?_ | refine Below.setCell ?_ ?_ _ | refine Below.trans ?_ (Below.mono (by with_reducible assumption) ?_)) | go_size)⟩
      · as_aux_lemma =>
        have hr := Ev.reads_a (i := i) (by omega)
        obtain ⟨x, rfl⟩ : ∃ x, vs = [x] := List.length_eq_one_iff.1 (by rw [HVL.out, hr]; rfl)
        obtain ⟨b6, o6, rfl, hn6, hc6, p6⟩ := ints_cells hsl.out (by simp)
        have k0 : wr.cell? ⟨b6, o6, none⟩ = some (.int .i64 x) := p6 0 x rfl
        have hn8 : 0 < (Ev.reads i).length := by rw [hr]; simp
        have HR1 : Hid (Ev.known i now = some x) := Lib.hid (by rw [HK.out]; unfold Ev.knownOf; rw [if_neg (by omega), if_neg (by omega), if_neg (by omega), if_pos h]; rfl)
        have g1 : decide (i.op ≤ 12) = false := decide_eq_false (by omega)
        have g2 : (i.op == 13) = false := beq_eq_false_iff_ne.2 (by omega)
        have g3 : (i.op == 14) = false := beq_eq_false_iff_ne.2 (by omega)
        have g4 : (i.op == 15) = true := beq_iff_eq.2 h
        clear h hr p6 hn6
        go_wp2_with fail
        go_ret2
        exact ⟨by rw [HR1.out]; rfl, by (repeat' first | with_reducible (first | exact Below.refl _ _ | assumption | refine Below.alloc ?_ ?_ _ | refine below_drewN ?_ _ | refine Below.drew ?_ | refine Below.setCell ?_ ?_ _ | refine Below.trans ?_ (Below.mono (by with_reducible assumption) ?_)) | go_size)⟩
      · as_aux_lemma =>
        have HR1 : Hid (Ev.known i now = none) := Lib.hid (by rw [HK.out]; unfold Ev.knownOf; rw [if_neg (by omega), if_neg (by omega), if_neg (by omega), if_neg (by omega)])
        have g1 : decide (i.op ≤ 12) = false := decide_eq_false (by omega)
        have g2 : (i.op == 13) = false := beq_eq_false_iff_ne.2 (by omega)
        have g3 : (i.op == 14) = false := beq_eq_false_iff_ne.2 (by omega)
        have g4 : (i.op == 15) = false := beq_eq_false_iff_ne.2 (by omega)
        clear h
        go_wp2_with fail
        go_ret2
        exact ⟨by rw [HR1.out]; rfl, by (repeat' first | with_reducible (first | exact Below.refl _ _ | assumption | refine Below.alloc ?_ ?_ _ | refine below_drewN ?_ _ | refine Below.drew ?_ | refine Below.setCell ?_ ?_ _ | refine Below.trans ?_ (Below.mono (by with_reducible assumption) ?_)) | go_size)⟩
end Go.Proofs.Ytljcgcllhcdleaa
/- flow.Own makes rows of its own: the secrets may be set. -/
namespace Go.Proofs.Ytljcgcllhcdleaa
open Go.RowKit
set_option linter.unusedSimpArgs false
set_option linter.unusedVariables false
set_option maxHeartbeats 800000 in
theorem cloneBools_own (l : List Bool) (v : Value) (w : World) (h : RBools w w.heap.size v l) (hl : l.length ≤ 1073741824) :
    Calls Try.prog 66 #[v] w fun e w' => ∃ v', e = .returned v' ∧ RBools w' w'.heap.size v' l ∧ from_ w.heap.size v' ∧ w'.ownsRow w.heap.size 4 1 v' l.length (l.map Value.bool) ∧ Below w.heap.size w w' := by
  obtain ⟨i0, hi0, hz0, hz1, hz2⟩ := info_parts cloneBools_info
  have HI := Lib.hid (⟨hi0, hz0, hz1, hz2⟩ : _ ∧ _ ∧ _ ∧ _)
  clear hi0 hz0 hz1 hz2
  have HR := Lib.hid h
  obtain ⟨A, c, rfl, hc1, hc2⟩ := SL.form h
  have hnil : A = none → l = [] := fun ha => by
    subst ha
    cases l with
    | nil => rfl
    | cons x r =>
      obtain ⟨_, A', c', he, _, _, _, h4⟩ := h
      obtain ⟨b, o, e, _⟩ := h4 (by simp)
      subst e
      cases he
  clear h
  have heq := fun W a n c n' c' => Lib.run_eql_slice_nil (P := Try.prog) W 23 4 a n c n' c' Try.underlying23
  cases A with
  | none =>
    have hl0 := hnil rfl
    subst hl0
    clear hnil
    go_enter Try.func66, Try.ntmps66
    go_wp2
    go_ret
    exact ⟨_, rfl, SL.nil_ _ _ _, from_nil _ _ _, World.ownsRow_nil _ _ _ _, by (repeat' first | with_reducible (first | exact Below.refl _ _ | assumption | refine Below.alloc ?_ ?_ _ | refine below_drewN ?_ _ | refine Below.drew ?_ | refine Below.setCell ?_ ?_ _ | refine Below.trans ?_ (Below.mono (by with_reducible assumption) ?_)) | go_size)⟩
  | some a =>
    clear hnil
    go_enter Try.func66, Try.ntmps66
    go_wp2_with (at_builtin; refine wpList_append_SL (B := w.heap.size) rfl (.tmp 5) (.tmp 6) _ rfl w.heap.size 4 i0 _ 1 Try.underlying23 HI.out.1 HI.out.2.1 HI.out.2.2.1 HI.out.2.2.2 rfl (by omega) rfl (World.ownsRow_made w #[] 0 (Nat.le_refl _) (by simp [maxLen]) (by simp)) rfl (SL.below HR.out (by (repeat' first | with_reducible (first | exact Below.refl _ _ | assumption | refine Below.alloc ?_ ?_ _ | refine below_drewN ?_ _ | refine Below.drew ?_ | refine Below.setCell ?_ ?_ _ | refine Below.trans ?_ (Below.mono (by with_reducible assumption) ?_)) | go_size))) (one_bools l) (by simp only [maxLen]; omega) (by omega) (by go_size) ?_; intro v1 w1 hown1 hg1 hat1)
    have hb1 : Below w.heap.size w w1 := (by (repeat' first | with_reducible (first | exact Below.refl _ _ | assumption | refine Below.alloc ?_ ?_ _ | refine below_drewN ?_ _ | refine Below.drew ?_ | refine Below.setCell ?_ ?_ _ | refine Below.trans ?_ (Below.mono (by with_reducible assumption) ?_)) | go_size) : Below w.heap.size w _).grown hg1 (by go_size) (by intro k hk; have hk' : w.heap.size = k := (Option.some.inj hk); omega)
    go_ret
    exact ⟨_, rfl, by (show SL _ _ _ _ _ _; simpa using SL.of_own hown1), from_own hown1, (by simpa using hown1), hb1⟩
set_option maxRecDepth 4000 in
set_option maxHeartbeats 3200000 in
theorem own_new (f : Ev.Flat) (v : Value) (w : World) (h : RFlat w w.heap.size v f) (h1 : f.code.length ≤ 1073741824) (h2 : f.secret.length ≤ 1073741824) (h3 : f.arrays.length ≤ 1073741824) :
    Calls Try.prog 33 #[v] w fun e w' => ∃ lo vc' vs' va', e = .returned (.agg #[vc', vs', .int .i64 f.params, va']) ∧ RCode w' lo vc' f.code ∧ w'.ownsRow lo 4 1 vs' f.secret.length (f.secret.map Value.bool) ∧ RVars w' w'.heap.size va' f.arrays ∧ w.heap.size ≤ lo ∧ lo ≤ w'.heap.size ∧ Below w.heap.size w w' := by
  obtain ⟨vc, vs, va, rfl, hc, hs, ha⟩ := h
  have HC := Lib.hid hc
  have HS := Lib.hid hs
  have HA := Lib.hid ha
  clear hc hs ha
  go_enter Try.func33, Try.ntmps33
  go_wp2_with fail
  refine wp_region_trail (fun w' => Below (w.heap.size + 1) ((w.alloc (.cells #[vc, vs, .int .i64 f.params, va] 26)).alloc (.cells #[.slice none 0 0, .slice none 0 0, .int .i64 0, .slice none 0 0] 26)) w') [(0, true), (1, true), (3, true), (4, true), (6, true), (7, true), (8, true), (9, true), (2, false), (5, false), (10, false), (11, true), (12, false)] (by kernel_rfl) (by kernel_rfl) (by kernel_rfl) (by decide) (by (repeat' first | with_reducible (first | exact Below.refl _ _ | assumption | refine Below.alloc ?_ ?_ _ | refine below_drewN ?_ _ | refine Below.drew ?_ | refine Below.setCell ?_ ?_ _ | refine Below.trans ?_ (Below.mono (by with_reducible assumption) ?_)) | go_size)) ?_
  apply trail_light
  case hi => (simp only [List.getElem?_toArray, List.getElem?_cons_zero, List.getElem?_cons_succ]; exact rfl)
  case hl => first | exact light_no (by rfl) | ((first | apply light_plain rfl | apply light_yes (by rfl)); intro w9 hb9; have hB9 : Below w.heap.size w w9 := (by (repeat' first | with_reducible (first | exact Below.refl _ _ | assumption | refine Below.alloc ?_ ?_ _ | refine below_drewN ?_ _ | refine Below.drew ?_ | refine Below.setCell ?_ ?_ _ | refine Below.trans ?_ (Below.mono (by with_reducible assumption) ?_)) | go_size)); obtain ⟨kc9, kf9, s9⟩ := bfacts hb9; obtain ⟨kd9, kg9, _⟩ := bfacts hB9; go_simp; try rfl)
  case hQ => exact fun _ _ _ h => h
  (try simp only [Act.put, List.setIfInBounds_toArray, List.set_cons_zero, List.set_cons_succ])
  apply trail_light
  case hi => (simp only [List.getElem?_toArray, List.getElem?_cons_zero, List.getElem?_cons_succ]; exact rfl)
  case hl => first | exact light_no (by rfl) | ((first | apply light_plain rfl | apply light_yes (by rfl)); intro w9 hb9; have hB9 : Below w.heap.size w w9 := (by (repeat' first | with_reducible (first | exact Below.refl _ _ | assumption | refine Below.alloc ?_ ?_ _ | refine below_drewN ?_ _ | refine Below.drew ?_ | refine Below.setCell ?_ ?_ _ | refine Below.trans ?_ (Below.mono (by with_reducible assumption) ?_)) | go_size)); obtain ⟨kc9, kf9, s9⟩ := bfacts hb9; obtain ⟨kd9, kg9, _⟩ := bfacts hB9; go_simp; try rfl)
  case hQ => exact fun _ _ _ h => h
  (try simp only [Act.put, List.setIfInBounds_toArray, List.set_cons_zero, List.set_cons_succ])
  apply trail_light
  case hi => (simp only [List.getElem?_toArray, List.getElem?_cons_zero, List.getElem?_cons_succ]; exact rfl)
  case hl => first | exact light_no (by rfl) | ((first | apply light_plain rfl | apply light_yes (by rfl)); intro w9 hb9; have hB9 : Below w.heap.size w w9 := (by (repeat' first | with_reducible (first | exact Below.refl _ _ | assumption | refine Below.alloc ?_ ?_ _ | refine below_drewN ?_ _ | refine Below.drew ?_ | refine Below.setCell ?_ ?_ _ | refine Below.trans ?_ (Below.mono (by with_reducible assumption) ?_)) | go_size)); obtain ⟨kc9, kf9, s9⟩ := bfacts hb9; obtain ⟨kd9, kg9, _⟩ := bfacts hB9; go_simp; try rfl)
  case hQ => exact fun _ _ _ h => h
  (try simp only [Act.put, List.setIfInBounds_toArray, List.set_cons_zero, List.set_cons_succ])
  apply trail_light
  case hi => (simp only [List.getElem?_toArray, List.getElem?_cons_zero, List.getElem?_cons_succ]; exact rfl)
  case hl => first | exact light_no (by rfl) | ((first | apply light_plain rfl | apply light_yes (by rfl)); intro w9 hb9; have hB9 : Below w.heap.size w w9 := (by (repeat' first | with_reducible (first | exact Below.refl _ _ | assumption | refine Below.alloc ?_ ?_ _ | refine below_drewN ?_ _ | refine Below.drew ?_ | refine Below.setCell ?_ ?_ _ | refine Below.trans ?_ (Below.mono (by with_reducible assumption) ?_)) | go_size)); obtain ⟨kc9, kf9, s9⟩ := bfacts hb9; obtain ⟨kd9, kg9, _⟩ := bfacts hB9; go_simp; try rfl)
  case hQ => exact fun _ _ _ h => h
  (try simp only [Act.put, List.setIfInBounds_toArray, List.set_cons_zero, List.set_cons_succ])
  apply trail_light
  case hi => (simp only [List.getElem?_toArray, List.getElem?_cons_zero, List.getElem?_cons_succ]; exact rfl)
  case hl => first | exact light_no (by rfl) | ((first | apply light_plain rfl | apply light_yes (by rfl)); intro w9 hb9; have hB9 : Below w.heap.size w w9 := (by (repeat' first | with_reducible (first | exact Below.refl _ _ | assumption | refine Below.alloc ?_ ?_ _ | refine below_drewN ?_ _ | refine Below.drew ?_ | refine Below.setCell ?_ ?_ _ | refine Below.trans ?_ (Below.mono (by with_reducible assumption) ?_)) | go_size)); obtain ⟨kc9, kf9, s9⟩ := bfacts hb9; obtain ⟨kd9, kg9, _⟩ := bfacts hB9; go_simp; try rfl)
  case hQ => exact fun _ _ _ h => h
  (try simp only [Act.put, List.setIfInBounds_toArray, List.set_cons_zero, List.set_cons_succ])
  apply trail_light
  case hi => (simp only [List.getElem?_toArray, List.getElem?_cons_zero, List.getElem?_cons_succ]; exact rfl)
  case hl => first | exact light_no (by rfl) | ((first | apply light_plain rfl | apply light_yes (by rfl)); intro w9 hb9; have hB9 : Below w.heap.size w w9 := (by (repeat' first | with_reducible (first | exact Below.refl _ _ | assumption | refine Below.alloc ?_ ?_ _ | refine below_drewN ?_ _ | refine Below.drew ?_ | refine Below.setCell ?_ ?_ _ | refine Below.trans ?_ (Below.mono (by with_reducible assumption) ?_)) | go_size)); obtain ⟨kc9, kf9, s9⟩ := bfacts hb9; obtain ⟨kd9, kg9, _⟩ := bfacts hB9; go_simp; try rfl)
  case hQ => exact fun _ _ _ h => h
  (try simp only [Act.put, List.setIfInBounds_toArray, List.set_cons_zero, List.set_cons_succ])
  apply trail_light
  case hi => (simp only [List.getElem?_toArray, List.getElem?_cons_zero, List.getElem?_cons_succ]; exact rfl)
  case hl => first | exact light_no (by rfl) | ((first | apply light_plain rfl | apply light_yes (by rfl)); intro w9 hb9; have hB9 : Below w.heap.size w w9 := (by (repeat' first | with_reducible (first | exact Below.refl _ _ | assumption | refine Below.alloc ?_ ?_ _ | refine below_drewN ?_ _ | refine Below.drew ?_ | refine Below.setCell ?_ ?_ _ | refine Below.trans ?_ (Below.mono (by with_reducible assumption) ?_)) | go_size)); obtain ⟨kc9, kf9, s9⟩ := bfacts hb9; obtain ⟨kd9, kg9, _⟩ := bfacts hB9; go_simp; try rfl)
  case hQ => exact fun _ _ _ h => h
  (try simp only [Act.put, List.setIfInBounds_toArray, List.set_cons_zero, List.set_cons_succ])
  apply trail_light
  case hi => (simp only [List.getElem?_toArray, List.getElem?_cons_zero, List.getElem?_cons_succ]; exact rfl)
  case hl => first | exact light_no (by rfl) | ((first | apply light_plain rfl | apply light_yes (by rfl)); intro w9 hb9; have hB9 : Below w.heap.size w w9 := (by (repeat' first | with_reducible (first | exact Below.refl _ _ | assumption | refine Below.alloc ?_ ?_ _ | refine below_drewN ?_ _ | refine Below.drew ?_ | refine Below.setCell ?_ ?_ _ | refine Below.trans ?_ (Below.mono (by with_reducible assumption) ?_)) | go_size)); obtain ⟨kc9, kf9, s9⟩ := bfacts hb9; obtain ⟨kd9, kg9, _⟩ := bfacts hB9; go_simp; try rfl)
  case hQ => exact fun _ _ _ h => h
  (try simp only [Act.put, List.setIfInBounds_toArray, List.set_cons_zero, List.set_cons_succ])
  apply trail_heavy
  case hi => (simp only [List.getElem?_toArray, List.getElem?_cons_zero, List.getElem?_cons_succ]; exact rfl)
  go_wp2_with (first | (go_at_call 65; refine (cloneCode_any f.code _ _ (SL.at_ HC.out (by (repeat' first | with_reducible (first | exact Below.refl _ _ | assumption | refine Below.alloc ?_ ?_ _ | refine below_drewN ?_ _ | refine Below.drew ?_ | refine Below.setCell ?_ ?_ _ | refine Below.trans ?_ (Below.mono (by with_reducible assumption) ?_)) | go_size)) (Nat.le_refl _)) h1).mono ?_; rintro e w1 ⟨v1, rfl, hR1, hF1, hb1⟩; obtain ⟨kc1, kf1, s1⟩ := bfacts hb1; (try simp only [World.size_alloc, World.size_setCell, World.size_drew, World.heap_drewN, Nat.add_one_le_iff] at s1); obtain ⟨A1, c1, rfl, _, _⟩ := SL.form hR1) | (go_at_call 66; refine (cloneBools_own f.secret _ _ (SL.at_ HS.out (by (repeat' first | with_reducible (first | exact Below.refl _ _ | assumption | refine Below.alloc ?_ ?_ _ | refine below_drewN ?_ _ | refine Below.drew ?_ | refine Below.setCell ?_ ?_ _ | refine Below.trans ?_ (Below.mono (by with_reducible assumption) ?_)) | go_size)) (Nat.le_refl _)) h2).mono ?_; rintro e w2 ⟨v2, rfl, hR2, hF2, hO2, hb2⟩; obtain ⟨kc2, kf2, s2⟩ := bfacts hb2; (try simp only [World.size_alloc, World.size_setCell, World.size_drew, World.heap_drewN, Nat.add_one_le_iff] at s2); obtain ⟨A2, c2, rfl, _, _⟩ := SL.form hR2) | (go_at_call 67; refine (cloneVars_any f.arrays _ _ (SL.at_ HA.out (by (repeat' first | with_reducible (first | exact Below.refl _ _ | assumption | refine Below.alloc ?_ ?_ _ | refine below_drewN ?_ _ | refine Below.drew ?_ | refine Below.setCell ?_ ?_ _ | refine Below.trans ?_ (Below.mono (by with_reducible assumption) ?_)) | go_size)) (Nat.le_refl _)) h3).mono ?_; rintro e w3 ⟨v3, rfl, hR3, hF3, hb3⟩; obtain ⟨kc3, kf3, s3⟩ := bfacts hb3; (try simp only [World.size_alloc, World.size_setCell, World.size_drew, World.heap_drewN, Nat.add_one_le_iff] at s3); obtain ⟨A3, c3, rfl, _, _⟩ := SL.form hR3; have l1 : w.heap.size + 1 < w1.heap.size := (by omega); have l2 : w.heap.size + 1 < w2.heap.size := (by omega); have l3 : w.heap.size + 1 < w3.heap.size := (by omega)) | fail)
  refine ⟨by (repeat' first | with_reducible (first | exact Below.refl _ _ | assumption | refine Below.alloc ?_ ?_ _ | refine below_drewN ?_ _ | refine Below.drew ?_ | refine Below.setCell ?_ ?_ _ | refine Below.trans ?_ (Below.mono (by with_reducible assumption) ?_)) | go_size), ?_⟩
  apply trail_heavy
  case hi => (simp only [List.getElem?_toArray, List.getElem?_cons_zero, List.getElem?_cons_succ]; exact rfl)
  go_wp2_with (first | (go_at_call 65; refine (cloneCode_any f.code _ _ (SL.at_ HC.out (by (repeat' first | with_reducible (first | exact Below.refl _ _ | assumption | refine Below.alloc ?_ ?_ _ | refine below_drewN ?_ _ | refine Below.drew ?_ | refine Below.setCell ?_ ?_ _ | refine Below.trans ?_ (Below.mono (by with_reducible assumption) ?_)) | go_size)) (Nat.le_refl _)) h1).mono ?_; rintro e w1 ⟨v1, rfl, hR1, hF1, hb1⟩; obtain ⟨kc1, kf1, s1⟩ := bfacts hb1; (try simp only [World.size_alloc, World.size_setCell, World.size_drew, World.heap_drewN, Nat.add_one_le_iff] at s1); obtain ⟨A1, c1, rfl, _, _⟩ := SL.form hR1) | (go_at_call 66; refine (cloneBools_own f.secret _ _ (SL.at_ HS.out (by (repeat' first | with_reducible (first | exact Below.refl _ _ | assumption | refine Below.alloc ?_ ?_ _ | refine below_drewN ?_ _ | refine Below.drew ?_ | refine Below.setCell ?_ ?_ _ | refine Below.trans ?_ (Below.mono (by with_reducible assumption) ?_)) | go_size)) (Nat.le_refl _)) h2).mono ?_; rintro e w2 ⟨v2, rfl, hR2, hF2, hO2, hb2⟩; obtain ⟨kc2, kf2, s2⟩ := bfacts hb2; (try simp only [World.size_alloc, World.size_setCell, World.size_drew, World.heap_drewN, Nat.add_one_le_iff] at s2); obtain ⟨A2, c2, rfl, _, _⟩ := SL.form hR2) | (go_at_call 67; refine (cloneVars_any f.arrays _ _ (SL.at_ HA.out (by (repeat' first | with_reducible (first | exact Below.refl _ _ | assumption | refine Below.alloc ?_ ?_ _ | refine below_drewN ?_ _ | refine Below.drew ?_ | refine Below.setCell ?_ ?_ _ | refine Below.trans ?_ (Below.mono (by with_reducible assumption) ?_)) | go_size)) (Nat.le_refl _)) h3).mono ?_; rintro e w3 ⟨v3, rfl, hR3, hF3, hb3⟩; obtain ⟨kc3, kf3, s3⟩ := bfacts hb3; (try simp only [World.size_alloc, World.size_setCell, World.size_drew, World.heap_drewN, Nat.add_one_le_iff] at s3); obtain ⟨A3, c3, rfl, _, _⟩ := SL.form hR3; have l1 : w.heap.size + 1 < w1.heap.size := (by omega); have l2 : w.heap.size + 1 < w2.heap.size := (by omega); have l3 : w.heap.size + 1 < w3.heap.size := (by omega)) | fail)
  refine ⟨by (repeat' first | with_reducible (first | exact Below.refl _ _ | assumption | refine Below.alloc ?_ ?_ _ | refine below_drewN ?_ _ | refine Below.drew ?_ | refine Below.setCell ?_ ?_ _ | refine Below.trans ?_ (Below.mono (by with_reducible assumption) ?_)) | go_size), ?_⟩
  apply trail_heavy
  case hi => (simp only [List.getElem?_toArray, List.getElem?_cons_zero, List.getElem?_cons_succ]; exact rfl)
  go_wp2_with (first | (go_at_call 65; refine (cloneCode_any f.code _ _ (SL.at_ HC.out (by (repeat' first | with_reducible (first | exact Below.refl _ _ | assumption | refine Below.alloc ?_ ?_ _ | refine below_drewN ?_ _ | refine Below.drew ?_ | refine Below.setCell ?_ ?_ _ | refine Below.trans ?_ (Below.mono (by with_reducible assumption) ?_)) | go_size)) (Nat.le_refl _)) h1).mono ?_; rintro e w1 ⟨v1, rfl, hR1, hF1, hb1⟩; obtain ⟨kc1, kf1, s1⟩ := bfacts hb1; (try simp only [World.size_alloc, World.size_setCell, World.size_drew, World.heap_drewN, Nat.add_one_le_iff] at s1); obtain ⟨A1, c1, rfl, _, _⟩ := SL.form hR1) | (go_at_call 66; refine (cloneBools_own f.secret _ _ (SL.at_ HS.out (by (repeat' first | with_reducible (first | exact Below.refl _ _ | assumption | refine Below.alloc ?_ ?_ _ | refine below_drewN ?_ _ | refine Below.drew ?_ | refine Below.setCell ?_ ?_ _ | refine Below.trans ?_ (Below.mono (by with_reducible assumption) ?_)) | go_size)) (Nat.le_refl _)) h2).mono ?_; rintro e w2 ⟨v2, rfl, hR2, hF2, hO2, hb2⟩; obtain ⟨kc2, kf2, s2⟩ := bfacts hb2; (try simp only [World.size_alloc, World.size_setCell, World.size_drew, World.heap_drewN, Nat.add_one_le_iff] at s2); obtain ⟨A2, c2, rfl, _, _⟩ := SL.form hR2) | (go_at_call 67; refine (cloneVars_any f.arrays _ _ (SL.at_ HA.out (by (repeat' first | with_reducible (first | exact Below.refl _ _ | assumption | refine Below.alloc ?_ ?_ _ | refine below_drewN ?_ _ | refine Below.drew ?_ | refine Below.setCell ?_ ?_ _ | refine Below.trans ?_ (Below.mono (by with_reducible assumption) ?_)) | go_size)) (Nat.le_refl _)) h3).mono ?_; rintro e w3 ⟨v3, rfl, hR3, hF3, hb3⟩; obtain ⟨kc3, kf3, s3⟩ := bfacts hb3; (try simp only [World.size_alloc, World.size_setCell, World.size_drew, World.heap_drewN, Nat.add_one_le_iff] at s3); obtain ⟨A3, c3, rfl, _, _⟩ := SL.form hR3; have l1 : w.heap.size + 1 < w1.heap.size := (by omega); have l2 : w.heap.size + 1 < w2.heap.size := (by omega); have l3 : w.heap.size + 1 < w3.heap.size := (by omega)) | fail)
  refine ⟨by (repeat' first | with_reducible (first | exact Below.refl _ _ | assumption | refine Below.alloc ?_ ?_ _ | refine below_drewN ?_ _ | refine Below.drew ?_ | refine Below.setCell ?_ ?_ _ | refine Below.trans ?_ (Below.mono (by with_reducible assumption) ?_)) | go_size), ?_⟩
  apply trail_light
  case hi => (simp only [List.getElem?_toArray, List.getElem?_cons_zero, List.getElem?_cons_succ]; exact rfl)
  case hl => first | exact light_no (by rfl) | ((first | apply light_plain rfl | apply light_yes (by rfl)); intro w9 hb9; have hB9 : Below w.heap.size w w9 := (by (repeat' first | with_reducible (first | exact Below.refl _ _ | assumption | refine Below.alloc ?_ ?_ _ | refine below_drewN ?_ _ | refine Below.drew ?_ | refine Below.setCell ?_ ?_ _ | refine Below.trans ?_ (Below.mono (by with_reducible assumption) ?_)) | go_size)); obtain ⟨kc9, kf9, s9⟩ := bfacts hb9; obtain ⟨kd9, kg9, _⟩ := bfacts hB9; go_simp; try rfl)
  case hQ => exact fun _ _ _ h => h
  (try simp only [Act.put, List.setIfInBounds_toArray, List.set_cons_zero, List.set_cons_succ])
  apply trail_heavy
  case hi => (simp only [List.getElem?_toArray, List.getElem?_cons_zero, List.getElem?_cons_succ]; exact rfl)
  go_wp2_with (first | (go_at_call 65; refine (cloneCode_any f.code _ _ (SL.at_ HC.out (by (repeat' first | with_reducible (first | exact Below.refl _ _ | assumption | refine Below.alloc ?_ ?_ _ | refine below_drewN ?_ _ | refine Below.drew ?_ | refine Below.setCell ?_ ?_ _ | refine Below.trans ?_ (Below.mono (by with_reducible assumption) ?_)) | go_size)) (Nat.le_refl _)) h1).mono ?_; rintro e w1 ⟨v1, rfl, hR1, hF1, hb1⟩; obtain ⟨kc1, kf1, s1⟩ := bfacts hb1; (try simp only [World.size_alloc, World.size_setCell, World.size_drew, World.heap_drewN, Nat.add_one_le_iff] at s1); obtain ⟨A1, c1, rfl, _, _⟩ := SL.form hR1) | (go_at_call 66; refine (cloneBools_own f.secret _ _ (SL.at_ HS.out (by (repeat' first | with_reducible (first | exact Below.refl _ _ | assumption | refine Below.alloc ?_ ?_ _ | refine below_drewN ?_ _ | refine Below.drew ?_ | refine Below.setCell ?_ ?_ _ | refine Below.trans ?_ (Below.mono (by with_reducible assumption) ?_)) | go_size)) (Nat.le_refl _)) h2).mono ?_; rintro e w2 ⟨v2, rfl, hR2, hF2, hO2, hb2⟩; obtain ⟨kc2, kf2, s2⟩ := bfacts hb2; (try simp only [World.size_alloc, World.size_setCell, World.size_drew, World.heap_drewN, Nat.add_one_le_iff] at s2); obtain ⟨A2, c2, rfl, _, _⟩ := SL.form hR2) | (go_at_call 67; refine (cloneVars_any f.arrays _ _ (SL.at_ HA.out (by (repeat' first | with_reducible (first | exact Below.refl _ _ | assumption | refine Below.alloc ?_ ?_ _ | refine below_drewN ?_ _ | refine Below.drew ?_ | refine Below.setCell ?_ ?_ _ | refine Below.trans ?_ (Below.mono (by with_reducible assumption) ?_)) | go_size)) (Nat.le_refl _)) h3).mono ?_; rintro e w3 ⟨v3, rfl, hR3, hF3, hb3⟩; obtain ⟨kc3, kf3, s3⟩ := bfacts hb3; (try simp only [World.size_alloc, World.size_setCell, World.size_drew, World.heap_drewN, Nat.add_one_le_iff] at s3); obtain ⟨A3, c3, rfl, _, _⟩ := SL.form hR3; have l1 : w.heap.size + 1 < w1.heap.size := (by omega); have l2 : w.heap.size + 1 < w2.heap.size := (by omega); have l3 : w.heap.size + 1 < w3.heap.size := (by omega)) | fail)
  refine ⟨by (repeat' first | with_reducible (first | exact Below.refl _ _ | assumption | refine Below.alloc ?_ ?_ _ | refine below_drewN ?_ _ | refine Below.drew ?_ | refine Below.setCell ?_ ?_ _ | refine Below.trans ?_ (Below.mono (by with_reducible assumption) ?_)) | go_size), ?_⟩
  refine trail_nil ?_
  (try dsimp only)
  have hk1 : ∀ o, w1.cell? ⟨w.heap.size + 1, o, none⟩ = ((w.alloc (.cells #[vc, vs, .int .i64 f.params, va] 26)).alloc (.cells #[.slice none 0 0, .slice none 0 0, .int .i64 0, .slice none 0 0] 26)).cell? ⟨w.heap.size + 1, o, none⟩ := fun o => (kc1 _ _ (by simp)).trans rfl
  have hk : ∀ o, w3.cell? ⟨w.heap.size + 1, o, none⟩ = w1.cell? ⟨w.heap.size + 1, o, none⟩ := fun o => (kc3 _ _ (by omega)).trans (kc2 _ _ (by omega))
  have e0 : w3.cell? ⟨w.heap.size + 1, 0, none⟩ = some (.slice none 0 0) := by rw [hk, hk1]; go_simp
  have e1 : w3.cell? ⟨w.heap.size + 1, 1, none⟩ = some (.slice none 0 0) := by rw [hk, hk1]; go_simp
  have e2 : w3.cell? ⟨w.heap.size + 1, 2, none⟩ = some (.int .i64 0) := by rw [hk, hk1]; go_simp
  have e3 : w3.cell? ⟨w.heap.size + 1, 3, none⟩ = some (.slice none 0 0) := by rw [hk, hk1]; go_simp
  clear hk hk1 kc1 kc2 kc3 kf1 kf2 kf3
  go_wp2
  refine bodyPost_ret (v := .agg #[.slice A1 f.code.length c1, .slice A2 f.secret.length c2, .int .i64 f.params, .slice A3 f.arrays.length c3]) (by simp [results, Try.results33, go_sem, e0, e1, e2, e3]) rfl ?_
  replace hF1 : from_ (w.heap.size + 2) (Value.slice A1 f.code.length c1) := hF1.less (by simp)
  replace hF2 : from_ (w.heap.size + 2) (Value.slice A2 f.secret.length c2) := hF2.less (by omega)
  replace hF3 : from_ (w.heap.size + 2) (Value.slice A3 f.arrays.length c3) := hF3.less (by omega)
  have r1 : RCode w3 w1.heap.size (Value.slice A1 f.code.length c1) f.code := SL.below hR1 (by (repeat' first | with_reducible (first | exact Below.refl _ _ | assumption | refine Below.alloc ?_ ?_ _ | refine below_drewN ?_ _ | refine Below.drew ?_ | refine Below.setCell ?_ ?_ _ | refine Below.trans ?_ (Below.mono (by with_reducible assumption) ?_)) | go_size))
  have r2 : w3.ownsRow w1.heap.size 4 1 (Value.slice A2 f.secret.length c2) f.secret.length (f.secret.map Value.bool) := owns_below hO2 (by (repeat' first | with_reducible (first | exact Below.refl _ _ | assumption | refine Below.alloc ?_ ?_ _ | refine below_drewN ?_ _ | refine Below.drew ?_ | refine Below.setCell ?_ ?_ _ | refine Below.trans ?_ (Below.mono (by with_reducible assumption) ?_)) | go_size))
  have hne : ∀ q, (Value.slice A2 f.secret.length c2).ownBlock = some q → q ≠ w.heap.size + 1 := fun q hq e => by have := (r2.lt q hq).1; omega
  have hn := fun (e : (Value.slice A2 f.secret.length c2).ownBlock = some (w.heap.size + 1)) => hne _ e rfl
  have hsz : ((((w3.setCell ⟨w.heap.size + 1, 0, none⟩ (Value.slice A1 f.code.length c1)).setCell ⟨w.heap.size + 1, 1, none⟩ (Value.slice A2 f.secret.length c2)).setCell ⟨w.heap.size + 1, 2, none⟩ (Value.int .i64 f.params)).setCell ⟨w.heap.size + 1, 3, none⟩ (Value.slice A3 f.arrays.length c3)).heap.size = w3.heap.size := by simp
  refine ⟨w1.heap.size, _, _, _, rfl, ?_, ?_, ?_, by omega, ?_, by (repeat' first | with_reducible (first | exact Below.refl _ _ | assumption | refine Below.alloc ?_ ?_ _ | refine below_drewN ?_ _ | refine Below.drew ?_ | refine Below.setCell ?_ ?_ _ | refine Below.trans ?_ (Below.mono (by with_reducible assumption) ?_)) | go_size)⟩
  · exact (((SL.aside r1 hF1 _ _ _ (by omega)).aside hF1 _ _ _ (by omega)).aside hF1 _ _ _ (by omega)).aside hF1 _ _ _ (by omega)
  · exact ownsRow_setCell_other (ownsRow_setCell_other (ownsRow_setCell_other (ownsRow_setCell_other r2 hn _) hn _) hn _) hn _
  · rw [hsz]; exact (((SL.aside hR3 hF3 _ _ _ (by omega)).aside hF3 _ _ _ (by omega)).aside hF3 _ _ _ (by omega)).aside hF3 _ _ _ (by omega)
  · rw [hsz]; omega
end Go.Proofs.Ytljcgcllhcdleaa
