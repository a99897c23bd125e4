import Derived.Test.YtljcgcllhcdleaaMo11
import Derived.Test.YtljcgcllhcdleaaMo2
import Derived.Test.YtljcgcllhcdleaaMo5
import Derived.Lib.ConvBytes
import Derived.Test.YtljcgcllhcdleaaMo7
/- Chapter 7, the reference: what an instruction reads. -/
namespace Ev
/-- what a letter of the form reads -/
def letter (i : Instr) (c : Nat) : List Int := if c = 65 then [i.a] else if c = 66 then [i.b] else if c = 67 then [i.c] else if c = 68 then [i.d] else []
def readsTo (i : Instr) (l : List Nat) : List Int := l.flatMap (letter i)
theorem letter_le (i : Instr) (c : Nat) : (letter i c).length ≤ 1 := by
  unfold letter
  repeat' split
  all_goals simp
theorem readsTo_le (i : Instr) : ∀ l : List Nat, (readsTo i l).length ≤ l.length
  | [] => by simp [readsTo]
  | c :: l => by
    have h := readsTo_le i l
    have := letter_le i c
    simp only [readsTo, List.flatMap_cons, List.length_append, List.length_cons] at h ⊢
    omega
end Ev
namespace Go.Proofs.Ytljcgcllhcdleaa
open Go.RowKit
set_option linter.unusedSimpArgs false
set_option linter.unusedVariables false
theorem readsTo_snoc (i : Ev.Instr) {l : List UInt8} {j : Nat} {c : UInt8} (h : l[j]? = some c) : Ev.readsTo i ((l.map (·.toNat)).take (j + 1)) = Ev.readsTo i ((l.map (·.toNat)).take j) ++ Ev.letter i c.toNat := by
  have h' : (l.map (·.toNat))[j]? = some c.toNat := by rw [List.getElem?_map, h]; rfl
  rw [List.take_add_one, h']
  simp [Ev.readsTo]
theorem form_letters (i : Ev.Instr) : (form i.op).size ≤ 4 ∧ (∀ c ∈ (form i.op).data.toList, c.toNat = 65 ∨ c.toNat = 66 ∨ c.toNat = 67 ∨ c.toNat = 68 ∨ c.toNat = 109) ∧ Ev.readsTo i ((form i.op).data.toList.map (·.toNat)) = Ev.reads i := by
  rcases form_cases i.op with ⟨h, hf⟩ | ⟨h, hf⟩ | ⟨h, hf⟩ | ⟨h, hf⟩ | ⟨h, hf⟩ | ⟨h, hf⟩ | ⟨h, hf⟩
  all_goals
    rw [hf]
    refine ⟨by decide, by decide, ?_⟩
    unfold Ev.reads
  · rw [if_pos h]; rfl
  · rw [if_neg (by omega), if_pos h]; rfl
  · rw [if_neg (by omega), if_neg (by omega), if_neg (by omega), if_neg (by omega)]; rfl
  · rw [if_neg (by omega), if_neg (by omega), if_neg (by omega), if_pos (by omega)]; rfl
  · rw [if_neg (by omega), if_neg (by omega), if_pos h]; rfl
  · rw [if_neg (by omega), if_neg (by omega), if_neg (by omega), if_pos (by omega)]; rfl
  · rw [if_neg (by omega), if_neg (by omega), if_neg (by omega), if_neg (by omega)]; rfl
set_option maxRecDepth 4000 in
set_option maxHeartbeats 1600000 in
theorem refReads_any (i : Ev.Instr) (w : World) :
    Calls Try.prog 36 #[.agg #[.int .i64 i.op, .int .i64 i.d, .int .i64 i.a, .int .i64 i.b, .int .i64 i.c, .int .i64 i.imm]] w fun e w' => ∃ v, e = .returned v ∧ w'.ownsRow w.heap.size 3 1 v (Ev.reads i).length ((Ev.reads i).map (Value.int .i64)) ∧ Below w.heap.size w w' := by
  obtain ⟨h4, hlet, hrd⟩ := form_letters i
  have hc := form_any i.op
  generalize Ev.reads i = res at *
  generalize form i.op = s at *
  have HF := Lib.hid hc
  have HRD := Lib.hid hrd
  have HLET := Lib.hid hlet
  obtain ⟨L, hL⟩ : ∃ L, s.data.toList = L := ⟨_, rfl⟩
  have hLs : L.length = s.size := by rw [← hL]; rfl
  have HLL := Lib.hid hL
  obtain ⟨i0, hi0, hz0, hz1, hz2⟩ := info_parts int_info
  have II := Lib.hid (⟨hi0, hz0, hz1, hz2⟩ : _ ∧ _ ∧ _ ∧ _)
  clear hlet hrd hc hL hi0 hz0 hz1 hz2
  go_enter Try.func36, Try.ntmps36
  go_wp2_with fail
  refine (HF.out _).mono ?_
  rintro e w1 ⟨rfl, hb1⟩
  obtain ⟨kc1, kf1, s1⟩ := bfacts hb1
  (try simp only [World.size_alloc, World.size_setCell, World.size_drew, World.heap_drewN, Nat.add_one_le_iff] at s1)
  (try have z1 : w.heap.size < w1.heap.size := by omega)
  have B1 : Hid (Below w.heap.size w w1) := by (show Below _ _ _); (repeat' first | with_reducible (first | exact Below.refl _ _ | assumption | refine Below.alloc ?_ ?_ _ | refine below_drewN ?_ _ | refine Below.drew ?_ | refine Below.setCell ?_ ?_ _ | refine Below.trans ?_ (Below.mono (by with_reducible assumption) ?_)) | go_size)
  obtain ⟨kd1, kg1, _⟩ := bfacts B1.out
  have cv := Lib.run_convert_string_bytes (P := Try.prog) w1 9 74 5 s Try.underlying9 Try.underlying74 Try.underlying5
  have z2 := Lib.bytesWorld_size w1 5 s
  have hcel := Lib.hid (fun j hj => Lib.bytesWorld_cell w1 5 s j hj)
  have hbw : Below w1.heap.size w1 (Lib.bytesWorld w1 5 s) := by
    exact ⟨rfl, rfl, rfl, by rw [Lib.bytesWorld_size]; omega, fun j hj => Lib.bytesWorld_at_old _ _ _ j hj⟩
  generalize Lib.bytesWorld w1 5 s = w2 at *
  generalize grownCap w1 s.size 0 5 = cap at *
  obtain ⟨kc2, kf2, s2⟩ := bfacts hbw
  have HL := Lib.hid hLs
  have BX := Lib.hid (show Below (w.heap.size + 1) (w.alloc (.cells #[.int .i64 i.op, .int .i64 i.d, .int .i64 i.a, .int .i64 i.b, .int .i64 i.c, .int .i64 i.imm] 39)) w2 by
    refine Below.trans (b := w1) ?_ (hbw.mono ?_)
    · have := hb1; simpa using this
    · have := hb1.size; simpa using this)
  clear hbw kc1 kf1 kd1 kg1
  go_wp2_with fail
  clear cv kc2 kf2
  go_loopw [3, 11] (fun o kk wr => ∃ j : Nat, j ≤ s.size ∧ kk = .int .i64 j ∧ Hid (wr.ownsRow w2.heap.size 3 1 o (Ev.readsTo i ((L.map (·.toNat)).take j)).length ((Ev.readsTo i ((L.map (·.toNat)).take j)).map (Value.int .i64))) ∧ Below w2.heap.size w2 wr) (fun _ kk _ => s.size - (intOf kk).toNat)
  case atStart => exact ⟨0, by omega, rfl, World.ownsRow_nil _ _ _ _, Below.refl _ _⟩
  case round =>
    obtain ⟨j, hj, rfl, OW, hB⟩ := hrel
    have hs3 := hB.size
    have bx1 : wr.cell? ⟨w.heap.size, 1, none⟩ = some (.int .i64 i.d) := (hB.cell (p := ⟨w.heap.size, 1, none⟩) (by go_size)).trans ((BX.out.cell (p := ⟨w.heap.size, 1, none⟩) (by go_size)).trans (by go_simp))
    have bx2 : wr.cell? ⟨w.heap.size, 2, none⟩ = some (.int .i64 i.a) := (hB.cell (p := ⟨w.heap.size, 2, none⟩) (by go_size)).trans ((BX.out.cell (p := ⟨w.heap.size, 2, none⟩) (by go_size)).trans (by go_simp))
    have bx3 : wr.cell? ⟨w.heap.size, 3, none⟩ = some (.int .i64 i.b) := (hB.cell (p := ⟨w.heap.size, 3, none⟩) (by go_size)).trans ((BX.out.cell (p := ⟨w.heap.size, 3, none⟩) (by go_size)).trans (by go_simp))
    have bx4 : wr.cell? ⟨w.heap.size, 4, none⟩ = some (.int .i64 i.c) := (hB.cell (p := ⟨w.heap.size, 4, none⟩) (by go_size)).trans ((BX.out.cell (p := ⟨w.heap.size, 4, none⟩) (by go_size)).trans (by go_simp))
    by_cases hlt : j < s.size
    · obtain ⟨c, hx⟩ : ∃ c, L[j]? = some c := ⟨L[j]'(by rw [HL.out]; exact hlt), List.getElem?_eq_getElem _⟩
      have hcc : wr.cell? ⟨w1.heap.size, j, none⟩ = some (.int .u8 c.toNat) := (hB.cell (p := ⟨w1.heap.size, j, none⟩) (by go_size)).trans (by
        have := hcel.out j hlt
        rw [HLL.out, List.getD_eq_getElem?_getD, hx] at this
        exact this)
      have hcl := HLET.out c (by rw [HLL.out]; exact List.mem_of_getElem? hx)
      have hrl := Ev.readsTo_le i ((L.map (·.toNat)).take j)
      have hrl2 : ((L.map (·.toNat)).take j).length ≤ j := List.length_take_le _ _
      rcases hcl with hc | hc | hc | hc | hc
      all_goals rw [hc] at hcc
      · -- letter 65
        have HE := Lib.hid (show Ev.readsTo i ((L.map (·.toNat)).take (j + 1)) = Ev.readsTo i ((L.map (·.toNat)).take j) ++ [i.a] by
          rw [readsTo_snoc i hx, hc]; rfl)
        generalize i.a = x at *
        go_wp2_with (at_builtin; refine wpList_append_own_at _ rfl (.tmp 18) (.tmp 21) _ rfl w2.heap.size 3 i0 (.int .i64 0) 1 8 Try.underlying42 II.out.1 II.out.2.1 II.out.2.2.1 II.out.2.2.2 rfl (by decide) _ _ _ rfl (OW.out.alloc _) ⟨wr.heap.size, 0, none⟩ 1 1 [.int .i64 x] rfl rfl (cell_one_new _ _ _) (fun x hx => by simp at hx; subst hx; rfl) (by unfold maxLen; omega) (by omega) (by simp; omega) ?_; intro v3 w3 hown3 hg3 hn3 hat3)
        replace hown3 : w3.ownsRow w2.heap.size 3 1 v3 (Ev.readsTo i ((L.map (·.toNat)).take (j + 1))).length ((Ev.readsTo i ((L.map (·.toNat)).take (j + 1))).map (Value.int .i64)) := by
          rw [HE.out, List.map_append, List.length_append]; exact hown3
        have hb3 := (hB.alloc (by omega) (.cells #[.int .i64 x] 3)).grown hg3 (by simp; omega) (fun q hq => (OW.out.lt q hq).1)
        go_wp2_with fail
        go_roundw
        case rel => exact ⟨j + 1, by omega, by go_num, hown3, hb3⟩
        case measure => simp [intOf]; omega
      · -- letter 66
        have HE := Lib.hid (show Ev.readsTo i ((L.map (·.toNat)).take (j + 1)) = Ev.readsTo i ((L.map (·.toNat)).take j) ++ [i.b] by
          rw [readsTo_snoc i hx, hc]; rfl)
        generalize i.b = x at *
        go_wp2_with (at_builtin; refine wpList_append_own_at _ rfl (.tmp 25) (.tmp 28) _ rfl w2.heap.size 3 i0 (.int .i64 0) 1 8 Try.underlying42 II.out.1 II.out.2.1 II.out.2.2.1 II.out.2.2.2 rfl (by decide) _ _ _ rfl (OW.out.alloc _) ⟨wr.heap.size, 0, none⟩ 1 1 [.int .i64 x] rfl rfl (cell_one_new _ _ _) (fun x hx => by simp at hx; subst hx; rfl) (by unfold maxLen; omega) (by omega) (by simp; omega) ?_; intro v3 w3 hown3 hg3 hn3 hat3)
        replace hown3 : w3.ownsRow w2.heap.size 3 1 v3 (Ev.readsTo i ((L.map (·.toNat)).take (j + 1))).length ((Ev.readsTo i ((L.map (·.toNat)).take (j + 1))).map (Value.int .i64)) := by
          rw [HE.out, List.map_append, List.length_append]; exact hown3
        have hb3 := (hB.alloc (by omega) (.cells #[.int .i64 x] 3)).grown hg3 (by simp; omega) (fun q hq => (OW.out.lt q hq).1)
        go_wp2_with fail
        go_roundw
        case rel => exact ⟨j + 1, by omega, by go_num, hown3, hb3⟩
        case measure => simp [intOf]; omega
      · -- letter 67
        have HE := Lib.hid (show Ev.readsTo i ((L.map (·.toNat)).take (j + 1)) = Ev.readsTo i ((L.map (·.toNat)).take j) ++ [i.c] by
          rw [readsTo_snoc i hx, hc]; rfl)
        generalize i.c = x at *
        go_wp2_with (at_builtin; refine wpList_append_own_at _ rfl (.tmp 32) (.tmp 35) _ rfl w2.heap.size 3 i0 (.int .i64 0) 1 8 Try.underlying42 II.out.1 II.out.2.1 II.out.2.2.1 II.out.2.2.2 rfl (by decide) _ _ _ rfl (OW.out.alloc _) ⟨wr.heap.size, 0, none⟩ 1 1 [.int .i64 x] rfl rfl (cell_one_new _ _ _) (fun x hx => by simp at hx; subst hx; rfl) (by unfold maxLen; omega) (by omega) (by simp; omega) ?_; intro v3 w3 hown3 hg3 hn3 hat3)
        replace hown3 : w3.ownsRow w2.heap.size 3 1 v3 (Ev.readsTo i ((L.map (·.toNat)).take (j + 1))).length ((Ev.readsTo i ((L.map (·.toNat)).take (j + 1))).map (Value.int .i64)) := by
          rw [HE.out, List.map_append, List.length_append]; exact hown3
        have hb3 := (hB.alloc (by omega) (.cells #[.int .i64 x] 3)).grown hg3 (by simp; omega) (fun q hq => (OW.out.lt q hq).1)
        go_wp2_with fail
        go_roundw
        case rel => exact ⟨j + 1, by omega, by go_num, hown3, hb3⟩
        case measure => simp [intOf]; omega
      · -- letter 68
        have HE := Lib.hid (show Ev.readsTo i ((L.map (·.toNat)).take (j + 1)) = Ev.readsTo i ((L.map (·.toNat)).take j) ++ [i.d] by
          rw [readsTo_snoc i hx, hc]; rfl)
        generalize i.d = x at *
        go_wp2_with (at_builtin; refine wpList_append_own_at _ rfl (.tmp 39) (.tmp 42) _ rfl w2.heap.size 3 i0 (.int .i64 0) 1 8 Try.underlying42 II.out.1 II.out.2.1 II.out.2.2.1 II.out.2.2.2 rfl (by decide) _ _ _ rfl (OW.out.alloc _) ⟨wr.heap.size, 0, none⟩ 1 1 [.int .i64 x] rfl rfl (cell_one_new _ _ _) (fun x hx => by simp at hx; subst hx; rfl) (by unfold maxLen; omega) (by omega) (by simp; omega) ?_; intro v3 w3 hown3 hg3 hn3 hat3)
        replace hown3 : w3.ownsRow w2.heap.size 3 1 v3 (Ev.readsTo i ((L.map (·.toNat)).take (j + 1))).length ((Ev.readsTo i ((L.map (·.toNat)).take (j + 1))).map (Value.int .i64)) := by
          rw [HE.out, List.map_append, List.length_append]; exact hown3
        have hb3 := (hB.alloc (by omega) (.cells #[.int .i64 x] 3)).grown hg3 (by simp; omega) (fun q hq => (OW.out.lt q hq).1)
        go_wp2_with fail
        go_roundw
        case rel => exact ⟨j + 1, by omega, by go_num, hown3, hb3⟩
        case measure => simp [intOf]; omega
      · -- the last one
        have HE := Lib.hid (show Ev.readsTo i ((L.map (·.toNat)).take (j + 1)) = Ev.readsTo i ((L.map (·.toNat)).take j) by
          rw [readsTo_snoc i hx, hc]; exact List.append_nil _)
        go_wp2_with fail
        go_roundw
        case rel => exact ⟨j + 1, by omega, by go_num, by rw [HE.out]; exact OW.out, hB⟩
        case measure => simp [intOf]; omega
    · have hje : j = s.size := by omega
      subst hje
      go_wp2
      go_ret
      have h := OW.out
      have e : (L.map (·.toNat)).take s.size = L.map (·.toNat) := List.take_of_length_le (by rw [List.length_map, HL.out]; exact Nat.le_refl _)
      rw [e, ← HLL.out, HRD.out] at h
      refine ⟨_, rfl, own_less h (by omega), ?_⟩
      have := BX.out
      have hb4 : Below w.heap.size w w2 := by (repeat' first | with_reducible (first | exact Below.refl _ _ | assumption | refine Below.alloc ?_ ?_ _ | refine below_drewN ?_ _ | refine Below.drew ?_ | refine Below.setCell ?_ ?_ _ | refine Below.trans ?_ (Below.mono (by with_reducible assumption) ?_)) | go_size)
      (repeat' first | with_reducible (first | exact Below.refl _ _ | assumption | refine Below.alloc ?_ ?_ _ | refine below_drewN ?_ _ | refine Below.drew ?_ | refine Below.setCell ?_ ?_ _ | refine Below.trans ?_ (Below.mono (by with_reducible assumption) ?_)) | go_size)
end Go.Proofs.Ytljcgcllhcdleaa
/- A drawn region in one given order: an operation is taken when it leaves the world alone and reads only what stays (it is 'light'), or when nothing else may come up (it is 'heavy': a call, a store, an append). -/
namespace Go.Proofs.Ytljcgcllhcdleaa
open Go.RowKit
section
variable {P : Program} {ops : Array Oper} {Q : Exit → Act → World → Prop} {S : World → Prop}

/-- is the order one in which the region may be walked? -/
def ordered (ops : Array Oper) : List (Nat × Bool) → Array Bool → Bool
  | [], listed => (Region.ready .any ops listed).isEmpty
  | (i, light) :: rest, listed =>
    (if light then Region.free .any ops listed i && (Region.ready .any ops listed).contains i else Region.ready .any ops listed == [i]) && ordered ops rest (listed.setIfInBounds i true)

/-- light: in every world that is right it leaves v, and the world as it is -/
def light1 (P : Program) (ops : Array Oper) (S : World → Prop) (o : Oper) (a : Act) (v : Value) : Prop := YieldsIf P ops S o v a

theorem light_plain {o : Oper} {a : Act} {v : Value} (hg : o.guard = none) (h : ∀ w, S w → (execOp a.eval o).run P w = .ok (.value v) w) : light1 P ops S o a v :=
  .inl ⟨by simp [Region.wanted, hg], h⟩
theorem light_yes {o : Oper} {a : Act} {v : Value} (hw : Region.wanted o (yielded ops a.tmps) = true) (h : ∀ w, S w → (execOp a.eval o).run P w = .ok (.value v) w) : light1 P ops S o a v :=
  .inl ⟨hw, h⟩
theorem light_no {o : Oper} {a : Act} (hw : Region.wanted o (yielded ops a.tmps) = false) : light1 P ops S o a undef := .inr ⟨hw, rfl⟩

/-- the walk in an order -/
def trail (P : Program) (ops : Array Oper) (Q : Exit → Act → World → Prop) (S : World → Prop) : List (Nat × Bool) → Act → World → Prop
  | [], a, w => Q .normal a w
  | (i, true) :: rest, a, w => ∃ o v, ops[i]? = some o ∧ (∀ c a' w', Q (.panic c) (a'.put o.dst v) w' → Q (.panic c) a' w') ∧ light1 P ops S o a v ∧ trail P ops Q S rest (a.put o.dst v) w
  | (i, false) :: rest, a, w => wpOp P ops Q i (fun a' w' => S w' ∧ trail P ops Q S rest a' w') a w

theorem trail_wpAnyH (hs : Region.noSelect ops = true) : ∀ (order : List (Nat × Bool)) (fuel : Nat) (listed : Array Bool) (a : Act) (w : World), order.length ≤ fuel → ordered ops order listed = true → S w → trail P ops Q S order a w → wpAnyH P .any ops Q S fuel listed a w
  | [], fuel, listed, a, w, _, ho, _, h => wpAnyH_done (by unfold ordered at ho; simpa using ho) h fuel
  | (i, l) :: rest, 0, listed, a, w, hf, _, _, _ => absurd hf (by simp)
  | (i, true) :: rest, fuel + 1, listed, a, w, hf, ho, hS, h => by
    obtain ⟨o, v, hi, hQ, hl, hr⟩ := h
    unfold ordered at ho
    simp only [if_true, Bool.and_eq_true] at ho
    exact wpAnyH_take hi hs ho.1.1 ho.1.2 (fun c a' w' => hQ c a' w') hl hS (trail_wpAnyH hs rest fuel _ _ _ (by simpa using hf) ho.2 hS hr)
  | (i, false) :: rest, fuel + 1, listed, a, w, hf, ho, hS, h => by
    unfold ordered at ho
    simp only [Bool.false_eq_true, if_false, Bool.and_eq_true, beq_iff_eq] at ho
    refine wpAnyH_all ho.1 (by simp) fun j hj => ?_
    have : j = i := by simpa using hj
    subst this
    exact wpOp_mono (fun a' w' h' => ⟨h'.1, trail_wpAnyH hs rest fuel _ _ _ (by simpa using hf) ho.2 h'.1 h'.2⟩) h

theorem wp_region_trail {id : Nat} {a : Act} {w : World} (S : World → Prop) (order : List (Nat × Bool)) (hm : P.follows .mixedOrders = true) (hs : Region.noSelect ops = true)
    (ho : ordered ops order (Array.replicate ops.size false) = true) (hl : order.length ≤ ops.size) (hS : S w.drew) (h : trail P ops Q S order a w.drew) : (Code.region id ops true).wp P Q a w :=
  wp_region_held hm (trail_wpAnyH hs order _ _ _ _ hl ho hS h)

theorem trail_light {i : Nat} {o : Oper} {rest : List (Nat × Bool)} {a : Act} {w : World} {v : Value} (hi : ops[i]? = some o) (hl : light1 P ops S o a v) (hQ : ∀ c a' w', Q (.panic c) (a'.put o.dst v) w' → Q (.panic c) a' w')
    (hr : trail P ops Q S rest (a.put o.dst v) w) : trail P ops Q S ((i, true) :: rest) a w := ⟨o, v, hi, hQ, hl, hr⟩
theorem trail_nil {a : Act} {w : World} (h : Q .normal a w) : trail P ops Q S [] a w := h
/-- K where it goes on, else Q -/
def onNormal (K : Act → World → Prop) (Q : Exit → Act → World → Prop) : Exit → Act → World → Prop
  | .normal, a, w => K a w
  | e, a, w => Q e a w
theorem trail_heavy {i : Nat} {o : Oper} {rest : List (Nat × Bool)} {a : Act} {w : World} (hi : ops[i]? = some o)
    (h : wpList P ops (onNormal (fun a' w' => S w' ∧ trail P ops Q S rest a' w') Q) [o] a w) : trail P ops Q S ((i, false) :: rest) a w := by
  show wpOp P ops Q i (fun a' w' => S w' ∧ trail P ops Q S rest a' w') a w
  unfold wpOp
  simp only [hi]
  unfold wpList at h
  split
  · rename_i hw
    rw [if_pos hw] at h
    refine h.imp (fun h => ?_) (fun h => ⟨h.1, ?_⟩)
    · unfold Oper.wp at *
      generalize (execOp a.eval o).run P w = r at *
      cases r with
      | ok n w' =>
        cases n <;> simp only [Oper.upon] at h ⊢ <;> exact h
      | halt x w' => cases x <;> simp only [Oper.upon] at h ⊢ <;> exact h
    · obtain ⟨a', w', h2⟩ := h.2
      exact ⟨a', w', h2⟩
  · rename_i hw
    rw [if_neg hw] at h
    exact h
end
end Go.Proofs.Ytljcgcllhcdleaa
/- A drawn region whose last operation (a store) waits for all others: ahead of it the walk is a trail over the others, and what holds of the worlds there need not hold behind it. -/
namespace Go.Proofs.Ytljcgcllhcdleaa
open Go.RowKit
set_option linter.unusedSimpArgs false
section
variable {P : Program} {ops : Array Oper} {Q : Exit → Act → World → Prop} {S : World → Prop}

/-- the last one waits for all others; no guard looks at it -/
def lastWaits (ops : Array Oper) (p : Nat) : Bool :=
  decide (p + 1 = ops.size) && (List.range p).all fun k => (Region.waitsFor .any ops p k || (List.range p).any fun j => Region.waitsFor .any ops p j && Region.waitsFor .any ops j k) && match ops[k]? with
    | some o => o.after.all (fun e => decide (e.on < p)) && match o.guard with
      | some (g, _) => decide (g < p)
      | none => true
    | none => true

theorem lastWaits_spec {p : Nat} (h : lastWaits ops p = true) : p + 1 = ops.size ∧ (∀ k, k < p → Region.waitsFor .any ops p k = true ∨ ∃ j, j < p ∧ Region.waitsFor .any ops p j = true ∧ Region.waitsFor .any ops j k = true) ∧
    (∀ k o, k < p → ops[k]? = some o → (∀ e ∈ o.after, e.on < p) ∧ ∀ g b, o.guard = some (g, b) → g < p) := by
  unfold lastWaits at h
  rw [Bool.and_eq_true, decide_eq_true_eq, List.all_eq_true] at h
  refine ⟨h.1, fun k hk => ?_, fun k o hk ho => ?_⟩
  · have := h.2 k (List.mem_range.2 hk)
    rw [Bool.and_eq_true] at this
    have h1 := this.1
    rw [Bool.or_eq_true, List.any_eq_true] at h1
    refine h1.imp id fun ⟨j, hj, h2⟩ => ⟨j, List.mem_range.1 hj, ?_⟩
    rw [Bool.and_eq_true] at h2
    exact h2
  · have := h.2 k (List.mem_range.2 hk)
    rw [Bool.and_eq_true] at this
    have h2 := this.2
    rw [ho] at h2
    simp only [Bool.and_eq_true, Array.all_eq_true_iff_forall_mem, decide_eq_true_eq] at h2
    refine ⟨h2.1, fun g b hg => ?_⟩
    have h3 := h2.2
    rw [hg] at h3
    simpa using h3

theorem pop_get {p : Nat} (hp : p + 1 = ops.size) {k : Nat} (hk : k < p) : ops.pop[k]? = ops[k]? := by
  rw [Array.getElem?_pop]
  rw [if_pos (by omega)]

theorem pop_none {p : Nat} (hp : p + 1 = ops.size) {k : Nat} (hk : p ≤ k) : ops.pop[k]? = none := by
  rw [Array.getElem?_eq_none]
  simp
  omega

theorem wanted_pop {p : Nat} (hp : p + 1 = ops.size) {o : Oper} (hg : ∀ g b, o.guard = some (g, b) → g < p) (a : Act) : Region.wanted o (yielded ops.pop a.tmps) = Region.wanted o (yielded ops a.tmps) := by
  unfold Region.wanted
  cases ho : o.guard with
  | none => rfl
  | some gw =>
    obtain ⟨g, want⟩ := gw
    have hlt := hg g want ho
    have : yielded ops.pop a.tmps g = yielded ops a.tmps g := by
      unfold yielded
      rw [pop_get hp hlt]
    simp only [this]

theorem wpOp_pop {p i : Nat} (h : lastWaits ops p = true) (hi : i < p) {Z K : Act → World → Prop} {a : Act} {w : World} (hh : wpOp P ops.pop (onNormal Z Q) i K a w) : wpOp P ops Q i K a w := by
  obtain ⟨hp, _, hs⟩ := lastWaits_spec h
  unfold wpOp at *
  rw [pop_get hp hi] at hh
  cases ho : ops[i]? with
  | none => rw [ho] at hh; exact hh
  | some o =>
    rw [ho] at hh
    simp only at hh ⊢
    rw [wanted_pop hp (hs i o hi ho).2] at hh
    split
    · rename_i hw
      rw [if_pos hw] at hh
      refine hh.imp (fun h => ?_) (fun h => ⟨h.1, ?_⟩)
      · unfold Oper.wp at *
        generalize (execOp a.eval o).run P w = r at *
        cases r with
        | ok n w' =>
          cases n <;> simp only [Oper.upon] at h ⊢ <;> exact h
        | halt x w' => cases x <;> simp only [Oper.upon] at h ⊢ <;> exact h
      · obtain ⟨a', w', h2⟩ := h.2
        exact ⟨a', w', h2⟩
    · rename_i hw
      rw [if_neg hw] at hh
      exact hh

theorem ready_pop {p : Nat} (h : lastWaits ops p = true) {listed : Array Bool} (hsz : listed.size = ops.size) {i : Nat} (hi : i < p) : i ∈ Region.ready .any ops listed ↔ i ∈ Region.ready .any ops.pop listed.pop := by
  obtain ⟨hp, _, hs⟩ := lastWaits_spec h
  have hg : ∀ k b, k < p → listed.pop.getD k b = listed.getD k b := fun k b hk => by
    have h1 : k < listed.size := by omega
    have h2 : k < listed.size - 1 := by omega
    simp [Array.getD_eq_getD_getElem?, Array.getElem?_pop, h1, h2]
  rw [mem_ready, mem_ready, pop_get hp hi, hg i true hi]
  constructor
  · rintro ⟨h1, o, h2, h3⟩
    exact ⟨h1, o, h2, fun e he hb => by rw [hg e.on false ((hs i o hi h2).1 e he)]; exact h3 e he hb⟩
  · rintro ⟨h1, o, h2, h3⟩
    exact ⟨h1, o, h2, fun e he hb => by have := h3 e he hb; rwa [hg e.on false ((hs i o hi h2).1 e he)] at this⟩

theorem pop_set {listed : Array Bool} {p i : Nat} (hp : p + 1 = listed.size) (hi : i < p) : (listed.setIfInBounds i true).pop = listed.pop.setIfInBounds i true := by
  apply Array.ext_getElem?
  intro k
  simp only [Array.getElem?_pop, Array.getElem?_setIfInBounds, Array.size_setIfInBounds, Array.size_pop]
  by_cases hk : k < listed.size - 1
  · simp only [hk, if_true]
    by_cases hik : i = k
    · subst hik
      have : i < listed.size := by omega
      simp [this, hk]
    · simp [hik]
  · simp only [hk, if_false]
    by_cases hik : i = k
    · omega
    · simp [hik]

/-- what is listed has all that it waits for listed -/
def closedL (ops : Array Oper) (listed : Array Bool) : Prop := ∀ j oj, ops[j]? = some oj → listed.getD j false = true → ∀ e ∈ oj.after, Region.binds .any e = true → listed.getD e.on false = true
theorem closedL_set {listed : Array Bool} (hc : closedL ops listed) {i : Nat} {o : Oper} (hi : ops[i]? = some o) (hd : ∀ e ∈ o.after, Region.binds .any e = true → listed.getD e.on false = true) : closedL ops (listed.setIfInBounds i true) := by
  have keep : ∀ k, listed.getD k false = true → (listed.setIfInBounds i true).getD k false = true := fun k hk => by
    by_cases hki : k = i
    · subst hki
      rcases Nat.lt_or_ge k listed.size with h | h
      · simp [h]
      · simp [Array.getElem?_eq_none h] at hk
    · rw [getD_set_ne false (fun e => hki e.symm)]; exact hk
  intro j oj hj hl e he hb
  by_cases hji : j = i
  · subst hji
    rw [hi] at hj
    injection hj with hj
    subst hj
    exact keep _ (hd e he hb)
  · rw [getD_set_ne false (fun e => hji e.symm)] at hl
    exact keep _ (hc j oj hj hl e he hb)
theorem wpAny_last {p : Nat} (h : lastWaits ops p = true) (ho : orderly ops = true) :
    ∀ (fuel : Nat) (listed : Array Bool) (a : Act) (w : World), listed.size = ops.size → closedL ops listed → listed.getD p true = false →
    wpAnyH P .any ops.pop (onNormal (fun a' w' => wpOp P ops Q p (fun a2 w2 => Q .normal a2 w2) a' w') Q) S fuel listed.pop a w → wpAny P .any ops Q (fuel + 1) listed a w := by
  obtain ⟨hp, hw, hs⟩ := lastWaits_spec h
  intro fuel
  induction fuel with
  | zero =>
    intro listed a w hsz hcl hl H
    refine ⟨fun hr => ?_, fun i hi => ?_⟩
    · have := ready_none ho hr hsz p (by omega)
      rw [this] at hl; cases hl
    · have hir := hi
      obtain ⟨h1, o, h2, h3⟩ := mem_ready.1 hi
      have hil : i < ops.size := (Array.getElem?_eq_some_iff.1 h2).1
      by_cases hip : i = p
      · subst hip
        have hall : ∀ k, k < ops.size → (listed.setIfInBounds i true).getD k true = true := fun k hk => by
          by_cases hki : k = i
          · subst hki
            have : k < listed.size := by omega
            simp [this]
          · rw [getD_set_ne true (fun e => hki e.symm)]
            have hks : k < listed.size := by omega
            rw [show listed.getD k true = listed.getD k false by simp [hks]]
            have dir : ∀ j, Region.waitsFor .any ops i j = true → listed.getD j false = true := fun j hj => by
              obtain ⟨o', ho', e, he, hb, hek⟩ := Region.waitsFor_spec hj
              rw [h2] at ho'
              injection ho' with ho'
              subst ho'
              have := h3 e he hb
              rwa [hek] at this
            rcases hw k (by omega) with hd | ⟨j, _, hj1, hj2⟩
            · exact dir k hd
            · obtain ⟨o', ho', e, he, hb, hek⟩ := Region.waitsFor_spec hj2
              have := hcl j o' ho' (dir j hj1) e he hb
              rwa [hek] at this
        have hz := H.2
        refine wpOp_mono (fun a' w' hQ => ?_) hz
        refine ⟨?_, hQ⟩
        cases hr : Region.ready .any ops (listed.setIfInBounds i true) with
        | nil => rfl
        | cons x xs =>
          have hm : x ∈ Region.ready .any ops (listed.setIfInBounds i true) := by rw [hr]; exact List.mem_cons_self
          obtain ⟨g1, g2, g3, _⟩ := mem_ready.1 hm
          rw [hall x (Array.getElem?_eq_some_iff.1 g3).1] at g1
          cases g1
      · have := (ready_pop h hsz (by omega : i < p)).1 hir
        rw [H.1] at this
        cases this
  | succ fuel ih =>
    intro listed a w hsz hcl hl H
    refine ⟨fun hr => ?_, fun i hi => ?_⟩
    · have := ready_none ho hr hsz p (by omega)
      rw [this] at hl; cases hl
    · have hir := hi
      obtain ⟨h1, o, h2, h3⟩ := mem_ready.1 hi
      have hil : i < ops.size := (Array.getElem?_eq_some_iff.1 h2).1
      by_cases hip : i = p
      · subst hip
        have hall : ∀ k, k < ops.size → (listed.setIfInBounds i true).getD k true = true := fun k hk => by
          by_cases hki : k = i
          · subst hki
            have : k < listed.size := by omega
            simp [this]
          · rw [getD_set_ne true (fun e => hki e.symm)]
            have hks : k < listed.size := by omega
            rw [show listed.getD k true = listed.getD k false by simp [hks]]
            have dir : ∀ j, Region.waitsFor .any ops i j = true → listed.getD j false = true := fun j hj => by
              obtain ⟨o', ho', e, he, hb, hek⟩ := Region.waitsFor_spec hj
              rw [h2] at ho'
              injection ho' with ho'
              subst ho'
              have := h3 e he hb
              rwa [hek] at this
            rcases hw k (by omega) with hd | ⟨j, _, hj1, hj2⟩
            · exact dir k hd
            · obtain ⟨o', ho', e, he, hb, hek⟩ := Region.waitsFor_spec hj2
              have := hcl j o' ho' (dir j hj1) e he hb
              rwa [hek] at this
        have hnil : Region.ready .any ops (listed.setIfInBounds i true) = [] := by
          cases hr : Region.ready .any ops (listed.setIfInBounds i true) with
          | nil => rfl
          | cons x xs =>
            have hm : x ∈ Region.ready .any ops (listed.setIfInBounds i true) := by rw [hr]; exact List.mem_cons_self
            obtain ⟨g1, g2, g3, _⟩ := mem_ready.1 hm
            rw [hall x (Array.getElem?_eq_some_iff.1 g3).1] at g1
            cases g1
        have hpn : Region.ready .any ops.pop listed.pop = [] := by
          cases hr : Region.ready .any ops.pop listed.pop with
          | nil => rfl
          | cons x xs =>
            have hm : x ∈ Region.ready .any ops.pop listed.pop := by rw [hr]; exact List.mem_cons_self
            obtain ⟨g1, g2, g3, _⟩ := mem_ready.1 hm
            have hx : x < i := by
              have := (Array.getElem?_eq_some_iff.1 g3).1
              simp at this
              omega
            have hm2 := (ready_pop h hsz hx).2 hm
            obtain ⟨g1', _⟩ := mem_ready.1 hm2
            have := hall x (by omega)
            rw [getD_set_ne true (by omega)] at this
            rw [this] at g1'
            cases g1'
        have hz := H.1 hpn
        refine wpOp_mono (fun a' w' hQ => ?_) hz
        exact ⟨fun _ => hQ, by rw [hnil]; simp⟩
      · have hlt : i < p := by omega
        have h4 := H.2 i ((ready_pop h hsz hlt).1 hir)
        refine wpOp_mono (fun a' w' h5 => ?_) (wpOp_pop h hlt h4)
        refine ih (listed.setIfInBounds i true) a' w' (by simpa using hsz) (closedL_set hcl h2 h3) ?_ ?_
        · rw [getD_set_ne true hip]; exact hl
        · rw [pop_set (by omega) hlt]; exact h5.2

/-- **A drawn region that ends with a store**: the order speaks of all but the last operation. -/
theorem wp_region_last {id : Nat} {a : Act} {w : World} (S : World → Prop) (order : List (Nat × Bool)) (p : Nat) (hm : P.follows .mixedOrders = true) (hs : Region.noSelect ops.pop = true) (h : lastWaits ops p = true) (hy : orderly ops = true)
    (ho : ordered ops.pop order (Array.replicate ops.pop.size false) = true) (hl : decide (order.length ≤ ops.pop.size) = true) (hS : S w.drew)
    (ht : trail P ops.pop (onNormal (fun a' w' => wpOp P ops Q p (fun a2 w2 => Q .normal a2 w2) a' w') Q) S order a w.drew) : (Code.region id ops true).wp P Q a w := by
  obtain ⟨hp, _, _⟩ := lastWaits_spec h
  refine wp_region_any hm ?_
  have H := trail_wpAnyH hs order ops.pop.size (Array.replicate ops.pop.size false) a w.drew (of_decide_eq_true hl) ho hS ht
  have e : (Array.replicate ops.size false).pop = Array.replicate ops.pop.size false := by
    apply Array.ext_getElem?
    intro k
    simp [Array.getElem?_pop, Array.getElem?_replicate]
  have h1 := wpAny_last (S := S) h hy ops.pop.size (Array.replicate ops.size false) a w.drew (by simp) (fun j oj _ hl => by
    simp [Array.getD_eq_getD_getElem?, Array.getElem?_replicate] at hl
    split at hl <;> simp at hl) (by
    have : p < ops.size := by omega
    simp [this]) (by rw [e]; exact H)
  have e2 : ops.pop.size + 1 = ops.size := by simp; omega
  rw [e2] at h1
  exact h1
theorem last_op {p : Nat} {o : Oper} {a : Act} {w : World} (hi : ops[p]? = some o) (h : wpList P ops Q [o] a w) : wpOp P ops Q p (fun a2 w2 => Q .normal a2 w2) a w := by
  unfold wpOp
  simp only [hi]
  unfold wpList at h
  split
  · rename_i hw
    rw [if_pos hw] at h
    exact h
  · rename_i hw
    rw [if_neg hw] at h
    exact h
theorem last_at {p : Nat} {o : Oper} {a : Act} {w : World} (hi : ops[p]? = some o) (h : wpList P ops Q [o] a w) : onNormal (fun a' w' => wpOp P ops Q p (fun a2 w2 => Q .normal a2 w2) a' w') Q .normal a w := last_op hi h
end
end Go.Proofs.Ytljcgcllhcdleaa
