import Derived.Test.YtljcgcllhcdleaaMo3
import Derived.Test.YtljcgcllhcdleaaMo2
import Derived.Outline
/- Chapter 7: what is seen of an instruction. -/
namespace Go.Proofs.Ytljcgcllhcdleaa
open Go.RowKit
set_option linter.unusedSimpArgs false
set_option linter.unusedVariables false
/-- the operands that are seen, as bits -/
def whichOf (t : List Int) (op : Int) (al : Bool) : Int := if al then Ev.all op else if op ≤ 17 then Ev.seenOf t op else 0
def placeOf (i : Ev.Instr) (k : Nat) : Int := if k = 0 then i.a else if k = 1 then i.b else i.c
def seenAt (i : Ev.Instr) (v : List Int) (wh : Int) (k : Nat) : List Int :=
  if Ev.hasBit wh k then (if i.op = 17 ∧ k = 1 then [Ev.val v i.d] else if i.op = 16 ∧ k = 1 then [] else [Ev.val v (placeOf i k)]) else []
def seenTo (i : Ev.Instr) (v : List Int) (wh : Int) : Nat → List Int
  | 0 => []
  | k + 1 => seenTo i v wh k ++ seenAt i v wh k
theorem seenTo_le (i : Ev.Instr) (v : List Int) (wh : Int) : ∀ k, (seenTo i v wh k).length ≤ k
  | 0 => by simp [seenTo]
  | k + 1 => by
    have := seenTo_le i v wh k
    have h : (seenAt i v wh k).length ≤ 1 := by unfold seenAt; split <;> (try split) <;> (try split) <;> simp
    simp only [seenTo, List.length_append]
    omega
theorem op3 (op : Int) : ((op == 17) = true ∧ (op == 16) = false) ∨ ((op == 17) = false ∧ (op == 16) = true) ∨ ((op == 17) = false ∧ (op == 16) = false) := by
  by_cases h7 : op = 17
  · subst h7; exact .inl ⟨rfl, rfl⟩
  · have g7 : (op == 17) = false := by simpa using h7
    by_cases h6 : op = 16
    · subst h6; exact .inr (.inl ⟨rfl, rfl⟩)
    · exact .inr (.inr ⟨g7, by simpa using h6⟩)
/-- an instruction's place is one of n -/
def inR (n : Nat) (p : Int) : Prop := 0 ≤ p ∧ p < n
/-- whatever is seen lies in the places -/
def SeenIn (i : Ev.Instr) (n : Nat) (wh : Int) : Prop :=
  (0 ≤ wh ∧ wh ≤ 7) ∧ (∀ k, k < 3 → Ev.hasBit wh k = true → (i.op = 17 ∧ k = 1 → inR n i.d) ∧ (¬ (i.op = 17 ∧ k = 1) → ¬ (i.op = 16 ∧ k = 1) → inR n (placeOf i k))) ∧ (i.op = 19 → inR n i.a)
theorem seen_eq (t : List Int) (i : Ev.Instr) (v : List Int) (al : Bool) (h1 : 1 ≤ i.op) : Ev.seen t i v al = seenTo i v (whichOf t i.op al) 3 ++ (if i.op = 19 then [Ev.val v i.a] else []) := by
  by_cases h17 : i.op ≤ 17
  · have hw : whichOf t i.op al = if al then Ev.all i.op else Ev.seenOf t i.op := by unfold whichOf; rw [if_pos h17]
    rw [hw]
    unfold Ev.seen
    rw [if_neg (show ¬ i.op = 19 by omega), if_neg (by omega : ¬ ¬ (1 ≤ i.op ∧ i.op ≤ 17)), if_neg (show ¬ i.op = 19 by omega)]
    simp only [seenTo, seenAt, List.nil_append, List.append_nil]
    simp [placeOf]
  · have hw : whichOf t i.op al = 0 := by
      unfold whichOf
      rw [if_neg h17]
      have : Ev.all i.op = 0 := by
        unfold Ev.all
        rw [if_neg (by omega), if_neg (by omega), if_neg (by omega), if_neg (by omega), if_neg (by omega)]
      rw [this]
      split <;> rfl
    rw [hw]
    have h0 : ∀ k, Ev.hasBit 0 k = false := fun k => by unfold Ev.hasBit; simp
    have : seenTo i v 0 3 = [] := by simp [seenTo, seenAt, h0]
    rw [this]
    unfold Ev.seen
    rw [if_pos (by omega : ¬ (1 ≤ i.op ∧ i.op ≤ 17))]
    simp
/-- a bit, as the walk asks for it -/
theorem bit_yes {wh : Int} (h : 0 ≤ wh ∧ wh ≤ 7) (k : Nat) (hk : k < 3) (hb : Ev.hasBit wh k = true) : (bits .and .i64 wh (2 ^ k) == 0) = false := by
  obtain ⟨n, rfl⟩ : ∃ n : Nat, wh = n := ⟨wh.toNat, by omega⟩
  have hn : n < 8 := by omega
  clear h
  revert hb
  revert n
  revert k
  decide
theorem bit_no {wh : Int} (h : 0 ≤ wh ∧ wh ≤ 7) (k : Nat) (hk : k < 3) (hb : Ev.hasBit wh k = false) : (bits .and .i64 wh (2 ^ k) == 0) = true := by
  obtain ⟨n, rfl⟩ : ∃ n : Nat, wh = n := ⟨wh.toNat, by omega⟩
  have hn : n < 8 := by omega
  clear h
  revert hb
  revert n
  revert k
  decide
theorem RInts.val {w : World} {B : Nat} {vv : Value} {v : List Int} (h : RInts w B vv v) {p : Int} (hp : inR v.length p) :
    ∃ b o c, vv = .slice (some ⟨b, o, none⟩) v.length c ∧ b < B ∧ v.length ≤ c ∧ c ≤ maxLen ∧ w.cell? ⟨b, o + p.toNat, none⟩ = some (.int .i64 (Ev.val v p)) := by
  unfold inR at hp
  have hx : v[p.toNat]? = some (Ev.val v p) := by
    unfold Ev.val
    rw [List.getD_eq_getElem?_getD, List.getElem?_eq_getElem (by omega)]
    rfl
  obtain ⟨b, o, c, e, hb, _, h2, h3, hc⟩ := RInts.at_ h hx
  exact ⟨b, o, c, e, hb, h2, h3, hc⟩
theorem int_info : (Try.prog.info? 3).map (fun i => (i.zero, i.size, i.bytes)) = some (some (.int .i64 0), 1, 8) := by kernel_rfl


set_option maxRecDepth 8000 in
set_option maxHeartbeats 3200000 in
theorem seen_any (t : List Int) (i : Ev.Instr) (v : List Int) (al : Bool) (bt : Nat) (vv : Value) (w : World) (ht : TableAt w bt t) (hv : RInts w w.heap.size vv v) (hop : 1 ≤ i.op) (hin : SeenIn i v.length (whichOf t i.op al)) :
    Calls Try.prog 70 #[.pointer (some ⟨bt, 0, none⟩), .agg #[.int .i64 i.op, .int .i64 i.d, .int .i64 i.a, .int .i64 i.b, .int .i64 i.c, .int .i64 i.imm], vv, .bool al] w fun e w' => ∃ v', e = .returned v' ∧ RInts w' w'.heap.size v' (Ev.seen t i v al) ∧ from_ w.heap.size v' ∧ (∀ b, v'.ownBlock = some b → b < w'.heap.size) ∧ Below w.heap.size w w' := by
  have HT := Lib.hid ht
  have HV := Lib.hid hv
  have HI := Lib.hid hin
  have HS := Lib.hid (seen_eq t i v al hop)
  generalize Ev.seen t i v al = res at *
  have HW := Lib.hid (show whichOf t i.op al = if al then Ev.all i.op else if i.op ≤ 17 then Ev.seenOf t i.op else 0 from rfl)
  generalize whichOf t i.op al = wh at *
  have lt := ht.lt
  obtain ⟨i0, hi0, hz0, hz1, hz2⟩ := info_parts int_info
  have II := Lib.hid (⟨hi0, hz0, hz1, hz2⟩ : _ ∧ _ ∧ _ ∧ _)
  clear ht hv hin hi0 hz0 hz1 hz2
  cases al
  · by_cases h17 : i.op ≤ 17
    · have hwh : Ev.seenOf t i.op = wh := by have := HW.out; rw [if_neg (by decide), if_pos h17] at this; exact this.symm
      have hc := HT.out.cell i.op.toNat (by omega)
      have hw2 : t.getD i.op.toNat 0 = wh := hwh
      rw [hw2] at hc
      clear hw2 hwh
      go_enter Try.func70, Try.ntmps70
      go_wp2_with fail
      go_quiet (fail)
      go_wp2_with fail
      go_loopw [10, 35] (fun o kk wr => ∃ k : Nat, k ≤ 3 ∧ kk = .int .i64 k ∧ Hid (wr.ownsRow (w.heap.size + 1 + 1) 3 1 o (seenTo i v wh k).length ((seenTo i v wh k).map (Value.int .i64))) ∧ Below (w.heap.size + 1 + 1) (((w.alloc (.cells #[.int .i64 i.op, .int .i64 i.d, .int .i64 i.a, .int .i64 i.b, .int .i64 i.c, .int .i64 i.imm] 39)).drewN nq).alloc (.cells #[.int .i64 i.a, .int .i64 i.b, .int .i64 i.c] 3)) wr) (fun _ kk _ => 3 - (intOf kk).toNat)
      case atStart => exact ⟨0, by omega, rfl, World.ownsRow_nil _ _ _ _, by (repeat' first | with_reducible (first | exact Below.refl _ _ | assumption | refine Below.alloc ?_ ?_ _ | refine below_drewN ?_ _ | refine Below.drew ?_ | refine Below.setCell ?_ ?_ _ | refine Below.trans ?_ (Below.mono (by with_reducible assumption) ?_)) | go_size)⟩
      case round =>
        obtain ⟨k, hk, rfl, OW, hB⟩ := hrel
        have bx0 : wr.cell? ⟨w.heap.size, 0, none⟩ = some (.int .i64 i.op) := (hB.cell (p := ⟨w.heap.size, 0, none⟩) (by go_size)).trans (by go_simp)
        have bx1 : wr.cell? ⟨w.heap.size, 1, none⟩ = some (.int .i64 i.d) := (hB.cell (p := ⟨w.heap.size, 1, none⟩) (by go_size)).trans (by go_simp)
        have bx2 : wr.cell? ⟨w.heap.size, 2, none⟩ = some (.int .i64 i.a) := (hB.cell (p := ⟨w.heap.size, 2, none⟩) (by go_size)).trans (by go_simp)
        have bx3 : wr.cell? ⟨w.heap.size, 3, none⟩ = some (.int .i64 i.b) := (hB.cell (p := ⟨w.heap.size, 3, none⟩) (by go_size)).trans (by go_simp)
        have bx4 : wr.cell? ⟨w.heap.size, 4, none⟩ = some (.int .i64 i.c) := (hB.cell (p := ⟨w.heap.size, 4, none⟩) (by go_size)).trans (by go_simp)
        have bx5 : wr.cell? ⟨w.heap.size, 5, none⟩ = some (.int .i64 i.imm) := (hB.cell (p := ⟨w.heap.size, 5, none⟩) (by go_size)).trans (by go_simp)
        have lx0 : wr.cell? ⟨w.heap.size + 1, 0, none⟩ = some (.int .i64 i.a) := (hB.cell (p := ⟨w.heap.size + 1, 0, none⟩) (by go_size)).trans (by go_simp)
        have lx1 : wr.cell? ⟨w.heap.size + 1, 1, none⟩ = some (.int .i64 i.b) := (hB.cell (p := ⟨w.heap.size + 1, 1, none⟩) (by go_size)).trans (by go_simp)
        have lx2 : wr.cell? ⟨w.heap.size + 1, 2, none⟩ = some (.int .i64 i.c) := (hB.cell (p := ⟨w.heap.size + 1, 2, none⟩) (by go_size)).trans (by go_simp)
        have hs := hB.size
        have hBw : Below w.heap.size w wr := by (repeat' first | with_reducible (first | exact Below.refl _ _ | assumption | refine Below.alloc ?_ ?_ _ | refine below_drewN ?_ _ | refine Below.drew ?_ | refine Below.setCell ?_ ?_ _ | refine Below.trans ?_ (Below.mono (by with_reducible assumption) ?_)) | go_size)
        obtain ⟨kd, kg, sd⟩ := bfacts hBw
        (try simp only [World.size_alloc, World.size_setCell, World.size_drew, World.heap_drewN, Nat.add_one_le_iff] at hs)
        rcases (show k = 0 ∨ k = 1 ∨ k = 2 ∨ k = 3 by omega) with rfl | rfl | rfl | rfl
        ·
          cases hb : Ev.hasBit wh 0
          · have hb' := bit_no HI.out.1 0 (by decide) hb
            have HE := Lib.hid (show seenTo i v wh (0 + 1) = seenTo i v wh 0 by show seenTo i v wh 0 ++ seenAt i v wh 0 = _; rw [show seenAt i v wh 0 = [] by unfold seenAt; rw [hb]; rfl]; exact List.append_nil _)
            simp only [show (2 : Int) ^ 0 = 1 from rfl] at hb'
            clear hb
            go_wp2_with fail
            go_roundw
            case rel => exact ⟨0 + 1, by omega, by go_num, by rw [HE.out]; exact OW, by (repeat' first | with_reducible (first | exact Below.refl _ _ | assumption | refine Below.alloc ?_ ?_ _ | refine below_drewN ?_ _ | refine Below.drew ?_ | refine Below.setCell ?_ ?_ _ | refine Below.trans ?_ (Below.mono (by with_reducible assumption) ?_)) | go_size)⟩
            case measure => simp [intOf]
          · have hb' := bit_yes HI.out.1 0 (by decide) hb
            have HP := Lib.hid (HI.out.2.1 0 (by decide) hb)
            have hl := seenTo_le i v wh 0
            have HE := Lib.hid (show seenTo i v wh (0 + 1) = seenTo i v wh 0 ++ seenAt i v wh 0 from rfl)
            have HA := Lib.hid (show seenAt i v wh 0 = (if i.op = 17 ∧ 0 = 1 then [Ev.val v i.d] else if i.op = 16 ∧ 0 = 1 then [] else [Ev.val v (placeOf i 0)]) by unfold seenAt; rw [hb]; rfl)
            simp only [show (2 : Int) ^ 0 = 1 from rfl] at hb'
            clear hb
            have hp : inR v.length i.a := HP.out.2 (by omega) (by omega)
            have HQ := Lib.hid (show seenAt i v wh 0 = [Ev.val v i.a] by rw [HA.out, if_neg (by omega), if_neg (by omega)]; rfl)
            obtain ⟨vb, vo, vc, hvv, hvb, hlc, hcm, hcell⟩ := HV.out.val hp
            subst hvv
            obtain ⟨hp0, hp1⟩ := hp
            unfold maxLen at hcm
            generalize Ev.val v i.a = x at *
            (try clear h7)
            (try clear h6)
            rcases op3 i.op with ⟨g7, g6⟩ | ⟨g7, g6⟩ | ⟨g7, g6⟩
            all_goals
              go_wp2_with (at_builtin; refine wpList_append_own_at _ rfl (.tmp 45) (.tmp 50) _ rfl (w.heap.size + 1 + 1) 3 i0 (.int .i64 0) 1 8 Try.underlying42 II.out.1 II.out.2.1 II.out.2.2.1 II.out.2.2.2 rfl (by decide) _ _ _ rfl (OW.out.alloc _) ⟨wr.heap.size, 0, none⟩ 1 1 [.int .i64 x] rfl rfl (cell_one_new _ _ _) (fun x hx => by simp at hx; subst hx; rfl) (by unfold maxLen; omega) (by omega) (by simp; omega) ?_; intro v2 w2 hown2 hg2 hn2 hat2)
              replace hown2 : w2.ownsRow (w.heap.size + 1 + 1) 3 1 v2 (seenTo i v wh (0 + 1)).length ((seenTo i v wh (0 + 1)).map (Value.int .i64)) := by
                rw [HE.out, HQ.out, List.map_append, List.length_append]; exact hown2
              have hb2 := (hB.alloc (by omega) (.cells #[.int .i64 x] 3)).grown hg2 (by simp; omega) (fun q hq => (OW.out.lt q hq).1)
              go_wp2_with fail
              go_roundw
              case rel => exact ⟨0 + 1, by omega, by go_num, hown2, hb2⟩
              case measure => simp [intOf]

        ·
          cases hb : Ev.hasBit wh 1
          · have hb' := bit_no HI.out.1 1 (by decide) hb
            have HE := Lib.hid (show seenTo i v wh (1 + 1) = seenTo i v wh 1 by show seenTo i v wh 1 ++ seenAt i v wh 1 = _; rw [show seenAt i v wh 1 = [] by unfold seenAt; rw [hb]; rfl]; exact List.append_nil _)
            simp only [show (2 : Int) ^ 1 = 2 from rfl] at hb'
            clear hb
            go_wp2_with fail
            go_roundw
            case rel => exact ⟨1 + 1, by omega, by go_num, by rw [HE.out]; exact OW, by (repeat' first | with_reducible (first | exact Below.refl _ _ | assumption | refine Below.alloc ?_ ?_ _ | refine below_drewN ?_ _ | refine Below.drew ?_ | refine Below.setCell ?_ ?_ _ | refine Below.trans ?_ (Below.mono (by with_reducible assumption) ?_)) | go_size)⟩
            case measure => simp [intOf]
          · have hb' := bit_yes HI.out.1 1 (by decide) hb
            have HP := Lib.hid (HI.out.2.1 1 (by decide) hb)
            have hl := seenTo_le i v wh 1
            have HE := Lib.hid (show seenTo i v wh (1 + 1) = seenTo i v wh 1 ++ seenAt i v wh 1 from rfl)
            have HA := Lib.hid (show seenAt i v wh 1 = (if i.op = 17 ∧ 1 = 1 then [Ev.val v i.d] else if i.op = 16 ∧ 1 = 1 then [] else [Ev.val v (placeOf i 1)]) by unfold seenAt; rw [hb]; rfl)
            simp only [show (2 : Int) ^ 1 = 2 from rfl] at hb'
            clear hb
            by_cases h7 : i.op = 17
            · have g7 : (i.op == 17) = true := by simpa using h7
              have g6 : (i.op == 16) = false := by simp; omega
              have hp : inR v.length i.d := HP.out.1 ⟨h7, rfl⟩
              have HQ := Lib.hid (show seenAt i v wh 1 = [Ev.val v i.d] by rw [HA.out, if_pos ⟨h7, rfl⟩])
              obtain ⟨vb, vo, vc, hvv, hvb, hlc, hcm, hcell⟩ := HV.out.val hp
              subst hvv
              obtain ⟨hp0, hp1⟩ := hp
              unfold maxLen at hcm
              generalize Ev.val v i.d = x at *
              (try clear h7)
              (try clear h6)
              skip
              all_goals
                go_wp2_with (at_builtin; refine wpList_append_own_at _ rfl (.tmp 60) (.tmp 66) _ rfl (w.heap.size + 1 + 1) 3 i0 (.int .i64 0) 1 8 Try.underlying42 II.out.1 II.out.2.1 II.out.2.2.1 II.out.2.2.2 rfl (by decide) _ _ _ rfl (OW.out.alloc _) ⟨wr.heap.size, 0, none⟩ 1 1 [.int .i64 x] rfl rfl (cell_one_new _ _ _) (fun x hx => by simp at hx; subst hx; rfl) (by unfold maxLen; omega) (by omega) (by simp; omega) ?_; intro v2 w2 hown2 hg2 hn2 hat2)
                replace hown2 : w2.ownsRow (w.heap.size + 1 + 1) 3 1 v2 (seenTo i v wh (1 + 1)).length ((seenTo i v wh (1 + 1)).map (Value.int .i64)) := by
                  rw [HE.out, HQ.out, List.map_append, List.length_append]; exact hown2
                have hb2 := (hB.alloc (by omega) (.cells #[.int .i64 x] 3)).grown hg2 (by simp; omega) (fun q hq => (OW.out.lt q hq).1)
                go_wp2_with fail
                go_roundw
                case rel => exact ⟨1 + 1, by omega, by go_num, hown2, hb2⟩
                case measure => simp [intOf]
            · have g7 : (i.op == 17) = false := by simpa using h7
              by_cases h6 : i.op = 16
              · have g6 : (i.op == 16) = true := by simpa using h6
                have HQ := Lib.hid (show seenTo i v wh (1 + 1) = seenTo i v wh 1 by rw [HE.out, HA.out, if_neg (by omega), if_pos ⟨h6, rfl⟩, List.append_nil])
                go_wp2_with fail
                go_roundw
                case rel => exact ⟨1 + 1, by omega, by go_num, by rw [HQ.out]; exact OW, by (repeat' first | with_reducible (first | exact Below.refl _ _ | assumption | refine Below.alloc ?_ ?_ _ | refine below_drewN ?_ _ | refine Below.drew ?_ | refine Below.setCell ?_ ?_ _ | refine Below.trans ?_ (Below.mono (by with_reducible assumption) ?_)) | go_size)⟩
                case measure => simp [intOf]
              · have g6 : (i.op == 16) = false := by simpa using h6
                have hp : inR v.length i.b := HP.out.2 (by omega) (by omega)
                have HQ := Lib.hid (show seenAt i v wh 1 = [Ev.val v i.b] by rw [HA.out, if_neg (by omega), if_neg (by omega)]; rfl)
                obtain ⟨vb, vo, vc, hvv, hvb, hlc, hcm, hcell⟩ := HV.out.val hp
                subst hvv
                obtain ⟨hp0, hp1⟩ := hp
                unfold maxLen at hcm
                generalize Ev.val v i.b = x at *
                (try clear h7)
                (try clear h6)
                skip
                all_goals
                  go_wp2_with (at_builtin; refine wpList_append_own_at _ rfl (.tmp 45) (.tmp 50) _ rfl (w.heap.size + 1 + 1) 3 i0 (.int .i64 0) 1 8 Try.underlying42 II.out.1 II.out.2.1 II.out.2.2.1 II.out.2.2.2 rfl (by decide) _ _ _ rfl (OW.out.alloc _) ⟨wr.heap.size, 0, none⟩ 1 1 [.int .i64 x] rfl rfl (cell_one_new _ _ _) (fun x hx => by simp at hx; subst hx; rfl) (by unfold maxLen; omega) (by omega) (by simp; omega) ?_; intro v2 w2 hown2 hg2 hn2 hat2)
                  replace hown2 : w2.ownsRow (w.heap.size + 1 + 1) 3 1 v2 (seenTo i v wh (1 + 1)).length ((seenTo i v wh (1 + 1)).map (Value.int .i64)) := by
                    rw [HE.out, HQ.out, List.map_append, List.length_append]; exact hown2
                  have hb2 := (hB.alloc (by omega) (.cells #[.int .i64 x] 3)).grown hg2 (by simp; omega) (fun q hq => (OW.out.lt q hq).1)
                  go_wp2_with fail
                  go_roundw
                  case rel => exact ⟨1 + 1, by omega, by go_num, hown2, hb2⟩
                  case measure => simp [intOf]

        ·
          cases hb : Ev.hasBit wh 2
          · have hb' := bit_no HI.out.1 2 (by decide) hb
            have HE := Lib.hid (show seenTo i v wh (2 + 1) = seenTo i v wh 2 by show seenTo i v wh 2 ++ seenAt i v wh 2 = _; rw [show seenAt i v wh 2 = [] by unfold seenAt; rw [hb]; rfl]; exact List.append_nil _)
            simp only [show (2 : Int) ^ 2 = 4 from rfl] at hb'
            clear hb
            go_wp2_with fail
            go_roundw
            case rel => exact ⟨2 + 1, by omega, by go_num, by rw [HE.out]; exact OW, by (repeat' first | with_reducible (first | exact Below.refl _ _ | assumption | refine Below.alloc ?_ ?_ _ | refine below_drewN ?_ _ | refine Below.drew ?_ | refine Below.setCell ?_ ?_ _ | refine Below.trans ?_ (Below.mono (by with_reducible assumption) ?_)) | go_size)⟩
            case measure => simp [intOf]
          · have hb' := bit_yes HI.out.1 2 (by decide) hb
            have HP := Lib.hid (HI.out.2.1 2 (by decide) hb)
            have hl := seenTo_le i v wh 2
            have HE := Lib.hid (show seenTo i v wh (2 + 1) = seenTo i v wh 2 ++ seenAt i v wh 2 from rfl)
            have HA := Lib.hid (show seenAt i v wh 2 = (if i.op = 17 ∧ 2 = 1 then [Ev.val v i.d] else if i.op = 16 ∧ 2 = 1 then [] else [Ev.val v (placeOf i 2)]) by unfold seenAt; rw [hb]; rfl)
            simp only [show (2 : Int) ^ 2 = 4 from rfl] at hb'
            clear hb
            have hp : inR v.length i.c := HP.out.2 (by omega) (by omega)
            have HQ := Lib.hid (show seenAt i v wh 2 = [Ev.val v i.c] by rw [HA.out, if_neg (by omega), if_neg (by omega)]; rfl)
            obtain ⟨vb, vo, vc, hvv, hvb, hlc, hcm, hcell⟩ := HV.out.val hp
            subst hvv
            obtain ⟨hp0, hp1⟩ := hp
            unfold maxLen at hcm
            generalize Ev.val v i.c = x at *
            (try clear h7)
            (try clear h6)
            rcases op3 i.op with ⟨g7, g6⟩ | ⟨g7, g6⟩ | ⟨g7, g6⟩
            all_goals
              go_wp2_with (at_builtin; refine wpList_append_own_at _ rfl (.tmp 45) (.tmp 50) _ rfl (w.heap.size + 1 + 1) 3 i0 (.int .i64 0) 1 8 Try.underlying42 II.out.1 II.out.2.1 II.out.2.2.1 II.out.2.2.2 rfl (by decide) _ _ _ rfl (OW.out.alloc _) ⟨wr.heap.size, 0, none⟩ 1 1 [.int .i64 x] rfl rfl (cell_one_new _ _ _) (fun x hx => by simp at hx; subst hx; rfl) (by unfold maxLen; omega) (by omega) (by simp; omega) ?_; intro v2 w2 hown2 hg2 hn2 hat2)
              replace hown2 : w2.ownsRow (w.heap.size + 1 + 1) 3 1 v2 (seenTo i v wh (2 + 1)).length ((seenTo i v wh (2 + 1)).map (Value.int .i64)) := by
                rw [HE.out, HQ.out, List.map_append, List.length_append]; exact hown2
              have hb2 := (hB.alloc (by omega) (.cells #[.int .i64 x] 3)).grown hg2 (by simp; omega) (fun q hq => (OW.out.lt q hq).1)
              go_wp2_with fail
              go_roundw
              case rel => exact ⟨2 + 1, by omega, by go_num, hown2, hb2⟩
              case measure => simp [intOf]

        · have hl := seenTo_le i v wh 3
          by_cases h19 : i.op = 19
          · have g19 : (i.op == 19) = true := by simpa using h19
            have HR := Lib.hid (show res = seenTo i v wh 3 ++ [Ev.val v i.a] by rw [HS.out, if_pos h19])
            have hp : inR v.length i.a := HI.out.2.2 h19
            obtain ⟨vb, vo, vc, hvv, hvb, hlc, hcm, hcell⟩ := HV.out.val hp
            subst hvv
            obtain ⟨hp0, hp1⟩ := hp
            unfold maxLen at hcm
            generalize Ev.val v i.a = x at *
            clear h19
            go_wp2_with (at_builtin; refine wpList_append_own_at _ rfl (.tmp 80) (.tmp 86) _ rfl (w.heap.size + 1 + 1) 3 i0 (.int .i64 0) 1 8 Try.underlying42 II.out.1 II.out.2.1 II.out.2.2.1 II.out.2.2.2 rfl (by decide) _ _ _ rfl (OW.out.alloc _) ⟨wr.heap.size, 0, none⟩ 1 1 [.int .i64 x] rfl rfl (cell_one_new _ _ _) (fun x hx => by simp at hx; subst hx; rfl) (by unfold maxLen; omega) (by omega) (by simp; omega) ?_; intro v2 w2 hown2 hg2 hn2 hat2)
            go_ret
            have hb2 := (hB.alloc (by omega) (.cells #[.int .i64 x] 3)).grown hg2 (by simp; omega) (fun q hq => (OW.out.lt q hq).1)
            refine ⟨_, rfl, ?_, (from_own hown2).less (by omega), fun b hb => (hown2.lt b hb).2, by (repeat' first | with_reducible (first | exact Below.refl _ _ | assumption | refine Below.alloc ?_ ?_ _ | refine below_drewN ?_ _ | refine Below.drew ?_ | refine Below.setCell ?_ ?_ _ | refine Below.trans ?_ (Below.mono (by with_reducible assumption) ?_)) | go_size)⟩
            have := SL.of_own hown2
            rw [HR.out]
            show SL _ _ _ _ _ _
            rw [List.map_append, List.length_append]
            exact this
          · have g19 : (i.op == 19) = false := by simpa using h19
            have HR := Lib.hid (show res = seenTo i v wh 3 by rw [HS.out, if_neg h19, List.append_nil])
            go_wp2_with fail
            go_ret
            refine ⟨_, rfl, ?_, (from_own OW.out).less (by omega), fun b hb => (OW.out.lt b hb).2, by (repeat' first | with_reducible (first | exact Below.refl _ _ | assumption | refine Below.alloc ?_ ?_ _ | refine below_drewN ?_ _ | refine Below.drew ?_ | refine Below.setCell ?_ ?_ _ | refine Below.trans ?_ (Below.mono (by with_reducible assumption) ?_)) | go_size)⟩
            have := SL.of_own OW.out
            rw [HR.out]
            exact this
    · have hwh : wh = 0 := by have := HW.out; rw [if_neg (by decide), if_neg h17] at this; exact this
      subst hwh
      go_enter Try.func70, Try.ntmps70
      go_wp2_with fail
      go_loopw [10, 35] (fun o kk wr => ∃ k : Nat, k ≤ 3 ∧ kk = .int .i64 k ∧ Hid (wr.ownsRow (w.heap.size + 1 + 1) 3 1 o (seenTo i v 0 k).length ((seenTo i v 0 k).map (Value.int .i64))) ∧ Below (w.heap.size + 1 + 1) ((w.alloc (.cells #[.int .i64 i.op, .int .i64 i.d, .int .i64 i.a, .int .i64 i.b, .int .i64 i.c, .int .i64 i.imm] 39)).alloc (.cells #[.int .i64 i.a, .int .i64 i.b, .int .i64 i.c] 3)) wr) (fun _ kk _ => 3 - (intOf kk).toNat)
      case atStart => exact ⟨0, by omega, rfl, World.ownsRow_nil _ _ _ _, by (repeat' first | with_reducible (first | exact Below.refl _ _ | assumption | refine Below.alloc ?_ ?_ _ | refine below_drewN ?_ _ | refine Below.drew ?_ | refine Below.setCell ?_ ?_ _ | refine Below.trans ?_ (Below.mono (by with_reducible assumption) ?_)) | go_size)⟩
      case round =>
        obtain ⟨k, hk, rfl, OW, hB⟩ := hrel
        have bx0 : wr.cell? ⟨w.heap.size, 0, none⟩ = some (.int .i64 i.op) := (hB.cell (p := ⟨w.heap.size, 0, none⟩) (by go_size)).trans (by go_simp)
        have bx1 : wr.cell? ⟨w.heap.size, 1, none⟩ = some (.int .i64 i.d) := (hB.cell (p := ⟨w.heap.size, 1, none⟩) (by go_size)).trans (by go_simp)
        have bx2 : wr.cell? ⟨w.heap.size, 2, none⟩ = some (.int .i64 i.a) := (hB.cell (p := ⟨w.heap.size, 2, none⟩) (by go_size)).trans (by go_simp)
        have bx3 : wr.cell? ⟨w.heap.size, 3, none⟩ = some (.int .i64 i.b) := (hB.cell (p := ⟨w.heap.size, 3, none⟩) (by go_size)).trans (by go_simp)
        have bx4 : wr.cell? ⟨w.heap.size, 4, none⟩ = some (.int .i64 i.c) := (hB.cell (p := ⟨w.heap.size, 4, none⟩) (by go_size)).trans (by go_simp)
        have bx5 : wr.cell? ⟨w.heap.size, 5, none⟩ = some (.int .i64 i.imm) := (hB.cell (p := ⟨w.heap.size, 5, none⟩) (by go_size)).trans (by go_simp)
        have lx0 : wr.cell? ⟨w.heap.size + 1, 0, none⟩ = some (.int .i64 i.a) := (hB.cell (p := ⟨w.heap.size + 1, 0, none⟩) (by go_size)).trans (by go_simp)
        have lx1 : wr.cell? ⟨w.heap.size + 1, 1, none⟩ = some (.int .i64 i.b) := (hB.cell (p := ⟨w.heap.size + 1, 1, none⟩) (by go_size)).trans (by go_simp)
        have lx2 : wr.cell? ⟨w.heap.size + 1, 2, none⟩ = some (.int .i64 i.c) := (hB.cell (p := ⟨w.heap.size + 1, 2, none⟩) (by go_size)).trans (by go_simp)
        have hs := hB.size
        have hBw : Below w.heap.size w wr := by (repeat' first | with_reducible (first | exact Below.refl _ _ | assumption | refine Below.alloc ?_ ?_ _ | refine below_drewN ?_ _ | refine Below.drew ?_ | refine Below.setCell ?_ ?_ _ | refine Below.trans ?_ (Below.mono (by with_reducible assumption) ?_)) | go_size)
        obtain ⟨kd, kg, sd⟩ := bfacts hBw
        (try simp only [World.size_alloc, World.size_setCell, World.size_drew, World.heap_drewN, Nat.add_one_le_iff] at hs)
        rcases (show k = 0 ∨ k = 1 ∨ k = 2 ∨ k = 3 by omega) with rfl | rfl | rfl | rfl
        ·
          have hb : Ev.hasBit 0 0 = false := by decide
          have hb' : (bits .and .i64 0 1 == 0) = true := by decide
          have HE := Lib.hid (show seenTo i v 0 (0 + 1) = seenTo i v 0 0 by show seenTo i v 0 0 ++ seenAt i v 0 0 = _; rw [show seenAt i v 0 0 = [] by unfold seenAt; rw [hb]; rfl]; exact List.append_nil _)
          clear hb
          go_wp2_with fail
          go_roundw
          case rel => exact ⟨0 + 1, by omega, by go_num, by rw [HE.out]; exact OW, by (repeat' first | with_reducible (first | exact Below.refl _ _ | assumption | refine Below.alloc ?_ ?_ _ | refine below_drewN ?_ _ | refine Below.drew ?_ | refine Below.setCell ?_ ?_ _ | refine Below.trans ?_ (Below.mono (by with_reducible assumption) ?_)) | go_size)⟩
          case measure => simp [intOf]

        ·
          have hb : Ev.hasBit 0 1 = false := by decide
          have hb' : (bits .and .i64 0 2 == 0) = true := by decide
          have HE := Lib.hid (show seenTo i v 0 (1 + 1) = seenTo i v 0 1 by show seenTo i v 0 1 ++ seenAt i v 0 1 = _; rw [show seenAt i v 0 1 = [] by unfold seenAt; rw [hb]; rfl]; exact List.append_nil _)
          clear hb
          go_wp2_with fail
          go_roundw
          case rel => exact ⟨1 + 1, by omega, by go_num, by rw [HE.out]; exact OW, by (repeat' first | with_reducible (first | exact Below.refl _ _ | assumption | refine Below.alloc ?_ ?_ _ | refine below_drewN ?_ _ | refine Below.drew ?_ | refine Below.setCell ?_ ?_ _ | refine Below.trans ?_ (Below.mono (by with_reducible assumption) ?_)) | go_size)⟩
          case measure => simp [intOf]

        ·
          have hb : Ev.hasBit 0 2 = false := by decide
          have hb' : (bits .and .i64 0 4 == 0) = true := by decide
          have HE := Lib.hid (show seenTo i v 0 (2 + 1) = seenTo i v 0 2 by show seenTo i v 0 2 ++ seenAt i v 0 2 = _; rw [show seenAt i v 0 2 = [] by unfold seenAt; rw [hb]; rfl]; exact List.append_nil _)
          clear hb
          go_wp2_with fail
          go_roundw
          case rel => exact ⟨2 + 1, by omega, by go_num, by rw [HE.out]; exact OW, by (repeat' first | with_reducible (first | exact Below.refl _ _ | assumption | refine Below.alloc ?_ ?_ _ | refine below_drewN ?_ _ | refine Below.drew ?_ | refine Below.setCell ?_ ?_ _ | refine Below.trans ?_ (Below.mono (by with_reducible assumption) ?_)) | go_size)⟩
          case measure => simp [intOf]

        · have hl := seenTo_le i v 0 3
          by_cases h19 : i.op = 19
          · have g19 : (i.op == 19) = true := by simpa using h19
            have HR := Lib.hid (show res = seenTo i v 0 3 ++ [Ev.val v i.a] by rw [HS.out, if_pos h19])
            have hp : inR v.length i.a := HI.out.2.2 h19
            obtain ⟨vb, vo, vc, hvv, hvb, hlc, hcm, hcell⟩ := HV.out.val hp
            subst hvv
            obtain ⟨hp0, hp1⟩ := hp
            unfold maxLen at hcm
            generalize Ev.val v i.a = x at *
            clear h19
            go_wp2_with (at_builtin; refine wpList_append_own_at _ rfl (.tmp 80) (.tmp 86) _ rfl (w.heap.size + 1 + 1) 3 i0 (.int .i64 0) 1 8 Try.underlying42 II.out.1 II.out.2.1 II.out.2.2.1 II.out.2.2.2 rfl (by decide) _ _ _ rfl (OW.out.alloc _) ⟨wr.heap.size, 0, none⟩ 1 1 [.int .i64 x] rfl rfl (cell_one_new _ _ _) (fun x hx => by simp at hx; subst hx; rfl) (by unfold maxLen; omega) (by omega) (by simp; omega) ?_; intro v2 w2 hown2 hg2 hn2 hat2)
            go_ret
            have hb2 := (hB.alloc (by omega) (.cells #[.int .i64 x] 3)).grown hg2 (by simp; omega) (fun q hq => (OW.out.lt q hq).1)
            refine ⟨_, rfl, ?_, (from_own hown2).less (by omega), fun b hb => (hown2.lt b hb).2, by (repeat' first | with_reducible (first | exact Below.refl _ _ | assumption | refine Below.alloc ?_ ?_ _ | refine below_drewN ?_ _ | refine Below.drew ?_ | refine Below.setCell ?_ ?_ _ | refine Below.trans ?_ (Below.mono (by with_reducible assumption) ?_)) | go_size)⟩
            have := SL.of_own hown2
            rw [HR.out]
            show SL _ _ _ _ _ _
            rw [List.map_append, List.length_append]
            exact this
          · have g19 : (i.op == 19) = false := by simpa using h19
            have HR := Lib.hid (show res = seenTo i v 0 3 by rw [HS.out, if_neg h19, List.append_nil])
            go_wp2_with fail
            go_ret
            refine ⟨_, rfl, ?_, (from_own OW.out).less (by omega), fun b hb => (OW.out.lt b hb).2, by (repeat' first | with_reducible (first | exact Below.refl _ _ | assumption | refine Below.alloc ?_ ?_ _ | refine below_drewN ?_ _ | refine Below.drew ?_ | refine Below.setCell ?_ ?_ _ | refine Below.trans ?_ (Below.mono (by with_reducible assumption) ?_)) | go_size)⟩
            have := SL.of_own OW.out
            rw [HR.out]
            exact this
  · have hwh : Ev.all i.op = wh := by have := HW.out; rw [if_pos rfl] at this; exact this.symm
    have C1 := fun w => all_any i.op w
    rw [hwh] at C1
    have CC := Lib.hid C1
    clear C1
    by_cases h17 : i.op ≤ 17
    · clear hwh
      have hc := HT.out.cell i.op.toNat (by omega)
      generalize t.getD i.op.toNat 0 = th at *
      go_enter Try.func70, Try.ntmps70
      go_wp2_with fail
      go_quiet (fail)
      go_wp2_with fail
      refine (CC.out _).mono ?_
      rintro e w1 ⟨rfl, hb1⟩
      obtain ⟨kc1, kf1, s1⟩ := bfacts hb1
      (try simp only [World.size_alloc, World.size_setCell, World.size_drew, World.heap_drewN, Nat.add_one_le_iff] at s1)
      (try have z1 : w.heap.size < w1.heap.size := by omega)
      have B1 : Hid (Below w.heap.size w w1) := by (show Below _ _ _); (repeat' first | with_reducible (first | exact Below.refl _ _ | assumption | refine Below.alloc ?_ ?_ _ | refine below_drewN ?_ _ | refine Below.drew ?_ | refine Below.setCell ?_ ?_ _ | refine Below.trans ?_ (Below.mono (by with_reducible assumption) ?_)) | go_size)
      obtain ⟨kd1, kg1, _⟩ := bfacts B1.out
      go_wp2_with fail
      go_loopw [10, 35] (fun o kk wr => ∃ k : Nat, k ≤ 3 ∧ kk = .int .i64 k ∧ Hid (wr.ownsRow (w1.heap.size + 1) 3 1 o (seenTo i v wh k).length ((seenTo i v wh k).map (Value.int .i64))) ∧ Below (w1.heap.size + 1) (w1.alloc (.cells #[.int .i64 i.a, .int .i64 i.b, .int .i64 i.c] 3)) wr) (fun _ kk _ => 3 - (intOf kk).toNat)
      case atStart => exact ⟨0, by omega, rfl, World.ownsRow_nil _ _ _ _, by (repeat' first | with_reducible (first | exact Below.refl _ _ | assumption | refine Below.alloc ?_ ?_ _ | refine below_drewN ?_ _ | refine Below.drew ?_ | refine Below.setCell ?_ ?_ _ | refine Below.trans ?_ (Below.mono (by with_reducible assumption) ?_)) | go_size)⟩
      case round =>
        obtain ⟨k, hk, rfl, OW, hB⟩ := hrel
        have bx0 : wr.cell? ⟨w.heap.size, 0, none⟩ = some (.int .i64 i.op) := (hB.cell (p := ⟨w.heap.size, 0, none⟩) (by go_size)).trans (by go_simp)
        have bx1 : wr.cell? ⟨w.heap.size, 1, none⟩ = some (.int .i64 i.d) := (hB.cell (p := ⟨w.heap.size, 1, none⟩) (by go_size)).trans (by go_simp)
        have bx2 : wr.cell? ⟨w.heap.size, 2, none⟩ = some (.int .i64 i.a) := (hB.cell (p := ⟨w.heap.size, 2, none⟩) (by go_size)).trans (by go_simp)
        have bx3 : wr.cell? ⟨w.heap.size, 3, none⟩ = some (.int .i64 i.b) := (hB.cell (p := ⟨w.heap.size, 3, none⟩) (by go_size)).trans (by go_simp)
        have bx4 : wr.cell? ⟨w.heap.size, 4, none⟩ = some (.int .i64 i.c) := (hB.cell (p := ⟨w.heap.size, 4, none⟩) (by go_size)).trans (by go_simp)
        have bx5 : wr.cell? ⟨w.heap.size, 5, none⟩ = some (.int .i64 i.imm) := (hB.cell (p := ⟨w.heap.size, 5, none⟩) (by go_size)).trans (by go_simp)
        have lx0 : wr.cell? ⟨w1.heap.size, 0, none⟩ = some (.int .i64 i.a) := (hB.cell (p := ⟨w1.heap.size, 0, none⟩) (by go_size)).trans (by go_simp)
        have lx1 : wr.cell? ⟨w1.heap.size, 1, none⟩ = some (.int .i64 i.b) := (hB.cell (p := ⟨w1.heap.size, 1, none⟩) (by go_size)).trans (by go_simp)
        have lx2 : wr.cell? ⟨w1.heap.size, 2, none⟩ = some (.int .i64 i.c) := (hB.cell (p := ⟨w1.heap.size, 2, none⟩) (by go_size)).trans (by go_simp)
        have hs := hB.size
        have hBw : Below w.heap.size w wr := by (repeat' first | with_reducible (first | exact Below.refl _ _ | assumption | refine Below.alloc ?_ ?_ _ | refine below_drewN ?_ _ | refine Below.drew ?_ | refine Below.setCell ?_ ?_ _ | refine Below.trans ?_ (Below.mono (by with_reducible assumption) ?_)) | go_size)
        obtain ⟨kd, kg, sd⟩ := bfacts hBw
        (try simp only [World.size_alloc, World.size_setCell, World.size_drew, World.heap_drewN, Nat.add_one_le_iff] at hs)
        rcases (show k = 0 ∨ k = 1 ∨ k = 2 ∨ k = 3 by omega) with rfl | rfl | rfl | rfl
        ·
          cases hb : Ev.hasBit wh 0
          · have hb' := bit_no HI.out.1 0 (by decide) hb
            have HE := Lib.hid (show seenTo i v wh (0 + 1) = seenTo i v wh 0 by show seenTo i v wh 0 ++ seenAt i v wh 0 = _; rw [show seenAt i v wh 0 = [] by unfold seenAt; rw [hb]; rfl]; exact List.append_nil _)
            simp only [show (2 : Int) ^ 0 = 1 from rfl] at hb'
            clear hb
            go_wp2_with fail
            go_roundw
            case rel => exact ⟨0 + 1, by omega, by go_num, by rw [HE.out]; exact OW, by (repeat' first | with_reducible (first | exact Below.refl _ _ | assumption | refine Below.alloc ?_ ?_ _ | refine below_drewN ?_ _ | refine Below.drew ?_ | refine Below.setCell ?_ ?_ _ | refine Below.trans ?_ (Below.mono (by with_reducible assumption) ?_)) | go_size)⟩
            case measure => simp [intOf]
          · have hb' := bit_yes HI.out.1 0 (by decide) hb
            have HP := Lib.hid (HI.out.2.1 0 (by decide) hb)
            have hl := seenTo_le i v wh 0
            have HE := Lib.hid (show seenTo i v wh (0 + 1) = seenTo i v wh 0 ++ seenAt i v wh 0 from rfl)
            have HA := Lib.hid (show seenAt i v wh 0 = (if i.op = 17 ∧ 0 = 1 then [Ev.val v i.d] else if i.op = 16 ∧ 0 = 1 then [] else [Ev.val v (placeOf i 0)]) by unfold seenAt; rw [hb]; rfl)
            simp only [show (2 : Int) ^ 0 = 1 from rfl] at hb'
            clear hb
            have hp : inR v.length i.a := HP.out.2 (by omega) (by omega)
            have HQ := Lib.hid (show seenAt i v wh 0 = [Ev.val v i.a] by rw [HA.out, if_neg (by omega), if_neg (by omega)]; rfl)
            obtain ⟨vb, vo, vc, hvv, hvb, hlc, hcm, hcell⟩ := HV.out.val hp
            subst hvv
            obtain ⟨hp0, hp1⟩ := hp
            unfold maxLen at hcm
            generalize Ev.val v i.a = x at *
            (try clear h7)
            (try clear h6)
            rcases op3 i.op with ⟨g7, g6⟩ | ⟨g7, g6⟩ | ⟨g7, g6⟩
            all_goals
              go_wp2_with (at_builtin; refine wpList_append_own_at _ rfl (.tmp 45) (.tmp 50) _ rfl (w1.heap.size + 1) 3 i0 (.int .i64 0) 1 8 Try.underlying42 II.out.1 II.out.2.1 II.out.2.2.1 II.out.2.2.2 rfl (by decide) _ _ _ rfl (OW.out.alloc _) ⟨wr.heap.size, 0, none⟩ 1 1 [.int .i64 x] rfl rfl (cell_one_new _ _ _) (fun x hx => by simp at hx; subst hx; rfl) (by unfold maxLen; omega) (by omega) (by simp; omega) ?_; intro v2 w2 hown2 hg2 hn2 hat2)
              replace hown2 : w2.ownsRow (w1.heap.size + 1) 3 1 v2 (seenTo i v wh (0 + 1)).length ((seenTo i v wh (0 + 1)).map (Value.int .i64)) := by
                rw [HE.out, HQ.out, List.map_append, List.length_append]; exact hown2
              have hb2 := (hB.alloc (by omega) (.cells #[.int .i64 x] 3)).grown hg2 (by simp; omega) (fun q hq => (OW.out.lt q hq).1)
              go_wp2_with fail
              go_roundw
              case rel => exact ⟨0 + 1, by omega, by go_num, hown2, hb2⟩
              case measure => simp [intOf]

        ·
          cases hb : Ev.hasBit wh 1
          · have hb' := bit_no HI.out.1 1 (by decide) hb
            have HE := Lib.hid (show seenTo i v wh (1 + 1) = seenTo i v wh 1 by show seenTo i v wh 1 ++ seenAt i v wh 1 = _; rw [show seenAt i v wh 1 = [] by unfold seenAt; rw [hb]; rfl]; exact List.append_nil _)
            simp only [show (2 : Int) ^ 1 = 2 from rfl] at hb'
            clear hb
            go_wp2_with fail
            go_roundw
            case rel => exact ⟨1 + 1, by omega, by go_num, by rw [HE.out]; exact OW, by (repeat' first | with_reducible (first | exact Below.refl _ _ | assumption | refine Below.alloc ?_ ?_ _ | refine below_drewN ?_ _ | refine Below.drew ?_ | refine Below.setCell ?_ ?_ _ | refine Below.trans ?_ (Below.mono (by with_reducible assumption) ?_)) | go_size)⟩
            case measure => simp [intOf]
          · have hb' := bit_yes HI.out.1 1 (by decide) hb
            have HP := Lib.hid (HI.out.2.1 1 (by decide) hb)
            have hl := seenTo_le i v wh 1
            have HE := Lib.hid (show seenTo i v wh (1 + 1) = seenTo i v wh 1 ++ seenAt i v wh 1 from rfl)
            have HA := Lib.hid (show seenAt i v wh 1 = (if i.op = 17 ∧ 1 = 1 then [Ev.val v i.d] else if i.op = 16 ∧ 1 = 1 then [] else [Ev.val v (placeOf i 1)]) by unfold seenAt; rw [hb]; rfl)
            simp only [show (2 : Int) ^ 1 = 2 from rfl] at hb'
            clear hb
            by_cases h7 : i.op = 17
            · have g7 : (i.op == 17) = true := by simpa using h7
              have g6 : (i.op == 16) = false := by simp; omega
              have hp : inR v.length i.d := HP.out.1 ⟨h7, rfl⟩
              have HQ := Lib.hid (show seenAt i v wh 1 = [Ev.val v i.d] by rw [HA.out, if_pos ⟨h7, rfl⟩])
              obtain ⟨vb, vo, vc, hvv, hvb, hlc, hcm, hcell⟩ := HV.out.val hp
              subst hvv
              obtain ⟨hp0, hp1⟩ := hp
              unfold maxLen at hcm
              generalize Ev.val v i.d = x at *
              (try clear h7)
              (try clear h6)
              skip
              all_goals
                go_wp2_with (at_builtin; refine wpList_append_own_at _ rfl (.tmp 60) (.tmp 66) _ rfl (w1.heap.size + 1) 3 i0 (.int .i64 0) 1 8 Try.underlying42 II.out.1 II.out.2.1 II.out.2.2.1 II.out.2.2.2 rfl (by decide) _ _ _ rfl (OW.out.alloc _) ⟨wr.heap.size, 0, none⟩ 1 1 [.int .i64 x] rfl rfl (cell_one_new _ _ _) (fun x hx => by simp at hx; subst hx; rfl) (by unfold maxLen; omega) (by omega) (by simp; omega) ?_; intro v2 w2 hown2 hg2 hn2 hat2)
                replace hown2 : w2.ownsRow (w1.heap.size + 1) 3 1 v2 (seenTo i v wh (1 + 1)).length ((seenTo i v wh (1 + 1)).map (Value.int .i64)) := by
                  rw [HE.out, HQ.out, List.map_append, List.length_append]; exact hown2
                have hb2 := (hB.alloc (by omega) (.cells #[.int .i64 x] 3)).grown hg2 (by simp; omega) (fun q hq => (OW.out.lt q hq).1)
                go_wp2_with fail
                go_roundw
                case rel => exact ⟨1 + 1, by omega, by go_num, hown2, hb2⟩
                case measure => simp [intOf]
            · have g7 : (i.op == 17) = false := by simpa using h7
              by_cases h6 : i.op = 16
              · have g6 : (i.op == 16) = true := by simpa using h6
                have HQ := Lib.hid (show seenTo i v wh (1 + 1) = seenTo i v wh 1 by rw [HE.out, HA.out, if_neg (by omega), if_pos ⟨h6, rfl⟩, List.append_nil])
                go_wp2_with fail
                go_roundw
                case rel => exact ⟨1 + 1, by omega, by go_num, by rw [HQ.out]; exact OW, by (repeat' first | with_reducible (first | exact Below.refl _ _ | assumption | refine Below.alloc ?_ ?_ _ | refine below_drewN ?_ _ | refine Below.drew ?_ | refine Below.setCell ?_ ?_ _ | refine Below.trans ?_ (Below.mono (by with_reducible assumption) ?_)) | go_size)⟩
                case measure => simp [intOf]
              · have g6 : (i.op == 16) = false := by simpa using h6
                have hp : inR v.length i.b := HP.out.2 (by omega) (by omega)
                have HQ := Lib.hid (show seenAt i v wh 1 = [Ev.val v i.b] by rw [HA.out, if_neg (by omega), if_neg (by omega)]; rfl)
                obtain ⟨vb, vo, vc, hvv, hvb, hlc, hcm, hcell⟩ := HV.out.val hp
                subst hvv
                obtain ⟨hp0, hp1⟩ := hp
                unfold maxLen at hcm
                generalize Ev.val v i.b = x at *
                (try clear h7)
                (try clear h6)
                skip
                all_goals
                  go_wp2_with (at_builtin; refine wpList_append_own_at _ rfl (.tmp 45) (.tmp 50) _ rfl (w1.heap.size + 1) 3 i0 (.int .i64 0) 1 8 Try.underlying42 II.out.1 II.out.2.1 II.out.2.2.1 II.out.2.2.2 rfl (by decide) _ _ _ rfl (OW.out.alloc _) ⟨wr.heap.size, 0, none⟩ 1 1 [.int .i64 x] rfl rfl (cell_one_new _ _ _) (fun x hx => by simp at hx; subst hx; rfl) (by unfold maxLen; omega) (by omega) (by simp; omega) ?_; intro v2 w2 hown2 hg2 hn2 hat2)
                  replace hown2 : w2.ownsRow (w1.heap.size + 1) 3 1 v2 (seenTo i v wh (1 + 1)).length ((seenTo i v wh (1 + 1)).map (Value.int .i64)) := by
                    rw [HE.out, HQ.out, List.map_append, List.length_append]; exact hown2
                  have hb2 := (hB.alloc (by omega) (.cells #[.int .i64 x] 3)).grown hg2 (by simp; omega) (fun q hq => (OW.out.lt q hq).1)
                  go_wp2_with fail
                  go_roundw
                  case rel => exact ⟨1 + 1, by omega, by go_num, hown2, hb2⟩
                  case measure => simp [intOf]

        ·
          cases hb : Ev.hasBit wh 2
          · have hb' := bit_no HI.out.1 2 (by decide) hb
            have HE := Lib.hid (show seenTo i v wh (2 + 1) = seenTo i v wh 2 by show seenTo i v wh 2 ++ seenAt i v wh 2 = _; rw [show seenAt i v wh 2 = [] by unfold seenAt; rw [hb]; rfl]; exact List.append_nil _)
            simp only [show (2 : Int) ^ 2 = 4 from rfl] at hb'
            clear hb
            go_wp2_with fail
            go_roundw
            case rel => exact ⟨2 + 1, by omega, by go_num, by rw [HE.out]; exact OW, by (repeat' first | with_reducible (first | exact Below.refl _ _ | assumption | refine Below.alloc ?_ ?_ _ | refine below_drewN ?_ _ | refine Below.drew ?_ | refine Below.setCell ?_ ?_ _ | refine Below.trans ?_ (Below.mono (by with_reducible assumption) ?_)) | go_size)⟩
            case measure => simp [intOf]
          · have hb' := bit_yes HI.out.1 2 (by decide) hb
            have HP := Lib.hid (HI.out.2.1 2 (by decide) hb)
            have hl := seenTo_le i v wh 2
            have HE := Lib.hid (show seenTo i v wh (2 + 1) = seenTo i v wh 2 ++ seenAt i v wh 2 from rfl)
            have HA := Lib.hid (show seenAt i v wh 2 = (if i.op = 17 ∧ 2 = 1 then [Ev.val v i.d] else if i.op = 16 ∧ 2 = 1 then [] else [Ev.val v (placeOf i 2)]) by unfold seenAt; rw [hb]; rfl)
            simp only [show (2 : Int) ^ 2 = 4 from rfl] at hb'
            clear hb
            have hp : inR v.length i.c := HP.out.2 (by omega) (by omega)
            have HQ := Lib.hid (show seenAt i v wh 2 = [Ev.val v i.c] by rw [HA.out, if_neg (by omega), if_neg (by omega)]; rfl)
            obtain ⟨vb, vo, vc, hvv, hvb, hlc, hcm, hcell⟩ := HV.out.val hp
            subst hvv
            obtain ⟨hp0, hp1⟩ := hp
            unfold maxLen at hcm
            generalize Ev.val v i.c = x at *
            (try clear h7)
            (try clear h6)
            rcases op3 i.op with ⟨g7, g6⟩ | ⟨g7, g6⟩ | ⟨g7, g6⟩
            all_goals
              go_wp2_with (at_builtin; refine wpList_append_own_at _ rfl (.tmp 45) (.tmp 50) _ rfl (w1.heap.size + 1) 3 i0 (.int .i64 0) 1 8 Try.underlying42 II.out.1 II.out.2.1 II.out.2.2.1 II.out.2.2.2 rfl (by decide) _ _ _ rfl (OW.out.alloc _) ⟨wr.heap.size, 0, none⟩ 1 1 [.int .i64 x] rfl rfl (cell_one_new _ _ _) (fun x hx => by simp at hx; subst hx; rfl) (by unfold maxLen; omega) (by omega) (by simp; omega) ?_; intro v2 w2 hown2 hg2 hn2 hat2)
              replace hown2 : w2.ownsRow (w1.heap.size + 1) 3 1 v2 (seenTo i v wh (2 + 1)).length ((seenTo i v wh (2 + 1)).map (Value.int .i64)) := by
                rw [HE.out, HQ.out, List.map_append, List.length_append]; exact hown2
              have hb2 := (hB.alloc (by omega) (.cells #[.int .i64 x] 3)).grown hg2 (by simp; omega) (fun q hq => (OW.out.lt q hq).1)
              go_wp2_with fail
              go_roundw
              case rel => exact ⟨2 + 1, by omega, by go_num, hown2, hb2⟩
              case measure => simp [intOf]

        · have hl := seenTo_le i v wh 3
          by_cases h19 : i.op = 19
          · have g19 : (i.op == 19) = true := by simpa using h19
            have HR := Lib.hid (show res = seenTo i v wh 3 ++ [Ev.val v i.a] by rw [HS.out, if_pos h19])
            have hp : inR v.length i.a := HI.out.2.2 h19
            obtain ⟨vb, vo, vc, hvv, hvb, hlc, hcm, hcell⟩ := HV.out.val hp
            subst hvv
            obtain ⟨hp0, hp1⟩ := hp
            unfold maxLen at hcm
            generalize Ev.val v i.a = x at *
            clear h19
            go_wp2_with (at_builtin; refine wpList_append_own_at _ rfl (.tmp 80) (.tmp 86) _ rfl (w1.heap.size + 1) 3 i0 (.int .i64 0) 1 8 Try.underlying42 II.out.1 II.out.2.1 II.out.2.2.1 II.out.2.2.2 rfl (by decide) _ _ _ rfl (OW.out.alloc _) ⟨wr.heap.size, 0, none⟩ 1 1 [.int .i64 x] rfl rfl (cell_one_new _ _ _) (fun x hx => by simp at hx; subst hx; rfl) (by unfold maxLen; omega) (by omega) (by simp; omega) ?_; intro v2 w2 hown2 hg2 hn2 hat2)
            go_ret
            have hb2 := (hB.alloc (by omega) (.cells #[.int .i64 x] 3)).grown hg2 (by simp; omega) (fun q hq => (OW.out.lt q hq).1)
            refine ⟨_, rfl, ?_, (from_own hown2).less (by omega), fun b hb => (hown2.lt b hb).2, by (repeat' first | with_reducible (first | exact Below.refl _ _ | assumption | refine Below.alloc ?_ ?_ _ | refine below_drewN ?_ _ | refine Below.drew ?_ | refine Below.setCell ?_ ?_ _ | refine Below.trans ?_ (Below.mono (by with_reducible assumption) ?_)) | go_size)⟩
            have := SL.of_own hown2
            rw [HR.out]
            show SL _ _ _ _ _ _
            rw [List.map_append, List.length_append]
            exact this
          · have g19 : (i.op == 19) = false := by simpa using h19
            have HR := Lib.hid (show res = seenTo i v wh 3 by rw [HS.out, if_neg h19, List.append_nil])
            go_wp2_with fail
            go_ret
            refine ⟨_, rfl, ?_, (from_own OW.out).less (by omega), fun b hb => (OW.out.lt b hb).2, by (repeat' first | with_reducible (first | exact Below.refl _ _ | assumption | refine Below.alloc ?_ ?_ _ | refine below_drewN ?_ _ | refine Below.drew ?_ | refine Below.setCell ?_ ?_ _ | refine Below.trans ?_ (Below.mono (by with_reducible assumption) ?_)) | go_size)⟩
            have := SL.of_own OW.out
            rw [HR.out]
            exact this
    · have h0 : wh = 0 := by
        rw [← hwh]
        unfold Ev.all
        rw [if_neg (by omega), if_neg (by omega), if_neg (by omega), if_neg (by omega), if_neg (by omega)]
      clear hwh
      subst h0
      go_enter Try.func70, Try.ntmps70
      go_wp2_with fail
      refine (CC.out _).mono ?_
      rintro e w1 ⟨rfl, hb1⟩
      obtain ⟨kc1, kf1, s1⟩ := bfacts hb1
      (try simp only [World.size_alloc, World.size_setCell, World.size_drew, World.heap_drewN, Nat.add_one_le_iff] at s1)
      (try have z1 : w.heap.size < w1.heap.size := by omega)
      have B1 : Hid (Below w.heap.size w w1) := by (show Below _ _ _); (repeat' first | with_reducible (first | exact Below.refl _ _ | assumption | refine Below.alloc ?_ ?_ _ | refine below_drewN ?_ _ | refine Below.drew ?_ | refine Below.setCell ?_ ?_ _ | refine Below.trans ?_ (Below.mono (by with_reducible assumption) ?_)) | go_size)
      obtain ⟨kd1, kg1, _⟩ := bfacts B1.out
      go_wp2_with fail
      go_loopw [10, 35] (fun o kk wr => ∃ k : Nat, k ≤ 3 ∧ kk = .int .i64 k ∧ Hid (wr.ownsRow (w1.heap.size + 1) 3 1 o (seenTo i v 0 k).length ((seenTo i v 0 k).map (Value.int .i64))) ∧ Below (w1.heap.size + 1) (w1.alloc (.cells #[.int .i64 i.a, .int .i64 i.b, .int .i64 i.c] 3)) wr) (fun _ kk _ => 3 - (intOf kk).toNat)
      case atStart => exact ⟨0, by omega, rfl, World.ownsRow_nil _ _ _ _, by (repeat' first | with_reducible (first | exact Below.refl _ _ | assumption | refine Below.alloc ?_ ?_ _ | refine below_drewN ?_ _ | refine Below.drew ?_ | refine Below.setCell ?_ ?_ _ | refine Below.trans ?_ (Below.mono (by with_reducible assumption) ?_)) | go_size)⟩
      case round =>
        obtain ⟨k, hk, rfl, OW, hB⟩ := hrel
        have bx0 : wr.cell? ⟨w.heap.size, 0, none⟩ = some (.int .i64 i.op) := (hB.cell (p := ⟨w.heap.size, 0, none⟩) (by go_size)).trans (by go_simp)
        have bx1 : wr.cell? ⟨w.heap.size, 1, none⟩ = some (.int .i64 i.d) := (hB.cell (p := ⟨w.heap.size, 1, none⟩) (by go_size)).trans (by go_simp)
        have bx2 : wr.cell? ⟨w.heap.size, 2, none⟩ = some (.int .i64 i.a) := (hB.cell (p := ⟨w.heap.size, 2, none⟩) (by go_size)).trans (by go_simp)
        have bx3 : wr.cell? ⟨w.heap.size, 3, none⟩ = some (.int .i64 i.b) := (hB.cell (p := ⟨w.heap.size, 3, none⟩) (by go_size)).trans (by go_simp)
        have bx4 : wr.cell? ⟨w.heap.size, 4, none⟩ = some (.int .i64 i.c) := (hB.cell (p := ⟨w.heap.size, 4, none⟩) (by go_size)).trans (by go_simp)
        have bx5 : wr.cell? ⟨w.heap.size, 5, none⟩ = some (.int .i64 i.imm) := (hB.cell (p := ⟨w.heap.size, 5, none⟩) (by go_size)).trans (by go_simp)
        have lx0 : wr.cell? ⟨w1.heap.size, 0, none⟩ = some (.int .i64 i.a) := (hB.cell (p := ⟨w1.heap.size, 0, none⟩) (by go_size)).trans (by go_simp)
        have lx1 : wr.cell? ⟨w1.heap.size, 1, none⟩ = some (.int .i64 i.b) := (hB.cell (p := ⟨w1.heap.size, 1, none⟩) (by go_size)).trans (by go_simp)
        have lx2 : wr.cell? ⟨w1.heap.size, 2, none⟩ = some (.int .i64 i.c) := (hB.cell (p := ⟨w1.heap.size, 2, none⟩) (by go_size)).trans (by go_simp)
        have hs := hB.size
        have hBw : Below w.heap.size w wr := by (repeat' first | with_reducible (first | exact Below.refl _ _ | assumption | refine Below.alloc ?_ ?_ _ | refine below_drewN ?_ _ | refine Below.drew ?_ | refine Below.setCell ?_ ?_ _ | refine Below.trans ?_ (Below.mono (by with_reducible assumption) ?_)) | go_size)
        obtain ⟨kd, kg, sd⟩ := bfacts hBw
        (try simp only [World.size_alloc, World.size_setCell, World.size_drew, World.heap_drewN, Nat.add_one_le_iff] at hs)
        rcases (show k = 0 ∨ k = 1 ∨ k = 2 ∨ k = 3 by omega) with rfl | rfl | rfl | rfl
        ·
          have hb : Ev.hasBit 0 0 = false := by decide
          have hb' : (bits .and .i64 0 1 == 0) = true := by decide
          have HE := Lib.hid (show seenTo i v 0 (0 + 1) = seenTo i v 0 0 by show seenTo i v 0 0 ++ seenAt i v 0 0 = _; rw [show seenAt i v 0 0 = [] by unfold seenAt; rw [hb]; rfl]; exact List.append_nil _)
          clear hb
          go_wp2_with fail
          go_roundw
          case rel => exact ⟨0 + 1, by omega, by go_num, by rw [HE.out]; exact OW, by (repeat' first | with_reducible (first | exact Below.refl _ _ | assumption | refine Below.alloc ?_ ?_ _ | refine below_drewN ?_ _ | refine Below.drew ?_ | refine Below.setCell ?_ ?_ _ | refine Below.trans ?_ (Below.mono (by with_reducible assumption) ?_)) | go_size)⟩
          case measure => simp [intOf]

        ·
          have hb : Ev.hasBit 0 1 = false := by decide
          have hb' : (bits .and .i64 0 2 == 0) = true := by decide
          have HE := Lib.hid (show seenTo i v 0 (1 + 1) = seenTo i v 0 1 by show seenTo i v 0 1 ++ seenAt i v 0 1 = _; rw [show seenAt i v 0 1 = [] by unfold seenAt; rw [hb]; rfl]; exact List.append_nil _)
          clear hb
          go_wp2_with fail
          go_roundw
          case rel => exact ⟨1 + 1, by omega, by go_num, by rw [HE.out]; exact OW, by (repeat' first | with_reducible (first | exact Below.refl _ _ | assumption | refine Below.alloc ?_ ?_ _ | refine below_drewN ?_ _ | refine Below.drew ?_ | refine Below.setCell ?_ ?_ _ | refine Below.trans ?_ (Below.mono (by with_reducible assumption) ?_)) | go_size)⟩
          case measure => simp [intOf]

        ·
          have hb : Ev.hasBit 0 2 = false := by decide
          have hb' : (bits .and .i64 0 4 == 0) = true := by decide
          have HE := Lib.hid (show seenTo i v 0 (2 + 1) = seenTo i v 0 2 by show seenTo i v 0 2 ++ seenAt i v 0 2 = _; rw [show seenAt i v 0 2 = [] by unfold seenAt; rw [hb]; rfl]; exact List.append_nil _)
          clear hb
          go_wp2_with fail
          go_roundw
          case rel => exact ⟨2 + 1, by omega, by go_num, by rw [HE.out]; exact OW, by (repeat' first | with_reducible (first | exact Below.refl _ _ | assumption | refine Below.alloc ?_ ?_ _ | refine below_drewN ?_ _ | refine Below.drew ?_ | refine Below.setCell ?_ ?_ _ | refine Below.trans ?_ (Below.mono (by with_reducible assumption) ?_)) | go_size)⟩
          case measure => simp [intOf]

        · have hl := seenTo_le i v 0 3
          by_cases h19 : i.op = 19
          · have g19 : (i.op == 19) = true := by simpa using h19
            have HR := Lib.hid (show res = seenTo i v 0 3 ++ [Ev.val v i.a] by rw [HS.out, if_pos h19])
            have hp : inR v.length i.a := HI.out.2.2 h19
            obtain ⟨vb, vo, vc, hvv, hvb, hlc, hcm, hcell⟩ := HV.out.val hp
            subst hvv
            obtain ⟨hp0, hp1⟩ := hp
            unfold maxLen at hcm
            generalize Ev.val v i.a = x at *
            clear h19
            go_wp2_with (at_builtin; refine wpList_append_own_at _ rfl (.tmp 80) (.tmp 86) _ rfl (w1.heap.size + 1) 3 i0 (.int .i64 0) 1 8 Try.underlying42 II.out.1 II.out.2.1 II.out.2.2.1 II.out.2.2.2 rfl (by decide) _ _ _ rfl (OW.out.alloc _) ⟨wr.heap.size, 0, none⟩ 1 1 [.int .i64 x] rfl rfl (cell_one_new _ _ _) (fun x hx => by simp at hx; subst hx; rfl) (by unfold maxLen; omega) (by omega) (by simp; omega) ?_; intro v2 w2 hown2 hg2 hn2 hat2)
            go_ret
            have hb2 := (hB.alloc (by omega) (.cells #[.int .i64 x] 3)).grown hg2 (by simp; omega) (fun q hq => (OW.out.lt q hq).1)
            refine ⟨_, rfl, ?_, (from_own hown2).less (by omega), fun b hb => (hown2.lt b hb).2, by (repeat' first | with_reducible (first | exact Below.refl _ _ | assumption | refine Below.alloc ?_ ?_ _ | refine below_drewN ?_ _ | refine Below.drew ?_ | refine Below.setCell ?_ ?_ _ | refine Below.trans ?_ (Below.mono (by with_reducible assumption) ?_)) | go_size)⟩
            have := SL.of_own hown2
            rw [HR.out]
            show SL _ _ _ _ _ _
            rw [List.map_append, List.length_append]
            exact this
          · have g19 : (i.op == 19) = false := by simpa using h19
            have HR := Lib.hid (show res = seenTo i v 0 3 by rw [HS.out, if_neg h19, List.append_nil])
            go_wp2_with fail
            go_ret
            refine ⟨_, rfl, ?_, (from_own OW.out).less (by omega), fun b hb => (OW.out.lt b hb).2, by (repeat' first | with_reducible (first | exact Below.refl _ _ | assumption | refine Below.alloc ?_ ?_ _ | refine below_drewN ?_ _ | refine Below.drew ?_ | refine Below.setCell ?_ ?_ _ | refine Below.trans ?_ (Below.mono (by with_reducible assumption) ?_)) | go_size)⟩
            have := SL.of_own OW.out
            rw [HR.out]
            exact this

end Go.Proofs.Ytljcgcllhcdleaa
