import Derived.Test.YtpbflgemhcaooaaDoorPt17
import Derived.Test.YtpbflgemhcaooaaDoorPt8
import Derived.Deep.DeepCutAuto
import Derived.Test.YtpbflgemhcaooaaDoorPt16
import Derived.Test.YtpbflgemhcaooaaDoorPt14
import Derived.Test.YtpbflgemhcaooaaDoorPt6
import Derived.Test.YtpbflgemhcaooaaDoorPt12
/- label.looker: is an expression secret. -/
namespace Ev
theorem find_cases (l : List Par) (n : List UInt8) : (nameI l n < 0 ∧ findP l n = none) ∨ ∃ (m : Nat) (p : Par), nameI l n = (m : Int) ∧ l[m]? = some p ∧ findP l n = some p := by
  by_cases h : nameI l n < 0
  · exact .inl ⟨h, findP_none h⟩
  · obtain ⟨p, e1, e2⟩ := findP_some (l := l) (n := n) (by omega)
    exact .inr ⟨(nameI l n).toNat, p, by omega, e2, e1⟩
end Ev
namespace Go.Proofs.YtpbflgemhcaooaaDoor
open Go.RowKit
set_option linter.unusedSimpArgs false
set_option linter.unusedVariables false
/-- an expression stands at b, o; its arguments are the slice va -/
structure XAt (w : World) (b o : Nat) (e : Ev.Ex) (va : Value) : Prop where
  lt : b < w.heap.size
  c0 : w.cell? ⟨b, o, none⟩ = some (.int .i64 e.kind)
  c1 : w.cell? ⟨b, o + 1, none⟩ = some (.int .i64 e.n)
  c2 : w.cell? ⟨b, o + 2, none⟩ = some (.string ⟨e.name.toArray⟩)
  c3 : w.cell? ⟨b, o + 3, none⟩ = some va
theorem XAt.on {w w' : World} {b o : Nat} {e : Ev.Ex} {va : Value} (h : XAt w b o e va) (hb : Below w.heap.size w w') : XAt w' b o e va :=
  ⟨Nat.lt_of_lt_of_le h.lt hb.size, (hb.cell (p := ⟨b, o, none⟩) h.lt).trans h.c0, (hb.cell (p := ⟨b, o + 1, none⟩) h.lt).trans h.c1, (hb.cell (p := ⟨b, o + 2, none⟩) h.lt).trans h.c2, (hb.cell (p := ⟨b, o + 3, none⟩) h.lt).trans h.c3⟩
/-- the looker's block -/
structure LkAt (w : World) (kb : Nat) (A : List Ev.Par) (va : Value) (k : Ev.LK) : Prop where
  r : w.heap[kb]? = some (.cells #[va, .int .i64 k.work, .int .i64 k.lets] 94 (0, 0))
  a : RPars w va A
theorem RPars.on {w w' : World} {v : Value} {l : List Ev.Par} (h : RPars w v l) (hb : Below w.heap.size w w') : RPars w' v l := (SL.below h hb).more hb.size
theorem LkAt.lt {w : World} {kb : Nat} {A : List Ev.Par} {va : Value} {k : Ev.LK} (h : LkAt w kb A va k) : kb < w.heap.size := (Array.getElem?_eq_some_iff.1 h.r).1
theorem LkAt.on {w w' : World} {kb : Nat} {A : List Ev.Par} {va : Value} {k : Ev.LK} (h : LkAt w kb A va k) (hb : Below w.heap.size w w') : LkAt w' kb A va k :=
  ⟨(hb.block kb h.lt).trans h.r, h.a.on hb⟩
theorem LkAt.cell {w : World} {kb : Nat} {A : List Ev.Par} {va : Value} {k : Ev.LK} (h : LkAt w kb A va k) (j : Nat) : w.cell? ⟨kb, j, none⟩ = #[va, .int .i64 k.work, .int .i64 k.lets][j]? := cell_of_block h.r j
set_option maxRecDepth 6000 in
set_option maxHeartbeats 3200000 in
theorem lkAt_any (A : List Ev.Par) (hA : A.length * 32 ≤ 140737488351232) (va : Value) (k : Ev.LK) (kb : Nat) (nm : List UInt8) (b o : Nat) (e : Ev.Ex) (vx : Value) (secret dark : Bool) (w : World) (hk : LkAt w kb A va k) (hx : XAt w b o e vx) :
    Calls Tryd.prog 107 #[.pointer (some ⟨kb, 0, none⟩), .string ⟨(nm).toArray⟩, .pointer (some ⟨b, o, none⟩), .bool secret, .bool dark] w fun r w' => r = .returned (.tuple #[.bool (Ev.plC A nm e secret dark).1, .int .i64 (Ev.plC A nm e secret dark).2]) ∧ Below w.heap.size w w' := by
  have HK := Lib.hid hk
  have HX := Lib.hid hx
  obtain ⟨R, hR⟩ : ∃ R, Ev.plC A nm e secret dark = R := ⟨_, rfl⟩
  rw [hR]
  have HP := Lib.hid hR
  clear hR
  unfold Ev.plC at HP
  obtain ⟨a, c, rfl, _, hcm⟩ := SL.form hk.a
  have k0 : w.cell? ⟨kb, 0, none⟩ = some (.slice a A.length c) := hk.cell 0
  have klt := hk.lt
  have CF := Lib.hid (find_any A (.slice a A.length c) nm w hk.a hA)
  clear hk hx
  go_enter Tryd.func107, Tryd.ntmps107
  rcases Ev.find_cases A nm with ⟨hn, hf⟩ | ⟨m, p, hn, hp, hf⟩
  case inl =>
    rw [hf] at HP
    have g0 : decide (Ev.nameI A nm < 0) = true := decide_eq_true hn
    go_wp2_with (go_at_call 57; refine CF.out.mono ?_; rintro r w1 ⟨rfl, hb1⟩)
    go_ret2
    exact ⟨by rw [← HP.out]; rfl, hb1⟩
  case inr =>
  rw [hf] at HP
  rw [hn] at CF
  clear hn hf
  have HPP := Lib.hid hp
  have hml := (List.getElem?_eq_some_iff.1 hp).1
  clear hp
  dsimp only at HP
  cases secret with
  | true =>
    go_wp2_with (go_at_call 57; refine CF.out.mono ?_; rintro r w1 ⟨rfl, hb1⟩)
    go_ret2
    exact ⟨by rw [← HP.out]; rfl, hb1⟩
  | false =>
  rw [if_neg (by decide)] at HP
  obtain ⟨ba, oa, hA2⟩ : ∃ ba oa, a = some ⟨ba, oa, none⟩ ∧ ba < w.heap.size ∧ ParsAt w ba oa A := by
    rcases (RPars.at_ HK.out.a).2 with h | h
    · rw [h] at hml; simp at hml
    · exact h
  obtain ⟨rfl, hal, hpa⟩ := hA2
  obtain ⟨_, p1, p2⟩ := hpa m p HPP.out
  have HX1 := Lib.hid HX.out.c0
  go_upto_region 2 with (go_at_call 57; refine CF.out.mono ?_; rintro r w1 ⟨rfl, hb1⟩)
  have k0' : w1.cell? ⟨kb, 0, none⟩ = _ := (hb1.cell (p := ⟨kb, 0, none⟩) klt).trans k0
  have p1' : w1.cell? ⟨ba, oa + m * 3 + 1, none⟩ = _ := (hb1.cell (p := ⟨ba, oa + m * 3 + 1, none⟩) hal).trans p1
  have p2' : w1.cell? ⟨ba, oa + m * 3 + 2, none⟩ = _ := (hb1.cell (p := ⟨ba, oa + m * 3 + 2, none⟩) hal).trans p2
  have e0 : w1.cell? ⟨b, o, none⟩ = _ := (hb1.cell (p := ⟨b, o, none⟩) HX.out.lt).trans HX.out.c0
  have e1 : w1.cell? ⟨b, o + 1, none⟩ = _ := (hb1.cell (p := ⟨b, o + 1, none⟩) HX.out.lt).trans HX.out.c1
  have hsz := hb1.size
  have zk : kb < w1.heap.size := by omega
  have za : ba < w1.heap.size := by omega
  have zb : b < w1.heap.size := by have := HX.out.lt; omega
  clear k0 p1 p2 HX1 CF hpa
  cases dark with
  | false =>
    rw [if_neg (by simp)] at HP
    go_wp2_with fail
    go_quiet (fail)
    go_wp2_with fail
    go_ret2
    exact ⟨by rw [← HP.out]; rfl, by (repeat' first | with_reducible (first | exact Below.refl _ _ | assumption | refine Below.alloc ?_ ?_ _ | refine below_drewN ?_ _ | refine Below.drew ?_ | refine Below.setCell ?_ ?_ _ | refine Below.trans ?_ (Below.mono (by with_reducible assumption) ?_)) | go_size)⟩
  | true =>
  by_cases hkind : e.kind = 1
  case neg =>
    have g1 : (e.kind != 1) = true := bne_iff_ne.2 hkind
    rw [if_pos ⟨rfl, .inl hkind⟩] at HP
    go_wp2_with fail
    go_quiet (fail)
    go_wp2_with fail
    go_ret2
    exact ⟨by rw [← HP.out]; rfl, by (repeat' first | with_reducible (first | exact Below.refl _ _ | assumption | refine Below.alloc ?_ ?_ _ | refine below_drewN ?_ _ | refine Below.drew ?_ | refine Below.setCell ?_ ?_ _ | refine Below.trans ?_ (Below.mono (by with_reducible assumption) ?_)) | go_size)⟩
  case pos =>
  have g1 : (e.kind != 1) = false := by rw [hkind]; rfl
  by_cases hnn : p.size ≤ e.n
  case pos =>
    have g2 : decide (p.size ≤ e.n) = true := decide_eq_true hnn
    rw [if_pos ⟨rfl, .inr hnn⟩] at HP
    go_wp2_with fail
    go_quiet (fail)
    go_wp2_with fail
    go_ret2
    exact ⟨by rw [← HP.out]; rfl, by (repeat' first | with_reducible (first | exact Below.refl _ _ | assumption | refine Below.alloc ?_ ?_ _ | refine below_drewN ?_ _ | refine Below.drew ?_ | refine Below.setCell ?_ ?_ _ | refine Below.trans ?_ (Below.mono (by with_reducible assumption) ?_)) | go_size)⟩
  case neg =>
    have g2 : decide (p.size ≤ e.n) = false := decide_eq_false hnn
    rw [if_neg (fun h => h.2.elim (fun h => h hkind) hnn)] at HP
    go_wp2_with fail
    go_quiet (fail)
    go_wp2_with fail
    go_ret2
    exact ⟨by rw [← HP.out]; rfl, by (repeat' first | with_reducible (first | exact Below.refl _ _ | assumption | refine Below.alloc ?_ ?_ _ | refine below_drewN ?_ _ | refine Below.drew ?_ | refine Below.setCell ?_ ?_ _ | refine Below.trans ?_ (Below.mono (by with_reducible assumption) ?_)) | go_size)⟩
end Go.Proofs.YtpbflgemhcaooaaDoor
/- label.looker: is an expression secret. -/
namespace Ev
theorem wf_args {e : Ex} (h : WfE e) : (∀ a ∈ e.args, WfE a) ∧ (e.kind = 5 → ∃ a, e.args = [a]) ∧ e.args.length ≤ 3 := by
  cases h with
  | num n h1 h2 => exact ⟨fun a ha => (by cases ha), fun h => (by cases h), Nat.zero_le _⟩
  | name s h1 => exact ⟨fun a ha => (by cases ha), fun h => (by cases h), Nat.zero_le _⟩
  | op n a b h1 h2 h3 h4 =>
    refine ⟨fun x hx => ?_, fun h => (by cases h), by show 2 ≤ 3; decide⟩
    simp only [Ex.args, List.mem_cons, List.not_mem_nil, or_false] at hx
    rcases hx with rfl | rfl
    · exact h3
    · exact h4
  | sel a b c h1 h2 h3 =>
    refine ⟨fun x hx => ?_, fun h => (by cases h), by show 3 ≤ 3; decide⟩
    simp only [Ex.args, List.mem_cons, List.not_mem_nil, or_false] at hx
    rcases hx with rfl | rfl | rfl
    · exact h1
    · exact h2
    · exact h3
  | «at» s a h1 h2 =>
    refine ⟨fun x hx => ?_, fun h => ⟨a, rfl⟩, by show 1 ≤ 3; decide⟩
    simp only [Ex.args, List.mem_cons, List.not_mem_nil, or_false] at hx
    subst hx
    exact h2
end Ev
namespace Go.Proofs.YtpbflgemhcaooaaDoor
open Go.RowKit
set_option linter.unusedSimpArgs false
set_option linter.unusedVariables false
theorem exCells_at : ∀ (l : List Ev.Ex) (vs : List Value) (j : Nat) (e : Ev.Ex) (vx : Value) (i : Nat) (u : Value), vs.length = l.length → l[j]? = some e → vs[j]? = some vx → (ex4 e vx)[i]? = some u → (exCells l vs)[j * 4 + i]? = some u
  | [], _, j, e, vx, i, u, _, h, _, _ => by simp at h
  | _ :: _, [], j, e, vx, i, u, h, _, _, _ => by simp at h
  | x :: l, y :: vs, 0, e, vx, i, u, hl, h1, h2, h3 => by
    simp at h1 h2
    subst h1 h2
    have hi := (List.getElem?_eq_some_iff.1 h3).1
    unfold exCells
    rw [Nat.zero_mul, Nat.zero_add, List.getElem?_append_left hi]
    exact h3
  | x :: l, y :: vs, j + 1, e, vx, i, u, hl, h1, h2, h3 => by
    have := exCells_at l vs j e vx i u (by simpa using hl) (by simpa using h1) (by simpa using h2) h3
    unfold exCells
    rw [List.getElem?_append_right (by show 4 ≤ _; omega)]
    rw [show (j + 1) * 4 + i - (ex4 x y).length = j * 4 + i by show (j + 1) * 4 + i - 4 = _; omega]
    exact this
theorem RExL.el {d : Nat} {w : World} {K : Nat → Prop} {va : Value} {l : List Ev.Ex} {j : Nat} {e : Ev.Ex} (h : RExL d w K va l) (hj : l[j]? = some e) : ∃ (d' : Nat) (b off c : Nat) (vx : Value), d = d' + 1 ∧ va = .slice (some ⟨b, off, none⟩) l.length c ∧ XAt w b (off + j * 4) e vx ∧ RExL d' w K vx e.args := by
  cases d with
  | zero => obtain ⟨rfl, rfl⟩ := h; simp at hj
  | succ d =>
    obtain ⟨vs, h1, h2, h3, h4⟩ := h
    have hlt := (List.getElem?_eq_some_iff.1 hj).1
    have hv : vs[j]? = some (vs[j]'(by omega)) := List.getElem?_eq_getElem _
    obtain ⟨b, o, c, e1, hb, _, _, hc⟩ := SL.row h2 (by omega)
    have hk := fun i u (hu : (ex4 e (vs[j]'(by omega)))[i]? = some u) => hc (j * 4 + i) u (exCells_at l vs j e _ i u h1 hj hv hu)
    simp only [← Nat.add_assoc] at hk
    exact ⟨d, b, o, c, _, rfl, e1, ⟨hb, hk 0 _ rfl, hk 1 _ rfl, hk 2 _ rfl, hk 3 _ rfl⟩, h4 j e _ hj hv⟩
theorem RExL.on {d : Nat} {w w' : World} {K : Nat → Prop} {v : Value} {l : List Ev.Ex} (h : RExL d w K v l) (hb : Below w.heap.size w w') : RExL d w' K v l := RExL.keep hb.size (fun k _ hk => hb.block k hk) d v l h
theorem RExL.form {d : Nat} {w : World} {K : Nat → Prop} {v : Value} {l : List Ev.Ex} (h : RExL d w K v l) : ∃ A c, v = .slice A l.length c := by
  cases d with
  | zero => obtain ⟨rfl, rfl⟩ := h; exact ⟨_, _, rfl⟩
  | succ d => obtain ⟨_, _, h2, _⟩ := h; obtain ⟨A, c, e, _⟩ := SL.form h2; exact ⟨A, c, e⟩
theorem slice_two {a a' : Option Addr} {n n' c c' : Nat} (h : Value.slice a n c = .slice a' n' c') : a = a' ∧ c = c' := by
  injection h with h1 _ h2
  exact ⟨h1, h2⟩
abbrev fewP (l : List Ev.Par) : Prop := l.length * 32 ≤ 140737488351232
def LExDo (d : Nat) : Prop := ∀ (e : Ev.Ex) (A l : List Ev.Par) (va vl vx : Value) (k : Ev.LK) (kb b o : Nat) (dark : Bool) (w : World) (K : Nat → Prop), fewP A → fewP l → LkAt w kb A va k → RPars w vl l → XAt w b o e vx → RExL d w K vx e.args → Ev.WfE e →
  Calls Tryd.prog 106 #[.pointer (some ⟨kb, 0, none⟩), .pointer (some ⟨b, o, none⟩), vl, .bool dark] w fun r w' => r = .returned (.tuple #[.bool (Ev.exC A l dark e).1, .int .i64 (Ev.exC A l dark e).2]) ∧ Below w.heap.size w w'
set_option maxRecDepth 6000 in
set_option maxHeartbeats 3200000 in
theorem lookX (d : Nat) (ih : ∀ d', d = d' + 1 → LExDo d') : LExDo d := by
  intro e A l va vl vx k kb b o dark w K fA fl hk hl hx hr hw
  have HK := Lib.hid hk
  have HL := Lib.hid hl
  have HX := Lib.hid hx
  have HR := Lib.hid hr
  have HW := Lib.hid (Ev.wf_args hw)
  obtain ⟨a, c, rfl⟩ := hr.form
  have hlen3 : e.args.length ≤ 3 := HW.out.2.2
  obtain ⟨R, hR⟩ : ∃ R, Ev.exC A l dark e = R := ⟨_, rfl⟩
  rw [hR]
  have HE := Lib.hid ((Ev.exC_eq A l dark e).symm.trans hR)
  have FA := Lib.hid fA
  have FL := Lib.hid fl
  clear hR hk hl hx hr hw fA fl
  obtain ⟨la, lc, rfl, _, _⟩ := SL.form HL.out
  have b3 := HX.out.c3
  have blt := HX.out.lt
  go_enter Tryd.func106, Tryd.ntmps106
  go_upto_region 3 with fail
  go_loopw [20, 10] (fun ii ss wr => ∃ (i : Nat) (s : Bool), i ≤ e.args.length ∧ ii = .int .i64 (i : Int) ∧ ss = .bool s ∧ Hid (Ev.exsC A l dark e.args false = Ev.exsC A l dark (e.args.drop i) s) ∧ Below w.heap.size w wr) (fun ii _ _ => e.args.length - (intOf ii).toNat)
  case atStart => exact ⟨0, false, by omega, rfl, rfl, Lib.hid (by rw [List.drop_zero]), by (repeat' first | with_reducible (first | exact Below.refl _ _ | assumption | refine Below.alloc ?_ ?_ _ | refine below_drewN ?_ _ | refine Below.drew ?_ | refine Below.setCell ?_ ?_ _ | refine Below.trans ?_ (Below.mono (by with_reducible assumption) ?_)) | go_size)⟩
  case round =>
  obtain ⟨i, s, hi, rfl, rfl, HS, hbr⟩ := hrel
  have b3r := (hbr.cell (p := ⟨b, o + 3, none⟩) blt).trans b3
  have bltr : b < wr.heap.size := Nat.lt_of_lt_of_le blt hbr.size
  by_cases hlt : i < e.args.length
  case pos =>
    obtain ⟨x, hx⟩ : ∃ x, e.args[i]? = some x := ⟨_, List.getElem?_eq_getElem hlt⟩
    obtain ⟨d', b', off, c', vx, hd, hva, hxa, hxr⟩ := HR.out.el hx
    obtain ⟨h1, h2⟩ := slice_two hva
    clear hva
    subst h1 h2
    have hdr : e.args.drop i = x :: e.args.drop (i + 1) := by
      rw [List.getElem?_eq_getElem hlt] at hx
      injection hx with hx
      rw [← hx]
      exact List.drop_eq_getElem_cons hlt
    have HS2 := Lib.hid (HS.out.trans (by rw [hdr, Ev.exsC_cons]))
    have CI := Lib.hid (ih d' hd x A l va (.slice la l.length lc) vx k kb b' (off + i * 4) dark wr K FA.out FL.out (HK.out.on hbr) (HL.out.on hbr) (hxa.on hbr) (hxr.on hbr) (HW.out.1 x (List.mem_of_getElem? hx)))
    obtain ⟨RX, hRX⟩ : ∃ RX, Ev.exC A l dark x = RX := ⟨_, rfl⟩
    rw [hRX] at CI HS2
    clear hx hxa hxr hdr HS hRX hd
    go_upto_region 6 with (go_at_call 106; refine CI.out.mono ?_; rintro r w5 ⟨rfl, hb5⟩)
    by_cases h0 : RX.2 = 0
    case neg =>
      have g0 : (RX.2 != 0) = true := bne_iff_ne.2 h0
      have HF := Lib.hid (show (false, RX.2) = R by
        rw [← HE.out, HS2.out, if_pos h0, if_pos h0])
      clear h0
      go_wp2_with fail
      go_ret2
      exact ⟨by rw [← HF.out]; rfl, hbr.trans (hb5.mono hbr.size)⟩
    case pos =>
      have g0 : (RX.2 != 0) = false := by rw [h0]; rfl
      have HF := Lib.hid (show Ev.exsC A l dark e.args false = Ev.exsC A l dark (e.args.drop (i + 1)) (s || RX.1) by
        rw [HS2.out, if_neg (by simp [h0])])
      clear h0
      obtain ⟨sx, hsx⟩ : ∃ sx, RX.1 = sx := ⟨_, rfl⟩
      rw [hsx] at HF ⊢
      clear hsx
      cases s with
      | true =>
        go_wp2_with fail
        go_roundw
        case rel => exact ⟨i + 1, true, by omega, by go_num, rfl, Lib.hid HF.out, hbr.trans (hb5.mono hbr.size)⟩
        case measure => simp [intOf]; omega
      | false =>
        go_wp2_with fail
        go_roundw
        case rel => exact ⟨i + 1, sx, by omega, by go_num, rfl, Lib.hid HF.out, hbr.trans (hb5.mono hbr.size)⟩
        case measure => simp [intOf]; omega
  case neg =>
  obtain rfl : i = e.args.length := by omega
  have HS2 := Lib.hid (show Ev.exsC A l dark e.args false = (s, 0) by
    rw [HS.out, List.drop_length, Ev.exsC_nil])
  clear HS
  rw [HS2.out, if_neg (by simp)] at HE
  have c0 := (hbr.cell (p := ⟨b, o, none⟩) blt).trans HX.out.c0
  have c2 := (hbr.cell (p := ⟨b, o + 2, none⟩) blt).trans HX.out.c2
  by_cases h2 : e.kind = 2
  case pos =>
    rw [if_pos h2] at HE
    rw [h2] at c0
    have CF := Lib.hid (find_any l (.slice la l.length lc) e.name wr (HL.out.on hbr) FL.out)
    clear h2
    rcases Ev.find_cases l e.name with ⟨hn, hf⟩ | ⟨m, p, hn, hp, hf⟩
    case inl =>
      rw [hf] at HE
      have g0 : decide (Ev.nameI l e.name < 0) = true := decide_eq_true hn
      clear hf
      go_wp2_with (go_at_call 57; refine CF.out.mono ?_; rintro r w1 ⟨rfl, hb1⟩)
      go_ret2
      exact ⟨by rw [← HE.out]; rfl, hbr.trans (hb1.mono hbr.size)⟩
    case inr =>
      rw [hf] at HE
      rw [hn] at CF
      have hml := (List.getElem?_eq_some_iff.1 hp).1
      have HPA := Lib.hid ((RPars.at_ HL.out).2)
      obtain ⟨ba, oa, rfl, hal, hpa⟩ : ∃ ba oa, la = some ⟨ba, oa, none⟩ ∧ ba < w.heap.size ∧ ParsAt w ba oa l := by
        rcases HPA.out with h | h
        · rw [h] at hml; simp at hml
        · exact h
      obtain ⟨_, p1, p2⟩ := hpa m p hp
      have p1r := (hbr.cell (p := ⟨ba, oa + m * 3 + 1, none⟩) hal).trans p1
      have za : ba < wr.heap.size := Nat.lt_of_lt_of_le hal hbr.size
      clear hn hf hp hpa p1 p2
      go_upto_region 13 with (go_at_call 57; refine CF.out.mono ?_; rintro r w1 ⟨rfl, hb1⟩)
      have p1' := (hb1.cell (p := ⟨ba, oa + m * 3 + 1, none⟩) za).trans p1r
      go_wp2_with fail
      go_ret2
      exact ⟨by rw [← HE.out]; rfl, hbr.trans (hb1.mono hbr.size)⟩
  case neg =>
  rw [if_neg h2] at HE
  have g2 : (e.kind == 2) = false := beq_eq_false_iff_ne.2 h2
  by_cases h5 : e.kind = 5
  case neg =>
    rw [if_neg h5] at HE
    have g5 : (e.kind == 5) = false := beq_eq_false_iff_ne.2 h5
    clear h2 h5
    go_wp2_with fail
    go_ret2
    exact ⟨by rw [← HE.out]; rfl, hbr⟩
  case pos =>
    rw [if_pos h5] at HE
    obtain ⟨x, hxl⟩ := HW.out.2.1 h5
    have hx : e.args[0]? = some x := by rw [hxl]; rfl
    obtain ⟨d', b', off, c', vx, hd, hva, hxa, hxr⟩ := HR.out.el hx
    obtain ⟨h1, h3⟩ := slice_two hva
    clear hva
    subst h1 h3
    rw [hxl] at HE
    rw [h5] at c0
    have hln : (0 : Int) < (e.args.length : Int) := by simp [hxl]
    have hbr2 := Lib.hid hbr
    have CP := Lib.hid (fun u (hu : Below wr.heap.size wr u) => lkAt_any A FA.out va k kb e.name b' (off + 0 * 4) x vx s dark u ((HK.out.on hbr).on hu) ((hxa.on hbr).on hu))
    rw [show off + 0 * 4 = off by omega] at CP
    clear h2 g2 hx hxa hxr hxl h5 hd ih HW HR HS2
    go_upto_region 17 with fail
    clear hbr
    refine wp_region_chain (fun w' => Below (wr).heap.size (wr) w') (by kernel_rfl) (by kernel_rfl) (by (repeat' first | with_reducible (first | exact Below.refl _ _ | assumption | refine Below.alloc ?_ ?_ _ | refine below_drewN ?_ _ | refine Below.drew ?_ | refine Below.setCell ?_ ?_ _ | refine Below.trans ?_ (Below.mono (by with_reducible assumption) ?_)) | go_size)) ?_
    repeat (
      apply chain_cons
      case h =>
        refine fun w9 hb9 => ?_
        have hB9 : Below wr.heap.size wr w9 := by (repeat' first | with_reducible (first | exact Below.refl _ _ | assumption | refine Below.alloc ?_ ?_ _ | refine below_drewN ?_ _ | refine Below.drew ?_ | refine Below.setCell ?_ ?_ _ | refine Below.trans ?_ (Below.mono (by with_reducible assumption) ?_)) | go_size)
        obtain ⟨kc9, kf9, s9⟩ := bfacts hb9
        obtain ⟨kd9, kg9, _⟩ := bfacts hB9
        go_wp2_with (fail)
        (try (go_at_call 107; refine (CP.out _ hb9).mono ?_; rintro _ _ ⟨rfl, hb8⟩; go_wp2_with fail))
        refine settled_intro (S := fun w' => Below (wr).heap.size (wr) w') ?_
        (repeat' first | with_reducible (first | exact Below.refl _ _ | assumption | refine Below.alloc ?_ ?_ _ | refine below_drewN ?_ _ | refine Below.drew ?_ | refine Below.setCell ?_ ?_ _ | refine Below.trans ?_ (Below.mono (by with_reducible assumption) ?_)) | go_size)
      case hp => first | rfl | (simp only [*]; done) | (simp only [*]; rfl))
    refine chain.nil ?_
    refine fun w17 hb17 => ?_
    have B17 : Below wr.heap.size wr w17 := by (repeat' first | with_reducible (first | exact Below.refl _ _ | assumption | refine Below.alloc ?_ ?_ _ | refine below_drewN ?_ _ | refine Below.drew ?_ | refine Below.setCell ?_ ?_ _ | refine Below.trans ?_ (Below.mono (by with_reducible assumption) ?_)) | go_size)
    obtain ⟨kc17, kf17, s17⟩ := bfacts hb17
    obtain ⟨kd17, kg17, _⟩ := bfacts B17
    (try simp only [World.size_alloc, World.size_setCell, World.size_drew, World.heap_drewN, Nat.add_one_le_iff] at s17)
    clear hb17
    have hb17 := B17
    clear B17
    have B17 : Hid (Below wr.heap.size wr w17) := hb17
    (try have z17 : wr.heap.size < w17.heap.size := by omega)
    (try dsimp only)
    go_wp2_with fail
    go_ret2
    exact ⟨by rw [← HE.out]; rfl, hbr2.out.trans (hb17.mono hbr2.out.size)⟩
theorem lookX_all : ∀ d, LExDo d
  | 0 => lookX 0 (fun d' h => (by omega))
  | d + 1 => lookX (d + 1) (fun d' h => (by obtain rfl : d = d' := by omega
                                            exact lookX_all d))
end Go.Proofs.YtpbflgemhcaooaaDoor
/- The document's reader: one statement more on a list (a closure): what holds ahead of it, and behind it. -/
namespace Go.Proofs.YtpbflgemhcaooaaDoor
open Go.RowKit
set_option linter.unusedSimpArgs false
set_option linter.unusedVariables false
/-- what a statement's reader does -/
def StDoes (d : Nat) : Prop := ∀ (p : Ev.PS) (b : Nat) (w : World), PAt w b p → p.s.length ≤ 1200 → VarsP b w →
  Calls Tryd.prog 88 #[.pointer (some ⟨b, 0, none⟩), .int .i64 (9 - (d : Int))] w fun e w' => ∃ x, e = .returned (stV (Ev.stmtW d p).1 x) ∧ RParts d w' (fun k => w.heap.size ≤ k ∧ k < w'.heap.size) (Ev.stmtW d p).1 x ∧ PAt w' b (Ev.stmtW d p).2 ∧ PFr b w w'
/-- where the closure's things lie -/
structure SB where
  w0 : World
  b : Nat
  lb : Nat
  pb : Nat
  dk : Nat
  d : Nat
  hb : b < w0.heap.size
  h1 : w0.heap.size ≤ lb
  h2 : w0.heap.size ≤ pb
  h3 : w0.heap.size ≤ dk
  n1 : lb ≠ pb
  n2 : lb ≠ dk
def SB.K (B : SB) : Nat → Prop := fun k => B.w0.heap.size ≤ k ∧ k ≠ B.lb ∧ k ≠ B.pb ∧ k ≠ B.dk
/-- what holds between two statements -/
structure SI (B : SB) (u : World) (va : Value) (l : List Ev.St1) : Prop where
  fr : PFr B.b B.w0 u
  rp : u.heap[B.pb]? = some (.cells #[.pointer (some ⟨B.b, 0, none⟩)] 81 (0, 0))
  rd : u.heap[B.dk]? = some (.cells #[.int .i64 (9 - (B.d : Int))] 3 (0, 0))
  rl : u.heap[B.lb]? = some (.cells #[va] 23 (0, 0))
  row : StRow u B.w0.heap.size B.K B.d va l
  o1 : va.ownBlock ≠ some B.lb
  o2 : va.ownBlock ≠ some B.pb
  o3 : va.ownBlock ≠ some B.dk
theorem SI.own {B : SB} {u : World} {va : Value} {l : List Ev.St1} (h : SI B u va l) : ∃ vs : List V3, vs.length = l.length ∧ u.ownsRow B.w0.heap.size 109 7 va l.length (stCells l vs) := by
  obtain ⟨vs, h1, h2, _⟩ := h.row
  exact ⟨vs, h1, h2⟩
theorem SI.ol {B : SB} {u : World} {va : Value} {l : List Ev.St1} (h : SI B u va l) : ∀ k, va.ownBlock = some k → B.w0.heap.size ≤ k ∧ k < u.heap.size := by
  obtain ⟨vs, _, h2⟩ := h.own
  exact h2.lt
/-- it stays, where only the reader's block and new ones are changed -/
theorem SI.move {B : SB} {u u' : World} {va : Value} {l : List Ev.St1} (h : SI B u va l) (hF : PFr B.b u u') : SI B u' va l := by
  have hb := B.hb
  have h1 := B.h1
  have h2 := B.h2
  have h3 := B.h3
  have lt : ∀ {k o}, u.heap[k]? = some o → k < u.heap.size := fun h => (Array.getElem?_eq_some_iff.1 h).1
  refine ⟨h.fr.trans hF, (hF.block _ (lt h.rp) (by omega)).trans h.rp, (hF.block _ (lt h.rd) (by omega)).trans h.rd, (hF.block _ (lt h.rl) (by omega)).trans h.rl, ?_, h.o1, h.o2, h.o3⟩
  refine h.row.keep ⟨hF.os.symm, hF.tape.symm, hF.output.symm⟩ hF.size (fun k hk hkl => hF.block k hkl ?_)
  rcases hk with hk | hk
  · have := hk.1; omega
  · have := (h.ol k hk).1; omega
/-- the last steps: the row has grown, and is set; the list is the new row -/
theorem SI.last {B : SB} {u Z w7 W : World} {va : Value} {l : List Ev.St1} {q1 : Ev.PS} {g g7 c7 : Nat} {t : Ev.St1} {x : V3} {vs : List V3} (h : SI B u va l) (hF : PFr B.b u Z) (hA : PAt Z B.b q1) (hv1 : vs.length = l.length)
    (hv3 : ∀ (j : Nat) t x, l[j]? = some t → vs[j]? = some x → RParts B.d u (fun k => B.K k ∧ k < u.heap.size ∧ va.ownBlock ≠ some k) t x)
    (hg : u.heap.size ≤ g) (hgz : g < Z.heap.size) (hx : RParts B.d Z (fun k => u.heap.size ≤ k ∧ k < Z.heap.size ∧ k ≠ g) t x) (h7 : Z.grownBy w7 va.ownBlock)
    (hat : (Value.slice (some ⟨g7, 0, none⟩) (l.length + 1) c7).ownBlock = va.ownBlock ∨ (Value.slice (some ⟨g7, 0, none⟩) (l.length + 1) c7).ownBlock = some Z.heap.size)
    (hos : W.os = w7.os ∧ W.tape = w7.tape ∧ W.output = w7.output) (hsz : W.heap.size = w7.heap.size) (hlb : W.heap[B.lb]? = some (.cells #[.slice (some ⟨g7, 0, none⟩) (l.length + 1) c7] 23 (0, 0)))
    (hown : W.ownsRow B.w0.heap.size 109 7 (.slice (some ⟨g7, 0, none⟩) (l.length + 1) c7) (l.length + 1) (stCells l vs ++ st7 t x)) (hoth : ∀ k, k ≠ B.lb → k ≠ g7 → W.heap[k]? = w7.heap[k]?) :
    SI B W (.slice (some ⟨g7, 0, none⟩) (l.length + 1) c7) (l ++ [t]) ∧ PAt W B.b q1 := by
  have hb := B.hb
  have h1 := B.h1
  have h2 := B.h2
  have h3 := B.h3
  have n1 := B.n1
  have n2 := B.n2
  have lt : ∀ {k o}, u.heap[k]? = some o → k < u.heap.size := fun h => (Array.getElem?_eq_some_iff.1 h).1
  have s1 := hF.size
  have s2 := h7.size
  have hw0 := h.fr.size
  have e7 : g7 = g7 := rfl
  have g7c : va.ownBlock = some g7 ∨ g7 = Z.heap.size := by
    rcases hat with h | h
    · exact .inl h.symm
    · right; simp [Value.ownBlock] at h; exact h
  have ge7 : B.w0.heap.size ≤ g7 ∧ g7 ≠ B.lb ∧ g7 ≠ B.pb ∧ g7 ≠ B.dk := by
    rcases g7c with e | e
    · exact ⟨(h.ol g7 e).1, fun h' => h.o1 (h' ▸ e), fun h' => h.o2 (h' ▸ e), fun h' => h.o3 (h' ▸ e)⟩
    · have := lt h.rl; have := lt h.rp; have := lt h.rd
      exact ⟨by omega, by omega, by omega, by omega⟩
  -- what was there, but for the reader's block, the list's, the row
  have st : ∀ k, k < u.heap.size → k ≠ B.b → k ≠ B.lb → va.ownBlock ≠ some k → W.heap[k]? = u.heap[k]? := fun k hk hk1 hk2 hk3 => by
    rw [hoth k hk2 (by
      rcases g7c with e | e
      · exact fun h' => hk3 (h' ▸ e)
      · omega), h7.block k (by omega) (fun e => hk3 e.symm), hF.block k hk hk1]
  have sn : ∀ k, u.heap.size ≤ k → k < Z.heap.size → W.heap[k]? = Z.heap[k]? := fun k hk1 hk2 => by
    have hol := h.ol
    rw [hoth k (by have := lt h.rl; omega) (by
      rcases g7c with e | e
      · have := (hol g7 e).2; omega
      · omega), h7.block k hk2 (fun e => by have := (hol k e.symm).2; omega)]
  have on : ∀ k, va.ownBlock ≠ some k → k < Z.heap.size → (Value.slice (some ⟨g7, 0, none⟩) (l.length + 1) c7).ownBlock ≠ some k := fun k hk1 hk2 e => by
    simp [Value.ownBlock] at e
    rcases g7c with e' | e'
    · exact hk1 (e ▸ e')
    · omega
  have ol := h.ol
  constructor
  · refine ⟨⟨hos.1.trans (h7.os.trans (hF.os.trans h.fr.os)), hos.2.1.trans (h7.tape.trans (hF.tape.trans h.fr.tape)), hos.2.2.trans (h7.output.trans (hF.output.trans h.fr.output)), by omega, fun k hk hne => (st k (by omega) hne (by omega) (fun e => by have := (ol k e).1; omega)).trans (h.fr.block k hk hne)⟩,
      (st _ (lt h.rp) (by omega) (fun e => n1 e.symm) h.o2).trans h.rp, (st _ (lt h.rd) (by omega) (fun e => n2 e.symm) h.o3).trans h.rd, hlb, ?_, ?_, ?_, ?_⟩
    · refine ⟨vs ++ [x], by simp [hv1], ?_, fun j y z hy hz => ?_⟩
      · rw [stCells_snoc l vs t x hv1, List.length_append]
        exact hown
      · by_cases hi : j < l.length
        · rw [List.getElem?_append_left hi] at hy
          rw [List.getElem?_append_left (by omega)] at hz
          refine ((hv3 j y z hy hz).keep (by omega) (fun k hk hkl => st k hkl (by have := hk.1.1; omega) hk.1.2.1 hk.2.2)).wide (fun k hk => ⟨hk.1, by omega, on k hk.2.2 (by omega)⟩)
        · rw [List.getElem?_append_right (by omega)] at hy
          rw [List.getElem?_append_right (by omega)] at hz
          have hi0 : j = l.length := by
            by_cases h : j = l.length
            · exact h
            · rw [List.getElem?_eq_none (by simp; omega)] at hy; cases hy
          subst hi0
          rw [hv1] at hz
          simp at hy hz
          subst hy hz
          refine (hx.keep (by omega) (fun k hk hkl => sn k hk.1 hk.2.1)).wide (fun k hk => ⟨⟨by omega, by have := lt h.rl; omega, by have := lt h.rp; omega, by have := lt h.rd; omega⟩, by omega, on k (fun e => by have := (ol k e).2; omega) hk.2.1⟩)
    · simp [Value.ownBlock]; exact ge7.2.1
    · simp [Value.ownBlock]; exact ge7.2.2.1
    · simp [Value.ownBlock]; exact ge7.2.2.2
  · have hbl := hA.lt
    rw [show PAt W B.b q1 ↔ W.heap[B.b]? = some (.cells (psCells q1) 83 (0, 0)) from Iff.rfl, hoth B.b (by omega) (by omega), h7.block B.b hbl (fun e => by have := (ol B.b e.symm).1; omega)]
    exact hA
end Go.Proofs.YtpbflgemhcaooaaDoor
/- label.looker: a statement in memory; names; a clone of them. -/
namespace Go.Proofs.YtpbflgemhcaooaaDoor
open Go.RowKit
set_option linter.unusedSimpArgs false
set_option linter.unusedVariables false
theorem stCells_at : ∀ (l : List Ev.St1) (vs : List V3) (j : Nat) (t : Ev.St1) (x : V3) (i : Nat) (u : Value), vs.length = l.length → l[j]? = some t → vs[j]? = some x → (st7 t x)[i]? = some u → (stCells l vs)[j * 7 + i]? = some u
  | [], _, j, e, vx, i, u, _, h, _, _ => by simp at h
  | _ :: _, [], j, e, vx, i, u, h, _, _, _ => by simp at h
  | x :: l, y :: vs, 0, e, vx, i, u, hl, h1, h2, h3 => by
    simp at h1 h2
    subst h1 h2
    have hi := (List.getElem?_eq_some_iff.1 h3).1
    unfold stCells
    rw [Nat.zero_mul, Nat.zero_add, List.getElem?_append_left hi]
    exact h3
  | x :: l, y :: vs, j + 1, e, vx, i, u, hl, h1, h2, h3 => by
    have := stCells_at l vs j e vx i u (by simpa using hl) (by simpa using h1) (by simpa using h2) h3
    unfold stCells
    rw [List.getElem?_append_right (by show 7 ≤ _; omega)]
    rw [show (j + 1) * 7 + i - (st7 x y).length = j * 7 + i by show (j + 1) * 7 + i - 7 = _; omega]
    exact this
/-- a statement stands at b, o -/
structure StAt (w : World) (b o : Nat) (t : Ev.St1) (x : V3) : Prop where
  lt : b < w.heap.size
  c0 : w.cell? ⟨b, o, none⟩ = some (.int .i64 t.kind)
  c1 : w.cell? ⟨b, o + 1, none⟩ = some (.int .i64 t.n)
  c2 : w.cell? ⟨b, o + 2, none⟩ = some (.string ⟨t.name.toArray⟩)
  c3 : w.cell? ⟨b, o + 3, none⟩ = some (.bool t.secret)
  c4 : w.cell? ⟨b, o + 4, none⟩ = some x.1
  c5 : w.cell? ⟨b, o + 5, none⟩ = some x.2.1
  c6 : w.cell? ⟨b, o + 6, none⟩ = some x.2.2
theorem cell_sameL {w w' : World} {b : Nat} (h : w'.heap[b]? = w.heap[b]?) (o : Nat) : w'.cell? ⟨b, o, none⟩ = w.cell? ⟨b, o, none⟩ := by
  unfold World.cell?
  dsimp only
  rw [h]
theorem StAt.move {w w' : World} {b o : Nat} {t : Ev.St1} {x : V3} (h : StAt w b o t x) (hs : w.heap.size ≤ w'.heap.size) (he : w'.heap[b]? = w.heap[b]?) : StAt w' b o t x :=
  ⟨Nat.lt_of_lt_of_le h.lt hs, (cell_sameL he _).trans h.c0, (cell_sameL he _).trans h.c1, (cell_sameL he _).trans h.c2, (cell_sameL he _).trans h.c3, (cell_sameL he _).trans h.c4, (cell_sameL he _).trans h.c5, (cell_sameL he _).trans h.c6⟩
theorem StAt.fr {w w' : World} {kb b o : Nat} {t : Ev.St1} {x : V3} (h : StAt w b o t x) (hF : PFr kb w w') (hne : b ≠ kb) : StAt w' b o t x := h.move hF.size (hF.block b h.lt hne)
theorem StAt.on {w w' : World} {b o : Nat} {t : Ev.St1} {x : V3} (h : StAt w b o t x) (hb : Below w.heap.size w w') : StAt w' b o t x := h.move hb.size (hb.block b h.lt)
theorem RStL.el {d : Nat} {w : World} {K : Nat → Prop} {v : Value} {l : List Ev.St1} {j : Nat} {t : Ev.St1} (h : RStL d w K v l) (hj : l[j]? = some t) : ∃ (d' : Nat) (b off c : Nat) (x : V3), d = d' + 1 ∧ v = .slice (some ⟨b, off, none⟩) l.length c ∧ K b ∧ StAt w b (off + j * 7) t x ∧ RParts d' w K t x := by
  cases d with
  | zero => obtain ⟨rfl, rfl⟩ := h; simp at hj
  | succ d =>
    obtain ⟨vs, h1, h2, h3, h4⟩ := h
    have hlt := (List.getElem?_eq_some_iff.1 hj).1
    have hv : vs[j]? = some (vs[j]'(by omega)) := List.getElem?_eq_getElem _
    obtain ⟨b, o, c, e1, hb, _, _, hc⟩ := SL.row h2 (by omega)
    have hk := fun i u (hu : (st7 t (vs[j]'(by omega)))[i]? = some u) => hc (j * 7 + i) u (stCells_at l vs j t _ i u h1 hj hv hu)
    simp only [← Nat.add_assoc] at hk
    exact ⟨d, b, o, c, _, rfl, e1, h3 _ _ _ e1, ⟨hb, hk 0 _ rfl, hk 1 _ rfl, hk 2 _ rfl, hk 3 _ rfl, hk 4 _ rfl, hk 5 _ rfl, hk 6 _ rfl⟩, h4 j t _ hj hv⟩
theorem RStL.fr {d : Nat} {w w' : World} {kb : Nat} {K : Nat → Prop} {v : Value} {l : List Ev.St1} (h : RStL d w K v l) (hF : PFr kb w w') (hK : ∀ k, K k → k ≠ kb) : RStL d w' K v l := RStL.keep hF.size (fun k hk hkl => hF.block k hkl (hK k hk)) d v l h
theorem RExL.fr {d : Nat} {w w' : World} {kb : Nat} {K : Nat → Prop} {v : Value} {l : List Ev.Ex} (h : RExL d w K v l) (hF : PFr kb w w') (hK : ∀ k, K k → k ≠ kb) : RExL d w' K v l := RExL.keep hF.size (fun k hk hkl => hF.block k hkl (hK k hk)) d v l h
/-- names in memory, not in block kb -/
structure NmAt (w : World) (kb : Nat) (v : Value) (l : List Ev.Par) : Prop where
  r : RPars w v l
  k : inK (fun k => k ≠ kb) v
theorem NmAt.fr {w w' : World} {kb : Nat} {v : Value} {l : List Ev.Par} (h : NmAt w kb v l) (hF : PFr kb w w') : NmAt w' kb v l := ⟨SL.keep h.r h.k hF.size (fun k hk hkl => hF.block k hkl hk), h.k⟩
theorem NmAt.on {w w' : World} {kb : Nat} {v : Value} {l : List Ev.Par} (h : NmAt w kb v l) (hb : Below w.heap.size w w') : NmAt w' kb v l := ⟨h.r.on hb, h.k⟩
/-- the looker, its arrays elsewhere -/
structure LkOk (w : World) (kb : Nat) (A : List Ev.Par) (va : Value) (k : Ev.LK) : Prop where
  at_ : LkAt w kb A va k
  k : inK (fun k => k ≠ kb) va
theorem LkOk.on {w w' : World} {kb : Nat} {A : List Ev.Par} {va : Value} {k : Ev.LK} (h : LkOk w kb A va k) (hb : Below w.heap.size w w') : LkOk w' kb A va k := ⟨h.at_.on hb, h.k⟩
theorem LkOk.work {w : World} {kb : Nat} {A : List Ev.Par} {va : Value} {k : Ev.LK} (h : LkOk w kb A va k) (n : Int) : LkOk (w.setCell ⟨kb, 1, none⟩ (.int .i64 n)) kb A va ⟨n, k.lets⟩ :=
  ⟨⟨heap_setCell_same w kb 1 _ _ _ h.at_.r, SL.keep h.at_.a h.k (by simp) (fun j hj hjl => Below.heap_setCell w ⟨kb, 1, none⟩ _ j hj)⟩, h.k⟩
theorem LkOk.lets {w : World} {kb : Nat} {A : List Ev.Par} {va : Value} {k : Ev.LK} (h : LkOk w kb A va k) (n : Int) : LkOk (w.setCell ⟨kb, 2, none⟩ (.int .i64 n)) kb A va ⟨k.work, n⟩ :=
  ⟨⟨heap_setCell_same w kb 2 _ _ _ h.at_.r, SL.keep h.at_.a h.k (by simp) (fun j hj hjl => Below.heap_setCell w ⟨kb, 2, none⟩ _ j hj)⟩, h.k⟩
theorem PFr.put1 (w : World) (kb j : Nat) (v : Value) : PFr kb w (w.setCell ⟨kb, j, none⟩ v) :=
  ⟨rfl, rfl, rfl, by simp, fun k hk hne => Below.heap_setCell w ⟨kb, j, none⟩ v k hne⟩
theorem PFr.refl' (kb : Nat) (w : World) : PFr kb w w := PFr.of (Below.refl _ _)
theorem PFr.keep_nm {w : World} {kb : Nat} {v : Value} {l : List Ev.Par} (h : NmAt w kb v l) (j : Nat) (u : Value) : NmAt (w.setCell ⟨kb, j, none⟩ u) kb v l := h.fr (PFr.put1 w kb j u)
theorem one_pars (l : List Ev.Par) : ∀ u ∈ l.flatMap cellsP, u.oneCell' = true := fun u hu => by
  obtain ⟨p, _, hp⟩ := List.mem_flatMap.1 hu
  exact one_three_mk p u hp
set_option maxHeartbeats 800000 in
/-- slices.Clone of variables: a row of its own -/
theorem clonePar_own (l : List Ev.Par) (v : Value) (w : World) (h : RPars w v l) (hl : l.length ≤ 1073741824) :
    Calls Tryd.prog 56 #[v] w fun e w' => ∃ v', e = .returned v' ∧ w'.ownsRow w.heap.size 35 3 v' l.length (l.flatMap cellsP) ∧ Below w.heap.size w w' := by
  obtain ⟨i0, hi0, hz0, hz1, hz2⟩ := info_parts Tryd.varInfo
  have HI := Lib.hid (⟨hi0, hz0, hz1, hz2⟩ : _ ∧ _ ∧ _ ∧ _)
  clear hi0 hz0 hz1 hz2
  have HR := Lib.hid h
  obtain ⟨A, c, rfl, hc1, hc2⟩ := SL.form h
  have hnil : A = none → l = [] := fun ha => by
    subst ha
    cases l with
    | nil => rfl
    | cons x r =>
      obtain ⟨_, A', c', he, _, _, _, h4⟩ := h
      obtain ⟨b, o, e, _⟩ := h4 (by simp)
      subst e
      cases he
  clear h
  have heq := fun W a n c n' c' => Lib.run_eql_slice_nil (P := Tryd.prog) W 22 35 a n c n' c' Tryd.underlying22
  cases A with
  | none =>
    have hl0 := hnil rfl
    subst hl0
    clear hnil
    go_enter Tryd.func56, Tryd.ntmps56
    go_wp2
    go_ret
    exact ⟨_, rfl, World.ownsRow_nil _ _ _ _, by (repeat' first | with_reducible (first | exact Below.refl _ _ | assumption | refine Below.alloc ?_ ?_ _ | refine below_drewN ?_ _ | refine Below.drew ?_ | refine Below.setCell ?_ ?_ _ | refine Below.trans ?_ (Below.mono (by with_reducible assumption) ?_)) | go_size)⟩
  | some a =>
    clear hnil
    go_enter Tryd.func56, Tryd.ntmps56
    go_wp2_with (at_builtin; refine wpList_append_SL (B := w.heap.size) rfl (.tmp 5) (.tmp 6) _ rfl w.heap.size 35 i0 _ 32 Tryd.underlying22 HI.out.1 HI.out.2.1 HI.out.2.2.1 HI.out.2.2.2 rfl (by omega) rfl (World.ownsRow_made w #[] 0 (Nat.le_refl _) (by simp [maxLen]) (by simp)) rfl (SL.below HR.out (by (repeat' first | with_reducible (first | exact Below.refl _ _ | assumption | refine Below.alloc ?_ ?_ _ | refine below_drewN ?_ _ | refine Below.drew ?_ | refine Below.setCell ?_ ?_ _ | refine Below.trans ?_ (Below.mono (by with_reducible assumption) ?_)) | go_size))) (one_pars l) (by simp only [maxLen]; omega) (by omega) (by go_size) ?_; intro v1 w1 hown1 hg1 hat1)
    have hb1 : Below w.heap.size w w1 := (by (repeat' first | with_reducible (first | exact Below.refl _ _ | assumption | refine Below.alloc ?_ ?_ _ | refine below_drewN ?_ _ | refine Below.drew ?_ | refine Below.setCell ?_ ?_ _ | refine Below.trans ?_ (Below.mono (by with_reducible assumption) ?_)) | go_size) : Below w.heap.size w _).grown hg1 (by go_size) (by intro k hk; have hk' : w.heap.size = k := (Option.some.inj hk); omega)
    go_ret
    exact ⟨_, rfl, (by simpa using hown1), hb1⟩
end Go.Proofs.YtpbflgemhcaooaaDoor
