import Derived.Test.YtpbflgemhcaooaaDoorLb22
import Derived.Test.YtpbflgemhcaooaaDoorLb10
import Derived.Deep.DeepCutAuto
import Derived.Test.YtpbflgemhcaooaaDoorLb19
import Derived.Test.YtpbflgemhcaooaaDoorLb12
import Derived.Test.YtpbflgemhcaooaaDoorLb8
import Derived.Test.YtpbflgemhcaooaaDoorLb7
/- label.looker: is an expression secret. -/
namespace Ev
theorem wf_args {e : Ex} (h : WfE e) : (∀ a ∈ e.args, WfE a) ∧ (e.kind = 5 → ∃ a, e.args = [a]) ∧ e.args.length ≤ 3 := by
  cases h with
  | num n h1 h2 => exact ⟨fun a ha => (by cases ha), fun h => (by cases h), Nat.zero_le _⟩
  | name s h1 => exact ⟨fun a ha => (by cases ha), fun h => (by cases h), Nat.zero_le _⟩
  | op n a b h1 h2 h3 h4 =>
    refine ⟨fun x hx => ?_, fun h => (by cases h), by show 2 ≤ 3; decide⟩
    simp only [Ex.args, List.mem_cons, List.not_mem_nil, or_false] at hx
    rcases hx with rfl | rfl
    · exact h3
    · exact h4
  | sel a b c h1 h2 h3 =>
    refine ⟨fun x hx => ?_, fun h => (by cases h), by show 3 ≤ 3; decide⟩
    simp only [Ex.args, List.mem_cons, List.not_mem_nil, or_false] at hx
    rcases hx with rfl | rfl | rfl
    · exact h1
    · exact h2
    · exact h3
  | «at» s a h1 h2 =>
    refine ⟨fun x hx => ?_, fun h => ⟨a, rfl⟩, by show 1 ≤ 3; decide⟩
    simp only [Ex.args, List.mem_cons, List.not_mem_nil, or_false] at hx
    subst hx
    exact h2
end Ev
namespace Go.Proofs.YtpbflgemhcaooaaDoor
open Go.RowKit
set_option linter.unusedSimpArgs false
set_option linter.unusedVariables false
theorem exCells_at : ∀ (l : List Ev.Ex) (vs : List Value) (j : Nat) (e : Ev.Ex) (vx : Value) (i : Nat) (u : Value), vs.length = l.length → l[j]? = some e → vs[j]? = some vx → (ex4 e vx)[i]? = some u → (exCells l vs)[j * 4 + i]? = some u
  | [], _, j, e, vx, i, u, _, h, _, _ => by simp at h
  | _ :: _, [], j, e, vx, i, u, h, _, _, _ => by simp at h
  | x :: l, y :: vs, 0, e, vx, i, u, hl, h1, h2, h3 => by
    simp at h1 h2
    subst h1 h2
    have hi := (List.getElem?_eq_some_iff.1 h3).1
    unfold exCells
    rw [Nat.zero_mul, Nat.zero_add, List.getElem?_append_left hi]
    exact h3
  | x :: l, y :: vs, j + 1, e, vx, i, u, hl, h1, h2, h3 => by
    have := exCells_at l vs j e vx i u (by simpa using hl) (by simpa using h1) (by simpa using h2) h3
    unfold exCells
    rw [List.getElem?_append_right (by show 4 ≤ _; omega)]
    rw [show (j + 1) * 4 + i - (ex4 x y).length = j * 4 + i by show (j + 1) * 4 + i - 4 = _; omega]
    exact this
theorem RExL.el {d : Nat} {w : World} {K : Nat → Prop} {va : Value} {l : List Ev.Ex} {j : Nat} {e : Ev.Ex} (h : RExL d w K va l) (hj : l[j]? = some e) : ∃ (d' : Nat) (b off c : Nat) (vx : Value), d = d' + 1 ∧ va = .slice (some ⟨b, off, none⟩) l.length c ∧ XAt w b (off + j * 4) e vx ∧ RExL d' w K vx e.args := by
  cases d with
  | zero => obtain ⟨rfl, rfl⟩ := h; simp at hj
  | succ d =>
    obtain ⟨vs, h1, h2, h3, h4⟩ := h
    have hlt := (List.getElem?_eq_some_iff.1 hj).1
    have hv : vs[j]? = some (vs[j]'(by omega)) := List.getElem?_eq_getElem _
    obtain ⟨b, o, c, e1, hb, _, _, hc⟩ := SL.row h2 (by omega)
    have hk := fun i u (hu : (ex4 e (vs[j]'(by omega)))[i]? = some u) => hc (j * 4 + i) u (exCells_at l vs j e _ i u h1 hj hv hu)
    simp only [← Nat.add_assoc] at hk
    exact ⟨d, b, o, c, _, rfl, e1, ⟨hb, hk 0 _ rfl, hk 1 _ rfl, hk 2 _ rfl, hk 3 _ rfl⟩, h4 j e _ hj hv⟩
theorem RExL.on {d : Nat} {w w' : World} {K : Nat → Prop} {v : Value} {l : List Ev.Ex} (h : RExL d w K v l) (hb : Below w.heap.size w w') : RExL d w' K v l := RExL.keep hb.size (fun k _ hk => hb.block k hk) d v l h
theorem RExL.form {d : Nat} {w : World} {K : Nat → Prop} {v : Value} {l : List Ev.Ex} (h : RExL d w K v l) : ∃ A c, v = .slice A l.length c := by
  cases d with
  | zero => obtain ⟨rfl, rfl⟩ := h; exact ⟨_, _, rfl⟩
  | succ d => obtain ⟨_, _, h2, _⟩ := h; obtain ⟨A, c, e, _⟩ := SL.form h2; exact ⟨A, c, e⟩
theorem slice_two {a a' : Option Addr} {n n' c c' : Nat} (h : Value.slice a n c = .slice a' n' c') : a = a' ∧ c = c' := by
  injection h with h1 _ h2
  exact ⟨h1, h2⟩
abbrev fewP (l : List Ev.Par) : Prop := l.length * 32 ≤ 140737488351232
def LExDo (d : Nat) : Prop := ∀ (e : Ev.Ex) (A l : List Ev.Par) (va vl vx : Value) (k : Ev.LK) (kb b o : Nat) (dark : Bool) (w : World) (K : Nat → Prop), fewP A → fewP l → LkAt w kb A va k → RPars w vl l → XAt w b o e vx → RExL d w K vx e.args → Ev.WfE e →
  Calls Tryd.prog 106 #[.pointer (some ⟨kb, 0, none⟩), .pointer (some ⟨b, o, none⟩), vl, .bool dark] w fun r w' => r = .returned (.tuple #[.bool (Ev.exC A l dark e).1, .int .i64 (Ev.exC A l dark e).2]) ∧ Below w.heap.size w w'
set_option maxRecDepth 6000 in
set_option maxHeartbeats 3200000 in
theorem lookX (d : Nat) (ih : ∀ d', d = d' + 1 → LExDo d') : LExDo d := by
  intro e A l va vl vx k kb b o dark w K fA fl hk hl hx hr hw
  have HK := Lib.hid hk
  have HL := Lib.hid hl
  have HX := Lib.hid hx
  have HR := Lib.hid hr
  have HW := Lib.hid (Ev.wf_args hw)
  obtain ⟨a, c, rfl⟩ := hr.form
  have hlen3 : e.args.length ≤ 3 := HW.out.2.2
  obtain ⟨R, hR⟩ : ∃ R, Ev.exC A l dark e = R := ⟨_, rfl⟩
  rw [hR]
  have HE := Lib.hid ((Ev.exC_eq A l dark e).symm.trans hR)
  have FA := Lib.hid fA
  have FL := Lib.hid fl
  clear hR hk hl hx hr hw fA fl
  obtain ⟨la, lc, rfl, _, _⟩ := SL.form HL.out
  have b3 := HX.out.c3
  have blt := HX.out.lt
  go_enter Tryd.func106, Tryd.ntmps106
  go_upto_region 3 with fail
  go_loopw [20, 10] (fun ii ss wr => ∃ (i : Nat) (s : Bool), i ≤ e.args.length ∧ ii = .int .i64 (i : Int) ∧ ss = .bool s ∧ Hid (Ev.exsC A l dark e.args false = Ev.exsC A l dark (e.args.drop i) s) ∧ Below w.heap.size w wr) (fun ii _ _ => e.args.length - (intOf ii).toNat)
  case atStart => exact ⟨0, false, by omega, rfl, rfl, Lib.hid (by rw [List.drop_zero]), by (repeat' first | with_reducible (first | exact Below.refl _ _ | assumption | refine Below.alloc ?_ ?_ _ | refine below_drewN ?_ _ | refine Below.drew ?_ | refine Below.setCell ?_ ?_ _ | refine Below.trans ?_ (Below.mono (by with_reducible assumption) ?_)) | go_size)⟩
  case round =>
  obtain ⟨i, s, hi, rfl, rfl, HS, hbr⟩ := hrel
  have b3r := (hbr.cell (p := ⟨b, o + 3, none⟩) blt).trans b3
  have bltr : b < wr.heap.size := Nat.lt_of_lt_of_le blt hbr.size
  by_cases hlt : i < e.args.length
  case pos =>
    obtain ⟨x, hx⟩ : ∃ x, e.args[i]? = some x := ⟨_, List.getElem?_eq_getElem hlt⟩
    obtain ⟨d', b', off, c', vx, hd, hva, hxa, hxr⟩ := HR.out.el hx
    obtain ⟨h1, h2⟩ := slice_two hva
    clear hva
    subst h1 h2
    have hdr : e.args.drop i = x :: e.args.drop (i + 1) := by
      rw [List.getElem?_eq_getElem hlt] at hx
      injection hx with hx
      rw [← hx]
      exact List.drop_eq_getElem_cons hlt
    have HS2 := Lib.hid (HS.out.trans (by rw [hdr, Ev.exsC_cons]))
    have CI := Lib.hid (ih d' hd x A l va (.slice la l.length lc) vx k kb b' (off + i * 4) dark wr K FA.out FL.out (HK.out.on hbr) (HL.out.on hbr) (hxa.on hbr) (hxr.on hbr) (HW.out.1 x (List.mem_of_getElem? hx)))
    obtain ⟨RX, hRX⟩ : ∃ RX, Ev.exC A l dark x = RX := ⟨_, rfl⟩
    rw [hRX] at CI HS2
    clear hx hxa hxr hdr HS hRX hd
    go_upto_region 6 with (go_at_call 106; refine CI.out.mono ?_; rintro r w5 ⟨rfl, hb5⟩)
    by_cases h0 : RX.2 = 0
    case neg =>
      have g0 : (RX.2 != 0) = true := bne_iff_ne.2 h0
      have HF := Lib.hid (show (false, RX.2) = R by
        rw [← HE.out, HS2.out, if_pos h0, if_pos h0])
      clear h0
      go_wp2_with fail
      go_ret2
      exact ⟨by rw [← HF.out]; rfl, hbr.trans (hb5.mono hbr.size)⟩
    case pos =>
      have g0 : (RX.2 != 0) = false := by rw [h0]; rfl
      have HF := Lib.hid (show Ev.exsC A l dark e.args false = Ev.exsC A l dark (e.args.drop (i + 1)) (s || RX.1) by
        rw [HS2.out, if_neg (by simp [h0])])
      clear h0
      obtain ⟨sx, hsx⟩ : ∃ sx, RX.1 = sx := ⟨_, rfl⟩
      rw [hsx] at HF ⊢
      clear hsx
      cases s with
      | true =>
        go_wp2_with fail
        go_roundw
        case rel => exact ⟨i + 1, true, by omega, by go_num, rfl, Lib.hid HF.out, hbr.trans (hb5.mono hbr.size)⟩
        case measure => simp [intOf]; omega
      | false =>
        go_wp2_with fail
        go_roundw
        case rel => exact ⟨i + 1, sx, by omega, by go_num, rfl, Lib.hid HF.out, hbr.trans (hb5.mono hbr.size)⟩
        case measure => simp [intOf]; omega
  case neg =>
  obtain rfl : i = e.args.length := by omega
  have HS2 := Lib.hid (show Ev.exsC A l dark e.args false = (s, 0) by
    rw [HS.out, List.drop_length, Ev.exsC_nil])
  clear HS
  rw [HS2.out, if_neg (by simp)] at HE
  have c0 := (hbr.cell (p := ⟨b, o, none⟩) blt).trans HX.out.c0
  have c2 := (hbr.cell (p := ⟨b, o + 2, none⟩) blt).trans HX.out.c2
  by_cases h2 : e.kind = 2
  case pos =>
    rw [if_pos h2] at HE
    rw [h2] at c0
    have CF := Lib.hid (find_any l (.slice la l.length lc) e.name wr (HL.out.on hbr) FL.out)
    clear h2
    rcases Ev.find_cases l e.name with ⟨hn, hf⟩ | ⟨m, p, hn, hp, hf⟩
    case inl =>
      rw [hf] at HE
      have g0 : decide (Ev.nameI l e.name < 0) = true := decide_eq_true hn
      clear hf
      go_wp2_with (go_at_call 57; refine CF.out.mono ?_; rintro r w1 ⟨rfl, hb1⟩)
      go_ret2
      exact ⟨by rw [← HE.out]; rfl, hbr.trans (hb1.mono hbr.size)⟩
    case inr =>
      rw [hf] at HE
      rw [hn] at CF
      have hml := (List.getElem?_eq_some_iff.1 hp).1
      have HPA := Lib.hid ((RPars.at_ HL.out).2)
      obtain ⟨ba, oa, rfl, hal, hpa⟩ : ∃ ba oa, la = some ⟨ba, oa, none⟩ ∧ ba < w.heap.size ∧ ParsAt w ba oa l := by
        rcases HPA.out with h | h
        · rw [h] at hml; simp at hml
        · exact h
      obtain ⟨_, p1, p2⟩ := hpa m p hp
      have p1r := (hbr.cell (p := ⟨ba, oa + m * 3 + 1, none⟩) hal).trans p1
      have za : ba < wr.heap.size := Nat.lt_of_lt_of_le hal hbr.size
      clear hn hf hp hpa p1 p2
      go_upto_region 13 with (go_at_call 57; refine CF.out.mono ?_; rintro r w1 ⟨rfl, hb1⟩)
      have p1' := (hb1.cell (p := ⟨ba, oa + m * 3 + 1, none⟩) za).trans p1r
      go_wp2_with fail
      go_ret2
      exact ⟨by rw [← HE.out]; rfl, hbr.trans (hb1.mono hbr.size)⟩
  case neg =>
  rw [if_neg h2] at HE
  have g2 : (e.kind == 2) = false := beq_eq_false_iff_ne.2 h2
  by_cases h5 : e.kind = 5
  case neg =>
    rw [if_neg h5] at HE
    have g5 : (e.kind == 5) = false := beq_eq_false_iff_ne.2 h5
    clear h2 h5
    go_wp2_with fail
    go_ret2
    exact ⟨by rw [← HE.out]; rfl, hbr⟩
  case pos =>
    rw [if_pos h5] at HE
    obtain ⟨x, hxl⟩ := HW.out.2.1 h5
    have hx : e.args[0]? = some x := by rw [hxl]; rfl
    obtain ⟨d', b', off, c', vx, hd, hva, hxa, hxr⟩ := HR.out.el hx
    obtain ⟨h1, h3⟩ := slice_two hva
    clear hva
    subst h1 h3
    rw [hxl] at HE
    rw [h5] at c0
    have hln : (0 : Int) < (e.args.length : Int) := by simp [hxl]
    have hbr2 := Lib.hid hbr
    have CP := Lib.hid (fun u (hu : Below wr.heap.size wr u) => lkAt_any A FA.out va k kb e.name b' (off + 0 * 4) x vx s dark u ((HK.out.on hbr).on hu) ((hxa.on hbr).on hu))
    rw [show off + 0 * 4 = off by omega] at CP
    clear h2 g2 hx hxa hxr hxl h5 hd ih HW HR HS2
    go_upto_region 17 with fail
    clear hbr
    refine wp_region_chain (fun w' => Below (wr).heap.size (wr) w') (by kernel_rfl) (by kernel_rfl) (by (repeat' first | with_reducible (first | exact Below.refl _ _ | assumption | refine Below.alloc ?_ ?_ _ | refine below_drewN ?_ _ | refine Below.drew ?_ | refine Below.setCell ?_ ?_ _ | refine Below.trans ?_ (Below.mono (by with_reducible assumption) ?_)) | go_size)) ?_
    repeat (
      apply chain_cons
      case h =>
        refine fun w9 hb9 => ?_
        have hB9 : Below wr.heap.size wr w9 := by (repeat' first | with_reducible (first | exact Below.refl _ _ | assumption | refine Below.alloc ?_ ?_ _ | refine below_drewN ?_ _ | refine Below.drew ?_ | refine Below.setCell ?_ ?_ _ | refine Below.trans ?_ (Below.mono (by with_reducible assumption) ?_)) | go_size)
        obtain ⟨kc9, kf9, s9⟩ := bfacts hb9
        obtain ⟨kd9, kg9, _⟩ := bfacts hB9
        go_wp2_with (fail)
        (try (go_at_call 107; refine (CP.out _ hb9).mono ?_; rintro _ _ ⟨rfl, hb8⟩; go_wp2_with fail))
        refine settled_intro (S := fun w' => Below (wr).heap.size (wr) w') ?_
        (repeat' first | with_reducible (first | exact Below.refl _ _ | assumption | refine Below.alloc ?_ ?_ _ | refine below_drewN ?_ _ | refine Below.drew ?_ | refine Below.setCell ?_ ?_ _ | refine Below.trans ?_ (Below.mono (by with_reducible assumption) ?_)) | go_size)
      case hp => first | rfl | (simp only [*]; done) | (simp only [*]; rfl))
    refine chain.nil ?_
    refine fun w17 hb17 => ?_
    have B17 : Below wr.heap.size wr w17 := by (repeat' first | with_reducible (first | exact Below.refl _ _ | assumption | refine Below.alloc ?_ ?_ _ | refine below_drewN ?_ _ | refine Below.drew ?_ | refine Below.setCell ?_ ?_ _ | refine Below.trans ?_ (Below.mono (by with_reducible assumption) ?_)) | go_size)
    obtain ⟨kc17, kf17, s17⟩ := bfacts hb17
    obtain ⟨kd17, kg17, _⟩ := bfacts B17
    (try simp only [World.size_alloc, World.size_setCell, World.size_drew, World.heap_drewN, Nat.add_one_le_iff] at s17)
    clear hb17
    have hb17 := B17
    clear B17
    have B17 : Hid (Below wr.heap.size wr w17) := hb17
    (try have z17 : wr.heap.size < w17.heap.size := by omega)
    (try dsimp only)
    go_wp2_with fail
    go_ret2
    exact ⟨by rw [← HE.out]; rfl, hbr2.out.trans (hb17.mono hbr2.out.size)⟩
theorem lookX_all : ∀ d, LExDo d
  | 0 => lookX 0 (fun d' h => (by omega))
  | d + 1 => lookX (d + 1) (fun d' h => (by obtain rfl : d = d' := by omega
                                            exact lookX_all d))
end Go.Proofs.YtpbflgemhcaooaaDoor
/- label.looker: a statement in memory; names; a clone of them. -/
namespace Go.Proofs.YtpbflgemhcaooaaDoor
open Go.RowKit
set_option linter.unusedSimpArgs false
set_option linter.unusedVariables false
theorem stCells_at : ∀ (l : List Ev.St1) (vs : List V3) (j : Nat) (t : Ev.St1) (x : V3) (i : Nat) (u : Value), vs.length = l.length → l[j]? = some t → vs[j]? = some x → (st7 t x)[i]? = some u → (stCells l vs)[j * 7 + i]? = some u
  | [], _, j, e, vx, i, u, _, h, _, _ => by simp at h
  | _ :: _, [], j, e, vx, i, u, h, _, _, _ => by simp at h
  | x :: l, y :: vs, 0, e, vx, i, u, hl, h1, h2, h3 => by
    simp at h1 h2
    subst h1 h2
    have hi := (List.getElem?_eq_some_iff.1 h3).1
    unfold stCells
    rw [Nat.zero_mul, Nat.zero_add, List.getElem?_append_left hi]
    exact h3
  | x :: l, y :: vs, j + 1, e, vx, i, u, hl, h1, h2, h3 => by
    have := stCells_at l vs j e vx i u (by simpa using hl) (by simpa using h1) (by simpa using h2) h3
    unfold stCells
    rw [List.getElem?_append_right (by show 7 ≤ _; omega)]
    rw [show (j + 1) * 7 + i - (st7 x y).length = j * 7 + i by show (j + 1) * 7 + i - 7 = _; omega]
    exact this
/-- a statement stands at b, o -/
structure StAt (w : World) (b o : Nat) (t : Ev.St1) (x : V3) : Prop where
  lt : b < w.heap.size
  c0 : w.cell? ⟨b, o, none⟩ = some (.int .i64 t.kind)
  c1 : w.cell? ⟨b, o + 1, none⟩ = some (.int .i64 t.n)
  c2 : w.cell? ⟨b, o + 2, none⟩ = some (.string ⟨t.name.toArray⟩)
  c3 : w.cell? ⟨b, o + 3, none⟩ = some (.bool t.secret)
  c4 : w.cell? ⟨b, o + 4, none⟩ = some x.1
  c5 : w.cell? ⟨b, o + 5, none⟩ = some x.2.1
  c6 : w.cell? ⟨b, o + 6, none⟩ = some x.2.2
theorem cell_sameL {w w' : World} {b : Nat} (h : w'.heap[b]? = w.heap[b]?) (o : Nat) : w'.cell? ⟨b, o, none⟩ = w.cell? ⟨b, o, none⟩ := by
  unfold World.cell?
  dsimp only
  rw [h]
theorem StAt.move {w w' : World} {b o : Nat} {t : Ev.St1} {x : V3} (h : StAt w b o t x) (hs : w.heap.size ≤ w'.heap.size) (he : w'.heap[b]? = w.heap[b]?) : StAt w' b o t x :=
  ⟨Nat.lt_of_lt_of_le h.lt hs, (cell_sameL he _).trans h.c0, (cell_sameL he _).trans h.c1, (cell_sameL he _).trans h.c2, (cell_sameL he _).trans h.c3, (cell_sameL he _).trans h.c4, (cell_sameL he _).trans h.c5, (cell_sameL he _).trans h.c6⟩
theorem StAt.fr {w w' : World} {kb b o : Nat} {t : Ev.St1} {x : V3} (h : StAt w b o t x) (hF : PFr kb w w') (hne : b ≠ kb) : StAt w' b o t x := h.move hF.size (hF.block b h.lt hne)
theorem StAt.on {w w' : World} {b o : Nat} {t : Ev.St1} {x : V3} (h : StAt w b o t x) (hb : Below w.heap.size w w') : StAt w' b o t x := h.move hb.size (hb.block b h.lt)
theorem RStL.el {d : Nat} {w : World} {K : Nat → Prop} {v : Value} {l : List Ev.St1} {j : Nat} {t : Ev.St1} (h : RStL d w K v l) (hj : l[j]? = some t) : ∃ (d' : Nat) (b off c : Nat) (x : V3), d = d' + 1 ∧ v = .slice (some ⟨b, off, none⟩) l.length c ∧ K b ∧ StAt w b (off + j * 7) t x ∧ RParts d' w K t x := by
  cases d with
  | zero => obtain ⟨rfl, rfl⟩ := h; simp at hj
  | succ d =>
    obtain ⟨vs, h1, h2, h3, h4⟩ := h
    have hlt := (List.getElem?_eq_some_iff.1 hj).1
    have hv : vs[j]? = some (vs[j]'(by omega)) := List.getElem?_eq_getElem _
    obtain ⟨b, o, c, e1, hb, _, _, hc⟩ := SL.row h2 (by omega)
    have hk := fun i u (hu : (st7 t (vs[j]'(by omega)))[i]? = some u) => hc (j * 7 + i) u (stCells_at l vs j t _ i u h1 hj hv hu)
    simp only [← Nat.add_assoc] at hk
    exact ⟨d, b, o, c, _, rfl, e1, h3 _ _ _ e1, ⟨hb, hk 0 _ rfl, hk 1 _ rfl, hk 2 _ rfl, hk 3 _ rfl, hk 4 _ rfl, hk 5 _ rfl, hk 6 _ rfl⟩, h4 j t _ hj hv⟩
theorem RStL.fr {d : Nat} {w w' : World} {kb : Nat} {K : Nat → Prop} {v : Value} {l : List Ev.St1} (h : RStL d w K v l) (hF : PFr kb w w') (hK : ∀ k, K k → k ≠ kb) : RStL d w' K v l := RStL.keep hF.size (fun k hk hkl => hF.block k hkl (hK k hk)) d v l h
theorem RExL.fr {d : Nat} {w w' : World} {kb : Nat} {K : Nat → Prop} {v : Value} {l : List Ev.Ex} (h : RExL d w K v l) (hF : PFr kb w w') (hK : ∀ k, K k → k ≠ kb) : RExL d w' K v l := RExL.keep hF.size (fun k hk hkl => hF.block k hkl (hK k hk)) d v l h
/-- names in memory, not in block kb -/
structure NmAt (w : World) (kb : Nat) (v : Value) (l : List Ev.Par) : Prop where
  r : RPars w v l
  k : inK (fun k => k ≠ kb) v
theorem NmAt.fr {w w' : World} {kb : Nat} {v : Value} {l : List Ev.Par} (h : NmAt w kb v l) (hF : PFr kb w w') : NmAt w' kb v l := ⟨SL.keep h.r h.k hF.size (fun k hk hkl => hF.block k hkl hk), h.k⟩
theorem NmAt.on {w w' : World} {kb : Nat} {v : Value} {l : List Ev.Par} (h : NmAt w kb v l) (hb : Below w.heap.size w w') : NmAt w' kb v l := ⟨h.r.on hb, h.k⟩
/-- the looker, its arrays elsewhere -/
structure LkOk (w : World) (kb : Nat) (A : List Ev.Par) (va : Value) (k : Ev.LK) : Prop where
  at_ : LkAt w kb A va k
  k : inK (fun k => k ≠ kb) va
theorem LkOk.on {w w' : World} {kb : Nat} {A : List Ev.Par} {va : Value} {k : Ev.LK} (h : LkOk w kb A va k) (hb : Below w.heap.size w w') : LkOk w' kb A va k := ⟨h.at_.on hb, h.k⟩
theorem LkOk.work {w : World} {kb : Nat} {A : List Ev.Par} {va : Value} {k : Ev.LK} (h : LkOk w kb A va k) (n : Int) : LkOk (w.setCell ⟨kb, 1, none⟩ (.int .i64 n)) kb A va ⟨n, k.lets⟩ :=
  ⟨⟨heap_setCell_same w kb 1 _ _ _ h.at_.r, SL.keep h.at_.a h.k (by simp) (fun j hj hjl => Below.heap_setCell w ⟨kb, 1, none⟩ _ j hj)⟩, h.k⟩
theorem LkOk.lets {w : World} {kb : Nat} {A : List Ev.Par} {va : Value} {k : Ev.LK} (h : LkOk w kb A va k) (n : Int) : LkOk (w.setCell ⟨kb, 2, none⟩ (.int .i64 n)) kb A va ⟨k.work, n⟩ :=
  ⟨⟨heap_setCell_same w kb 2 _ _ _ h.at_.r, SL.keep h.at_.a h.k (by simp) (fun j hj hjl => Below.heap_setCell w ⟨kb, 2, none⟩ _ j hj)⟩, h.k⟩
theorem PFr.put1 (w : World) (kb j : Nat) (v : Value) : PFr kb w (w.setCell ⟨kb, j, none⟩ v) :=
  ⟨rfl, rfl, rfl, by simp, fun k hk hne => Below.heap_setCell w ⟨kb, j, none⟩ v k hne⟩
theorem PFr.refl' (kb : Nat) (w : World) : PFr kb w w := PFr.of (Below.refl _ _)
theorem PFr.keep_nm {w : World} {kb : Nat} {v : Value} {l : List Ev.Par} (h : NmAt w kb v l) (j : Nat) (u : Value) : NmAt (w.setCell ⟨kb, j, none⟩ u) kb v l := h.fr (PFr.put1 w kb j u)
theorem one_pars (l : List Ev.Par) : ∀ u ∈ l.flatMap cellsP, u.oneCell' = true := fun u hu => by
  obtain ⟨p, _, hp⟩ := List.mem_flatMap.1 hu
  exact one_three_mk p u hp
set_option maxHeartbeats 800000 in
/-- slices.Clone of variables: a row of its own -/
theorem clonePar_own (l : List Ev.Par) (v : Value) (w : World) (h : RPars w v l) (hl : l.length ≤ 1073741824) :
    Calls Tryd.prog 56 #[v] w fun e w' => ∃ v', e = .returned v' ∧ w'.ownsRow w.heap.size 35 3 v' l.length (l.flatMap cellsP) ∧ Below w.heap.size w w' := by
  obtain ⟨i0, hi0, hz0, hz1, hz2⟩ := info_parts Tryd.varInfo
  have HI := Lib.hid (⟨hi0, hz0, hz1, hz2⟩ : _ ∧ _ ∧ _ ∧ _)
  clear hi0 hz0 hz1 hz2
  have HR := Lib.hid h
  obtain ⟨A, c, rfl, hc1, hc2⟩ := SL.form h
  have hnil : A = none → l = [] := fun ha => by
    subst ha
    cases l with
    | nil => rfl
    | cons x r =>
      obtain ⟨_, A', c', he, _, _, _, h4⟩ := h
      obtain ⟨b, o, e, _⟩ := h4 (by simp)
      subst e
      cases he
  clear h
  have heq := fun W a n c n' c' => Lib.run_eql_slice_nil (P := Tryd.prog) W 22 35 a n c n' c' Tryd.underlying22
  cases A with
  | none =>
    have hl0 := hnil rfl
    subst hl0
    clear hnil
    go_enter Tryd.func56, Tryd.ntmps56
    go_wp2
    go_ret
    exact ⟨_, rfl, World.ownsRow_nil _ _ _ _, by (repeat' first | with_reducible (first | exact Below.refl _ _ | assumption | refine Below.alloc ?_ ?_ _ | refine below_drewN ?_ _ | refine Below.drew ?_ | refine Below.setCell ?_ ?_ _ | refine Below.trans ?_ (Below.mono (by with_reducible assumption) ?_)) | go_size)⟩
  | some a =>
    clear hnil
    go_enter Tryd.func56, Tryd.ntmps56
    go_wp2_with (at_builtin; refine wpList_append_SL (B := w.heap.size) rfl (.tmp 5) (.tmp 6) _ rfl w.heap.size 35 i0 _ 32 Tryd.underlying22 HI.out.1 HI.out.2.1 HI.out.2.2.1 HI.out.2.2.2 rfl (by omega) rfl (World.ownsRow_made w #[] 0 (Nat.le_refl _) (by simp [maxLen]) (by simp)) rfl (SL.below HR.out (by (repeat' first | with_reducible (first | exact Below.refl _ _ | assumption | refine Below.alloc ?_ ?_ _ | refine below_drewN ?_ _ | refine Below.drew ?_ | refine Below.setCell ?_ ?_ _ | refine Below.trans ?_ (Below.mono (by with_reducible assumption) ?_)) | go_size))) (one_pars l) (by simp only [maxLen]; omega) (by omega) (by go_size) ?_; intro v1 w1 hown1 hg1 hat1)
    have hb1 : Below w.heap.size w w1 := (by (repeat' first | with_reducible (first | exact Below.refl _ _ | assumption | refine Below.alloc ?_ ?_ _ | refine below_drewN ?_ _ | refine Below.drew ?_ | refine Below.setCell ?_ ?_ _ | refine Below.trans ?_ (Below.mono (by with_reducible assumption) ?_)) | go_size) : Below w.heap.size w _).grown hg1 (by go_size) (by intro k hk; have hk' : w.heap.size = k := (Option.some.inj hk); omega)
    go_ret
    exact ⟨_, rfl, (by simpa using hown1), hb1⟩
end Go.Proofs.YtpbflgemhcaooaaDoor
/- A drawn region whose last operation (a counter's beginning) is taken ahead of all others. -/
namespace Go.Proofs.YtpbflgemhcaooaaDoor
open Go.RowKit
set_option linter.unusedSimpArgs false
set_option linter.unusedVariables false
section
variable {P : Program} {ops : Array Oper} {Q : Exit → Act → World → Prop}
theorem wpAny_flock_tail {ls : List Oper} {a : Act} {w : World} (n : Nat) (pr : Nat → Option Hv)
    (hl : ((List.range (ls.length - n)).all fun i => lastIn (ls.take (n + (i + 1))).toArray (n + i) && orderly (ls.take (n + (i + 1))).toArray) = true) (hn : decide (n ≤ ls.length) = true) (ho : orderly (ls.take n).toArray = true)
    (hf : flock P (ls.take n).toArray w pr (fun a' w' => wpList P ls.toArray Q (ls.drop n) a' w') 0 [] (ls.take n) a) : wpAny P .any ls.toArray Q ls.toArray.size (Array.replicate ls.toArray.size false) a w := by
  have hn := of_decide_eq_true hn
  rw [List.all_eq_true] at hl
  have hln : (ls.take n).length = n := by rw [List.length_take]; omega
  have htk : ∀ i, ls.take n ++ (ls.drop n).take i = ls.take (n + i) := fun i => by rw [List.take_add]
  have htd : ls.take n ++ ls.drop n = ls := List.take_append_drop n ls
  obtain ⟨Qh, h1, h2⟩ := tail_up (P := P) (ls.take n) _ (ls.drop n) Q rfl (fun i hi => by
      have := hl i (List.mem_range.2 (by simpa using hi))
      rw [Bool.and_eq_true] at this
      rw [htk, hln]
      exact this.1) (fun i hi => by
      cases i with
      | zero => simpa using ho
      | succ i =>
        have := hl i (List.mem_range.2 (by simp at hi; omega))
        rw [Bool.and_eq_true] at this
        rw [htk]
        exact this.2)
  rw [htd] at h1 h2
  have H := flock_start (Q := Qh) (l := ls.take n) (a := a) (w := w) (pr := pr) (flock_mono h1 _ 0 [] a hf) ho
  have h3 := h2 (ls.take n).length a w (by
    simp only [List.size_toArray] at H
    exact H)
  have e : (ls.take n).length + (ls.drop n).length = ls.toArray.size := by simp; omega
  rw [e] at h3
  exact h3
/-- operation p is the last one; nobody waits for it, no guard looks at it -/
def looseIn (ops : Array Oper) (p : Nat) : Bool :=
  decide (p + 1 = ops.size) && (List.range p).all fun k => match ops[k]? with
    | some o => o.after.all (fun e => decide (e.on < p)) && match o.guard with
      | some (g, _) => decide (g < p)
      | none => true
    | none => true
theorem looseIn_spec {p : Nat} (h : looseIn ops p = true) : p + 1 = ops.size ∧ ∀ k o, k < p → ops[k]? = some o → (∀ e ∈ o.after, e.on < p) ∧ ∀ g b, o.guard = some (g, b) → g < p := by
  unfold looseIn at h
  rw [Bool.and_eq_true, decide_eq_true_eq, List.all_eq_true] at h
  refine ⟨h.1, fun k o hk ho => ?_⟩
  have h2 := h.2 k (List.mem_range.2 hk)
  rw [ho] at h2
  simp only [Bool.and_eq_true, Array.all_eq_true_iff_forall_mem, decide_eq_true_eq] at h2
  refine ⟨h2.1, fun g b hg => ?_⟩
  have h3 := h2.2
  rw [hg] at h3
  simpa using h3
theorem loose_ready {p : Nat} (h : looseIn ops p = true) {listed : Array Bool} (hsz : listed.size = ops.size) {i : Nat} (hi : i < p) : i ∈ Region.ready .any ops listed ↔ i ∈ Region.ready .any ops.pop listed.pop := by
  obtain ⟨hp, hs⟩ := looseIn_spec h
  have hg : ∀ k b, k < p → listed.pop.getD k b = listed.getD k b := fun k b hk => by
    have h1 : k < listed.size := by omega
    have h2 : k < listed.size - 1 := by omega
    simp [Array.getD_eq_getD_getElem?, Array.getElem?_pop, h1, h2]
  rw [mem_ready, mem_ready, pop_get hp hi, hg i true hi]
  constructor
  · rintro ⟨h1, o, h2, h3⟩
    exact ⟨h1, o, h2, fun e he hb => by rw [hg e.on false ((hs i o hi h2).1 e he)]; exact h3 e he hb⟩
  · rintro ⟨h1, o, h2, h3⟩
    exact ⟨h1, o, h2, fun e he hb => by have := h3 e he hb; rwa [hg e.on false ((hs i o hi h2).1 e he)] at this⟩
theorem loose_wpOp {p i : Nat} (h : looseIn ops p = true) (hi : i < p) {K : Act → World → Prop} {a : Act} {w : World} (hh : Go.wpOp P ops.pop Q i K a w) : Go.wpOp P ops Q i K a w := by
  obtain ⟨hp, hs⟩ := looseIn_spec h
  unfold Go.wpOp at *
  rw [pop_get hp hi] at hh
  cases ho : ops[i]? with
  | none => rw [ho] at hh; exact hh
  | some o =>
    rw [ho] at hh
    simp only at hh ⊢
    rw [wanted_pop hp (hs i o hi ho).2] at hh
    exact hh
theorem loose_wpAny {p : Nat} (h : looseIn ops p = true) : ∀ (fuel : Nat) (listed : Array Bool) (a : Act) (w : World), listed.size = ops.size → listed.getD p true = true → wpAny P .any ops.pop Q fuel listed.pop a w → wpAny P .any ops Q fuel listed a w := by
  obtain ⟨hp, hs⟩ := looseIn_spec h
  have none_ : ∀ (listed : Array Bool), listed.size = ops.size → listed.getD p true = true → (Region.ready .any ops listed = [] ↔ Region.ready .any ops.pop listed.pop = []) := fun listed hsz hl => by
    constructor
    · intro h0
      cases hr : Region.ready .any ops.pop listed.pop with
      | nil => rfl
      | cons x xs =>
        have hm : x ∈ Region.ready .any ops.pop listed.pop := by rw [hr]; exact List.mem_cons_self
        obtain ⟨_, g2, g3, _⟩ := mem_ready.1 hm
        have hx : x < p := by
          have := (Array.getElem?_eq_some_iff.1 g3).1
          simp at this
          omega
        have := (loose_ready h hsz hx).2 hm
        rw [h0] at this; cases this
    · intro h0
      cases hr : Region.ready .any ops listed with
      | nil => rfl
      | cons x xs =>
        have hm : x ∈ Region.ready .any ops listed := by rw [hr]; exact List.mem_cons_self
        obtain ⟨g1, g2, g3, _⟩ := mem_ready.1 hm
        have hx : x < p := by
          have := (Array.getElem?_eq_some_iff.1 g3).1
          rcases Nat.lt_or_ge x p with h1 | h1
          · exact h1
          · have : x = p := by omega
            subst this
            rw [hl] at g1; cases g1
        have := (loose_ready h hsz hx).1 hm
        rw [h0] at this; cases this
  intro fuel
  induction fuel with
  | zero => intro listed a w hsz hl H; exact ⟨(none_ listed hsz hl).2 H.1, H.2⟩
  | succ fuel ih =>
    intro listed a w hsz hl H
    refine ⟨fun hr => H.1 ((none_ listed hsz hl).1 hr), fun i hi => ?_⟩
    obtain ⟨h1, o, h2, _⟩ := mem_ready.1 hi
    have hx : i < p := by
      have := (Array.getElem?_eq_some_iff.1 h2).1
      rcases Nat.lt_or_ge i p with h3 | h3
      · exact h3
      · have : i = p := by omega
        subst this
        rw [hl] at h1; cases h1
    refine wpOp_mono (fun a' w' h5 => ?_) (loose_wpOp h hx (H.2 i ((loose_ready h hsz hx).1 hi)))
    refine ih (listed.setIfInBounds i true) a' w' (by simpa using hsz) ?_ ?_
    · rw [getD_set_ne true (show ¬ i = p by omega)]; exact hl
    · rw [pop_set (show p + 1 = listed.size by omega) hx]; exact h5
/-- **the last operation, of which nobody hears, and that hears of nobody (a counter's beginning), ahead of all others** -/
theorem wp_region_first {id : Nat} {ls : List Oper} {a : Act} {w : World} (p : Nat) (v : Value) (d : Option Tmp) (hm : P.follows .mixedOrders = true) (hs : Region.noSelect ls.toArray = true) (h : looseIn ls.toArray p = true)
    (hf : Region.free .any ls.toArray (Array.replicate ls.toArray.size false) p = true) (hr : (Region.ready .any ls.toArray (Array.replicate ls.toArray.size false)).contains p = true)
    (hQ : ∀ c a w, Q (.panic c) (a.put d v) w → Q (.panic c) a w) (ho : ∃ o, ls.toArray[p]? = some o ∧ o.dst = d ∧ Yields P ls.toArray o v a)
    (hK : wpAny P .any (ls.dropLast).toArray Q (ls.dropLast).toArray.size (Array.replicate (ls.dropLast).toArray.size false) (a.put d v) w.drew) : (Code.region id ls.toArray true).wp P Q a w := by
  obtain ⟨o, hls, rfl, hy⟩ := ho
  obtain ⟨hp, _⟩ := looseIn_spec h
  refine wp_region_any hm ?_
  have e : ls.toArray.size = (ls.dropLast).toArray.size + 1 := by simp at hp ⊢; omega
  have e3 : ls.toArray.pop = (ls.dropLast).toArray := by simp
  rw [e]
  refine wpAny_take hls hs (by rw [← e]; exact hf) (by rw [← e]; exact hr) hQ hy ?_
  refine loose_wpAny h _ _ _ _ (by simp at hp ⊢; omega) (by simp at hp ⊢; try omega) ?_
  rw [e3]
  have e2 : ((Array.replicate ((ls.dropLast).toArray.size + 1) false).setIfInBounds p true).pop = Array.replicate (ls.dropLast).toArray.size false := by
    apply Array.ext_getElem?
    intro k
    simp only [Array.getElem?_pop, Array.getElem?_setIfInBounds, Array.getElem?_replicate, Array.size_setIfInBounds, Array.size_replicate]
    simp at hp
    by_cases hk : k < ls.length - 1
    · have : p ≠ k := by omega
      simp [this, hk]
      try omega
    · simp [hk]
      try omega
  rw [e2]
  exact hK
end
end Go.Proofs.YtpbflgemhcaooaaDoor
