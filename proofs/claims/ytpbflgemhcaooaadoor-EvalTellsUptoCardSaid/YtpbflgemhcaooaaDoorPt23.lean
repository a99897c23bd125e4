import Derived.Test.YtpbflgemhcaooaaDoorPt22
import Derived.Test.YtpbflgemhcaooaaDoorPt8
import Derived.Deep.DeepCutAuto
/- evref1's checker: is an expression secret. -/
namespace Ev
theorem wf_nm {e : Ex} (h : WfE e) : e.name.length ≤ 6 := by
  have hn : ∀ s, nameOk s = true → s.length ≤ 6 := fun s hs => by
    unfold nameOk at hs
    simp only [Bool.and_eq_true, decide_eq_true_eq] at hs
    omega
  cases h with
  | num n h1 h2 => exact Nat.zero_le _
  | name s h1 => exact hn s h1
  | op n a b h1 h2 h3 h4 => exact Nat.zero_le _
  | sel a b c h1 h2 h3 => exact Nat.zero_le _
  | «at» s a h1 h2 => exact hn s h1
end Ev
namespace Go.Proofs.YtpbflgemhcaooaaDoor
open Go.RowKit
set_option linter.unusedSimpArgs false
set_option linter.unusedVariables false
def KExDo (d : Nat) : Prop := ∀ (e : Ev.Ex) (A l : List Ev.Par) (vx : Value) (k : Ev.LK) (kb ab nb : Nat) (dark : Bool) (w : World) (K : Nat → Prop), KAt w kb ab A k → SMapIn w nb (nmF l) → RExL d w K vx e.args → Ev.WfE e →
  Calls Tryd.prog 91 #[.pointer (some ⟨kb, 0, none⟩), exV e vx, .map (some nb), .bool dark] w fun r w' => r = .returned (.tuple #[.bool (Ev.exC A l dark e).1, .int .i64 (Ev.exC A l dark e).2]) ∧ Below w.heap.size w w'
set_option maxRecDepth 6000 in
set_option maxHeartbeats 3200000 in
theorem kx_step (d : Nat) (ih : ∀ d', d = d' + 1 → KExDo d') : KExDo d := by
  intro e A l vx k kb ab nb dark w K hk hl hr hw
  have HK := Lib.hid hk
  have HL := Lib.hid hl
  have HR := Lib.hid hr
  have HW := Lib.hid (Ev.wf_args hw)
  have HNM := Lib.hid (show InS e.name by have := Ev.wf_nm hw; unfold InS; omega)
  obtain ⟨a, c, rfl⟩ := hr.form
  have hlen3 : e.args.length ≤ 3 := HW.out.2.2
  obtain ⟨R, hR⟩ : ∃ R, Ev.exC A l dark e = R := ⟨_, rfl⟩
  rw [hR]
  have HE := Lib.hid ((Ev.exC_eq A l dark e).symm.trans hR)
  clear hR hk hl hr hw
  unfold exV
  go_enter Tryd.func91, Tryd.ntmps91
  go_upto_region 3 with fail
  have b1 : Below w.heap.size w (w.alloc (.cells #[.int .i64 e.kind, .int .i64 e.n, .string ⟨e.name.toArray⟩, .slice a e.args.length c] 140)) := (Below.refl _ _).alloc (Nat.le_refl _) _
  have r1 := heap_alloc_new w (.cells #[.int .i64 e.kind, .int .i64 e.n, .string ⟨e.name.toArray⟩, .slice a e.args.length c] 140)
  generalize w.alloc (.cells #[.int .i64 e.kind, .int .i64 e.n, .string ⟨e.name.toArray⟩, .slice a e.args.length c] 140) = w1 at *
  have HB1 := Lib.hid b1
  have R1 := Lib.hid r1
  have zg := (Array.getElem?_eq_some_iff.1 r1).1
  clear b1 r1
  generalize hgg : w.heap.size = g at R1 zg ⊢
  have HGG := Lib.hid hgg
  clear hgg
  go_loopw [20, 10] (fun ii ss wr => ∃ (i : Nat) (s : Bool), i ≤ e.args.length ∧ ii = .int .i64 (i : Int) ∧ ss = .bool s ∧ Hid (Ev.exsC A l dark e.args false = Ev.exsC A l dark (e.args.drop i) s) ∧ Below w1.heap.size w1 wr) (fun ii _ _ => e.args.length - (intOf ii).toNat)
  case atStart => exact ⟨0, false, by omega, rfl, rfl, Lib.hid (by rw [List.drop_zero]), by (repeat' first | with_reducible (first | exact Below.refl _ _ | assumption | refine Below.alloc ?_ ?_ _ | refine below_drewN ?_ _ | refine Below.drew ?_ | refine Below.setCell ?_ ?_ _ | refine Below.trans ?_ (Below.mono (by with_reducible assumption) ?_)) | go_size)⟩
  case round =>
  obtain ⟨i, s, hi, rfl, rfl, HS, hbr⟩ := hrel
  have HBR := Lib.hid (HB1.out.trans (hbr.mono HB1.out.size))
  have RG := Lib.hid ((hbr.block g zg).trans R1.out)
  have zgr : g < wr.heap.size := Nat.lt_of_lt_of_le zg hbr.size
  by_cases hlt : i < e.args.length
  case pos =>
    obtain ⟨x, hx⟩ : ∃ x, e.args[i]? = some x := ⟨_, List.getElem?_eq_getElem hlt⟩
    obtain ⟨d', b', off, c', vx, hd, hva, hxa, hxr⟩ := (HR.out.on HBR.out).el hx
    obtain ⟨h1, h2⟩ := slice_two hva
    clear hva
    subst h1 h2
    have hdr : e.args.drop i = x :: e.args.drop (i + 1) := by
      rw [List.getElem?_eq_getElem hlt] at hx
      injection hx with hx
      rw [← hx]
      exact List.drop_eq_getElem_cons hlt
    have HS2 := Lib.hid (HS.out.trans (by rw [hdr, Ev.exsC_cons]))
    obtain ⟨ya, yc, rfl⟩ := hxr.form
    have HXR := Lib.hid hxr
    have HWX := Lib.hid (HW.out.1 x (List.mem_of_getElem? hx))
    have HIH := Lib.hid (ih d' hd)
    obtain ⟨hbl, y0, y1, y2, y3⟩ := hxa
    clear hx hxr hdr HS hd
    go_upto_region 5 with fail
    have b4 : Below wr.heap.size wr (wr.alloc (.cells #[.int .i64 x.kind, .int .i64 x.n, .string ⟨x.name.toArray⟩, .slice ya x.args.length yc] 140)) := (Below.refl _ _).alloc (Nat.le_refl _) _
    have r4 := heap_alloc_new wr (.cells #[.int .i64 x.kind, .int .i64 x.n, .string ⟨x.name.toArray⟩, .slice ya x.args.length yc] 140)
    clear y0 y1 y2 y3 hbl
    generalize wr.alloc (.cells #[.int .i64 x.kind, .int .i64 x.n, .string ⟨x.name.toArray⟩, .slice ya x.args.length yc] 140) = w4 at *
    have R4 := Lib.hid r4
    have z4 := (Array.getElem?_eq_some_iff.1 r4).1
    have HB4 := Lib.hid (HBR.out.trans (b4.mono HBR.out.size))
    have HB14 := Lib.hid (hbr.trans (b4.mono hbr.size))
    have CI := Lib.hid (HIH.out x A l (.slice ya x.args.length yc) k kb ab nb dark w4 K (HK.out.on HB4.out) (HL.out.on HB4.out) (HXR.out.on b4) HWX.out)
    unfold exV at CI
    obtain ⟨RX, hRX⟩ : ∃ RX, Ev.exC A l dark x = RX := ⟨_, rfl⟩
    rw [hRX] at CI HS2
    clear r4 b4 hRX hbr
    go_upto_region 6 with (first | (refine wpList_load_box rfl 140 _ rfl rfl (load_box Tryd.underlying140 (by kernel_rfl) (by rfl) (by kernel_rfl) (fun j v hj => (cell_of_block R4.out j).trans hj) z4 (Below.refl _ _)) ?_) | (go_at_call 91; refine CI.out.mono ?_; rintro r w5 ⟨rfl, hb5⟩))
    by_cases h0 : RX.2 = 0
    case neg =>
      have g0 : (RX.2 != 0) = true := bne_iff_ne.2 h0
      have HF := Lib.hid (show (false, RX.2) = R by
        rw [← HE.out, HS2.out, if_pos h0, if_pos h0])
      clear h0
      go_wp2_with fail
      go_ret2
      exact ⟨by rw [← HF.out]; rfl, HB4.out.trans (hb5.mono HB4.out.size)⟩
    case pos =>
      have g0 : (RX.2 != 0) = false := by rw [h0]; rfl
      have HF := Lib.hid (show Ev.exsC A l dark e.args false = Ev.exsC A l dark (e.args.drop (i + 1)) (s || RX.1) by
        rw [HS2.out, if_neg (by simp [h0])])
      clear h0
      obtain ⟨sx, hsx⟩ : ∃ sx, RX.1 = sx := ⟨_, rfl⟩
      rw [hsx] at HF ⊢
      clear hsx
      cases s with
      | true =>
        go_wp2_with fail
        go_roundw
        case rel => exact ⟨i + 1, true, by omega, by go_num, rfl, Lib.hid HF.out, HB14.out.trans (hb5.mono HB14.out.size)⟩
        case measure => simp [intOf]; omega
      | false =>
        go_wp2_with fail
        go_roundw
        case rel => exact ⟨i + 1, sx, by omega, by go_num, rfl, Lib.hid HF.out, HB14.out.trans (hb5.mono HB14.out.size)⟩
        case measure => simp [intOf]; omega
  case neg =>
  obtain rfl : i = e.args.length := by omega
  have HS2 := Lib.hid (show Ev.exsC A l dark e.args false = (s, 0) by
    rw [HS.out, List.drop_length, Ev.exsC_nil])
  clear HS
  rw [HS2.out, if_neg (by simp)] at HE
  have c0 : wr.cell? ⟨g, 0, none⟩ = some (.int .i64 e.kind) := cell_of_block RG.out 0
  have c2 : wr.cell? ⟨g, 2, none⟩ = some (.string ⟨e.name.toArray⟩) := cell_of_block RG.out 2
  have c3 : wr.cell? ⟨g, 3, none⟩ = some (.slice a e.args.length c) := cell_of_block RG.out 3
  clear hbr
  by_cases h2 : e.kind = 2
  case pos =>
    rw [if_pos h2] at HE
    rw [h2] at c0
    clear h2
    cases hf : Ev.findP l e.name with
    | none =>
      rw [hf] at HE
      have HLK := Lib.hid ((HL.out.on HBR.out).look (T := 100) Tryd.underlying100 (fun u => Tryd.zeroValue102 u) HNM.out true (r := none) (by unfold nmF; rw [hf]; rfl))
      simp only [Option.getD_none, Option.isSome_none, if_true] at HLK
      have HBN := Lib.hid (Below.refl wr.heap.size wr)
      clear hf
      go_wp2_with (at_lookup; refine wpList_lookupS_at rfl _ _ 100 true rfl rfl rfl (HLK.out _ (by (repeat' first | with_reducible (first | exact Below.refl _ _ | assumption | refine Below.alloc ?_ ?_ _ | refine below_drewN ?_ _ | refine Below.drew ?_ | refine Below.setCell ?_ ?_ _ | refine Below.trans ?_ (Below.mono (by with_reducible assumption) ?_)) | go_size))) ?_)
      go_ret2
      exact ⟨by rw [← HE.out]; rfl, HBR.out.trans (Below.mono (B := wr.heap.size) (by (repeat' first | with_reducible (first | exact Below.refl _ _ | assumption | refine Below.alloc ?_ ?_ _ | refine below_drewN ?_ _ | refine Below.drew ?_ | refine Below.setCell ?_ ?_ _ | refine Below.trans ?_ (Below.mono (by with_reducible assumption) ?_)) | go_size)) HBR.out.size)⟩
    | some p =>
      rw [hf] at HE
      have HLK := Lib.hid ((HL.out.on HBR.out).look (T := 100) Tryd.underlying100 (fun u => Tryd.zeroValue102 u) HNM.out true (r := some (vV p)) (by unfold nmF; rw [hf]; rfl))
      simp only [Option.getD_some, Option.isSome_some, if_true] at HLK
      unfold vV at HLK
      clear hf
      go_wp2_with (at_lookup; refine wpList_lookupS_at rfl _ _ 100 true rfl rfl rfl (HLK.out _ (by (repeat' first | with_reducible (first | exact Below.refl _ _ | assumption | refine Below.alloc ?_ ?_ _ | refine below_drewN ?_ _ | refine Below.drew ?_ | refine Below.setCell ?_ ?_ _ | refine Below.trans ?_ (Below.mono (by with_reducible assumption) ?_)) | go_size))) ?_)
      go_ret2
      exact ⟨by rw [← HE.out]; rfl, HBR.out.trans (Below.mono (B := wr.heap.size) (by (repeat' first | with_reducible (first | exact Below.refl _ _ | assumption | refine Below.alloc ?_ ?_ _ | refine below_drewN ?_ _ | refine Below.drew ?_ | refine Below.setCell ?_ ?_ _ | refine Below.trans ?_ (Below.mono (by with_reducible assumption) ?_)) | go_size)) HBR.out.size)⟩
  case neg =>
  rw [if_neg h2] at HE
  have g2 : (e.kind == 2) = false := beq_eq_false_iff_ne.2 h2
  by_cases h5 : e.kind = 5
  case neg =>
    rw [if_neg h5] at HE
    have g5 : (e.kind == 5) = false := beq_eq_false_iff_ne.2 h5
    clear h2 h5
    go_wp2_with fail
    go_ret2
    exact ⟨by rw [← HE.out]; rfl, HBR.out⟩
  case pos =>
    rw [if_pos h5] at HE
    obtain ⟨x, hxl⟩ := HW.out.2.1 h5
    have hx : e.args[0]? = some x := by rw [hxl]; rfl
    obtain ⟨d', b', off, c', vx, hd, hva, hxa, hxr⟩ := (HR.out.on HBR.out).el hx
    obtain ⟨h1, h3⟩ := slice_two hva
    clear hva
    subst h1 h3
    rw [hxl] at HE
    rw [h5] at c0
    have hln : (0 : Int) < (e.args.length : Int) := by simp [hxl]
    obtain ⟨ya, yc, rfl⟩ := hxr.form
    have CP := Lib.hid (fun u (hu : Below wr.heap.size wr u) => place_any A k kb ab e.name HNM.out x (.slice ya x.args.length yc) ⟨_, _, rfl⟩ s dark u ((HK.out.on HBR.out).on hu))
    unfold exV at CP
    rw [show off + 0 * 4 = off by omega] at hxa
    obtain ⟨hbl, y0, y1, y2, y3⟩ := hxa
    clear h2 g2 hx hxr hxl h5 hd ih HW HR HS2 RG R1
    go_upto_region 16 with fail
    refine wp_region_chain (fun w' => Below (wr).heap.size (wr) w') (by kernel_rfl) (by kernel_rfl) (by (repeat' first | with_reducible (first | exact Below.refl _ _ | assumption | refine Below.alloc ?_ ?_ _ | refine below_drewN ?_ _ | refine Below.drew ?_ | refine Below.setCell ?_ ?_ _ | refine Below.trans ?_ (Below.mono (by with_reducible assumption) ?_)) | go_size)) ?_
    repeat (
      apply chain_cons
      case h =>
        refine fun w9 hb9 => ?_
        have hB9 : Below wr.heap.size wr w9 := by (repeat' first | with_reducible (first | exact Below.refl _ _ | assumption | refine Below.alloc ?_ ?_ _ | refine below_drewN ?_ _ | refine Below.drew ?_ | refine Below.setCell ?_ ?_ _ | refine Below.trans ?_ (Below.mono (by with_reducible assumption) ?_)) | go_size)
        obtain ⟨kc9, kf9, s9⟩ := bfacts hb9
        obtain ⟨kd9, kg9, _⟩ := bfacts hB9
        go_wp2_with (fail)
        (try (go_at_call 92; refine (CP.out _ hb9).mono ?_; rintro _ _ ⟨rfl, hb8⟩; go_wp2_with fail))
        refine settled_intro (S := fun w' => Below (wr).heap.size (wr) w') ?_
        (repeat' first | with_reducible (first | exact Below.refl _ _ | assumption | refine Below.alloc ?_ ?_ _ | refine below_drewN ?_ _ | refine Below.drew ?_ | refine Below.setCell ?_ ?_ _ | refine Below.trans ?_ (Below.mono (by with_reducible assumption) ?_)) | go_size)
      case hp => first | rfl | (simp only [*]; done) | (simp only [*]; rfl))
    refine chain.nil ?_
    refine fun w16 hb16 => ?_
    have B16 : Below wr.heap.size wr w16 := by (repeat' first | with_reducible (first | exact Below.refl _ _ | assumption | refine Below.alloc ?_ ?_ _ | refine below_drewN ?_ _ | refine Below.drew ?_ | refine Below.setCell ?_ ?_ _ | refine Below.trans ?_ (Below.mono (by with_reducible assumption) ?_)) | go_size)
    obtain ⟨kc16, kf16, s16⟩ := bfacts hb16
    obtain ⟨kd16, kg16, _⟩ := bfacts B16
    (try simp only [World.size_alloc, World.size_setCell, World.size_drew, World.heap_drewN, Nat.add_one_le_iff] at s16)
    clear hb16
    have hb16 := B16
    clear B16
    have B16 : Hid (Below wr.heap.size wr w16) := hb16
    (try have z16 : wr.heap.size < w16.heap.size := by omega)
    (try dsimp only)
    go_wp2_with fail
    go_ret2
    exact ⟨by rw [← HE.out]; rfl, HBR.out.trans (hb16.mono HBR.out.size)⟩
theorem kx_all : ∀ d, KExDo d
  | 0 => kx_step 0 (fun d' h => (by omega))
  | d + 1 => kx_step (d + 1) (fun d' h => (by obtain rfl : d = d' := by omega
                                              exact kx_all d))
end Go.Proofs.YtpbflgemhcaooaaDoor
