import Derived.Test.YtpbflgemhcaooaaDoorPk33
import Derived.Test.YtpbflgemhcaooaaDoorPk37
import Derived.Test.YtpbflgemhcaooaaDoorPk39
import Derived.Test.YtpbflgemhcaooaaDoorPk4
import Derived.Test.YtpbflgemhcaooaaDoorPk5
import Derived.Test.YtpbflgemhcaooaaDoorCards
import Derived.Test.YtpbflgemhcaooaaDoorTie
import Derived.Stop.LaidErr
import Derived.Lib.LaidTab
import Derived.LaidMore
import Derived.MakeChecks
import Derived.ProofKit
import Derived.OpenShut
import Derived.JoinedCond
import Derived.SizedLaws
import Derived.Handed
import Derived.Shelf.Vars
import Derived.Deep.Slices
import Derived.Deep.Fields
import Derived.ChangeSame
import Derived.Test.YtpbflgemhcaooaaDoorProg
import Derived.Test.YtpbflgemhcaooaaDoorPk24
import Derived.Test.YtpbflgemhcaooaaDoorRows
/- EvalWords: its walk. -/
namespace Ev
theorem flat_len {a b : List (List Int)} (h : a.map List.length = b.map List.length) : a.flatten.length = b.flatten.length := by
  rw [List.length_flatten, List.length_flatten, h]
theorem mem_flat {a : List Int} : ∀ {L : List (List Int)}, a ∈ L → a.length ≤ L.flatten.length
  | [], h => by cases h
  | x :: L, h => by
    rw [List.flatten_cons, List.length_append]
    rcases List.mem_cons.1 h with rfl | h
    · omega
    · have := mem_flat h; omega
theorem runE_flat {f : Fn1} {g : Given} (hr : RightF f) (h : fitsE f g = 0) : (runE f g).1.arrays.flatten.length = g.arrays.flatten.length := by
  have p := goE_pres hr h
  unfold runE
  rw [if_neg (not_not_intro h)]
  exact flat_len p.sz
end Ev
namespace Go.Proofs.YtpbflgemhcaooaaDoor
open Go.RowKit
set_option linter.unusedSimpArgs false
set_option linter.unusedVariables false
theorem vrs_len (l : List Ev.Par) : (Ev.vrs l).length = l.length := by unfold Ev.vrs; simp
set_option maxRecDepth 8000 in
set_option maxHeartbeats 6400000 in
theorem evalWords_walk (s : List UInt8) (g : Ev.Given) (vg : Value) (w : World) (hv : Vars w) (hs : s.length ≤ 9223372036854775807) (hg : RGiven w w.heap.size vg g) (hn : g.words.length + g.arrays.length + g.arrays.flatten.length ≤ 1048576) :
    Calls Tryd.prog 13 #[.string ⟨(s).toArray⟩, vg] w fun e w' => e = .returned (.bool true) ∧ Below w.heap.size w w' := by
  have HV := Lib.hid hv
  have HG := Lib.hid hg
  have CP := Lib.hid (fun u hu => refParseFn s u hu hs)
  have HSM := Lib.hid (Ev.parse_sm s)
  have HWF := Lib.hid (Ev.parse_wf s)
  obtain ⟨er, her⟩ : ∃ er, (Ev.parseW s).2 = er := ⟨_, rfl⟩
  rw [her] at CP HWF
  generalize (Ev.parseW s).1 = f at *
  obtain ⟨vw, vx, rfl, hw, hx⟩ := hg
  obtain ⟨Aw, cw, rfl, _, _⟩ := SL.form hw
  obtain ⟨vs0, hxl, hxs, hxe⟩ := hx
  obtain ⟨Ax, cx, rfl, _, _⟩ := SL.form hxs
  have HNN := Lib.hid hn
  clear hv her hw hxl hxs hxe hn
  have bG : Below w.heap.size w (w.alloc (.cells #[.slice Aw g.words.length cw, .slice Ax g.arrays.length cx] 49)) := (Below.refl _ _).alloc (Nat.le_refl _) _
  have rG := heap_alloc_new w (.cells #[.slice Aw g.words.length cw, .slice Ax g.arrays.length cx] 49)
  obtain ⟨wA, hwA⟩ : ∃ wA, w.alloc (.cells #[.slice Aw g.words.length cw, .slice Ax g.arrays.length cx] 49) = wA := ⟨_, rfl⟩
  have HWA := Lib.hid hwA
  rw [hwA] at bG rG
  have CA := Lib.hid (alive5_any wA (HV.out.stays bG))
  have RG := Lib.hid rG
  have BG := Lib.hid bG
  have zG := (Array.getElem?_eq_some_iff.1 rG).1
  clear hwA bG rG
  go_enter Tryd.func13, Tryd.ntmps13
  go_upto_region 1 with fail
  rw [HWA.out]
  go_upto_region 3 with (go_at_call 43; refine CA.out.mono ?_; rintro e w1 ⟨rfl, hb1⟩)
  have B1 := Lib.hid (BG.out.trans (hb1.mono BG.out.size))
  have G1 := Lib.hid ((hb1.block _ zG).trans RG.out)
  have HV1 := Lib.hid (HV.out.stays B1.out)
  clear CA HWA BG RG zG hb1
  go_upto_region 4 with (go_at_call 14; refine (CP.out _ HV1.out).mono ?_; rintro e w2 ⟨v1, v2, v3, rfl, hr, hb2⟩; obtain ⟨D1, m1, rfl, hq1, hq2⟩ := SL.form hr.1; obtain ⟨D2, m2, rfl, hq3, hq4⟩ := SL.form hr.2.1; obtain ⟨D3, m3, rfl⟩ := hr.2.2.1.slice; clear hq1 hq2 hq3 hq4)
  have b3 : Below w2.heap.size w2 (w2.alloc (.cells #[.slice D1 f.params.length m1, .slice D2 f.arrays.length m2, .slice D3 f.body.length m3] 25)) := (Below.refl _ _).alloc (Nat.le_refl _) _
  have r3 := heap_alloc_new w2 (.cells #[.slice D1 f.params.length m1, .slice D2 f.arrays.length m2, .slice D3 f.body.length m3] 25)
  have HR := Lib.hid ((hr.loose5 (fun k hk => hk.2)).on5 b3)
  have hb23 := hb2.trans (b3.mono hb2.size)
  have HB := Lib.hid (B1.out.trans (hb23.mono B1.out.size))
  have G3 := Lib.hid ((hb23.block _ (Array.getElem?_eq_some_iff.1 G1.out).1).trans G1.out)
  clear hr hb2 b3 CP HV HV1 hb23 G1 B1
  generalize w2.alloc (.cells #[.slice D1 f.params.length m1, .slice D2 f.arrays.length m2, .slice D3 f.body.length m3] 25) = w3 at *
  generalize w2.heap.size = fb at *
  by_cases he : er = 0
  case neg =>
    have ge : (er != 0) = true := bne_iff_ne.2 he
    clear he
    go_wp2_with fail
    go_ret
    exact ⟨rfl, HB.out⟩
  case pos =>
  have HWB := Lib.hid (HWF.out he)
  subst he
  have R3 := Lib.hid r3
  have k0 := cell_of_block r3 0
  have k1 := cell_of_block r3 1
  have k2 := cell_of_block r3 2
  have g0 := cell_of_block G3.out 0
  have g1 := cell_of_block G3.out 1
  simp only [List.getElem?_toArray, List.getElem?_cons_zero, List.getElem?_cons_succ] at k0 k1 k2 g0 g1
  have zf := (Array.getElem?_eq_some_iff.1 r3).1
  have zg := (Array.getElem?_eq_some_iff.1 G3.out).1
  have CK := Lib.hid (refCheck4 f _ _ _ w3 HR.out HWB.out (by have := HSM.out.params; omega) (by have := HSM.out.arrays; omega))
  clear r3 HWF
  by_cases hc : Ev.checkC f = 0
  case neg =>
    have gc : (Ev.checkC f != 0) = true := bne_iff_ne.2 hc
    generalize Ev.checkC f = ce at *
    clear hc
    go_wp2_with (go_at_call 16; refine CK.out.mono ?_; rintro e w4 ⟨rfl, hb4⟩)
    go_ret
    exact ⟨rfl, HB.out.trans (hb4.mono HB.out.size)⟩
  case pos =>
  have HRF := Lib.hid (Ev.right_of HWB.out hc)
  rw [hc] at CK
  clear hc
  have CF := Lib.hid (fun u (hu : Below w3.heap.size w3 u) => fits_any (Ev.vrs f.params) (Ev.vrs f.arrays) g _ _ (.slice D3 f.body.length m3) _ u (HR.out.1.on hu).vrs (HR.out.2.1.on hu).vrs ⟨D3, f.body.length, m3, rfl⟩ (HG.out.at2 (HB.out.trans (hu.mono HB.out.size)) (Nat.le_refl _)) (by have := HNN.out; omega))
  rw [vrs_len] at CF
  change Hid (∀ u, Below w3.heap.size w3 u → Calls _ _ _ u fun e w' => e = .returned (.int .i64 (Ev.fitsE f g)) ∧ Below u.heap.size u w') at CF
  by_cases hf : Ev.fitsE f g = 0
  case neg =>
    have gc : (Ev.fitsE f g != 0) = true := bne_iff_ne.2 hf
    generalize Ev.fitsE f g = fe at *
    clear hf
    go_wp2_with (first | (go_at_call 16; refine CK.out.mono ?_; rintro e w4 ⟨rfl, hb4⟩; replace k0 := (hb4.cell (p := ⟨fb, 0, none⟩) zf).trans k0; replace k1 := (hb4.cell (p := ⟨fb, 1, none⟩) zf).trans k1; replace k2 := (hb4.cell (p := ⟨fb, 2, none⟩) zf).trans k2; replace g0 := (hb4.cell (p := ⟨w.heap.size, 0, none⟩) zg).trans g0; replace g1 := (hb4.cell (p := ⟨w.heap.size, 1, none⟩) zg).trans g1; have zf4 := Nat.lt_of_lt_of_le zf hb4.size; have zg4 := Nat.lt_of_lt_of_le zg hb4.size) | (go_at_call 24; refine (CF.out _ hb4).mono ?_; rintro e w5 ⟨rfl, hb5⟩))
    go_ret
    exact ⟨rfl, HB.out.trans ((hb4.trans (hb5.mono hb4.size)).mono HB.out.size)⟩
  case pos =>
  have HLAW := Lib.hid (Ev.words_law HRF.out hf)
  have HFL := Lib.hid (Ev.runE_flat HRF.out hf)
  rw [hf] at CF
  clear hf
  go_upto_region 6 with (first | (go_at_call 16; refine CK.out.mono ?_; rintro e w4 ⟨rfl, hb4⟩; replace k0 := (hb4.cell (p := ⟨fb, 0, none⟩) zf).trans k0; replace k1 := (hb4.cell (p := ⟨fb, 1, none⟩) zf).trans k1; replace k2 := (hb4.cell (p := ⟨fb, 2, none⟩) zf).trans k2; replace g0 := (hb4.cell (p := ⟨w.heap.size, 0, none⟩) zg).trans g0; replace g1 := (hb4.cell (p := ⟨w.heap.size, 1, none⟩) zg).trans g1; have zf4 := Nat.lt_of_lt_of_le zf hb4.size; have zg4 := Nat.lt_of_lt_of_le zg hb4.size) | (go_at_call 24; refine (CF.out _ hb4).mono ?_; rintro e w5 ⟨rfl, hb5⟩))
  have b35 := hb4.trans (hb5.mono hb4.size)
  replace k0 := (hb5.cell (p := ⟨fb, 0, none⟩) zf4).trans k0
  replace k1 := (hb5.cell (p := ⟨fb, 1, none⟩) zf4).trans k1
  replace k2 := (hb5.cell (p := ⟨fb, 2, none⟩) zf4).trans k2
  replace g0 := (hb5.cell (p := ⟨w.heap.size, 0, none⟩) zg4).trans g0
  replace g1 := (hb5.cell (p := ⟨w.heap.size, 1, none⟩) zg4).trans g1
  have zf5 := Nat.lt_of_lt_of_le zf4 hb5.size
  have zg5 := Nat.lt_of_lt_of_le zg4 hb5.size
  have HR5 := Lib.hid (HR.out.on5 b35)
  have HB5 := Lib.hid (HB.out.trans (b35.mono HB.out.size))
  have CR := Lib.hid (evRun_any f g _ _ _ _ w5 _ HR5.out (fun k hk => hk) HRF.out (HG.out.at2 HB5.out (Nat.le_refl _)) (by have := HNN.out; omega) (fun a ha => by have := Ev.mem_flat ha; have := HNN.out; omega))
  have R35 := Lib.hid ((b35.block fb zf).trans R3.out)
  clear hb4 hb5 b35 CK CF HR HB R3 G3 zf4 zg4 zf zg
  generalize Ev.runE f g = E at *
  rw [HLAW.out.1] at CR
  go_upto_region 7 with (go_at_call 42; refine CR.out.mono ?_; rintro e w6 ⟨va, rfl, ha, hb6⟩; have HL := Lib.hid ha; obtain ⟨vsq, hq1, hq, hq2⟩ := ha; obtain ⟨ea, ec, rfl, hq3, hq4⟩ := SL.form hq; clear hq hq1 hq2 hq3 hq4)
  have b7 : Below w6.heap.size w6 (w6.alloc (.cells #[.int .i64 E.1.word, .bool E.1.trap, .slice ea E.1.arrays.length ec] 52)) := (Below.refl _ _).alloc (Nat.le_refl _) _
  have r7 := heap_alloc_new w6 (.cells #[.int .i64 E.1.word, .bool E.1.trap, .slice ea E.1.arrays.length ec] 52)
  generalize (w6.alloc (.cells #[.int .i64 E.1.word, .bool E.1.trap, .slice ea E.1.arrays.length ec] 52)) = w7 at *
  have b57 := hb6.trans (b7.mono hb6.size)
  have HB7 := Lib.hid (HB5.out.trans (b57.mono HB5.out.size))
  have L7 := Lib.hid (HL.out.at_ b7 (Nat.le_refl _))
  have HR7 := Lib.hid (HR5.out.on5 b57)
  replace k1 := (b57.cell (p := ⟨fb, 1, none⟩) zf5).trans k1
  have zf7 := Nat.lt_of_lt_of_le zf5 b57.size
  have e0 := cell_of_block r7 0
  have e1 := cell_of_block r7 1
  have e2 := cell_of_block r7 2
  simp only [List.getElem?_toArray, List.getElem?_cons_zero, List.getElem?_cons_succ] at e0 e1 e2
  have z7 := (Array.getElem?_eq_some_iff.1 r7).1
  have CF := Lib.hid (fits_any [] (Ev.vrs f.arrays) ⟨[], E.1.arrays⟩ (.slice none 0 0) (.slice D2 f.arrays.length m2) (.slice none 0 0) (.agg #[.slice none 0 0, .slice ea E.1.arrays.length ec]) w7 (SL.nil_ _ _ _) HR7.out.2.1.vrs ⟨none, 0, 0, rfl⟩ ⟨_, _, rfl, SL.nil_ _ _ _, L7.out⟩ (by show 0 + E.1.arrays.flatten.length ≤ _; have := HFL.out; have := HNN.out; omega))
  have q1 := HLAW.out.2.1
  rw [show Ev.fits ([] : List Ev.Vr).length (Ev.vrs f.arrays) ⟨[], E.1.arrays⟩ = 0 from q1] at CF
  have q3 := HLAW.out.2.2.1
  have q4 := HLAW.out.2.2.2.1
  have q5 := HLAW.out.2.2.2.2
  clear HLAW HFL L7 HL HR7 r7 b7 hb6 q1 HR5 CR k0 k2 g0 g1 zf5 zg5 R35
  generalize E.1.word = wd at *
  generalize w6.heap.size = eb at *
  have g3 : decide (0 ≤ wd) = true := decide_eq_true q3
  have g4 : decide (wd ≤ 4294967295) = true := decide_eq_true q4
  cases htr : E.1.trap with
  | true =>
    rw [htr] at e1 q5
    obtain rfl := q5 rfl
    clear q3 q4 q5 g3 g4 htr
    go_wp2_with (go_at_call 24; refine CF.out.mono ?_; rintro e w8 ⟨rfl, hb8⟩; replace e0 := (hb8.cell (p := ⟨eb, 0, none⟩) z7).trans e0; replace e1 := (hb8.cell (p := ⟨eb, 1, none⟩) z7).trans e1; have z8 := Nat.lt_of_lt_of_le z7 hb8.size)
    go_ret
    exact ⟨rfl, HB7.out.trans (hb8.mono HB7.out.size)⟩
  | false =>
    rw [htr] at e1
    clear q5 htr
    go_wp2_with (go_at_call 24; refine CF.out.mono ?_; rintro e w8 ⟨rfl, hb8⟩; replace e0 := (hb8.cell (p := ⟨eb, 0, none⟩) z7).trans e0; replace e1 := (hb8.cell (p := ⟨eb, 1, none⟩) z7).trans e1; have z8 := Nat.lt_of_lt_of_le z7 hb8.size)
    go_ret
    exact ⟨rfl, HB7.out.trans (hb8.mono HB7.out.size)⟩
end Go.Proofs.YtpbflgemhcaooaaDoor
/- What the listed variables of strconv hold, out of the row's condition. -/
namespace Go.Proofs.YtpbflgemhcaooaaDoor
open Go.ChangeShapes Go.WideShapes Go.ChangeAt Go.RowKit
theorem lTab : (Tryd.prog.globals[3]?).map (·.type) = some 220 := by kernel_rfl
theorem lSyn : (Tryd.prog.globals[1]?).map (·.type) = some 146 := by kernel_rfl
theorem lRng : (Tryd.prog.globals[2]?).map (·.type) = some 146 := by kernel_rfl
theorem lcT : Tryd.prog.cellsOf 220 = 20 := by kernel_rfl
theorem lcE : Tryd.prog.cellsOf 207 = 1 := by kernel_rfl
theorem lcS : Tryd.prog.cellsOf 229 = 1 := by kernel_rfl
theorem lcs : Tryd.prog.cellsOf 9 = 1 := by kernel_rfl
theorem lstar : "*" ++ "errors.errorString" = "*errors.errorString" := by decide
theorem lrow (u : TypeId) (h : Tryd.prog.typeName? 3 u = some "*errors.errorString") : u = 227 :=
  typeName_ptr_named (nm := "errors.errorString") (by rw [lstar]; kernel_rfl) (by kernel_rfl) (by decide) u (by rw [lstar]; exact h)
def laid5 : List (String × DataW Unit) := [("math/bits.deBruijn32tab", Rows.laid_math_bits_deBruijn32tab), ("math/bits.deBruijn64tab", Rows.laid_math_bits_deBruijn64tab), ("internal/strconv.uint64pow10", Rows.laid_internal_strconv_uint64pow10), ("strconv.ErrRange", Rows.laid_strconv_ErrRange), ("strconv.ErrSyntax", Rows.laid_strconv_ErrSyntax)]
theorem vars_of_laid {W : World} (h : laidMetH Tryd.prog laid5 W) : Vars W := by
  unfold laid5 at h
  rw [MakeChecks.laidMetH_plain _ _ _ (by kernel_rfl)] at h
  have h3 := h.tail.tail
  have t1 : Lib.TabIs Tryd.prog W "internal/strconv.uint64pow10" .u64 Lib.pow10Tab := Lib.tabIs_of_head gTab lTab Tryd.underlying220 Tryd.underlying207 lcE lcT h3
  obtain ⟨a0, _, e0, _⟩ := laid_sentinel h3.tail gRng lRng Tryd.underlying146 lrow Tryd.underlying227 Tryd.underlying229 rfl rfl Tryd.underlying9 lcS lcs
  obtain ⟨a1, _, e1, _⟩ := laid_sentinel h3.tail.tail gSyn lSyn Tryd.underlying146 lrow Tryd.underlying227 Tryd.underlying229 rfl rfl Tryd.underlying9 lcS lcs
  exact ⟨t1, ⟨_, _, e1⟩, _, _, e0⟩
theorem door_met (os : Os) (args : Array Value) : laidMetH Tryd.prog laid5 ((World.doorLaid Tryd.prog 62 os).forCall (fun _ _ => 0) ⟨#[], args, []⟩).memory :=
  laidMetH_of_parts3 (fuel := 8) (laidMet_of_run' 8 (by kernel_rfl) (by kernel_rfl)) (by kernel_rfl) (by kernel_rfl)
end Go.Proofs.YtpbflgemhcaooaaDoor
/- The plain wrap of a row that is narrowed and lists variables, the world's shape kept. -/
namespace Go.Proofs.YtpbflgemhcaooaaDoor
open Go.ChangeShapes Go.WideShapes Go.ChangeAt Go.RowKit
section
variable {H : Type} {enc : TypeId × Value → H}
theorem returnsInHanded_cond_and {a : Assume} {C : Checked} {os : Os} {f : FuncId} {fn : Func} {s : OpenSpec} {k : (H : Type) → List (DataW H) → Bool} (hk : s.cond = some k) {F : Stop.Interp} {conds : List PathCond} {apart fresh handsOn again : Bool} {X : World → Array Value → Prop}
    (hX : ∀ (w w' : World) (args : Array Value), w.heap = w'.heap → X w args → X w' args)
    (own : ownKnob C.prog.godebug = none) (started : os.Started) (noInit : C.prog.inits.idxOf? f = none) (hfn : C.prog.funcs[f]? = some fn)
    (witness : ∃ (w : World) (tape : Tape) (i : Input), w.os = os ∧ (w.forCall tape i).Shaped C.prog ∧ i.vars = [] ∧ Input.okWide C.prog (w.forCall tape i) .any w.heap.size f i ∧
      ((s.pre enc C.prog fn conds apart (w.forCall tape i).memory i.args ∧ X (w.forCall tape i).memory i.args) ∧ sizedMet enc C.prog fn s apart (w.forCall tape i).memory i.args) ∧ a.holds C.prog (lone (Frame.enter C.prog f i.args .normal) [] (w.forCall tape i)))
    (contract : ∀ (W : World) (base : Nat) (args : Array Value) (ds gs : List (DataW H)) (before : List MemPlace),
      (∀ (j : Nat) t v, fn.params[j]? = some t → args[j]? = some v → Value.okWide C.prog W .any base t v) →
      DataW.Whole enc C.prog fn.params.toList s.vars apart W args.toList ds gs before →
      k H (ds ++ gs) = true → X W args → W.ShapedOpen C.prog →
      Calls C.prog f args W fun e W' => ∃ v, e = .returned v ∧ (s.at F).post enc C.prog fn apart fresh handsOn again W args v W') :
    ReturnsInHanded a C os f .any (fun w args => (s.pre enc C.prog fn conds apart w args ∧ X w args) ∧ sizedMet enc C.prog fn s apart w args) ((s.at F).post enc C.prog fn apart fresh handsOn again) := by
  refine returnsInHanded_of_calls own started noInit witness ?_
  intro w tape i _ hsh _ hok hpre hholds
  obtain ⟨_, _, _, fn', hfn', _, _, _, _, hval⟩ := hok
  have e : fn' = fn := Option.some.inj (hfn'.symm.trans hfn)
  subst e
  obtain ⟨⟨hp, hx⟩, _⟩ := hpre
  obtain ⟨ds, gs, before, hw, _, hkk⟩ := (OpenSpec.pre_some hk conds apart _ _).1 hp
  have hw' := DataW.Whole.of_heap (w' := w.forCall tape i) (by rfl) hw
  refine (contract (w.forCall tape i) w.heap.size i.args ds gs before hval hw' hkk (hX _ _ _ (by rfl) hx) hsh).mono fun e W' ⟨v, he, hp⟩ => ?_
  subst he
  exact ChangeSpec.post_blind hp
theorem cond_witness {C : Checked} {os : Os} {f : FuncId} {fn : Func} {s : OpenSpec} {k : (H : Type) → List (DataW H) → Bool} (hk : s.cond = some k) {conds : List PathCond} {apart : Bool} {X : World → Array Value → Prop} (modest : Bool) (w0 : World) (args : Array Value) (fuel : Nat) (hos : w0.os = os)
    (hsh : (w0.forCall (fun _ _ => 0) ⟨#[], args, []⟩).Shaped C.prog)
    (hok : Input.okWideB C.prog (w0.forCall (fun _ _ => 0) ⟨#[], args, []⟩) f ⟨#[], args, []⟩ = true)
    {x : List (DataW H) × List (DataW H) × List MemPlace} (hx : DataW.whole enc C.prog (w0.forCall (fun _ _ => 0) ⟨#[], args, []⟩).memory fn.params.toList s.vars apart args.toList fuel = some x)
    (hconds : conds.all (PathCond.test C.prog ⟨fn.params.toList, x.1, s.bare.plain.varTypes C.prog, x.2.1⟩) = true) (hkk : k H (x.1 ++ x.2.1) = true)
    (hsz : s.bare.sizedB enc C.prog fn apart (w0.forCall (fun _ _ => 0) ⟨#[], args, []⟩).memory args fuel = true)
    (hxx : X (w0.forCall (fun _ _ => 0) ⟨#[], args, []⟩).memory args) :
    ∃ (w : World) (tape : Tape) (i : Input), w.os = os ∧ (w.forCall tape i).Shaped C.prog ∧ i.vars = [] ∧ Input.okWide C.prog (w.forCall tape i) .any w.heap.size f i ∧
      ((s.pre enc C.prog fn conds apart (w.forCall tape i).memory i.args ∧ X (w.forCall tape i).memory i.args) ∧ sizedMet enc C.prog fn s apart (w.forCall tape i).memory i.args) ∧ ({ modest := modest } : Assume).holds C.prog (lone (Frame.enter C.prog f i.args .normal) [] (w.forCall tape i)) :=
  ⟨w0, fun _ _ => 0, ⟨#[], args, []⟩, hos, hsh, (Input.okWide_of_okWideB (base := 0) hok).1, (Input.okWide_of_okWideB hok).2,
    ⟨⟨(OpenSpec.pre_some hk conds apart _ _).2 ⟨x.1, x.2.1, x.2.2, DataW.Whole_of_whole hx, hconds, hkk⟩, hxx⟩, sizedMet_of_sizedB hsz⟩, by
    simp only [Assume.holds]
    exact ⟨by simp, by simp, fun _ => Modest.zero, by simp, by simp⟩⟩
end
end Go.Proofs.YtpbflgemhcaooaaDoor
/- From the form's reading of an argument to plain data: slices of whatever elements. -/
namespace Go.Proofs.YtpbflgemhcaooaaDoor
open Go.RowKit Go.ChangeShapes Go.WideShapes Go.Deep
section
variable {H : Type} {enc : TypeId × Value → H} {P : Program} {w : World} {base : Nat} {spare : Nat → Bool} {held : Bool}

theorem plain_add (b off j : Nat) : (⟨b, off, none⟩ : Addr).add j = ⟨b, off + j, none⟩ := by
  unfold Addr.add
  by_cases h : j = 0
  · subst h; rfl
  · rw [if_neg h]

theorem pick_list {α : Type} (R : Nat → α → Prop) : ∀ n, (∀ i, i < n → ∃ a, R i a) → ∃ l : List α, l.length = n ∧ ∀ i a, l[i]? = some a → R i a
  | 0, _ => ⟨[], rfl, fun i a h => by simp at h⟩
  | n + 1, h => by
    obtain ⟨l, hl, hr⟩ := pick_list R n (fun i hi => h i (by omega))
    obtain ⟨a, ha⟩ := h n (by omega)
    refine ⟨l ++ [a], by simp [hl], fun i b hb => ?_⟩
    by_cases hi : i < n
    · rw [List.getElem?_append_left (by omega)] at hb
      exact hr i b hb
    · have hlt : i < (l ++ [a]).length := by
        rcases Nat.lt_or_ge i (l ++ [a]).length with h1 | h1
        · exact h1
        · simp [List.getElem?_eq_none h1] at hb
      have : i = n := by simp [hl] at hlt; omega
      subst this
      rw [List.getElem?_append_right (by omega)] at hb
      simp [hl] at hb
      subst hb
      exact ha

theorem flatten_at {α : Type} {size : Nat} : ∀ (css : List (List α)), (∀ c ∈ css, c.length = size) → ∀ k j, j < size → css.flatten[k * size + j]? = (css[k]?).bind (fun c => c[j]?)
  | [], _, k, j, _ => by simp
  | c :: r, h, 0, j, hj => by
    have hc : c.length = size := h c (by simp)
    simp only [List.flatten_cons, Nat.zero_mul, Nat.zero_add]
    rw [List.getElem?_append_left (by omega)]
    simp
  | c :: r, h, k + 1, j, hj => by
    have hc : c.length = size := h c (by simp)
    have ih := flatten_at r (fun c' h' => h c' (by simp [h'])) k j hj
    simp only [List.flatten_cons]
    rw [List.getElem?_append_right (by rw [hc, Nat.succ_mul]; omega)]
    have : (k + 1) * size + j - c.length = k * size + j := by rw [hc, Nat.succ_mul]; omega
    rw [this, ih]
    simp

theorem flatten_len {α : Type} {size : Nat} : ∀ (css : List (List α)), (∀ c ∈ css, c.length = size) → css.flatten.length = css.length * size
  | [], _ => by simp
  | c :: r, h => by
    have hc : c.length = size := h c (by simp)
    have ih := flatten_len r (fun c' h' => h c' (by simp [h']))
    simp [List.flatten_cons, ih, hc, Nat.succ_mul]
    omega

theorem open_SL {α : Type} (R : List Value → α → Prop) {size : Nat} {t e : TypeId} {fuel : Nat} {cs : List Value} {x : DataW H × List MemPlace} (hs : 0 < size) (hC : P.cellsOf e = size)
    (hel : ∀ fuel cs x, DataW.trod enc P w base spare held fuel e cs = some x → ∃ a, R cs a) (ht : P.underlying t = some (.slice e)) (h : DataW.trod enc P w base spare held fuel t cs = some x) :
    ∃ (v : Value) (css : List (List Value)) (l : List α), cs = [v] ∧ SL w w.heap.size size v l.length (List.flatten css) ∧ css.length = l.length ∧ (∀ c ∈ css, c.length = size) ∧ ∀ (i : Nat) c a, css[i]? = some c → l[i]? = some a → R c a := by
  rcases open_slice ht h with ⟨rfl, _⟩ | ⟨a, len, cap, m, n, D, Pl, rfl, _, hl, hm, hmm, _, hi⟩
  · exact ⟨_, [], [], rfl, SL.nil_ _ _ _, rfl, (by simp), (by simp)⟩
  · have hle : len ≤ m := by rw [hmm]; split <;> omega
    obtain ⟨ps, hpl, hp⟩ := pick_list (fun i (p : List Value × α) => w.cells? base (a.add (i * size)) size = some p.1 ∧ R p.1 p.2) len (fun i hlt => by
      obtain ⟨cs', hc, htr⟩ := hi i (by omega)
      obtain ⟨b, hb⟩ := hel _ _ _ htr
      exact ⟨(cs', b), by rw [hC] at hc; exact hc, hb⟩)
    have hlen : ∀ c ∈ ps.map (·.1), c.length = size := by
      intro c hc
      obtain ⟨p, hpm, rfl⟩ := List.mem_map.1 hc
      obtain ⟨i, hilt, hie⟩ := List.getElem_of_mem hpm
      have := (hp i p (by rw [List.getElem?_eq_getElem hilt, hie])).1
      obtain ⟨_, hlc, _⟩ := World.cells?_some this
      exact hlc
    refine ⟨_, ps.map (·.1), ps.map (·.2), rfl, ?_, by simp, hlen, ?_⟩
    · refine ⟨by rw [flatten_len _ hlen]; simp, some a, cap, by simp [hpl], by simpa [hpl] using hl, hm, (fun h => by cases h), fun hn => ?_⟩
      have h0 : 0 < len := by simpa [hpl] using hn
      obtain ⟨b, off, spot⟩ := a
      have hcell : ∀ i j, i < len → j < size → w.cell? ((⟨b, off, spot⟩ : Addr).add (i * size + j)) = (ps.map (·.1)).flatten[i * size + j]? := by
        intro i j hil hj
        have hilt : i < ps.length := by omega
        have hpi := hp i (ps[i]) (List.getElem?_eq_getElem hilt)
        obtain ⟨_, _, hat⟩ := World.cells?_some hpi.1
        have := hat j hj
        rw [← Go.Deep.add_add] 
        rw [this, flatten_at _ hlen i j hj]
        simp [hilt]
      have hfl : (ps.map (·.1)).flatten.length = len * size := by rw [flatten_len _ hlen]; simp [hpl]
      have c0 := hcell 0 0 h0 hs
      have hpos : 0 < (ps.map (·.1)).flatten.length := by rw [hfl]; exact Nat.mul_pos h0 hs
      simp only [Nat.zero_mul, Nat.zero_add] at c0
      rw [List.getElem?_eq_getElem hpos] at c0
      have hspot : spot = none := by simpa [Addr.add] using World.cell?_spot c0
      subst hspot
      have hlt := World.block_lt_of_cell? w _ c0
      refine ⟨b, off, rfl, by simpa [Addr.add] using hlt, fun j u hu => ?_⟩
      have hjl : j < len * size := by
        rcases Nat.lt_or_ge j (len * size) with h1 | h1
        · exact h1
        · rw [List.getElem?_eq_none (by omega)] at hu; cases hu
      have hdm : j = j / size * size + j % size := by rw [Nat.mul_comm]; exact (Nat.div_add_mod j size).symm
      have h1 : j / size < len := Nat.div_lt_of_lt_mul (by rw [Nat.mul_comm]; exact hjl)
      have := hcell (j / size) (j % size) h1 (Nat.mod_lt _ hs)
      rw [← hdm, hu] at this
      rw [plain_add] at this
      exact this
    · intro i c b hc hb
      simp only [List.getElem?_map, Option.map_eq_some_iff] at hc hb
      obtain ⟨p, hpi, rfl⟩ := hc
      obtain ⟨q, hqi, rfl⟩ := hb
      rw [hpi] at hqi
      cases hqi
      exact (hp i p hpi).2
end
end Go.Proofs.YtpbflgemhcaooaaDoor
/- Two closed facts of the program. -/
namespace Go.Proofs.YtpbflgemhcaooaaDoor
open Go
theorem Tryd.own : ownKnob Tryd.prog.godebug = none := by kernel_rfl
theorem Tryd.laidOut : laidOutB Tryd.prog = true := by kernel_rfl
end Go.Proofs.YtpbflgemhcaooaaDoor
/- What is given, from the form's reading to plain data, with the bulk of what is read. -/
namespace Go.Proofs.YtpbflgemhcaooaaDoor
open Go.RowKit Go.ChangeShapes Go.WideShapes Go.Deep
set_option linter.unusedVariables false
def I64 (n : Int) : Prop := -9223372036854775808 ≤ n ∧ n ≤ 9223372036854775807
theorem Tryd.cells3 : Tryd.prog.cellsOf 3 = 1 := by kernel_rfl
theorem Tryd.cells46 : Tryd.prog.cellsOf 46 = 1 := by kernel_rfl
theorem Tryd.cells47 : Tryd.prog.cellsOf 47 = 1 := by kernel_rfl
theorem Tryd.cells49 : Tryd.prog.cellsOf 49 = 2 := by kernel_rfl
theorem bulk_one {H : Type} (d : DataW H) : 1 ≤ Rows.uptoBulk d := by
  cases d with
  | lit l => cases l <;> simp [Rows.uptoBulk]
  | nil => simp [Rows.uptoBulk]
  | ptr d => simp [Rows.uptoBulk]
  | slice elems spare => simp [Rows.uptoBulk]
  | agg parts => simp [Rows.uptoBulk]
  | iface t d => simp [Rows.uptoBulk]
  | map entries => simp [Rows.uptoBulk]
  | held h => simp [Rows.uptoBulk]
theorem sum_le_bulk {H α : Type} (μ : α → Nat) : ∀ (l : List α) (D : Nat → DataW H), (∀ (i : Nat) a, l[i]? = some a → μ a ≤ Rows.uptoBulk (D i)) → (l.map μ).sum ≤ Rows.uptoBulkAll ((List.range l.length).map D)
  | [], _, _ => by simp
  | a :: r, D, h => by
    have h0 := h 0 a rfl
    have ih := sum_le_bulk μ r (fun i => D (i + 1)) (fun i b hb => h (i + 1) b (by simpa using hb))
    rw [List.length_cons, List.range_succ_eq_map, List.map_cons, List.map_cons, List.sum_cons, List.map_map]
    simp only [Rows.uptoBulkAll]
    have e : (D ∘ Nat.succ) = fun i => D (i + 1) := rfl
    rw [e]
    omega
theorem sum_const {α : Type} : ∀ l : List α, (l.map fun _ => 1).sum = l.length
  | [] => rfl
  | _ :: r => by rw [List.map_cons, List.sum_cons, sum_const r, List.length_cons]; omega
section
variable {H : Type} {enc : TypeId × Value → H} {P : Program} {w : World} {base : Nat} {spare : Nat → Bool} {held : Bool}
theorem trod_i64 {t : TypeId} (ht : P.underlying t = some (.int .i64)) {fuel : Nat} {cs : List Value} {x : DataW H × List MemPlace} (h : DataW.trod enc P w base spare held fuel t cs = some x) : ∃ n, cs = [.int .i64 n] ∧ I64 n := by
  obtain ⟨n, rfl, _, hw⟩ := DataW.trod_int ht h
  exact ⟨n, rfl, bounds_i64 hw⟩
theorem open_SLb {α : Type} (R : List Value → α → Prop) (μ : α → Nat) {size : Nat} {t e : TypeId} {fuel : Nat} {cs : List Value} {x : DataW H × List MemPlace} (hs : 0 < size) (hC : P.cellsOf e = size)
    (hel : ∀ fuel cs x, DataW.trod enc P w base spare held fuel e cs = some x → ∃ a, R cs a ∧ μ a ≤ Rows.uptoBulk x.1) (ht : P.underlying t = some (.slice e)) (h : DataW.trod enc P w base spare held fuel t cs = some x) :
    ∃ (v : Value) (css : List (List Value)) (l : List α), cs = [v] ∧ SL w w.heap.size size v l.length (List.flatten css) ∧ css.length = l.length ∧ (∀ c ∈ css, c.length = size) ∧ (∀ (i : Nat) c a, css[i]? = some c → l[i]? = some a → R c a) ∧
      (l.map μ).sum + 1 ≤ Rows.uptoBulk x.1 := by
  rcases open_slice ht h with ⟨rfl, rfl⟩ | ⟨a, len, cap, m, n, D, Pl, rfl, _, hl, hm, hmm, rfl, hi⟩
  · exact ⟨_, [], [], rfl, SL.nil_ _ _ _, rfl, (by simp), (by simp), (by simp [Rows.uptoBulk])⟩
  · have hle : len ≤ m := by rw [hmm]; split <;> omega
    obtain ⟨ps, hpl, hp⟩ := pick_list (fun i (p : List Value × α) => w.cells? base (a.add (i * size)) size = some p.1 ∧ R p.1 p.2 ∧ μ p.2 ≤ Rows.uptoBulk (D i)) len (fun i hlt => by
      obtain ⟨cs', hc, htr⟩ := hi i (by omega)
      obtain ⟨b, hb, hμ⟩ := hel _ _ _ htr
      exact ⟨(cs', b), by rw [hC] at hc; exact hc, hb, hμ⟩)
    have hlen : ∀ c ∈ ps.map (·.1), c.length = size := by
      intro c hc
      obtain ⟨p, hpm, rfl⟩ := List.mem_map.1 hc
      obtain ⟨i, hilt, hie⟩ := List.getElem_of_mem hpm
      have := (hp i p (by rw [List.getElem?_eq_getElem hilt, hie])).1
      obtain ⟨_, hlc, _⟩ := World.cells?_some this
      exact hlc
    refine ⟨_, ps.map (·.1), ps.map (·.2), rfl, ?_, by simp, hlen, ?_, ?_⟩
    · refine ⟨by rw [flatten_len _ hlen]; simp, some a, cap, by simp [hpl], by simpa [hpl] using hl, hm, (fun h => by cases h), fun hn => ?_⟩
      have h0 : 0 < len := by simpa [hpl] using hn
      obtain ⟨b, off, spot⟩ := a
      have hcell : ∀ i j, i < len → j < size → w.cell? ((⟨b, off, spot⟩ : Addr).add (i * size + j)) = (ps.map (·.1)).flatten[i * size + j]? := by
        intro i j hil hj
        have hilt : i < ps.length := by omega
        have hpi := hp i (ps[i]) (List.getElem?_eq_getElem hilt)
        obtain ⟨_, _, hat⟩ := World.cells?_some hpi.1
        have := hat j hj
        rw [← Go.Deep.add_add]
        rw [this, flatten_at _ hlen i j hj]
        simp [hilt]
      have hfl : (ps.map (·.1)).flatten.length = len * size := by rw [flatten_len _ hlen]; simp [hpl]
      have c0 := hcell 0 0 h0 hs
      have hpos : 0 < (ps.map (·.1)).flatten.length := by rw [hfl]; exact Nat.mul_pos h0 hs
      simp only [Nat.zero_mul, Nat.zero_add] at c0
      rw [List.getElem?_eq_getElem hpos] at c0
      have hspot : spot = none := by simpa [Addr.add] using World.cell?_spot c0
      subst hspot
      have hlt := World.block_lt_of_cell? w _ c0
      refine ⟨b, off, rfl, by simpa [Addr.add] using hlt, fun j u hu => ?_⟩
      have hjl : j < len * size := by
        rcases Nat.lt_or_ge j (len * size) with h1 | h1
        · exact h1
        · rw [List.getElem?_eq_none (by omega)] at hu; cases hu
      have hdm : j = j / size * size + j % size := by rw [Nat.mul_comm]; exact (Nat.div_add_mod j size).symm
      have h1 : j / size < len := Nat.div_lt_of_lt_mul (by rw [Nat.mul_comm]; exact hjl)
      have := hcell (j / size) (j % size) h1 (Nat.mod_lt _ hs)
      rw [← hdm, hu] at this
      rw [plain_add] at this
      exact this
    · intro i c b hc hb
      simp only [List.getElem?_map, Option.map_eq_some_iff] at hc hb
      obtain ⟨p, hpi, rfl⟩ := hc
      obtain ⟨q, hqi, rfl⟩ := hb
      rw [hpi] at hqi
      cases hqi
      exact (hp i p hpi).2.1
    · have hsum := sum_le_bulk μ (ps.map (·.2)) D (fun i b hb => by
        simp only [List.getElem?_map, Option.map_eq_some_iff] at hb
        obtain ⟨q, hqi, rfl⟩ := hb
        exact (hp i q hqi).2.2)
      rw [List.length_map, hpl] at hsum
      simp only [Rows.uptoBulk]
      omega
theorem open_cellsb {α : Type} (cells : α → List Value) (wf : α → Prop) (μ : α → Nat) {size : Nat} {t e : TypeId} {fuel : Nat} {cs : List Value} {x : DataW H × List MemPlace} (hs : 0 < size) (hC : P.cellsOf e = size)
    (hel : ∀ fuel cs x, DataW.trod enc P w base spare held fuel e cs = some x → ∃ a, (cs = cells a ∧ wf a) ∧ μ a ≤ Rows.uptoBulk x.1) (ht : P.underlying t = some (.slice e)) (h : DataW.trod enc P w base spare held fuel t cs = some x) :
    ∃ (v : Value) (l : List α), cs = [v] ∧ SL w w.heap.size size v l.length (l.flatMap cells) ∧ (∀ a ∈ l, wf a) ∧ (l.map μ).sum + 1 ≤ Rows.uptoBulk x.1 := by
  obtain ⟨v, css, l, rfl, hsl, hlen, _, hr, hb⟩ := open_SLb (fun cs a => cs = cells a ∧ wf a) μ hs hC hel ht h
  have e : css = l.map cells := by
    apply List.ext_getElem?
    intro i
    by_cases hi : i < l.length
    · have h1 := hr i css[i] l[i] (List.getElem?_eq_getElem (by omega)) (List.getElem?_eq_getElem hi)
      rw [List.getElem?_eq_getElem (by omega), List.getElem?_eq_getElem (by simpa using hi), h1.1]
      simp
    · rw [List.getElem?_eq_none (by omega), List.getElem?_eq_none (by simpa using hi)]
  refine ⟨v, l, rfl, by rw [e] at hsl; rw [List.flatMap_def]; exact hsl, fun a ha => ?_, hb⟩
  obtain ⟨i, hi, rfl⟩ := List.getElem_of_mem ha
  exact (hr i css[i] l[i] (List.getElem?_eq_getElem (by omega)) (List.getElem?_eq_getElem hi)).2
/-- a struct, field by field, with what is read of it -/
theorem trod_parts {t : TypeId} {fs : Array Field} {fuel : Nat} {cs : List Value} {x : DataW H × List MemPlace} (ht : P.underlying t = some (.struct fs)) (h : DataW.trod enc P w base spare held fuel t cs = some x) :
    cs.length = P.cellsOf t ∧ ∃ (n : Nat) (xs : List (DataW H × List MemPlace)), xs.length = fs.size ∧ x.1 = .agg (xs.map (·.1)) ∧ ∀ (j : Nat) (u : TypeId) (o : Nat), (fs.toList.map fun f => (f.type, f.offset))[j]? = some (u, o) → DataW.trod enc P w base spare held n u ((cs.drop o).take (P.cellsOf u)) = xs[j]? := by
  obtain ⟨xs, n, _, rfl, hl, hxl, hf⟩ := DataW.trod_struct ht h
  refine ⟨hl, n, xs, hxl, rfl, fun j u o hj => ?_⟩
  rw [List.getElem?_map, Option.map_eq_some_iff] at hj
  obtain ⟨f, hj, hfe⟩ := hj
  simp only [Prod.mk.injEq] at hfe
  obtain ⟨rfl, rfl⟩ := hfe
  have hj : fs[j]? = some f := by simpa using hj
  exact hf j f hj
end
theorem list2 {α : Type} {l : List α} (h : l.length = 2) : ∃ c0 c1, l = [c0, c1] := by
  match l, h with
  | [c0, c1], _ => exact ⟨_, _, rfl⟩
section
variable {H : Type} {enc : TypeId × Value → H} {w : World} {base : Nat} {spare : Nat → Bool} {held : Bool} {fuel : Nat} {cs : List Value} {x : DataW H × List MemPlace}
theorem open_ints (h : DataW.trod enc Tryd.prog w base spare held fuel 46 cs = some x) :
    ∃ v l, cs = [v] ∧ RInts w w.heap.size v l ∧ (∀ n ∈ l, I64 n) ∧ l.length + 1 ≤ Rows.uptoBulk x.1 := by
  obtain ⟨v, l, rfl, hsl, hw, hb⟩ := open_cellsb (fun n => [Value.int .i64 n]) I64 (fun _ => 1) (by decide) Tryd.cells3 (fun _ _ x h => (trod_i64 Tryd.underlying3 h).elim fun n hn => ⟨n, hn, bulk_one _⟩) Tryd.underlying46 h
  rw [sum_const] at hb
  exact ⟨v, l, rfl, by unfold RInts; rw [List.map_eq_flatMap]; exact hsl, hw, hb⟩
theorem open_lists (h : DataW.trod enc Tryd.prog w base spare held fuel 47 cs = some x) :
    ∃ v l, cs = [v] ∧ RLists w w.heap.size v l ∧ (∀ a ∈ l, ∀ n ∈ a, I64 n) ∧ l.length + l.flatten.length + 1 ≤ Rows.uptoBulk x.1 := by
  obtain ⟨v, css, l, rfl, hsl, hlen, hone, hr, hb⟩ := open_SLb (fun cs a => ∃ u, cs = [u] ∧ RInts w w.heap.size u a ∧ (∀ n ∈ a, I64 n)) (fun a : List Int => a.length + 1) (by decide) Tryd.cells46
    (fun _ _ x h => by obtain ⟨u, a, h1, h2, h3, h4⟩ := open_ints h; exact ⟨a, ⟨u, h1, h2, h3⟩, h4⟩) Tryd.underlying47 h
  have hsum : ∀ l : List (List Int), (l.map fun a => a.length + 1).sum = l.length + l.flatten.length := fun l => by
    induction l with
    | nil => rfl
    | cons a r ih => simp only [List.map_cons, List.sum_cons, ih, List.length_cons, List.flatten_cons, List.length_append]; omega
  rw [hsum] at hb
  have hfl : css.flatten.length = l.length := by rw [flatten_len _ hone, hlen]; omega
  refine ⟨v, l, rfl, ⟨css.flatten, hfl, hsl, fun k u a hu ha => ?_⟩, fun a ha => ?_, hb⟩
  · have hk : k < css.length := by rw [hlen]; exact (List.getElem?_eq_some_iff.1 ha).1
    obtain ⟨u', e, hi, _⟩ := hr k css[k] a (List.getElem?_eq_getElem hk) ha
    have := flatten_at css hone k 0 (by decide)
    rw [Nat.mul_one, Nat.add_zero, hu, List.getElem?_eq_getElem hk, e] at this
    simp at this
    subst this
    exact hi
  · obtain ⟨k, hk, rfl⟩ := List.getElem_of_mem ha
    obtain ⟨u', e, _, hi⟩ := hr k (css[k]'(by omega)) l[k] (List.getElem?_eq_getElem (by omega)) (List.getElem?_eq_getElem hk)
    exact hi
structure WfG (g : Ev.Given) : Prop where
  words : ∀ n ∈ g.words, I64 n
  arrays : ∀ a ∈ g.arrays, ∀ n ∈ a, I64 n
theorem open_given (h : DataW.trod enc Tryd.prog w base spare held fuel 49 cs = some x) :
    ∃ vw va g, cs = [vw, va] ∧ RInts w w.heap.size vw g.words ∧ RLists w w.heap.size va g.arrays ∧ WfG g ∧ g.words.length + g.arrays.length + g.arrays.flatten.length + 1 ≤ Rows.uptoBulk x.1 := by
  obtain ⟨hl, n, xs, hxl, hx, hf⟩ := trod_parts Tryd.underlying49 h
  rw [Tryd.cells49] at hl
  obtain ⟨c0, c1, rfl⟩ := list2 hl
  obtain ⟨x0, x1, rfl⟩ := list2 hxl
  have h0 := hf 0 46 0 rfl
  have h1 := hf 1 47 1 rfl
  rw [Tryd.cells46] at h0
  rw [Tryd.cells47] at h1
  obtain ⟨vw, lw, e0, r0, w0, b0⟩ := open_ints h0
  obtain ⟨va, la, e1, r1, w1, b1⟩ := open_lists h1
  simp at e0 e1
  subst e0 e1
  refine ⟨_, _, ⟨lw, la⟩, rfl, r0, r1, ⟨w0, w1⟩, ?_⟩
  rw [hx]
  simp only [List.map_cons, List.map_nil, Rows.uptoBulk, Rows.uptoBulkAll]
  omega
end
theorem arg_struct {P : Program} {w : World} {base : Nat} {r : Reach} {t : TypeId} {v : Value} {fs : Array Field} (ht : P.underlying t = some (.struct fs)) (hv : Value.okWide P w r base t v) {l : List Value} (h : v.cells.toList = l) : v = .agg l.toArray := by
  obtain ⟨cs, rfl, _⟩ := okWide_struct ht hv
  simp only [Value.cells] at h
  subst h
  simp
end Go.Proofs.YtpbflgemhcaooaaDoor
