import Derived.Test.YtpbflgemhcaooaaDoorPt35
import Derived.Deep.DeepCutAuto
import Derived.Deep.CutBlock
/- The document's reader: a statement; its head. -/
namespace Ev
open Go
def kindMap : List (List UInt8 × Int) := [([108, 101, 116], 1), ([115, 101, 116], 2), ([112, 117, 116], 3), ([105, 102], 4), ([102, 111, 114], 5), ([114, 101, 116], 6)]
theorem stKind_in (w : List UInt8) : 0 ≤ stKind w ∧ stKind w ≤ 6 := by
  unfold stKind
  repeat' split
  all_goals omega
end Ev
namespace Ev
theorem stmt_for {d : Nat} {p : PS} (h : (kindW p).1 = 5) : stmtW (d + 1) p = forW (stmtW d) (secW (kindW p).1 (kindW p).2).1 (nmW (kindW p).1 (secW (kindW p).1 (kindW p).2).2).1 (nmW (kindW p).1 (secW (kindW p).1 (kindW p).2).2).2 := by
  rw [stmtW]
  rw [if_pos h]
theorem stmt_if {d : Nat} {p : PS} (h : (kindW p).1 = 4) : stmtW (d + 1) p = ifW (stmtW d) (secW (kindW p).1 (kindW p).2).1 (nmW (kindW p).1 (secW (kindW p).1 (kindW p).2).2).1 (timesW (exprW d) 1 (nmW (kindW p).1 (secW (kindW p).1 (kindW p).2).2).2) := by
  rw [stmtW]
  rw [if_neg (by rw [h]; decide), if_pos h]
theorem stmt_else {d : Nat} {p : PS} (h5 : (kindW p).1 ≠ 5) (h4 : (kindW p).1 ≠ 4) : stmtW (d + 1) p = (.mk (kindW p).1 0 (nmW (kindW p).1 (secW (kindW p).1 (kindW p).2).2).1 (secW (kindW p).1 (kindW p).2).1 (timesW (exprW d) (stArgs (kindW p).1) (nmW (kindW p).1 (secW (kindW p).1 (kindW p).2).2).2).1 [] [], isW [41] (timesW (exprW d) (stArgs (kindW p).1) (nmW (kindW p).1 (secW (kindW p).1 (kindW p).2).2).2).2) := by
  rw [stmtW]
  rw [if_neg h5, if_neg h4]
end Ev
namespace Go.Proofs.YtpbflgemhcaooaaDoor
open Go.RowKit
set_option linter.unusedSimpArgs false
set_option linter.unusedVariables false
theorem stKind_map (w : List UInt8) : valK w Ev.kindMap = Ev.stKind w := rfl
def zeroS : Array Value := #[.int .i64 0, .int .i64 0, .string ⟨#[]⟩, .bool false, .slice none 0 0, .slice none 0 0, .slice none 0 0]
theorem zeroS_one : zeroS.all (·.oneCell') = true := by unfold zeroS; simp [Value.oneCell']
/-- what holds while a statement is read: the reader, the result's box, the statement's box -/
structure SAt (w wx : World) (b t6 : Nat) (q : Ev.PS) (cs : Array Value) : Prop where
  at_ : PAt wx b q
  fr : PFr b w wx
  r4 : wx.heap[w.heap.size]? = some (.cells zeroS 109 (0, 0))
  r6 : wx.heap[t6]? = some (.cells cs 109 (0, 0))
section
variable {w wx wy : World} {b t6 : Nat} {q q' : Ev.PS} {cs : Array Value}
theorem SAt.set (H : SAt w wx b t6 q cs) (hb : b < w.heap.size) (ht : w.heap.size < t6) (j : Nat) (v : Value) : SAt w (wx.setCell ⟨t6, j, none⟩ v) b t6 q (cs.setIfInBounds j v) := by
  refine ⟨?_, ⟨H.fr.os, H.fr.tape, H.fr.output, by simpa using H.fr.size, fun k hk hne => ?_⟩, ?_, ?_⟩
  · exact (Below.heap_setCell wx ⟨t6, j, none⟩ v b (by show b ≠ t6; omega)).trans H.at_
  · exact (Below.heap_setCell wx ⟨t6, j, none⟩ v k (by show k ≠ t6; omega)).trans (H.fr.block k hk hne)
  · exact (Below.heap_setCell wx ⟨t6, j, none⟩ v _ (by show w.heap.size ≠ t6; omega)).trans H.r4
  · exact heap_setCell_same wx t6 j _ _ v H.r6
theorem SAt.move (H : SAt w wx b t6 q cs) (hb : b < w.heap.size) (ht : w.heap.size < t6) (hF : PFr b wx wy) (hA : PAt wy b q') : SAt w wy b t6 q' cs := by
  have l4 := (Array.getElem?_eq_some_iff.1 H.r4).1
  have l6 := (Array.getElem?_eq_some_iff.1 H.r6).1
  exact ⟨hA, H.fr.trans hF, (hF.block _ l4 (by omega)).trans H.r4, (hF.block _ l6 (by omega)).trans H.r6⟩
theorem SAt.on (H : SAt w wx b t6 q cs) (hb : b < w.heap.size) (ht : w.heap.size < t6) (hB : Below wx.heap.size wx wy) : SAt w wy b t6 q cs := H.move hb ht (PFr.of hB) (H.at_.stays hB)
theorem SAt.cell (H : SAt w wx b t6 q cs) (j : Nat) : wx.cell? ⟨t6, j, none⟩ = cs[j]? := cell_of_block H.r6 j
theorem SAt.free (H : SAt w wx b t6 q cs) (j : Nat) : wx.frozen? ⟨t6, j, none⟩ = false := by
  unfold World.frozen?
  rw [H.r6]
  simp
theorem SAt.lt (H : SAt w wx b t6 q cs) : t6 < wx.heap.size := (Array.getElem?_eq_some_iff.1 H.r6).1
end
def csS (k n : Int) (nm : List UInt8) (sec : Bool) (va vt ve : Value) : Array Value := #[.int .i64 k, .int .i64 n, .string ⟨nm.toArray⟩, .bool sec, va, vt, ve]
set_option maxRecDepth 6000 in
set_option maxHeartbeats 3200000 in
theorem stmt_zero : StDoes 0 := by
  intro p b w h hl hv
  have H := Lib.hid h
  have HE := Lib.hid (show Ev.stmtW 0 p = (Ev.St1.none, p.bad 9) from rfl)
  have hbl := h.lt
  clear h
  show Calls Tryd.prog 88 #[.pointer (some ⟨b, 0, none⟩), .int .i64 9] w _
  go_enter Tryd.func88, Tryd.ntmps88
  go_upto_region 2 with fail
  have hA : Hid (PAt (w.alloc (.cells #[.int .i64 0, .int .i64 0, .string ⟨#[]⟩, .bool false, .slice none 0 0, .slice none 0 0, .slice none 0 0] 109)) b p) := Lib.hid (H.out.stays ((Below.refl _ _).alloc (Nat.le_refl _) _))
  have r4 : Hid ((w.alloc (.cells #[.int .i64 0, .int .i64 0, .string ⟨#[]⟩, .bool false, .slice none 0 0, .slice none 0 0, .slice none 0 0] 109)).heap[w.heap.size]? = some (.cells zeroS 109 (0, 0))) := Lib.hid (heap_alloc_new _ _)
  have fA : PFr b w (w.alloc (.cells #[.int .i64 0, .int .i64 0, .string ⟨#[]⟩, .bool false, .slice none 0 0, .slice none 0 0, .slice none 0 0] 109)) := PFr.of ((Below.refl _ _).alloc (Nat.le_refl _) _)
  generalize w.alloc (.cells #[.int .i64 0, .int .i64 0, .string ⟨#[]⟩, .bool false, .slice none 0 0, .slice none 0 0, .slice none 0 0] 109) = wA at *
  go_upto_region 3 with (go_at_call 55; refine (bad_any p b 9 _ hA.out).mono ?_; rintro e w1 ⟨rfl, h1, hF1⟩)
  have r41 := Lib.hid ((hF1.block w.heap.size (Array.getElem?_eq_some_iff.1 r4.out).1 (by omega)).trans r4.out)
  have H1 := Lib.hid h1
  clear h1
  go_wp2_with (refine wpList_put_all (cells := zeroS) rfl 109 _ _ rfl rfl rfl r41.out rfl (by kernel_rfl) zeroS_one ?_; intro w2 hr2 hf2 hz2)
  have hl2 := load_whole Tryd.underlying109 (by kernel_rfl) (by rfl) (by kernel_rfl) hr2
  refine bodyPost_ret (v := .agg zeroS) (by simp [results, Tryd.results88, Sem.run_bind, asAddr, Act.put, hl2]) rfl ?_
  refine ⟨(.slice none 0 0, .slice none 0 0, .slice none 0 0), by rw [HE.out]; rfl, by rw [HE.out]; exact RParts.none_ _ _ _, ?_, PFr.of_new hf2 (fA.trans hF1) hbl⟩
  rw [HE.out]
  exact (hf2.block b H1.out.lt (by omega)).trans H1.out
set_option maxRecDepth 8000 in
set_option maxHeartbeats 12800000 in
theorem stmt_succ (d : Nat) (hd : d ≤ 8) (ih : StDoes d) : StDoes (d + 1) := by
  intro p b w h hl hv
  have H := Lib.hid h
  have HV := Lib.hid hv
  have hbl := h.lt
  have C1 := Lib.hid (fun u hu => is_any p [40] b u hu hl)
  have L1 := (Ev.is_steps [40] p).1.len
  have T1 := take_in (Ev.isW [40] p) (by omega)
  have C2 := Lib.hid (fun u hu => take_any (Ev.isW [40] p) b u hu (by omega))
  have HK := Lib.hid (show Ev.kindW p = (Ev.stKind (Ev.takeW (Ev.isW [40] p)).1, if Ev.stKind (Ev.takeW (Ev.isW [40] p)).1 = 0 then (Ev.takeW (Ev.isW [40] p)).2.bad 1 else (Ev.takeW (Ev.isW [40] p)).2) from rfl)
  obtain ⟨deep, hdp⟩ : ∃ deep : Int, 9 - ((d + 1 : Nat) : Int) = deep := ⟨_, rfl⟩
  rw [hdp]
  have gd : ¬ 8 < deep := by omega
  have HDP := Lib.hid (show deep + 1 = 9 - (d : Int) by omega)
  have hdl : -1 ≤ deep := by omega
  obtain ⟨R, hR⟩ : ∃ R, Ev.stmtW (d + 1) p = R := ⟨_, rfl⟩
  have HR := Lib.hid hR
  rw [hR]
  clear h hv hdp hR
  generalize Ev.isW [40] p = q0 at *
  generalize (Ev.takeW q0).1 = v at *
  generalize (Ev.takeW q0).2 = q1 at *
  go_enter Tryd.func88, Tryd.ntmps88
  go_upto_region 4 with fail
  have hA : Hid (PAt (w.alloc (.cells #[.int .i64 0, .int .i64 0, .string ⟨#[]⟩, .bool false, .slice none 0 0, .slice none 0 0, .slice none 0 0] 109)) b p) := Lib.hid (H.out.stays ((Below.refl _ _).alloc (Nat.le_refl _) _))
  have r4 : Hid ((w.alloc (.cells #[.int .i64 0, .int .i64 0, .string ⟨#[]⟩, .bool false, .slice none 0 0, .slice none 0 0, .slice none 0 0] 109)).heap[w.heap.size]? = some (.cells zeroS 109 (0, 0))) := Lib.hid (heap_alloc_new _ _)
  have fA : PFr b w (w.alloc (.cells #[.int .i64 0, .int .i64 0, .string ⟨#[]⟩, .bool false, .slice none 0 0, .slice none 0 0, .slice none 0 0] 109)) := PFr.of ((Below.refl _ _).alloc (Nat.le_refl _) _)
  generalize w.alloc (.cells #[.int .i64 0, .int .i64 0, .string ⟨#[]⟩, .bool false, .slice none 0 0, .slice none 0 0, .slice none 0 0] 109) = wA at *
  go_upto_region 5 with (go_at_call 46; refine (C1.out _ hA.out).mono ?_; rintro e w1 ⟨rfl, h1, hF1⟩)
  replace r4 := Lib.hid ((hF1.block w.heap.size (Array.getElem?_eq_some_iff.1 r4.out).1 (by omega)).trans r4.out)
  replace fA := fA.trans hF1
  have H1 := Lib.hid h1
  clear h1 hF1 hA H C1
  go_upto_region 6 with (go_at_call 84; refine (C2.out _ H1.out).mono ?_; rintro e w2 ⟨rfl, h2, hF2⟩)
  replace r4 := Lib.hid ((hF2.block w.heap.size (Array.getElem?_eq_some_iff.1 r4.out).1 (by omega)).trans r4.out)
  replace fA := fA.trans hF2
  have H2 := Lib.hid h2
  clear h2 hF2 H1 C2
  have zr := (Array.getElem?_eq_some_iff.1 r4.out).1
  obtain ⟨k, hk⟩ : ∃ k, Ev.stKind v = k := ⟨_, rfl⟩
  have hk06 := Ev.stKind_in v
  rw [hk] at HK hk06
  have ins : ∀ (l : List (List UInt8 × Int)) (x : List UInt8) (n : Int), x.length ≤ 281474976710656 → lookK x l 0 = none → (Instr.mapUpdate 137 (.map (some w2.heap.size)) (.string ⟨x.toArray⟩) (.int .i64 n)).run Tryd.prog (w2.alloc (.map (entsFrom 0 l).toArray l.length)) = .ok () (w2.alloc (.map (entsFrom 0 (l ++ [(x, n)])).toArray (l.length + 1))) := fun l x n h1 h2 => ins_str Tryd.prog 137 9 3 Tryd.underlying137 Tryd.underlying9 w2 l x n h1 h2
  obtain ⟨E1, hE1⟩ : ∃ E, (entsFrom 0 [([108, 101, 116], (1 : Int))]).toArray = E := ⟨_, rfl⟩
  obtain ⟨E2, hE2⟩ : ∃ E, (entsFrom 0 [([108, 101, 116], (1 : Int)), ([115, 101, 116], 2)]).toArray = E := ⟨_, rfl⟩
  obtain ⟨E3, hE3⟩ : ∃ E, (entsFrom 0 [([108, 101, 116], (1 : Int)), ([115, 101, 116], 2), ([112, 117, 116], 3)]).toArray = E := ⟨_, rfl⟩
  obtain ⟨E4, hE4⟩ : ∃ E, (entsFrom 0 [([108, 101, 116], (1 : Int)), ([115, 101, 116], 2), ([112, 117, 116], 3), ([105, 102], 4)]).toArray = E := ⟨_, rfl⟩
  obtain ⟨E5, hE5⟩ : ∃ E, (entsFrom 0 [([108, 101, 116], (1 : Int)), ([115, 101, 116], 2), ([112, 117, 116], 3), ([105, 102], 4), ([102, 111, 114], 5)]).toArray = E := ⟨_, rfl⟩
  obtain ⟨E6, hE6⟩ : ∃ E, (entsFrom 0 Ev.kindMap).toArray = E := ⟨_, rfl⟩
  have m1 : (Instr.mapUpdate 137 (.map (some w2.heap.size)) (.string ⟨#[108, 101, 116]⟩) (.int .i64 1)).run Tryd.prog (w2.alloc (.map #[] 0)) = .ok () (w2.alloc (.map E1 1)) := by rw [← hE1]; exact ins [] [108, 101, 116] 1 (by decide) rfl
  have m2 : (Instr.mapUpdate 137 (.map (some w2.heap.size)) (.string ⟨#[115, 101, 116]⟩) (.int .i64 2)).run Tryd.prog (w2.alloc (.map E1 1)) = .ok () (w2.alloc (.map E2 2)) := by rw [← hE1, ← hE2]; exact ins [([108, 101, 116], (1 : Int))] [115, 101, 116] 2 (by decide) (by decide)
  have m3 : (Instr.mapUpdate 137 (.map (some w2.heap.size)) (.string ⟨#[112, 117, 116]⟩) (.int .i64 3)).run Tryd.prog (w2.alloc (.map E2 2)) = .ok () (w2.alloc (.map E3 3)) := by rw [← hE2, ← hE3]; exact ins [([108, 101, 116], (1 : Int)), ([115, 101, 116], 2)] [112, 117, 116] 3 (by decide) (by decide)
  have m4 : (Instr.mapUpdate 137 (.map (some w2.heap.size)) (.string ⟨#[105, 102]⟩) (.int .i64 4)).run Tryd.prog (w2.alloc (.map E3 3)) = .ok () (w2.alloc (.map E4 4)) := by rw [← hE3, ← hE4]; exact ins [([108, 101, 116], (1 : Int)), ([115, 101, 116], 2), ([112, 117, 116], 3)] [105, 102] 4 (by decide) (by decide)
  have m5 : (Instr.mapUpdate 137 (.map (some w2.heap.size)) (.string ⟨#[102, 111, 114]⟩) (.int .i64 5)).run Tryd.prog (w2.alloc (.map E4 4)) = .ok () (w2.alloc (.map E5 5)) := by rw [← hE4, ← hE5]; exact ins [([108, 101, 116], (1 : Int)), ([115, 101, 116], 2), ([112, 117, 116], 3), ([105, 102], 4)] [102, 111, 114] 5 (by decide) (by decide)
  have m6 : (Instr.mapUpdate 137 (.map (some w2.heap.size)) (.string ⟨#[114, 101, 116]⟩) (.int .i64 6)).run Tryd.prog (w2.alloc (.map E5 5)) = .ok () (w2.alloc (.map E6 6)) := by rw [← hE5, ← hE6]; exact ins [([108, 101, 116], (1 : Int)), ([115, 101, 116], 2), ([112, 117, 116], 3), ([105, 102], 4), ([102, 111, 114], 5)] [114, 101, 116] 6 (by decide) (by decide)
  have ml : (Instr.lookup 137 (.map (some w2.heap.size)) (.string ⟨(v).toArray⟩) false).run Tryd.prog (w2.alloc (.map E6 6)) = .ok (.int .i64 k) (w2.alloc (.map E6 6)) := by
    have h := look_str Tryd.prog 137 9 3 Tryd.underlying137 Tryd.underlying9 w2 Ev.kindMap v (by have := T1.1; omega) (by kernel_rfl)
    rw [hE6, stKind_map, hk] at h
    exact h
  clear ins hE1 hE2 hE3 hE4 hE5 hE6
  have hmm := @run_makeMap Tryd.prog
  go_upto_region 7 with fail
  clear hmm
  have HS3 : Hid (SAt w ((w2.alloc (.map E6 6)).alloc (.cells #[.int .i64 k, .int .i64 0, .string ⟨#[]⟩, .bool false, .slice none 0 0, .slice none 0 0, .slice none 0 0] 109)) b (w2.heap.size + 1) q1 (csS k 0 [] false (.slice none 0 0) (.slice none 0 0) (.slice none 0 0))) := Lib.hid (by
    have hB : Below w2.heap.size w2 ((w2.alloc (.map E6 6)).alloc (.cells #[.int .i64 k, .int .i64 0, .string ⟨#[]⟩, .bool false, .slice none 0 0, .slice none 0 0, .slice none 0 0] 109)) := ((Below.refl _ _).alloc (Nat.le_refl _) _).alloc (by simp) _
    refine ⟨H2.out.stays hB, fA.on hB, (hB.block _ zr).trans r4.out, ?_⟩
    have h := heap_alloc_new (w2.alloc (.map E6 6)) (.cells #[.int .i64 k, .int .i64 0, .string ⟨#[]⟩, .bool false, .slice none 0 0, .slice none 0 0, .slice none 0 0] 109)
    rw [World.size_alloc] at h
    exact h)
  clear H2 fA r4 m1 m2 m3 m4 m5 m6 ml
  generalize ((w2.alloc (.map E6 6)).alloc (.cells #[.int .i64 k, .int .i64 0, .string ⟨#[]⟩, .bool false, .slice none 0 0, .slice none 0 0, .slice none 0 0] 109)) = w3 at *
  have z6 : w.heap.size < w2.heap.size + 1 := by omega
  generalize w2.heap.size + 1 = t6 at *
  have HK1 : Hid ((Ev.kindW p).1 = k) := Lib.hid (by rw [HK.out])
  have HK2 : Hid ((Ev.kindW p).2 = if k = 0 then q1.bad 1 else q1) := Lib.hid (by rw [HK.out])
  have LK := (Ev.kind_steps p).1.len
  have LS := (Ev.sec_goes (Ev.kindW p).1 (Ev.kindW p).2).len
  have LN := (Ev.nm_goes (Ev.kindW p).1 (Ev.secW (Ev.kindW p).1 (Ev.kindW p).2).2).len
  have c0 : w3.cell? ⟨t6, 0, none⟩ = some (.int .i64 k) := HS3.out.cell 0
  have z60 := HS3.out.lt
  go_upto_if 23 with fail
  go_cut [23] (fun _ wx => Hid (SAt w wx b t6 (Ev.kindW p).2 (csS k 0 [] false (.slice none 0 0) (.slice none 0 0) (.slice none 0 0))))
  case first =>
    by_cases h0 : k = 0
    · have g0 : (k == 0) = true := beq_iff_eq.2 h0
      have HX := Lib.hid (HK2.out.trans (if_pos h0))
      clear h0
      go_wp2_with (go_at_call 55; refine (bad_any q1 b 1 _ HS3.out.at_).mono ?_; rintro e w4 ⟨rfl, h4, hF4⟩)
      go_meet
      exact Lib.hid (by rw [HX.out]; exact HS3.out.move hbl z6 hF4 h4)
    · have g0 : (k == 0) = false := beq_eq_false_iff_ne.2 h0
      have HX := Lib.hid (HK2.out.trans (if_neg h0))
      clear h0
      go_wp2_with fail
      go_meet
      exact Lib.hid (by rw [HX.out]; exact HS3.out)
  case rest =>
  have HS4 := hcut
  clear hcut c0 z60 HS3 HK HK2
  obtain ⟨p2, hp2⟩ : ∃ p2, (Ev.kindW p).2 = p2 := ⟨_, rfl⟩
  have HP2 := Lib.hid hp2
  rw [hp2] at HS4 LK LS LN
  rw [HK1.out] at LS LN
  clear hp2
  have c0 : wc.cell? ⟨t6, 0, none⟩ = some (.int .i64 k) := HS4.out.cell 0
  have z60 := HS4.out.lt
  go_upto_region 9 with fail
  go_upto_if 28 with fail
  go_cut [28] (fun _ wx => Hid (SAt w wx b t6 (Ev.secW k p2).2 (csS k 0 [] (Ev.secW k p2).1 (.slice none 0 0) (.slice none 0 0) (.slice none 0 0))))
  case first =>
    by_cases h1 : k = 1
    · have g1 : (k == 1) = true := beq_iff_eq.2 h1
      have HX := Lib.hid (show Ev.secW k p2 = Ev.labW p2 from if_pos h1)
      have CL := Lib.hid (lab_any p2 b wc HS4.out.at_ (by omega))
      generalize Ev.labW p2 = R2 at *
      clear h1 c0 z60
      go_wp2_with (go_at_call 49; refine CL.out.mono ?_; rintro e w5 ⟨rfl, h5, hF5⟩; have M5 := Lib.hid (HS4.out.move hbl z6 hF5 h5); have c3 : w5.cell? ⟨t6, 3, none⟩ = some (.bool false) := M5.out.cell 3; have f3 := M5.out.free 3; have z5 := M5.out.lt)
      go_meet
      exact Lib.hid (by rw [HX.out]; exact M5.out.set hbl z6 3 _)
    · have g1 : (k == 1) = false := beq_eq_false_iff_ne.2 h1
      have HX := Lib.hid (show Ev.secW k p2 = (false, p2) from if_neg h1)
      clear h1
      go_wp2_with fail
      go_meet
      exact Lib.hid (by rw [HX.out]; exact HS4.out)
  case rest =>
  have HS5 := hcut
  clear hcut c0 z60 HS4
  obtain ⟨sec, hsec⟩ : ∃ sec, (Ev.secW k p2).1 = sec := ⟨_, rfl⟩
  obtain ⟨p3, hp3⟩ : ∃ p3, (Ev.secW k p2).2 = p3 := ⟨_, rfl⟩
  have HSEC := Lib.hid hsec
  have HP3 := Lib.hid hp3
  rw [hsec, hp3] at HS5
  rw [hp3] at LS LN
  clear hsec hp3
  have c0 : wc.cell? ⟨t6, 0, none⟩ = some (.int .i64 k) := HS5.out.cell 0
  have z60 := HS5.out.lt
  go_upto_region 11 with fail
  go_cut [49] (fun x wx => x = .bool (k == 1 || k == 2 || k == 3 || k == 5) ∧ wc = wx)
  case first =>
    clear HK1 HSEC HP3 HP2 HR LS LN LK hk hk06 HS5
    by_cases h1 : k = 1
    · subst h1
      go_wp2_with fail
      go_meet
      exact ⟨rfl, rfl⟩
    have g1 : (k == 1) = false := beq_eq_false_iff_ne.2 h1
    by_cases h2 : k = 2
    · subst h2
      go_wp2_with fail
      go_meet
      exact ⟨rfl, rfl⟩
    have g2 : (k == 2) = false := beq_eq_false_iff_ne.2 h2
    by_cases h3 : k = 3
    · subst h3
      go_wp2_with fail
      go_meet
      exact ⟨rfl, rfl⟩
    have g3 : (k == 3) = false := beq_eq_false_iff_ne.2 h3
    by_cases h5 : k = 5
    · subst h5
      go_wp2_with fail
      go_meet
      exact ⟨rfl, rfl⟩
    have g5 : (k == 5) = false := beq_eq_false_iff_ne.2 h5
    have HG := Lib.hid (show (k == 1 || k == 2 || k == 3 || k == 5) = false by rw [g1, g2, g3, g5]; rfl)
    clear h1 h2 h3 h5
    go_wp2_with fail
    go_meet
    exact ⟨by rw [HG.out], rfl⟩
  case rest =>
  obtain ⟨rfl, rfl⟩ := hcut
  obtain ⟨G, hG⟩ : ∃ G, (k == 1 || k == 2 || k == 3 || k == 5) = G := ⟨_, rfl⟩
  rw [hG]
  have HG := Lib.hid hG
  clear hG c0
  go_upto_if 49 with fail
  go_cut [49] (fun _ wx => Hid (SAt w wx b t6 (Ev.nmW k p3).2 (csS k 0 (Ev.nmW k p3).1 sec (.slice none 0 0) (.slice none 0 0) (.slice none 0 0))))
  case first =>
    cases G with
    | true =>
      have HX := Lib.hid (show Ev.nmW k p3 = Ev.nameW p3 from if_pos (by
        have h := HG.out
        simp only [Bool.or_eq_true, beq_iff_eq] at h
        omega))
      have CN := Lib.hid (name_any p3 b wc HS5.out.at_ (by omega))
      generalize Ev.nameW p3 = R2 at *
      clear z60
      go_wp2_with (go_at_call 50; refine CN.out.mono ?_; rintro e w5 ⟨rfl, h5, hF5⟩; have M5 := Lib.hid (HS5.out.move hbl z6 hF5 h5); have c2 : w5.cell? ⟨t6, 2, none⟩ = some (.string ⟨#[]⟩) := M5.out.cell 2; have f2 := M5.out.free 2; have z5 := M5.out.lt)
      go_meet
      exact Lib.hid (by rw [HX.out]; exact M5.out.set hbl z6 2 _)
    | false =>
      have HX := Lib.hid (show Ev.nmW k p3 = ([], p3) from if_neg (fun h => by
        have h2 := HG.out
        simp only [Bool.or_eq_false_iff, beq_eq_false_iff_ne] at h2
        omega))
      go_wp2_with fail
      go_meet
      exact Lib.hid (by rw [HX.out]; exact HS5.out)
  case rest =>
  have HS6 := hcut
  clear hcut z60 HS5 HG
  obtain ⟨nm, hnm⟩ : ∃ nm, (Ev.nmW k p3).1 = nm := ⟨_, rfl⟩
  obtain ⟨p4, hp4⟩ : ∃ p4, (Ev.nmW k p3).2 = p4 := ⟨_, rfl⟩
  have HNM := Lib.hid hnm
  have HP4 := Lib.hid hp4
  rw [hnm, hp4] at HS6
  rw [hp4] at LN
  clear hnm hp4
  have c0 : wc.cell? ⟨t6, 0, none⟩ = some (.int .i64 k) := HS6.out.cell 0
  have z60 := HS6.out.lt
  have CST := Lib.hid (fun q u h1 h2 h3 => stmts_any d (by omega) ih q b u h1 h2 h3)
  rw [← HDP.out] at CST
  by_cases h5 : k = 5
  case pos =>
    have HX := Lib.hid (Ev.stmt_for (d := d) (p := p) (by rw [HK1.out]; exact h5))
    rw [HK1.out, HP2.out, HSEC.out, HP3.out, HNM.out, HP4.out] at HX
    subst h5
    have HXR := Lib.hid (HR.out.symm.trans HX.out)
    have L4 := (Ev.num_steps 0 8 p4).1.len
    have CI := Lib.hid (fun u h1 h2 => num_any 0 8 p4 b u h1 (by omega) h2)
    unfold Ev.forW at HXR
    generalize (Ev.numW 0 8 p4).1 = nn at *
    generalize (Ev.numW 0 8 p4).2 = p5 at *
    have CB := Lib.hid (fun u h1 h2 => CST.out p5 u h1 (by omega) h2)
    generalize (Ev.blockW (Ev.stmtW d) p5).1 = lt at *
    generalize (Ev.blockW (Ev.stmtW d) p5).2 = p6 at *
    clear HX CST HK1 HP2 HSEC HP3 HNM HP4 HR LS LN LK
    go_upto_region 15 with (go_at_call 52; refine (CI.out _ HS6.out.at_ (HV.out.to HS6.out.fr)).mono ?_; rintro e w5 ⟨rfl, ha, hF⟩; have M5 := Lib.hid (HS6.out.move hbl z6 hF ha); have c1 : w5.cell? ⟨t6, 1, none⟩ = some (.int .i64 0) := M5.out.cell 1; have f1 := M5.out.free 1; have z5 := M5.out.lt)
    have M6 : Hid (SAt w (w5.setCell ⟨t6, 1, none⟩ (.int .i64 nn)) b t6 p5 (csS 5 nn nm sec (.slice none 0 0) (.slice none 0 0) (.slice none 0 0))) := Lib.hid (M5.out.set hbl z6 1 _)
    clear c0 z60 c1 f1 z5 ha hF M5 HS6 CI
    generalize w5.setCell ⟨t6, 1, none⟩ (.int .i64 nn) = w6 at *
    go_upto_region 16 with (go_at_call 53; refine (CB.out _ M6.out.at_ (HV.out.to M6.out.fr)).mono ?_; rintro e w7 ⟨vt, rfl, hvt, ha, hF⟩; obtain ⟨A3, c3, rfl⟩ := hvt.slice; have M7 := Lib.hid (M6.out.move hbl z6 hF ha); have c5 : w7.cell? ⟨t6, 5, none⟩ = some (.slice none 0 0) := M7.out.cell 5; have f5 := M7.out.free 5; have z7 := M7.out.lt)
    have M8 : Hid (SAt w (w7.setCell ⟨t6, 5, none⟩ (.slice A3 lt.length c3)) b t6 p6 (csS 5 nn nm sec (.slice none 0 0) (.slice A3 lt.length c3) (.slice none 0 0))) := Lib.hid (M7.out.set hbl z6 5 _)
    have z66 := M6.out.lt
    have s66 := M6.out.fr.size
    have s78 : w7.heap.size ≤ (w7.setCell ⟨t6, 5, none⟩ (.slice A3 lt.length c3)).heap.size := by simp
    have V8 := Lib.hid (RStL.keep (w' := w7.setCell ⟨t6, 5, none⟩ (.slice A3 lt.length c3)) (by simp) (fun k hk hkl => Below.heap_setCell w7 ⟨t6, 5, none⟩ _ k (by show k ≠ t6; omega)) (d + 1) _ _ hvt)
    clear c5 f5 z7 ha hF M7 M6 CB hvt
    generalize w7.setCell ⟨t6, 5, none⟩ (.slice A3 lt.length c3) = w8 at *
    go_wp2_with (first | (refine wpList_load_box rfl 109 _ rfl rfl (load_box Tryd.underlying109 (by kernel_rfl) (by rfl) (by kernel_rfl) (fun j v hj => (cell_of_block M8.out.r6 j).trans hj) M8.out.lt (Below.refl _ _)) ?_) | (refine wpList_put_all (cells := csS 5 nn nm sec (.slice none 0 0) (.slice A3 lt.length c3) (.slice none 0 0)) rfl 109 _ _ rfl rfl rfl M8.out.r4 rfl (by kernel_rfl) (by simp [csS, Value.oneCell']) ?_; intro w9 hr9 hf9 hz9))
    have hl2 := load_whole Tryd.underlying109 (by kernel_rfl) (by rfl) (by kernel_rfl) hr9
    refine bodyPost_ret (v := .agg (csS 5 nn nm sec (.slice none 0 0) (.slice A3 lt.length c3) (.slice none 0 0))) (by simp [results, Tryd.results88, Sem.run_bind, asAddr, Act.put, hl2]) rfl ?_
    refine ⟨((.slice none 0 0), .slice A3 lt.length c3, (.slice none 0 0)), by rw [HXR.out]; rfl, ?_, ?_, PFr.of_new hf9 M8.out.fr hbl⟩
    · rw [HXR.out]
      refine ⟨RExL.nil_ _ _ _, ?_, RStL.nil_ _ _ _⟩
      exact RStL.wide (fun k hk => ⟨by omega, by omega⟩) (d + 1) _ _ (RStL.keep (by omega) (fun k hk hkl => hf9.block k hkl (by omega)) (d + 1) _ _ V8.out)
    · rw [HXR.out]
      exact (hf9.block b M8.out.at_.lt (by omega)).trans M8.out.at_
  case neg =>
  have BX : Below wc.heap.size wc (wc.alloc (.cells #[.int .i64 0, .int .i64 1, .int .i64 1, .int .i64 2, .int .i64 1, .int .i64 0, .int .i64 1] 3)) := (Below.refl _ _).alloc (Nat.le_refl _) _
  have HS7 := Lib.hid (HS6.out.on hbl z6 BX)
  have cn : (wc.alloc (.cells #[.int .i64 0, .int .i64 1, .int .i64 1, .int .i64 2, .int .i64 1, .int .i64 0, .int .i64 1] 3)).cell? ⟨wc.heap.size, k.toNat, none⟩ = some (.int .i64 ((Ev.stArgs k : Nat) : Int)) := by
    rw [cell_of_block (heap_alloc_new wc (.cells #[.int .i64 0, .int .i64 1, .int .i64 1, .int .i64 2, .int .i64 1, .int .i64 0, .int .i64 1] 3))]
    rcases (show k = 0 ∨ k = 1 ∨ k = 2 ∨ k = 3 ∨ k = 4 ∨ k = 6 by omega) with h | h | h | h | h | h <;> subst h <;> rfl
  have c7 : (wc.alloc (.cells #[.int .i64 0, .int .i64 1, .int .i64 1, .int .i64 2, .int .i64 1, .int .i64 0, .int .i64 1] 3)).cell? ⟨t6, 0, none⟩ = some (.int .i64 k) := HS7.out.cell 0
  have z7 := HS7.out.lt
  have hk0 : 0 ≤ k := hk06.1
  have hk7 : k < 7 := by omega
  have hn3 : Ev.stArgs k ≤ 2 := by
    unfold Ev.stArgs
    split
    · omega
    · split <;> omega
  obtain ⟨n, hn⟩ : ∃ n, Ev.stArgs k = n := ⟨_, rfl⟩
  have HN := Lib.hid hn
  rw [hn] at cn hn3
  clear hn
  have g5 : (k == 5) = false := beq_eq_false_iff_ne.2 h5
  go_upto_region 18 with fail
  clear c0 z60 HS6 g5
  generalize wc.alloc (.cells #[.int .i64 0, .int .i64 1, .int .i64 1, .int .i64 2, .int .i64 1, .int .i64 0, .int .i64 1] 3) = wd at *
  clear cn c7 BX
  obtain ⟨i1, hi1, hz0, hz1, hz2⟩ := info_parts Tryd.exprInfo
  have IC := Lib.hid (⟨hi1, hz0, hz1, hz2⟩ : _ ∧ _ ∧ _ ∧ _)
  clear hi1 hz0 hz1 hz2
  have hq4 : p4.s.length ≤ 1200 := by omega
  have CEX := Lib.hid (expr_any d (by omega))
  go_loopw [70] (fun ii wr => ∃ (i : Nat) (va : Value) (l : List Ev.Ex) (q : Ev.PS), i ≤ n ∧ ii = .int .i64 (i : Int) ∧ l.length = i ∧ Hid (SAt w wr b t6 q (csS k 0 nm sec va (.slice none 0 0) (.slice none 0 0))) ∧ Hid (ExRow wr w.heap.size (fun kk => w.heap.size < kk ∧ kk ≠ t6) d va l) ∧ Hid (va.ownBlock ≠ some t6 ∧ va.ownBlock ≠ some b ∧ va.ownBlock ≠ some w.heap.size) ∧ q.s.length ≤ 1200 ∧ Hid (Ev.timesW (Ev.exprW d) n p4 = (l ++ (Ev.timesW (Ev.exprW d) (n - i) q).1, (Ev.timesW (Ev.exprW d) (n - i) q).2))) (fun ii _ => n - (intOf ii).toNat)
  case atStart => exact ⟨0, (.slice none 0 0), [], p4, by omega, rfl, rfl, HS7, Lib.hid (ExRow.nil_ _ _ _ _), Lib.hid ⟨fun h => by simp [Value.ownBlock] at h, fun h => by simp [Value.ownBlock] at h, fun h => by simp [Value.ownBlock] at h⟩, hq4, Lib.hid rfl⟩
  case round =>
  clear HS7 z7
  obtain ⟨i, va, l, q, hi, rfl, hli, HA, HR2, HO, hql, HT⟩ := hrel
  have z4 := (Array.getElem?_eq_some_iff.1 HA.out.r4).1
  have z8 := HA.out.lt
  have hwr := HA.out.fr.size
  by_cases hlt : i < n
  case pos =>
    obtain ⟨vs, hv1, hv2, hv3⟩ := HR2.out
    obtain ⟨A, cc, rfl, hc1, hc2⟩ := SL.form (SL.of_own hv2)
    have HT2 : Hid (Ev.timesW (Ev.exprW d) (n - i) q = ((Ev.exprW d q).1 :: (Ev.timesW (Ev.exprW d) (n - (i + 1)) (Ev.exprW d q).2).1, (Ev.timesW (Ev.exprW d) (n - (i + 1)) (Ev.exprW d q).2).2)) := Lib.hid (by rw [show n - i = (n - (i + 1)) + 1 by omega]; rfl)
    have hsl := (Ev.expr_steps d q).1.len
    have CI := Lib.hid (fun u hu hw => CEX.out q b u hu hql hw)
    rw [← HDP.out] at CI
    simp only [exV] at CI
    obtain ⟨ex, hex⟩ : ∃ ex, (Ev.exprW d q).1 = ex := ⟨_, rfl⟩
    obtain ⟨q1', hq1⟩ : ∃ q1, (Ev.exprW d q).2 = q1 := ⟨_, rfl⟩
    rw [hex, hq1] at CI HT2
    rw [hq1] at hsl
    clear hex hq1 HR2
    have HV1 := Lib.hid hv1
    have HV2 := Lib.hid hv2
    have HV3 := Lib.hid hv3
    clear hv1 hv2 hv3
    have R8 : Hid (wr.heap[t6]? = some (.cells #[.int .i64 k, .int .i64 0, .string ⟨nm.toArray⟩, .bool sec, .slice A l.length cc, (.slice none 0 0), (.slice none 0 0)] 109 (0, 0))) := Lib.hid HA.out.r6
    have c3 : wr.cell? ⟨t6, 4, none⟩ = some (.slice A l.length cc) := (cell_of_block R8.out 4).trans rfl
    subst hli
    go_upto_region 19 with fail
    refine wp_region_last (fun w' => w'.cell? ⟨t6, 4, none⟩ = some (.slice A l.length cc)) [(0, true), (1, true), (2, true), (3, true), (4, true), (5, false), (6, false), (7, false), (8, true)] 9 (by kernel_rfl) (by kernel_rfl) (by kernel_rfl) (by kernel_rfl) (by kernel_rfl) (by decide) (c3) ?_
    simp only [List.pop_toArray, List.dropLast_cons_cons, List.dropLast_singleton]
    apply trail_light
    case hi => (simp only [List.getElem?_toArray, List.getElem?_cons_zero, List.getElem?_cons_succ]; exact rfl)
    case hl => first | exact light_no (by rfl) | ((first | apply light_plain rfl | apply light_yes (by rfl)); intro w9 hS9; skip; first | (exact exec_load rfl rfl (by first | exact ldi9 | exact ldt9)) | (go_simp; try rfl))
    case hQ => exact fun _ _ _ h => h
    (try simp only [Act.put, List.setIfInBounds_toArray, List.set_cons_zero, List.set_cons_succ])
    apply trail_light
    case hi => (simp only [List.getElem?_toArray, List.getElem?_cons_zero, List.getElem?_cons_succ]; exact rfl)
    case hl => first | exact light_no (by rfl) | ((first | apply light_plain rfl | apply light_yes (by rfl)); intro w9 hS9; skip; first | (exact exec_load rfl rfl (by first | exact ldi9 | exact ldt9)) | (go_simp; try rfl))
    case hQ => exact fun _ _ _ h => h
    (try simp only [Act.put, List.setIfInBounds_toArray, List.set_cons_zero, List.set_cons_succ])
    apply trail_light
    case hi => (simp only [List.getElem?_toArray, List.getElem?_cons_zero, List.getElem?_cons_succ]; exact rfl)
    case hl => first | exact light_no (by rfl) | ((first | apply light_plain rfl | apply light_yes (by rfl)); intro w9 hS9; skip; first | (exact exec_load rfl rfl (by first | exact ldi9 | exact ldt9)) | (go_simp; try rfl))
    case hQ => exact fun _ _ _ h => h
    (try simp only [Act.put, List.setIfInBounds_toArray, List.set_cons_zero, List.set_cons_succ])
    apply trail_light
    case hi => (simp only [List.getElem?_toArray, List.getElem?_cons_zero, List.getElem?_cons_succ]; exact rfl)
    case hl => first | exact light_no (by rfl) | ((first | apply light_plain rfl | apply light_yes (by rfl)); intro w9 hS9; skip; first | (exact exec_load rfl rfl (by first | exact ldi9 | exact ldt9)) | (go_simp; try rfl))
    case hQ => exact fun _ _ _ h => h
    (try simp only [Act.put, List.setIfInBounds_toArray, List.set_cons_zero, List.set_cons_succ])
    apply trail_light
    case hi => (simp only [List.getElem?_toArray, List.getElem?_cons_zero, List.getElem?_cons_succ]; exact rfl)
    case hl => first | exact light_no (by rfl) | ((first | apply light_plain rfl | apply light_yes (by rfl)); intro w9 hS9; skip; first | (exact exec_load rfl rfl (by first | exact ldi9 | exact ldt9)) | (go_simp; try rfl))
    case hQ => exact fun _ _ _ h => h
    (try simp only [Act.put, List.setIfInBounds_toArray, List.set_cons_zero, List.set_cons_succ])
    apply trail_heavy
    case hi => (simp only [List.getElem?_toArray, List.getElem?_cons_zero, List.getElem?_cons_succ]; exact rfl)
    go_wp2_with (first | (go_at_call 104; refine (CI.out wr.drew HA.out.at_ ((HV.out.to HA.out.fr).to (PFr.of ((Below.refl _ _).drew)))).mono ?_; rintro e w5 ⟨x, rfl, hx5, h5, hF5'⟩; have hF5 : PFr b wr w5 := (PFr.of ((Below.refl _ _).drew)).trans hF5'; have b5 : w5.heap[t6]? = some (.cells #[.int .i64 k, .int .i64 0, .string ⟨nm.toArray⟩, .bool sec, .slice A l.length cc, (.slice none 0 0), (.slice none 0 0)] 109 (0, 0)) := (hF5.block t6 z8 (by omega)).trans R8.out; have c5 : w5.cell? ⟨t6, 4, none⟩ = some (.slice A l.length cc) := (cell_of_block b5 4).trans rfl; have OWN5 := Lib.hid (kept_ps HV2.out hF5 HO.out.2.1); have lw5 : w.heap.size ≤ w5.heap.size := Nat.le_trans hwr hF5.size) | (at_builtin; refine wpList_append_own_at _ rfl (.tmp 73) (.tmp 78) _ rfl w.heap.size 140 i1 (.agg #[.int .i64 0, .int .i64 0, .string ⟨#[]⟩, .slice none 0 0]) 4 56 Tryd.underlying107 IC.out.1 IC.out.2.1 IC.out.2.2.1 IC.out.2.2.2 rfl (by decide) _ _ _ rfl ((OWN5.out).alloc _) ⟨w5.heap.size, 0, none⟩ 1 1 (ex4 ex x) rfl rfl (cell_four_mk _ _ _ _) (one_four_mk hx5) (by unfold maxLen; omega) (by omega) (by simp; omega) ?_; intro v7 w7 hown7 hg7 hn7 hat7; have b7 : w7.heap[t6]? = some (.cells #[.int .i64 k, .int .i64 0, .string ⟨nm.toArray⟩, .bool sec, .slice A l.length cc, (.slice none 0 0), (.slice none 0 0)] 109 (0, 0)) := (hg7.block t6 (by have := (Array.getElem?_eq_some_iff.1 b5).1; simp; omega) (fun h => HO.out.1 h.symm)).trans ((((Below.refl w5.heap.size w5).alloc (Nat.le_refl _) _).block t6 (Array.getElem?_eq_some_iff.1 b5).1).trans b5); have c7 : w7.cell? ⟨t6, 4, none⟩ = some (.slice A l.length cc) := (cell_of_block b7 4).trans rfl) | fail)
    refine ⟨by first | exact c5 | exact c7 | exact (((Below.refl w5.heap.size w5).alloc (Nat.le_refl _) _).cell (p := ⟨t6, 4, none⟩) (Array.getElem?_eq_some_iff.1 b5).1).trans c5, ?_⟩
    apply trail_heavy
    case hi => (simp only [List.getElem?_toArray, List.getElem?_cons_zero, List.getElem?_cons_succ]; exact rfl)
    go_wp2_with (first | (go_at_call 104; refine (CI.out wr.drew HA.out.at_ ((HV.out.to HA.out.fr).to (PFr.of ((Below.refl _ _).drew)))).mono ?_; rintro e w5 ⟨x, rfl, hx5, h5, hF5'⟩; have hF5 : PFr b wr w5 := (PFr.of ((Below.refl _ _).drew)).trans hF5'; have b5 : w5.heap[t6]? = some (.cells #[.int .i64 k, .int .i64 0, .string ⟨nm.toArray⟩, .bool sec, .slice A l.length cc, (.slice none 0 0), (.slice none 0 0)] 109 (0, 0)) := (hF5.block t6 z8 (by omega)).trans R8.out; have c5 : w5.cell? ⟨t6, 4, none⟩ = some (.slice A l.length cc) := (cell_of_block b5 4).trans rfl; have OWN5 := Lib.hid (kept_ps HV2.out hF5 HO.out.2.1); have lw5 : w.heap.size ≤ w5.heap.size := Nat.le_trans hwr hF5.size) | (at_builtin; refine wpList_append_own_at _ rfl (.tmp 73) (.tmp 78) _ rfl w.heap.size 140 i1 (.agg #[.int .i64 0, .int .i64 0, .string ⟨#[]⟩, .slice none 0 0]) 4 56 Tryd.underlying107 IC.out.1 IC.out.2.1 IC.out.2.2.1 IC.out.2.2.2 rfl (by decide) _ _ _ rfl ((OWN5.out).alloc _) ⟨w5.heap.size, 0, none⟩ 1 1 (ex4 ex x) rfl rfl (cell_four_mk _ _ _ _) (one_four_mk hx5) (by unfold maxLen; omega) (by omega) (by simp; omega) ?_; intro v7 w7 hown7 hg7 hn7 hat7; have b7 : w7.heap[t6]? = some (.cells #[.int .i64 k, .int .i64 0, .string ⟨nm.toArray⟩, .bool sec, .slice A l.length cc, (.slice none 0 0), (.slice none 0 0)] 109 (0, 0)) := (hg7.block t6 (by have := (Array.getElem?_eq_some_iff.1 b5).1; simp; omega) (fun h => HO.out.1 h.symm)).trans ((((Below.refl w5.heap.size w5).alloc (Nat.le_refl _) _).block t6 (Array.getElem?_eq_some_iff.1 b5).1).trans b5); have c7 : w7.cell? ⟨t6, 4, none⟩ = some (.slice A l.length cc) := (cell_of_block b7 4).trans rfl) | fail)
    refine ⟨by first | exact c5 | exact c7 | exact (((Below.refl w5.heap.size w5).alloc (Nat.le_refl _) _).cell (p := ⟨t6, 4, none⟩) (Array.getElem?_eq_some_iff.1 b5).1).trans c5, ?_⟩
    apply trail_heavy
    case hi => (simp only [List.getElem?_toArray, List.getElem?_cons_zero, List.getElem?_cons_succ]; exact rfl)
    go_wp2_with (first | (go_at_call 104; refine (CI.out wr.drew HA.out.at_ ((HV.out.to HA.out.fr).to (PFr.of ((Below.refl _ _).drew)))).mono ?_; rintro e w5 ⟨x, rfl, hx5, h5, hF5'⟩; have hF5 : PFr b wr w5 := (PFr.of ((Below.refl _ _).drew)).trans hF5'; have b5 : w5.heap[t6]? = some (.cells #[.int .i64 k, .int .i64 0, .string ⟨nm.toArray⟩, .bool sec, .slice A l.length cc, (.slice none 0 0), (.slice none 0 0)] 109 (0, 0)) := (hF5.block t6 z8 (by omega)).trans R8.out; have c5 : w5.cell? ⟨t6, 4, none⟩ = some (.slice A l.length cc) := (cell_of_block b5 4).trans rfl; have OWN5 := Lib.hid (kept_ps HV2.out hF5 HO.out.2.1); have lw5 : w.heap.size ≤ w5.heap.size := Nat.le_trans hwr hF5.size) | (at_builtin; refine wpList_append_own_at _ rfl (.tmp 73) (.tmp 78) _ rfl w.heap.size 140 i1 (.agg #[.int .i64 0, .int .i64 0, .string ⟨#[]⟩, .slice none 0 0]) 4 56 Tryd.underlying107 IC.out.1 IC.out.2.1 IC.out.2.2.1 IC.out.2.2.2 rfl (by decide) _ _ _ rfl ((OWN5.out).alloc _) ⟨w5.heap.size, 0, none⟩ 1 1 (ex4 ex x) rfl rfl (cell_four_mk _ _ _ _) (one_four_mk hx5) (by unfold maxLen; omega) (by omega) (by simp; omega) ?_; intro v7 w7 hown7 hg7 hn7 hat7; have b7 : w7.heap[t6]? = some (.cells #[.int .i64 k, .int .i64 0, .string ⟨nm.toArray⟩, .bool sec, .slice A l.length cc, (.slice none 0 0), (.slice none 0 0)] 109 (0, 0)) := (hg7.block t6 (by have := (Array.getElem?_eq_some_iff.1 b5).1; simp; omega) (fun h => HO.out.1 h.symm)).trans ((((Below.refl w5.heap.size w5).alloc (Nat.le_refl _) _).block t6 (Array.getElem?_eq_some_iff.1 b5).1).trans b5); have c7 : w7.cell? ⟨t6, 4, none⟩ = some (.slice A l.length cc) := (cell_of_block b7 4).trans rfl) | fail)
    refine ⟨by first | exact c5 | exact c7 | exact (((Below.refl w5.heap.size w5).alloc (Nat.le_refl _) _).cell (p := ⟨t6, 4, none⟩) (Array.getElem?_eq_some_iff.1 b5).1).trans c5, ?_⟩
    apply trail_light
    case hi => (simp only [List.getElem?_toArray, List.getElem?_cons_zero, List.getElem?_cons_succ]; exact rfl)
    case hl => first | exact light_no (by rfl) | ((first | apply light_plain rfl | apply light_yes (by rfl)); intro w9 hS9; skip; first | (exact exec_load rfl rfl (by first | exact ldi9 | exact ldt9)) | (go_simp; try rfl))
    case hQ => exact fun _ _ _ h => h
    (try simp only [Act.put, List.setIfInBounds_toArray, List.set_cons_zero, List.set_cons_succ])
    refine trail_nil ?_
    refine last_at rfl ?_
    (try dsimp only)
    have hx6 : RExL d w5 (fun k => wr.heap.size ≤ k ∧ k < w5.heap.size) x ex.args := hx5
    have hat8 : v7.ownBlock = (Value.slice A l.length cc).ownBlock ∨ v7.ownBlock = some (w5.heap.size + 1) := hat7.imp id (fun h => by rw [h, World.size_alloc])
    obtain ⟨P1, P2, P3, P4, P5, P6, P7, P8⟩ := ex_push (wr := wr) (w1 := w5) (w3 := w7) (b := b) (lo := w.heap.size) (t8 := t6) (j := 4) (q := q) (q1 := q1') (va := .slice A l.length cc) (va3 := v7) (x := x) (l := l) (e := ex) (K := fun kk => w.heap.size < kk ∧ kk ≠ t6)
      (fun k hk => by omega) (fun h => h.2 rfl) (fun h => by omega) hwr R8.out (by omega) HO.out.1 HO.out.2.1 (by omega) HV1.out HV2.out HV3.out h5 hF5 hx6 hg7 hown7 hat8
    have s7 : (w7.setCell ⟨t6, 4, none⟩ v7).heap.size = w7.heap.size := by simp
    have s5 := hF5.size
    have hfr : PFr b w (w7.setCell ⟨t6, 4, none⟩ v7) := ⟨(hg7.os.trans P2.os).trans HA.out.fr.os, (hg7.tape.trans P2.tape).trans HA.out.fr.tape, (hg7.output.trans P2.output).trans HA.out.fr.output, by rw [s7]; omega, fun k hk hne => (P5 k (by omega) hne (by omega) (fun h => by have := (HV2.out.lt k h).1; omega)).trans (HA.out.fr.block k hk hne)⟩
    have ho4 : v7.ownBlock ≠ some w.heap.size := fun h => by
      rcases hat8 with h1 | h1
      · exact HO.out.2.2 (h1 ▸ h)
      · rw [h1] at h; injection h with h; omega
    have HP : Hid (SAt w (w7.setCell ⟨t6, 4, none⟩ v7) b t6 q1' (csS k 0 nm sec v7 (.slice none 0 0) (.slice none 0 0)) ∧ ExRow (w7.setCell ⟨t6, 4, none⟩ v7) w.heap.size (fun kk => w.heap.size < kk ∧ kk ≠ t6) d v7 (l ++ [ex]) ∧ v7.ownBlock ≠ some t6 ∧ v7.ownBlock ≠ some b ∧ v7.ownBlock ≠ some w.heap.size) := Lib.hid ⟨⟨P1, hfr, (P5 w.heap.size z4 (by omega) (by omega) HO.out.2.2).trans HA.out.r4, P3⟩, P4, P7, P8, ho4⟩
    obtain ⟨A7, d7, hv7, _, _⟩ := SL.form (SL.of_own hown7)
    have f7 : w7.frozen? ⟨t6, 4, none⟩ = false := by
      unfold World.frozen?
      rw [b7]
      simp
    have z77 := (Array.getElem?_eq_some_iff.1 b7).1
    clear P1 P2 P3 P4 P5 P6 P7 P8 hfr ho4 hx5 hx6 hg7 hown7 hat7 hat8 hn7 b7 b5 c5 OWN5 h5 hF5 hF5' s7
    subst hv7
    go_wp2_with fail
    go_roundw
    case rel =>
      refine ⟨l.length + 1, _, l ++ [ex], q1', by omega, by go_num, by simp, Lib.hid HP.out.1, Lib.hid HP.out.2.1, Lib.hid HP.out.2.2, by omega, Lib.hid ?_⟩
      rw [HT.out, HT2.out]
      simp
    case measure => simp [intOf]; omega
  case neg =>
  have hin : i = n := by omega
  have HT2 : Hid (Ev.timesW (Ev.exprW d) (Ev.stArgs k) p4 = (l, q)) := Lib.hid (by
    rw [HN.out, HT.out, show n - i = 0 by omega]
    show (l ++ [], q) = _
    rw [List.append_nil])
  clear HT HN
  subst hin
  obtain ⟨vs, hv1, hv2, hv3⟩ := HR2.out
  obtain ⟨A, cc, rfl, hc1, hc2⟩ := SL.form (SL.of_own hv2)
  have VE := Lib.hid (ExRow.whole (K' := fun kk => kk ≠ t6 ∧ w.heap.size < kk ∧ kk < wr.heap.size) HR2.out (fun k hk hl => ⟨hk.2, hk.1, hl⟩) (fun k h1 h2 h3 => ⟨fun e => HO.out.1 (e ▸ h3), by
    have : k ≠ w.heap.size := fun e => HO.out.2.2 (e ▸ h3)
    omega, h2⟩))
  have hz := hk06
  clear hv1 hv2 hv3 HR2 IC hc1 hc2 hk06 CEX hn3 LS LN LK hlt
  have c0 : wr.cell? ⟨t6, 0, none⟩ = some (.int .i64 k) := HA.out.cell 0
  go_upto_if 84 with fail
  by_cases h4 : k = 4
  case pos =>
    have HX := Lib.hid (Ev.stmt_if (d := d) (p := p) (by rw [HK1.out]; exact h4))
    rw [HK1.out, HP2.out, HSEC.out, HP3.out, HNM.out, HP4.out] at HX
    subst h4
    have HT3 : Hid (Ev.timesW (Ev.exprW d) 1 p4 = (l, q)) := HT2
    rw [HT3.out] at HX
    have HXR := Lib.hid (HR.out.symm.trans HX.out)
    unfold Ev.ifW at HXR
    have L1 := (Ev.is_steps [40] q).1.len
    have CI1 := Lib.hid (fun u hu => is_any q [40] b u hu hql)
    generalize Ev.isW [40] q = qa at *
    have hqa : qa.s.length ≤ 1200 := by omega
    have L2 := (Ev.block_goes (fun x => (Ev.stmt_steps d x).1) qa).len
    have CB1 := Lib.hid (fun u h1 h2 => CST.out qa u h1 hqa h2)
    generalize (Ev.blockW (Ev.stmtW d) qa).1 = lt at *
    generalize (Ev.blockW (Ev.stmtW d) qa).2 = qb at *
    have hqb : qb.s.length ≤ 1200 := by omega
    have L3 := (Ev.is_steps [40] qb).1.len
    have CI2 := Lib.hid (fun u hu => is_any qb [40] b u hu hqb)
    generalize Ev.isW [40] qb = qc at *
    have hqc : qc.s.length ≤ 1200 := by omega
    have L4 := (Ev.block_goes (fun x => (Ev.stmt_steps d x).1) qc).len
    have CB2 := Lib.hid (fun u h1 h2 => CST.out qc u h1 hqc h2)
    generalize (Ev.blockW (Ev.stmtW d) qc).1 = le at *
    generalize (Ev.blockW (Ev.stmtW d) qc).2 = qd at *
    have hqd : qd.s.length ≤ 1200 := by omega
    have CI3 := Lib.hid (fun u hu => is_any qd [41] b u hu hqd)
    generalize Ev.isW [41] qd = qe at *
    clear HX CST HK1 HP2 HSEC HP3 HNM HP4 HR HT2 HT3 L1 L2 L3 L4 h5
    go_upto_region 23 with (go_at_call 46; refine (CI1.out _ HA.out.at_).mono ?_; rintro e wa ⟨rfl, ha, hF⟩; have Ma := Lib.hid (HA.out.move hbl z6 hF ha); have za := Ma.out.lt)
    replace VE := Lib.hid (RExL.keep hF.size (fun kk hk hkl => hF.block kk hkl (by omega)) _ _ _ VE.out)
    have sa := hF.size
    clear HA ha hF c0 z8 CI1
    go_upto_region 24 with (go_at_call 53; refine (CB1.out _ Ma.out.at_ (HV.out.to Ma.out.fr)).mono ?_; rintro e w7 ⟨vt, rfl, hvt, ha, hF⟩; obtain ⟨A3, c3, rfl⟩ := hvt.slice; have M7 := Lib.hid (Ma.out.move hbl z6 hF ha); have c5 : w7.cell? ⟨t6, 5, none⟩ = some (.slice none 0 0) := M7.out.cell 5; have f5 := M7.out.free 5; have z7 := M7.out.lt)
    have M8 : Hid (SAt w (w7.setCell ⟨t6, 5, none⟩ (.slice A3 lt.length c3)) b t6 qb (csS 4 0 nm sec (.slice A l.length cc) (.slice A3 lt.length c3) (.slice none 0 0))) := Lib.hid (M7.out.set hbl z6 5 _)
    have s7 := hF.size
    have s78 : (w7.setCell ⟨t6, 5, none⟩ (.slice A3 lt.length c3)).heap.size = w7.heap.size := by simp
    replace VE := Lib.hid (RExL.keep (w' := w7.setCell ⟨t6, 5, none⟩ (.slice A3 lt.length c3)) (by omega) (fun kk hk hkl => (Below.heap_setCell w7 ⟨t6, 5, none⟩ _ kk (by show kk ≠ t6; exact hk.1)).trans (hF.block kk hkl (by omega))) _ _ _ VE.out)
    have VT := Lib.hid (RStL.wide (K' := fun kk => kk ≠ t6 ∧ w.heap.size < kk ∧ kk < w7.heap.size) (fun kk hk => ⟨by omega, by omega, hk.2⟩) (d + 1) _ _ (RStL.keep (w' := w7.setCell ⟨t6, 5, none⟩ (.slice A3 lt.length c3)) (by omega) (fun k hk hkl => Below.heap_setCell w7 ⟨t6, 5, none⟩ _ k (by show k ≠ t6; omega)) (d + 1) _ _ hvt))
    clear c5 f5 z7 ha hF M7 Ma CB1 hvt za
    have s8 : w7.heap.size ≤ (w7.setCell ⟨t6, 5, none⟩ (.slice A3 lt.length c3)).heap.size := by omega
    clear s78
    generalize w7.setCell ⟨t6, 5, none⟩ (.slice A3 lt.length c3) = w8 at *
    go_upto_region 25 with (go_at_call 46; refine (CI2.out _ M8.out.at_).mono ?_; rintro e wb ⟨rfl, ha, hF⟩; have Mb := Lib.hid (M8.out.move hbl z6 hF ha); have zb := Mb.out.lt)
    replace VE := Lib.hid (RExL.keep hF.size (fun kk hk hkl => hF.block kk hkl (by omega)) _ _ _ VE.out)
    replace VT := Lib.hid (RStL.keep hF.size (fun kk hk hkl => hF.block kk hkl (by omega)) _ _ _ VT.out)
    have sb := hF.size
    clear M8 ha hF CI2
    go_upto_region 26 with (go_at_call 53; refine (CB2.out _ Mb.out.at_ (HV.out.to Mb.out.fr)).mono ?_; rintro e wc ⟨ve, rfl, hve, ha, hF⟩; obtain ⟨A4, c4, rfl⟩ := hve.slice; have M7 := Lib.hid (Mb.out.move hbl z6 hF ha); have c6 : wc.cell? ⟨t6, 6, none⟩ = some (.slice none 0 0) := M7.out.cell 6; have f6 := M7.out.free 6; have z7 := M7.out.lt)
    have M9 : Hid (SAt w (wc.setCell ⟨t6, 6, none⟩ (.slice A4 le.length c4)) b t6 qd (csS 4 0 nm sec (.slice A l.length cc) (.slice A3 lt.length c3) (.slice A4 le.length c4))) := Lib.hid (M7.out.set hbl z6 6 _)
    have sc := hF.size
    have s78 : (wc.setCell ⟨t6, 6, none⟩ (.slice A4 le.length c4)).heap.size = wc.heap.size := by simp
    replace VE := Lib.hid (RExL.keep (w' := wc.setCell ⟨t6, 6, none⟩ (.slice A4 le.length c4)) (by omega) (fun kk hk hkl => (Below.heap_setCell wc ⟨t6, 6, none⟩ _ kk (by show kk ≠ t6; exact hk.1)).trans (hF.block kk hkl (by omega))) _ _ _ VE.out)
    replace VT := Lib.hid (RStL.keep (w' := wc.setCell ⟨t6, 6, none⟩ (.slice A4 le.length c4)) (by omega) (fun kk hk hkl => (Below.heap_setCell wc ⟨t6, 6, none⟩ _ kk (by show kk ≠ t6; exact hk.1)).trans (hF.block kk hkl (by omega))) _ _ _ VT.out)
    have VL := Lib.hid (RStL.wide (K' := fun kk => kk ≠ t6 ∧ w.heap.size < kk ∧ kk < wc.heap.size) (fun kk hk => ⟨by omega, by omega, hk.2⟩) (d + 1) _ _ (RStL.keep (w' := wc.setCell ⟨t6, 6, none⟩ (.slice A4 le.length c4)) (by omega) (fun k hk hkl => Below.heap_setCell wc ⟨t6, 6, none⟩ _ k (by show k ≠ t6; omega)) (d + 1) _ _ hve))
    clear c6 f6 z7 ha hF M7 Mb CB2 hve zb
    have s9 : wc.heap.size ≤ (wc.setCell ⟨t6, 6, none⟩ (.slice A4 le.length c4)).heap.size := by omega
    clear s78
    generalize wc.setCell ⟨t6, 6, none⟩ (.slice A4 le.length c4) = we at *
    go_upto_region 27 with (go_at_call 46; refine (CI3.out _ M9.out.at_).mono ?_; rintro e wf ⟨rfl, ha, hF⟩; have Mf := Lib.hid (M9.out.move hbl z6 hF ha))
    replace VE := Lib.hid (RExL.keep hF.size (fun kk hk hkl => hF.block kk hkl (by omega)) _ _ _ VE.out)
    replace VT := Lib.hid (RStL.keep hF.size (fun kk hk hkl => hF.block kk hkl (by omega)) _ _ _ VT.out)
    replace VL := Lib.hid (RStL.keep hF.size (fun kk hk hkl => hF.block kk hkl (by omega)) _ _ _ VL.out)
    have sf := hF.size
    clear M9 ha hF CI3
    go_wp2_with (first | (refine wpList_load_box rfl 109 _ rfl rfl (load_box Tryd.underlying109 (by kernel_rfl) (by rfl) (by kernel_rfl) (fun j v hj => (cell_of_block Mf.out.r6 j).trans hj) Mf.out.lt (Below.refl _ _)) ?_) | (refine wpList_put_all (cells := csS 4 0 nm sec (.slice A l.length cc) (.slice A3 lt.length c3) (.slice A4 le.length c4)) rfl 109 _ _ rfl rfl rfl Mf.out.r4 rfl (by kernel_rfl) (by simp [csS, Value.oneCell']) ?_; intro w9 hr9 hf9 hz9))
    have hl2 := load_whole Tryd.underlying109 (by kernel_rfl) (by rfl) (by kernel_rfl) hr9
    refine bodyPost_ret (v := .agg (csS 4 0 nm sec (.slice A l.length cc) (.slice A3 lt.length c3) (.slice A4 le.length c4))) (by simp [results, Tryd.results88, Sem.run_bind, asAddr, Act.put, hl2]) rfl ?_
    refine ⟨(.slice A l.length cc, .slice A3 lt.length c3, .slice A4 le.length c4), by rw [HXR.out]; rfl, ?_, ?_, PFr.of_new hf9 Mf.out.fr hbl⟩
    · rw [HXR.out]
      refine ⟨RExL.to9 (d := d + 1) (by omega) ?_, ?_, ?_⟩
      · exact RExL.wide (fun k hk => ⟨by omega, by omega⟩) (d + 1) _ _ (RExL.keep (by omega) (fun k hk hkl => hf9.block k hkl (by omega)) (d + 1) _ _ VE.out)
      · exact RStL.wide (fun k hk => ⟨by omega, by omega⟩) (d + 1) _ _ (RStL.keep (by omega) (fun k hk hkl => hf9.block k hkl (by omega)) (d + 1) _ _ VT.out)
      · exact RStL.wide (fun k hk => ⟨by omega, by omega⟩) (d + 1) _ _ (RStL.keep (by omega) (fun k hk hkl => hf9.block k hkl (by omega)) (d + 1) _ _ VL.out)
    · rw [HXR.out]
      exact (hf9.block b Mf.out.at_.lt (by omega)).trans Mf.out.at_
  case neg =>
  have HX := Lib.hid (Ev.stmt_else (d := d) (p := p) (by rw [HK1.out]; exact h5) (by rw [HK1.out]; exact h4))
  rw [HK1.out, HP2.out, HSEC.out, HP3.out, HNM.out, HP4.out, HT2.out] at HX
  have g4 : (k == 4) = false := beq_eq_false_iff_ne.2 h4
  have HXR := Lib.hid (HR.out.symm.trans HX.out)
  have CI3 := Lib.hid (fun u hu => is_any q [41] b u hu hql)
  dsimp only at HXR
  generalize Ev.isW [41] q = qe at *
  clear HX CST HK1 HP2 HSEC HP3 HNM HP4 HR HT2 h4 h5
  go_upto_region 27 with (go_at_call 46; refine (CI3.out _ HA.out.at_).mono ?_; rintro e wf ⟨rfl, ha, hF⟩; have Mf := Lib.hid (HA.out.move hbl z6 hF ha))
  replace VE := Lib.hid (RExL.keep hF.size (fun kk hk hkl => hF.block kk hkl (by omega)) _ _ _ VE.out)
  have sf := hF.size
  clear HA ha hF CI3 c0 z8
  go_wp2_with (first | (refine wpList_load_box rfl 109 _ rfl rfl (load_box Tryd.underlying109 (by kernel_rfl) (by rfl) (by kernel_rfl) (fun j v hj => (cell_of_block Mf.out.r6 j).trans hj) Mf.out.lt (Below.refl _ _)) ?_) | (refine wpList_put_all (cells := csS k 0 nm sec (.slice A l.length cc) (.slice none 0 0) (.slice none 0 0)) rfl 109 _ _ rfl rfl rfl Mf.out.r4 rfl (by kernel_rfl) (by simp [csS, Value.oneCell']) ?_; intro w9 hr9 hf9 hz9))
  have hl2 := load_whole Tryd.underlying109 (by kernel_rfl) (by rfl) (by kernel_rfl) hr9
  refine bodyPost_ret (v := .agg (csS k 0 nm sec (.slice A l.length cc) (.slice none 0 0) (.slice none 0 0))) (by simp [results, Tryd.results88, Sem.run_bind, asAddr, Act.put, hl2]) rfl ?_
  refine ⟨(.slice A l.length cc, .slice none 0 0, .slice none 0 0), by rw [HXR.out]; rfl, ?_, ?_, PFr.of_new hf9 Mf.out.fr hbl⟩
  · rw [HXR.out]
    refine ⟨RExL.to9 (d := d + 1) (by omega) ?_, RStL.nil_ _ _ _, RStL.nil_ _ _ _⟩
    exact RExL.wide (fun k hk => ⟨by omega, by omega⟩) (d + 1) _ _ (RExL.keep (by omega) (fun k hk hkl => hf9.block k hkl (by omega)) (d + 1) _ _ VE.out)
  · rw [HXR.out]
    exact (hf9.block b Mf.out.at_.lt (by omega)).trans Mf.out.at_
theorem stmt_all : ∀ d, d ≤ 9 → StDoes d
  | 0, _ => stmt_zero
  | d + 1, h => stmt_succ d (by omega) (stmt_all d (by omega))
end Go.Proofs.YtpbflgemhcaooaaDoor
