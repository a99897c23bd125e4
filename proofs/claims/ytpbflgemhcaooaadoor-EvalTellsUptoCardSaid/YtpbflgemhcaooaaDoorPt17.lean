import Derived.Test.YtpbflgemhcaooaaDoorPt16
import Derived.Deep.DeepCutAuto
import Derived.Test.YtpbflgemhcaooaaDoorPt15
/- The document's reader: a text's program. -/
namespace Go.Proofs.YtpbflgemhcaooaaDoor
open Go.RowKit
set_option linter.unusedSimpArgs false
set_option linter.unusedVariables false
/-- what the statements' reader does -/
def StmtsDo (d : Nat) : Prop := ∀ (p : Ev.PS) (b : Nat) (w : World), PAt w b p → p.s.length ≤ 1200 → VarsP b w →
  Calls Tryd.prog 53 #[.pointer (some ⟨b, 0, none⟩), .int .i64 (9 - (d : Int))] w fun e w' => ∃ v, e = .returned v ∧ RStL (d + 1) w' (fun k => w.heap.size ≤ k ∧ k < w'.heap.size) v (Ev.blockW (Ev.stmtW d) p).1 ∧ PAt w' b (Ev.blockW (Ev.stmtW d) p).2 ∧ PFr b w w'
def RPars (w : World) (v : Value) (l : List Ev.Par) : Prop := SL w w.heap.size 3 v l.length (l.flatMap cellsP)
/-- a program in memory -/
def RFn (w : World) (K : Nat → Prop) (v1 v2 v3 : Value) (f : Ev.Fn1) : Prop := RPars w v1 f.params ∧ RPars w v2 f.arrays ∧ RStL 10 w K v3 f.body ∧ inK K v1 ∧ inK K v2
/-- the whole program is there -/
structure GI (B : FB) (u : World) (v1 v2 v3 : Value) (l1 l2 : List Ev.Par) (l3 : List Ev.St1) : Prop where
  fr : Below B.w0.heap.size B.w0 u
  rp : u.heap[B.pb]? = some (.cells #[.pointer (some ⟨B.b, 0, none⟩)] 81 (0, 0))
  rf : u.heap[B.fb]? = some (.cells #[v1, v2, v3] 25 (0, 0))
  r1 : u.ownsRow B.w0.heap.size 35 3 v1 l1.length (l1.flatMap cellsP)
  r2 : u.ownsRow B.w0.heap.size 35 3 v2 l2.length (l2.flatMap cellsP)
  r3 : RStL 10 u (fun k => B.w0.heap.size ≤ k ∧ k ≠ B.b ∧ k ≠ B.w0.heap.size ∧ k < u.heap.size) v3 l3
  a1 : v1.ownBlock ≠ some B.b
  a2 : v2.ownBlock ≠ some B.b
  b1 : v1.ownBlock ≠ some B.w0.heap.size
  b2 : v2.ownBlock ≠ some B.w0.heap.size
theorem GI.move {B : FB} {u u' : World} {v1 v2 v3 : Value} {l1 l2 : List Ev.Par} {l3 : List Ev.St1} (h : GI B u v1 v2 v3 l1 l2 l3) (hF : PFr B.b u u') : GI B u' v1 v2 v3 l1 l2 l3 := by
  have n1 := B.n1
  have n2 := B.n2
  have h1 := B.h1
  have hs := h.fr.size
  have lt : ∀ {k o}, u.heap[k]? = some o → k < u.heap.size := fun h => (Array.getElem?_eq_some_iff.1 h).1
  exact ⟨⟨hF.os.trans h.fr.os, hF.tape.trans h.fr.tape, hF.output.trans h.fr.output, Nat.le_trans hs hF.size, fun k hk => (hF.block k (by omega) (by omega)).trans (h.fr.block k hk)⟩,
    (hF.block _ (lt h.rp) (fun e => n1 e.symm)).trans h.rp, (hF.block _ (lt h.rf) (fun e => n2 e.symm)).trans h.rf, kept_ps h.r1 hF h.a1, kept_ps h.r2 hF h.a2, RStL.wide (fun k hk => ⟨hk.1, hk.2.1, hk.2.2.1, Nat.lt_of_lt_of_le hk.2.2.2 hF.size⟩) 10 _ _ (RStL.keep hF.size (fun k hk hkl => hF.block k hkl hk.2.1) 10 _ _ h.r3), h.a1, h.a2, h.b1, h.b2⟩
theorem cell_eq {w w' : World} {b o : Nat} (h : w'.heap[b]? = w.heap[b]?) : w'.cell? ⟨b, o, none⟩ = w.cell? ⟨b, o, none⟩ := by
  unfold World.cell?
  dsimp only
  rw [h]
/-- what is in slices lies where something lies -/
theorem inK_lt {w : World} {K : Nat → Prop} {v : Value} {n size : Nat} {xs : List Value} (h : SL w w.heap.size size v n xs) (hK : inK K v) (hn : 0 < n) : ∃ a c, v = .slice (some a) n c ∧ K a.block ∧ a.block < w.heap.size := by
  obtain ⟨_, A, c, rfl, _, _, _, h6⟩ := h
  obtain ⟨b, o, rfl, hb, _⟩ := h6 hn
  exact ⟨_, _, rfl, hK _ _ _ rfl, hb⟩
set_option maxRecDepth 8000 in
set_option maxHeartbeats 12800000 in
theorem refParse_any1 (ST : StmtsDo 9) (s : List UInt8) (w : World) (hv : Vars w) (hs : s.length ≤ 9223372036854775807) :
    Calls Tryd.prog 14 #[.string ⟨(s).toArray⟩] w fun e w' => ∃ v1 v2 v3, e = .returned (.tuple #[.agg #[v1, v2, v3], .int .i64 (Ev.parseW s).2]) ∧ RFn w' (fun k => w.heap.size ≤ k ∧ k < w'.heap.size) v1 v2 v3 (Ev.parseW s).1 ∧ Below w.heap.size w w' := by
  have HV := Lib.hid hv
  have HPW := Lib.hid (show Ev.parseW s = if 1200 < s.length then (Ev.noFn, 4) else _ from rfl)
  have gm : ((9223372036854775807 : Int) < (s.length : Int)) = False := eq_false (by omega)
  go_enter Tryd.func14, Tryd.ntmps14
  go_upto_region 1 with fail
  have r2 : Hid ((w.alloc (.cells #[.slice none 0 0, .slice none 0 0, .slice none 0 0] 25)).heap[w.heap.size]? = some (.cells #[.slice none 0 0, .slice none 0 0, .slice none 0 0] 25 (0, 0))) := Lib.hid (heap_alloc_new _ _)
  have bA : Below w.heap.size w (w.alloc (.cells #[.slice none 0 0, .slice none 0 0, .slice none 0 0] 25)) := (Below.refl _ _).alloc (Nat.le_refl _) _
  have sA : (w.alloc (.cells #[.slice none 0 0, .slice none 0 0, .slice none 0 0] 25)).heap.size = w.heap.size + 1 := by simp
  generalize w.alloc (.cells #[.slice none 0 0, .slice none 0 0, .slice none 0 0] 25) = wA at *
  by_cases hm : 1200 < s.length
  case pos => as_aux_lemma =>
    have g1 : decide (1200 < (s.length : Int)) = true := decide_eq_true (by omega)
    have HX := Lib.hid (HPW.out.trans (if_pos hm))
    clear hm HPW
    go_wp2_with (refine wpList_put_all (cells := #[.slice none 0 0, .slice none 0 0, .slice none 0 0]) rfl 25 _ _ rfl rfl rfl r2.out rfl (by kernel_rfl) (by simp [Value.oneCell']) ?_; intro w3 hr3 hf3 hz3)
    have hl2 := load_whole Tryd.underlying25 (by kernel_rfl) (by rfl) (by kernel_rfl) hr3
    refine bodyPost_ret (v := .tuple #[.agg #[.slice none 0 0, .slice none 0 0, .slice none 0 0], .int .i64 4]) (by simp [results, Tryd.results14, Sem.run_bind, asAddr, Act.put, hl2]) rfl ?_
    refine ⟨_, _, _, by rw [HX.out], by rw [HX.out]; exact ⟨SL.nil_ _ _ _, SL.nil_ _ _ _, RStL.nil_ _ _ _, fun a n c e => (by cases e), fun a n c e => (by cases e)⟩, bA.trans ⟨hf3.os, hf3.tape, hf3.output, hf3.size, fun k hk => hf3.block k (by omega) (by omega)⟩⟩
  case neg =>
  have g1 : decide (1200 < (s.length : Int)) = false := decide_eq_false (by omega)
  replace HPW := Lib.hid (HPW.out.trans (if_neg hm))
  go_upto_region 5 with fail
  have bB : Below wA.heap.size wA (((wA.alloc (.cells #[.string ⟨s.toArray⟩, .int .i64 0] 83)).alloc (.cells #[.pointer (some ⟨w.heap.size + 1, 0, none⟩)] 81)).alloc (.cells #[.slice none 0 0, .slice none 0 0, .slice none 0 0] 25)) := ((((Below.refl _ _).alloc (Nat.le_refl _) _).alloc (by simp) _).alloc (by simp; omega) _)
  have e1 : (((wA.alloc (.cells #[.string ⟨s.toArray⟩, .int .i64 0] 83)).alloc (.cells #[.pointer (some ⟨w.heap.size + 1, 0, none⟩)] 81)).alloc (.cells #[.slice none 0 0, .slice none 0 0, .slice none 0 0] 25)).heap[w.heap.size + 1]? = some (.cells (psCells ⟨s, 0⟩) 83 (0, 0)) := by
    rw [heap_alloc_old _ _ (by simp; omega), heap_alloc_old _ _ (by simp; omega), ← sA]
    exact heap_alloc_new _ _
  have e2 : (((wA.alloc (.cells #[.string ⟨s.toArray⟩, .int .i64 0] 83)).alloc (.cells #[.pointer (some ⟨w.heap.size + 1, 0, none⟩)] 81)).alloc (.cells #[.slice none 0 0, .slice none 0 0, .slice none 0 0] 25)).heap[w.heap.size + 1 + 1]? = some (.cells #[.pointer (some ⟨w.heap.size + 1, 0, none⟩)] 81 (0, 0)) := by
    rw [heap_alloc_old _ _ (by simp; omega)]
    have h := heap_alloc_new (wA.alloc (.cells #[.string ⟨s.toArray⟩, .int .i64 0] 83)) (.cells #[.pointer (some ⟨w.heap.size + 1, 0, none⟩)] 81)
    rw [World.size_alloc, sA] at h
    exact h
  have e3 : (((wA.alloc (.cells #[.string ⟨s.toArray⟩, .int .i64 0] 83)).alloc (.cells #[.pointer (some ⟨w.heap.size + 1, 0, none⟩)] 81)).alloc (.cells #[.slice none 0 0, .slice none 0 0, .slice none 0 0] 25)).heap[w.heap.size + 1 + 1 + 1]? = some (.cells #[.slice none 0 0, .slice none 0 0, .slice none 0 0] 25 (0, 0)) := by
    have h := heap_alloc_new ((wA.alloc (.cells #[.string ⟨s.toArray⟩, .int .i64 0] 83)).alloc (.cells #[.pointer (some ⟨w.heap.size + 1, 0, none⟩)] 81)) (.cells #[.slice none 0 0, .slice none 0 0, .slice none 0 0] 25)
    rw [World.size_alloc, World.size_alloc, sA] at h
    exact h
  replace r2 := Lib.hid ((bB.block w.heap.size (by omega)).trans r2.out)
  have b0 : Below w.heap.size w (((wA.alloc (.cells #[.string ⟨s.toArray⟩, .int .i64 0] 83)).alloc (.cells #[.pointer (some ⟨w.heap.size + 1, 0, none⟩)] 81)).alloc (.cells #[.slice none 0 0, .slice none 0 0, .slice none 0 0] 25)) := bA.trans (bB.mono (by omega))
  generalize (((wA.alloc (.cells #[.string ⟨s.toArray⟩, .int .i64 0] 83)).alloc (.cells #[.pointer (some ⟨w.heap.size + 1, 0, none⟩)] 81)).alloc (.cells #[.slice none 0 0, .slice none 0 0, .slice none 0 0] 25)) = u0 at *
  clear bA bB sA
  obtain ⟨B, rfl, hb, hpb, hfb⟩ : ∃ B : FB, B.w0 = w ∧ B.b = w.heap.size + 1 ∧ B.pb = w.heap.size + 1 + 1 ∧ B.fb = w.heap.size + 1 + 1 + 1 := ⟨⟨w, w.heap.size + 1, w.heap.size + 1 + 1, w.heap.size + 1 + 1 + 1, by omega, by omega, by omega, by omega, by omega, by omega⟩, rfl, rfl, rfl, rfl⟩
  rw [← hb] at e1
  rw [← hpb, ← hb] at e2
  rw [← hfb] at e3
  have n1 := B.n1
  have n2 := B.n2
  have n3 := B.n3
  have hbw : B.w0.heap.size ≠ B.b := by omega
  have hfw : B.w0.heap.size ≠ B.fb := by omega
  have I0 : Hid (FI B u0 (.slice none 0 0) (.slice none 0 0) [] []) := Lib.hid ⟨b0, e2, e3, ⟨rfl, .inl ⟨rfl, rfl⟩⟩, ⟨rfl, .inl ⟨rfl, rfl⟩⟩, r2.out, ⟨fun h => (by simp [Value.ownBlock] at h), fun h => (by simp [Value.ownBlock] at h), fun h => (by simp [Value.ownBlock] at h), fun h => (by simp [Value.ownBlock] at h)⟩, ⟨fun h => (by simp [Value.ownBlock] at h), fun h => (by simp [Value.ownBlock] at h), fun h => (by simp [Value.ownBlock] at h), fun h => (by simp [Value.ownBlock] at h)⟩, fun k h => (by simp [Value.ownBlock] at h)⟩
  have A0 : Hid (PAt u0 B.b ⟨s, 0⟩) := Lib.hid e1
  rw [← hfb, ← hpb, ← hb]
  clear e1 e2 e3 b0 hpb hfb hb
  have hmf : ∀ (fn : Fn) (first cap : Array Value) (u : World), (Instr.makeFunc fn first cap).run Tryd.prog u = .ok (.func fn first cap) u := fun _ _ _ _ => rfl
  -- the reader's states, one by one
  have HRES : Hid (Ev.parseW s = (let p0 := Ev.isW [40] (Ev.isW [102, 110] (Ev.isW [40] ⟨s, 0⟩))
    let ps := Ev.allW Ev.parW (p0.s.length + 1) p0
    let p1 := Ev.isW [40] ps.2
    let ay := Ev.allW Ev.arrW (p1.s.length + 1) p1
    let b := Ev.blockW (Ev.stmtW 9) ay.2
    let p2 := if b.2.err = 0 ∧ Ev.peekW b.2.s ≠ [] then b.2.bad 2 else b.2
    if p2.err ≠ 0 then (Ev.noFn, p2.err) else (⟨ps.1, ay.1, b.1⟩, 0))) := Lib.hid (HPW.out.trans rfl)
  dsimp only at HRES
  have L1 := (Ev.is_steps [40] ⟨s, 0⟩).1.len
  have LL : (⟨s, 0⟩ : Ev.PS).s.length ≤ 1200 := by show s.length ≤ 1200; omega
  have C1 := Lib.hid (fun u h => is_any ⟨s, 0⟩ [40] B.b u h LL)
  generalize Ev.isW [40] ⟨s, 0⟩ = q1 at *
  have L2 := (Ev.is_steps [102, 110] q1).1.len
  have C2 := Lib.hid (fun u h => is_any q1 [102, 110] B.b u h (by omega))
  generalize Ev.isW [102, 110] q1 = q2 at *
  have L3 := (Ev.is_steps [40] q2).1.len
  have C3 := Lib.hid (fun u h => is_any q2 [40] B.b u h (by omega))
  generalize Ev.isW [40] q2 = q3 at *
  have L4 := (Ev.all_goes (fun p => (Ev.par_steps p).1) (q3.s.length + 1) q3).len
  have C4 := Lib.hid (fun u h1 h2 => all_params B u q3 (.slice none 0 0) [] h1 h2 (by omega) HV.out)
  generalize (Ev.allW Ev.parW (q3.s.length + 1) q3).1 = lp at *
  generalize (Ev.allW Ev.parW (q3.s.length + 1) q3).2 = q4 at *
  have L5 := (Ev.is_steps [40] q4).1.len
  have C5 := Lib.hid (fun u h => is_any q4 [40] B.b u h (by omega))
  generalize Ev.isW [40] q4 = q5 at *
  have L6 := (Ev.all_goes (fun p => (Ev.arr_steps p).1) (q5.s.length + 1) q5).len
  have C6 := Lib.hid (fun u v1 h1 h2 => all_arrs B u q5 v1 lp h1 h2 (by omega) HV.out)
  generalize (Ev.allW Ev.arrW (q5.s.length + 1) q5).1 = la at *
  generalize (Ev.allW Ev.arrW (q5.s.length + 1) q5).2 = q6 at *
  have L7 := (Ev.block_goes (fun p => (Ev.stmt_steps 9 p).1) q6).len
  have C7 : Hid (∀ u, PAt u B.b q6 → VarsP B.b u → Calls Tryd.prog 53 #[.pointer (some ⟨B.b, 0, none⟩), .int .i64 0] u fun e w' => ∃ v, e = .returned v ∧ RStL 10 w' (fun k => u.heap.size ≤ k ∧ k < w'.heap.size) v (Ev.blockW (Ev.stmtW 9) q6).1 ∧ PAt w' B.b (Ev.blockW (Ev.stmtW 9) q6).2 ∧ PFr B.b u w') := Lib.hid (fun u h hv => ST q6 B.b u h (by omega) hv)
  generalize (Ev.blockW (Ev.stmtW 9) q6).1 = lb at *
  generalize (Ev.blockW (Ev.stmtW 9) q6).2 = q7 at *
  clear HPW hm
  have cp : u0.cell? ⟨B.pb, 0, none⟩ = some (.pointer (some ⟨B.b, 0, none⟩)) := (cell_of_block I0.out.rp 0).trans rfl
  have zp := (Array.getElem?_eq_some_iff.1 I0.out.rp).1
  go_upto_region 6 with (go_at_call 46; refine (C1.out _ A0.out).mono ?_; rintro e wu1 ⟨rfl, ha, hF⟩)
  have I1 := Lib.hid (I0.out.move hF)
  have A1 := Lib.hid ha
  clear cp zp ha hF I0 A0 C1
  have cp : wu1.cell? ⟨B.pb, 0, none⟩ = some (.pointer (some ⟨B.b, 0, none⟩)) := (cell_of_block I1.out.rp 0).trans rfl
  have zp := (Array.getElem?_eq_some_iff.1 I1.out.rp).1
  go_upto_region 7 with (go_at_call 46; refine (C2.out _ A1.out).mono ?_; rintro e wu2 ⟨rfl, ha, hF⟩)
  have I2 := Lib.hid (I1.out.move hF)
  have A2 := Lib.hid ha
  clear cp zp ha hF I1 A1 C2
  have cp : wu2.cell? ⟨B.pb, 0, none⟩ = some (.pointer (some ⟨B.b, 0, none⟩)) := (cell_of_block I2.out.rp 0).trans rfl
  have zp := (Array.getElem?_eq_some_iff.1 I2.out.rp).1
  go_upto_region 8 with (go_at_call 46; refine (C3.out _ A2.out).mono ?_; rintro e wu3 ⟨rfl, ha, hF⟩)
  have I3 := Lib.hid (I2.out.move hF)
  have A3 := Lib.hid ha
  clear cp zp ha hF I2 A2 C3
  have cp : wu3.cell? ⟨B.pb, 0, none⟩ = some (.pointer (some ⟨B.b, 0, none⟩)) := (cell_of_block I3.out.rp 0).trans rfl
  have zp := (Array.getElem?_eq_some_iff.1 I3.out.rp).1
  go_upto_region 9 with (go_at_call 47; refine (C4.out _ I3.out A3.out).mono ?_; rintro e wu4 ⟨rfl, ⟨v4, hI⟩, ha⟩)
  have I4 := Lib.hid hI
  have A4 := Lib.hid ha
  clear cp zp ha hI I3 A3 C4
  have cp : wu4.cell? ⟨B.pb, 0, none⟩ = some (.pointer (some ⟨B.b, 0, none⟩)) := (cell_of_block I4.out.rp 0).trans rfl
  have zp := (Array.getElem?_eq_some_iff.1 I4.out.rp).1
  go_upto_region 10 with (go_at_call 46; refine (C5.out _ A4.out).mono ?_; rintro e wu5 ⟨rfl, ha, hF⟩)
  have I5 := Lib.hid (I4.out.move hF)
  have A5 := Lib.hid ha
  clear cp zp ha hF I4 A4 C5
  have cp : wu5.cell? ⟨B.pb, 0, none⟩ = some (.pointer (some ⟨B.b, 0, none⟩)) := (cell_of_block I5.out.rp 0).trans rfl
  have zp := (Array.getElem?_eq_some_iff.1 I5.out.rp).1
  go_upto_region 11 with (go_at_call 47; refine (C6.out _ _ I5.out A5.out).mono ?_; rintro e wu6 ⟨rfl, ⟨v6, hI⟩, ha⟩)
  have I6 := Lib.hid hI
  have A6 := Lib.hid ha
  clear cp zp ha hI I5 A5 C6
  have cp : wu6.cell? ⟨B.pb, 0, none⟩ = some (.pointer (some ⟨B.b, 0, none⟩)) := (cell_of_block I6.out.rp 0).trans rfl
  have zp := (Array.getElem?_eq_some_iff.1 I6.out.rp).1
  have zf6 := (Array.getElem?_eq_some_iff.1 I6.out.rf).1
  have zb6 := A6.out.lt
  have z06 := I6.out.fr.size
  go_upto_region 12 with (go_at_call 53; refine (C7.out _ A6.out (I6.out.vars HV.out)).mono ?_; rintro e wu7 ⟨v3, rfl, hv3, ha, hF⟩; obtain ⟨A3, c3, rfl⟩ := hv3.slice; have I7 := Lib.hid (I6.out.move hF); have cf : wu7.cell? ⟨B.fb, 2, none⟩ = some (.slice none 0 0) := (cell_of_block I7.out.rf 2).trans rfl; have ff : wu7.frozen? ⟨B.fb, 2, none⟩ = false := free_box I7.out.rf; have zf := (Array.getElem?_eq_some_iff.1 I7.out.rf).1)
  have G8 : Hid (GI B (wu7.setCell ⟨B.fb, 2, none⟩ (.slice A3 lb.length c3)) v4 v6 (.slice A3 lb.length c3) lp la lb) := Lib.hid (by
    have i7 := I7.out
    have h3 := B.h3
    have h1 := B.h1
    have h2 := B.h2
    refine ⟨i7.fr.setCell (Nat.le_of_lt h3) _, (Below.heap_setCell wu7 ⟨B.fb, 2, none⟩ _ B.pb n3).trans i7.rp, heap_setCell_same wu7 B.fb 2 _ _ _ i7.rf, ownsRow_setCell_other i7.r1 i7.a1.2.2.1 _, ownsRow_setCell_other i7.r2 i7.a2.2.2.1 _, ?_, i7.a1.1, i7.a2.1, i7.a1.2.2.2, i7.a2.2.2.2⟩
    exact RStL.wide (fun k hk => ⟨by omega, by omega, by omega, by simpa using hk.2⟩) 10 _ _ (RStL.keep (by simp) (fun k hk hkl => Below.heap_setCell wu7 ⟨B.fb, 2, none⟩ _ k (by show k ≠ B.fb; omega)) 10 _ _ hv3))
  have A8 := Lib.hid (ha.aside (k := B.fb) n2 2 (.slice A3 lb.length c3))
  have R8 : Hid ((wu7.setCell ⟨B.fb, 2, none⟩ (.slice A3 lb.length c3)).heap[B.w0.heap.size]? = some (.cells #[.slice none 0 0, .slice none 0 0, .slice none 0 0] 25 (0, 0))) := Lib.hid ((Below.heap_setCell wu7 ⟨B.fb, 2, none⟩ _ _ (by show B.w0.heap.size ≠ B.fb; have := B.h3; omega)).trans I7.out.r0)
  clear cp zp cf ff zf ha hF hv3 I7 I6 A6 C7 zf6 zb6 z06
  generalize wu7.setCell ⟨B.fb, 2, none⟩ (.slice A3 lb.length c3) = wu8 at *
  have cp : wu8.cell? ⟨B.pb, 0, none⟩ = some (.pointer (some ⟨B.b, 0, none⟩)) := (cell_of_block G8.out.rp 0).trans rfl
  have zp := (Array.getElem?_eq_some_iff.1 G8.out.rp).1
  have ce : wu8.cell? ⟨B.b, 1, none⟩ = some (.int .i64 q7.err) := A8.out.c1
  have zb := A8.out.lt
  by_cases he : q7.err = 0
  case neg => as_aux_lemma =>
    have HX : Hid (Ev.parseW s = (Ev.noFn, q7.err)) := Lib.hid (by
      have hp : (if q7.err = 0 ∧ Ev.peekW q7.s ≠ [] then q7.bad 2 else q7) = q7 := if_neg (fun h => he h.1)
      rw [HRES.out, hp, if_pos he])
    have g0 : (q7.err == 0) = false := beq_eq_false_iff_ne.2 he
    have g1 : (q7.err != 0) = true := bne_iff_ne.2 he
    clear HRES he
    have R0 := R8
    go_upto_region 15 with fail
    refine wp_region_branch (fun w' => w'.cell? ⟨B.pb, 0, none⟩ = some (.pointer (some ⟨B.b, 0, none⟩)) ∧ w'.cell? ⟨B.b, 1, none⟩ = some (.int .i64 (q7.err))) (.light 0 (.light 1 (.light 2 (.light 3 (.light 4 (.any [5] fun _ => .light 6 .nil)))))) (by kernel_rfl) (by kernel_rfl) (by kernel_rfl) (by kernel_rfl) ⟨cp, ce⟩ ?_
    have R0d : Hid (wu8.drew.heap[B.w0.heap.size]? = some (.cells #[.slice none 0 0, .slice none 0 0, .slice none 0 0] 25 (0, 0))) := Lib.hid R0.out
    have Fd : Hid (Below B.w0.heap.size B.w0 wu8.drew) := Lib.hid G8.out.fr.drew
    have cpd : wu8.drew.cell? ⟨B.pb, 0, none⟩ = some (.pointer (some ⟨B.b, 0, none⟩)) := cp
    have ced : wu8.drew.cell? ⟨B.b, 1, none⟩ = some (.int .i64 (q7.err)) := ce
    have zpd : B.pb < wu8.drew.heap.size := zp
    have zbd : B.b < wu8.drew.heap.size := zb
    clear cp ce zp zb
    generalize wu8.drew = wD at *
    apply branch_light
    case hi => (simp only [List.getElem?_toArray, List.getElem?_cons_zero, List.getElem?_cons_succ]; exact rfl)
    case hl => first | exact light_no (by rfl) | ((first | apply light_plain rfl | apply light_yes (by rfl)); intro w9 hS9; obtain ⟨h91, h92⟩ := hS9; first | (go_simp; done) | (go_simp; try rfl))
    case hQ => exact fun _ _ _ h => h
    (try simp only [Act.put, List.setIfInBounds_toArray, List.set_cons_zero, List.set_cons_succ])
    apply branch_light
    case hi => (simp only [List.getElem?_toArray, List.getElem?_cons_zero, List.getElem?_cons_succ]; exact rfl)
    case hl => first | exact light_no (by rfl) | ((first | apply light_plain rfl | apply light_yes (by rfl)); intro w9 hS9; obtain ⟨h91, h92⟩ := hS9; first | (go_simp; done) | (go_simp; try rfl))
    case hQ => exact fun _ _ _ h => h
    (try simp only [Act.put, List.setIfInBounds_toArray, List.set_cons_zero, List.set_cons_succ])
    apply branch_light
    case hi => (simp only [List.getElem?_toArray, List.getElem?_cons_zero, List.getElem?_cons_succ]; exact rfl)
    case hl => first | exact light_no (by rfl) | ((first | apply light_plain rfl | apply light_yes (by rfl)); intro w9 hS9; obtain ⟨h91, h92⟩ := hS9; first | (go_simp; done) | (go_simp; try rfl))
    case hQ => exact fun _ _ _ h => h
    (try simp only [Act.put, List.setIfInBounds_toArray, List.set_cons_zero, List.set_cons_succ])
    apply branch_light
    case hi => (simp only [List.getElem?_toArray, List.getElem?_cons_zero, List.getElem?_cons_succ]; exact rfl)
    case hl => first | exact light_no (by rfl) | ((first | apply light_plain rfl | apply light_yes (by rfl)); intro w9 hS9; obtain ⟨h91, h92⟩ := hS9; first | (go_simp; done) | (go_simp; try rfl))
    case hQ => exact fun _ _ _ h => h
    (try simp only [Act.put, List.setIfInBounds_toArray, List.set_cons_zero, List.set_cons_succ])
    apply branch_light
    case hi => (simp only [List.getElem?_toArray, List.getElem?_cons_zero, List.getElem?_cons_succ]; exact rfl)
    case hl => first | exact light_no (by rfl) | ((first | apply light_plain rfl | apply light_yes (by rfl)); intro w9 hS9; obtain ⟨h91, h92⟩ := hS9; first | (go_simp; done) | (go_simp; try rfl))
    case hQ => exact fun _ _ _ h => h
    (try simp only [Act.put, List.setIfInBounds_toArray, List.set_cons_zero, List.set_cons_succ])
    apply branch_one
    case hi => (simp only [List.getElem?_toArray, List.getElem?_cons_zero, List.getElem?_cons_succ]; exact rfl)
    case h =>
    go_wp2_with (refine wpList_put_all (cells := #[.slice none 0 0, .slice none 0 0, .slice none 0 0]) rfl 25 (.tmp 2) (.tmp 48) rfl rfl rfl R0d.out rfl (by kernel_rfl) (by simp [Value.oneCell']) ?_; intro w3 hr3 hf3 hz3)
    refine ⟨⟨(cell_eq (hf3.block B.pb zpd (by have := B.h2; omega))).trans cpd, (cell_eq (hf3.block B.b zbd (by have := B.h1; omega))).trans ced⟩, ?_⟩
    (try simp only [Act.put, List.setIfInBounds_toArray, List.set_cons_zero, List.set_cons_succ])
    apply branch_light
    case hi => (simp only [List.getElem?_toArray, List.getElem?_cons_zero, List.getElem?_cons_succ]; exact rfl)
    case hl => first | exact light_no (by rfl) | ((first | apply light_plain rfl | apply light_yes (by rfl)); intro w9 hS9; obtain ⟨h91, h92⟩ := hS9; first | (go_simp; done) | (go_simp; try rfl))
    case hQ => exact fun _ _ _ h => h
    (try simp only [Act.put, List.setIfInBounds_toArray, List.set_cons_zero, List.set_cons_succ])
    refine branch_nil ?_
    go_wp2_with fail
    have hl2 := load_whole Tryd.underlying25 (by kernel_rfl) (by rfl) (by kernel_rfl) hr3
    refine bodyPost_ret (v := .tuple #[.agg #[.slice none 0 0, .slice none 0 0, .slice none 0 0], .int .i64 (q7.err)]) (by simp [results, Tryd.results14, Sem.run_bind, asAddr, Act.put, hl2]) rfl ?_
    exact ⟨_, _, _, by rw [HX.out], by rw [HX.out]; exact ⟨SL.nil_ _ _ _, SL.nil_ _ _ _, RStL.nil_ _ _ _, fun a n c e => (by cases e), fun a n c e => (by cases e)⟩, Fd.out.trans ⟨hf3.os, hf3.tape, hf3.output, hf3.size, fun k hk => hf3.block k (by have := Fd.out.size; omega) (by omega)⟩⟩
  case pos =>
  have g0 : (q7.err == 0) = true := beq_iff_eq.2 he
  have CP := Lib.hid (peek_any q7 B.b wu8 A8.out (by omega))
  obtain ⟨v, hv⟩ : ∃ v, Ev.peekW q7.s = v := ⟨_, rfl⟩
  rw [hv] at CP
  have HVV := Lib.hid hv
  clear hv
  by_cases hvn : v = []
  case neg => as_aux_lemma =>
    have HX : Hid (Ev.parseW s = (Ev.noFn, 2)) := Lib.hid (by
      have hp : (if q7.err = 0 ∧ Ev.peekW q7.s ≠ [] then q7.bad 2 else q7) = ⟨q7.s, 2⟩ := by
        rw [if_pos ⟨he, by rw [HVV.out]; exact hvn⟩]
        exact if_pos he
      rw [HRES.out, hp]
      exact if_pos (by show (2 : Int) ≠ 0; decide))
    have HB2 := Lib.hid (show q7.skip.bad 2 = ⟨q7.skip.s, 2⟩ from if_pos he)
    have gv : (v != []) = true := bne_iff_ne.2 hvn
    have gv2 : (v == []) = false := beq_eq_false_iff_ne.2 hvn
    clear HRES he HVV hvn
    go_upto_region 13 with (go_at_call 54; refine CP.out.mono ?_; rintro e wu9 ⟨rfl, ha, hF⟩)
    have G9 := Lib.hid (G8.out.move hF)
    have R9 := Lib.hid ((hF.block _ (Array.getElem?_eq_some_iff.1 R8.out).1 hbw).trans R8.out)
    have A9 := Lib.hid ha
    clear cp zp ce zb ha hF G8 R8 A8 CP gv gv2
    have cp : wu9.cell? ⟨B.pb, 0, none⟩ = some (.pointer (some ⟨B.b, 0, none⟩)) := (cell_of_block G9.out.rp 0).trans rfl
    have zp := (Array.getElem?_eq_some_iff.1 G9.out.rp).1
    go_upto_region 14 with (go_at_call 55; refine (bad_any q7.skip B.b 2 _ A9.out).mono ?_; rintro e wu10 ⟨rfl, ha, hF⟩)
    rw [HB2.out] at ha
    have G10 := Lib.hid (G9.out.move hF)
    have R0 := Lib.hid ((hF.block _ (Array.getElem?_eq_some_iff.1 R9.out).1 hbw).trans R9.out)
    have A10 := Lib.hid ha
    clear cp zp ha hF G9 R9 A9
    have cp : wu10.cell? ⟨B.pb, 0, none⟩ = some (.pointer (some ⟨B.b, 0, none⟩)) := (cell_of_block G10.out.rp 0).trans rfl
    have zp := (Array.getElem?_eq_some_iff.1 G10.out.rp).1
    have ce : wu10.cell? ⟨B.b, 1, none⟩ = some (.int .i64 2) := A10.out.c1
    have zb := A10.out.lt
    go_upto_region 15 with fail
    refine wp_region_branch (fun w' => w'.cell? ⟨B.pb, 0, none⟩ = some (.pointer (some ⟨B.b, 0, none⟩)) ∧ w'.cell? ⟨B.b, 1, none⟩ = some (.int .i64 (2))) (.light 0 (.light 1 (.light 2 (.light 3 (.light 4 (.any [5] fun _ => .light 6 .nil)))))) (by kernel_rfl) (by kernel_rfl) (by kernel_rfl) (by kernel_rfl) ⟨cp, ce⟩ ?_
    have R0d : Hid (wu10.drew.heap[B.w0.heap.size]? = some (.cells #[.slice none 0 0, .slice none 0 0, .slice none 0 0] 25 (0, 0))) := Lib.hid R0.out
    have Fd : Hid (Below B.w0.heap.size B.w0 wu10.drew) := Lib.hid G10.out.fr.drew
    have cpd : wu10.drew.cell? ⟨B.pb, 0, none⟩ = some (.pointer (some ⟨B.b, 0, none⟩)) := cp
    have ced : wu10.drew.cell? ⟨B.b, 1, none⟩ = some (.int .i64 (2)) := ce
    have zpd : B.pb < wu10.drew.heap.size := zp
    have zbd : B.b < wu10.drew.heap.size := zb
    clear cp ce zp zb
    generalize wu10.drew = wD at *
    apply branch_light
    case hi => (simp only [List.getElem?_toArray, List.getElem?_cons_zero, List.getElem?_cons_succ]; exact rfl)
    case hl => first | exact light_no (by rfl) | ((first | apply light_plain rfl | apply light_yes (by rfl)); intro w9 hS9; obtain ⟨h91, h92⟩ := hS9; first | (go_simp; done) | (go_simp; try rfl))
    case hQ => exact fun _ _ _ h => h
    (try simp only [Act.put, List.setIfInBounds_toArray, List.set_cons_zero, List.set_cons_succ])
    apply branch_light
    case hi => (simp only [List.getElem?_toArray, List.getElem?_cons_zero, List.getElem?_cons_succ]; exact rfl)
    case hl => first | exact light_no (by rfl) | ((first | apply light_plain rfl | apply light_yes (by rfl)); intro w9 hS9; obtain ⟨h91, h92⟩ := hS9; first | (go_simp; done) | (go_simp; try rfl))
    case hQ => exact fun _ _ _ h => h
    (try simp only [Act.put, List.setIfInBounds_toArray, List.set_cons_zero, List.set_cons_succ])
    apply branch_light
    case hi => (simp only [List.getElem?_toArray, List.getElem?_cons_zero, List.getElem?_cons_succ]; exact rfl)
    case hl => first | exact light_no (by rfl) | ((first | apply light_plain rfl | apply light_yes (by rfl)); intro w9 hS9; obtain ⟨h91, h92⟩ := hS9; first | (go_simp; done) | (go_simp; try rfl))
    case hQ => exact fun _ _ _ h => h
    (try simp only [Act.put, List.setIfInBounds_toArray, List.set_cons_zero, List.set_cons_succ])
    apply branch_light
    case hi => (simp only [List.getElem?_toArray, List.getElem?_cons_zero, List.getElem?_cons_succ]; exact rfl)
    case hl => first | exact light_no (by rfl) | ((first | apply light_plain rfl | apply light_yes (by rfl)); intro w9 hS9; obtain ⟨h91, h92⟩ := hS9; first | (go_simp; done) | (go_simp; try rfl))
    case hQ => exact fun _ _ _ h => h
    (try simp only [Act.put, List.setIfInBounds_toArray, List.set_cons_zero, List.set_cons_succ])
    apply branch_light
    case hi => (simp only [List.getElem?_toArray, List.getElem?_cons_zero, List.getElem?_cons_succ]; exact rfl)
    case hl => first | exact light_no (by rfl) | ((first | apply light_plain rfl | apply light_yes (by rfl)); intro w9 hS9; obtain ⟨h91, h92⟩ := hS9; first | (go_simp; done) | (go_simp; try rfl))
    case hQ => exact fun _ _ _ h => h
    (try simp only [Act.put, List.setIfInBounds_toArray, List.set_cons_zero, List.set_cons_succ])
    apply branch_one
    case hi => (simp only [List.getElem?_toArray, List.getElem?_cons_zero, List.getElem?_cons_succ]; exact rfl)
    case h =>
    go_wp2_with (refine wpList_put_all (cells := #[.slice none 0 0, .slice none 0 0, .slice none 0 0]) rfl 25 (.tmp 2) (.tmp 48) rfl rfl rfl R0d.out rfl (by kernel_rfl) (by simp [Value.oneCell']) ?_; intro w3 hr3 hf3 hz3)
    refine ⟨⟨(cell_eq (hf3.block B.pb zpd (by have := B.h2; omega))).trans cpd, (cell_eq (hf3.block B.b zbd (by have := B.h1; omega))).trans ced⟩, ?_⟩
    (try simp only [Act.put, List.setIfInBounds_toArray, List.set_cons_zero, List.set_cons_succ])
    apply branch_light
    case hi => (simp only [List.getElem?_toArray, List.getElem?_cons_zero, List.getElem?_cons_succ]; exact rfl)
    case hl => first | exact light_no (by rfl) | ((first | apply light_plain rfl | apply light_yes (by rfl)); intro w9 hS9; obtain ⟨h91, h92⟩ := hS9; first | (go_simp; done) | (go_simp; try rfl))
    case hQ => exact fun _ _ _ h => h
    (try simp only [Act.put, List.setIfInBounds_toArray, List.set_cons_zero, List.set_cons_succ])
    refine branch_nil ?_
    go_wp2_with fail
    have hl2 := load_whole Tryd.underlying25 (by kernel_rfl) (by rfl) (by kernel_rfl) hr3
    refine bodyPost_ret (v := .tuple #[.agg #[.slice none 0 0, .slice none 0 0, .slice none 0 0], .int .i64 (2)]) (by simp [results, Tryd.results14, Sem.run_bind, asAddr, Act.put, hl2]) rfl ?_
    exact ⟨_, _, _, by rw [HX.out], by rw [HX.out]; exact ⟨SL.nil_ _ _ _, SL.nil_ _ _ _, RStL.nil_ _ _ _, fun a n c e => (by cases e), fun a n c e => (by cases e)⟩, Fd.out.trans ⟨hf3.os, hf3.tape, hf3.output, hf3.size, fun k hk => hf3.block k (by have := Fd.out.size; omega) (by omega)⟩⟩
  case pos => as_aux_lemma =>
    subst hvn
    have HX : Hid (Ev.parseW s = (⟨lp, la, lb⟩, 0)) := Lib.hid (by
      have hp : (if q7.err = 0 ∧ Ev.peekW q7.s ≠ [] then q7.bad 2 else q7) = q7 := if_neg (fun h => h.2 HVV.out)
      rw [HRES.out, hp, if_neg (fun h => h he)])
    have HE0 := Lib.hid he
    clear HRES he HVV
    go_upto_region 14 with (go_at_call 54; refine CP.out.mono ?_; rintro e wu9 ⟨rfl, ha, hF⟩)
    have G9 := Lib.hid (G8.out.move hF)
    have R9 := Lib.hid ((hF.block _ (Array.getElem?_eq_some_iff.1 R8.out).1 hbw).trans R8.out)
    have A9 := Lib.hid ha
    clear cp zp ce zb ha hF G8 R8 A8 CP
    have cp : wu9.cell? ⟨B.pb, 0, none⟩ = some (.pointer (some ⟨B.b, 0, none⟩)) := (cell_of_block G9.out.rp 0).trans rfl
    have zp := (Array.getElem?_eq_some_iff.1 G9.out.rp).1
    have ce : wu9.cell? ⟨B.b, 1, none⟩ = some (.int .i64 0) := by
      have h := A9.out.c1
      rw [show q7.skip.err = 0 from HE0.out] at h
      exact h
    have zb := A9.out.lt
    obtain ⟨D1, d1, rfl, _, _⟩ := SL.form (SL.of_own G9.out.r1)
    obtain ⟨D2, d2, rfl, _, _⟩ := SL.form (SL.of_own G9.out.r2)
    have zf := (Array.getElem?_eq_some_iff.1 G9.out.rf).1
    go_wp2_with (first | (refine wpList_load_box rfl 25 _ rfl rfl (load_box Tryd.underlying25 (by kernel_rfl) (by rfl) (by kernel_rfl) (fun j v hj => (cell_of_block G9.out.rf j).trans hj) zf (Below.refl _ _)) ?_) | (refine wpList_put_all (cells := #[.slice D1 lp.length d1, .slice D2 la.length d2, .slice A3 lb.length c3]) rfl 25 _ _ rfl rfl rfl R9.out rfl (by kernel_rfl) (by simp [Value.oneCell']) ?_; intro w3 hr3 hf3 hz3))
    have hl2 := load_whole Tryd.underlying25 (by kernel_rfl) (by rfl) (by kernel_rfl) hr3
    refine bodyPost_ret (v := .tuple #[.agg #[.slice D1 lp.length d1, .slice D2 la.length d2, .slice A3 lb.length c3], .int .i64 0]) (by simp [results, Tryd.results14, Sem.run_bind, asAddr, Act.put, hl2]) rfl ?_
    have hs9 := G9.out.fr.size
    have o1 := G9.out.r1.lt
    have o2 := G9.out.r2.lt
    refine ⟨_, _, _, by rw [HX.out], ?_, G9.out.fr.trans ⟨hf3.os, hf3.tape, hf3.output, hf3.size, fun k hk => hf3.block k (by omega) (by omega)⟩⟩
    rw [HX.out]
    refine ⟨SL.keep (K := fun k => k ≠ B.w0.heap.size) (SL.of_own G9.out.r1) (fun a n c e => ?_) (by omega) (fun k hk hkl => hf3.block k hkl hk), SL.keep (K := fun k => k ≠ B.w0.heap.size) (SL.of_own G9.out.r2) (fun a n c e => ?_) (by omega) (fun k hk hkl => hf3.block k hkl hk), ?_, fun a n c e => ⟨(o1 a.block (by rw [e]; rfl)).1, Nat.lt_of_lt_of_le (o1 a.block (by rw [e]; rfl)).2 hf3.size⟩, fun a n c e => ⟨(o2 a.block (by rw [e]; rfl)).1, Nat.lt_of_lt_of_le (o2 a.block (by rw [e]; rfl)).2 hf3.size⟩⟩
    · intro e2
      exact G9.out.b1 (by rw [e]; show some a.block = _; rw [e2])
    · intro e2
      exact G9.out.b2 (by rw [e]; show some a.block = _; rw [e2])
    · exact RStL.wide (fun k hk => ⟨hk.1, Nat.lt_of_lt_of_le hk.2.2.2 hf3.size⟩) 10 _ _ (RStL.keep (by omega) (fun k hk hkl => hf3.block k hkl hk.2.2.1) 10 _ _ G9.out.r3)
end Go.Proofs.YtpbflgemhcaooaaDoor
/- label.find: a name's place, the last one first. -/
namespace Go.Proofs.YtpbflgemhcaooaaDoor
open Go.RowKit Go.Shelf
set_option linter.unusedSimpArgs false
set_option linter.unusedVariables false
attribute [local go_sem] Oper.semAt_some
/-- a variable in a box -/
def PBox (W : World) (B : Nat) (p : Ev.Par) : Prop := W.heap[B]? = some (.cells #[.string ⟨p.name.toArray⟩, .bool p.secret, .int .i64 p.size] 35 (0, 0))
theorem pbox_own (B : Nat) (p : Ev.Par) : Own (fun (_ : Unit) W => PBox W B p) := fun s X Y row hs hg hrow =>
  (hg.block B (Array.getElem?_eq_some_iff.1 hs).1 (fun e' => by obtain ⟨o, ho, hc⟩ := hrow B e'.symm; rw [show X.heap[B]? = _ from hs] at ho; cases ho; cases hc)).trans hs
set_option maxRecDepth 100000 in
set_option maxHeartbeats 4000000 in
theorem find_in (F : Fence) (n : Nat) (h1 : F.fn 57) (h2 : F.fn 89) (h3 : F.fn 105) (hro : F.round = none) (hn : 3 ≤ n) (A : Option Addr) (cap : Nat) (l : List Ev.Par) (hreach : l.length * 32 ≤ 140737488351232) (nm : List UInt8) (w : World) (hI : l = [] ∨ ∃ b off, A = some ⟨b, off, none⟩ ∧ b < w.heap.size ∧ ParsAt w b off l) :
    CallsIn F n Tryd.prog 57 #[.slice A l.length cap, .string ⟨(nm).toArray⟩] w fun e W' => e = .returned (.int .i64 (Ev.nameI l nm)) ∧ Below w.heap.size w W' := by
  have hn1 : 1 ≤ n := by omega
  refine callsIn_of_wp_marks Tryd.func57 rfl h1 ?_ hro
  simp only [Tryd.ntmps57, List.size_toArray, List.length_cons, List.length_nil, Nat.reduceAdd, Nat.reduceSub, Array.replicate_succ, Array.replicate_zero, List.push_toArray, List.append_toArray, List.nil_append, List.cons_append]
  gi_wp2_with (gi_at_call 89; refine (back_in F (n - 1) h2 hro _ _ _ _).mono ?_; rintro e w' ⟨rfl, rfl⟩)
  have bM := ((Boxed.new w 9 (.string ⟨(nm).toArray⟩)).alloc (.cells #[.int .i64 0] 3)).alloc (.cells #[.slice A l.length cap] 22)
  have bR := (Boxed.new (w.alloc (.cells #[.string ⟨(nm).toArray⟩] 9)) 3 (.int .i64 0)).alloc (.cells #[.slice A l.length cap] 22)
  have bS := Boxed.new ((w.alloc (.cells #[.string ⟨(nm).toArray⟩] 9)).alloc (.cells #[.int .i64 0] 3)) 22 (.slice A l.length cap)
  simp only [World.size_alloc] at bR bS
  have hB0 : Below w.heap.size w (((w.alloc (.cells #[.string ⟨(nm).toArray⟩] 9)).alloc (.cells #[.int .i64 0] 3)).alloc (.cells #[.slice A l.length cap] 22)) := (((Below.refl _ w).alloc (Nat.le_refl _) _).alloc (by simp) _).alloc (by simp; omega) _
  have hsz : (((w.alloc (.cells #[.string ⟨(nm).toArray⟩] 9)).alloc (.cells #[.int .i64 0] 3)).alloc (.cells #[.slice A l.length cap] 22)).heap.size = w.heap.size + 3 := by simp
  obtain ⟨W0, hW0⟩ : ∃ W0, ((w.alloc (.cells #[.string ⟨(nm).toArray⟩] 9)).alloc (.cells #[.int .i64 0] 3)).alloc (.cells #[.slice A l.length cap] 22) = W0 := ⟨_, rfl⟩
  rw [hW0] at bM bR bS hB0 hsz ⊢
  clear hW0
  refine wpIn_rangeFunc_ownH hro hn1 (gf := 105) (lb := #[.pointer (some ⟨w.heap.size + 1 + 1, 0, none⟩)]) rfl h3 (enters_of Tryd.func105 (by kernel_rfl) rfl)
    (back_stops F (n - 1) h3 hro (by omega) (w.heap.size + 1 + 1) (w.heap.size + 3) A cap l hreach W0 (by omega) (by omega) bS.cell (hI.imp id (fun ⟨b, off, e, hb, hp⟩ => ⟨b, off, e, by omega, hp.below hB0 hb⟩))) belowK_t (belowK_b (by omega)) (Below.refl _ _) (fun _ => rfl)
    (fun pre W => (((∀ p ∈ pre, p.2.name ≠ nm) ∧ Boxed W w.heap.size 9 (.string ⟨(nm).toArray⟩)) ∧ Boxed W (w.heap.size + 1) 3 (.int .i64 0) ∧ Boxed W (w.heap.size + 1 + 1) 22 (.slice A l.length cap)) ∧ Below w.heap.size w W)
    (fun c pre W => (c = .ret ∧ ∃ ini last, pre = ini ++ [last] ∧ (∀ p ∈ ini, p.2.name ≠ nm) ∧ last.2.name = nm ∧ Boxed W (w.heap.size + 1) 3 (.int .i64 (last.1 : Int))) ∧ Below w.heap.size w W)
    (OwnFrom.and (OwnFrom.and (OwnFrom.and (fun s W W' row hs hg hr => hs) (Own.from (boxed_own _ _ (fun _ => (.string ⟨(nm).toArray⟩ : Value))) _)) (OwnFrom.and (Own.from (boxed_own _ _ (fun _ => (Value.int .i64 0 : Value))) _) (Own.from (boxed_own _ _ (fun _ => (Value.slice A l.length cap : Value))) _))) (ownFrom_below (Nat.le_refl _) (by omega)))
    (fun c => OwnFrom.and (Own.from (fun s X Y row hs hg hr => by obtain ⟨hc, ini, last, e1, e2, e3, e4⟩ := hs; exact ⟨hc, ini, last, e1, e2, e3, boxed_own (w.heap.size + 1) 3 (fun (_ : Unit) => Value.int .i64 (last.1 : Int)) () X Y row e4 hg hr⟩) _) (ownFrom_below (Nat.le_refl _) (by omega)))
    ⟨⟨⟨by simp, bM⟩, bR, bS⟩, hB0⟩
    (fun x a' W => ∃ Bx, w.heap.size + 1 + 1 < Bx ∧ PBox W Bx x.2 ∧ a' = { tmps := #[.slice A l.length cap, .string ⟨(nm).toArray⟩, undef, .pointer (some ⟨w.heap.size, 0, none⟩), .pointer (some ⟨w.heap.size + 1, 0, none⟩), .int .i64 (x.1 : Int), .pointer (some ⟨Bx, 0, none⟩), .slice A l.length cap, .func (.func 105) #[] #[.pointer (some ⟨w.heap.size + 1 + 1, 0, none⟩)], .int .i64 (x.1 : Int), parV x.2, undef, undef, undef, undef, undef], defers := [] })
    (fun x a' _ X Y row hs hg hr => by obtain ⟨Bx, e1, e2, e3⟩ := hs; exact ⟨Bx, e1, pbox_own Bx x.2 () X Y row e2 hg (fun r e => (hr r e).2), e3⟩)
    ?assign ?body ?done ?stop
  case assign =>
    rintro r pre x W K ⟨⟨⟨hp, bM1⟩, bR1, bS1⟩, hB1⟩ hK
    unfold parV at hK ⊢
    gi_wp2
    have hlt := bS1.lt
    exact hK _ _ ((KeepsOthers.alloc _ _).from _) ((Below.refl _ W).alloc (by omega) _) ⟨⟨⟨hp, bM1.alloc _⟩, bR1.alloc _, bS1.alloc _⟩, hB1.alloc hB1.size _⟩ ⟨W.heap.size, by omega, heap_alloc_new W _, rfl⟩
  case body =>
    rintro r pre x a' W hl ⟨r', hr⟩ ⟨⟨⟨hp, bM1⟩, bR1, bS1⟩, hB1⟩ ⟨Bx, hBx, bX, rfl⟩ hlt
    have cM := bM1.cell
    have cR := bR1.cell
    have fR := bR1.frozen
    have cX : W.cell? ⟨Bx, 0, none⟩ = some (.string ⟨x.2.name.toArray⟩) := cell_of_block bX 0
    by_cases hx : x.2.name = nm
    · rw [hx] at cX
      gi_wp2
      exact ⟨(KeepsOthers.setCell _ _ _).from _, ⟨rfl, pre, x, rfl, hp, hx, bR1.set _⟩, hB1.setCell (p := ⟨w.heap.size + 1, 0, none⟩) (by simp) _⟩
    · have gx : (x.2.name == nm) = false := beq_eq_false_iff_ne.2 hx
      gi_wp2
      exact ⟨KeepsFrom.refl _ _, Below.refl _ _, ⟨⟨fun p hp' => (List.mem_append.1 hp').elim (hp p) (fun e => by simp at e; subst e; exact hx), bM1⟩, bR1, bS1⟩, hB1⟩
  case done =>
    rintro D ys W hD rfl ⟨⟨⟨hp, bM1⟩, bR1, bS1⟩, hB1⟩ hK
    have cR := bR1.cell
    have fR := bR1.frozen
    gi_wp2
    have hK' := (KeepsOthers.setCell W ⟨w.heap.size + 1, 0, none⟩ (.int .i64 (-1))).same D _ hK rfl
    refine ⟨by simp, .inl ⟨_, _, rfl, run_takeDeferred hK', ?_⟩⟩
    have hc5 := cell_kept (World.cell?_setCell_same' W ⟨w.heap.size + 1, 0, none⟩ (.int .i64 (-1)) (by rw [cR]; rfl)) (grownBy_putObj' _ D (.deferred none)) (fun r e => by cases e; exact ⟨_, hK', rfl⟩)
    refine ⟨.int .i64 (-1), ?_, by rw [Ev.last_none l nm (fun j hj => hp _ (by simp only [Ev.uptoF, List.mem_map, List.mem_range]; exact ⟨j, hj, rfl⟩))], (hB1.setCell (p := ⟨w.heap.size + 1, 0, none⟩) (by simp) _).trans (belowK_b (w := w) (Nat.le_refl _) _ D _ _ (by omega) hK' rfl rfl)⟩
    simp [results, Tryd.f57, go_sem, hc5]
  case stop =>
    rintro D c pre W hD ⟨k, hk, rfl⟩ ⟨⟨rfl, ini, last, e1, e2, e3, bR1⟩, hB1⟩ hK
    have cR := bR1.cell
    gi_wp2
    refine ⟨by simp, .inl ⟨_, _, rfl, run_takeDeferred hK, ?_⟩⟩
    have hc5 := cell_kept cR (grownBy_putObj' _ D (.deferred none)) (fun r e => by cases e; exact ⟨_, hK, rfl⟩)
    obtain ⟨k', rfl⟩ : ∃ k', k = k' + 1 := by
      cases k with
      | zero => simp [Ev.uptoF] at e1
      | succ k' => exact ⟨k', rfl⟩
    rw [Ev.uptoF_succ] at e1
    obtain ⟨rfl, e5⟩ := List.append_inj' e1 rfl
    obtain rfl : Ev.backF l k' = last := by simpa using e5
    refine ⟨.int .i64 ((Ev.backF l k').1 : Int), ?_, by rw [Ev.last_some l nm k' (by omega) (fun j hj => e2 _ (by simp only [Ev.uptoF, List.mem_map, List.mem_range]; exact ⟨j, hj, rfl⟩)) e3], hB1.trans (belowK_b (w := w) (Nat.le_refl _) W D _ _ (by omega) hK rfl rfl)⟩
    simp [results, Tryd.f57, go_sem, hc5]
theorem RPars.at_ {w : World} {A : Option Addr} {len cap : Nat} {l : List Ev.Par} (h : RPars w (.slice A len cap) l) : len = l.length ∧ (l = [] ∨ ∃ b off, A = some ⟨b, off, none⟩ ∧ b < w.heap.size ∧ ParsAt w b off l) := by
  have hf := SL.form h
  obtain ⟨A', c', e, _, _⟩ := hf
  injection e with e1 e2 e3
  subst e2
  refine ⟨rfl, ?_⟩
  by_cases hl : l = []
  · exact .inl hl
  · right
    obtain ⟨b, o, c, e, hb, h1, h2, hc⟩ := SL.row h (by have := List.length_pos_iff.2 hl; omega)
    injection e with e4 _ _
    subst e4
    refine ⟨b, o, rfl, hb, fun j p hp => ?_⟩
    have hj := fun i u (hu : (cellsP p)[i]? = some u) => hc (j * 3 + i) u (flatMap_at cellsP (fun _ => rfl) l j _ i u hp hu)
    simp only [← Nat.add_assoc] at hj
    exact ⟨hj 0 _ rfl, hj 1 _ rfl, hj 2 _ rfl⟩
/-- label.find -/
theorem find_any (l : List Ev.Par) (v : Value) (nm : List UInt8) (w : World) (h : RPars w v l) (hreach : l.length * 32 ≤ 140737488351232) :
    Calls Tryd.prog 57 #[v, .string ⟨(nm).toArray⟩] w fun e W' => e = .returned (.int .i64 (Ev.nameI l nm)) ∧ Below w.heap.size w W' := by
  obtain ⟨A, c, rfl, _, _⟩ := SL.form h
  exact callsIn_wide.1 (find_in Fence.wide 3 trivial trivial trivial rfl (Nat.le_refl _) A c l hreach nm w (RPars.at_ h).2)
end Go.Proofs.YtpbflgemhcaooaaDoor
